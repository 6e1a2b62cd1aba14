/- The stream's Next and Below, walked: what they answer and what they leave as it was. No condition. -/
import Derived.Test.YtlaplgpnbbmbgaaDoorChecked
import Derived.Below
import Derived.Deep.Draws
import Derived.Tactics
import Derived.WalkKit
import Derived.KernelRfl
import Derived.RowKit3
import Derived.Deep.QuietTactic
import Derived.BigQuiet
import Derived.WideLaws
import Derived.IntWalk
import Derived.Deep.Heap
import Derived.Shelf.Strings.Builder1
import Derived.Shelf.Strings.Builder2
import Derived.Shelf.Strings.Trim
import Derived.Shelf.Strings.SlTrimAscii
import Derived.Shelf.Small.Utf8
import Derived.Shelf.Small.Strs
import Derived.Shelf.Small.Wraps
import Derived.Shelf.Strings.BuilderF
import Derived.Shelf.Strings.Search1
import Derived.Shelf.Strings.Search2
import Derived.Shelf.Strings.Search3
import Derived.Shelf.Strings.Cut
import Derived.Shelf.Strings.Count
import Derived.Shelf.LaysM
import Derived.Shelf.Strings.Shaped
import Derived.Shelf.Strings.Prefix
import Derived.Shelf.Strings.Split
import Derived.Shelf.Strings.Runes
import Derived.Shelf.Strings.RuneCount
import Derived.Shelf.Strings.AsciiSet
import Derived.Shelf.Bits.Mul64
import Derived.Shelf.Strings.Repeat
import Derived.Shelf.Unicode.DecodeSlow
import Derived.Shelf.Unicode.DecodeAny
import Derived.Shelf.Slices.Turned
import Derived.RangeFuncNested
import Derived.RangeFuncBox
import Derived.RangeFuncLeaves
import Derived.Shelf.Abstract
import Derived.OwnWalkIn
import Derived.TacticsInMore
import Derived.LoopNIn
import Derived.LoopIn
import Derived.Test.YtlaplgpnbbmbgaaDoorProg
import Derived.Laws.Strings
import Derived.Test.YtlaplgpnbbmbgaaDoorKQTCS1
import Derived.Test.YtlaplgpnbbmbgaaDoorKQTCS2
/- The stream's Next and Below, walked: what they answer and what they leave as it was. No condition. -/
set_option linter.unusedVariables false
set_option linter.unusedSimpArgs false
namespace Go.Avc
open Go Go.RowKit Go.Proofs Go.IntWalk

def belowF (x n : Int) : Int := if n < 1 then 0 else if x.tmod n < 0 then IntKind.i64.wrap (x.tmod n + n) else x.tmod n
set_option maxHeartbeats 8000000 in
set_option maxRecDepth 100000 in
theorem below_calls (a0 a1 : Int) (w : World) : Calls Tryd.prog 24 #[.int .i64 a0, .int .i64 a1] w fun e w' => e = .returned (.int .i64 (belowF a0 a1)) ∧ ∃ k, w' = w.drewN k := by
  unfold belowF
  by_cases c3 : a1 < 1
  · rw [if_pos c3]
    have c3b0 : decide (a1 < 1) = true := decide_eq_true c3
    go_enter Tryd.func24, Tryd.ntmps24
    go_wp2
    go_ret
    exact ⟨rfl, 0, rfl⟩
  · rw [if_neg c3]
    have c3b0 : decide (a1 < 1) = false := decide_eq_false c3
    have c4 : ¬ a1 = 0 := by omega
    have c4b0 : (a1 == 0) = false := beq_eq_false_iff_ne.mpr c4
    have c4b1 : (a1 != 0) = true := bne_iff_ne.mpr c4
    by_cases c5 : (Int.tmod a0 a1) < 0
    · rw [if_pos c5]
      have c5b0 : decide ((Int.tmod a0 a1) < 0) = true := decide_eq_true c5
      go_enter Tryd.func24, Tryd.ntmps24
      go_wp2
      go_ret
      exact ⟨by rw [i64_left]; rfl, 0, rfl⟩
    · rw [if_neg c5]
      have c5b0 : decide ((Int.tmod a0 a1) < 0) = false := decide_eq_false c5
      go_enter Tryd.func24, Tryd.ntmps24
      go_wp2
      go_ret
      exact ⟨rfl, 0, rfl⟩

set_option maxHeartbeats 8000000 in
set_option maxRecDepth 100000 in
theorem next_calls (w : World) (g : Nat) (A : Option Addr) (n c : Nat) (at0 m : Int) (hh : w.heap[g]? = some (.cells #[.slice A n c, .int .i64 at0] 25 (0, 0)))
    (h0 : 0 ≤ at0) (h1 : at0 < 4611686018427387904)
    (hA : ∀ j : Nat, j < n → ∃ a x, A = some a ∧ (a.add j).block ≠ g ∧ w.cell? (a.add j) = some (.int .i64 x)) : Calls Tryd.prog 8 #[.pointer (some ⟨g, 0, none⟩), .int .i64 m] w fun e w' => ∃ r k, e = .returned (.int .i64 (belowF r m)) ∧ w' = (w.setCell ⟨g, 1, none⟩ (.int .i64 (at0 + 1))).drewN k := by
  have hc0 : w.cell? ⟨g, 0, none⟩ = some (.slice A n c) := (cell_of_row w g 0 _ _ (0, 0) hh).trans rfl
  have hc1 : w.cell? ⟨g, 1, none⟩ = some (.int .i64 at0) := (cell_of_row w g 1 _ _ (0, 0) hh).trans rfl
  have hf1 : w.frozen? ⟨g, 1, none⟩ = false := by simp [World.frozen?, hh]
  have hw1 : wrap64 (at0 + 1) = at0 + 1 := wrap64_in _ (by omega)
  by_cases c3 : (n : Int) = 0
  · have c3b0 : ((n : Int) == 0) = true := beq_iff_eq.mpr c3
    have c3b1 : ((n : Int) != 0) = false := bne_eq_false_iff_eq.mpr c3
    go_enter Tryd.func8, Tryd.ntmps8
    go_wp2_with (go_at_call 24; (refine (below_calls _ _ _).mono ?_); rintro e w' ⟨rfl, nd, rfl⟩)
    go_ret
    exact ⟨_, _, rfl, rfl⟩
  · have c3b0 : ((n : Int) == 0) = false := beq_eq_false_iff_ne.mpr c3
    have c3b1 : ((n : Int) != 0) = true := bne_iff_ne.mpr c3
    have hw2 : wrap64 (at0 + 1 - 1) = at0 := (wrap64_in _ (by omega)).trans (by omega)
    have he : at0.tmod n = at0 % n := Int.tmod_eq_emod_of_nonneg h0
    have hp : 0 ≤ at0 % (n : Int) := Int.emod_nonneg _ (by omega)
    have hq : at0 % (n : Int) < (n : Int) := Int.emod_lt_of_pos _ (by omega)
    have hj : (at0 % (n : Int)).toNat < n := by omega
    obtain ⟨a, x, rfl, hne, hx⟩ := hA _ hj
    have hx1 : (w.setCell ⟨g, 1, none⟩ (.int .i64 (at0 + 1))).cell? (a.add (at0 % (n : Int)).toNat) = some (.int .i64 x) := (World.cell?_setCell_other w ⟨g, 1, none⟩ _ _ (fun e => hne (by rw [← e]))).trans hx
    have hx2 := fun (k : Nat) => (show ((w.drewN k).setCell ⟨g, 1, none⟩ (.int .i64 (at0 + 1))).cell? (a.add (at0 % (n : Int)).toNat) = some (.int .i64 x) from hx1)
    have hp' := eq_true hp
    have hq' := eq_true hq
    go_enter Tryd.func8, Tryd.ntmps8
    go_wp2_with (go_at_call 24; (refine (below_calls _ _ _).mono ?_); rintro e w' ⟨rfl, nd, rfl⟩)
    repeat (go_quiet (first | (go_at_call 24; (refine (below_calls _ _ _).mono ?_); rintro e w' ⟨rfl, nd, rfl⟩; exact ⟨rfl, _, rfl⟩)); try go_wp2_with (go_at_call 24; (refine (below_calls _ _ _).mono ?_); rintro e w' ⟨rfl, nd, rfl⟩))
    go_ret
    exact ⟨_, _, rfl, rfl⟩
end Go.Avc

/-
  DERIVED: THE SHELF's CONTRACTS AT THIS DUMP, IN PLAIN WORDS (tools/lay-plain.mjs out of 'TrydShelf.lean', which tools/lay-shelf.mjs wrote): THE SAME DECLARATIONS UNDER THE SAME NAMES: 'import', 'namespace', 'open', 'def', 'theorem' AND NOTHING ELSE: no command of the shelf's: FOR A HAND-IN. Each laying: the table of numbers ('.._ren') and one theorem, a field a fact of the dump's own or the kernel's comparison; each contract: ONE APPLICATION.
-/
namespace Go.Proofs
open Go.Shelf
def Tryd.lays170_ren : Go.Shelf.Ren := ⟨fun | 170 => 74 | n => n, fun | 70 => 100 | 3 => 3 | 0 => 0 | 72 => 102 | 37 => 83 | 5 => 5 | n => n, fun | n => n⟩
theorem Tryd.lays170 : Go.Proofs.Lays.n170 Tryd.prog Tryd.lays170_ren := {
  mixed := by kernel_rfl
  f170 := Tryd.func74.trans (congrArg some (by kernel_rfl))
  t0 := Tryd.underlying0
  a0 := Tryd.isAgg0
  z0 := Tryd.sizeOf0
  v0 := Tryd.zeroValue0
  t3 := Tryd.underlying3
  a3 := Tryd.isAgg3
  z3 := Tryd.sizeOf3
  v3 := Tryd.zeroValue3
  t37 := Tryd.underlying83
  a37 := Tryd.isAgg83
  z37 := Tryd.sizeOf83
  v37 := Tryd.zeroValue83
  t70 := Tryd.underlying100
  a70 := Tryd.isAgg100
  z70 := Tryd.sizeOf100
  v70 := Tryd.zeroValue100
  t72 := Tryd.underlying102
  a72 := Tryd.isAgg102
  z72 := Tryd.sizeOf102
  v72 := Tryd.zeroValue102 }
open Go.RowKit in
/-- (*strings.Builder).Len: "Len returns the number of accumulated bytes; b.Len() == len(b.String()).": the world is as it was. (LAID: no walk: one application.) -/
theorem Tryd.Builder_Len (B b : Nat) (bs : List Value) (w : World) (h : Lib.IsBuilder 102 5 B b bs w) :
    Calls Tryd.prog 74 #[.pointer (some ⟨b, 0, none⟩)] w fun e w' => e = .returned (.int .i64 bs.length) ∧ w' = w := Any.Builder_Len Tryd.lays170 B b bs w h
def Tryd.lays169_ren : Go.Shelf.Ren := ⟨fun | 169 => 75 | n => n, fun | 70 => 100 | 9 => 9 | 0 => 0 | 72 => 102 | 37 => 83 | 127 => 140 | 3 => 3 | 5 => 5 | n => n, fun | n => n⟩
theorem Tryd.lays169 : Go.Proofs.Lays.n169 Tryd.prog Tryd.lays169_ren := {
  mixed := by kernel_rfl
  f169 := Tryd.func75.trans (congrArg some (by kernel_rfl))
  t0 := Tryd.underlying0
  a0 := Tryd.isAgg0
  z0 := Tryd.sizeOf0
  v0 := Tryd.zeroValue0
  t3 := Tryd.underlying3
  a3 := Tryd.isAgg3
  z3 := Tryd.sizeOf3
  v3 := Tryd.zeroValue3
  t9 := Tryd.underlying9
  a9 := Tryd.isAgg9
  z9 := Tryd.sizeOf9
  v9 := Tryd.zeroValue9
  t37 := Tryd.underlying83
  a37 := Tryd.isAgg83
  z37 := Tryd.sizeOf83
  v37 := Tryd.zeroValue83
  t70 := Tryd.underlying100
  a70 := Tryd.isAgg100
  z70 := Tryd.sizeOf100
  v70 := Tryd.zeroValue100
  t72 := Tryd.underlying102
  a72 := Tryd.isAgg102
  z72 := Tryd.sizeOf102
  v72 := Tryd.zeroValue102
  t127 := Tryd.underlying140
  a127 := Tryd.isAgg140
  z127 := Tryd.sizeOf140
  v127 := Tryd.zeroValue140 }
theorem Tryd.Builder_Extra_169 : Builder.Extra Tryd.prog Tryd.lays169_ren := {
  sizeBuilder := by kernel_rfl
  liesBuilder := by kernel_rfl
  t5 := Tryd.underlying5
  a5 := Tryd.isAgg5
  z5 := Tryd.sizeOf5
  v5 := Tryd.zeroValue5
  infoByte := by kernel_rfl
  cellsByte := by kernel_rfl
  sizeByte := by kernel_rfl
  neB5 := by decide }
open Go.RowKit in
/-- (*strings.Builder).String: "String returns the accumulated string.": OF A BUILDER THAT HOLDS AT LEAST ONE BYTE. ✋ THE MODEL FREEZES THOSE BYTES IN THE BUFFER (unsafe.String): a later write INTO them ends the model's run without an answer; a later append BEHIND them goes on. The statement's order of evaluation is drawn: one draw. (LAID: no walk: one application.) -/
theorem Tryd.Builder_String (B b : Nat) (l : List UInt8) (w : World) (h : Lib.IsBuilder 102 5 B b (Lib.byteCells l) w) (h0 : l ≠ []) :
    Calls Tryd.prog 75 #[.pointer (some ⟨b, 0, none⟩)] w fun e w' => e = .returned (.string ⟨l.toArray⟩) ∧ Below B w w' := Any.Builder_String Tryd.lays169 Tryd.Builder_Extra_169 B b l w h h0
open Go.RowKit in
/-- (*strings.Builder).String OF A BUILDER THAT HOLDS NO BYTE: the empty string. (Its buffer is nil, or a row of which it has taken nothing yet; where that row has NO capacity the model lays one new block for unsafe.SliceData's 'some address'.) One draw. (LAID: no walk: one application.) -/
theorem Tryd.Builder_String_empty (B b : Nat) (w : World) (h : Lib.IsBuilder 102 5 B b [] w) (hBw : B ≤ w.heap.size) :
    Calls Tryd.prog 75 #[.pointer (some ⟨b, 0, none⟩)] w fun e w' => e = .returned (.string ⟨#[]⟩) ∧ Below B w w' := Any.Builder_String_empty Tryd.lays169 Tryd.Builder_Extra_169 B b w h hBw
open Go.RowKit in
/-- (*strings.Builder).String: "String returns the accumulated string.": WHATEVER THE BUILDER HOLDS. (LAID: no walk: one application.) -/
theorem Tryd.Builder_String_any (B b : Nat) (l : List UInt8) (w : World) (h : Lib.IsBuilder 102 5 B b (Lib.byteCells l) w) (hBw : B ≤ w.heap.size) :
    Calls Tryd.prog 75 #[.pointer (some ⟨b, 0, none⟩)] w fun e w' => e = .returned (.string ⟨l.toArray⟩) ∧ Below B w w' := Any.Builder_String_any Tryd.lays169 Tryd.Builder_Extra_169 B b l w h hBw
def Tryd.lays241_ren : Go.Shelf.Ren := ⟨fun | 241 => 116 | 277 => 137 | n => n, fun | 70 => 100 | 3 => 3 | 0 => 0 | 72 => 102 | 37 => 83 | 5 => 5 | n => n, fun | n => n⟩
theorem Tryd.lays241 : Go.Proofs.Lays.n241 Tryd.prog Tryd.lays241_ren := {
  mixed := by kernel_rfl
  f241 := Tryd.func116.trans (congrArg some (by kernel_rfl))
  f277 := Tryd.func137.trans (congrArg some (by kernel_rfl))
  t0 := Tryd.underlying0
  a0 := Tryd.isAgg0
  z0 := Tryd.sizeOf0
  v0 := Tryd.zeroValue0
  t3 := Tryd.underlying3
  a3 := Tryd.isAgg3
  z3 := Tryd.sizeOf3
  v3 := Tryd.zeroValue3
  t37 := Tryd.underlying83
  a37 := Tryd.isAgg83
  z37 := Tryd.sizeOf83
  v37 := Tryd.zeroValue83
  t70 := Tryd.underlying100
  a70 := Tryd.isAgg100
  z70 := Tryd.sizeOf100
  v70 := Tryd.zeroValue100
  t72 := Tryd.underlying102
  a72 := Tryd.isAgg102
  z72 := Tryd.sizeOf102
  v72 := Tryd.zeroValue102 }
theorem Tryd.Builder_Extra_241 : Builder.Extra Tryd.prog Tryd.lays241_ren := {
  sizeBuilder := by kernel_rfl
  liesBuilder := by kernel_rfl
  t5 := Tryd.underlying5
  a5 := Tryd.isAgg5
  z5 := Tryd.sizeOf5
  v5 := Tryd.zeroValue5
  infoByte := by kernel_rfl
  cellsByte := by kernel_rfl
  sizeByte := by kernel_rfl
  neB5 := by decide }
open Go.RowKit in
/-- (*strings.Builder).grow (no doc but "grow copies the buffer to a new, larger buffer so that there are at least n bytes of capacity beyond len(b.buf)."): AT A BUILDER WITHOUT A BUFFER: a new row of whatever bytes for its buffer, none of them its own yet. Three draws. (LAID: no walk: one application.) -/
theorem Tryd.Builder_grow_fresh (B b n : Nat) (w : World) (hB : B ≤ b) (hbk : w.heap[b]? = some (.cells #[.pointer (some ⟨b, 0, none⟩), .slice none 0 0] 102 (0, 0))) (hBw : B ≤ w.heap.size) (hn : n ≤ 281474976710656) :
    Calls Tryd.prog 116 #[.pointer (some ⟨b, 0, none⟩), .int .i64 n] w fun e w' => e = .returned (.tuple #[]) ∧ (Lib.BuilderAt 102 5 B b (.pointer (some ⟨b, 0, none⟩)) [] w' ∧ Below B w w') := Any.Builder_grow_fresh Tryd.lays241 Tryd.Builder_Extra_241 B b n w hB hbk hBw hn
def Tryd.lays165_ren : Go.Shelf.Ren := ⟨fun | 165 => 72 | 240 => 115 | 241 => 116 | 276 => 136 | 277 => 137 | n => n, fun | 70 => 100 | 3 => 3 | 0 => 0 | 4 => 4 | 9 => 9 | 20 => 20 | 72 => 102 | 37 => 83 | 164 => 151 | 5 => 5 | n => n, fun | n => n⟩
theorem Tryd.lays165 : Go.Proofs.Lays.n165 Tryd.prog Tryd.lays165_ren := {
  mixed := by kernel_rfl
  f165 := Tryd.func72.trans (congrArg some (by kernel_rfl))
  f240 := Tryd.func115.trans (congrArg some (by kernel_rfl))
  f241 := Tryd.func116.trans (congrArg some (by kernel_rfl))
  f276 := Tryd.func136.trans (congrArg some (by kernel_rfl))
  f277 := Tryd.func137.trans (congrArg some (by kernel_rfl))
  t0 := Tryd.underlying0
  a0 := Tryd.isAgg0
  z0 := Tryd.sizeOf0
  v0 := Tryd.zeroValue0
  t3 := Tryd.underlying3
  a3 := Tryd.isAgg3
  z3 := Tryd.sizeOf3
  v3 := Tryd.zeroValue3
  t4 := Tryd.underlying4
  a4 := Tryd.isAgg4
  z4 := Tryd.sizeOf4
  v4 := Tryd.zeroValue4
  t9 := Tryd.underlying9
  a9 := Tryd.isAgg9
  z9 := Tryd.sizeOf9
  v9 := Tryd.zeroValue9
  t20 := Tryd.underlying20
  a20 := Tryd.isAgg20
  z20 := Tryd.sizeOf20
  v20 := Tryd.zeroValue20
  t37 := Tryd.underlying83
  a37 := Tryd.isAgg83
  z37 := Tryd.sizeOf83
  v37 := Tryd.zeroValue83
  t70 := Tryd.underlying100
  a70 := Tryd.isAgg100
  z70 := Tryd.sizeOf100
  v70 := Tryd.zeroValue100
  t72 := Tryd.underlying102
  a72 := Tryd.isAgg102
  z72 := Tryd.sizeOf102
  v72 := Tryd.zeroValue102
  t164 := Tryd.underlying151
  a164 := Tryd.isAgg151
  z164 := Tryd.sizeOf151
  v164 := Tryd.zeroValue151 }
theorem Tryd.Builder_Extra_165 : Builder.Extra Tryd.prog Tryd.lays165_ren := {
  sizeBuilder := by kernel_rfl
  liesBuilder := by kernel_rfl
  t5 := Tryd.underlying5
  a5 := Tryd.isAgg5
  z5 := Tryd.sizeOf5
  v5 := Tryd.zeroValue5
  infoByte := by kernel_rfl
  cellsByte := by kernel_rfl
  sizeByte := by kernel_rfl
  neB5 := by decide }
open Go.RowKit in
/-- (*strings.Builder).Grow AT A BUILDER THAT HAS NOT BEEN WRITTEN ('var b strings.Builder; b.Grow(n)'): "Grow grows b's capacity, if necessary, to guarantee space for another n bytes.": it holds no byte behind it as before it. (LAID: no walk: one application.) -/
theorem Tryd.Builder_Grow_fresh (B b n : Nat) (w : World) (hB : B ≤ b) (hbk : w.heap[b]? = some (.cells #[.pointer none, .slice none 0 0] 102 (0, 0))) (hBw : B ≤ w.heap.size) (hn : n ≤ 281474976710656) :
    Calls Tryd.prog 72 #[.pointer (some ⟨b, 0, none⟩), .int .i64 n] w fun e w' => e = .returned (.tuple #[]) ∧ (Lib.BuilderAt 102 5 B b (.pointer (some ⟨b, 0, none⟩)) [] w' ∧ Below B w w') := Any.Builder_Grow_fresh Tryd.lays165 Tryd.Builder_Extra_165 B b n w hB hbk hBw hn
def Tryd.lays231_ren : Go.Shelf.Ren := ⟨fun | 231 => 76 | n => n, fun | 9 => 9 | 5 => 5 | 3 => 3 | 4 => 4 | n => n, fun | n => n⟩
theorem Tryd.lays231 : Go.Proofs.Lays.n231 Tryd.prog Tryd.lays231_ren := {
  mixed := by kernel_rfl
  f231 := Tryd.func76.trans (congrArg some (by kernel_rfl))
  t3 := Tryd.underlying3
  a3 := Tryd.isAgg3
  z3 := Tryd.sizeOf3
  v3 := Tryd.zeroValue3
  t4 := Tryd.underlying4
  a4 := Tryd.isAgg4
  z4 := Tryd.sizeOf4
  v4 := Tryd.zeroValue4
  t5 := Tryd.underlying5
  a5 := Tryd.isAgg5
  z5 := Tryd.sizeOf5
  v5 := Tryd.zeroValue5
  t9 := Tryd.underlying9
  a9 := Tryd.isAgg9
  z9 := Tryd.sizeOf9
  v9 := Tryd.zeroValue9 }
open Go.RowKit in
/-- strings.trimLeftByte (no doc; what TrimLeft and Trim call at a cutset of one ASCII byte): the leading bytes that are c are cut off. The world is as it was. (LAID: no walk: one application.) -/
theorem Tryd.strings_trimLeftByte (s : ByteArray) (c : UInt8) (w : World) :
    Calls Tryd.prog 76 #[.string s, .int .u8 c.toNat] w fun e w' => e = .returned (.string ⟨(Lib.trimLeftB s.data.toList c).toArray⟩) ∧ w' = w := Any.strings_trimLeftByte Tryd.lays231 s c w
def Tryd.lays232_ren : Go.Shelf.Ren := ⟨fun | 232 => 77 | n => n, fun | 9 => 9 | 5 => 5 | 3 => 3 | 4 => 4 | n => n, fun | n => n⟩
theorem Tryd.lays232 : Go.Proofs.Lays.n232 Tryd.prog Tryd.lays232_ren := {
  mixed := by kernel_rfl
  f232 := Tryd.func77.trans (congrArg some (by kernel_rfl))
  t3 := Tryd.underlying3
  a3 := Tryd.isAgg3
  z3 := Tryd.sizeOf3
  v3 := Tryd.zeroValue3
  t4 := Tryd.underlying4
  a4 := Tryd.isAgg4
  z4 := Tryd.sizeOf4
  v4 := Tryd.zeroValue4
  t5 := Tryd.underlying5
  a5 := Tryd.isAgg5
  z5 := Tryd.sizeOf5
  v5 := Tryd.zeroValue5
  t9 := Tryd.underlying9
  a9 := Tryd.isAgg9
  z9 := Tryd.sizeOf9
  v9 := Tryd.zeroValue9 }
open Go.RowKit in
/-- strings.trimRightByte (no doc; what TrimRight and Trim call at a cutset of one ASCII byte): the trailing bytes that are c are cut off. The world is as it was. ('hs': a string's length is a number that an int holds.) (LAID: no walk: one application.) -/
theorem Tryd.strings_trimRightByte (s : ByteArray) (c : UInt8) (w : World) (hs : s.size ≤ 9223372036854775807) :
    Calls Tryd.prog 77 #[.string s, .int .u8 c.toNat] w fun e w' => e = .returned (.string ⟨(Lib.trimRightB s.data.toList c).toArray⟩) ∧ w' = w := Any.strings_trimRightByte Tryd.lays232 s c w hs
def Tryd.lays160_ren : Go.Shelf.Ren := ⟨fun | 160 => 40 | 232 => 77 | 231 => 76 | 227 => 78 | 234 => 80 | 233 => 79 | 236 => 82 | 235 => 81 | 228 => 117 | 271 => 119 | 151 => 95 | 197 => 118 | 120 => 139 | 152 => 126 | 260 => 138 | 137 => 49 | 119 => 142 | 224 => 143 | 225 => 144 | 217 => 91 | 266 => 125 | n => n, fun | 9 => 9 | 4 => 4 | 3 => 3 | 5 => 5 | 117 => 113 | 116 => 112 | 0 => 0 | 124 => 116 | 21 => 21 | 105 => 141 | 46 => 97 | 119 => 155 | 139 => 158 | 138 => 157 | n => n, fun | 3 => 1 | 4 => 2 | n => n⟩
theorem Tryd.lays160 : Go.Proofs.Lays.n160 Tryd.prog Tryd.lays160_ren := {
  mixed := by kernel_rfl
  f119 := Tryd.func142.trans (congrArg some (by kernel_rfl))
  f120 := Tryd.func139.trans (congrArg some (by kernel_rfl))
  f137 := Tryd.func49.trans (congrArg some (by kernel_rfl))
  f151 := Tryd.func95.trans (congrArg some (by kernel_rfl))
  f152 := Tryd.func126.trans (congrArg some (by kernel_rfl))
  f160 := Tryd.func40.trans (congrArg some (by kernel_rfl))
  f197 := Tryd.func118.trans (congrArg some (by kernel_rfl))
  f217 := Tryd.func91.trans (congrArg some (by kernel_rfl))
  f224 := Tryd.func143.trans (congrArg some (by kernel_rfl))
  f225 := Tryd.func144.trans (congrArg some (by kernel_rfl))
  f227 := Tryd.func78.trans (congrArg some (by kernel_rfl))
  f228 := Tryd.func117.trans (congrArg some (by kernel_rfl))
  f231 := Tryd.func76.trans (congrArg some (by kernel_rfl))
  f232 := Tryd.func77.trans (congrArg some (by kernel_rfl))
  f233 := Tryd.func79.trans (congrArg some (by kernel_rfl))
  f234 := Tryd.func80.trans (congrArg some (by kernel_rfl))
  f235 := Tryd.func81.trans (congrArg some (by kernel_rfl))
  f236 := Tryd.func82.trans (congrArg some (by kernel_rfl))
  f260 := Tryd.func138.trans (congrArg some (by kernel_rfl))
  f266 := Tryd.func125.trans (congrArg some (by kernel_rfl))
  f271 := Tryd.func119.trans (congrArg some (by kernel_rfl))
  t0 := Tryd.underlying0
  a0 := Tryd.isAgg0
  z0 := Tryd.sizeOf0
  v0 := Tryd.zeroValue0
  t3 := Tryd.underlying3
  a3 := Tryd.isAgg3
  z3 := Tryd.sizeOf3
  v3 := Tryd.zeroValue3
  t4 := Tryd.underlying4
  a4 := Tryd.isAgg4
  z4 := Tryd.sizeOf4
  v4 := Tryd.zeroValue4
  t5 := Tryd.underlying5
  a5 := Tryd.isAgg5
  z5 := Tryd.sizeOf5
  v5 := Tryd.zeroValue5
  t9 := Tryd.underlying9
  a9 := Tryd.isAgg9
  z9 := Tryd.sizeOf9
  v9 := Tryd.zeroValue9
  t21 := Tryd.underlying21
  a21 := Tryd.isAgg21
  z21 := Tryd.sizeOf21
  v21 := Tryd.zeroValue21
  t46 := Tryd.underlying97
  a46 := Tryd.isAgg97
  z46 := Tryd.sizeOf97
  v46 := Tryd.zeroValue97
  t105 := Tryd.underlying141
  a105 := Tryd.isAgg141
  z105 := Tryd.sizeOf141
  v105 := Tryd.zeroValue141
  t116 := Tryd.underlying112
  a116 := Tryd.isAgg112
  z116 := Tryd.sizeOf112
  t117 := Tryd.underlying113
  a117 := Tryd.isAgg113
  z117 := Tryd.sizeOf113
  v117 := Tryd.zeroValue113
  t119 := Tryd.underlying155
  a119 := Tryd.isAgg155
  z119 := Tryd.sizeOf155
  t124 := Tryd.underlying116
  a124 := Tryd.isAgg116
  z124 := Tryd.sizeOf116
  v124 := Tryd.zeroValue116
  t138 := Tryd.underlying157
  a138 := Tryd.isAgg157
  z138 := Tryd.sizeOf157
  v138 := Tryd.zeroValue157
  t139 := Tryd.underlying158
  a139 := Tryd.isAgg158
  z139 := Tryd.sizeOf158
  v139 := Tryd.zeroValue158
  g3 := by kernel_rfl
  g4 := by kernel_rfl }
open Go.RowKit in
/-- strings.Trim: "Trim returns a slice of the string s with all leading and trailing Unicode code points contained in cutset removed.": AT A cutset OF ONE ASCII BYTE. THE WORLD BEHIND IT: as it was, or (where s is not empty) with ONE DRAW MORE off the tape: the statement 'return trimLeftByte(trimRightByte(s, c), c)' draws its order of evaluation. (LAID: no walk: one application.) -/
theorem Tryd.strings_Trim_one (s : ByteArray) (c : UInt8) (hc : c.toNat < 128) (w : World) (hs : s.size ≤ 9223372036854775807) :
    Calls Tryd.prog 40 #[.string s, .string ⟨#[c]⟩] w fun e w' => e = .returned (.string ⟨(Lib.trimB s.data.toList c).toArray⟩) ∧ (w' = w ∨ w' = w.drew) := Any.strings_Trim_one Tryd.lays160 s c hc w hs
def Tryd.lays119_ren : Go.Shelf.Ren := ⟨fun | 119 => 142 | n => n, fun | 21 => 21 | 4 => 4 | n => n, fun | n => n⟩
theorem Tryd.lays119 : Go.Proofs.Lays.n119 Tryd.prog Tryd.lays119_ren := {
  mixed := by kernel_rfl
  f119 := Tryd.func142.trans (congrArg some (by kernel_rfl))
  t4 := Tryd.underlying4
  a4 := Tryd.isAgg4
  z4 := Tryd.sizeOf4
  v4 := Tryd.zeroValue4
  t21 := Tryd.underlying21
  a21 := Tryd.isAgg21
  z21 := Tryd.sizeOf21
  v21 := Tryd.zeroValue21 }
/-- utf8.ValidRune: "ValidRune reports whether r can be legally encoded as UTF-8. Code points that are out of range or a surrogate half are illegal.": IT RETURNS 'Lib.validRune r'; the world is as it was. (LAID: no walk: one application.) -/
theorem Tryd.utf8_ValidRune (r : Int) (w : World) :
    Calls Tryd.prog 142 #[.int .i32 r] w fun e w' => e = .returned (.bool (Lib.validRune r)) ∧ w' = w := Any.utf8_ValidRune Tryd.lays119 r w
def Tryd.lays120_ren : Go.Shelf.Ren := ⟨fun | 120 => 139 | n => n, fun | 5 => 5 | 4 => 4 | n => n, fun | n => n⟩
theorem Tryd.lays120 : Go.Proofs.Lays.n120 Tryd.prog Tryd.lays120_ren := {
  mixed := by kernel_rfl
  f120 := Tryd.func139.trans (congrArg some (by kernel_rfl))
  t4 := Tryd.underlying4
  a4 := Tryd.isAgg4
  z4 := Tryd.sizeOf4
  v4 := Tryd.zeroValue4
  t5 := Tryd.underlying5
  a5 := Tryd.isAgg5
  z5 := Tryd.sizeOf5
  v5 := Tryd.zeroValue5 }
/-- utf8.RuneStart: "RuneStart reports whether the byte could be the first byte of an encoded, possibly invalid rune. Second and subsequent bytes always have the top two bits set to 10.": IT RETURNS 'Lib.runeStart b'; the world is as it was. ('h0', 'h1': b is a byte: a caller has it of every byte that it was handed.) (LAID: no walk: one application.) -/
theorem Tryd.utf8_RuneStart (b : Int) (w : World) (h0 : 0 ≤ b) (h1 : b < 256) :
    Calls Tryd.prog 139 #[.int .u8 b] w fun e w' => e = .returned (.bool (Lib.runeStart b)) ∧ w' = w := Any.utf8_RuneStart Tryd.lays120 b w h0 h1
def Tryd.lays137_ren : Go.Shelf.Ren := ⟨fun | 137 => 49 | 217 => 91 | 266 => 125 | n => n, fun | 9 => 9 | 5 => 5 | 3 => 3 | n => n, fun | n => n⟩
theorem Tryd.lays137 : Go.Proofs.Lays.n137 Tryd.prog Tryd.lays137_ren := {
  mixed := by kernel_rfl
  f137 := Tryd.func49.trans (congrArg some (by kernel_rfl))
  f217 := Tryd.func91.trans (congrArg some (by kernel_rfl))
  f266 := Tryd.func125.trans (congrArg some (by kernel_rfl))
  t3 := Tryd.underlying3
  a3 := Tryd.isAgg3
  z3 := Tryd.sizeOf3
  v3 := Tryd.zeroValue3
  t5 := Tryd.underlying5
  a5 := Tryd.isAgg5
  z5 := Tryd.sizeOf5
  v5 := Tryd.zeroValue5
  t9 := Tryd.underlying9
  a9 := Tryd.isAgg9
  z9 := Tryd.sizeOf9
  v9 := Tryd.zeroValue9 }
open Go.RowKit in
/-- strings.IndexByte: "IndexByte returns the index of the first instance of c in s, or -1 if c is not present in s.": IT RETURNS 'Lib.indexByte s c'; the world is as it was. (LAID: no walk: one application.) -/
theorem Tryd.strings_IndexByte (s : ByteArray) (c : Int) (w : World) :
    Calls Tryd.prog 49 #[.string s, .int .u8 c] w fun e w' => e = .returned (.int .i64 (Lib.indexByte s.data.toList c.toNat.toUInt8)) ∧ w' = w := Any.strings_IndexByte Tryd.lays137 s c w
def Tryd.lays210_ren : Go.Shelf.Ren := ⟨fun | 210 => 96 | 206 => 97 | n => n, fun | 9 => 9 | 4 => 4 | 3 => 3 | n => n, fun | n => n⟩
theorem Tryd.lays210 : Go.Proofs.Lays.n210 Tryd.prog Tryd.lays210_ren := {
  mixed := by kernel_rfl
  f206 := Tryd.func97.trans (congrArg some (by kernel_rfl))
  f210 := Tryd.func96.trans (congrArg some (by kernel_rfl))
  t3 := Tryd.underlying3
  a3 := Tryd.isAgg3
  z3 := Tryd.sizeOf3
  v3 := Tryd.zeroValue3
  t4 := Tryd.underlying4
  a4 := Tryd.isAgg4
  z4 := Tryd.sizeOf4
  v4 := Tryd.zeroValue4
  t9 := Tryd.underlying9
  a9 := Tryd.isAgg9
  z9 := Tryd.sizeOf9
  v9 := Tryd.zeroValue9 }
open Go.RowKit in
/-- internal/stringslite.CutPrefix (what strings.CutPrefix calls). (LAID: no walk: one application.) -/
theorem Tryd.stringslite_CutPrefix (s p : ByteArray) (w : World) :
    Calls Tryd.prog 96 #[.string s, .string p] w fun e w' => e = .returned (.tuple #[.string ⟨(Lib.trimPrefix s.data.toList p.data.toList).toArray⟩, .bool (Lib.hasPrefix s.data.toList p.data.toList)]) ∧ w' = w := Any.stringslite_CutPrefix Tryd.lays210 s p w
def Tryd.lays103_ren : Go.Shelf.Ren := ⟨fun | 103 => 51 | 210 => 96 | 206 => 97 | n => n, fun | 9 => 9 | 4 => 4 | 24 => 85 | 3 => 3 | n => n, fun | n => n⟩
theorem Tryd.lays103 : Go.Proofs.Lays.n103 Tryd.prog Tryd.lays103_ren := {
  mixed := by kernel_rfl
  f103 := Tryd.func51.trans (congrArg some (by kernel_rfl))
  f206 := Tryd.func97.trans (congrArg some (by kernel_rfl))
  f210 := Tryd.func96.trans (congrArg some (by kernel_rfl))
  t3 := Tryd.underlying3
  a3 := Tryd.isAgg3
  z3 := Tryd.sizeOf3
  v3 := Tryd.zeroValue3
  t4 := Tryd.underlying4
  a4 := Tryd.isAgg4
  z4 := Tryd.sizeOf4
  v4 := Tryd.zeroValue4
  t9 := Tryd.underlying9
  a9 := Tryd.isAgg9
  z9 := Tryd.sizeOf9
  v9 := Tryd.zeroValue9
  t24 := Tryd.underlying85
  a24 := Tryd.isAgg85
  z24 := Tryd.sizeOf85
  v24 := Tryd.zeroValue85 }
open Go.RowKit in
/-- strings.CutPrefix: "CutPrefix returns s without the provided leading prefix string and reports whether it found the prefix. If s doesn't start with prefix, CutPrefix returns s, false. If prefix is the empty string, CutPrefix returns s, true.": IT RETURNS '(Lib.trimPrefix s p, Lib.hasPrefix s p)'; the world is as it was. (LAID: no walk: one application.) -/
theorem Tryd.strings_CutPrefix (s p : ByteArray) (w : World) :
    Calls Tryd.prog 51 #[.string s, .string p] w fun e w' => e = .returned (.tuple #[.string ⟨(Lib.trimPrefix s.data.toList p.data.toList).toArray⟩, .bool (Lib.hasPrefix s.data.toList p.data.toList)]) ∧ w' = w := Any.strings_CutPrefix Tryd.lays103 s p w
open Go.RowKit in
/-- (*strings.Builder).Len: "Len returns the number of accumulated bytes; b.Len() == len(b.String()).": the world is as it was. (THE FORM '_f': 'Lib.IsBuilderF'.) (LAID: no walk: one application.) -/
theorem Tryd.Builder_Len_f (B b : Nat) (bs : List Value) (w : World) (h : Lib.IsBuilderF 102 5 B b bs w) :
    Calls Tryd.prog 74 #[.pointer (some ⟨b, 0, none⟩)] w fun e w' => e = .returned (.int .i64 bs.length) ∧ w' = w := Any.Builder_Len_f Tryd.lays170 B b bs w h
open Go.RowKit in
/-- (*strings.Builder).String: "String returns the accumulated string.": OF A BUILDER THAT HOLDS AT LEAST ONE BYTE. ✋ THE MODEL FREEZES THOSE BYTES IN THE BUFFER (unsafe.String): a later write INTO them ends the model's run without an answer; a later append BEHIND them goes on. The statement's order of evaluation is drawn: one draw. THE FORM '_f': IT SAYS BESIDES THAT THE BUILDER IS A BUILDER STILL ('Lib.IsBuilderF', the same bytes): SO IT CAN BE WRITTEN ON: 'b.WriteString(b.String()[:k])'. (LAID: no walk: one application.) -/
theorem Tryd.Builder_String_f (B b : Nat) (l : List UInt8) (w : World) (h : Lib.IsBuilderF 102 5 B b (Lib.byteCells l) w) (h0 : l ≠ []) :
    Calls Tryd.prog 75 #[.pointer (some ⟨b, 0, none⟩)] w fun e w' => e = .returned (.string ⟨l.toArray⟩) ∧ (Lib.IsBuilderF 102 5 B b (Lib.byteCells l) w' ∧ Below B w w') := Any.Builder_String_f Tryd.lays169 Tryd.Builder_Extra_169 B b l w h h0
open Go.RowKit in
/-- (*strings.Builder).String OF A BUILDER THAT HOLDS NO BYTE: the empty string; THE FORM '_f': a builder still. (LAID: no walk: one application.) -/
theorem Tryd.Builder_String_empty_f (B b : Nat) (w : World) (h : Lib.IsBuilderF 102 5 B b [] w) (hBw : B ≤ w.heap.size) :
    Calls Tryd.prog 75 #[.pointer (some ⟨b, 0, none⟩)] w fun e w' => e = .returned (.string ⟨#[]⟩) ∧ (Lib.IsBuilderF 102 5 B b [] w' ∧ Below B w w') := Any.Builder_String_empty_f Tryd.lays169 Tryd.Builder_Extra_169 B b w h hBw
open Go.RowKit in
/-- (*strings.Builder).String: "String returns the accumulated string.": WHATEVER THE BUILDER HOLDS; THE FORM '_f': OF A BUILDER THAT MAY HAVE BEEN READ BEFORE; AND IT IS A BUILDER STILL, holding the same bytes: it can be written on. (LAID: no walk: one application.) -/
theorem Tryd.Builder_String_any_f (B b : Nat) (l : List UInt8) (w : World) (h : Lib.IsBuilderF 102 5 B b (Lib.byteCells l) w) (hBw : B ≤ w.heap.size) :
    Calls Tryd.prog 75 #[.pointer (some ⟨b, 0, none⟩)] w fun e w' => e = .returned (.string ⟨l.toArray⟩) ∧ (Lib.IsBuilderF 102 5 B b (Lib.byteCells l) w' ∧ Below B w w') := Any.Builder_String_any_f Tryd.lays169 Tryd.Builder_Extra_169 B b l w h hBw
def Tryd.lays217_ren : Go.Shelf.Ren := ⟨fun | 217 => 91 | 266 => 125 | n => n, fun | 9 => 9 | 5 => 5 | 3 => 3 | n => n, fun | n => n⟩
theorem Tryd.lays217 : Go.Proofs.Lays.n217 Tryd.prog Tryd.lays217_ren := {
  mixed := by kernel_rfl
  f217 := Tryd.func91.trans (congrArg some (by kernel_rfl))
  f266 := Tryd.func125.trans (congrArg some (by kernel_rfl))
  t3 := Tryd.underlying3
  a3 := Tryd.isAgg3
  z3 := Tryd.sizeOf3
  v3 := Tryd.zeroValue3
  t5 := Tryd.underlying5
  a5 := Tryd.isAgg5
  z5 := Tryd.sizeOf5
  v5 := Tryd.zeroValue5
  t9 := Tryd.underlying9
  a9 := Tryd.isAgg9
  z9 := Tryd.sizeOf9
  v9 := Tryd.zeroValue9 }
open Go.RowKit Go.Lib in
/-- internal/stringslite.IndexByte (what strings.IndexByte calls): IT RETURNS 'Lib.indexByte s c'; the world is as it was. (LAID: no walk: one application.) -/
theorem Tryd.stringslite_IndexByte (s : ByteArray) (c : Int) (w : World) :
    Calls Tryd.prog 91 #[.string s, .int .u8 c] w fun e w' => e = .returned (.int .i64 (Lib.indexByte s.data.toList c.toNat.toUInt8)) ∧ w' = w := Any.stringslite_IndexByte Tryd.lays217 s c w
def Tryd.lays224_ren : Go.Shelf.Ren := ⟨fun | 224 => 143 | n => n, fun | 3 => 3 | n => n, fun | n => n⟩
theorem Tryd.lays224 : Go.Proofs.Lays.n224 Tryd.prog Tryd.lays224_ren := {
  mixed := by kernel_rfl
  f224 := Tryd.func143.trans (congrArg some (by kernel_rfl))
  t3 := Tryd.underlying3
  a3 := Tryd.isAgg3
  z3 := Tryd.sizeOf3
  v3 := Tryd.zeroValue3 }
open Go.RowKit Go.Lib in
/-- internal/bytealg.Cutover: "Cutover reports the number of failures of IndexByte we should tolerate before switching over to Index. n is the number of bytes processed so far.": on amd64: (n + 16) / 8. (LAID: no walk: one application.) -/
theorem Tryd.bytealg_Cutover (n : Int) (h0 : 0 ≤ n) (h1 : n < 4611686018427387904) (w : World) :
    Calls Tryd.prog 143 #[.int .i64 n] w fun e w' => e = .returned (.int .i64 ((n + 16) / 8)) ∧ w' = w := Any.bytealg_Cutover Tryd.lays224 n h0 h1 w
def Tryd.lays314_ren : Go.Shelf.Ren := ⟨fun | 314 => 150 | n => n, fun | 9 => 9 | 51 => 134 | 3 => 3 | 4 => 4 | 5 => 5 | 46 => 97 | n => n, fun | n => n⟩
theorem Tryd.lays314 : Go.Proofs.Lays.n314 Tryd.prog Tryd.lays314_ren := {
  mixed := by kernel_rfl
  f314 := Tryd.func150.trans (congrArg some (by kernel_rfl))
  t3 := Tryd.underlying3
  a3 := Tryd.isAgg3
  z3 := Tryd.sizeOf3
  v3 := Tryd.zeroValue3
  t4 := Tryd.underlying4
  a4 := Tryd.isAgg4
  z4 := Tryd.sizeOf4
  v4 := Tryd.zeroValue4
  t5 := Tryd.underlying5
  a5 := Tryd.isAgg5
  z5 := Tryd.sizeOf5
  v5 := Tryd.zeroValue5
  t9 := Tryd.underlying9
  a9 := Tryd.isAgg9
  z9 := Tryd.sizeOf9
  v9 := Tryd.zeroValue9
  t46 := Tryd.underlying97
  a46 := Tryd.isAgg97
  z46 := Tryd.sizeOf97
  v46 := Tryd.zeroValue97
  t51 := Tryd.underlying134
  a51 := Tryd.isAgg134
  z51 := Tryd.sizeOf134
  v51 := Tryd.zeroValue134 }
open Go.RowKit Go.Lib in
/-- hashStr: "returns the hash and the appropriate multiplicative factor for use in Rabin-Karp algorithm": THE HASH OF ALL OF sep, AND 16777619 ^ len(sep), both in uint32. (LAID: no walk: one application.) -/
theorem Tryd.bytealg_hashStr (sep : ByteArray) (hs : sep.size < 4294967281) (w : World) :
    Calls Tryd.prog 150 #[.string sep] w fun e w' => e = .returned (.tuple #[.int .u32 (RK.H sep.data.toList % 4294967296), .int .u32 (16777619 ^ sep.size % 4294967296)]) ∧ w' = w := Any.bytealg_hashStr Tryd.lays314 sep hs w
def Tryd.lays267_ren : Go.Shelf.Ren := ⟨fun | 267 => 147 | 314 => 150 | n => n, fun | 9 => 9 | 3 => 3 | 146 => 135 | 51 => 134 | 4 => 4 | 5 => 5 | 46 => 97 | n => n, fun | n => n⟩
theorem Tryd.lays267 : Go.Proofs.Lays.n267 Tryd.prog Tryd.lays267_ren := {
  mixed := by kernel_rfl
  f267 := Tryd.func147.trans (congrArg some (by kernel_rfl))
  f314 := Tryd.func150.trans (congrArg some (by kernel_rfl))
  t3 := Tryd.underlying3
  a3 := Tryd.isAgg3
  z3 := Tryd.sizeOf3
  v3 := Tryd.zeroValue3
  t4 := Tryd.underlying4
  a4 := Tryd.isAgg4
  z4 := Tryd.sizeOf4
  v4 := Tryd.zeroValue4
  t5 := Tryd.underlying5
  a5 := Tryd.isAgg5
  z5 := Tryd.sizeOf5
  v5 := Tryd.zeroValue5
  t9 := Tryd.underlying9
  a9 := Tryd.isAgg9
  z9 := Tryd.sizeOf9
  v9 := Tryd.zeroValue9
  t46 := Tryd.underlying97
  a46 := Tryd.isAgg97
  z46 := Tryd.sizeOf97
  v46 := Tryd.zeroValue97
  t51 := Tryd.underlying134
  a51 := Tryd.isAgg134
  z51 := Tryd.sizeOf134
  v51 := Tryd.zeroValue134
  t146 := Tryd.underlying135
  a146 := Tryd.isAgg135
  z146 := Tryd.sizeOf135
  v146 := Tryd.zeroValue135 }
open Go.RowKit Go.Lib in
theorem Tryd.bytealg_IndexRabinKarp (s sep : ByteArray) (h1 : 1 ≤ sep.size) (h2 : sep.size ≤ s.size) (hs : s.size < 4294967281) (w : World) :
    Calls Tryd.prog 147 #[.string s, .string sep] w fun e w' => e = .returned (.int .i64 (Lib.index s.data.toList sep.data.toList)) ∧ w' = w := Any.bytealg_IndexRabinKarp Tryd.lays267 s sep h1 h2 hs w
def Tryd.lays219_ren : Go.Shelf.Ren := ⟨fun | 219 => 140 | 217 => 91 | 225 => 144 | 224 => 143 | 267 => 147 | 266 => 125 | 314 => 150 | n => n, fun | 9 => 9 | 3 => 3 | 4 => 4 | 5 => 5 | 46 => 97 | 146 => 135 | 51 => 134 | n => n, fun | 1 => 0 | n => n⟩
theorem Tryd.lays219 : Go.Proofs.Lays.n219 Tryd.prog Tryd.lays219_ren := {
  mixed := by kernel_rfl
  f217 := Tryd.func91.trans (congrArg some (by kernel_rfl))
  f219 := Tryd.func140.trans (congrArg some (by kernel_rfl))
  f224 := Tryd.func143.trans (congrArg some (by kernel_rfl))
  f225 := Tryd.func144.trans (congrArg some (by kernel_rfl))
  f266 := Tryd.func125.trans (congrArg some (by kernel_rfl))
  f267 := Tryd.func147.trans (congrArg some (by kernel_rfl))
  f314 := Tryd.func150.trans (congrArg some (by kernel_rfl))
  t3 := Tryd.underlying3
  a3 := Tryd.isAgg3
  z3 := Tryd.sizeOf3
  v3 := Tryd.zeroValue3
  t4 := Tryd.underlying4
  a4 := Tryd.isAgg4
  z4 := Tryd.sizeOf4
  v4 := Tryd.zeroValue4
  t5 := Tryd.underlying5
  a5 := Tryd.isAgg5
  z5 := Tryd.sizeOf5
  v5 := Tryd.zeroValue5
  t9 := Tryd.underlying9
  a9 := Tryd.isAgg9
  z9 := Tryd.sizeOf9
  v9 := Tryd.zeroValue9
  t46 := Tryd.underlying97
  a46 := Tryd.isAgg97
  z46 := Tryd.sizeOf97
  v46 := Tryd.zeroValue97
  t51 := Tryd.underlying134
  a51 := Tryd.isAgg134
  z51 := Tryd.sizeOf134
  v51 := Tryd.zeroValue134
  t146 := Tryd.underlying135
  a146 := Tryd.isAgg135
  z146 := Tryd.sizeOf135
  v146 := Tryd.zeroValue135
  g1 := by kernel_rfl }
open Go.RowKit Go.Lib in
/-- internal/stringslite.Index (what strings.Index calls) AT A substr OF ONE BYTE c: IT RETURNS 'Lib.indexByte s c'; the world is as it was. (LAID: no walk: one application.) -/
theorem Tryd.stringslite_Index_one (s : ByteArray) (c : UInt8) (w : World) :
    Calls Tryd.prog 140 #[.string s, .string ⟨#[c]⟩] w fun e w' => e = .returned (.int .i64 (Lib.indexByte s.data.toList c)) ∧ w' = w := Any.stringslite_Index_one Tryd.lays219 s c w
open Go.RowKit Go.Lib in
/-- internal/stringslite.Index (what strings.Index calls) AT A substr OF WHATEVER LENGTH: IT RETURNS 'Lib.index s substr'; the world is as it was. 'm': what internal/bytealg.MaxLen holds: whatever. (LAID: no walk: one application.) -/
theorem Tryd.stringslite_Index (s sub : ByteArray) (m : Int) (w : World) (hs : s.size < 4294967281) (hm : w.cell? ⟨0, 0, none⟩ = some (.int .i64 m)) :
    Calls Tryd.prog 140 #[.string s, .string sub] w fun e w' => e = .returned (.int .i64 (Lib.index s.data.toList sub.data.toList)) ∧ w' = w := Any.stringslite_Index Tryd.lays219 s sub m w hs hm
def Tryd.lays143_ren : Go.Shelf.Ren := ⟨fun | 143 => 128 | 219 => 140 | 217 => 91 | 225 => 144 | 224 => 143 | 267 => 147 | 266 => 125 | 314 => 150 | n => n, fun | 9 => 9 | 3 => 3 | 4 => 4 | 5 => 5 | 46 => 97 | 146 => 135 | 51 => 134 | n => n, fun | 1 => 0 | n => n⟩
theorem Tryd.lays143 : Go.Proofs.Lays.n143 Tryd.prog Tryd.lays143_ren := {
  mixed := by kernel_rfl
  f143 := Tryd.func128.trans (congrArg some (by kernel_rfl))
  f217 := Tryd.func91.trans (congrArg some (by kernel_rfl))
  f219 := Tryd.func140.trans (congrArg some (by kernel_rfl))
  f224 := Tryd.func143.trans (congrArg some (by kernel_rfl))
  f225 := Tryd.func144.trans (congrArg some (by kernel_rfl))
  f266 := Tryd.func125.trans (congrArg some (by kernel_rfl))
  f267 := Tryd.func147.trans (congrArg some (by kernel_rfl))
  f314 := Tryd.func150.trans (congrArg some (by kernel_rfl))
  t3 := Tryd.underlying3
  a3 := Tryd.isAgg3
  z3 := Tryd.sizeOf3
  v3 := Tryd.zeroValue3
  t4 := Tryd.underlying4
  a4 := Tryd.isAgg4
  z4 := Tryd.sizeOf4
  v4 := Tryd.zeroValue4
  t5 := Tryd.underlying5
  a5 := Tryd.isAgg5
  z5 := Tryd.sizeOf5
  v5 := Tryd.zeroValue5
  t9 := Tryd.underlying9
  a9 := Tryd.isAgg9
  z9 := Tryd.sizeOf9
  v9 := Tryd.zeroValue9
  t46 := Tryd.underlying97
  a46 := Tryd.isAgg97
  z46 := Tryd.sizeOf97
  v46 := Tryd.zeroValue97
  t51 := Tryd.underlying134
  a51 := Tryd.isAgg134
  z51 := Tryd.sizeOf134
  v51 := Tryd.zeroValue134
  t146 := Tryd.underlying135
  a146 := Tryd.isAgg135
  z146 := Tryd.sizeOf135
  v146 := Tryd.zeroValue135
  g1 := by kernel_rfl }
open Go.RowKit Go.Lib in
/-- strings.Index: "Index returns the index of the first instance of substr in s, or -1 if substr is not present in s.": AT A substr OF ONE BYTE c: IT RETURNS 'Lib.indexByte s c'; the world is as it was. (LAID: no walk: one application.) -/
theorem Tryd.strings_Index_one (s : ByteArray) (c : UInt8) (w : World) :
    Calls Tryd.prog 128 #[.string s, .string ⟨#[c]⟩] w fun e w' => e = .returned (.int .i64 (Lib.indexByte s.data.toList c)) ∧ w' = w := Any.strings_Index_one Tryd.lays143 s c w
open Go.RowKit Go.Lib in
/-- strings.Index: "Index returns the index of the first instance of substr in s, or -1 if substr is not present in s.": IT RETURNS 'Lib.index s substr'; the world is as it was. (LAID: no walk: one application.) -/
theorem Tryd.strings_Index (s sub : ByteArray) (m : Int) (w : World) (hs : s.size < 4294967281) (hm : w.cell? ⟨0, 0, none⟩ = some (.int .i64 m)) :
    Calls Tryd.prog 128 #[.string s, .string sub] w fun e w' => e = .returned (.int .i64 (Lib.index s.data.toList sub.data.toList)) ∧ w' = w := Any.strings_Index Tryd.lays143 s sub m w hs hm
def Tryd.lays144_ren : Go.Shelf.Ren := ⟨fun | 144 => 99 | 143 => 128 | 219 => 140 | 217 => 91 | 225 => 144 | 224 => 143 | 267 => 147 | 266 => 125 | 314 => 150 | n => n, fun | 9 => 9 | 4 => 4 | 3 => 3 | 5 => 5 | 46 => 97 | 146 => 135 | 51 => 134 | n => n, fun | 1 => 0 | n => n⟩
theorem Tryd.lays144 : Go.Proofs.Lays.n144 Tryd.prog Tryd.lays144_ren := {
  mixed := by kernel_rfl
  f143 := Tryd.func128.trans (congrArg some (by kernel_rfl))
  f144 := Tryd.func99.trans (congrArg some (by kernel_rfl))
  f217 := Tryd.func91.trans (congrArg some (by kernel_rfl))
  f219 := Tryd.func140.trans (congrArg some (by kernel_rfl))
  f224 := Tryd.func143.trans (congrArg some (by kernel_rfl))
  f225 := Tryd.func144.trans (congrArg some (by kernel_rfl))
  f266 := Tryd.func125.trans (congrArg some (by kernel_rfl))
  f267 := Tryd.func147.trans (congrArg some (by kernel_rfl))
  f314 := Tryd.func150.trans (congrArg some (by kernel_rfl))
  t3 := Tryd.underlying3
  a3 := Tryd.isAgg3
  z3 := Tryd.sizeOf3
  v3 := Tryd.zeroValue3
  t4 := Tryd.underlying4
  a4 := Tryd.isAgg4
  z4 := Tryd.sizeOf4
  v4 := Tryd.zeroValue4
  t5 := Tryd.underlying5
  a5 := Tryd.isAgg5
  z5 := Tryd.sizeOf5
  v5 := Tryd.zeroValue5
  t9 := Tryd.underlying9
  a9 := Tryd.isAgg9
  z9 := Tryd.sizeOf9
  v9 := Tryd.zeroValue9
  t46 := Tryd.underlying97
  a46 := Tryd.isAgg97
  z46 := Tryd.sizeOf97
  v46 := Tryd.zeroValue97
  t51 := Tryd.underlying134
  a51 := Tryd.isAgg134
  z51 := Tryd.sizeOf134
  v51 := Tryd.zeroValue134
  t146 := Tryd.underlying135
  a146 := Tryd.isAgg135
  z146 := Tryd.sizeOf135
  v146 := Tryd.zeroValue135
  g1 := by kernel_rfl }
open Go.RowKit Go.Lib in
/-- strings.Contains: "Contains reports whether substr is within s.": AT A substr OF ONE BYTE c: IT RETURNS 'decide (0 ≤ Lib.indexByte s c)'; the world is as it was. (LAID: no walk: one application.) -/
theorem Tryd.strings_Contains_one (s : ByteArray) (c : UInt8) (w : World) :
    Calls Tryd.prog 99 #[.string s, .string ⟨#[c]⟩] w fun e w' => e = .returned (.bool (decide (0 ≤ Lib.indexByte s.data.toList c))) ∧ w' = w := Any.strings_Contains_one Tryd.lays144 s c w
open Go.RowKit Go.Lib in
/-- strings.Contains: "Contains reports whether substr is within s.": IT RETURNS 'Lib.contains s substr'; the world is as it was. (LAID: no walk: one application.) -/
theorem Tryd.strings_Contains (s sub : ByteArray) (m : Int) (w : World) (hs : s.size < 4294967281) (hm : w.cell? ⟨0, 0, none⟩ = some (.int .i64 m)) :
    Calls Tryd.prog 99 #[.string s, .string sub] w fun e w' => e = .returned (.bool (Lib.contains s.data.toList sub.data.toList)) ∧ w' = w := Any.strings_Contains Tryd.lays144 s sub m w hs hm
def Tryd.lays220_ren : Go.Shelf.Ren := ⟨fun | 220 => 120 | 219 => 140 | 217 => 91 | 225 => 144 | 224 => 143 | 267 => 147 | 266 => 125 | 314 => 150 | n => n, fun | 9 => 9 | 4 => 4 | 3 => 3 | 5 => 5 | 46 => 97 | 146 => 135 | 51 => 134 | n => n, fun | 1 => 0 | n => n⟩
theorem Tryd.lays220 : Go.Proofs.Lays.n220 Tryd.prog Tryd.lays220_ren := {
  mixed := by kernel_rfl
  f217 := Tryd.func91.trans (congrArg some (by kernel_rfl))
  f219 := Tryd.func140.trans (congrArg some (by kernel_rfl))
  f220 := Tryd.func120.trans (congrArg some (by kernel_rfl))
  f224 := Tryd.func143.trans (congrArg some (by kernel_rfl))
  f225 := Tryd.func144.trans (congrArg some (by kernel_rfl))
  f266 := Tryd.func125.trans (congrArg some (by kernel_rfl))
  f267 := Tryd.func147.trans (congrArg some (by kernel_rfl))
  f314 := Tryd.func150.trans (congrArg some (by kernel_rfl))
  t3 := Tryd.underlying3
  a3 := Tryd.isAgg3
  z3 := Tryd.sizeOf3
  v3 := Tryd.zeroValue3
  t4 := Tryd.underlying4
  a4 := Tryd.isAgg4
  z4 := Tryd.sizeOf4
  v4 := Tryd.zeroValue4
  t5 := Tryd.underlying5
  a5 := Tryd.isAgg5
  z5 := Tryd.sizeOf5
  v5 := Tryd.zeroValue5
  t9 := Tryd.underlying9
  a9 := Tryd.isAgg9
  z9 := Tryd.sizeOf9
  v9 := Tryd.zeroValue9
  t46 := Tryd.underlying97
  a46 := Tryd.isAgg97
  z46 := Tryd.sizeOf97
  v46 := Tryd.zeroValue97
  t51 := Tryd.underlying134
  a51 := Tryd.isAgg134
  z51 := Tryd.sizeOf134
  v51 := Tryd.zeroValue134
  t146 := Tryd.underlying135
  a146 := Tryd.isAgg135
  z146 := Tryd.sizeOf135
  v146 := Tryd.zeroValue135
  g1 := by kernel_rfl }
open Go.RowKit Go.Lib in
/-- internal/stringslite.Cut (what strings.Cut calls): IT RETURNS 'Lib.cut s sep'; the world is as it was but for the count of draws. (LAID: no walk: one application.) -/
theorem Tryd.stringslite_Cut (s sep : ByteArray) (m : Int) (w : World) (hs : s.size < 4294967281) (hm : w.cell? ⟨0, 0, none⟩ = some (.int .i64 m)) :
    Calls Tryd.prog 120 #[.string s, .string sep] w fun e w' => e = .returned (.tuple #[.string ⟨(Lib.cut s.data.toList sep.data.toList).1.toArray⟩, .string ⟨(Lib.cut s.data.toList sep.data.toList).2.1.toArray⟩, .bool (Lib.cut s.data.toList sep.data.toList).2.2]) ∧ ∃ n, w' = w.drewN n := Any.stringslite_Cut Tryd.lays220 s sep m w hs hm
def Tryd.lays145_ren : Go.Shelf.Ren := ⟨fun | 145 => 83 | 220 => 120 | 219 => 140 | 217 => 91 | 225 => 144 | 224 => 143 | 267 => 147 | 266 => 125 | 314 => 150 | n => n, fun | 9 => 9 | 4 => 4 | 59 => 117 | 3 => 3 | 5 => 5 | 46 => 97 | 146 => 135 | 51 => 134 | n => n, fun | 1 => 0 | n => n⟩
theorem Tryd.lays145 : Go.Proofs.Lays.n145 Tryd.prog Tryd.lays145_ren := {
  mixed := by kernel_rfl
  f145 := Tryd.func83.trans (congrArg some (by kernel_rfl))
  f217 := Tryd.func91.trans (congrArg some (by kernel_rfl))
  f219 := Tryd.func140.trans (congrArg some (by kernel_rfl))
  f220 := Tryd.func120.trans (congrArg some (by kernel_rfl))
  f224 := Tryd.func143.trans (congrArg some (by kernel_rfl))
  f225 := Tryd.func144.trans (congrArg some (by kernel_rfl))
  f266 := Tryd.func125.trans (congrArg some (by kernel_rfl))
  f267 := Tryd.func147.trans (congrArg some (by kernel_rfl))
  f314 := Tryd.func150.trans (congrArg some (by kernel_rfl))
  t3 := Tryd.underlying3
  a3 := Tryd.isAgg3
  z3 := Tryd.sizeOf3
  v3 := Tryd.zeroValue3
  t4 := Tryd.underlying4
  a4 := Tryd.isAgg4
  z4 := Tryd.sizeOf4
  v4 := Tryd.zeroValue4
  t5 := Tryd.underlying5
  a5 := Tryd.isAgg5
  z5 := Tryd.sizeOf5
  v5 := Tryd.zeroValue5
  t9 := Tryd.underlying9
  a9 := Tryd.isAgg9
  z9 := Tryd.sizeOf9
  v9 := Tryd.zeroValue9
  t46 := Tryd.underlying97
  a46 := Tryd.isAgg97
  z46 := Tryd.sizeOf97
  v46 := Tryd.zeroValue97
  t51 := Tryd.underlying134
  a51 := Tryd.isAgg134
  z51 := Tryd.sizeOf134
  v51 := Tryd.zeroValue134
  t59 := Tryd.underlying117
  a59 := Tryd.isAgg117
  z59 := Tryd.sizeOf117
  v59 := Tryd.zeroValue117
  t146 := Tryd.underlying135
  a146 := Tryd.isAgg135
  z146 := Tryd.sizeOf135
  v146 := Tryd.zeroValue135
  g1 := by kernel_rfl }
open Go.RowKit Go.Lib in
/-- strings.Cut: "Cut slices s around the first instance of sep, returning the text before and after sep. The found result reports whether sep appears in s. If sep does not appear in s, cut returns s, "", false.": IT RETURNS 'Lib.cut s sep'; the world is as it was but for the count of draws. (LAID: no walk: one application.) -/
theorem Tryd.strings_Cut (s sep : ByteArray) (m : Int) (w : World) (hs : s.size < 4294967281) (hm : w.cell? ⟨0, 0, none⟩ = some (.int .i64 m)) :
    Calls Tryd.prog 83 #[.string s, .string sep] w fun e w' => e = .returned (.tuple #[.string ⟨(Lib.cut s.data.toList sep.data.toList).1.toArray⟩, .string ⟨(Lib.cut s.data.toList sep.data.toList).2.1.toArray⟩, .bool (Lib.cut s.data.toList sep.data.toList).2.2]) ∧ ∃ n, w' = w.drewN n := Any.strings_Cut Tryd.lays145 s sep m w hs hm
def Tryd.lays138_ren : Go.Shelf.Ren := ⟨fun | 138 => 146 | 195 => 148 | 218 => 149 | 143 => 128 | 219 => 140 | 217 => 91 | 225 => 144 | 224 => 143 | 267 => 147 | 266 => 125 | 314 => 150 | n => n, fun | 9 => 9 | 3 => 3 | 4 => 4 | 5 => 5 | 0 => 0 | 46 => 97 | 146 => 135 | 51 => 134 | n => n, fun | 1 => 0 | n => n⟩
theorem Tryd.lays138 : Go.Proofs.Lays.n138 Tryd.prog Tryd.lays138_ren := {
  mixed := by kernel_rfl
  f138 := Tryd.func146.trans (congrArg some (by kernel_rfl))
  f143 := Tryd.func128.trans (congrArg some (by kernel_rfl))
  f195 := Tryd.func148.trans (congrArg some (by kernel_rfl))
  f217 := Tryd.func91.trans (congrArg some (by kernel_rfl))
  f218 := Tryd.func149.trans (congrArg some (by kernel_rfl))
  f219 := Tryd.func140.trans (congrArg some (by kernel_rfl))
  f224 := Tryd.func143.trans (congrArg some (by kernel_rfl))
  f225 := Tryd.func144.trans (congrArg some (by kernel_rfl))
  f266 := Tryd.func125.trans (congrArg some (by kernel_rfl))
  f267 := Tryd.func147.trans (congrArg some (by kernel_rfl))
  f314 := Tryd.func150.trans (congrArg some (by kernel_rfl))
  t0 := Tryd.underlying0
  a0 := Tryd.isAgg0
  z0 := Tryd.sizeOf0
  v0 := Tryd.zeroValue0
  t3 := Tryd.underlying3
  a3 := Tryd.isAgg3
  z3 := Tryd.sizeOf3
  v3 := Tryd.zeroValue3
  t4 := Tryd.underlying4
  a4 := Tryd.isAgg4
  z4 := Tryd.sizeOf4
  v4 := Tryd.zeroValue4
  t5 := Tryd.underlying5
  a5 := Tryd.isAgg5
  z5 := Tryd.sizeOf5
  v5 := Tryd.zeroValue5
  t9 := Tryd.underlying9
  a9 := Tryd.isAgg9
  z9 := Tryd.sizeOf9
  v9 := Tryd.zeroValue9
  t46 := Tryd.underlying97
  a46 := Tryd.isAgg97
  z46 := Tryd.sizeOf97
  v46 := Tryd.zeroValue97
  t51 := Tryd.underlying134
  a51 := Tryd.isAgg134
  z51 := Tryd.sizeOf134
  v51 := Tryd.zeroValue134
  t146 := Tryd.underlying135
  a146 := Tryd.isAgg135
  z146 := Tryd.sizeOf135
  v146 := Tryd.zeroValue135
  g1 := by kernel_rfl }
open Go.RowKit Go.Lib in
/-- strings.Count AT A substr OF ONE BYTE ('hp'): "Count counts the number of non-overlapping instances of substr in s.": IT RETURNS 'Lib.countByte s (that byte)'; the world is as it was. ✋ NO CONTRACT HERE YET at an empty substr (utf8.RuneCountInString) or at a longer one (a loop over strings.Index). (LAID: no walk: one application.) -/
theorem Tryd.strings_Count_one (s : ByteArray) (c : UInt8) (w : World) :
    Calls Tryd.prog 146 #[.string s, .string ⟨#[c]⟩] w fun e w' => e = .returned (.int .i64 (Lib.countByte s.data.toList c)) ∧ w' = w := Any.strings_Count_one Tryd.lays138 s c w
open Go.RowKit Go.Lib in
/-- strings.Count AT A substr OF TWO BYTES OR MORE: "Count counts the number of non-overlapping instances of substr in s.": IT RETURNS 'Lib.count s substr'; the world is as it was. (LAID: no walk: one application.) -/
theorem Tryd.strings_Count (s sub : ByteArray) (m : Int) (w : World) (hs : s.size < 4294967281) (hm : w.cell? ⟨0, 0, none⟩ = some (.int .i64 m)) (h2 : 2 ≤ sub.size) :
    Calls Tryd.prog 146 #[.string s, .string sub] w fun e w' => e = .returned (.int .i64 (Lib.countB s sub)) ∧ w' = w := Any.strings_Count Tryd.lays138 s sub m w hs hm h2
def Tryd.laysM219_ren : Go.Shelf.Ren := ⟨fun | 219 => 140 | 217 => 91 | 225 => 144 | 224 => 143 | 267 => 147 | 266 => 125 | 314 => 150 | n => n, fun | 9 => 9 | 3 => 3 | 4 => 4 | 5 => 5 | 46 => 97 | 146 => 135 | 51 => 134 | n => n, fun | 1 => 0 | n => n⟩
theorem Tryd.laysM219 : Go.Proofs.LaysM.n219 Tryd.prog Tryd.laysM219_ren := {
  mixed := by kernel_rfl
  f217 := Tryd.func91.trans (congrArg some (by kernel_rfl))
  f219 := Tryd.func140.trans (congrArg some (by kernel_rfl))
  f224 := Tryd.func143.trans (congrArg some (by kernel_rfl))
  f225 := Tryd.func144.trans (congrArg some (by kernel_rfl))
  f266 := Tryd.func125.trans (congrArg some (by kernel_rfl))
  f267 := Tryd.func147.trans (congrArg some (by kernel_rfl))
  f314 := Tryd.func150.trans (congrArg some (by kernel_rfl))
  t3 := Tryd.underlying3
  a3 := Tryd.isAgg3
  z3 := Tryd.sizeOf3
  v3 := Tryd.zeroValue3
  t4 := Tryd.underlying4
  a4 := Tryd.isAgg4
  z4 := Tryd.sizeOf4
  v4 := Tryd.zeroValue4
  t5 := Tryd.underlying5
  a5 := Tryd.isAgg5
  z5 := Tryd.sizeOf5
  v5 := Tryd.zeroValue5
  t9 := Tryd.underlying9
  a9 := Tryd.isAgg9
  z9 := Tryd.sizeOf9
  v9 := Tryd.zeroValue9
  t46 := Tryd.underlying97
  a46 := Tryd.isAgg97
  z46 := Tryd.sizeOf97
  v46 := Tryd.zeroValue97
  t51 := Tryd.underlying134
  a51 := Tryd.isAgg134
  z51 := Tryd.sizeOf134
  v51 := Tryd.zeroValue134
  t146 := Tryd.underlying135
  a146 := Tryd.isAgg135
  z146 := Tryd.sizeOf135
  v146 := Tryd.zeroValue135
  g1 := by kernel_rfl
  i3 := by kernel_rfl
  i4 := by kernel_rfl
  i5 := by kernel_rfl
  i9 := by kernel_rfl
  i46 := by kernel_rfl
  i51 := by kernel_rfl
  i146 := by kernel_rfl
  m1 := by kernel_rfl
  s1_3 := fun w h => Go.Proofs.cell_of_shapedOpen_int (zero := #[.int .i64 0]) (t := 3) h (of_decide_eq_true (by kernel_rfl)) (by kernel_rfl) rfl (by kernel_rfl) (by kernel_rfl) Tryd.underlying3 }
open Go.RowKit Go.Lib in
theorem Tryd.stringslite_Index_shaped (s sub : ByteArray) (w : World) (h : w.ShapedOpen Tryd.prog) (hs : s.size < 4294967281) :
    Calls Tryd.prog 140 #[.string s, .string sub] w fun e w' => e = .returned (.int .i64 (Lib.index s.data.toList sub.data.toList)) ∧ w' = w := Any.stringslite_Index_shaped Tryd.laysM219 s sub w h hs
def Tryd.laysM143_ren : Go.Shelf.Ren := ⟨fun | 143 => 128 | 219 => 140 | 217 => 91 | 225 => 144 | 224 => 143 | 267 => 147 | 266 => 125 | 314 => 150 | n => n, fun | 9 => 9 | 3 => 3 | 4 => 4 | 5 => 5 | 46 => 97 | 146 => 135 | 51 => 134 | n => n, fun | 1 => 0 | n => n⟩
theorem Tryd.laysM143 : Go.Proofs.LaysM.n143 Tryd.prog Tryd.laysM143_ren := {
  mixed := by kernel_rfl
  f143 := Tryd.func128.trans (congrArg some (by kernel_rfl))
  f217 := Tryd.func91.trans (congrArg some (by kernel_rfl))
  f219 := Tryd.func140.trans (congrArg some (by kernel_rfl))
  f224 := Tryd.func143.trans (congrArg some (by kernel_rfl))
  f225 := Tryd.func144.trans (congrArg some (by kernel_rfl))
  f266 := Tryd.func125.trans (congrArg some (by kernel_rfl))
  f267 := Tryd.func147.trans (congrArg some (by kernel_rfl))
  f314 := Tryd.func150.trans (congrArg some (by kernel_rfl))
  t3 := Tryd.underlying3
  a3 := Tryd.isAgg3
  z3 := Tryd.sizeOf3
  v3 := Tryd.zeroValue3
  t4 := Tryd.underlying4
  a4 := Tryd.isAgg4
  z4 := Tryd.sizeOf4
  v4 := Tryd.zeroValue4
  t5 := Tryd.underlying5
  a5 := Tryd.isAgg5
  z5 := Tryd.sizeOf5
  v5 := Tryd.zeroValue5
  t9 := Tryd.underlying9
  a9 := Tryd.isAgg9
  z9 := Tryd.sizeOf9
  v9 := Tryd.zeroValue9
  t46 := Tryd.underlying97
  a46 := Tryd.isAgg97
  z46 := Tryd.sizeOf97
  v46 := Tryd.zeroValue97
  t51 := Tryd.underlying134
  a51 := Tryd.isAgg134
  z51 := Tryd.sizeOf134
  v51 := Tryd.zeroValue134
  t146 := Tryd.underlying135
  a146 := Tryd.isAgg135
  z146 := Tryd.sizeOf135
  v146 := Tryd.zeroValue135
  g1 := by kernel_rfl
  i3 := by kernel_rfl
  i4 := by kernel_rfl
  i5 := by kernel_rfl
  i9 := by kernel_rfl
  i46 := by kernel_rfl
  i51 := by kernel_rfl
  i146 := by kernel_rfl
  m1 := by kernel_rfl
  s1_3 := fun w h => Go.Proofs.cell_of_shapedOpen_int (zero := #[.int .i64 0]) (t := 3) h (of_decide_eq_true (by kernel_rfl)) (by kernel_rfl) rfl (by kernel_rfl) (by kernel_rfl) Tryd.underlying3 }
open Go.RowKit Go.Lib in
theorem Tryd.strings_Index_shaped (s sub : ByteArray) (w : World) (h : w.ShapedOpen Tryd.prog) (hs : s.size < 4294967281) :
    Calls Tryd.prog 128 #[.string s, .string sub] w fun e w' => e = .returned (.int .i64 (Lib.index s.data.toList sub.data.toList)) ∧ w' = w := Any.strings_Index_shaped Tryd.laysM143 s sub w h hs
def Tryd.laysM144_ren : Go.Shelf.Ren := ⟨fun | 144 => 99 | 143 => 128 | 219 => 140 | 217 => 91 | 225 => 144 | 224 => 143 | 267 => 147 | 266 => 125 | 314 => 150 | n => n, fun | 9 => 9 | 4 => 4 | 3 => 3 | 5 => 5 | 46 => 97 | 146 => 135 | 51 => 134 | n => n, fun | 1 => 0 | n => n⟩
theorem Tryd.laysM144 : Go.Proofs.LaysM.n144 Tryd.prog Tryd.laysM144_ren := {
  mixed := by kernel_rfl
  f143 := Tryd.func128.trans (congrArg some (by kernel_rfl))
  f144 := Tryd.func99.trans (congrArg some (by kernel_rfl))
  f217 := Tryd.func91.trans (congrArg some (by kernel_rfl))
  f219 := Tryd.func140.trans (congrArg some (by kernel_rfl))
  f224 := Tryd.func143.trans (congrArg some (by kernel_rfl))
  f225 := Tryd.func144.trans (congrArg some (by kernel_rfl))
  f266 := Tryd.func125.trans (congrArg some (by kernel_rfl))
  f267 := Tryd.func147.trans (congrArg some (by kernel_rfl))
  f314 := Tryd.func150.trans (congrArg some (by kernel_rfl))
  t3 := Tryd.underlying3
  a3 := Tryd.isAgg3
  z3 := Tryd.sizeOf3
  v3 := Tryd.zeroValue3
  t4 := Tryd.underlying4
  a4 := Tryd.isAgg4
  z4 := Tryd.sizeOf4
  v4 := Tryd.zeroValue4
  t5 := Tryd.underlying5
  a5 := Tryd.isAgg5
  z5 := Tryd.sizeOf5
  v5 := Tryd.zeroValue5
  t9 := Tryd.underlying9
  a9 := Tryd.isAgg9
  z9 := Tryd.sizeOf9
  v9 := Tryd.zeroValue9
  t46 := Tryd.underlying97
  a46 := Tryd.isAgg97
  z46 := Tryd.sizeOf97
  v46 := Tryd.zeroValue97
  t51 := Tryd.underlying134
  a51 := Tryd.isAgg134
  z51 := Tryd.sizeOf134
  v51 := Tryd.zeroValue134
  t146 := Tryd.underlying135
  a146 := Tryd.isAgg135
  z146 := Tryd.sizeOf135
  v146 := Tryd.zeroValue135
  g1 := by kernel_rfl
  i3 := by kernel_rfl
  i4 := by kernel_rfl
  i5 := by kernel_rfl
  i9 := by kernel_rfl
  i46 := by kernel_rfl
  i51 := by kernel_rfl
  i146 := by kernel_rfl
  m1 := by kernel_rfl
  s1_3 := fun w h => Go.Proofs.cell_of_shapedOpen_int (zero := #[.int .i64 0]) (t := 3) h (of_decide_eq_true (by kernel_rfl)) (by kernel_rfl) rfl (by kernel_rfl) (by kernel_rfl) Tryd.underlying3 }
open Go.RowKit Go.Lib in
theorem Tryd.strings_Contains_shaped (s sub : ByteArray) (w : World) (h : w.ShapedOpen Tryd.prog) (hs : s.size < 4294967281) :
    Calls Tryd.prog 99 #[.string s, .string sub] w fun e w' => e = .returned (.bool (Lib.contains s.data.toList sub.data.toList)) ∧ w' = w := Any.strings_Contains_shaped Tryd.laysM144 s sub w h hs
def Tryd.laysM220_ren : Go.Shelf.Ren := ⟨fun | 220 => 120 | 219 => 140 | 217 => 91 | 225 => 144 | 224 => 143 | 267 => 147 | 266 => 125 | 314 => 150 | n => n, fun | 9 => 9 | 4 => 4 | 3 => 3 | 5 => 5 | 46 => 97 | 146 => 135 | 51 => 134 | n => n, fun | 1 => 0 | n => n⟩
theorem Tryd.laysM220 : Go.Proofs.LaysM.n220 Tryd.prog Tryd.laysM220_ren := {
  mixed := by kernel_rfl
  f217 := Tryd.func91.trans (congrArg some (by kernel_rfl))
  f219 := Tryd.func140.trans (congrArg some (by kernel_rfl))
  f220 := Tryd.func120.trans (congrArg some (by kernel_rfl))
  f224 := Tryd.func143.trans (congrArg some (by kernel_rfl))
  f225 := Tryd.func144.trans (congrArg some (by kernel_rfl))
  f266 := Tryd.func125.trans (congrArg some (by kernel_rfl))
  f267 := Tryd.func147.trans (congrArg some (by kernel_rfl))
  f314 := Tryd.func150.trans (congrArg some (by kernel_rfl))
  t3 := Tryd.underlying3
  a3 := Tryd.isAgg3
  z3 := Tryd.sizeOf3
  v3 := Tryd.zeroValue3
  t4 := Tryd.underlying4
  a4 := Tryd.isAgg4
  z4 := Tryd.sizeOf4
  v4 := Tryd.zeroValue4
  t5 := Tryd.underlying5
  a5 := Tryd.isAgg5
  z5 := Tryd.sizeOf5
  v5 := Tryd.zeroValue5
  t9 := Tryd.underlying9
  a9 := Tryd.isAgg9
  z9 := Tryd.sizeOf9
  v9 := Tryd.zeroValue9
  t46 := Tryd.underlying97
  a46 := Tryd.isAgg97
  z46 := Tryd.sizeOf97
  v46 := Tryd.zeroValue97
  t51 := Tryd.underlying134
  a51 := Tryd.isAgg134
  z51 := Tryd.sizeOf134
  v51 := Tryd.zeroValue134
  t146 := Tryd.underlying135
  a146 := Tryd.isAgg135
  z146 := Tryd.sizeOf135
  v146 := Tryd.zeroValue135
  g1 := by kernel_rfl
  i3 := by kernel_rfl
  i4 := by kernel_rfl
  i5 := by kernel_rfl
  i9 := by kernel_rfl
  i46 := by kernel_rfl
  i51 := by kernel_rfl
  i146 := by kernel_rfl
  m1 := by kernel_rfl
  s1_3 := fun w h => Go.Proofs.cell_of_shapedOpen_int (zero := #[.int .i64 0]) (t := 3) h (of_decide_eq_true (by kernel_rfl)) (by kernel_rfl) rfl (by kernel_rfl) (by kernel_rfl) Tryd.underlying3 }
open Go.RowKit Go.Lib in
theorem Tryd.stringslite_Cut_shaped (s sep : ByteArray) (w : World) (h : w.ShapedOpen Tryd.prog) (hs : s.size < 4294967281) :
    Calls Tryd.prog 120 #[.string s, .string sep] w fun e w' => e = .returned (.tuple #[.string ⟨(Lib.cut s.data.toList sep.data.toList).1.toArray⟩, .string ⟨(Lib.cut s.data.toList sep.data.toList).2.1.toArray⟩, .bool (Lib.cut s.data.toList sep.data.toList).2.2]) ∧ ∃ n, w' = w.drewN n := Any.stringslite_Cut_shaped Tryd.laysM220 s sep w h hs
def Tryd.laysM145_ren : Go.Shelf.Ren := ⟨fun | 145 => 83 | 220 => 120 | 219 => 140 | 217 => 91 | 225 => 144 | 224 => 143 | 267 => 147 | 266 => 125 | 314 => 150 | n => n, fun | 9 => 9 | 4 => 4 | 59 => 117 | 3 => 3 | 5 => 5 | 46 => 97 | 146 => 135 | 51 => 134 | n => n, fun | 1 => 0 | n => n⟩
theorem Tryd.laysM145 : Go.Proofs.LaysM.n145 Tryd.prog Tryd.laysM145_ren := {
  mixed := by kernel_rfl
  f145 := Tryd.func83.trans (congrArg some (by kernel_rfl))
  f217 := Tryd.func91.trans (congrArg some (by kernel_rfl))
  f219 := Tryd.func140.trans (congrArg some (by kernel_rfl))
  f220 := Tryd.func120.trans (congrArg some (by kernel_rfl))
  f224 := Tryd.func143.trans (congrArg some (by kernel_rfl))
  f225 := Tryd.func144.trans (congrArg some (by kernel_rfl))
  f266 := Tryd.func125.trans (congrArg some (by kernel_rfl))
  f267 := Tryd.func147.trans (congrArg some (by kernel_rfl))
  f314 := Tryd.func150.trans (congrArg some (by kernel_rfl))
  t3 := Tryd.underlying3
  a3 := Tryd.isAgg3
  z3 := Tryd.sizeOf3
  v3 := Tryd.zeroValue3
  t4 := Tryd.underlying4
  a4 := Tryd.isAgg4
  z4 := Tryd.sizeOf4
  v4 := Tryd.zeroValue4
  t5 := Tryd.underlying5
  a5 := Tryd.isAgg5
  z5 := Tryd.sizeOf5
  v5 := Tryd.zeroValue5
  t9 := Tryd.underlying9
  a9 := Tryd.isAgg9
  z9 := Tryd.sizeOf9
  v9 := Tryd.zeroValue9
  t46 := Tryd.underlying97
  a46 := Tryd.isAgg97
  z46 := Tryd.sizeOf97
  v46 := Tryd.zeroValue97
  t51 := Tryd.underlying134
  a51 := Tryd.isAgg134
  z51 := Tryd.sizeOf134
  v51 := Tryd.zeroValue134
  t59 := Tryd.underlying117
  a59 := Tryd.isAgg117
  z59 := Tryd.sizeOf117
  v59 := Tryd.zeroValue117
  t146 := Tryd.underlying135
  a146 := Tryd.isAgg135
  z146 := Tryd.sizeOf135
  v146 := Tryd.zeroValue135
  g1 := by kernel_rfl
  i3 := by kernel_rfl
  i4 := by kernel_rfl
  i5 := by kernel_rfl
  i9 := by kernel_rfl
  i46 := by kernel_rfl
  i51 := by kernel_rfl
  i59 := by kernel_rfl
  i146 := by kernel_rfl
  m1 := by kernel_rfl
  s1_3 := fun w h => Go.Proofs.cell_of_shapedOpen_int (zero := #[.int .i64 0]) (t := 3) h (of_decide_eq_true (by kernel_rfl)) (by kernel_rfl) rfl (by kernel_rfl) (by kernel_rfl) Tryd.underlying3 }
open Go.RowKit Go.Lib in
theorem Tryd.strings_Cut_shaped (s sep : ByteArray) (w : World) (h : w.ShapedOpen Tryd.prog) (hs : s.size < 4294967281) :
    Calls Tryd.prog 83 #[.string s, .string sep] w fun e w' => e = .returned (.tuple #[.string ⟨(Lib.cut s.data.toList sep.data.toList).1.toArray⟩, .string ⟨(Lib.cut s.data.toList sep.data.toList).2.1.toArray⟩, .bool (Lib.cut s.data.toList sep.data.toList).2.2]) ∧ ∃ n, w' = w.drewN n := Any.strings_Cut_shaped Tryd.laysM145 s sep w h hs
def Tryd.laysM138_ren : Go.Shelf.Ren := ⟨fun | 138 => 146 | 195 => 148 | 218 => 149 | 143 => 128 | 219 => 140 | 217 => 91 | 225 => 144 | 224 => 143 | 267 => 147 | 266 => 125 | 314 => 150 | n => n, fun | 9 => 9 | 3 => 3 | 4 => 4 | 5 => 5 | 0 => 0 | 46 => 97 | 146 => 135 | 51 => 134 | n => n, fun | 1 => 0 | n => n⟩
theorem Tryd.laysM138 : Go.Proofs.LaysM.n138 Tryd.prog Tryd.laysM138_ren := {
  mixed := by kernel_rfl
  f138 := Tryd.func146.trans (congrArg some (by kernel_rfl))
  f143 := Tryd.func128.trans (congrArg some (by kernel_rfl))
  f195 := Tryd.func148.trans (congrArg some (by kernel_rfl))
  f217 := Tryd.func91.trans (congrArg some (by kernel_rfl))
  f218 := Tryd.func149.trans (congrArg some (by kernel_rfl))
  f219 := Tryd.func140.trans (congrArg some (by kernel_rfl))
  f224 := Tryd.func143.trans (congrArg some (by kernel_rfl))
  f225 := Tryd.func144.trans (congrArg some (by kernel_rfl))
  f266 := Tryd.func125.trans (congrArg some (by kernel_rfl))
  f267 := Tryd.func147.trans (congrArg some (by kernel_rfl))
  f314 := Tryd.func150.trans (congrArg some (by kernel_rfl))
  t0 := Tryd.underlying0
  a0 := Tryd.isAgg0
  z0 := Tryd.sizeOf0
  v0 := Tryd.zeroValue0
  t3 := Tryd.underlying3
  a3 := Tryd.isAgg3
  z3 := Tryd.sizeOf3
  v3 := Tryd.zeroValue3
  t4 := Tryd.underlying4
  a4 := Tryd.isAgg4
  z4 := Tryd.sizeOf4
  v4 := Tryd.zeroValue4
  t5 := Tryd.underlying5
  a5 := Tryd.isAgg5
  z5 := Tryd.sizeOf5
  v5 := Tryd.zeroValue5
  t9 := Tryd.underlying9
  a9 := Tryd.isAgg9
  z9 := Tryd.sizeOf9
  v9 := Tryd.zeroValue9
  t46 := Tryd.underlying97
  a46 := Tryd.isAgg97
  z46 := Tryd.sizeOf97
  v46 := Tryd.zeroValue97
  t51 := Tryd.underlying134
  a51 := Tryd.isAgg134
  z51 := Tryd.sizeOf134
  v51 := Tryd.zeroValue134
  t146 := Tryd.underlying135
  a146 := Tryd.isAgg135
  z146 := Tryd.sizeOf135
  v146 := Tryd.zeroValue135
  g1 := by kernel_rfl
  i0 := by kernel_rfl
  i3 := by kernel_rfl
  i4 := by kernel_rfl
  i5 := by kernel_rfl
  i9 := by kernel_rfl
  i46 := by kernel_rfl
  i51 := by kernel_rfl
  i146 := by kernel_rfl
  m1 := by kernel_rfl
  s1_3 := fun w h => Go.Proofs.cell_of_shapedOpen_int (zero := #[.int .i64 0]) (t := 3) h (of_decide_eq_true (by kernel_rfl)) (by kernel_rfl) rfl (by kernel_rfl) (by kernel_rfl) Tryd.underlying3 }
open Go.RowKit Go.Lib in
theorem Tryd.strings_Count_shaped (s sub : ByteArray) (w : World) (h : w.ShapedOpen Tryd.prog) (hs : s.size < 4294967281) (h2 : 2 ≤ sub.size) :
    Calls Tryd.prog 146 #[.string s, .string sub] w fun e w' => e = .returned (.int .i64 (Lib.countB s sub)) ∧ w' = w := Any.strings_Count_shaped Tryd.laysM138 s sub w h hs h2
def Tryd.lays206_ren : Go.Shelf.Ren := ⟨fun | 206 => 97 | n => n, fun | 9 => 9 | 4 => 4 | 3 => 3 | n => n, fun | n => n⟩
theorem Tryd.lays206 : Go.Proofs.Lays.n206 Tryd.prog Tryd.lays206_ren := {
  mixed := by kernel_rfl
  f206 := Tryd.func97.trans (congrArg some (by kernel_rfl))
  t3 := Tryd.underlying3
  a3 := Tryd.isAgg3
  z3 := Tryd.sizeOf3
  v3 := Tryd.zeroValue3
  t4 := Tryd.underlying4
  a4 := Tryd.isAgg4
  z4 := Tryd.sizeOf4
  v4 := Tryd.zeroValue4
  t9 := Tryd.underlying9
  a9 := Tryd.isAgg9
  z9 := Tryd.sizeOf9
  v9 := Tryd.zeroValue9 }
open Go.RowKit Go.Lib in
/-- internal/stringslite.HasPrefix (what strings.HasPrefix calls). (LAID: no walk: one application.) -/
theorem Tryd.stringslite_HasPrefix (s p : ByteArray) (w : World) :
    Calls Tryd.prog 97 #[.string s, .string p] w fun e w' => e = .returned (.bool (Lib.hasPrefix s.data.toList p.data.toList)) ∧ w' = w := Any.stringslite_HasPrefix Tryd.lays206 s p w
def Tryd.lays99_ren : Go.Shelf.Ren := ⟨fun | 99 => 52 | 206 => 97 | n => n, fun | 9 => 9 | 4 => 4 | 3 => 3 | n => n, fun | n => n⟩
theorem Tryd.lays99 : Go.Proofs.Lays.n99 Tryd.prog Tryd.lays99_ren := {
  mixed := by kernel_rfl
  f99 := Tryd.func52.trans (congrArg some (by kernel_rfl))
  f206 := Tryd.func97.trans (congrArg some (by kernel_rfl))
  t3 := Tryd.underlying3
  a3 := Tryd.isAgg3
  z3 := Tryd.sizeOf3
  v3 := Tryd.zeroValue3
  t4 := Tryd.underlying4
  a4 := Tryd.isAgg4
  z4 := Tryd.sizeOf4
  v4 := Tryd.zeroValue4
  t9 := Tryd.underlying9
  a9 := Tryd.isAgg9
  z9 := Tryd.sizeOf9
  v9 := Tryd.zeroValue9 }
open Go.RowKit Go.Lib in
/-- strings.HasPrefix: "HasPrefix reports whether the string s begins with prefix.": IT RETURNS 'Lib.hasPrefix s prefix'; the world is as it was. (LAID: no walk: one application.) -/
theorem Tryd.strings_HasPrefix (s p : ByteArray) (w : World) :
    Calls Tryd.prog 52 #[.string s, .string p] w fun e w' => e = .returned (.bool (Lib.hasPrefix s.data.toList p.data.toList)) ∧ w' = w := Any.strings_HasPrefix Tryd.lays99 s p w
open Go.RowKit Go.Lib in
/-- strings.Count at whatever sep that is not empty: the two roads under one statement. (LAID: no walk: one application.) -/
theorem Tryd.strings_Count_any (s sep : ByteArray) (m : Int) (w : World) (hs : s.size < 4294967281) (hm : w.cell? ⟨0, 0, none⟩ = some (.int .i64 m)) (h1 : 1 ≤ sep.size) :
    Calls Tryd.prog 146 #[.string s, .string sep] w fun e w' => e = .returned (.int .i64 (Lib.countB s sep)) ∧ w' = w := Any.strings_Count_any Tryd.lays138 s sep m w hs hm h1
def Tryd.lays221_ren : Go.Shelf.Ren := ⟨fun | 221 => 127 | 268 => 145 | 138 => 146 | 143 => 128 | 195 => 148 | 197 => 118 | 218 => 149 | 219 => 140 | 260 => 138 | 217 => 91 | 225 => 144 | 224 => 143 | 267 => 147 | 266 => 125 | 314 => 150 | n => n, fun | 9 => 9 | 3 => 3 | 31 => 26 | 4 => 4 | 0 => 0 | 105 => 141 | 21 => 21 | 5 => 5 | 46 => 97 | 119 => 155 | 139 => 158 | 138 => 157 | 146 => 135 | 51 => 134 | n => n, fun | 1 => 0 | 3 => 1 | 4 => 2 | n => n⟩
theorem Tryd.lays221 : Go.Proofs.Lays.n221 Tryd.prog Tryd.lays221_ren := {
  mixed := by kernel_rfl
  f138 := Tryd.func146.trans (congrArg some (by kernel_rfl))
  f143 := Tryd.func128.trans (congrArg some (by kernel_rfl))
  f195 := Tryd.func148.trans (congrArg some (by kernel_rfl))
  f197 := Tryd.func118.trans (congrArg some (by kernel_rfl))
  f217 := Tryd.func91.trans (congrArg some (by kernel_rfl))
  f218 := Tryd.func149.trans (congrArg some (by kernel_rfl))
  f219 := Tryd.func140.trans (congrArg some (by kernel_rfl))
  f221 := Tryd.func127.trans (congrArg some (by kernel_rfl))
  f224 := Tryd.func143.trans (congrArg some (by kernel_rfl))
  f225 := Tryd.func144.trans (congrArg some (by kernel_rfl))
  f260 := Tryd.func138.trans (congrArg some (by kernel_rfl))
  f266 := Tryd.func125.trans (congrArg some (by kernel_rfl))
  f267 := Tryd.func147.trans (congrArg some (by kernel_rfl))
  f268 := Tryd.func145.trans (congrArg some (by kernel_rfl))
  f314 := Tryd.func150.trans (congrArg some (by kernel_rfl))
  t0 := Tryd.underlying0
  a0 := Tryd.isAgg0
  z0 := Tryd.sizeOf0
  v0 := Tryd.zeroValue0
  t3 := Tryd.underlying3
  a3 := Tryd.isAgg3
  z3 := Tryd.sizeOf3
  v3 := Tryd.zeroValue3
  t4 := Tryd.underlying4
  a4 := Tryd.isAgg4
  z4 := Tryd.sizeOf4
  v4 := Tryd.zeroValue4
  t5 := Tryd.underlying5
  a5 := Tryd.isAgg5
  z5 := Tryd.sizeOf5
  v5 := Tryd.zeroValue5
  t9 := Tryd.underlying9
  a9 := Tryd.isAgg9
  z9 := Tryd.sizeOf9
  v9 := Tryd.zeroValue9
  t21 := Tryd.underlying21
  a21 := Tryd.isAgg21
  z21 := Tryd.sizeOf21
  v21 := Tryd.zeroValue21
  t31 := Tryd.underlying26
  a31 := Tryd.isAgg26
  z31 := Tryd.sizeOf26
  v31 := Tryd.zeroValue26
  t46 := Tryd.underlying97
  a46 := Tryd.isAgg97
  z46 := Tryd.sizeOf97
  v46 := Tryd.zeroValue97
  t51 := Tryd.underlying134
  a51 := Tryd.isAgg134
  z51 := Tryd.sizeOf134
  v51 := Tryd.zeroValue134
  t105 := Tryd.underlying141
  a105 := Tryd.isAgg141
  z105 := Tryd.sizeOf141
  v105 := Tryd.zeroValue141
  t119 := Tryd.underlying155
  a119 := Tryd.isAgg155
  z119 := Tryd.sizeOf155
  t138 := Tryd.underlying157
  a138 := Tryd.isAgg157
  z138 := Tryd.sizeOf157
  v138 := Tryd.zeroValue157
  t139 := Tryd.underlying158
  a139 := Tryd.isAgg158
  z139 := Tryd.sizeOf158
  v139 := Tryd.zeroValue158
  t146 := Tryd.underlying135
  a146 := Tryd.isAgg135
  z146 := Tryd.sizeOf135
  v146 := Tryd.zeroValue135
  g1 := by kernel_rfl
  g3 := by kernel_rfl
  g4 := by kernel_rfl }
open Go.RowKit Go.Lib in
theorem Tryd.strings_genSplit (s sep : ByteArray) (sv : Nat) (n : Int) (N : Nat) (m : Int) (w : World) (hs : s.size < 4294967281) (hm : w.cell? ⟨0, 0, none⟩ = some (.int .i64 m)) (h1 : 1 ≤ sep.size) (hsv : sv ≤ sep.size) (hn0 : n ≠ 0) (hn63 : n ≤ 9223372036854775807) (hN : (N : Int) = min (if n < 0 then (Lib.countB s sep : Int) + 1 else n) ((s.size : Int) + 1)) :
    Calls Tryd.prog 127 #[.string s, .string sep, .int .i64 sv, .int .i64 n] w fun e w' =>
      e = .returned (.slice (some ⟨w.heap.size, 0, none⟩) (Lib.splitB sep sv (N - 1) s).length N) ∧ w' = w.alloc (.cells (Lib.cellsOf (Lib.splitB sep sv (N - 1) s) N) 9) := Any.strings_genSplit Tryd.lays221 (by kernel_rfl) s sep sv n N m w hs hm h1 hsv hn0 hn63 hN
def Tryd.lays146_ren : Go.Shelf.Ren := ⟨fun | 146 => 98 | 221 => 127 | 268 => 145 | 138 => 146 | 143 => 128 | 195 => 148 | 197 => 118 | 218 => 149 | 219 => 140 | 260 => 138 | 217 => 91 | 225 => 144 | 224 => 143 | 267 => 147 | 266 => 125 | 314 => 150 | n => n, fun | 9 => 9 | 31 => 26 | 3 => 3 | 4 => 4 | 0 => 0 | 105 => 141 | 21 => 21 | 5 => 5 | 46 => 97 | 119 => 155 | 139 => 158 | 138 => 157 | 146 => 135 | 51 => 134 | n => n, fun | 1 => 0 | 3 => 1 | 4 => 2 | n => n⟩
theorem Tryd.lays146 : Go.Proofs.Lays.n146 Tryd.prog Tryd.lays146_ren := {
  mixed := by kernel_rfl
  f138 := Tryd.func146.trans (congrArg some (by kernel_rfl))
  f143 := Tryd.func128.trans (congrArg some (by kernel_rfl))
  f146 := Tryd.func98.trans (congrArg some (by kernel_rfl))
  f195 := Tryd.func148.trans (congrArg some (by kernel_rfl))
  f197 := Tryd.func118.trans (congrArg some (by kernel_rfl))
  f217 := Tryd.func91.trans (congrArg some (by kernel_rfl))
  f218 := Tryd.func149.trans (congrArg some (by kernel_rfl))
  f219 := Tryd.func140.trans (congrArg some (by kernel_rfl))
  f221 := Tryd.func127.trans (congrArg some (by kernel_rfl))
  f224 := Tryd.func143.trans (congrArg some (by kernel_rfl))
  f225 := Tryd.func144.trans (congrArg some (by kernel_rfl))
  f260 := Tryd.func138.trans (congrArg some (by kernel_rfl))
  f266 := Tryd.func125.trans (congrArg some (by kernel_rfl))
  f267 := Tryd.func147.trans (congrArg some (by kernel_rfl))
  f268 := Tryd.func145.trans (congrArg some (by kernel_rfl))
  f314 := Tryd.func150.trans (congrArg some (by kernel_rfl))
  t0 := Tryd.underlying0
  a0 := Tryd.isAgg0
  z0 := Tryd.sizeOf0
  v0 := Tryd.zeroValue0
  t3 := Tryd.underlying3
  a3 := Tryd.isAgg3
  z3 := Tryd.sizeOf3
  v3 := Tryd.zeroValue3
  t4 := Tryd.underlying4
  a4 := Tryd.isAgg4
  z4 := Tryd.sizeOf4
  v4 := Tryd.zeroValue4
  t5 := Tryd.underlying5
  a5 := Tryd.isAgg5
  z5 := Tryd.sizeOf5
  v5 := Tryd.zeroValue5
  t9 := Tryd.underlying9
  a9 := Tryd.isAgg9
  z9 := Tryd.sizeOf9
  v9 := Tryd.zeroValue9
  t21 := Tryd.underlying21
  a21 := Tryd.isAgg21
  z21 := Tryd.sizeOf21
  v21 := Tryd.zeroValue21
  t31 := Tryd.underlying26
  a31 := Tryd.isAgg26
  z31 := Tryd.sizeOf26
  v31 := Tryd.zeroValue26
  t46 := Tryd.underlying97
  a46 := Tryd.isAgg97
  z46 := Tryd.sizeOf97
  v46 := Tryd.zeroValue97
  t51 := Tryd.underlying134
  a51 := Tryd.isAgg134
  z51 := Tryd.sizeOf134
  v51 := Tryd.zeroValue134
  t105 := Tryd.underlying141
  a105 := Tryd.isAgg141
  z105 := Tryd.sizeOf141
  v105 := Tryd.zeroValue141
  t119 := Tryd.underlying155
  a119 := Tryd.isAgg155
  z119 := Tryd.sizeOf155
  t138 := Tryd.underlying157
  a138 := Tryd.isAgg157
  z138 := Tryd.sizeOf157
  v138 := Tryd.zeroValue157
  t139 := Tryd.underlying158
  a139 := Tryd.isAgg158
  z139 := Tryd.sizeOf158
  v139 := Tryd.zeroValue158
  t146 := Tryd.underlying135
  a146 := Tryd.isAgg135
  z146 := Tryd.sizeOf135
  v146 := Tryd.zeroValue135
  g1 := by kernel_rfl
  g3 := by kernel_rfl
  g4 := by kernel_rfl }
open Go.RowKit Go.Lib in
/-- strings.Split. (LAID: no walk: one application.) -/
theorem Tryd.strings_Split (s sep : ByteArray) (m : Int) (w : World) (hs : s.size < 4294967281) (hm : w.cell? ⟨0, 0, none⟩ = some (.int .i64 m)) (h1 : 1 ≤ sep.size) :
    Calls Tryd.prog 98 #[.string s, .string sep] w fun e w' =>
      e = .returned (.slice (some ⟨w.heap.size, 0, none⟩) (Lib.countB s sep + 1) (Lib.countB s sep + 1)) ∧ w' = w.alloc (.cells ((Lib.splitB sep 0 (Lib.countB s sep) s).map Value.string).toArray 9) := Any.strings_Split Tryd.lays146 (by kernel_rfl) s sep m w hs hm h1
def Tryd.lays152_ren : Go.Shelf.Ren := ⟨fun | 152 => 126 | 137 => 49 | 119 => 142 | 224 => 143 | 225 => 144 | 217 => 91 | 266 => 125 | n => n, fun | 9 => 9 | 21 => 21 | 3 => 3 | 4 => 4 | 5 => 5 | 0 => 0 | 46 => 97 | n => n, fun | n => n⟩
theorem Tryd.lays152 : Go.Proofs.Lays.n152 Tryd.prog Tryd.lays152_ren := {
  mixed := by kernel_rfl
  f119 := Tryd.func142.trans (congrArg some (by kernel_rfl))
  f137 := Tryd.func49.trans (congrArg some (by kernel_rfl))
  f152 := Tryd.func126.trans (congrArg some (by kernel_rfl))
  f217 := Tryd.func91.trans (congrArg some (by kernel_rfl))
  f224 := Tryd.func143.trans (congrArg some (by kernel_rfl))
  f225 := Tryd.func144.trans (congrArg some (by kernel_rfl))
  f266 := Tryd.func125.trans (congrArg some (by kernel_rfl))
  t0 := Tryd.underlying0
  a0 := Tryd.isAgg0
  z0 := Tryd.sizeOf0
  v0 := Tryd.zeroValue0
  t3 := Tryd.underlying3
  a3 := Tryd.isAgg3
  z3 := Tryd.sizeOf3
  v3 := Tryd.zeroValue3
  t4 := Tryd.underlying4
  a4 := Tryd.isAgg4
  z4 := Tryd.sizeOf4
  v4 := Tryd.zeroValue4
  t5 := Tryd.underlying5
  a5 := Tryd.isAgg5
  z5 := Tryd.sizeOf5
  v5 := Tryd.zeroValue5
  t9 := Tryd.underlying9
  a9 := Tryd.isAgg9
  z9 := Tryd.sizeOf9
  v9 := Tryd.zeroValue9
  t21 := Tryd.underlying21
  a21 := Tryd.isAgg21
  z21 := Tryd.sizeOf21
  v21 := Tryd.zeroValue21
  t46 := Tryd.underlying97
  a46 := Tryd.isAgg97
  z46 := Tryd.sizeOf97
  v46 := Tryd.zeroValue97 }
open Go.RowKit Go.Lib in
theorem Tryd.strings_IndexRune_ascii (s : ByteArray) (r : Int) (w : World) (h0 : 0 ≤ r) (h1 : r < 128) :
    Calls Tryd.prog 126 #[.string s, .int .i32 r] w fun e w' => e = .returned (.int .i64 (Lib.indexByte s.data.toList r.toNat.toUInt8)) ∧ w' = w := Any.strings_IndexRune_ascii Tryd.lays152 s r w h0 h1
def Tryd.lays151_ren : Go.Shelf.Ren := ⟨fun | 151 => 95 | 152 => 126 | 137 => 49 | 119 => 142 | 224 => 143 | 225 => 144 | 217 => 91 | 266 => 125 | n => n, fun | 9 => 9 | 21 => 21 | 4 => 4 | 3 => 3 | 5 => 5 | 0 => 0 | 46 => 97 | n => n, fun | n => n⟩
theorem Tryd.lays151 : Go.Proofs.Lays.n151 Tryd.prog Tryd.lays151_ren := {
  mixed := by kernel_rfl
  f119 := Tryd.func142.trans (congrArg some (by kernel_rfl))
  f137 := Tryd.func49.trans (congrArg some (by kernel_rfl))
  f151 := Tryd.func95.trans (congrArg some (by kernel_rfl))
  f152 := Tryd.func126.trans (congrArg some (by kernel_rfl))
  f217 := Tryd.func91.trans (congrArg some (by kernel_rfl))
  f224 := Tryd.func143.trans (congrArg some (by kernel_rfl))
  f225 := Tryd.func144.trans (congrArg some (by kernel_rfl))
  f266 := Tryd.func125.trans (congrArg some (by kernel_rfl))
  t0 := Tryd.underlying0
  a0 := Tryd.isAgg0
  z0 := Tryd.sizeOf0
  v0 := Tryd.zeroValue0
  t3 := Tryd.underlying3
  a3 := Tryd.isAgg3
  z3 := Tryd.sizeOf3
  v3 := Tryd.zeroValue3
  t4 := Tryd.underlying4
  a4 := Tryd.isAgg4
  z4 := Tryd.sizeOf4
  v4 := Tryd.zeroValue4
  t5 := Tryd.underlying5
  a5 := Tryd.isAgg5
  z5 := Tryd.sizeOf5
  v5 := Tryd.zeroValue5
  t9 := Tryd.underlying9
  a9 := Tryd.isAgg9
  z9 := Tryd.sizeOf9
  v9 := Tryd.zeroValue9
  t21 := Tryd.underlying21
  a21 := Tryd.isAgg21
  z21 := Tryd.sizeOf21
  v21 := Tryd.zeroValue21
  t46 := Tryd.underlying97
  a46 := Tryd.isAgg97
  z46 := Tryd.sizeOf97
  v46 := Tryd.zeroValue97 }
open Go.RowKit Go.Lib in
theorem Tryd.strings_ContainsRune_ascii (s : ByteArray) (r : Int) (w : World) (h0 : 0 ≤ r) (h1 : r < 128) :
    Calls Tryd.prog 95 #[.string s, .int .i32 r] w fun e w' => e = .returned (.bool (decide (0 ≤ Lib.indexByte s.data.toList r.toNat.toUInt8))) ∧ w' = w := Any.strings_ContainsRune_ascii Tryd.lays151 s r w h0 h1
def Tryd.lays195_ren : Go.Shelf.Ren := ⟨fun | 195 => 148 | n => n, fun | 9 => 9 | 3 => 3 | 0 => 0 | 4 => 4 | n => n, fun | n => n⟩
theorem Tryd.lays195 : Go.Proofs.Lays.n195 Tryd.prog Tryd.lays195_ren := {
  mixed := by kernel_rfl
  f195 := Tryd.func148.trans (congrArg some (by kernel_rfl))
  t0 := Tryd.underlying0
  a0 := Tryd.isAgg0
  z0 := Tryd.sizeOf0
  v0 := Tryd.zeroValue0
  t3 := Tryd.underlying3
  a3 := Tryd.isAgg3
  z3 := Tryd.sizeOf3
  v3 := Tryd.zeroValue3
  t4 := Tryd.underlying4
  a4 := Tryd.isAgg4
  z4 := Tryd.sizeOf4
  v4 := Tryd.zeroValue4
  t9 := Tryd.underlying9
  a9 := Tryd.isAgg9
  z9 := Tryd.sizeOf9
  v9 := Tryd.zeroValue9 }
open Go.RowKit Go.Lib in
theorem Tryd.utf8_RuneCountInString_ascii (s : ByteArray) (w : World) (hs : s.size < 4294967281) (hascii : ∀ (j : Nat) b, s.data.toList[j]? = some b → b.toNat < 128) :
    Calls Tryd.prog 148 #[.string s] w fun e w' => e = .returned (.int .i64 s.size) ∧ w' = w.iter s s.size := Any.utf8_RuneCountInString_ascii Tryd.lays195 s w hs hascii
def Tryd.lays227_ren : Go.Shelf.Ren := ⟨fun | 227 => 78 | n => n, fun | 9 => 9 | 116 => 112 | 4 => 4 | 0 => 0 | 3 => 3 | 5 => 5 | n => n, fun | n => n⟩
theorem Tryd.lays227 : Go.Proofs.Lays.n227 Tryd.prog Tryd.lays227_ren := {
  mixed := by kernel_rfl
  f227 := Tryd.func78.trans (congrArg some (by kernel_rfl))
  t0 := Tryd.underlying0
  a0 := Tryd.isAgg0
  z0 := Tryd.sizeOf0
  v0 := Tryd.zeroValue0
  t3 := Tryd.underlying3
  a3 := Tryd.isAgg3
  z3 := Tryd.sizeOf3
  v3 := Tryd.zeroValue3
  t4 := Tryd.underlying4
  a4 := Tryd.isAgg4
  z4 := Tryd.sizeOf4
  v4 := Tryd.zeroValue4
  t5 := Tryd.underlying5
  a5 := Tryd.isAgg5
  z5 := Tryd.sizeOf5
  v5 := Tryd.zeroValue5
  t9 := Tryd.underlying9
  a9 := Tryd.isAgg9
  z9 := Tryd.sizeOf9
  v9 := Tryd.zeroValue9
  t116 := Tryd.underlying112
  a116 := Tryd.isAgg112
  z116 := Tryd.sizeOf112 }
open Go.RowKit Go.Lib in
theorem Tryd.strings_makeASCIISet (hv116 : ∀ w, (zeroValue 112).run Tryd.prog w = .ok (.agg (Array.replicate 256 (.bool false))) w) (chars : ByteArray) (w : World) (hs : chars.size < 4294967281) (hascii : ∀ (j : Nat) b, chars.data.toList[j]? = some b → b.toNat < 128) :
    Calls Tryd.prog 78 #[.string chars] w fun e w' => e = .returned (.tuple #[.agg (Lib.setCells chars.data.toList), .bool true]) ∧ w' = w.alloc (.cells (Lib.setCells chars.data.toList) 112) := Any.strings_makeASCIISet Tryd.lays227 hv116 (by kernel_rfl) chars w hs hascii
def Tryd.lays228_ren : Go.Shelf.Ren := ⟨fun | 228 => 117 | n => n, fun | 124 => 116 | 5 => 5 | 4 => 4 | 0 => 0 | 116 => 112 | n => n, fun | n => n⟩
theorem Tryd.lays228 : Go.Proofs.Lays.n228 Tryd.prog Tryd.lays228_ren := {
  mixed := by kernel_rfl
  f228 := Tryd.func117.trans (congrArg some (by kernel_rfl))
  t0 := Tryd.underlying0
  a0 := Tryd.isAgg0
  z0 := Tryd.sizeOf0
  v0 := Tryd.zeroValue0
  t4 := Tryd.underlying4
  a4 := Tryd.isAgg4
  z4 := Tryd.sizeOf4
  v4 := Tryd.zeroValue4
  t5 := Tryd.underlying5
  a5 := Tryd.isAgg5
  z5 := Tryd.sizeOf5
  v5 := Tryd.zeroValue5
  t116 := Tryd.underlying112
  a116 := Tryd.isAgg112
  z116 := Tryd.sizeOf112
  t124 := Tryd.underlying116
  a124 := Tryd.isAgg116
  z124 := Tryd.sizeOf116
  v124 := Tryd.zeroValue116 }
open Go.RowKit Go.Lib in
/-- '(as *asciiSet) contains(c)': 'as[c]': the set lies at block b, whole. (LAID: no walk: one application.) -/
theorem Tryd.asciiSet_contains (b : Nat) (x : UInt8) (v : Bool) (w : World) (hc : w.cell? ⟨b, x.toNat, none⟩ = some (.bool v)) :
    Calls Tryd.prog 117 #[.pointer (some ⟨b, 0, none⟩), .int .u8 x.toNat] w fun e w' => e = .returned (.bool v) ∧ w' = w := Any.asciiSet_contains Tryd.lays228 b x v w hc
def Tryd.lays264_ren : Go.Shelf.Ren := ⟨fun | 264 => 114 | n => n, fun | 53 => 137 | 46 => 97 | n => n, fun | n => n⟩
theorem Tryd.lays264 : Go.Proofs.Lays.n264 Tryd.prog Tryd.lays264_ren := {
  mixed := by kernel_rfl
  f264 := Tryd.func114.trans (congrArg some (by kernel_rfl))
  t46 := Tryd.underlying97
  a46 := Tryd.isAgg97
  z46 := Tryd.sizeOf97
  v46 := Tryd.zeroValue97
  t53 := Tryd.underlying137
  a53 := Tryd.isAgg137
  z53 := Tryd.sizeOf137
  v53 := Tryd.zeroValue137 }
open Go.RowKit Go.Lib in
theorem Tryd.bits_Mul64 (x y : Nat) (hx : x < 18446744073709551616) (hy : y < 18446744073709551616) (w : World) :
    Calls Tryd.prog 114 #[.int .u64 x, .int .u64 y] w fun e w' => e = .returned (.tuple #[.int .u64 ((x * y / 18446744073709551616 : Nat) : Int), .int .u64 ((x * y % 18446744073709551616 : Nat) : Int)]) ∧ w' = w := Any.bits_Mul64 Tryd.lays264 x y hx hy w
def Tryd.lays212_ren : Go.Shelf.Ren := ⟨fun | 212 => 71 | 263 => 113 | 264 => 114 | n => n, fun | 46 => 97 | 51 => 134 | 146 => 135 | 53 => 137 | 148 => 138 | n => n, fun | n => n⟩
theorem Tryd.lays212 : Go.Proofs.Lays.n212 Tryd.prog Tryd.lays212_ren := {
  mixed := by kernel_rfl
  f212 := Tryd.func71.trans (congrArg some (by kernel_rfl))
  f263 := Tryd.func113.trans (congrArg some (by kernel_rfl))
  f264 := Tryd.func114.trans (congrArg some (by kernel_rfl))
  t46 := Tryd.underlying97
  a46 := Tryd.isAgg97
  z46 := Tryd.sizeOf97
  v46 := Tryd.zeroValue97
  t51 := Tryd.underlying134
  a51 := Tryd.isAgg134
  z51 := Tryd.sizeOf134
  v51 := Tryd.zeroValue134
  t53 := Tryd.underlying137
  a53 := Tryd.isAgg137
  z53 := Tryd.sizeOf137
  v53 := Tryd.zeroValue137
  t146 := Tryd.underlying135
  a146 := Tryd.isAgg135
  z146 := Tryd.sizeOf135
  v146 := Tryd.zeroValue135
  t148 := Tryd.underlying138
  a148 := Tryd.isAgg138
  z148 := Tryd.sizeOf138
  v148 := Tryd.zeroValue138 }
open Go.RowKit Go.Lib in
/-- math/bits.Mul: "Mul returns the full-width product of x and y": on a machine of 64 bits: Mul64's. (LAID: no walk: one application.) -/
theorem Tryd.bits_Mul (x y : Nat) (hx : x < 18446744073709551616) (hy : y < 18446744073709551616) (w : World) :
    Calls Tryd.prog 71 #[.int .u64 x, .int .u64 y] w fun e w' => e = .returned (.tuple #[.int .u64 ((x * y / 18446744073709551616 : Nat) : Int), .int .u64 ((x * y % 18446744073709551616 : Nat) : Int)]) ∧ w' = w := Any.bits_Mul Tryd.lays212 x y hx hy w
def Tryd.lays105_ren : Go.Shelf.Ren := ⟨fun | 105 => 36 | 212 => 71 | 99 => 52 | 165 => 72 | 166 => 73 | 170 => 74 | 169 => 75 | 263 => 113 | 264 => 114 | 206 => 97 | 240 => 115 | 241 => 116 | 276 => 136 | 277 => 137 | n => n, fun | 9 => 9 | 3 => 3 | 4 => 4 | 20 => 20 | 0 => 0 | 46 => 97 | 109 => 98 | 5 => 5 | 72 => 102 | 76 => 106 | 51 => 134 | 146 => 135 | 53 => 137 | 148 => 138 | 70 => 100 | 37 => 83 | 75 => 105 | 127 => 140 | 164 => 151 | 80 => 109 | n => n, fun | n => n⟩
theorem Tryd.lays105 : Go.Proofs.Lays.n105 Tryd.prog Tryd.lays105_ren := {
  mixed := by kernel_rfl
  f99 := Tryd.func52.trans (congrArg some (by kernel_rfl))
  f105 := Tryd.func36.trans (congrArg some (by kernel_rfl))
  f165 := Tryd.func72.trans (congrArg some (by kernel_rfl))
  f166 := Tryd.func73.trans (congrArg some (by kernel_rfl))
  f169 := Tryd.func75.trans (congrArg some (by kernel_rfl))
  f170 := Tryd.func74.trans (congrArg some (by kernel_rfl))
  f206 := Tryd.func97.trans (congrArg some (by kernel_rfl))
  f212 := Tryd.func71.trans (congrArg some (by kernel_rfl))
  f240 := Tryd.func115.trans (congrArg some (by kernel_rfl))
  f241 := Tryd.func116.trans (congrArg some (by kernel_rfl))
  f263 := Tryd.func113.trans (congrArg some (by kernel_rfl))
  f264 := Tryd.func114.trans (congrArg some (by kernel_rfl))
  f276 := Tryd.func136.trans (congrArg some (by kernel_rfl))
  f277 := Tryd.func137.trans (congrArg some (by kernel_rfl))
  t0 := Tryd.underlying0
  a0 := Tryd.isAgg0
  z0 := Tryd.sizeOf0
  v0 := Tryd.zeroValue0
  t3 := Tryd.underlying3
  a3 := Tryd.isAgg3
  z3 := Tryd.sizeOf3
  v3 := Tryd.zeroValue3
  t4 := Tryd.underlying4
  a4 := Tryd.isAgg4
  z4 := Tryd.sizeOf4
  v4 := Tryd.zeroValue4
  t5 := Tryd.underlying5
  a5 := Tryd.isAgg5
  z5 := Tryd.sizeOf5
  v5 := Tryd.zeroValue5
  t9 := Tryd.underlying9
  a9 := Tryd.isAgg9
  z9 := Tryd.sizeOf9
  v9 := Tryd.zeroValue9
  t20 := Tryd.underlying20
  a20 := Tryd.isAgg20
  z20 := Tryd.sizeOf20
  v20 := Tryd.zeroValue20
  t37 := Tryd.underlying83
  a37 := Tryd.isAgg83
  z37 := Tryd.sizeOf83
  v37 := Tryd.zeroValue83
  t46 := Tryd.underlying97
  a46 := Tryd.isAgg97
  z46 := Tryd.sizeOf97
  v46 := Tryd.zeroValue97
  t51 := Tryd.underlying134
  a51 := Tryd.isAgg134
  z51 := Tryd.sizeOf134
  v51 := Tryd.zeroValue134
  t53 := Tryd.underlying137
  a53 := Tryd.isAgg137
  z53 := Tryd.sizeOf137
  v53 := Tryd.zeroValue137
  t70 := Tryd.underlying100
  a70 := Tryd.isAgg100
  z70 := Tryd.sizeOf100
  v70 := Tryd.zeroValue100
  t72 := Tryd.underlying102
  a72 := Tryd.isAgg102
  z72 := Tryd.sizeOf102
  v72 := Tryd.zeroValue102
  t75 := Tryd.underlying105
  a75 := Tryd.isAgg105
  z75 := Tryd.sizeOf105
  v75 := Tryd.zeroValue105
  t76 := Tryd.underlying106
  a76 := Tryd.isAgg106
  z76 := Tryd.sizeOf106
  v76 := Tryd.zeroValue106
  t109 := Tryd.underlying98
  a109 := Tryd.isAgg98
  z109 := Tryd.sizeOf98
  v109 := Tryd.zeroValue98
  t127 := Tryd.underlying140
  a127 := Tryd.isAgg140
  z127 := Tryd.sizeOf140
  v127 := Tryd.zeroValue140
  t146 := Tryd.underlying135
  a146 := Tryd.isAgg135
  z146 := Tryd.sizeOf135
  v146 := Tryd.zeroValue135
  t148 := Tryd.underlying138
  a148 := Tryd.isAgg138
  z148 := Tryd.sizeOf138
  v148 := Tryd.zeroValue138
  t164 := Tryd.underlying151
  a164 := Tryd.isAgg151
  z164 := Tryd.sizeOf151
  v164 := Tryd.zeroValue151 }
theorem Tryd.Builder_Extra_105 : Builder.Extra Tryd.prog Tryd.lays105_ren := {
  sizeBuilder := by kernel_rfl
  liesBuilder := by kernel_rfl
  t5 := Tryd.underlying5
  a5 := Tryd.isAgg5
  z5 := Tryd.sizeOf5
  v5 := Tryd.zeroValue5
  infoByte := by kernel_rfl
  cellsByte := by kernel_rfl
  sizeByte := by kernel_rfl
  neB5 := by decide }
open Go.RowKit Go.Lib in
/-- THE MAIN CASE: at least two copies of a string that is not empty. (LAID: no walk: one application.) -/
theorem Tryd.strings_Repeat_main (s : ByteArray) (c : Nat) (w : World) (hc2 : 2 ≤ c) (hc : c ≤ 9223372036854775807) (hlen : s.size * c ≤ 140737488355328) (h0 : 0 < s.size) :
    Calls Tryd.prog 36 #[.string s, .int .i64 c] w fun e w' => e = .returned (.string ⟨(Lib.repeatL s.data.toList c).toArray⟩) ∧ Below w.heap.size w w' := Any.strings_Repeat_main Tryd.lays105 Tryd.Builder_Extra_105 s c w hc2 hc hlen h0
open Go.RowKit Go.Lib in
theorem Tryd.strings_Repeat_zero (s : ByteArray) (w : World) :
    Calls Tryd.prog 36 #[.string s, .int .i64 0] w fun e w' => e = .returned (.string ⟨#[]⟩) ∧ w' = w := Any.strings_Repeat_zero Tryd.lays105 s w
open Go.RowKit Go.Lib in
theorem Tryd.strings_Repeat_one (s : ByteArray) (w : World) :
    Calls Tryd.prog 36 #[.string s, .int .i64 1] w fun e w' => e = .returned (.string s) ∧ w' = w := Any.strings_Repeat_one Tryd.lays105 s w
open Go.RowKit Go.Lib in
/-- Copies of the empty string. (LAID: no walk: one application.) -/
theorem Tryd.strings_Repeat_empty (s : ByteArray) (c : Nat) (w : World) (hc2 : 2 ≤ c) (hc : c ≤ 9223372036854775807) (h0 : s.size = 0) :
    Calls Tryd.prog 36 #[.string s, .int .i64 c] w fun e w' => e = .returned (.string ⟨#[]⟩) ∧ w' = w := Any.strings_Repeat_empty Tryd.lays105 s c w hc2 hc h0
open Go.RowKit Go.Lib in
/-- count < 0: "It panics if count is negative". (LAID: no walk: one application.) -/
theorem Tryd.strings_Repeat_negative (s : ByteArray) (c : Int) (w : World) (hc : c < 0) :
    Calls Tryd.prog 36 #[.string s, .int .i64 c] w fun e w' => e = .panicked [{ v := repeatPanic Tryd.lays105_ren "strings: negative Repeat count", recovered := false }] ∧ w' = w := Any.strings_Repeat_negative Tryd.lays105 s c w hc
open Go.RowKit Go.Lib in
/-- len(s) * count is no int: ".. or if the result of (len(s) * count) overflows". (LAID: no walk: one application.) -/
theorem Tryd.strings_Repeat_overflow (s : ByteArray) (c : Nat) (w : World) (hc : c ≤ 9223372036854775807) (hs : s.size ≤ 9223372036854775807) (hbig : 9223372036854775807 < s.size * c) :
    Calls Tryd.prog 36 #[.string s, .int .i64 c] w fun e w' => e = .panicked [{ v := repeatPanic Tryd.lays105_ren "strings: Repeat output length overflow", recovered := false }] ∧ w' = w := Any.strings_Repeat_overflow Tryd.lays105 s c w hc hs hbig
open Go.RowKit Go.Lib in
/-- **strings.Repeat: count ≥ 0, the result within one allocation: count copies of s.** (LAID: no walk: one application.) -/
theorem Tryd.strings_Repeat (s : ByteArray) (c : Nat) (w : World) (hc : c ≤ 9223372036854775807) (hlen : s.size * c ≤ 140737488355328) :
    Calls Tryd.prog 36 #[.string s, .int .i64 c] w fun e w' => e = .returned (.string ⟨(Lib.repeatL s.data.toList c).toArray⟩) ∧ Below w.heap.size w w' := Any.strings_Repeat Tryd.lays105 Tryd.Builder_Extra_105 s c w hc hlen
def Tryd.lays260_ren : Go.Shelf.Ren := ⟨fun | 260 => 138 | n => n, fun | 9 => 9 | 21 => 21 | 3 => 3 | 4 => 4 | 5 => 5 | 119 => 155 | 0 => 0 | 46 => 97 | 139 => 158 | 138 => 157 | n => n, fun | 3 => 1 | 4 => 2 | n => n⟩
theorem Tryd.lays260 : Go.Proofs.Lays.n260 Tryd.prog Tryd.lays260_ren := {
  mixed := by kernel_rfl
  f260 := Tryd.func138.trans (congrArg some (by kernel_rfl))
  t0 := Tryd.underlying0
  a0 := Tryd.isAgg0
  z0 := Tryd.sizeOf0
  v0 := Tryd.zeroValue0
  t3 := Tryd.underlying3
  a3 := Tryd.isAgg3
  z3 := Tryd.sizeOf3
  v3 := Tryd.zeroValue3
  t4 := Tryd.underlying4
  a4 := Tryd.isAgg4
  z4 := Tryd.sizeOf4
  v4 := Tryd.zeroValue4
  t5 := Tryd.underlying5
  a5 := Tryd.isAgg5
  z5 := Tryd.sizeOf5
  v5 := Tryd.zeroValue5
  t9 := Tryd.underlying9
  a9 := Tryd.isAgg9
  z9 := Tryd.sizeOf9
  v9 := Tryd.zeroValue9
  t21 := Tryd.underlying21
  a21 := Tryd.isAgg21
  z21 := Tryd.sizeOf21
  v21 := Tryd.zeroValue21
  t46 := Tryd.underlying97
  a46 := Tryd.isAgg97
  z46 := Tryd.sizeOf97
  v46 := Tryd.zeroValue97
  t119 := Tryd.underlying155
  a119 := Tryd.isAgg155
  z119 := Tryd.sizeOf155
  t138 := Tryd.underlying157
  a138 := Tryd.isAgg157
  z138 := Tryd.sizeOf157
  v138 := Tryd.zeroValue157
  t139 := Tryd.underlying158
  a139 := Tryd.isAgg158
  z139 := Tryd.sizeOf158
  v139 := Tryd.zeroValue158
  g3 := by kernel_rfl
  g4 := by kernel_rfl }
open Go.RowKit Go.Lib in
theorem Tryd.utf8_decodeRuneInStringSlow (s : ByteArray) (w : World) (hT : Lib.Utf8Tabs 1 2 w) :
    Calls Tryd.prog 138 #[.string s] w fun e w' => e = .returned (.tuple #[.int .i32 (Lib.decodeGo s).1, .int .i64 (Lib.decodeGo s).2]) ∧ Below w.heap.size w w' := Any.utf8_decodeRuneInStringSlow Tryd.lays260 s w hT
def Tryd.lays197_ren : Go.Shelf.Ren := ⟨fun | 197 => 118 | 260 => 138 | n => n, fun | 9 => 9 | 21 => 21 | 3 => 3 | 4 => 4 | 5 => 5 | 105 => 141 | 119 => 155 | 0 => 0 | 46 => 97 | 139 => 158 | 138 => 157 | n => n, fun | 3 => 1 | 4 => 2 | n => n⟩
theorem Tryd.lays197 : Go.Proofs.Lays.n197 Tryd.prog Tryd.lays197_ren := {
  mixed := by kernel_rfl
  f197 := Tryd.func118.trans (congrArg some (by kernel_rfl))
  f260 := Tryd.func138.trans (congrArg some (by kernel_rfl))
  t0 := Tryd.underlying0
  a0 := Tryd.isAgg0
  z0 := Tryd.sizeOf0
  v0 := Tryd.zeroValue0
  t3 := Tryd.underlying3
  a3 := Tryd.isAgg3
  z3 := Tryd.sizeOf3
  v3 := Tryd.zeroValue3
  t4 := Tryd.underlying4
  a4 := Tryd.isAgg4
  z4 := Tryd.sizeOf4
  v4 := Tryd.zeroValue4
  t5 := Tryd.underlying5
  a5 := Tryd.isAgg5
  z5 := Tryd.sizeOf5
  v5 := Tryd.zeroValue5
  t9 := Tryd.underlying9
  a9 := Tryd.isAgg9
  z9 := Tryd.sizeOf9
  v9 := Tryd.zeroValue9
  t21 := Tryd.underlying21
  a21 := Tryd.isAgg21
  z21 := Tryd.sizeOf21
  v21 := Tryd.zeroValue21
  t46 := Tryd.underlying97
  a46 := Tryd.isAgg97
  z46 := Tryd.sizeOf97
  v46 := Tryd.zeroValue97
  t105 := Tryd.underlying141
  a105 := Tryd.isAgg141
  z105 := Tryd.sizeOf141
  v105 := Tryd.zeroValue141
  t119 := Tryd.underlying155
  a119 := Tryd.isAgg155
  z119 := Tryd.sizeOf155
  t138 := Tryd.underlying157
  a138 := Tryd.isAgg157
  z138 := Tryd.sizeOf157
  v138 := Tryd.zeroValue157
  t139 := Tryd.underlying158
  a139 := Tryd.isAgg158
  z139 := Tryd.sizeOf158
  v139 := Tryd.zeroValue158
  g3 := by kernel_rfl
  g4 := by kernel_rfl }
open Go.RowKit Go.Lib in
/-- **unicode/utf8.DecodeRuneInString AT EVERY STRING.** (LAID: no walk: one application.) -/
theorem Tryd.utf8_DecodeRuneInString (s : ByteArray) (w : World) (hT : Lib.Utf8Tabs 1 2 w) :
    Calls Tryd.prog 118 #[.string s] w fun e w' => e = .returned (.tuple #[.int .i32 (Lib.decodeGo s).1, .int .i64 (Lib.decodeGo s).2]) ∧ Below w.heap.size w w' := Any.utf8_DecodeRuneInString Tryd.lays197 s w hT
def Tryd.lays108_ren : Go.Shelf.Ren := ⟨fun | 108 => 70 | n => n, fun | 28 => 22 | 3 => 3 | 0 => 0 | 4 => 4 | n => n, fun | n => n⟩
theorem Tryd.lays108 : Go.Proofs.Lays.n108 Tryd.prog Tryd.lays108_ren := {
  mixed := by kernel_rfl
  f108 := Tryd.func70.trans (congrArg some (by kernel_rfl))
  t0 := Tryd.underlying0
  a0 := Tryd.isAgg0
  z0 := Tryd.sizeOf0
  v0 := Tryd.zeroValue0
  t3 := Tryd.underlying3
  a3 := Tryd.isAgg3
  z3 := Tryd.sizeOf3
  v3 := Tryd.zeroValue3
  t4 := Tryd.underlying4
  a4 := Tryd.isAgg4
  z4 := Tryd.sizeOf4
  v4 := Tryd.zeroValue4
  t28 := Tryd.underlying22
  a28 := Tryd.isAgg22
  z28 := Tryd.sizeOf22
  v28 := Tryd.zeroValue22 }
open Go.Lib in
/-- slices.Index at []int: "Index returns the index of the first occurrence of v in s, or -1 if not present.": IT RETURNS 'Lib.idxOf (the elements) v'; the world is as it was. 'zs': what the cells behind the slice's address hold (its spare capacity too, if you have it); 'zs.take n': its elements. (LAID: no walk: one application.) -/
theorem Tryd.slices_Index_int (b off n c : Nat) (zs : List Int) (x : Int) (w : World) (hz : n ≤ zs.length) (hbig : n ≤ 9223372036854775807) (hc : ∀ j, j < zs.length → w.cell? ⟨b, off + j, none⟩ = some (.int .i64 (zs.getD j 0))) :
    Calls Tryd.prog 70 #[.slice (some ⟨b, off, none⟩) n c, .int .i64 x] w fun e w' => e = .returned (.int .i64 (Lib.idxOf (zs.take n) x)) ∧ w' = w := Any.slices_Index_int Tryd.lays108 b off n c zs x w hz hbig hc
open Go.Lib in
/-- The same at a slice of length 0, a nil one too: no cell is known, none is asked for. (LAID: no walk: one application.) -/
theorem Tryd.slices_Index_int_empty (a : Option Addr) (c : Nat) (x : Int) (w : World) :
    Calls Tryd.prog 70 #[.slice a 0 c, .int .i64 x] w fun e w' => e = .returned (.int .i64 (Lib.idxOf [] x)) ∧ w' = w := Any.slices_Index_int_empty Tryd.lays108 a c x w
def Tryd.lays107_ren : Go.Shelf.Ren := ⟨fun | 107 => 34 | 108 => 70 | n => n, fun | 28 => 22 | 3 => 3 | 4 => 4 | 0 => 0 | n => n, fun | n => n⟩
theorem Tryd.lays107 : Go.Proofs.Lays.n107 Tryd.prog Tryd.lays107_ren := {
  mixed := by kernel_rfl
  f107 := Tryd.func34.trans (congrArg some (by kernel_rfl))
  f108 := Tryd.func70.trans (congrArg some (by kernel_rfl))
  t0 := Tryd.underlying0
  a0 := Tryd.isAgg0
  z0 := Tryd.sizeOf0
  v0 := Tryd.zeroValue0
  t3 := Tryd.underlying3
  a3 := Tryd.isAgg3
  z3 := Tryd.sizeOf3
  v3 := Tryd.zeroValue3
  t4 := Tryd.underlying4
  a4 := Tryd.isAgg4
  z4 := Tryd.sizeOf4
  v4 := Tryd.zeroValue4
  t28 := Tryd.underlying22
  a28 := Tryd.isAgg22
  z28 := Tryd.sizeOf22
  v28 := Tryd.zeroValue22 }
open Go.Lib in
/-- slices.Contains at []int: "Contains reports whether v is present in s.": IT RETURNS 'elements.contains v'; the world is as it was. ITS CALLEE slices.Index IS MET BY ITS OWN CONTRACT OFF THE SHELF (lay that first): no loop is walked here. (LAID: no walk: one application.) -/
theorem Tryd.slices_Contains_int (b off n c : Nat) (zs : List Int) (x : Int) (w : World) (hz : n ≤ zs.length) (hbig : n ≤ 9223372036854775807) (hc : ∀ j, j < zs.length → w.cell? ⟨b, off + j, none⟩ = some (.int .i64 (zs.getD j 0))) :
    Calls Tryd.prog 34 #[.slice (some ⟨b, off, none⟩) n c, .int .i64 x] w fun e w' => e = .returned (.bool ((zs.take n).contains x)) ∧ w' = w := Any.slices_Contains_int Tryd.lays107 b off n c zs x w hz hbig hc
open Go.Lib in
/-- The same at a slice of length 0, a nil one too. (LAID: no walk: one application.) -/
theorem Tryd.slices_Contains_int_empty (a : Option Addr) (c : Nat) (x : Int) (w : World) :
    Calls Tryd.prog 34 #[.slice a 0 c, .int .i64 x] w fun e w' => e = .returned (.bool false) ∧ w' = w := Any.slices_Contains_int_empty Tryd.lays107 a c x w
def Tryd.lays109_ren : Go.Shelf.Ren := ⟨fun | 109 => 62 | n => n, fun | 31 => 26 | 9 => 9 | 3 => 3 | 0 => 0 | 4 => 4 | n => n, fun | n => n⟩
theorem Tryd.lays109 : Go.Proofs.Lays.n109 Tryd.prog Tryd.lays109_ren := {
  mixed := by kernel_rfl
  f109 := Tryd.func62.trans (congrArg some (by kernel_rfl))
  t0 := Tryd.underlying0
  a0 := Tryd.isAgg0
  z0 := Tryd.sizeOf0
  v0 := Tryd.zeroValue0
  t3 := Tryd.underlying3
  a3 := Tryd.isAgg3
  z3 := Tryd.sizeOf3
  v3 := Tryd.zeroValue3
  t4 := Tryd.underlying4
  a4 := Tryd.isAgg4
  z4 := Tryd.sizeOf4
  v4 := Tryd.zeroValue4
  t9 := Tryd.underlying9
  a9 := Tryd.isAgg9
  z9 := Tryd.sizeOf9
  v9 := Tryd.zeroValue9
  t31 := Tryd.underlying26
  a31 := Tryd.isAgg26
  z31 := Tryd.sizeOf26
  v31 := Tryd.zeroValue26 }
open Go.Lib in
/-- slices.Index at []string: "Index returns the index of the first occurrence of v in s, or -1 if not present.": IT RETURNS 'Lib.idxOfS (the elements) v'; the world is as it was. 'zs': what the cells behind the slice's address hold (its spare capacity too, if you have it); 'zs.take n': its elements. (LAID: no walk: one application.) -/
theorem Tryd.slices_Index_string (b off n c : Nat) (zs : List ByteArray) (x : ByteArray) (w : World) (hz : n ≤ zs.length) (hbig : n ≤ 9223372036854775807) (hc : ∀ j, j < zs.length → w.cell? ⟨b, off + j, none⟩ = some (.string (zs.getD j ByteArray.empty))) :
    Calls Tryd.prog 62 #[.slice (some ⟨b, off, none⟩) n c, .string x] w fun e w' => e = .returned (.int .i64 (Lib.idxOfS (zs.take n) x)) ∧ w' = w := Any.slices_Index_string Tryd.lays109 b off n c zs x w hz hbig hc
open Go.Lib in
/-- The same at a slice of length 0, a nil one too: no cell is known, none is asked for. (LAID: no walk: one application.) -/
theorem Tryd.slices_Index_string_empty (a : Option Addr) (c : Nat) (x : ByteArray) (w : World) :
    Calls Tryd.prog 62 #[.slice a 0 c, .string x] w fun e w' => e = .returned (.int .i64 (Lib.idxOfS [] x)) ∧ w' = w := Any.slices_Index_string_empty Tryd.lays109 a c x w
def Tryd.lays110_ren : Go.Shelf.Ren := ⟨fun | 110 => 29 | 109 => 62 | n => n, fun | 31 => 26 | 9 => 9 | 4 => 4 | 3 => 3 | 0 => 0 | n => n, fun | n => n⟩
theorem Tryd.lays110 : Go.Proofs.Lays.n110 Tryd.prog Tryd.lays110_ren := {
  mixed := by kernel_rfl
  f109 := Tryd.func62.trans (congrArg some (by kernel_rfl))
  f110 := Tryd.func29.trans (congrArg some (by kernel_rfl))
  t0 := Tryd.underlying0
  a0 := Tryd.isAgg0
  z0 := Tryd.sizeOf0
  v0 := Tryd.zeroValue0
  t3 := Tryd.underlying3
  a3 := Tryd.isAgg3
  z3 := Tryd.sizeOf3
  v3 := Tryd.zeroValue3
  t4 := Tryd.underlying4
  a4 := Tryd.isAgg4
  z4 := Tryd.sizeOf4
  v4 := Tryd.zeroValue4
  t9 := Tryd.underlying9
  a9 := Tryd.isAgg9
  z9 := Tryd.sizeOf9
  v9 := Tryd.zeroValue9
  t31 := Tryd.underlying26
  a31 := Tryd.isAgg26
  z31 := Tryd.sizeOf26
  v31 := Tryd.zeroValue26 }
open Go.Lib in
/-- slices.Contains at []string: "Contains reports whether v is present in s.": IT RETURNS 'Lib.containsS (the elements) v', which is true just where v is among them ('Lib.containsS_iff'); the world is as it was. ITS CALLEE slices.Index IS MET BY ITS OWN CONTRACT OFF THE SHELF (lay that first): no loop is walked here. (LAID: no walk: one application.) -/
theorem Tryd.slices_Contains_string (b off n c : Nat) (zs : List ByteArray) (x : ByteArray) (w : World) (hz : n ≤ zs.length) (hbig : n ≤ 9223372036854775807) (hc : ∀ j, j < zs.length → w.cell? ⟨b, off + j, none⟩ = some (.string (zs.getD j ByteArray.empty))) :
    Calls Tryd.prog 29 #[.slice (some ⟨b, off, none⟩) n c, .string x] w fun e w' => e = .returned (.bool (Lib.containsS (zs.take n) x)) ∧ w' = w := Any.slices_Contains_string Tryd.lays110 b off n c zs x w hz hbig hc
open Go.Lib in
/-- The same at a slice of length 0, a nil one too. (LAID: no walk: one application.) -/
theorem Tryd.slices_Contains_string_empty (a : Option Addr) (c : Nat) (x : ByteArray) (w : World) :
    Calls Tryd.prog 29 #[.slice a 0 c, .string x] w fun e w' => e = .returned (.bool false) ∧ w' = w := Any.slices_Contains_string_empty Tryd.lays110 a c x w
theorem Tryd.strings_Trim_ascii (s cutset : ByteArray) (w : World) (hs : s.size ≤ 9223372036854775807) (hcs : cutset.size < 4294967281) (hascii : ∀ (j : Nat) b, cutset.data.toList[j]? = some b → b.toNat < 128) :
    Calls Tryd.prog 40 #[.string s, .string cutset] w fun e w' => e = .returned (.string ⟨(Lib.trimS s.data.toList cutset.data.toList).toArray⟩) ∧ Go.RowKit.Below w.heap.size w w' := Any.strings_Trim_laid Tryd.lays160 (by kernel_rfl) s cutset w hs hcs hascii
end Go.Proofs

/- slices.Backward over a zone's shifts, and the reference's clock: their walks. No condition. -/
set_option linter.unusedVariables false
set_option linter.unusedSimpArgs false
namespace Go.Proofs
open Go.RowKit Go.Shelf
attribute [local go_sem] Oper.semAt_some

/-- What has come when k rounds are over. -/
def Clk.upto {α : Type} (f : Nat → α) (k : Nat) : List α := (List.range k).map f
theorem Clk.upto_succ {α : Type} (f : Nat → α) (k : Nat) : Clk.upto f (k + 1) = Clk.upto f k ++ [f k] := by simp [Clk.upto, List.range_succ]
theorem Clk.upto_length {α : Type} (f : Nat → α) (k : Nat) : (Clk.upto f k).length = k := by simp [Clk.upto]
/-- The k-th that comes: index, at, offset. -/
def Clk.nth (zs : List (Int × Int)) (k : Nat) : Nat × Int × Int := (zs.length - 1 - k, zs[zs.length - 1 - k]?.getD (0, 0))
def Clk.enc (x : Nat × Int × Int) : Array Value := #[.int .i64 (x.1 : Int), .agg #[.int .i64 x.2.1, .int .i64 x.2.2]]
set_option maxRecDepth 100000 in
set_option maxHeartbeats 2000000 in
theorem Clk.back1_in (F : Fence) (n : Nat) (h7 : F.fn 112) (hro : F.round = none) (hn : 1 ≤ n) (l Bs n₀ b off cap : Nat) (zs : List (Int × Int)) (hreach : zs.length ≤ 1048576) (hb : b < n₀) (J Jx : List (Nat × Int × Int) → World → Prop)
    (hY : ∀ pre x W, J pre W → pre.length < zs.length → YieldAt F (n - 1) Tryd.prog l (Clk.enc x) W fun e W' =>
      (e = .returned (.bool true) ∧ J (pre ++ [x]) W' ∧ Below n₀ W W') ∨ (e = .returned (.bool false) ∧ Jx (pre ++ [x]) W'))
    (W : World) (hBs : W.cell? ⟨Bs, 0, none⟩ = some (.slice (some ⟨b, off, none⟩) zs.length cap)) (hBsn : Bs < n₀) (hc : ∀ j, j < zs.length → W.cell? ⟨b, off + j * 2, none⟩ = some (.int .i64 (zs[j]?.getD (0, 0)).1) ∧ W.cell? ⟨b, off + j * 2 + 1, none⟩ = some (.int .i64 (zs[j]?.getD (0, 0)).2)) (h0 : J [] W) :
    CallsIn F n Tryd.prog 112 #[.func (.yield l) #[] #[], .pointer (some ⟨Bs, 0, none⟩)] W fun e W' => (∃ v, e = .returned v) ∧
      ((∃ ys, ys = Clk.upto (Clk.nth zs) zs.length ∧ J ys W') ∨ (∃ pre, (∃ k, k ≤ zs.length ∧ pre = Clk.upto (Clk.nth zs) k) ∧ Jx pre W')) := by
  refine callsIn_of_wp Tryd.func112 rfl h7 ?_ hro
  simp only [Tryd.ntmps112, List.size_toArray, List.length_cons, List.length_nil, Nat.reduceAdd, Nat.reduceSub, Array.replicate_succ, Array.replicate_zero, List.push_toArray, List.append_toArray, List.nil_append, List.cons_append]
  gi_wp2
  gi_loopw [3] (fun i wr => ∃ k : Nat, k ≤ zs.length ∧ i = .int .i64 ((zs.length : Int) - 1 - k) ∧ J (Clk.upto (Clk.nth zs) k) wr ∧ Below n₀ W wr)
    (fun i _ => (intOf i + 1).toNat)
  case atStart => exact ⟨0, Nat.zero_le _, by simp, h0, Below.refl _ _⟩
  case round =>
    obtain ⟨k, hk, rfl, hJs, hnx⟩ := hrel
    by_cases hlt : k < zs.length
    · have hce := hc (zs.length - 1 - k) (by omega)
      have hc1 := (hnx.cell (p := ⟨b, off + (zs.length - 1 - k) * 2, none⟩) hb).trans hce.1
      have hc2 := (hnx.cell (p := ⟨b, off + (zs.length - 1 - k) * 2 + 1, none⟩) hb).trans hce.2
      have hBs' := (hnx.cell (p := ⟨Bs, 0, none⟩) hBsn).trans hBs
      obtain ⟨fn, tmps, assign, body, hy, hR⟩ := hY _ (Clk.nth zs k) wr hJs (by rw [Clk.upto_length]; exact hlt)
      have ei : ((zs.length : Int) - 1 - k) = ((zs.length - 1 - k : Nat) : Int) := by omega
      simp only [Clk.enc, Clk.nth] at hy hR
      rw [ei]
      gi_wp2
      refine hR.mono ?_
      rintro e W3 (⟨rfl, hJ3, hk3⟩ | ⟨rfl, hJx3⟩)
      · gi_wp2
        go_roundw
        case rel => exact ⟨k + 1, by omega, by simp; omega, by rw [Clk.upto_succ]; exact hJ3, hnx.trans hk3⟩
        case measure => simp [intOf] <;> omega
      · gi_wp2
        refine bodyPost_ret (results_none rfl _ _ _) rfl ?_
        exact ⟨⟨_, rfl⟩, .inr ⟨_, ⟨k + 1, by omega, (Clk.upto_succ _ _).symm⟩, hJx3⟩⟩
    · obtain rfl : k = zs.length := by omega
      have e1 : ((zs.length : Int) - 1 - zs.length) = -1 := by omega
      rw [e1]
      gi_wp2
      go_end0
      exact ⟨⟨_, rfl⟩, .inl ⟨_, rfl, hJs⟩⟩
set_option maxRecDepth 100000 in
set_option maxHeartbeats 1000000 in
theorem Clk.back1_nil_in (F : Fence) (n : Nat) (h7 : F.fn 112) (hro : F.round = none) (l Bs : Nat) (A : Option Addr) (cap : Nat) (J : List (Nat × Int × Int) → World → Prop) (W : World) (hBs : W.cell? ⟨Bs, 0, none⟩ = some (.slice A 0 cap)) (h0 : J [] W) :
    CallsIn F n Tryd.prog 112 #[.func (.yield l) #[] #[], .pointer (some ⟨Bs, 0, none⟩)] W fun e W' => (∃ v, e = .returned v) ∧ J [] W' := by
  refine callsIn_of_wp Tryd.func112 rfl h7 ?_ hro
  simp only [Tryd.ntmps112, List.size_toArray, List.length_cons, List.length_nil, Nat.reduceAdd, Nat.reduceSub, Array.replicate_succ, Array.replicate_zero, List.push_toArray, List.append_toArray, List.nil_append, List.cons_append]
  gi_wp2
  gi_loopw [3] (fun i wr => i = .int .i64 (-1) ∧ J [] wr) (fun _ _ => 0)
  case atStart => exact ⟨rfl, h0⟩
  case round =>
    obtain ⟨rfl, hJs⟩ := hrel
    gi_wp2
    go_end0
    exact ⟨⟨_, rfl⟩, hJs⟩
set_option maxHeartbeats 1000000 in
theorem Clk.back_in (F : Fence) (n : Nat) (h5 : F.fn 69) (hro : F.round = none) (a : Option Addr) (len cap : Nat) (w : World) :
    CallsIn F n Tryd.prog 69 #[.slice a len cap] w fun e w' => e = .returned (.func (.func 112) #[] #[.pointer (some ⟨w.heap.size, 0, none⟩)]) ∧ w' = w.alloc (.cells #[.slice a len cap] 32) := by
  refine callsIn_of_wp Tryd.func69 rfl h5 ?_ hro
  simp only [Tryd.ntmps69, List.size_toArray, List.length_cons, List.length_nil, Nat.reduceAdd, Nat.reduceSub, Array.replicate_succ, Array.replicate_zero, List.push_toArray, List.append_toArray, List.nil_append, List.cons_append]
  gi_wp2
  go_ret
  exact ⟨rfl, rfl⟩
/-- The slice value sv holds the shifts zs, in a block below n₀; or there are none. -/
def Clk.Shifts (n₀ : Nat) (W : World) (sv : Value) (zs : List (Int × Int)) : Prop :=
  (∃ A cap, sv = .slice A 0 cap ∧ zs = []) ∨ ∃ b off cap, sv = .slice (some ⟨b, off, none⟩) zs.length cap ∧ b < n₀ ∧ ∀ j, j < zs.length → W.cell? ⟨b, off + j * 2, none⟩ = some (.int .i64 (zs[j]?.getD (0, 0)).1) ∧ W.cell? ⟨b, off + j * 2 + 1, none⟩ = some (.int .i64 (zs[j]?.getD (0, 0)).2)
theorem Clk.Shifts.below {n₀ : Nat} {A B : World} (h : Below n₀ A B) {sv : Value} {zs : List (Int × Int)} : Clk.Shifts n₀ A sv zs → Clk.Shifts n₀ B sv zs
  | .inl e => .inl e
  | .inr ⟨b, off, cap, e, hb, hc⟩ => .inr ⟨b, off, cap, e, hb, fun j hj => ⟨(h.cell (p := ⟨b, off + j * 2, none⟩) hb).trans (hc j hj).1, (h.cell (p := ⟨b, off + j * 2 + 1, none⟩) hb).trans (hc j hj).2⟩⟩
theorem Clk.back_stops (F : Fence) (n : Nat) (h7 : F.fn 112) (hro : F.round = none) (hn : 1 ≤ n) (Bs n₀ : Nat) (sv : Value) (zs : List (Int × Int)) (hreach : zs.length ≤ 1048576) (w : World) (hBs : Bs < n₀) (hn₀ : n₀ ≤ w.heap.size)
    (hc : w.cell? ⟨Bs, 0, none⟩ = some sv) (hI : Clk.Shifts n₀ w sv zs) :
    SeqStopsK F n Tryd.prog 112 #[.pointer (some ⟨Bs, 0, none⟩)] Clk.enc (Below n₀) (fun ys => ys = Clk.upto (Clk.nth zs) zs.length) (fun pre => ∃ k, k ≤ zs.length ∧ pre = Clk.upto (Clk.nth zs) k) zs.length w := fun l J Jx W hW _ _ hY h0 => by
  have hc' := (hW.cell (p := ⟨Bs, 0, none⟩) (show Bs < w.heap.size by omega)).trans hc
  rcases hI.below (hW.mono hn₀) with ⟨A, cap, rfl, rfl⟩ | ⟨b, off, cap, rfl, hb, hcs⟩
  · exact (Clk.back1_nil_in F n h7 hro l Bs A cap J W hc' h0).mono fun e W' ⟨he, hj⟩ => ⟨he, .inl ⟨_, rfl, hj⟩⟩
  · exact Clk.back1_in F n h7 hro hn l Bs n₀ b off cap zs hreach hb J Jx hY W hc' hBs hcs h0
/-- The clock: the last shift that has come to pass, else none. -/
def Clk.hit (m : Int) (x : Nat × Int × Int) : Bool := decide (x.2.1 ≤ m)
def Clk.clock (m : Int) (zs : List (Int × Int)) : Int := match (Clk.upto (Clk.nth zs) zs.length).find? (Clk.hit m) with
  | some x => wrap64 (m + x.2.2)
  | none => m
theorem Clk.clock_none {m : Int} {zs : List (Int × Int)} (h : ∀ p ∈ Clk.upto (Clk.nth zs) zs.length, Clk.hit m p = false) : Clk.clock m zs = m := by
  unfold Clk.clock
  rw [List.find?_eq_none.2 (fun x hx => by rw [h x hx]; decide)]
theorem Clk.upto_split {α : Type} (f : Nat → α) {k n : Nat} (h : k ≤ n) : ∃ r, Clk.upto f n = Clk.upto f k ++ r := by
  refine ⟨(Clk.upto f n).drop k, ?_⟩
  have : Clk.upto f k = (Clk.upto f n).take k := by
    unfold Clk.upto
    rw [← List.map_take, List.take_range, Nat.min_eq_left h]
  rw [this, List.take_append_drop]
theorem Clk.clock_some {m : Int} {zs : List (Int × Int)} {k : Nat} (hk : k ≤ zs.length) {ini : List (Nat × Int × Int)} {last : Nat × Int × Int} (e1 : Clk.upto (Clk.nth zs) k = ini ++ [last]) (e2 : ∀ p ∈ ini, Clk.hit m p = false) (e3 : Clk.hit m last = true) : Clk.clock m zs = wrap64 (m + last.2.2) := by
  obtain ⟨r, hr⟩ := Clk.upto_split (Clk.nth zs) hk
  unfold Clk.clock
  rw [hr, e1, List.append_assoc, List.find?_append, List.find?_eq_none.2 (fun x hx => by rw [e2 x hx]; decide)]
  simp [e3]
set_option maxRecDepth 100000 in
set_option maxHeartbeats 4000000 in
theorem Clk.Clock_in (F : Fence) (n : Nat) (h4 : F.fn 33) (h6 : F.fn 69) (h8 : F.fn 112) (hro : F.round = none) (hn : 3 ≤ n) (nm : ByteArray) (a : Option Addr) (len cap : Nat) (m : Int) (zs : List (Int × Int)) (hreach : zs.length ≤ 1048576) (w : World) (hI : Clk.Shifts w.heap.size w (.slice a len cap) zs) :
    CallsIn F n Tryd.prog 33 #[.agg #[.string nm, .slice a len cap], .int .i64 m] w fun e W' => e = .returned (.int .i64 (Clk.clock m zs)) ∧ Below w.heap.size w W' := by
  have h1 : 1 ≤ n := by omega
  refine callsIn_of_wp_marks Tryd.func33 rfl h4 ?_ hro
  simp only [Tryd.ntmps33, List.size_toArray, List.length_cons, List.length_nil, Nat.reduceAdd, Nat.reduceSub, Array.replicate_succ, Array.replicate_zero, List.push_toArray, List.append_toArray, List.nil_append, List.cons_append]
  gi_wp2_with (gi_at_call 69; refine (Clk.back_in F (n - 1) h6 hro _ _ _ _).mono ?_; rintro e w' ⟨rfl, rfl⟩)
  have bM := ((Boxed.new (w.alloc (.cells #[.string nm, .slice a len cap] 34)) 3 (.int .i64 m)).alloc (.cells #[.int .i64 0] 3)).alloc (.cells #[.slice a len cap] 32)
  have bR := (Boxed.new ((w.alloc (.cells #[.string nm, .slice a len cap] 34)).alloc (.cells #[.int .i64 m] 3)) 3 (.int .i64 0)).alloc (.cells #[.slice a len cap] 32)
  have bN := Boxed.new (((w.alloc (.cells #[.string nm, .slice a len cap] 34)).alloc (.cells #[.int .i64 m] 3)).alloc (.cells #[.int .i64 0] 3)) 32 (.slice a len cap)
  simp only [World.size_alloc] at bM bR bN
  have hB0 : Below w.heap.size w ((((w.alloc (.cells #[.string nm, .slice a len cap] 34)).alloc (.cells #[.int .i64 m] 3)).alloc (.cells #[.int .i64 0] 3)).alloc (.cells #[.slice a len cap] 32)) := ((((Below.refl _ w).alloc (Nat.le_refl _) _).alloc (by simp) _).alloc (by simp; omega) _).alloc (by simp; omega) _
  have hsz : ((((w.alloc (.cells #[.string nm, .slice a len cap] 34)).alloc (.cells #[.int .i64 m] 3)).alloc (.cells #[.int .i64 0] 3)).alloc (.cells #[.slice a len cap] 32)).heap.size = w.heap.size + 4 := by simp
  obtain ⟨W0, hW0⟩ : ∃ W0, (((w.alloc (.cells #[.string nm, .slice a len cap] 34)).alloc (.cells #[.int .i64 m] 3)).alloc (.cells #[.int .i64 0] 3)).alloc (.cells #[.slice a len cap] 32) = W0 := ⟨_, rfl⟩
  rw [hW0] at bM bR bN hB0 hsz ⊢
  clear hW0
  have hI0 : Clk.Shifts W0.heap.size W0 (.slice a len cap) zs := by
    rcases hI.below hB0 with e | ⟨b, off, cap', e1, hb, hc⟩
    · exact .inl e
    · exact .inr ⟨b, off, cap', e1, by omega, hc⟩
  refine wpIn_rangeFunc_ownH hro h1 (gf := 112) (lb := #[.pointer (some ⟨w.heap.size + 1 + 1 + 1, 0, none⟩)]) rfl h8 (enters_of Tryd.func112 (by kernel_rfl) rfl)
    (Clk.back_stops F (n - 1) h8 hro (by omega) (w.heap.size + 1 + 1 + 1) W0.heap.size _ zs hreach W0 (by omega) (Nat.le_refl _) bN.cell hI0) belowK_t (belowK_b (Nat.le_refl _)) (Below.refl _ _) (fun _ => rfl)
    (fun pre W => ((∀ p ∈ pre, Clk.hit m p = false) ∧ Boxed W (w.heap.size + 1) 3 (.int .i64 m) ∧ Boxed W (w.heap.size + 1 + 1) 3 (.int .i64 0)) ∧ (Below w.heap.size w W ∧ Below W0.heap.size W0 W))
    (fun c pre W => (c = .ret ∧ ∃ ini last, pre = ini ++ [last] ∧ (∀ p ∈ ini, Clk.hit m p = false) ∧ Clk.hit m last = true ∧ Boxed W (w.heap.size + 1 + 1) 3 (.int .i64 (wrap64 (m + last.2.2)))) ∧ Below w.heap.size w W)
    ?hI ?hIx ?h0
    (fun x a' W => ∃ Bx, W0.heap.size ≤ Bx ∧ (W.cell? ⟨Bx, 0, none⟩ = some (.int .i64 x.2.1) ∧ W.cell? ⟨Bx, 1, none⟩ = some (.int .i64 x.2.2)) ∧ a' = { tmps := #[.agg #[.string nm, .slice a len cap], .int .i64 m, .pointer (some ⟨w.heap.size, 0, none⟩), .pointer (some ⟨w.heap.size + 1, 0, none⟩), .pointer (some ⟨w.heap.size + 1 + 1, 0, none⟩), undef, .pointer (some ⟨Bx, 0, none⟩), .pointer (some ⟨w.heap.size, 1, none⟩), .slice a len cap, .func (.func 112) #[] #[.pointer (some ⟨w.heap.size + 1 + 1 + 1, 0, none⟩)], .int .i64 (x.1 : Int), .agg #[.int .i64 x.2.1, .int .i64 x.2.2], undef, undef, undef, undef, undef, undef, undef, undef, undef], defers := [] })
    ?hAx ?assign ?body ?done ?stop
  case hI => exact OwnFrom.and (Own.from (fun s A B row hs hg hr => ⟨hs.1, boxed_own _ _ (fun _ => Value.int .i64 m) () A B row hs.2.1 hg hr, boxed_own _ _ (fun _ => Value.int .i64 0) () A B row hs.2.2 hg hr⟩) _) (OwnFrom.and (ownFrom_below (Nat.le_refl _) (by omega)) (ownFrom_below (Nat.le_refl _) (Nat.le_refl _)))
  case hIx => exact fun c => OwnFrom.and (Own.from (fun s A B row hs hg hr => by obtain ⟨hc, ini, last, e1, e2, e3, e4⟩ := hs; exact ⟨hc, ini, last, e1, e2, e3, boxed_own _ _ (fun _ => Value.int .i64 (wrap64 (m + last.2.2))) () A B row e4 hg hr⟩) _) (ownFrom_below (Nat.le_refl _) (by omega))
  case h0 => exact ⟨⟨by simp, bM, bR⟩, hB0, Below.refl _ _⟩
  case hAx => exact fun x a' => Own.from (fun s A B row hs hg hr => by obtain ⟨Bx, h1, h2, h3⟩ := hs; exact ⟨Bx, h1, ⟨cell_kept h2.1 hg hr, cell_kept h2.2 hg hr⟩, h3⟩) _
  case assign =>
    rintro l pre x W K ⟨⟨hp, bM1, bR1⟩, hB1, hB2⟩ hK
    dsimp only [Clk.enc]
    gi_wp2
    have hs1 := hB2.size
    refine hK _ _ ((KeepsOthers.alloc _ _).from _) ((Below.refl _ W).alloc hs1 _) ⟨⟨hp, bM1.alloc _, bR1.alloc _⟩, hB1.alloc hB1.size _, hB2.alloc hs1 _⟩ ⟨W.heap.size, hs1, ⟨?_, ?_⟩, rfl⟩
    · unfold World.cell?
      rw [World.alloc_heap_new]
      rfl
    · unfold World.cell?
      rw [World.alloc_heap_new]
      rfl
  case body =>
    rintro l pre x a' W hl ⟨r, hr⟩ ⟨⟨hp, bM1, bR1⟩, hB1, hB2⟩ ⟨Bx, hBx, ⟨hc1, hc2⟩, rfl⟩ hlt
    have cM := bM1.cell
    have cR := bR1.cell
    have fR := bR1.frozen
    gi_wp2
    · have hx : x.2.1 ≤ m := by assumption
      exact ⟨(KeepsOthers.setCell _ _ _).from _, ⟨rfl, pre, x, rfl, hp, decide_eq_true hx, bR1.set _⟩, hB1.setCell (p := ⟨w.heap.size + 1 + 1, 0, none⟩) (by show _ ≤ w.heap.size + 1 + 1; omega) _⟩
    · have hx : ¬ x.2.1 ≤ m := by first | assumption | (rename_i hx; omega)
      exact ⟨KeepsFrom.refl _ _, Below.refl _ _, ⟨⟨fun p hp' => (List.mem_append.1 hp').elim (hp p) (fun e => by rw [List.mem_singleton] at e; subst e; exact decide_eq_false hx), bM1, bR1⟩, hB1, hB2⟩⟩
  case done =>
    rintro D ys W hD rfl ⟨⟨hp, bM1, bR1⟩, hB1, hB2⟩ hK
    have cM := bM1.cell
    have cR := bR1.cell
    have fR := bR1.frozen
    gi_wp2
    have hK' := (KeepsOthers.setCell W ⟨w.heap.size + 1 + 1, 0, none⟩ (.int .i64 m)).same D _ hK rfl
    refine ⟨by simp, .inl ⟨_, _, rfl, run_takeDeferred hK', ?_⟩⟩
    have hc5 := cell_kept (World.cell?_setCell_same' W ⟨w.heap.size + 1 + 1, 0, none⟩ (.int .i64 m) (by rw [cR]; rfl)) (grownBy_putObj' _ D (.deferred none)) (fun r e => by cases e; exact ⟨_, hK', rfl⟩)
    refine ⟨.int .i64 m, ?_, by rw [Clk.clock_none hp], (hB1.setCell (p := ⟨w.heap.size + 1 + 1, 0, none⟩) (by show _ ≤ w.heap.size + 1 + 1; omega) _).trans (belowK_b (w := w) (Nat.le_refl _) _ D _ _ (by omega) hK' rfl rfl)⟩
    simp [results, Tryd.f33, go_sem, hc5]
  case stop =>
    rintro D c pre W hD ⟨k, hk, rfl⟩ ⟨⟨rfl, ini, last, e1, e2, e3, bR1⟩, hB⟩ hK
    have cR := bR1.cell
    gi_wp2
    refine ⟨by simp, .inl ⟨_, _, rfl, run_takeDeferred hK, ?_⟩⟩
    have hc5 := cell_kept cR (grownBy_putObj' _ D (.deferred none)) (fun r e => by cases e; exact ⟨_, hK, rfl⟩)
    refine ⟨.int .i64 (wrap64 (m + last.2.2)), ?_, by rw [Clk.clock_some hk e1 e2 e3], hB.trans (belowK_b (w := w) (Nat.le_refl _) W D _ _ (by omega) hK rfl rfl)⟩
    simp [results, Tryd.f33, go_sem, hc5]
end Go.Proofs

/- Strings as lists of numbers. No condition. -/
set_option linter.unusedVariables false
set_option linter.unusedSimpArgs false
namespace Go.Avc
open Go

/-- A string's bytes, as numbers. -/
def bl (s : ByteArray) : List Int := s.data.toList.map fun b => (b.toNat : Int)
/-- Numbers that are bytes. -/
def isBs (l : List Int) : Prop := ∀ x ∈ l, 0 ≤ x ∧ x ≤ 255
theorem bl_length (s : ByteArray) : (bl s).length = s.size := by
  unfold bl
  rw [List.length_map, Array.length_toList]
  rfl
theorem bl_bs (s : ByteArray) : isBs (bl s) := by
  intro x hx
  obtain ⟨b, _, rfl⟩ := List.mem_map.1 hx
  have := b.toNat_lt
  omega
theorem bt_bl (s : ByteArray) (i : Int) : bt s i = (bl s).getD i.toNat 0 := by
  unfold bt bl
  rw [List.getD_eq_getElem?_getD, List.getD_eq_getElem?_getD, List.getElem?_map]
  cases s.data.toList[i.toNat]? <;> rfl
theorem bl_extract (s : ByteArray) (a b : Nat) : bl (s.extract a b) = ((bl s).take b).drop a := by
  unfold bl
  rw [ByteArray.data_extract, Array.toList_extract, List.extract_eq_take_drop, ← List.map_take, ← List.map_drop, List.drop_take]
theorem bl_append (s t : ByteArray) : bl (s ++ t) = bl s ++ bl t := by
  unfold bl
  rw [ByteArray.data_append, Array.toList_append, List.map_append]
theorem u8_back (b : UInt8) : UInt8.ofNat ((b.toNat : Int)).toNat = b := by simp
theorem str_bl (s : ByteArray) : strOfNums (bl s) = s := by
  unfold strOfNums bl
  rw [List.map_map]
  have : ((fun n : Int => UInt8.ofNat n.toNat) ∘ fun b : UInt8 => (b.toNat : Int)) = id := by
    funext b; exact u8_back b
  rw [this, List.map_id, Array.toArray_toList]
theorem bl_str {l : List Int} (h : isBs l) : bl (strOfNums l) = l := by
  unfold bl
  rw [strOfNums_data, List.map_map]
  conv => rhs; rw [← List.map_id l]
  refine List.map_congr_left fun x hx => ?_
  obtain ⟨h0, h1⟩ := h x hx
  simp only [Function.comp, UInt8.toNat_ofNat', Nat.reducePow, id]
  omega
theorem bl_inj {s t : ByteArray} : bl s = bl t ↔ s = t := ⟨fun h => by rw [← str_bl s, h, str_bl], fun h => by rw [h]⟩
theorem str_inj {l m : List Int} (hl : isBs l) (hm : isBs m) (h : strOfNums l = strOfNums m) : l = m := by rw [← bl_str hl, h, bl_str hm]
theorem isBs_append {l m : List Int} : isBs (l ++ m) ↔ isBs l ∧ isBs m := by
  unfold isBs
  simp only [List.mem_append]
  exact ⟨fun h => ⟨fun x hx => h x (.inl hx), fun x hx => h x (.inr hx)⟩, fun h x hx => hx.elim (h.1 x) (h.2 x)⟩
theorem isBs_cons {x : Int} {l : List Int} : isBs (x :: l) ↔ (0 ≤ x ∧ x ≤ 255) ∧ isBs l := by
  unfold isBs
  simp only [List.mem_cons, forall_eq_or_imp]
theorem isBs_nil : isBs [] := fun x hx => by cases hx
theorem isBs_drop {l : List Int} (h : isBs l) (n : Nat) : isBs (l.drop n) := fun x hx => h x (List.mem_of_mem_drop hx)
theorem isBs_take {l : List Int} (h : isBs l) (n : Nat) : isBs (l.take n) := fun x hx => h x (List.mem_of_mem_take hx)
theorem str_app (l m : List Int) : strOfNums l ++ strOfNums m = strOfNums (l ++ m) := by
  apply ByteArray.ext
  apply Array.ext'
  rw [ByteArray.data_append, Array.toList_append, strOfNums_data, strOfNums_data, strOfNums_data, List.map_append]
theorem toList_eq_data (s : ByteArray) : s.toList = s.data.toList := by
  exact ByteArray.toList_eq s
theorem str_beq (s t : ByteArray) : (s.toList == t.toList) = decide (s = t) := by
  rw [toList_eq_data, toList_eq_data, Bool.eq_iff_iff]
  simp only [beq_iff_eq, decide_eq_true_eq]
  constructor
  · intro h
    apply ByteArray.ext
    exact Array.ext' h
  · intro h
    rw [h]
theorem getD_lt {α : Type} {l : List α} {i : Nat} {d : α} (h : i < l.length) : l.getD i d = l[i] := by
  rw [List.getD_eq_getElem?_getD, List.getElem?_eq_getElem h]; rfl
theorem drop_getD {l : List Int} {i : Nat} (h : i < l.length) : l.drop i = l.getD i 0 :: l.drop (i + 1) := by
  rw [getD_lt h, List.drop_eq_getElem_cons h]
end Go.Avc

/- Quoting: plain functions over lists of numbers, and that the program's and the reference's reading agree. No condition. -/
set_option linter.unusedVariables false
set_option linter.unusedSimpArgs false
namespace Go.Avc

def hexL : List Int := [48, 49, 50, 51, 52, 53, 54, 55, 56, 57, 97, 98, 99, 100, 101, 102]
def hexS : ByteArray := ⟨#[48, 49, 50, 51, 52, 53, 54, 55, 56, 57, 97, 98, 99, 100, 101, 102]⟩
theorem bl_hex : bl hexS = hexL := by decide
/-- Where a number stands in a list, or -1. -/
def ixL : List Int → Int → Int
  | [], _ => -1
  | b :: l, c => if b = c then 0 else if ixL l c = -1 then -1 else ixL l c + 1
def hid (c : Int) : Bool := (decide (c < 33) && (c != 10)) || decide (c ≥ 127)
/-- One byte quoted. -/
def q1 (c : Int) : List Int := if c = 34 ∨ c = 92 then [92, c] else if c = 10 then [92, 110] else if c < 33 ∨ c > 126 then [92, 120, hexL.getD (c / 16).toNat 0, hexL.getD (c % 16).toNat 0] else [c]
def quotedL (l : List Int) : List Int := 34 :: (l.flatMap q1 ++ [34])
theorem q1_len (c : Int) : 1 ≤ (q1 c).length ∧ (q1 c).length ≤ 4 := by
  unfold q1
  repeat' split
  all_goals simp
theorem hex_bs (k : Nat) : 0 ≤ hexL.getD k 0 ∧ hexL.getD k 0 ≤ 255 := by
  by_cases h : k < 16
  · have : ∀ k < 16, 0 ≤ hexL.getD k 0 ∧ hexL.getD k 0 ≤ 255 := by decide
    exact this k h
  · rw [List.getD_eq_getElem?_getD, List.getElem?_eq_none (by simp [hexL]; omega)]
    decide
theorem q1_bs {c : Int} (h : 0 ≤ c ∧ c ≤ 255) : isBs (q1 c) := by
  unfold q1
  have h1 := hex_bs (c / 16).toNat
  have h2 := hex_bs (c % 16).toNat
  repeat' split
  all_goals simp only [isBs_cons, isBs_nil, and_true]; omega
theorem quotedL_bs {l : List Int} (h : isBs l) : isBs (quotedL l) := by
  unfold quotedL
  rw [isBs_cons, isBs_append, isBs_cons]
  refine ⟨by omega, ?_, by omega, isBs_nil⟩
  intro x hx
  obtain ⟨c, hc, hx⟩ := List.mem_flatMap.1 hx
  exact q1_bs (h c hc) x hx
theorem flatMap_len (l : List Int) : (l.flatMap q1).length ≤ 4 * l.length := by
  induction l with
  | nil => simp
  | cons x r ih =>
    rw [List.flatMap_cons, List.length_append, List.length_cons]
    have := (q1_len x).2
    omega
/-- What stands behind a backslash. -/
def escL : List Int → Int × Int
  | [] => (0, 0)
  | c :: r => if c = 34 ∨ c = 92 then (c, 1) else if c = 110 then (10, 1) else if c = 120 then (match r with
    | a :: b :: _ => if ixL hexL a < 0 ∨ ixL hexL b < 0 then (0, 0) else if hid (16 * ixL hexL a + ixL hexL b) = true then (16 * ixL hexL a + ixL hexL b, 3) else (0, 0)
    | _ => (0, 0)) else (0, 0)
/-- The program's reading: the bytes, and how many are left at the closing sign. -/
def unqL : Nat → List Int → List Int → Option (List Int × Nat)
  | 0, _, _ => none
  | _ + 1, [], _ => none
  | k + 1, c :: r, acc => if c = 34 then some (acc, r.length + 1) else if c = 92 then (if (escL r).2 = 0 then none else unqL k (r.drop (escL r).2.toNat) (acc ++ [(escL r).1])) else if hid c = true ∨ c = 10 then none else unqL k r (acc ++ [c])
/-- The first byte whose quoted form stands in front. -/
def findC (rest : List Int) : Option Int := ((List.range 256).find? fun (x : Nat) => (q1 (x : Int)).isPrefixOf rest).map fun (x : Nat) => (x : Int)
/-- The reference's reading. -/
def unqR : Nat → List Int → List Int → Option (List Int × Nat)
  | 0, _, _ => none
  | _ + 1, [], _ => none
  | k + 1, c :: r, acc => if c = 34 then some (acc, r.length + 1) else match findC (c :: r) with
    | none => none
    | some x => unqR k ((c :: r).drop (q1 x).length) (acc ++ [x])

theorem ixL_ge (l : List Int) (c : Int) : -1 ≤ ixL l c := by
  induction l with
  | nil => simp [ixL]
  | cons x r ih => unfold ixL; repeat' split
                   all_goals omega
theorem ixL_lt (l : List Int) (c : Int) : ixL l c < l.length := by
  induction l with
  | nil => simp [ixL]
  | cons x r ih => unfold ixL; rw [List.length_cons]; repeat' split
                   all_goals omega
theorem ixL_get (l : List Int) (c : Int) (h : 0 ≤ ixL l c) : l.getD (ixL l c).toNat 0 = c := by
  induction l with
  | nil => simp [ixL] at h
  | cons x r ih =>
    unfold ixL at h ⊢
    by_cases h1 : x = c
    · rw [if_pos h1]; simpa using h1
    · rw [if_neg h1] at h ⊢
      by_cases h2 : ixL r c = -1
      · rw [if_pos h2] at h; omega
      · rw [if_neg h2] at h ⊢
        have h3 := ixL_ge r c
        rw [show (ixL r c + 1).toNat = (ixL r c).toNat + 1 by omega, List.getD_cons_succ]
        exact ih (by omega)
theorem ix_hex {k : Nat} (h : k < 16) : ixL hexL (hexL.getD k 0) = k := by
  have : ∀ k < 16, ixL hexL (hexL.getD k 0) = (k : Int) := by decide
  exact this k h
theorem hid_iff (c : Int) : hid c = true ↔ (c < 33 ∧ c ≠ 10) ∨ 127 ≤ c := by
  unfold hid; simp

/-- The step of the program's reading. -/
def stepL : List Int → Option (Int × Nat)
  | [] => none
  | c :: r => if c = 92 then (if (escL r).2 = 0 then none else some ((escL r).1, 1 + (escL r).2.toNat)) else if hid c = true ∨ c = 10 then none else some (c, 1)

theorem step_cons (c : Int) (r : List Int) : stepL (c :: r) = if c = 92 then (if (escL r).2 = 0 then none else some ((escL r).1, 1 + (escL r).2.toNat)) else if hid c = true ∨ c = 10 then none else some (c, 1) := rfl
theorem step_of_pref {x : Int} (hx : 0 ≤ x ∧ x ≤ 255) {rest : List Int} (h : q1 x <+: rest) : stepL rest = some (x, (q1 x).length) := by
  obtain ⟨t, rfl⟩ := h
  unfold q1
  by_cases h1 : x = 34 ∨ x = 92
  · rw [if_pos h1]
    simp only [List.cons_append, List.nil_append, stepL, escL, if_true, if_pos h1]
    simp
  · rw [if_neg h1]
    by_cases h2 : x = 10
    · rw [if_pos h2, h2]
      simp [stepL, escL]
    · rw [if_neg h2]
      by_cases h3 : x < 33 ∨ x > 126
      · rw [if_pos h3]
        have ha : ixL hexL (hexL.getD (x / 16).toNat 0) = x / 16 := by rw [ix_hex (by omega)]; omega
        have hb : ixL hexL (hexL.getD (x % 16).toNat 0) = x % 16 := by rw [ix_hex (by omega)]; omega
        have hs : 16 * (x / 16) + x % 16 = x := by omega
        have hh : hid x = true := (hid_iff x).2 (by omega)
        have h7 : ¬ (x / 16 < 0 ∨ x % 16 < 0) := by omega
        simp only [List.cons_append, List.nil_append, stepL, escL, if_true, ha, hb, hs, hh, if_neg h7]
        simp
      · rw [if_neg h3]
        have hh : ¬ (hid x = true ∨ x = 10) := by rw [hid_iff]; omega
        simp only [List.cons_append, List.nil_append, stepL, if_neg hh]
        rw [if_neg (by omega)]
        rfl
theorem pref_of_step {x : Int} {n : Nat} {rest : List Int} (hr : isBs rest) (h34 : rest.head? ≠ some 34) (h : stepL rest = some (x, n)) : q1 x <+: rest ∧ 0 ≤ x ∧ x ≤ 255 := by
  cases rest with
  | nil => cases h
  | cons c r =>
    have hc := (isBs_cons.1 hr).1
    have hr' := (isBs_cons.1 hr).2
    have hc34 : c ≠ 34 := fun e => h34 (by rw [e]; rfl)
    rw [step_cons] at h
    by_cases h1 : c = 92
    · rw [if_pos h1] at h
      by_cases h2 : (escL r).2 = 0
      · rw [if_pos h2] at h; cases h
      · rw [if_neg h2] at h
        simp only [Option.some.injEq, Prod.mk.injEq] at h
        obtain ⟨hx, _⟩ := h
        subst hx
        subst h1
        cases r with
        | nil => simp [escL] at h2
        | cons d r =>
          have hd := (isBs_cons.1 hr').1
          unfold escL at h2 ⊢
          by_cases h3 : d = 34 ∨ d = 92
          · simp only [if_pos h3] at h2 ⊢
            refine ⟨?_, hd⟩
            unfold q1
            rw [if_pos h3]
            exact ⟨r, rfl⟩
          · simp only [if_neg h3] at h2 ⊢
            by_cases h4 : d = 110
            · simp only [if_pos h4] at h2 ⊢
              refine ⟨?_, by omega⟩
              unfold q1
              simp only [h4]
              exact ⟨r, rfl⟩
            · simp only [if_neg h4] at h2 ⊢
              by_cases h5 : d = 120
              · simp only [if_pos h5] at h2 ⊢
                match r with
                | [] => simp at h2
                | [_] => simp at h2
                | a :: b :: t =>
                  simp only at h2 ⊢
                  by_cases h6 : ixL hexL a < 0 ∨ ixL hexL b < 0
                  · rw [if_pos h6] at h2; simp at h2
                  · rw [if_neg h6] at h2 ⊢
                    by_cases h7 : hid (16 * ixL hexL a + ixL hexL b) = true
                    · rw [if_pos h7] at h2 ⊢
                      simp only
                      have ha := ixL_lt hexL a
                      have hb := ixL_lt hexL b
                      have hl : (hexL.length : Int) = 16 := by decide
                      have h8 := (hid_iff _).1 h7
                      refine ⟨?_, by omega, by omega⟩
                      unfold q1
                      rw [if_neg (by omega), if_neg (by omega), if_pos (by omega)]
                      have e1 : (16 * ixL hexL a + ixL hexL b) / 16 = ixL hexL a := by omega
                      have e2 : (16 * ixL hexL a + ixL hexL b) % 16 = ixL hexL b := by omega
                      rw [e1, e2, ixL_get _ _ (by omega), ixL_get _ _ (by omega), h5]
                      exact ⟨t, rfl⟩
                    · rw [if_neg h7] at h2; simp at h2
              · simp only [if_neg h5] at h2
                simp at h2
    · rw [if_neg h1] at h
      by_cases h2 : hid c = true ∨ c = 10
      · rw [if_pos h2] at h; cases h
      · rw [if_neg h2] at h
        simp only [Option.some.injEq, Prod.mk.injEq] at h
        obtain ⟨hx, _⟩ := h
        subst hx
        rw [hid_iff] at h2
        refine ⟨?_, hc⟩
        unfold q1
        rw [if_neg (by omega), if_neg (by omega), if_neg (by omega)]
        exact ⟨r, rfl⟩

theorem find_step {rest : List Int} (hr : isBs rest) (h34 : rest.head? ≠ some 34) : findC rest = (stepL rest).map (·.1) := by
  unfold findC
  cases hs : stepL rest with
  | none =>
    have : ((List.range 256).find? fun (x : Nat) => (q1 (x : Int)).isPrefixOf rest) = none := by
      rw [List.find?_eq_none]
      intro x hx hp
      have hx' : x < 256 := by simpa using hx
      rw [step_of_pref (x := (x : Int)) (by omega) (List.isPrefixOf_iff_prefix.1 hp)] at hs
      cases hs
    rw [this]; rfl
  | some p =>
    obtain ⟨x, n⟩ := p
    obtain ⟨hp, h0, h1⟩ := pref_of_step hr h34 hs
    have hex : ∃ y, ((List.range 256).find? fun (x : Nat) => (q1 (x : Int)).isPrefixOf rest) = some y := by
      rw [← Option.isSome_iff_exists, List.find?_isSome]
      exact ⟨x.toNat, by simp; omega, by rw [show ((x.toNat : Nat) : Int) = x by omega]; exact List.isPrefixOf_iff_prefix.2 hp⟩
    obtain ⟨y, hy⟩ := hex
    have hy1 := List.find?_some hy
    have hy2 : y < 256 := by have := List.mem_of_find?_eq_some hy; simpa using this
    have := step_of_pref (x := (y : Int)) (by omega) (List.isPrefixOf_iff_prefix.1 hy1)
    rw [hs] at this
    simp only [Option.some.injEq, Prod.mk.injEq] at this
    rw [hy]
    simp [this.1]
/-- The two readings agree. -/
theorem unq_same : ∀ (k : Nat) (rest acc : List Int), isBs rest → unqL k rest acc = unqR k rest acc
  | 0, _, _, _ => rfl
  | _ + 1, [], _, _ => rfl
  | k + 1, c :: r, acc, h => by
    unfold unqL unqR
    by_cases h1 : c = 34
    · rw [if_pos h1, if_pos h1]
    · rw [if_neg h1, if_neg h1]
      have h34 : (c :: r).head? ≠ some 34 := by simpa using h1
      rw [find_step h h34]
      have hstep : stepL (c :: r) = if c = 92 then (if (escL r).2 = 0 then none else some ((escL r).1, 1 + (escL r).2.toNat)) else if hid c = true ∨ c = 10 then none else some (c, 1) := rfl
      by_cases h2 : c = 92
      · rw [if_pos h2] at hstep ⊢
        by_cases h3 : (escL r).2 = 0
        · rw [if_pos h3] at hstep ⊢
          rw [hstep]; rfl
        · rw [if_neg h3] at hstep ⊢
          rw [hstep]
          simp only [Option.map_some]
          obtain ⟨hp, h0, h5⟩ := pref_of_step h h34 hstep
          have := step_of_pref ⟨h0, h5⟩ hp
          rw [hstep] at this
          simp only [Option.some.injEq, Prod.mk.injEq, true_and] at this
          rw [← this, Nat.add_comm 1, List.drop_succ_cons]
          exact unq_same k _ _ (isBs_drop (isBs_cons.1 h).2 _)
      · rw [if_neg h2] at hstep ⊢
        by_cases h3 : hid c = true ∨ c = 10
        · rw [if_pos h3] at hstep ⊢
          rw [hstep]; rfl
        · rw [if_neg h3] at hstep ⊢
          rw [hstep]
          simp only [Option.map_some]
          obtain ⟨hp, h0, h5⟩ := pref_of_step h h34 hstep
          have := step_of_pref ⟨h0, h5⟩ hp
          rw [hstep] at this
          simp only [Option.some.injEq, Prod.mk.injEq, true_and] at this
          rw [← this, List.drop_succ_cons, List.drop_zero]
          exact unq_same k _ _ (isBs_cons.1 h).2
end Go.Avc

/- The program's types: cells, bytes, zero values. No condition. -/
set_option maxRecDepth 100000
namespace Go.Avc.F
open Go Go.Avc Go.Proofs
theorem c0 : Program.cellsOf Tryd.prog 0 = 1 := by kernel_rfl
theorem b0 : Program.bytesOf Tryd.prog 0 = 0 := by kernel_rfl
theorem k0 : Tk Tryd.prog 0 = some false := by kernel_rfl
theorem c1 : Program.cellsOf Tryd.prog 1 = 1 := by kernel_rfl
theorem b1 : Program.bytesOf Tryd.prog 1 = 8 := by kernel_rfl
theorem k1 : Tk Tryd.prog 1 = some false := by kernel_rfl
theorem c2 : Program.cellsOf Tryd.prog 2 = 1 := by kernel_rfl
theorem b2 : Program.bytesOf Tryd.prog 2 = 8 := by kernel_rfl
theorem k2 : Tk Tryd.prog 2 = some false := by kernel_rfl
theorem z2 : Tzero Tryd.prog 2 = some [.int .i64 0] := by kernel_rfl
theorem a2 : TzeroA Tryd.prog 2 = some [.dv (.d (.int .i64 0))] := by kernel_rfl
theorem o2 : Tone Tryd.prog 2 = some (.int .i64 0, 8) := by kernel_rfl
theorem c3 : Program.cellsOf Tryd.prog 3 = 1 := by kernel_rfl
theorem b3 : Program.bytesOf Tryd.prog 3 = 8 := by kernel_rfl
theorem k3 : Tk Tryd.prog 3 = some false := by kernel_rfl
theorem z3 : Tzero Tryd.prog 3 = some [.int .i64 0] := by kernel_rfl
theorem a3 : TzeroA Tryd.prog 3 = some [.dv (.d (.int .i64 0))] := by kernel_rfl
theorem o3 : Tone Tryd.prog 3 = some (.int .i64 0, 8) := by kernel_rfl
theorem c4 : Program.cellsOf Tryd.prog 4 = 1 := by kernel_rfl
theorem b4 : Program.bytesOf Tryd.prog 4 = 1 := by kernel_rfl
theorem k4 : Tk Tryd.prog 4 = some false := by kernel_rfl
theorem z4 : Tzero Tryd.prog 4 = some [.bool false] := by kernel_rfl
theorem a4 : TzeroA Tryd.prog 4 = some [.dv (.d (.bool false))] := by kernel_rfl
theorem o4 : Tone Tryd.prog 4 = some (.bool false, 1) := by kernel_rfl
theorem c5 : Program.cellsOf Tryd.prog 5 = 1 := by kernel_rfl
theorem b5 : Program.bytesOf Tryd.prog 5 = 1 := by kernel_rfl
theorem k5 : Tk Tryd.prog 5 = some false := by kernel_rfl
theorem z5 : Tzero Tryd.prog 5 = some [.int .u8 0] := by kernel_rfl
theorem a5 : TzeroA Tryd.prog 5 = some [.dv (.d (.int .u8 0))] := by kernel_rfl
theorem o5 : Tone Tryd.prog 5 = some (.int .u8 0, 1) := by kernel_rfl
theorem c6 : Program.cellsOf Tryd.prog 6 = 1 := by kernel_rfl
theorem b6 : Program.bytesOf Tryd.prog 6 = 1 := by kernel_rfl
theorem k6 : Tk Tryd.prog 6 = some false := by kernel_rfl
theorem z6 : Tzero Tryd.prog 6 = some [.int .u8 0] := by kernel_rfl
theorem a6 : TzeroA Tryd.prog 6 = some [.dv (.d (.int .u8 0))] := by kernel_rfl
theorem o6 : Tone Tryd.prog 6 = some (.int .u8 0, 1) := by kernel_rfl
theorem c7 : Program.cellsOf Tryd.prog 7 = 4 := by kernel_rfl
theorem b7 : Program.bytesOf Tryd.prog 7 = 24 := by kernel_rfl
theorem k7 : Tk Tryd.prog 7 = some true := by kernel_rfl
theorem z7 : Tzero Tryd.prog 7 = some [.int .i64 0, .int .i64 0, .bool false, .int .u8 0] := by kernel_rfl
theorem a7 : TzeroA Tryd.prog 7 = some [.dv (.d (.int .i64 0)), .dv (.d (.int .i64 0)), .dv (.d (.bool false)), .dv (.d (.int .u8 0))] := by kernel_rfl
theorem e7 : eqT Tryd.prog 7 = some [.i .i64, .i .i64, .b, .i .u8] := by kernel_rfl
theorem f7_0 : Tfld Tryd.prog 7 0 = some (0, 2) := by kernel_rfl
theorem f7_1 : Tfld Tryd.prog 7 1 = some (1, 3) := by kernel_rfl
theorem f7_2 : Tfld Tryd.prog 7 2 = some (2, 4) := by kernel_rfl
theorem f7_3 : Tfld Tryd.prog 7 3 = some (3, 6) := by kernel_rfl
theorem p7 : Tplc Tryd.prog 7 = some [(0, 1), (1, 1), (2, 1), (3, 1)] := by kernel_rfl
theorem c8 : Program.cellsOf Tryd.prog 8 = 4 := by kernel_rfl
theorem b8 : Program.bytesOf Tryd.prog 8 = 24 := by kernel_rfl
theorem k8 : Tk Tryd.prog 8 = some true := by kernel_rfl
theorem z8 : Tzero Tryd.prog 8 = some [.int .i64 0, .int .i64 0, .bool false, .int .u8 0] := by kernel_rfl
theorem a8 : TzeroA Tryd.prog 8 = some [.dv (.d (.int .i64 0)), .dv (.d (.int .i64 0)), .dv (.d (.bool false)), .dv (.d (.int .u8 0))] := by kernel_rfl
theorem e8 : eqT Tryd.prog 8 = some [.i .i64, .i .i64, .b, .i .u8] := by kernel_rfl
theorem f8_0 : Tfld Tryd.prog 8 0 = some (0, 2) := by kernel_rfl
theorem f8_1 : Tfld Tryd.prog 8 1 = some (1, 3) := by kernel_rfl
theorem f8_2 : Tfld Tryd.prog 8 2 = some (2, 4) := by kernel_rfl
theorem f8_3 : Tfld Tryd.prog 8 3 = some (3, 6) := by kernel_rfl
theorem p8 : Tplc Tryd.prog 8 = some [(0, 1), (1, 1), (2, 1), (3, 1)] := by kernel_rfl
theorem c9 : Program.cellsOf Tryd.prog 9 = 1 := by kernel_rfl
theorem b9 : Program.bytesOf Tryd.prog 9 = 16 := by kernel_rfl
theorem k9 : Tk Tryd.prog 9 = some false := by kernel_rfl
theorem z9 : Tzero Tryd.prog 9 = some [.str ⟨#[]⟩] := by kernel_rfl
theorem a9 : TzeroA Tryd.prog 9 = some [.dv (.d (.str ⟨#[]⟩))] := by kernel_rfl
theorem o9 : Tone Tryd.prog 9 = some (.str ⟨#[]⟩, 16) := by kernel_rfl
theorem c10 : Program.cellsOf Tryd.prog 10 = 1 := by kernel_rfl
theorem b10 : Program.bytesOf Tryd.prog 10 = 16 := by kernel_rfl
theorem k10 : Tk Tryd.prog 10 = some false := by kernel_rfl
theorem z10 : Tzero Tryd.prog 10 = some [.str ⟨#[]⟩] := by kernel_rfl
theorem a10 : TzeroA Tryd.prog 10 = some [.dv (.d (.str ⟨#[]⟩))] := by kernel_rfl
theorem o10 : Tone Tryd.prog 10 = some (.str ⟨#[]⟩, 16) := by kernel_rfl
theorem c11 : Program.cellsOf Tryd.prog 11 = 1 := by kernel_rfl
theorem b11 : Program.bytesOf Tryd.prog 11 = 16 := by kernel_rfl
theorem k11 : Tk Tryd.prog 11 = some false := by kernel_rfl
theorem z11 : Tzero Tryd.prog 11 = some [.str ⟨#[]⟩] := by kernel_rfl
theorem a11 : TzeroA Tryd.prog 11 = some [.dv (.d (.str ⟨#[]⟩))] := by kernel_rfl
theorem o11 : Tone Tryd.prog 11 = some (.str ⟨#[]⟩, 16) := by kernel_rfl
theorem c12 : Program.cellsOf Tryd.prog 12 = 1 := by kernel_rfl
theorem b12 : Program.bytesOf Tryd.prog 12 = 8 := by kernel_rfl
theorem k12 : Tk Tryd.prog 12 = some false := by kernel_rfl
theorem z12 : Tzero Tryd.prog 12 = some [.int .u64 0] := by kernel_rfl
theorem a12 : TzeroA Tryd.prog 12 = some [.dv (.d (.int .u64 0))] := by kernel_rfl
theorem o12 : Tone Tryd.prog 12 = some (.int .u64 0, 8) := by kernel_rfl
theorem c13 : Program.cellsOf Tryd.prog 13 = 2 := by kernel_rfl
theorem b13 : Program.bytesOf Tryd.prog 13 = 24 := by kernel_rfl
theorem k13 : Tk Tryd.prog 13 = some true := by kernel_rfl
theorem z13 : Tzero Tryd.prog 13 = some [.str ⟨#[]⟩, .int .u64 0] := by kernel_rfl
theorem a13 : TzeroA Tryd.prog 13 = some [.dv (.d (.str ⟨#[]⟩)), .dv (.d (.int .u64 0))] := by kernel_rfl
theorem f13_0 : Tfld Tryd.prog 13 0 = some (0, 9) := by kernel_rfl
theorem f13_1 : Tfld Tryd.prog 13 1 = some (1, 12) := by kernel_rfl
theorem p13 : Tplc Tryd.prog 13 = some [(0, 1), (1, 1)] := by kernel_rfl
theorem c14 : Program.cellsOf Tryd.prog 14 = 2 := by kernel_rfl
theorem b14 : Program.bytesOf Tryd.prog 14 = 24 := by kernel_rfl
theorem k14 : Tk Tryd.prog 14 = some true := by kernel_rfl
theorem z14 : Tzero Tryd.prog 14 = some [.str ⟨#[]⟩, .int .u64 0] := by kernel_rfl
theorem a14 : TzeroA Tryd.prog 14 = some [.dv (.d (.str ⟨#[]⟩)), .dv (.d (.int .u64 0))] := by kernel_rfl
theorem f14_0 : Tfld Tryd.prog 14 0 = some (0, 9) := by kernel_rfl
theorem f14_1 : Tfld Tryd.prog 14 1 = some (1, 12) := by kernel_rfl
theorem p14 : Tplc Tryd.prog 14 = some [(0, 1), (1, 1)] := by kernel_rfl
theorem c15 : Program.cellsOf Tryd.prog 15 = 1 := by kernel_rfl
theorem b15 : Program.bytesOf Tryd.prog 15 = 8 := by kernel_rfl
theorem k15 : Tk Tryd.prog 15 = some false := by kernel_rfl
theorem c16 : Program.cellsOf Tryd.prog 16 = 1 := by kernel_rfl
theorem b16 : Program.bytesOf Tryd.prog 16 = 8 := by kernel_rfl
theorem k16 : Tk Tryd.prog 16 = some false := by kernel_rfl
theorem c17 : Program.cellsOf Tryd.prog 17 = 1 := by kernel_rfl
theorem b17 : Program.bytesOf Tryd.prog 17 = 8 := by kernel_rfl
theorem k17 : Tk Tryd.prog 17 = some false := by kernel_rfl
theorem c18 : Program.cellsOf Tryd.prog 18 = 1 := by kernel_rfl
theorem b18 : Program.bytesOf Tryd.prog 18 = 8 := by kernel_rfl
theorem k18 : Tk Tryd.prog 18 = some true := by kernel_rfl
theorem f18_0 : Tfld Tryd.prog 18 0 = some (0, 17) := by kernel_rfl
theorem p18 : Tplc Tryd.prog 18 = some [(0, 1)] := by kernel_rfl
theorem c19 : Program.cellsOf Tryd.prog 19 = 1 := by kernel_rfl
theorem b19 : Program.bytesOf Tryd.prog 19 = 8 := by kernel_rfl
theorem k19 : Tk Tryd.prog 19 = some true := by kernel_rfl
theorem f19_0 : Tfld Tryd.prog 19 0 = some (0, 17) := by kernel_rfl
theorem p19 : Tplc Tryd.prog 19 = some [(0, 1)] := by kernel_rfl
theorem c20 : Program.cellsOf Tryd.prog 20 = 1 := by kernel_rfl
theorem b20 : Program.bytesOf Tryd.prog 20 = 16 := by kernel_rfl
theorem k20 : Tk Tryd.prog 20 = some false := by kernel_rfl
theorem c21 : Program.cellsOf Tryd.prog 21 = 1 := by kernel_rfl
theorem b21 : Program.bytesOf Tryd.prog 21 = 4 := by kernel_rfl
theorem k21 : Tk Tryd.prog 21 = some false := by kernel_rfl
theorem z21 : Tzero Tryd.prog 21 = some [.int .i32 0] := by kernel_rfl
theorem a21 : TzeroA Tryd.prog 21 = some [.dv (.d (.int .i32 0))] := by kernel_rfl
theorem o21 : Tone Tryd.prog 21 = some (.int .i32 0, 4) := by kernel_rfl
theorem c22 : Program.cellsOf Tryd.prog 22 = 1 := by kernel_rfl
theorem b22 : Program.bytesOf Tryd.prog 22 = 24 := by kernel_rfl
theorem k22 : Tk Tryd.prog 22 = some false := by kernel_rfl
theorem z22 : Tzero Tryd.prog 22 = some [.sl []] := by kernel_rfl
theorem a22 : TzeroA Tryd.prog 22 = some [.nil] := by kernel_rfl
theorem o22 : Tone Tryd.prog 22 = some (.sl [], 24) := by kernel_rfl
theorem c23 : Program.cellsOf Tryd.prog 23 = 1 := by kernel_rfl
theorem b23 : Program.bytesOf Tryd.prog 23 = 8 := by kernel_rfl
theorem k23 : Tk Tryd.prog 23 = some false := by kernel_rfl
theorem c24 : Program.cellsOf Tryd.prog 24 = 2 := by kernel_rfl
theorem b24 : Program.bytesOf Tryd.prog 24 = 32 := by kernel_rfl
theorem k24 : Tk Tryd.prog 24 = some true := by kernel_rfl
theorem z24 : Tzero Tryd.prog 24 = some [.sl [], .int .i64 0] := by kernel_rfl
theorem a24 : TzeroA Tryd.prog 24 = some [.nil, .dv (.d (.int .i64 0))] := by kernel_rfl
theorem f24_0 : Tfld Tryd.prog 24 0 = some (0, 22) := by kernel_rfl
theorem f24_1 : Tfld Tryd.prog 24 1 = some (1, 3) := by kernel_rfl
theorem p24 : Tplc Tryd.prog 24 = some [(0, 1), (1, 1)] := by kernel_rfl
theorem c25 : Program.cellsOf Tryd.prog 25 = 2 := by kernel_rfl
theorem b25 : Program.bytesOf Tryd.prog 25 = 32 := by kernel_rfl
theorem k25 : Tk Tryd.prog 25 = some true := by kernel_rfl
theorem z25 : Tzero Tryd.prog 25 = some [.sl [], .int .i64 0] := by kernel_rfl
theorem a25 : TzeroA Tryd.prog 25 = some [.nil, .dv (.d (.int .i64 0))] := by kernel_rfl
theorem f25_0 : Tfld Tryd.prog 25 0 = some (0, 22) := by kernel_rfl
theorem f25_1 : Tfld Tryd.prog 25 1 = some (1, 3) := by kernel_rfl
theorem p25 : Tplc Tryd.prog 25 = some [(0, 1), (1, 1)] := by kernel_rfl
theorem c26 : Program.cellsOf Tryd.prog 26 = 1 := by kernel_rfl
theorem b26 : Program.bytesOf Tryd.prog 26 = 24 := by kernel_rfl
theorem k26 : Tk Tryd.prog 26 = some false := by kernel_rfl
theorem z26 : Tzero Tryd.prog 26 = some [.sl []] := by kernel_rfl
theorem a26 : TzeroA Tryd.prog 26 = some [.nil] := by kernel_rfl
theorem o26 : Tone Tryd.prog 26 = some (.sl [], 24) := by kernel_rfl
theorem c27 : Program.cellsOf Tryd.prog 27 = 1 := by kernel_rfl
theorem b27 : Program.bytesOf Tryd.prog 27 = 24 := by kernel_rfl
theorem k27 : Tk Tryd.prog 27 = some false := by kernel_rfl
theorem z27 : Tzero Tryd.prog 27 = some [.sl []] := by kernel_rfl
theorem a27 : TzeroA Tryd.prog 27 = some [.nil] := by kernel_rfl
theorem o27 : Tone Tryd.prog 27 = some (.sl [], 24) := by kernel_rfl
theorem c28 : Program.cellsOf Tryd.prog 28 = 1 := by kernel_rfl
theorem b28 : Program.bytesOf Tryd.prog 28 = 24 := by kernel_rfl
theorem k28 : Tk Tryd.prog 28 = some false := by kernel_rfl
theorem z28 : Tzero Tryd.prog 28 = some [.sl []] := by kernel_rfl
theorem a28 : TzeroA Tryd.prog 28 = some [.nil] := by kernel_rfl
theorem o28 : Tone Tryd.prog 28 = some (.sl [], 24) := by kernel_rfl
theorem c29 : Program.cellsOf Tryd.prog 29 = 7 := by kernel_rfl
theorem b29 : Program.bytesOf Tryd.prog 29 = 136 := by kernel_rfl
theorem k29 : Tk Tryd.prog 29 = some true := by kernel_rfl
theorem z29 : Tzero Tryd.prog 29 = some [.sl [], .int .i64 0, .int .i64 0, .sl [], .sl [], .sl [], .sl []] := by kernel_rfl
theorem a29 : TzeroA Tryd.prog 29 = some [.nil, .dv (.d (.int .i64 0)), .dv (.d (.int .i64 0)), .nil, .nil, .nil, .nil] := by kernel_rfl
theorem f29_0 : Tfld Tryd.prog 29 0 = some (0, 22) := by kernel_rfl
theorem f29_1 : Tfld Tryd.prog 29 1 = some (1, 3) := by kernel_rfl
theorem f29_2 : Tfld Tryd.prog 29 2 = some (2, 3) := by kernel_rfl
theorem f29_3 : Tfld Tryd.prog 29 3 = some (3, 26) := by kernel_rfl
theorem f29_4 : Tfld Tryd.prog 29 4 = some (4, 27) := by kernel_rfl
theorem f29_5 : Tfld Tryd.prog 29 5 = some (5, 28) := by kernel_rfl
theorem f29_6 : Tfld Tryd.prog 29 6 = some (6, 22) := by kernel_rfl
theorem p29 : Tplc Tryd.prog 29 = some [(0, 1), (1, 1), (2, 1), (3, 1), (4, 1), (5, 1), (6, 1)] := by kernel_rfl
theorem c30 : Program.cellsOf Tryd.prog 30 = 7 := by kernel_rfl
theorem b30 : Program.bytesOf Tryd.prog 30 = 136 := by kernel_rfl
theorem k30 : Tk Tryd.prog 30 = some true := by kernel_rfl
theorem z30 : Tzero Tryd.prog 30 = some [.sl [], .int .i64 0, .int .i64 0, .sl [], .sl [], .sl [], .sl []] := by kernel_rfl
theorem a30 : TzeroA Tryd.prog 30 = some [.nil, .dv (.d (.int .i64 0)), .dv (.d (.int .i64 0)), .nil, .nil, .nil, .nil] := by kernel_rfl
theorem f30_0 : Tfld Tryd.prog 30 0 = some (0, 22) := by kernel_rfl
theorem f30_1 : Tfld Tryd.prog 30 1 = some (1, 3) := by kernel_rfl
theorem f30_2 : Tfld Tryd.prog 30 2 = some (2, 3) := by kernel_rfl
theorem f30_3 : Tfld Tryd.prog 30 3 = some (3, 26) := by kernel_rfl
theorem f30_4 : Tfld Tryd.prog 30 4 = some (4, 27) := by kernel_rfl
theorem f30_5 : Tfld Tryd.prog 30 5 = some (5, 28) := by kernel_rfl
theorem f30_6 : Tfld Tryd.prog 30 6 = some (6, 22) := by kernel_rfl
theorem p30 : Tplc Tryd.prog 30 = some [(0, 1), (1, 1), (2, 1), (3, 1), (4, 1), (5, 1), (6, 1)] := by kernel_rfl
theorem c31 : Program.cellsOf Tryd.prog 31 = 1 := by kernel_rfl
theorem b31 : Program.bytesOf Tryd.prog 31 = 8 := by kernel_rfl
theorem k31 : Tk Tryd.prog 31 = some false := by kernel_rfl
theorem c32 : Program.cellsOf Tryd.prog 32 = 1 := by kernel_rfl
theorem b32 : Program.bytesOf Tryd.prog 32 = 24 := by kernel_rfl
theorem k32 : Tk Tryd.prog 32 = some false := by kernel_rfl
theorem z32 : Tzero Tryd.prog 32 = some [.sl []] := by kernel_rfl
theorem a32 : TzeroA Tryd.prog 32 = some [.nil] := by kernel_rfl
theorem o32 : Tone Tryd.prog 32 = some (.sl [], 24) := by kernel_rfl
theorem c33 : Program.cellsOf Tryd.prog 33 = 2 := by kernel_rfl
theorem b33 : Program.bytesOf Tryd.prog 33 = 40 := by kernel_rfl
theorem k33 : Tk Tryd.prog 33 = some true := by kernel_rfl
theorem z33 : Tzero Tryd.prog 33 = some [.str ⟨#[]⟩, .sl []] := by kernel_rfl
theorem a33 : TzeroA Tryd.prog 33 = some [.dv (.d (.str ⟨#[]⟩)), .nil] := by kernel_rfl
theorem f33_0 : Tfld Tryd.prog 33 0 = some (0, 9) := by kernel_rfl
theorem f33_1 : Tfld Tryd.prog 33 1 = some (1, 32) := by kernel_rfl
theorem p33 : Tplc Tryd.prog 33 = some [(0, 1), (1, 1)] := by kernel_rfl
theorem c34 : Program.cellsOf Tryd.prog 34 = 2 := by kernel_rfl
theorem b34 : Program.bytesOf Tryd.prog 34 = 40 := by kernel_rfl
theorem k34 : Tk Tryd.prog 34 = some true := by kernel_rfl
theorem z34 : Tzero Tryd.prog 34 = some [.str ⟨#[]⟩, .sl []] := by kernel_rfl
theorem a34 : TzeroA Tryd.prog 34 = some [.dv (.d (.str ⟨#[]⟩)), .nil] := by kernel_rfl
theorem f34_0 : Tfld Tryd.prog 34 0 = some (0, 9) := by kernel_rfl
theorem f34_1 : Tfld Tryd.prog 34 1 = some (1, 32) := by kernel_rfl
theorem p34 : Tplc Tryd.prog 34 = some [(0, 1), (1, 1)] := by kernel_rfl
theorem c35 : Program.cellsOf Tryd.prog 35 = 1 := by kernel_rfl
theorem b35 : Program.bytesOf Tryd.prog 35 = 8 := by kernel_rfl
theorem k35 : Tk Tryd.prog 35 = some false := by kernel_rfl
theorem c36 : Program.cellsOf Tryd.prog 36 = 1 := by kernel_rfl
theorem b36 : Program.bytesOf Tryd.prog 36 = 8 := by kernel_rfl
theorem k36 : Tk Tryd.prog 36 = some false := by kernel_rfl
theorem c37 : Program.cellsOf Tryd.prog 37 = 1 := by kernel_rfl
theorem b37 : Program.bytesOf Tryd.prog 37 = 8 := by kernel_rfl
theorem k37 : Tk Tryd.prog 37 = some false := by kernel_rfl
theorem c38 : Program.cellsOf Tryd.prog 38 = 1 := by kernel_rfl
theorem b38 : Program.bytesOf Tryd.prog 38 = 8 := by kernel_rfl
theorem k38 : Tk Tryd.prog 38 = some false := by kernel_rfl
theorem c39 : Program.cellsOf Tryd.prog 39 = 1 := by kernel_rfl
theorem b39 : Program.bytesOf Tryd.prog 39 = 8 := by kernel_rfl
theorem k39 : Tk Tryd.prog 39 = some false := by kernel_rfl
theorem z39 : Tzero Tryd.prog 39 = some [.int .i64 0] := by kernel_rfl
theorem a39 : TzeroA Tryd.prog 39 = some [.dv (.d (.int .i64 0))] := by kernel_rfl
theorem o39 : Tone Tryd.prog 39 = some (.int .i64 0, 8) := by kernel_rfl
theorem c40 : Program.cellsOf Tryd.prog 40 = 1 := by kernel_rfl
theorem b40 : Program.bytesOf Tryd.prog 40 = 0 := by kernel_rfl
theorem k40 : Tk Tryd.prog 40 = some false := by kernel_rfl
theorem c41 : Program.cellsOf Tryd.prog 41 = 1 := by kernel_rfl
theorem b41 : Program.bytesOf Tryd.prog 41 = 8 := by kernel_rfl
theorem k41 : Tk Tryd.prog 41 = some false := by kernel_rfl
theorem c42 : Program.cellsOf Tryd.prog 42 = 1 := by kernel_rfl
theorem b42 : Program.bytesOf Tryd.prog 42 = 0 := by kernel_rfl
theorem k42 : Tk Tryd.prog 42 = some false := by kernel_rfl
theorem c43 : Program.cellsOf Tryd.prog 43 = 1 := by kernel_rfl
theorem b43 : Program.bytesOf Tryd.prog 43 = 8 := by kernel_rfl
theorem k43 : Tk Tryd.prog 43 = some false := by kernel_rfl
theorem c44 : Program.cellsOf Tryd.prog 44 = 1 := by kernel_rfl
theorem b44 : Program.bytesOf Tryd.prog 44 = 8 := by kernel_rfl
theorem k44 : Tk Tryd.prog 44 = some false := by kernel_rfl
theorem c45 : Program.cellsOf Tryd.prog 45 = 1 := by kernel_rfl
theorem b45 : Program.bytesOf Tryd.prog 45 = 8 := by kernel_rfl
theorem k45 : Tk Tryd.prog 45 = some false := by kernel_rfl
theorem c46 : Program.cellsOf Tryd.prog 46 = 1 := by kernel_rfl
theorem b46 : Program.bytesOf Tryd.prog 46 = 8 := by kernel_rfl
theorem k46 : Tk Tryd.prog 46 = some false := by kernel_rfl
theorem c47 : Program.cellsOf Tryd.prog 47 = 1 := by kernel_rfl
theorem b47 : Program.bytesOf Tryd.prog 47 = 8 := by kernel_rfl
theorem k47 : Tk Tryd.prog 47 = some false := by kernel_rfl
theorem c48 : Program.cellsOf Tryd.prog 48 = 1 := by kernel_rfl
theorem b48 : Program.bytesOf Tryd.prog 48 = 8 := by kernel_rfl
theorem k48 : Tk Tryd.prog 48 = some false := by kernel_rfl
theorem c49 : Program.cellsOf Tryd.prog 49 = 1 := by kernel_rfl
theorem b49 : Program.bytesOf Tryd.prog 49 = 8 := by kernel_rfl
theorem k49 : Tk Tryd.prog 49 = some false := by kernel_rfl
theorem c50 : Program.cellsOf Tryd.prog 50 = 1 := by kernel_rfl
theorem b50 : Program.bytesOf Tryd.prog 50 = 0 := by kernel_rfl
theorem k50 : Tk Tryd.prog 50 = some false := by kernel_rfl
theorem c51 : Program.cellsOf Tryd.prog 51 = 1 := by kernel_rfl
theorem b51 : Program.bytesOf Tryd.prog 51 = 8 := by kernel_rfl
theorem k51 : Tk Tryd.prog 51 = some false := by kernel_rfl
theorem c52 : Program.cellsOf Tryd.prog 52 = 2 := by kernel_rfl
theorem b52 : Program.bytesOf Tryd.prog 52 = 24 := by kernel_rfl
theorem k52 : Tk Tryd.prog 52 = some true := by kernel_rfl
theorem z52 : Tzero Tryd.prog 52 = some [.int .i64 0, .str ⟨#[]⟩] := by kernel_rfl
theorem a52 : TzeroA Tryd.prog 52 = some [.dv (.d (.int .i64 0)), .dv (.d (.str ⟨#[]⟩))] := by kernel_rfl
theorem e52 : eqT Tryd.prog 52 = some [.i .i64, .s] := by kernel_rfl
theorem f52_0 : Tfld Tryd.prog 52 0 = some (0, 3) := by kernel_rfl
theorem f52_1 : Tfld Tryd.prog 52 1 = some (1, 9) := by kernel_rfl
theorem p52 : Tplc Tryd.prog 52 = some [(0, 1), (1, 1)] := by kernel_rfl
theorem c53 : Program.cellsOf Tryd.prog 53 = 2 := by kernel_rfl
theorem b53 : Program.bytesOf Tryd.prog 53 = 24 := by kernel_rfl
theorem k53 : Tk Tryd.prog 53 = some true := by kernel_rfl
theorem z53 : Tzero Tryd.prog 53 = some [.int .i64 0, .str ⟨#[]⟩] := by kernel_rfl
theorem a53 : TzeroA Tryd.prog 53 = some [.dv (.d (.int .i64 0)), .dv (.d (.str ⟨#[]⟩))] := by kernel_rfl
theorem e53 : eqT Tryd.prog 53 = some [.i .i64, .s] := by kernel_rfl
theorem f53_0 : Tfld Tryd.prog 53 0 = some (0, 3) := by kernel_rfl
theorem f53_1 : Tfld Tryd.prog 53 1 = some (1, 9) := by kernel_rfl
theorem p53 : Tplc Tryd.prog 53 = some [(0, 1), (1, 1)] := by kernel_rfl
theorem c54 : Program.cellsOf Tryd.prog 54 = 1 := by kernel_rfl
theorem b54 : Program.bytesOf Tryd.prog 54 = 0 := by kernel_rfl
theorem k54 : Tk Tryd.prog 54 = some false := by kernel_rfl
theorem c55 : Program.cellsOf Tryd.prog 55 = 1 := by kernel_rfl
theorem b55 : Program.bytesOf Tryd.prog 55 = 8 := by kernel_rfl
theorem k55 : Tk Tryd.prog 55 = some false := by kernel_rfl
theorem c56 : Program.cellsOf Tryd.prog 56 = 1 := by kernel_rfl
theorem b56 : Program.bytesOf Tryd.prog 56 = 24 := by kernel_rfl
theorem k56 : Tk Tryd.prog 56 = some false := by kernel_rfl
theorem z56 : Tzero Tryd.prog 56 = some [.sl []] := by kernel_rfl
theorem a56 : TzeroA Tryd.prog 56 = some [.nil] := by kernel_rfl
theorem o56 : Tone Tryd.prog 56 = some (.sl [], 24) := by kernel_rfl
theorem c57 : Program.cellsOf Tryd.prog 57 = 1 := by kernel_rfl
theorem b57 : Program.bytesOf Tryd.prog 57 = 24 := by kernel_rfl
theorem k57 : Tk Tryd.prog 57 = some false := by kernel_rfl
theorem z57 : Tzero Tryd.prog 57 = some [.sl []] := by kernel_rfl
theorem a57 : TzeroA Tryd.prog 57 = some [.nil] := by kernel_rfl
theorem o57 : Tone Tryd.prog 57 = some (.sl [], 24) := by kernel_rfl
theorem c58 : Program.cellsOf Tryd.prog 58 = 1 := by kernel_rfl
theorem b58 : Program.bytesOf Tryd.prog 58 = 8 := by kernel_rfl
theorem k58 : Tk Tryd.prog 58 = some false := by kernel_rfl
theorem c59 : Program.cellsOf Tryd.prog 59 = 4 := by kernel_rfl
theorem b59 : Program.bytesOf Tryd.prog 59 = 40 := by kernel_rfl
theorem k59 : Tk Tryd.prog 59 = some true := by kernel_rfl
theorem z59 : Tzero Tryd.prog 59 = some [.int .i64 0, .str ⟨#[]⟩, .int .i64 0, .int .i64 0] := by kernel_rfl
theorem a59 : TzeroA Tryd.prog 59 = some [.dv (.d (.int .i64 0)), .dv (.d (.str ⟨#[]⟩)), .dv (.d (.int .i64 0)), .dv (.d (.int .i64 0))] := by kernel_rfl
theorem e59 : eqT Tryd.prog 59 = some [.i .i64, .s, .i .i64, .i .i64] := by kernel_rfl
theorem f59_0 : Tfld Tryd.prog 59 0 = some (0, 3) := by kernel_rfl
theorem f59_1 : Tfld Tryd.prog 59 1 = some (1, 9) := by kernel_rfl
theorem f59_2 : Tfld Tryd.prog 59 2 = some (2, 3) := by kernel_rfl
theorem f59_3 : Tfld Tryd.prog 59 3 = some (3, 3) := by kernel_rfl
theorem p59 : Tplc Tryd.prog 59 = some [(0, 1), (1, 1), (2, 1), (3, 1)] := by kernel_rfl
theorem c60 : Program.cellsOf Tryd.prog 60 = 4 := by kernel_rfl
theorem b60 : Program.bytesOf Tryd.prog 60 = 40 := by kernel_rfl
theorem k60 : Tk Tryd.prog 60 = some true := by kernel_rfl
theorem z60 : Tzero Tryd.prog 60 = some [.int .i64 0, .str ⟨#[]⟩, .int .i64 0, .int .i64 0] := by kernel_rfl
theorem a60 : TzeroA Tryd.prog 60 = some [.dv (.d (.int .i64 0)), .dv (.d (.str ⟨#[]⟩)), .dv (.d (.int .i64 0)), .dv (.d (.int .i64 0))] := by kernel_rfl
theorem e60 : eqT Tryd.prog 60 = some [.i .i64, .s, .i .i64, .i .i64] := by kernel_rfl
theorem f60_0 : Tfld Tryd.prog 60 0 = some (0, 3) := by kernel_rfl
theorem f60_1 : Tfld Tryd.prog 60 1 = some (1, 9) := by kernel_rfl
theorem f60_2 : Tfld Tryd.prog 60 2 = some (2, 3) := by kernel_rfl
theorem f60_3 : Tfld Tryd.prog 60 3 = some (3, 3) := by kernel_rfl
theorem p60 : Tplc Tryd.prog 60 = some [(0, 1), (1, 1), (2, 1), (3, 1)] := by kernel_rfl
theorem c61 : Program.cellsOf Tryd.prog 61 = 5 := by kernel_rfl
theorem b61 : Program.bytesOf Tryd.prog 61 = 64 := by kernel_rfl
theorem k61 : Tk Tryd.prog 61 = some true := by kernel_rfl
theorem z61 : Tzero Tryd.prog 61 = some [.str ⟨#[]⟩, .int .i64 0, .int .i64 0, .int .i64 0, .sl []] := by kernel_rfl
theorem a61 : TzeroA Tryd.prog 61 = some [.dv (.d (.str ⟨#[]⟩)), .dv (.d (.int .i64 0)), .dv (.d (.int .i64 0)), .dv (.d (.int .i64 0)), .nil] := by kernel_rfl
theorem f61_0 : Tfld Tryd.prog 61 0 = some (0, 9) := by kernel_rfl
theorem f61_1 : Tfld Tryd.prog 61 1 = some (1, 3) := by kernel_rfl
theorem f61_2 : Tfld Tryd.prog 61 2 = some (2, 3) := by kernel_rfl
theorem f61_3 : Tfld Tryd.prog 61 3 = some (3, 3) := by kernel_rfl
theorem f61_4 : Tfld Tryd.prog 61 4 = some (4, 22) := by kernel_rfl
theorem p61 : Tplc Tryd.prog 61 = some [(0, 1), (1, 1), (2, 1), (3, 1), (4, 1)] := by kernel_rfl
theorem c62 : Program.cellsOf Tryd.prog 62 = 5 := by kernel_rfl
theorem b62 : Program.bytesOf Tryd.prog 62 = 64 := by kernel_rfl
theorem k62 : Tk Tryd.prog 62 = some true := by kernel_rfl
theorem z62 : Tzero Tryd.prog 62 = some [.str ⟨#[]⟩, .int .i64 0, .int .i64 0, .int .i64 0, .sl []] := by kernel_rfl
theorem a62 : TzeroA Tryd.prog 62 = some [.dv (.d (.str ⟨#[]⟩)), .dv (.d (.int .i64 0)), .dv (.d (.int .i64 0)), .dv (.d (.int .i64 0)), .nil] := by kernel_rfl
theorem f62_0 : Tfld Tryd.prog 62 0 = some (0, 9) := by kernel_rfl
theorem f62_1 : Tfld Tryd.prog 62 1 = some (1, 3) := by kernel_rfl
theorem f62_2 : Tfld Tryd.prog 62 2 = some (2, 3) := by kernel_rfl
theorem f62_3 : Tfld Tryd.prog 62 3 = some (3, 3) := by kernel_rfl
theorem f62_4 : Tfld Tryd.prog 62 4 = some (4, 22) := by kernel_rfl
theorem p62 : Tplc Tryd.prog 62 = some [(0, 1), (1, 1), (2, 1), (3, 1), (4, 1)] := by kernel_rfl
theorem c63 : Program.cellsOf Tryd.prog 63 = 1 := by kernel_rfl
theorem b63 : Program.bytesOf Tryd.prog 63 = 8 := by kernel_rfl
theorem k63 : Tk Tryd.prog 63 = some false := by kernel_rfl
theorem c64 : Program.cellsOf Tryd.prog 64 = 2 := by kernel_rfl
theorem b64 : Program.bytesOf Tryd.prog 64 = 16 := by kernel_rfl
theorem k64 : Tk Tryd.prog 64 = some true := by kernel_rfl
theorem z64 : Tzero Tryd.prog 64 = some [.int .i64 0, .int .i64 0] := by kernel_rfl
theorem a64 : TzeroA Tryd.prog 64 = some [.dv (.d (.int .i64 0)), .dv (.d (.int .i64 0))] := by kernel_rfl
theorem e64 : eqT Tryd.prog 64 = some [.i .i64, .i .i64] := by kernel_rfl
theorem f64_0 : Tfld Tryd.prog 64 0 = some (0, 3) := by kernel_rfl
theorem f64_1 : Tfld Tryd.prog 64 1 = some (1, 3) := by kernel_rfl
theorem p64 : Tplc Tryd.prog 64 = some [(0, 1), (1, 1)] := by kernel_rfl
theorem c65 : Program.cellsOf Tryd.prog 65 = 2 := by kernel_rfl
theorem b65 : Program.bytesOf Tryd.prog 65 = 16 := by kernel_rfl
theorem k65 : Tk Tryd.prog 65 = some true := by kernel_rfl
theorem z65 : Tzero Tryd.prog 65 = some [.int .i64 0, .int .i64 0] := by kernel_rfl
theorem a65 : TzeroA Tryd.prog 65 = some [.dv (.d (.int .i64 0)), .dv (.d (.int .i64 0))] := by kernel_rfl
theorem e65 : eqT Tryd.prog 65 = some [.i .i64, .i .i64] := by kernel_rfl
theorem f65_0 : Tfld Tryd.prog 65 0 = some (0, 3) := by kernel_rfl
theorem f65_1 : Tfld Tryd.prog 65 1 = some (1, 3) := by kernel_rfl
theorem p65 : Tplc Tryd.prog 65 = some [(0, 1), (1, 1)] := by kernel_rfl
theorem c66 : Program.cellsOf Tryd.prog 66 = 1 := by kernel_rfl
theorem b66 : Program.bytesOf Tryd.prog 66 = 8 := by kernel_rfl
theorem k66 : Tk Tryd.prog 66 = some false := by kernel_rfl
theorem c67 : Program.cellsOf Tryd.prog 67 = 1 := by kernel_rfl
theorem b67 : Program.bytesOf Tryd.prog 67 = 24 := by kernel_rfl
theorem k67 : Tk Tryd.prog 67 = some false := by kernel_rfl
theorem z67 : Tzero Tryd.prog 67 = some [.sl []] := by kernel_rfl
theorem a67 : TzeroA Tryd.prog 67 = some [.nil] := by kernel_rfl
theorem o67 : Tone Tryd.prog 67 = some (.sl [], 24) := by kernel_rfl
theorem c68 : Program.cellsOf Tryd.prog 68 = 1 := by kernel_rfl
theorem b68 : Program.bytesOf Tryd.prog 68 = 8 := by kernel_rfl
theorem k68 : Tk Tryd.prog 68 = some false := by kernel_rfl
theorem c69 : Program.cellsOf Tryd.prog 69 = 1 := by kernel_rfl
theorem b69 : Program.bytesOf Tryd.prog 69 = 8 := by kernel_rfl
theorem k69 : Tk Tryd.prog 69 = some false := by kernel_rfl
theorem c70 : Program.cellsOf Tryd.prog 70 = 1 := by kernel_rfl
theorem b70 : Program.bytesOf Tryd.prog 70 = 8 := by kernel_rfl
theorem k70 : Tk Tryd.prog 70 = some false := by kernel_rfl
theorem c71 : Program.cellsOf Tryd.prog 71 = 1 := by kernel_rfl
theorem b71 : Program.bytesOf Tryd.prog 71 = 8 := by kernel_rfl
theorem k71 : Tk Tryd.prog 71 = some false := by kernel_rfl
theorem c72 : Program.cellsOf Tryd.prog 72 = 1 := by kernel_rfl
theorem b72 : Program.bytesOf Tryd.prog 72 = 8 := by kernel_rfl
theorem k72 : Tk Tryd.prog 72 = some false := by kernel_rfl
theorem c73 : Program.cellsOf Tryd.prog 73 = 1 := by kernel_rfl
theorem b73 : Program.bytesOf Tryd.prog 73 = 8 := by kernel_rfl
theorem k73 : Tk Tryd.prog 73 = some false := by kernel_rfl
theorem c74 : Program.cellsOf Tryd.prog 74 = 1 := by kernel_rfl
theorem b74 : Program.bytesOf Tryd.prog 74 = 8 := by kernel_rfl
theorem k74 : Tk Tryd.prog 74 = some false := by kernel_rfl
theorem c75 : Program.cellsOf Tryd.prog 75 = 1 := by kernel_rfl
theorem b75 : Program.bytesOf Tryd.prog 75 = 8 := by kernel_rfl
theorem k75 : Tk Tryd.prog 75 = some false := by kernel_rfl
theorem c76 : Program.cellsOf Tryd.prog 76 = 1 := by kernel_rfl
theorem b76 : Program.bytesOf Tryd.prog 76 = 8 := by kernel_rfl
theorem k76 : Tk Tryd.prog 76 = some false := by kernel_rfl
theorem c77 : Program.cellsOf Tryd.prog 77 = 1 := by kernel_rfl
theorem b77 : Program.bytesOf Tryd.prog 77 = 8 := by kernel_rfl
theorem k77 : Tk Tryd.prog 77 = some false := by kernel_rfl
theorem c78 : Program.cellsOf Tryd.prog 78 = 1 := by kernel_rfl
theorem b78 : Program.bytesOf Tryd.prog 78 = 8 := by kernel_rfl
theorem k78 : Tk Tryd.prog 78 = some false := by kernel_rfl
theorem c79 : Program.cellsOf Tryd.prog 79 = 1 := by kernel_rfl
theorem b79 : Program.bytesOf Tryd.prog 79 = 8 := by kernel_rfl
theorem k79 : Tk Tryd.prog 79 = some false := by kernel_rfl
theorem c80 : Program.cellsOf Tryd.prog 80 = 1 := by kernel_rfl
theorem b80 : Program.bytesOf Tryd.prog 80 = 8 := by kernel_rfl
theorem k80 : Tk Tryd.prog 80 = some false := by kernel_rfl
theorem c81 : Program.cellsOf Tryd.prog 81 = 1 := by kernel_rfl
theorem b81 : Program.bytesOf Tryd.prog 81 = 8 := by kernel_rfl
theorem k81 : Tk Tryd.prog 81 = some false := by kernel_rfl
theorem c82 : Program.cellsOf Tryd.prog 82 = 1 := by kernel_rfl
theorem b82 : Program.bytesOf Tryd.prog 82 = 8 := by kernel_rfl
theorem k82 : Tk Tryd.prog 82 = some false := by kernel_rfl
theorem c83 : Program.cellsOf Tryd.prog 83 = 1 := by kernel_rfl
theorem b83 : Program.bytesOf Tryd.prog 83 = 24 := by kernel_rfl
theorem k83 : Tk Tryd.prog 83 = some false := by kernel_rfl
theorem z83 : Tzero Tryd.prog 83 = some [.sl []] := by kernel_rfl
theorem a83 : TzeroA Tryd.prog 83 = some [.nil] := by kernel_rfl
theorem o83 : Tone Tryd.prog 83 = some (.sl [], 24) := by kernel_rfl
theorem c84 : Program.cellsOf Tryd.prog 84 = 1 := by kernel_rfl
theorem b84 : Program.bytesOf Tryd.prog 84 = 8 := by kernel_rfl
theorem k84 : Tk Tryd.prog 84 = some false := by kernel_rfl
theorem c85 : Program.cellsOf Tryd.prog 85 = 1 := by kernel_rfl
theorem b85 : Program.bytesOf Tryd.prog 85 = 0 := by kernel_rfl
theorem k85 : Tk Tryd.prog 85 = some false := by kernel_rfl
theorem c86 : Program.cellsOf Tryd.prog 86 = 1 := by kernel_rfl
theorem b86 : Program.bytesOf Tryd.prog 86 = 8 := by kernel_rfl
theorem k86 : Tk Tryd.prog 86 = some false := by kernel_rfl
theorem c87 : Program.cellsOf Tryd.prog 87 = 1 := by kernel_rfl
theorem b87 : Program.bytesOf Tryd.prog 87 = 8 := by kernel_rfl
theorem k87 : Tk Tryd.prog 87 = some false := by kernel_rfl
theorem c88 : Program.cellsOf Tryd.prog 88 = 1 := by kernel_rfl
theorem b88 : Program.bytesOf Tryd.prog 88 = 8 := by kernel_rfl
theorem k88 : Tk Tryd.prog 88 = some false := by kernel_rfl
theorem c89 : Program.cellsOf Tryd.prog 89 = 1 := by kernel_rfl
theorem b89 : Program.bytesOf Tryd.prog 89 = 8 := by kernel_rfl
theorem k89 : Tk Tryd.prog 89 = some false := by kernel_rfl
theorem c90 : Program.cellsOf Tryd.prog 90 = 1 := by kernel_rfl
theorem b90 : Program.bytesOf Tryd.prog 90 = 8 := by kernel_rfl
theorem k90 : Tk Tryd.prog 90 = some false := by kernel_rfl
theorem c91 : Program.cellsOf Tryd.prog 91 = 1 := by kernel_rfl
theorem b91 : Program.bytesOf Tryd.prog 91 = 8 := by kernel_rfl
theorem k91 : Tk Tryd.prog 91 = some false := by kernel_rfl
theorem c92 : Program.cellsOf Tryd.prog 92 = 1 := by kernel_rfl
theorem b92 : Program.bytesOf Tryd.prog 92 = 8 := by kernel_rfl
theorem k92 : Tk Tryd.prog 92 = some false := by kernel_rfl
theorem c93 : Program.cellsOf Tryd.prog 93 = 1 := by kernel_rfl
theorem b93 : Program.bytesOf Tryd.prog 93 = 8 := by kernel_rfl
theorem k93 : Tk Tryd.prog 93 = some false := by kernel_rfl
theorem c94 : Program.cellsOf Tryd.prog 94 = 1 := by kernel_rfl
theorem b94 : Program.bytesOf Tryd.prog 94 = 8 := by kernel_rfl
theorem k94 : Tk Tryd.prog 94 = some false := by kernel_rfl
theorem c95 : Program.cellsOf Tryd.prog 95 = 1 := by kernel_rfl
theorem b95 : Program.bytesOf Tryd.prog 95 = 8 := by kernel_rfl
theorem k95 : Tk Tryd.prog 95 = some false := by kernel_rfl
theorem c96 : Program.cellsOf Tryd.prog 96 = 1 := by kernel_rfl
theorem b96 : Program.bytesOf Tryd.prog 96 = 8 := by kernel_rfl
theorem k96 : Tk Tryd.prog 96 = some false := by kernel_rfl
theorem c97 : Program.cellsOf Tryd.prog 97 = 1 := by kernel_rfl
theorem b97 : Program.bytesOf Tryd.prog 97 = 8 := by kernel_rfl
theorem k97 : Tk Tryd.prog 97 = some false := by kernel_rfl
theorem z97 : Tzero Tryd.prog 97 = some [.int .u64 0] := by kernel_rfl
theorem a97 : TzeroA Tryd.prog 97 = some [.dv (.d (.int .u64 0))] := by kernel_rfl
theorem o97 : Tone Tryd.prog 97 = some (.int .u64 0, 8) := by kernel_rfl
theorem c98 : Program.cellsOf Tryd.prog 98 = 1 := by kernel_rfl
theorem b98 : Program.bytesOf Tryd.prog 98 = 0 := by kernel_rfl
theorem k98 : Tk Tryd.prog 98 = some false := by kernel_rfl
theorem c99 : Program.cellsOf Tryd.prog 99 = 1 := by kernel_rfl
theorem b99 : Program.bytesOf Tryd.prog 99 = 8 := by kernel_rfl
theorem k99 : Tk Tryd.prog 99 = some false := by kernel_rfl
theorem c100 : Program.cellsOf Tryd.prog 100 = 1 := by kernel_rfl
theorem b100 : Program.bytesOf Tryd.prog 100 = 8 := by kernel_rfl
theorem k100 : Tk Tryd.prog 100 = some false := by kernel_rfl
theorem c101 : Program.cellsOf Tryd.prog 101 = 2 := by kernel_rfl
theorem b101 : Program.bytesOf Tryd.prog 101 = 32 := by kernel_rfl
theorem k101 : Tk Tryd.prog 101 = some true := by kernel_rfl
theorem f101_0 : Tfld Tryd.prog 101 0 = some (0, 100) := by kernel_rfl
theorem f101_1 : Tfld Tryd.prog 101 1 = some (1, 83) := by kernel_rfl
theorem p101 : Tplc Tryd.prog 101 = some [(0, 1), (1, 1)] := by kernel_rfl
theorem c102 : Program.cellsOf Tryd.prog 102 = 2 := by kernel_rfl
theorem b102 : Program.bytesOf Tryd.prog 102 = 32 := by kernel_rfl
theorem k102 : Tk Tryd.prog 102 = some true := by kernel_rfl
theorem f102_0 : Tfld Tryd.prog 102 0 = some (0, 100) := by kernel_rfl
theorem f102_1 : Tfld Tryd.prog 102 1 = some (1, 83) := by kernel_rfl
theorem p102 : Tplc Tryd.prog 102 = some [(0, 1), (1, 1)] := by kernel_rfl
theorem c103 : Program.cellsOf Tryd.prog 103 = 1 := by kernel_rfl
theorem b103 : Program.bytesOf Tryd.prog 103 = 8 := by kernel_rfl
theorem k103 : Tk Tryd.prog 103 = some false := by kernel_rfl
theorem c104 : Program.cellsOf Tryd.prog 104 = 1 := by kernel_rfl
theorem b104 : Program.bytesOf Tryd.prog 104 = 16 := by kernel_rfl
theorem k104 : Tk Tryd.prog 104 = some false := by kernel_rfl
theorem c105 : Program.cellsOf Tryd.prog 105 = 1 := by kernel_rfl
theorem b105 : Program.bytesOf Tryd.prog 105 = 16 := by kernel_rfl
theorem k105 : Tk Tryd.prog 105 = some false := by kernel_rfl
theorem c106 : Program.cellsOf Tryd.prog 106 = 1 := by kernel_rfl
theorem b106 : Program.bytesOf Tryd.prog 106 = 0 := by kernel_rfl
theorem k106 : Tk Tryd.prog 106 = some false := by kernel_rfl
theorem c107 : Program.cellsOf Tryd.prog 107 = 1 := by kernel_rfl
theorem b107 : Program.bytesOf Tryd.prog 107 = 8 := by kernel_rfl
theorem k107 : Tk Tryd.prog 107 = some false := by kernel_rfl
theorem c108 : Program.cellsOf Tryd.prog 108 = 1 := by kernel_rfl
theorem b108 : Program.bytesOf Tryd.prog 108 = 8 := by kernel_rfl
theorem k108 : Tk Tryd.prog 108 = some false := by kernel_rfl
theorem c109 : Program.cellsOf Tryd.prog 109 = 1 := by kernel_rfl
theorem b109 : Program.bytesOf Tryd.prog 109 = 8 := by kernel_rfl
theorem k109 : Tk Tryd.prog 109 = some false := by kernel_rfl
theorem c110 : Program.cellsOf Tryd.prog 110 = 1 := by kernel_rfl
theorem b110 : Program.bytesOf Tryd.prog 110 = 8 := by kernel_rfl
theorem k110 : Tk Tryd.prog 110 = some false := by kernel_rfl
theorem c111 : Program.cellsOf Tryd.prog 111 = 256 := by kernel_rfl
theorem b111 : Program.bytesOf Tryd.prog 111 = 256 := by kernel_rfl
theorem k111 : Tk Tryd.prog 111 = some true := by kernel_rfl
theorem z111 : Tzero Tryd.prog 111 = some [.bool false, .bool false, .bool false, .bool false, .bool false, .bool false, .bool false, .bool false, .bool false, .bool false, .bool false, .bool false, .bool false, .bool false, .bool false, .bool false, .bool false, .bool false, .bool false, .bool false, .bool false, .bool false, .bool false, .bool false, .bool false, .bool false, .bool false, .bool false, .bool false, .bool false, .bool false, .bool false, .bool false, .bool false, .bool false, .bool false, .bool false, .bool false, .bool false, .bool false, .bool false, .bool false, .bool false, .bool false, .bool false, .bool false, .bool false, .bool false, .bool false, .bool false, .bool false, .bool false, .bool false, .bool false, .bool false, .bool false, .bool false, .bool false, .bool false, .bool false, .bool false, .bool false, .bool false, .bool false, .bool false, .bool false, .bool false, .bool false, .bool false, .bool false, .bool false, .bool false, .bool false, .bool false, .bool false, .bool false, .bool false, .bool false, .bool false, .bool false, .bool false, .bool false, .bool false, .bool false, .bool false, .bool false, .bool false, .bool false, .bool false, .bool false, .bool false, .bool false, .bool false, .bool false, .bool false, .bool false, .bool false, .bool false, .bool false, .bool false, .bool false, .bool false, .bool false, .bool false, .bool false, .bool false, .bool false, .bool false, .bool false, .bool false, .bool false, .bool false, .bool false, .bool false, .bool false, .bool false, .bool false, .bool false, .bool false, .bool false, .bool false, .bool false, .bool false, .bool false, .bool false, .bool false, .bool false, .bool false, .bool false, .bool false, .bool false, .bool false, .bool false, .bool false, .bool false, .bool false, .bool false, .bool false, .bool false, .bool false, .bool false, .bool false, .bool false, .bool false, .bool false, .bool false, .bool false, .bool false, .bool false, .bool false, .bool false, .bool false, .bool false, .bool false, .bool false, .bool false, .bool false, .bool false, .bool false, .bool false, .bool false, .bool false, .bool false, .bool false, .bool false, .bool false, .bool false, .bool false, .bool false, .bool false, .bool false, .bool false, .bool false, .bool false, .bool false, .bool false, .bool false, .bool false, .bool false, .bool false, .bool false, .bool false, .bool false, .bool false, .bool false, .bool false, .bool false, .bool false, .bool false, .bool false, .bool false, .bool false, .bool false, .bool false, .bool false, .bool false, .bool false, .bool false, .bool false, .bool false, .bool false, .bool false, .bool false, .bool false, .bool false, .bool false, .bool false, .bool false, .bool false, .bool false, .bool false, .bool false, .bool false, .bool false, .bool false, .bool false, .bool false, .bool false, .bool false, .bool false, .bool false, .bool false, .bool false, .bool false, .bool false, .bool false, .bool false, .bool false, .bool false, .bool false, .bool false, .bool false, .bool false, .bool false, .bool false, .bool false, .bool false, .bool false, .bool false, .bool false, .bool false, .bool false, .bool false, .bool false, .bool false, .bool false, .bool false, .bool false, .bool false, .bool false, .bool false, .bool false, .bool false, .bool false, .bool false, .bool false] := by kernel_rfl
theorem a111 : TzeroA Tryd.prog 111 = some [.dv (.d (.bool false)), .dv (.d (.bool false)), .dv (.d (.bool false)), .dv (.d (.bool false)), .dv (.d (.bool false)), .dv (.d (.bool false)), .dv (.d (.bool false)), .dv (.d (.bool false)), .dv (.d (.bool false)), .dv (.d (.bool false)), .dv (.d (.bool false)), .dv (.d (.bool false)), .dv (.d (.bool false)), .dv (.d (.bool false)), .dv (.d (.bool false)), .dv (.d (.bool false)), .dv (.d (.bool false)), .dv (.d (.bool false)), .dv (.d (.bool false)), .dv (.d (.bool false)), .dv (.d (.bool false)), .dv (.d (.bool false)), .dv (.d (.bool false)), .dv (.d (.bool false)), .dv (.d (.bool false)), .dv (.d (.bool false)), .dv (.d (.bool false)), .dv (.d (.bool false)), .dv (.d (.bool false)), .dv (.d (.bool false)), .dv (.d (.bool false)), .dv (.d (.bool false)), .dv (.d (.bool false)), .dv (.d (.bool false)), .dv (.d (.bool false)), .dv (.d (.bool false)), .dv (.d (.bool false)), .dv (.d (.bool false)), .dv (.d (.bool false)), .dv (.d (.bool false)), .dv (.d (.bool false)), .dv (.d (.bool false)), .dv (.d (.bool false)), .dv (.d (.bool false)), .dv (.d (.bool false)), .dv (.d (.bool false)), .dv (.d (.bool false)), .dv (.d (.bool false)), .dv (.d (.bool false)), .dv (.d (.bool false)), .dv (.d (.bool false)), .dv (.d (.bool false)), .dv (.d (.bool false)), .dv (.d (.bool false)), .dv (.d (.bool false)), .dv (.d (.bool false)), .dv (.d (.bool false)), .dv (.d (.bool false)), .dv (.d (.bool false)), .dv (.d (.bool false)), .dv (.d (.bool false)), .dv (.d (.bool false)), .dv (.d (.bool false)), .dv (.d (.bool false)), .dv (.d (.bool false)), .dv (.d (.bool false)), .dv (.d (.bool false)), .dv (.d (.bool false)), .dv (.d (.bool false)), .dv (.d (.bool false)), .dv (.d (.bool false)), .dv (.d (.bool false)), .dv (.d (.bool false)), .dv (.d (.bool false)), .dv (.d (.bool false)), .dv (.d (.bool false)), .dv (.d (.bool false)), .dv (.d (.bool false)), .dv (.d (.bool false)), .dv (.d (.bool false)), .dv (.d (.bool false)), .dv (.d (.bool false)), .dv (.d (.bool false)), .dv (.d (.bool false)), .dv (.d (.bool false)), .dv (.d (.bool false)), .dv (.d (.bool false)), .dv (.d (.bool false)), .dv (.d (.bool false)), .dv (.d (.bool false)), .dv (.d (.bool false)), .dv (.d (.bool false)), .dv (.d (.bool false)), .dv (.d (.bool false)), .dv (.d (.bool false)), .dv (.d (.bool false)), .dv (.d (.bool false)), .dv (.d (.bool false)), .dv (.d (.bool false)), .dv (.d (.bool false)), .dv (.d (.bool false)), .dv (.d (.bool false)), .dv (.d (.bool false)), .dv (.d (.bool false)), .dv (.d (.bool false)), .dv (.d (.bool false)), .dv (.d (.bool false)), .dv (.d (.bool false)), .dv (.d (.bool false)), .dv (.d (.bool false)), .dv (.d (.bool false)), .dv (.d (.bool false)), .dv (.d (.bool false)), .dv (.d (.bool false)), .dv (.d (.bool false)), .dv (.d (.bool false)), .dv (.d (.bool false)), .dv (.d (.bool false)), .dv (.d (.bool false)), .dv (.d (.bool false)), .dv (.d (.bool false)), .dv (.d (.bool false)), .dv (.d (.bool false)), .dv (.d (.bool false)), .dv (.d (.bool false)), .dv (.d (.bool false)), .dv (.d (.bool false)), .dv (.d (.bool false)), .dv (.d (.bool false)), .dv (.d (.bool false)), .dv (.d (.bool false)), .dv (.d (.bool false)), .dv (.d (.bool false)), .dv (.d (.bool false)), .dv (.d (.bool false)), .dv (.d (.bool false)), .dv (.d (.bool false)), .dv (.d (.bool false)), .dv (.d (.bool false)), .dv (.d (.bool false)), .dv (.d (.bool false)), .dv (.d (.bool false)), .dv (.d (.bool false)), .dv (.d (.bool false)), .dv (.d (.bool false)), .dv (.d (.bool false)), .dv (.d (.bool false)), .dv (.d (.bool false)), .dv (.d (.bool false)), .dv (.d (.bool false)), .dv (.d (.bool false)), .dv (.d (.bool false)), .dv (.d (.bool false)), .dv (.d (.bool false)), .dv (.d (.bool false)), .dv (.d (.bool false)), .dv (.d (.bool false)), .dv (.d (.bool false)), .dv (.d (.bool false)), .dv (.d (.bool false)), .dv (.d (.bool false)), .dv (.d (.bool false)), .dv (.d (.bool false)), .dv (.d (.bool false)), .dv (.d (.bool false)), .dv (.d (.bool false)), .dv (.d (.bool false)), .dv (.d (.bool false)), .dv (.d (.bool false)), .dv (.d (.bool false)), .dv (.d (.bool false)), .dv (.d (.bool false)), .dv (.d (.bool false)), .dv (.d (.bool false)), .dv (.d (.bool false)), .dv (.d (.bool false)), .dv (.d (.bool false)), .dv (.d (.bool false)), .dv (.d (.bool false)), .dv (.d (.bool false)), .dv (.d (.bool false)), .dv (.d (.bool false)), .dv (.d (.bool false)), .dv (.d (.bool false)), .dv (.d (.bool false)), .dv (.d (.bool false)), .dv (.d (.bool false)), .dv (.d (.bool false)), .dv (.d (.bool false)), .dv (.d (.bool false)), .dv (.d (.bool false)), .dv (.d (.bool false)), .dv (.d (.bool false)), .dv (.d (.bool false)), .dv (.d (.bool false)), .dv (.d (.bool false)), .dv (.d (.bool false)), .dv (.d (.bool false)), .dv (.d (.bool false)), .dv (.d (.bool false)), .dv (.d (.bool false)), .dv (.d (.bool false)), .dv (.d (.bool false)), .dv (.d (.bool false)), .dv (.d (.bool false)), .dv (.d (.bool false)), .dv (.d (.bool false)), .dv (.d (.bool false)), .dv (.d (.bool false)), .dv (.d (.bool false)), .dv (.d (.bool false)), .dv (.d (.bool false)), .dv (.d (.bool false)), .dv (.d (.bool false)), .dv (.d (.bool false)), .dv (.d (.bool false)), .dv (.d (.bool false)), .dv (.d (.bool false)), .dv (.d (.bool false)), .dv (.d (.bool false)), .dv (.d (.bool false)), .dv (.d (.bool false)), .dv (.d (.bool false)), .dv (.d (.bool false)), .dv (.d (.bool false)), .dv (.d (.bool false)), .dv (.d (.bool false)), .dv (.d (.bool false)), .dv (.d (.bool false)), .dv (.d (.bool false)), .dv (.d (.bool false)), .dv (.d (.bool false)), .dv (.d (.bool false)), .dv (.d (.bool false)), .dv (.d (.bool false)), .dv (.d (.bool false)), .dv (.d (.bool false)), .dv (.d (.bool false)), .dv (.d (.bool false)), .dv (.d (.bool false)), .dv (.d (.bool false)), .dv (.d (.bool false)), .dv (.d (.bool false)), .dv (.d (.bool false)), .dv (.d (.bool false)), .dv (.d (.bool false)), .dv (.d (.bool false)), .dv (.d (.bool false)), .dv (.d (.bool false)), .dv (.d (.bool false)), .dv (.d (.bool false)), .dv (.d (.bool false)), .dv (.d (.bool false)), .dv (.d (.bool false)), .dv (.d (.bool false)), .dv (.d (.bool false))] := by kernel_rfl
theorem p111 : Tplc Tryd.prog 111 = some [(0, 1), (1, 1), (2, 1), (3, 1), (4, 1), (5, 1), (6, 1), (7, 1), (8, 1), (9, 1), (10, 1), (11, 1), (12, 1), (13, 1), (14, 1), (15, 1), (16, 1), (17, 1), (18, 1), (19, 1), (20, 1), (21, 1), (22, 1), (23, 1), (24, 1), (25, 1), (26, 1), (27, 1), (28, 1), (29, 1), (30, 1), (31, 1), (32, 1), (33, 1), (34, 1), (35, 1), (36, 1), (37, 1), (38, 1), (39, 1), (40, 1), (41, 1), (42, 1), (43, 1), (44, 1), (45, 1), (46, 1), (47, 1), (48, 1), (49, 1), (50, 1), (51, 1), (52, 1), (53, 1), (54, 1), (55, 1), (56, 1), (57, 1), (58, 1), (59, 1), (60, 1), (61, 1), (62, 1), (63, 1), (64, 1), (65, 1), (66, 1), (67, 1), (68, 1), (69, 1), (70, 1), (71, 1), (72, 1), (73, 1), (74, 1), (75, 1), (76, 1), (77, 1), (78, 1), (79, 1), (80, 1), (81, 1), (82, 1), (83, 1), (84, 1), (85, 1), (86, 1), (87, 1), (88, 1), (89, 1), (90, 1), (91, 1), (92, 1), (93, 1), (94, 1), (95, 1), (96, 1), (97, 1), (98, 1), (99, 1), (100, 1), (101, 1), (102, 1), (103, 1), (104, 1), (105, 1), (106, 1), (107, 1), (108, 1), (109, 1), (110, 1), (111, 1), (112, 1), (113, 1), (114, 1), (115, 1), (116, 1), (117, 1), (118, 1), (119, 1), (120, 1), (121, 1), (122, 1), (123, 1), (124, 1), (125, 1), (126, 1), (127, 1), (128, 1), (129, 1), (130, 1), (131, 1), (132, 1), (133, 1), (134, 1), (135, 1), (136, 1), (137, 1), (138, 1), (139, 1), (140, 1), (141, 1), (142, 1), (143, 1), (144, 1), (145, 1), (146, 1), (147, 1), (148, 1), (149, 1), (150, 1), (151, 1), (152, 1), (153, 1), (154, 1), (155, 1), (156, 1), (157, 1), (158, 1), (159, 1), (160, 1), (161, 1), (162, 1), (163, 1), (164, 1), (165, 1), (166, 1), (167, 1), (168, 1), (169, 1), (170, 1), (171, 1), (172, 1), (173, 1), (174, 1), (175, 1), (176, 1), (177, 1), (178, 1), (179, 1), (180, 1), (181, 1), (182, 1), (183, 1), (184, 1), (185, 1), (186, 1), (187, 1), (188, 1), (189, 1), (190, 1), (191, 1), (192, 1), (193, 1), (194, 1), (195, 1), (196, 1), (197, 1), (198, 1), (199, 1), (200, 1), (201, 1), (202, 1), (203, 1), (204, 1), (205, 1), (206, 1), (207, 1), (208, 1), (209, 1), (210, 1), (211, 1), (212, 1), (213, 1), (214, 1), (215, 1), (216, 1), (217, 1), (218, 1), (219, 1), (220, 1), (221, 1), (222, 1), (223, 1), (224, 1), (225, 1), (226, 1), (227, 1), (228, 1), (229, 1), (230, 1), (231, 1), (232, 1), (233, 1), (234, 1), (235, 1), (236, 1), (237, 1), (238, 1), (239, 1), (240, 1), (241, 1), (242, 1), (243, 1), (244, 1), (245, 1), (246, 1), (247, 1), (248, 1), (249, 1), (250, 1), (251, 1), (252, 1), (253, 1), (254, 1), (255, 1)] := by kernel_rfl
theorem c112 : Program.cellsOf Tryd.prog 112 = 256 := by kernel_rfl
theorem b112 : Program.bytesOf Tryd.prog 112 = 256 := by kernel_rfl
theorem k112 : Tk Tryd.prog 112 = some true := by kernel_rfl
theorem z112 : Tzero Tryd.prog 112 = some [.bool false, .bool false, .bool false, .bool false, .bool false, .bool false, .bool false, .bool false, .bool false, .bool false, .bool false, .bool false, .bool false, .bool false, .bool false, .bool false, .bool false, .bool false, .bool false, .bool false, .bool false, .bool false, .bool false, .bool false, .bool false, .bool false, .bool false, .bool false, .bool false, .bool false, .bool false, .bool false, .bool false, .bool false, .bool false, .bool false, .bool false, .bool false, .bool false, .bool false, .bool false, .bool false, .bool false, .bool false, .bool false, .bool false, .bool false, .bool false, .bool false, .bool false, .bool false, .bool false, .bool false, .bool false, .bool false, .bool false, .bool false, .bool false, .bool false, .bool false, .bool false, .bool false, .bool false, .bool false, .bool false, .bool false, .bool false, .bool false, .bool false, .bool false, .bool false, .bool false, .bool false, .bool false, .bool false, .bool false, .bool false, .bool false, .bool false, .bool false, .bool false, .bool false, .bool false, .bool false, .bool false, .bool false, .bool false, .bool false, .bool false, .bool false, .bool false, .bool false, .bool false, .bool false, .bool false, .bool false, .bool false, .bool false, .bool false, .bool false, .bool false, .bool false, .bool false, .bool false, .bool false, .bool false, .bool false, .bool false, .bool false, .bool false, .bool false, .bool false, .bool false, .bool false, .bool false, .bool false, .bool false, .bool false, .bool false, .bool false, .bool false, .bool false, .bool false, .bool false, .bool false, .bool false, .bool false, .bool false, .bool false, .bool false, .bool false, .bool false, .bool false, .bool false, .bool false, .bool false, .bool false, .bool false, .bool false, .bool false, .bool false, .bool false, .bool false, .bool false, .bool false, .bool false, .bool false, .bool false, .bool false, .bool false, .bool false, .bool false, .bool false, .bool false, .bool false, .bool false, .bool false, .bool false, .bool false, .bool false, .bool false, .bool false, .bool false, .bool false, .bool false, .bool false, .bool false, .bool false, .bool false, .bool false, .bool false, .bool false, .bool false, .bool false, .bool false, .bool false, .bool false, .bool false, .bool false, .bool false, .bool false, .bool false, .bool false, .bool false, .bool false, .bool false, .bool false, .bool false, .bool false, .bool false, .bool false, .bool false, .bool false, .bool false, .bool false, .bool false, .bool false, .bool false, .bool false, .bool false, .bool false, .bool false, .bool false, .bool false, .bool false, .bool false, .bool false, .bool false, .bool false, .bool false, .bool false, .bool false, .bool false, .bool false, .bool false, .bool false, .bool false, .bool false, .bool false, .bool false, .bool false, .bool false, .bool false, .bool false, .bool false, .bool false, .bool false, .bool false, .bool false, .bool false, .bool false, .bool false, .bool false, .bool false, .bool false, .bool false, .bool false, .bool false, .bool false, .bool false, .bool false, .bool false, .bool false, .bool false, .bool false, .bool false, .bool false, .bool false, .bool false, .bool false, .bool false, .bool false, .bool false, .bool false, .bool false, .bool false] := by kernel_rfl
theorem a112 : TzeroA Tryd.prog 112 = some [.dv (.d (.bool false)), .dv (.d (.bool false)), .dv (.d (.bool false)), .dv (.d (.bool false)), .dv (.d (.bool false)), .dv (.d (.bool false)), .dv (.d (.bool false)), .dv (.d (.bool false)), .dv (.d (.bool false)), .dv (.d (.bool false)), .dv (.d (.bool false)), .dv (.d (.bool false)), .dv (.d (.bool false)), .dv (.d (.bool false)), .dv (.d (.bool false)), .dv (.d (.bool false)), .dv (.d (.bool false)), .dv (.d (.bool false)), .dv (.d (.bool false)), .dv (.d (.bool false)), .dv (.d (.bool false)), .dv (.d (.bool false)), .dv (.d (.bool false)), .dv (.d (.bool false)), .dv (.d (.bool false)), .dv (.d (.bool false)), .dv (.d (.bool false)), .dv (.d (.bool false)), .dv (.d (.bool false)), .dv (.d (.bool false)), .dv (.d (.bool false)), .dv (.d (.bool false)), .dv (.d (.bool false)), .dv (.d (.bool false)), .dv (.d (.bool false)), .dv (.d (.bool false)), .dv (.d (.bool false)), .dv (.d (.bool false)), .dv (.d (.bool false)), .dv (.d (.bool false)), .dv (.d (.bool false)), .dv (.d (.bool false)), .dv (.d (.bool false)), .dv (.d (.bool false)), .dv (.d (.bool false)), .dv (.d (.bool false)), .dv (.d (.bool false)), .dv (.d (.bool false)), .dv (.d (.bool false)), .dv (.d (.bool false)), .dv (.d (.bool false)), .dv (.d (.bool false)), .dv (.d (.bool false)), .dv (.d (.bool false)), .dv (.d (.bool false)), .dv (.d (.bool false)), .dv (.d (.bool false)), .dv (.d (.bool false)), .dv (.d (.bool false)), .dv (.d (.bool false)), .dv (.d (.bool false)), .dv (.d (.bool false)), .dv (.d (.bool false)), .dv (.d (.bool false)), .dv (.d (.bool false)), .dv (.d (.bool false)), .dv (.d (.bool false)), .dv (.d (.bool false)), .dv (.d (.bool false)), .dv (.d (.bool false)), .dv (.d (.bool false)), .dv (.d (.bool false)), .dv (.d (.bool false)), .dv (.d (.bool false)), .dv (.d (.bool false)), .dv (.d (.bool false)), .dv (.d (.bool false)), .dv (.d (.bool false)), .dv (.d (.bool false)), .dv (.d (.bool false)), .dv (.d (.bool false)), .dv (.d (.bool false)), .dv (.d (.bool false)), .dv (.d (.bool false)), .dv (.d (.bool false)), .dv (.d (.bool false)), .dv (.d (.bool false)), .dv (.d (.bool false)), .dv (.d (.bool false)), .dv (.d (.bool false)), .dv (.d (.bool false)), .dv (.d (.bool false)), .dv (.d (.bool false)), .dv (.d (.bool false)), .dv (.d (.bool false)), .dv (.d (.bool false)), .dv (.d (.bool false)), .dv (.d (.bool false)), .dv (.d (.bool false)), .dv (.d (.bool false)), .dv (.d (.bool false)), .dv (.d (.bool false)), .dv (.d (.bool false)), .dv (.d (.bool false)), .dv (.d (.bool false)), .dv (.d (.bool false)), .dv (.d (.bool false)), .dv (.d (.bool false)), .dv (.d (.bool false)), .dv (.d (.bool false)), .dv (.d (.bool false)), .dv (.d (.bool false)), .dv (.d (.bool false)), .dv (.d (.bool false)), .dv (.d (.bool false)), .dv (.d (.bool false)), .dv (.d (.bool false)), .dv (.d (.bool false)), .dv (.d (.bool false)), .dv (.d (.bool false)), .dv (.d (.bool false)), .dv (.d (.bool false)), .dv (.d (.bool false)), .dv (.d (.bool false)), .dv (.d (.bool false)), .dv (.d (.bool false)), .dv (.d (.bool false)), .dv (.d (.bool false)), .dv (.d (.bool false)), .dv (.d (.bool false)), .dv (.d (.bool false)), .dv (.d (.bool false)), .dv (.d (.bool false)), .dv (.d (.bool false)), .dv (.d (.bool false)), .dv (.d (.bool false)), .dv (.d (.bool false)), .dv (.d (.bool false)), .dv (.d (.bool false)), .dv (.d (.bool false)), .dv (.d (.bool false)), .dv (.d (.bool false)), .dv (.d (.bool false)), .dv (.d (.bool false)), .dv (.d (.bool false)), .dv (.d (.bool false)), .dv (.d (.bool false)), .dv (.d (.bool false)), .dv (.d (.bool false)), .dv (.d (.bool false)), .dv (.d (.bool false)), .dv (.d (.bool false)), .dv (.d (.bool false)), .dv (.d (.bool false)), .dv (.d (.bool false)), .dv (.d (.bool false)), .dv (.d (.bool false)), .dv (.d (.bool false)), .dv (.d (.bool false)), .dv (.d (.bool false)), .dv (.d (.bool false)), .dv (.d (.bool false)), .dv (.d (.bool false)), .dv (.d (.bool false)), .dv (.d (.bool false)), .dv (.d (.bool false)), .dv (.d (.bool false)), .dv (.d (.bool false)), .dv (.d (.bool false)), .dv (.d (.bool false)), .dv (.d (.bool false)), .dv (.d (.bool false)), .dv (.d (.bool false)), .dv (.d (.bool false)), .dv (.d (.bool false)), .dv (.d (.bool false)), .dv (.d (.bool false)), .dv (.d (.bool false)), .dv (.d (.bool false)), .dv (.d (.bool false)), .dv (.d (.bool false)), .dv (.d (.bool false)), .dv (.d (.bool false)), .dv (.d (.bool false)), .dv (.d (.bool false)), .dv (.d (.bool false)), .dv (.d (.bool false)), .dv (.d (.bool false)), .dv (.d (.bool false)), .dv (.d (.bool false)), .dv (.d (.bool false)), .dv (.d (.bool false)), .dv (.d (.bool false)), .dv (.d (.bool false)), .dv (.d (.bool false)), .dv (.d (.bool false)), .dv (.d (.bool false)), .dv (.d (.bool false)), .dv (.d (.bool false)), .dv (.d (.bool false)), .dv (.d (.bool false)), .dv (.d (.bool false)), .dv (.d (.bool false)), .dv (.d (.bool false)), .dv (.d (.bool false)), .dv (.d (.bool false)), .dv (.d (.bool false)), .dv (.d (.bool false)), .dv (.d (.bool false)), .dv (.d (.bool false)), .dv (.d (.bool false)), .dv (.d (.bool false)), .dv (.d (.bool false)), .dv (.d (.bool false)), .dv (.d (.bool false)), .dv (.d (.bool false)), .dv (.d (.bool false)), .dv (.d (.bool false)), .dv (.d (.bool false)), .dv (.d (.bool false)), .dv (.d (.bool false)), .dv (.d (.bool false)), .dv (.d (.bool false)), .dv (.d (.bool false)), .dv (.d (.bool false)), .dv (.d (.bool false)), .dv (.d (.bool false)), .dv (.d (.bool false)), .dv (.d (.bool false)), .dv (.d (.bool false)), .dv (.d (.bool false)), .dv (.d (.bool false)), .dv (.d (.bool false)), .dv (.d (.bool false)), .dv (.d (.bool false)), .dv (.d (.bool false)), .dv (.d (.bool false)), .dv (.d (.bool false)), .dv (.d (.bool false)), .dv (.d (.bool false)), .dv (.d (.bool false)), .dv (.d (.bool false)), .dv (.d (.bool false)), .dv (.d (.bool false)), .dv (.d (.bool false)), .dv (.d (.bool false)), .dv (.d (.bool false)), .dv (.d (.bool false)), .dv (.d (.bool false)), .dv (.d (.bool false)), .dv (.d (.bool false)), .dv (.d (.bool false)), .dv (.d (.bool false)), .dv (.d (.bool false)), .dv (.d (.bool false)), .dv (.d (.bool false))] := by kernel_rfl
theorem p112 : Tplc Tryd.prog 112 = some [(0, 1), (1, 1), (2, 1), (3, 1), (4, 1), (5, 1), (6, 1), (7, 1), (8, 1), (9, 1), (10, 1), (11, 1), (12, 1), (13, 1), (14, 1), (15, 1), (16, 1), (17, 1), (18, 1), (19, 1), (20, 1), (21, 1), (22, 1), (23, 1), (24, 1), (25, 1), (26, 1), (27, 1), (28, 1), (29, 1), (30, 1), (31, 1), (32, 1), (33, 1), (34, 1), (35, 1), (36, 1), (37, 1), (38, 1), (39, 1), (40, 1), (41, 1), (42, 1), (43, 1), (44, 1), (45, 1), (46, 1), (47, 1), (48, 1), (49, 1), (50, 1), (51, 1), (52, 1), (53, 1), (54, 1), (55, 1), (56, 1), (57, 1), (58, 1), (59, 1), (60, 1), (61, 1), (62, 1), (63, 1), (64, 1), (65, 1), (66, 1), (67, 1), (68, 1), (69, 1), (70, 1), (71, 1), (72, 1), (73, 1), (74, 1), (75, 1), (76, 1), (77, 1), (78, 1), (79, 1), (80, 1), (81, 1), (82, 1), (83, 1), (84, 1), (85, 1), (86, 1), (87, 1), (88, 1), (89, 1), (90, 1), (91, 1), (92, 1), (93, 1), (94, 1), (95, 1), (96, 1), (97, 1), (98, 1), (99, 1), (100, 1), (101, 1), (102, 1), (103, 1), (104, 1), (105, 1), (106, 1), (107, 1), (108, 1), (109, 1), (110, 1), (111, 1), (112, 1), (113, 1), (114, 1), (115, 1), (116, 1), (117, 1), (118, 1), (119, 1), (120, 1), (121, 1), (122, 1), (123, 1), (124, 1), (125, 1), (126, 1), (127, 1), (128, 1), (129, 1), (130, 1), (131, 1), (132, 1), (133, 1), (134, 1), (135, 1), (136, 1), (137, 1), (138, 1), (139, 1), (140, 1), (141, 1), (142, 1), (143, 1), (144, 1), (145, 1), (146, 1), (147, 1), (148, 1), (149, 1), (150, 1), (151, 1), (152, 1), (153, 1), (154, 1), (155, 1), (156, 1), (157, 1), (158, 1), (159, 1), (160, 1), (161, 1), (162, 1), (163, 1), (164, 1), (165, 1), (166, 1), (167, 1), (168, 1), (169, 1), (170, 1), (171, 1), (172, 1), (173, 1), (174, 1), (175, 1), (176, 1), (177, 1), (178, 1), (179, 1), (180, 1), (181, 1), (182, 1), (183, 1), (184, 1), (185, 1), (186, 1), (187, 1), (188, 1), (189, 1), (190, 1), (191, 1), (192, 1), (193, 1), (194, 1), (195, 1), (196, 1), (197, 1), (198, 1), (199, 1), (200, 1), (201, 1), (202, 1), (203, 1), (204, 1), (205, 1), (206, 1), (207, 1), (208, 1), (209, 1), (210, 1), (211, 1), (212, 1), (213, 1), (214, 1), (215, 1), (216, 1), (217, 1), (218, 1), (219, 1), (220, 1), (221, 1), (222, 1), (223, 1), (224, 1), (225, 1), (226, 1), (227, 1), (228, 1), (229, 1), (230, 1), (231, 1), (232, 1), (233, 1), (234, 1), (235, 1), (236, 1), (237, 1), (238, 1), (239, 1), (240, 1), (241, 1), (242, 1), (243, 1), (244, 1), (245, 1), (246, 1), (247, 1), (248, 1), (249, 1), (250, 1), (251, 1), (252, 1), (253, 1), (254, 1), (255, 1)] := by kernel_rfl
theorem c113 : Program.cellsOf Tryd.prog 113 = 1 := by kernel_rfl
theorem b113 : Program.bytesOf Tryd.prog 113 = 0 := by kernel_rfl
theorem k113 : Tk Tryd.prog 113 = some false := by kernel_rfl
theorem c114 : Program.cellsOf Tryd.prog 114 = 1 := by kernel_rfl
theorem b114 : Program.bytesOf Tryd.prog 114 = 8 := by kernel_rfl
theorem k114 : Tk Tryd.prog 114 = some false := by kernel_rfl
theorem c115 : Program.cellsOf Tryd.prog 115 = 1 := by kernel_rfl
theorem b115 : Program.bytesOf Tryd.prog 115 = 8 := by kernel_rfl
theorem k115 : Tk Tryd.prog 115 = some false := by kernel_rfl
theorem c116 : Program.cellsOf Tryd.prog 116 = 1 := by kernel_rfl
theorem b116 : Program.bytesOf Tryd.prog 116 = 8 := by kernel_rfl
theorem k116 : Tk Tryd.prog 116 = some false := by kernel_rfl
theorem c117 : Program.cellsOf Tryd.prog 117 = 1 := by kernel_rfl
theorem b117 : Program.bytesOf Tryd.prog 117 = 0 := by kernel_rfl
theorem k117 : Tk Tryd.prog 117 = some false := by kernel_rfl
theorem c118 : Program.cellsOf Tryd.prog 118 = 1 := by kernel_rfl
theorem b118 : Program.bytesOf Tryd.prog 118 = 8 := by kernel_rfl
theorem k118 : Tk Tryd.prog 118 = some false := by kernel_rfl
theorem c119 : Program.cellsOf Tryd.prog 119 = 1 := by kernel_rfl
theorem b119 : Program.bytesOf Tryd.prog 119 = 8 := by kernel_rfl
theorem k119 : Tk Tryd.prog 119 = some false := by kernel_rfl
theorem c120 : Program.cellsOf Tryd.prog 120 = 1 := by kernel_rfl
theorem b120 : Program.bytesOf Tryd.prog 120 = 8 := by kernel_rfl
theorem k120 : Tk Tryd.prog 120 = some false := by kernel_rfl
theorem c121 : Program.cellsOf Tryd.prog 121 = 1 := by kernel_rfl
theorem b121 : Program.bytesOf Tryd.prog 121 = 8 := by kernel_rfl
theorem k121 : Tk Tryd.prog 121 = some false := by kernel_rfl
theorem c122 : Program.cellsOf Tryd.prog 122 = 1 := by kernel_rfl
theorem b122 : Program.bytesOf Tryd.prog 122 = 8 := by kernel_rfl
theorem k122 : Tk Tryd.prog 122 = some false := by kernel_rfl
theorem c123 : Program.cellsOf Tryd.prog 123 = 1 := by kernel_rfl
theorem b123 : Program.bytesOf Tryd.prog 123 = 8 := by kernel_rfl
theorem k123 : Tk Tryd.prog 123 = some false := by kernel_rfl
theorem c124 : Program.cellsOf Tryd.prog 124 = 1 := by kernel_rfl
theorem b124 : Program.bytesOf Tryd.prog 124 = 8 := by kernel_rfl
theorem k124 : Tk Tryd.prog 124 = some false := by kernel_rfl
theorem c125 : Program.cellsOf Tryd.prog 125 = 1 := by kernel_rfl
theorem b125 : Program.bytesOf Tryd.prog 125 = 8 := by kernel_rfl
theorem k125 : Tk Tryd.prog 125 = some false := by kernel_rfl
theorem c126 : Program.cellsOf Tryd.prog 126 = 1 := by kernel_rfl
theorem b126 : Program.bytesOf Tryd.prog 126 = 8 := by kernel_rfl
theorem k126 : Tk Tryd.prog 126 = some false := by kernel_rfl
theorem c127 : Program.cellsOf Tryd.prog 127 = 1 := by kernel_rfl
theorem b127 : Program.bytesOf Tryd.prog 127 = 24 := by kernel_rfl
theorem k127 : Tk Tryd.prog 127 = some false := by kernel_rfl
theorem z127 : Tzero Tryd.prog 127 = some [.sl []] := by kernel_rfl
theorem a127 : TzeroA Tryd.prog 127 = some [.nil] := by kernel_rfl
theorem o127 : Tone Tryd.prog 127 = some (.sl [], 24) := by kernel_rfl
theorem c128 : Program.cellsOf Tryd.prog 128 = 1 := by kernel_rfl
theorem b128 : Program.bytesOf Tryd.prog 128 = 8 := by kernel_rfl
theorem k128 : Tk Tryd.prog 128 = some false := by kernel_rfl
theorem c129 : Program.cellsOf Tryd.prog 129 = 1 := by kernel_rfl
theorem b129 : Program.bytesOf Tryd.prog 129 = 8 := by kernel_rfl
theorem k129 : Tk Tryd.prog 129 = some false := by kernel_rfl
theorem c130 : Program.cellsOf Tryd.prog 130 = 1 := by kernel_rfl
theorem b130 : Program.bytesOf Tryd.prog 130 = 8 := by kernel_rfl
theorem k130 : Tk Tryd.prog 130 = some false := by kernel_rfl
theorem c131 : Program.cellsOf Tryd.prog 131 = 1 := by kernel_rfl
theorem b131 : Program.bytesOf Tryd.prog 131 = 8 := by kernel_rfl
theorem k131 : Tk Tryd.prog 131 = some false := by kernel_rfl
theorem c132 : Program.cellsOf Tryd.prog 132 = 1 := by kernel_rfl
theorem b132 : Program.bytesOf Tryd.prog 132 = 8 := by kernel_rfl
theorem k132 : Tk Tryd.prog 132 = some false := by kernel_rfl
theorem c133 : Program.cellsOf Tryd.prog 133 = 1 := by kernel_rfl
theorem b133 : Program.bytesOf Tryd.prog 133 = 8 := by kernel_rfl
theorem k133 : Tk Tryd.prog 133 = some false := by kernel_rfl
theorem c134 : Program.cellsOf Tryd.prog 134 = 1 := by kernel_rfl
theorem b134 : Program.bytesOf Tryd.prog 134 = 4 := by kernel_rfl
theorem k134 : Tk Tryd.prog 134 = some false := by kernel_rfl
theorem z134 : Tzero Tryd.prog 134 = some [.int .u32 0] := by kernel_rfl
theorem a134 : TzeroA Tryd.prog 134 = some [.dv (.d (.int .u32 0))] := by kernel_rfl
theorem o134 : Tone Tryd.prog 134 = some (.int .u32 0, 4) := by kernel_rfl
theorem c135 : Program.cellsOf Tryd.prog 135 = 1 := by kernel_rfl
theorem b135 : Program.bytesOf Tryd.prog 135 = 0 := by kernel_rfl
theorem k135 : Tk Tryd.prog 135 = some false := by kernel_rfl
theorem c136 : Program.cellsOf Tryd.prog 136 = 1 := by kernel_rfl
theorem b136 : Program.bytesOf Tryd.prog 136 = 8 := by kernel_rfl
theorem k136 : Tk Tryd.prog 136 = some false := by kernel_rfl
theorem c137 : Program.cellsOf Tryd.prog 137 = 1 := by kernel_rfl
theorem b137 : Program.bytesOf Tryd.prog 137 = 8 := by kernel_rfl
theorem k137 : Tk Tryd.prog 137 = some false := by kernel_rfl
theorem z137 : Tzero Tryd.prog 137 = some [.int .u64 0] := by kernel_rfl
theorem a137 : TzeroA Tryd.prog 137 = some [.dv (.d (.int .u64 0))] := by kernel_rfl
theorem o137 : Tone Tryd.prog 137 = some (.int .u64 0, 8) := by kernel_rfl
theorem c138 : Program.cellsOf Tryd.prog 138 = 1 := by kernel_rfl
theorem b138 : Program.bytesOf Tryd.prog 138 = 0 := by kernel_rfl
theorem k138 : Tk Tryd.prog 138 = some false := by kernel_rfl
theorem c139 : Program.cellsOf Tryd.prog 139 = 1 := by kernel_rfl
theorem b139 : Program.bytesOf Tryd.prog 139 = 8 := by kernel_rfl
theorem k139 : Tk Tryd.prog 139 = some false := by kernel_rfl
theorem c140 : Program.cellsOf Tryd.prog 140 = 1 := by kernel_rfl
theorem b140 : Program.bytesOf Tryd.prog 140 = 8 := by kernel_rfl
theorem k140 : Tk Tryd.prog 140 = some false := by kernel_rfl
theorem c141 : Program.cellsOf Tryd.prog 141 = 1 := by kernel_rfl
theorem b141 : Program.bytesOf Tryd.prog 141 = 0 := by kernel_rfl
theorem k141 : Tk Tryd.prog 141 = some false := by kernel_rfl
theorem c142 : Program.cellsOf Tryd.prog 142 = 1 := by kernel_rfl
theorem b142 : Program.bytesOf Tryd.prog 142 = 8 := by kernel_rfl
theorem k142 : Tk Tryd.prog 142 = some false := by kernel_rfl
theorem c143 : Program.cellsOf Tryd.prog 143 = 1 := by kernel_rfl
theorem b143 : Program.bytesOf Tryd.prog 143 = 24 := by kernel_rfl
theorem k143 : Tk Tryd.prog 143 = some false := by kernel_rfl
theorem z143 : Tzero Tryd.prog 143 = some [.sl []] := by kernel_rfl
theorem a143 : TzeroA Tryd.prog 143 = some [.nil] := by kernel_rfl
theorem o143 : Tone Tryd.prog 143 = some (.sl [], 24) := by kernel_rfl
theorem c144 : Program.cellsOf Tryd.prog 144 = 2 := by kernel_rfl
theorem b144 : Program.bytesOf Tryd.prog 144 = 16 := by kernel_rfl
theorem k144 : Tk Tryd.prog 144 = some true := by kernel_rfl
theorem z144 : Tzero Tryd.prog 144 = some [.int .i64 0, .int .i64 0] := by kernel_rfl
theorem a144 : TzeroA Tryd.prog 144 = some [.dv (.d (.int .i64 0)), .dv (.d (.int .i64 0))] := by kernel_rfl
theorem e144 : eqT Tryd.prog 144 = some [.i .i64, .i .i64] := by kernel_rfl
theorem f144_0 : Tfld Tryd.prog 144 0 = some (0, 3) := by kernel_rfl
theorem f144_1 : Tfld Tryd.prog 144 1 = some (1, 3) := by kernel_rfl
theorem p144 : Tplc Tryd.prog 144 = some [(0, 1), (1, 1)] := by kernel_rfl
theorem c145 : Program.cellsOf Tryd.prog 145 = 2 := by kernel_rfl
theorem b145 : Program.bytesOf Tryd.prog 145 = 16 := by kernel_rfl
theorem k145 : Tk Tryd.prog 145 = some true := by kernel_rfl
theorem z145 : Tzero Tryd.prog 145 = some [.int .i64 0, .int .i64 0] := by kernel_rfl
theorem a145 : TzeroA Tryd.prog 145 = some [.dv (.d (.int .i64 0)), .dv (.d (.int .i64 0))] := by kernel_rfl
theorem e145 : eqT Tryd.prog 145 = some [.i .i64, .i .i64] := by kernel_rfl
theorem f145_0 : Tfld Tryd.prog 145 0 = some (0, 3) := by kernel_rfl
theorem f145_1 : Tfld Tryd.prog 145 1 = some (1, 3) := by kernel_rfl
theorem p145 : Tplc Tryd.prog 145 = some [(0, 1), (1, 1)] := by kernel_rfl
theorem c146 : Program.cellsOf Tryd.prog 146 = 1 := by kernel_rfl
theorem b146 : Program.bytesOf Tryd.prog 146 = 8 := by kernel_rfl
theorem k146 : Tk Tryd.prog 146 = some false := by kernel_rfl
theorem c147 : Program.cellsOf Tryd.prog 147 = 1 := by kernel_rfl
theorem b147 : Program.bytesOf Tryd.prog 147 = 8 := by kernel_rfl
theorem k147 : Tk Tryd.prog 147 = some false := by kernel_rfl
theorem c148 : Program.cellsOf Tryd.prog 148 = 1 := by kernel_rfl
theorem b148 : Program.bytesOf Tryd.prog 148 = 8 := by kernel_rfl
theorem k148 : Tk Tryd.prog 148 = some false := by kernel_rfl
theorem c149 : Program.cellsOf Tryd.prog 149 = 1 := by kernel_rfl
theorem b149 : Program.bytesOf Tryd.prog 149 = 8 := by kernel_rfl
theorem k149 : Tk Tryd.prog 149 = some false := by kernel_rfl
theorem c150 : Program.cellsOf Tryd.prog 150 = 1 := by kernel_rfl
theorem b150 : Program.bytesOf Tryd.prog 150 = 8 := by kernel_rfl
theorem k150 : Tk Tryd.prog 150 = some false := by kernel_rfl
theorem c151 : Program.cellsOf Tryd.prog 151 = 1 := by kernel_rfl
theorem b151 : Program.bytesOf Tryd.prog 151 = 8 := by kernel_rfl
theorem k151 : Tk Tryd.prog 151 = some false := by kernel_rfl
theorem c152 : Program.cellsOf Tryd.prog 152 = 1 := by kernel_rfl
theorem b152 : Program.bytesOf Tryd.prog 152 = 8 := by kernel_rfl
theorem k152 : Tk Tryd.prog 152 = some false := by kernel_rfl
theorem c153 : Program.cellsOf Tryd.prog 153 = 1 := by kernel_rfl
theorem b153 : Program.bytesOf Tryd.prog 153 = 8 := by kernel_rfl
theorem k153 : Tk Tryd.prog 153 = some false := by kernel_rfl
theorem c154 : Program.cellsOf Tryd.prog 154 = 1 := by kernel_rfl
theorem b154 : Program.bytesOf Tryd.prog 154 = 8 := by kernel_rfl
theorem k154 : Tk Tryd.prog 154 = some false := by kernel_rfl
theorem c155 : Program.cellsOf Tryd.prog 155 = 256 := by kernel_rfl
theorem b155 : Program.bytesOf Tryd.prog 155 = 256 := by kernel_rfl
theorem k155 : Tk Tryd.prog 155 = some true := by kernel_rfl
theorem z155 : Tzero Tryd.prog 155 = some [.int .u8 0, .int .u8 0, .int .u8 0, .int .u8 0, .int .u8 0, .int .u8 0, .int .u8 0, .int .u8 0, .int .u8 0, .int .u8 0, .int .u8 0, .int .u8 0, .int .u8 0, .int .u8 0, .int .u8 0, .int .u8 0, .int .u8 0, .int .u8 0, .int .u8 0, .int .u8 0, .int .u8 0, .int .u8 0, .int .u8 0, .int .u8 0, .int .u8 0, .int .u8 0, .int .u8 0, .int .u8 0, .int .u8 0, .int .u8 0, .int .u8 0, .int .u8 0, .int .u8 0, .int .u8 0, .int .u8 0, .int .u8 0, .int .u8 0, .int .u8 0, .int .u8 0, .int .u8 0, .int .u8 0, .int .u8 0, .int .u8 0, .int .u8 0, .int .u8 0, .int .u8 0, .int .u8 0, .int .u8 0, .int .u8 0, .int .u8 0, .int .u8 0, .int .u8 0, .int .u8 0, .int .u8 0, .int .u8 0, .int .u8 0, .int .u8 0, .int .u8 0, .int .u8 0, .int .u8 0, .int .u8 0, .int .u8 0, .int .u8 0, .int .u8 0, .int .u8 0, .int .u8 0, .int .u8 0, .int .u8 0, .int .u8 0, .int .u8 0, .int .u8 0, .int .u8 0, .int .u8 0, .int .u8 0, .int .u8 0, .int .u8 0, .int .u8 0, .int .u8 0, .int .u8 0, .int .u8 0, .int .u8 0, .int .u8 0, .int .u8 0, .int .u8 0, .int .u8 0, .int .u8 0, .int .u8 0, .int .u8 0, .int .u8 0, .int .u8 0, .int .u8 0, .int .u8 0, .int .u8 0, .int .u8 0, .int .u8 0, .int .u8 0, .int .u8 0, .int .u8 0, .int .u8 0, .int .u8 0, .int .u8 0, .int .u8 0, .int .u8 0, .int .u8 0, .int .u8 0, .int .u8 0, .int .u8 0, .int .u8 0, .int .u8 0, .int .u8 0, .int .u8 0, .int .u8 0, .int .u8 0, .int .u8 0, .int .u8 0, .int .u8 0, .int .u8 0, .int .u8 0, .int .u8 0, .int .u8 0, .int .u8 0, .int .u8 0, .int .u8 0, .int .u8 0, .int .u8 0, .int .u8 0, .int .u8 0, .int .u8 0, .int .u8 0, .int .u8 0, .int .u8 0, .int .u8 0, .int .u8 0, .int .u8 0, .int .u8 0, .int .u8 0, .int .u8 0, .int .u8 0, .int .u8 0, .int .u8 0, .int .u8 0, .int .u8 0, .int .u8 0, .int .u8 0, .int .u8 0, .int .u8 0, .int .u8 0, .int .u8 0, .int .u8 0, .int .u8 0, .int .u8 0, .int .u8 0, .int .u8 0, .int .u8 0, .int .u8 0, .int .u8 0, .int .u8 0, .int .u8 0, .int .u8 0, .int .u8 0, .int .u8 0, .int .u8 0, .int .u8 0, .int .u8 0, .int .u8 0, .int .u8 0, .int .u8 0, .int .u8 0, .int .u8 0, .int .u8 0, .int .u8 0, .int .u8 0, .int .u8 0, .int .u8 0, .int .u8 0, .int .u8 0, .int .u8 0, .int .u8 0, .int .u8 0, .int .u8 0, .int .u8 0, .int .u8 0, .int .u8 0, .int .u8 0, .int .u8 0, .int .u8 0, .int .u8 0, .int .u8 0, .int .u8 0, .int .u8 0, .int .u8 0, .int .u8 0, .int .u8 0, .int .u8 0, .int .u8 0, .int .u8 0, .int .u8 0, .int .u8 0, .int .u8 0, .int .u8 0, .int .u8 0, .int .u8 0, .int .u8 0, .int .u8 0, .int .u8 0, .int .u8 0, .int .u8 0, .int .u8 0, .int .u8 0, .int .u8 0, .int .u8 0, .int .u8 0, .int .u8 0, .int .u8 0, .int .u8 0, .int .u8 0, .int .u8 0, .int .u8 0, .int .u8 0, .int .u8 0, .int .u8 0, .int .u8 0, .int .u8 0, .int .u8 0, .int .u8 0, .int .u8 0, .int .u8 0, .int .u8 0, .int .u8 0, .int .u8 0, .int .u8 0, .int .u8 0, .int .u8 0, .int .u8 0, .int .u8 0, .int .u8 0, .int .u8 0, .int .u8 0, .int .u8 0, .int .u8 0, .int .u8 0, .int .u8 0, .int .u8 0, .int .u8 0, .int .u8 0, .int .u8 0, .int .u8 0, .int .u8 0, .int .u8 0, .int .u8 0, .int .u8 0, .int .u8 0, .int .u8 0, .int .u8 0, .int .u8 0, .int .u8 0] := by kernel_rfl
theorem a155 : TzeroA Tryd.prog 155 = some [.dv (.d (.int .u8 0)), .dv (.d (.int .u8 0)), .dv (.d (.int .u8 0)), .dv (.d (.int .u8 0)), .dv (.d (.int .u8 0)), .dv (.d (.int .u8 0)), .dv (.d (.int .u8 0)), .dv (.d (.int .u8 0)), .dv (.d (.int .u8 0)), .dv (.d (.int .u8 0)), .dv (.d (.int .u8 0)), .dv (.d (.int .u8 0)), .dv (.d (.int .u8 0)), .dv (.d (.int .u8 0)), .dv (.d (.int .u8 0)), .dv (.d (.int .u8 0)), .dv (.d (.int .u8 0)), .dv (.d (.int .u8 0)), .dv (.d (.int .u8 0)), .dv (.d (.int .u8 0)), .dv (.d (.int .u8 0)), .dv (.d (.int .u8 0)), .dv (.d (.int .u8 0)), .dv (.d (.int .u8 0)), .dv (.d (.int .u8 0)), .dv (.d (.int .u8 0)), .dv (.d (.int .u8 0)), .dv (.d (.int .u8 0)), .dv (.d (.int .u8 0)), .dv (.d (.int .u8 0)), .dv (.d (.int .u8 0)), .dv (.d (.int .u8 0)), .dv (.d (.int .u8 0)), .dv (.d (.int .u8 0)), .dv (.d (.int .u8 0)), .dv (.d (.int .u8 0)), .dv (.d (.int .u8 0)), .dv (.d (.int .u8 0)), .dv (.d (.int .u8 0)), .dv (.d (.int .u8 0)), .dv (.d (.int .u8 0)), .dv (.d (.int .u8 0)), .dv (.d (.int .u8 0)), .dv (.d (.int .u8 0)), .dv (.d (.int .u8 0)), .dv (.d (.int .u8 0)), .dv (.d (.int .u8 0)), .dv (.d (.int .u8 0)), .dv (.d (.int .u8 0)), .dv (.d (.int .u8 0)), .dv (.d (.int .u8 0)), .dv (.d (.int .u8 0)), .dv (.d (.int .u8 0)), .dv (.d (.int .u8 0)), .dv (.d (.int .u8 0)), .dv (.d (.int .u8 0)), .dv (.d (.int .u8 0)), .dv (.d (.int .u8 0)), .dv (.d (.int .u8 0)), .dv (.d (.int .u8 0)), .dv (.d (.int .u8 0)), .dv (.d (.int .u8 0)), .dv (.d (.int .u8 0)), .dv (.d (.int .u8 0)), .dv (.d (.int .u8 0)), .dv (.d (.int .u8 0)), .dv (.d (.int .u8 0)), .dv (.d (.int .u8 0)), .dv (.d (.int .u8 0)), .dv (.d (.int .u8 0)), .dv (.d (.int .u8 0)), .dv (.d (.int .u8 0)), .dv (.d (.int .u8 0)), .dv (.d (.int .u8 0)), .dv (.d (.int .u8 0)), .dv (.d (.int .u8 0)), .dv (.d (.int .u8 0)), .dv (.d (.int .u8 0)), .dv (.d (.int .u8 0)), .dv (.d (.int .u8 0)), .dv (.d (.int .u8 0)), .dv (.d (.int .u8 0)), .dv (.d (.int .u8 0)), .dv (.d (.int .u8 0)), .dv (.d (.int .u8 0)), .dv (.d (.int .u8 0)), .dv (.d (.int .u8 0)), .dv (.d (.int .u8 0)), .dv (.d (.int .u8 0)), .dv (.d (.int .u8 0)), .dv (.d (.int .u8 0)), .dv (.d (.int .u8 0)), .dv (.d (.int .u8 0)), .dv (.d (.int .u8 0)), .dv (.d (.int .u8 0)), .dv (.d (.int .u8 0)), .dv (.d (.int .u8 0)), .dv (.d (.int .u8 0)), .dv (.d (.int .u8 0)), .dv (.d (.int .u8 0)), .dv (.d (.int .u8 0)), .dv (.d (.int .u8 0)), .dv (.d (.int .u8 0)), .dv (.d (.int .u8 0)), .dv (.d (.int .u8 0)), .dv (.d (.int .u8 0)), .dv (.d (.int .u8 0)), .dv (.d (.int .u8 0)), .dv (.d (.int .u8 0)), .dv (.d (.int .u8 0)), .dv (.d (.int .u8 0)), .dv (.d (.int .u8 0)), .dv (.d (.int .u8 0)), .dv (.d (.int .u8 0)), .dv (.d (.int .u8 0)), .dv (.d (.int .u8 0)), .dv (.d (.int .u8 0)), .dv (.d (.int .u8 0)), .dv (.d (.int .u8 0)), .dv (.d (.int .u8 0)), .dv (.d (.int .u8 0)), .dv (.d (.int .u8 0)), .dv (.d (.int .u8 0)), .dv (.d (.int .u8 0)), .dv (.d (.int .u8 0)), .dv (.d (.int .u8 0)), .dv (.d (.int .u8 0)), .dv (.d (.int .u8 0)), .dv (.d (.int .u8 0)), .dv (.d (.int .u8 0)), .dv (.d (.int .u8 0)), .dv (.d (.int .u8 0)), .dv (.d (.int .u8 0)), .dv (.d (.int .u8 0)), .dv (.d (.int .u8 0)), .dv (.d (.int .u8 0)), .dv (.d (.int .u8 0)), .dv (.d (.int .u8 0)), .dv (.d (.int .u8 0)), .dv (.d (.int .u8 0)), .dv (.d (.int .u8 0)), .dv (.d (.int .u8 0)), .dv (.d (.int .u8 0)), .dv (.d (.int .u8 0)), .dv (.d (.int .u8 0)), .dv (.d (.int .u8 0)), .dv (.d (.int .u8 0)), .dv (.d (.int .u8 0)), .dv (.d (.int .u8 0)), .dv (.d (.int .u8 0)), .dv (.d (.int .u8 0)), .dv (.d (.int .u8 0)), .dv (.d (.int .u8 0)), .dv (.d (.int .u8 0)), .dv (.d (.int .u8 0)), .dv (.d (.int .u8 0)), .dv (.d (.int .u8 0)), .dv (.d (.int .u8 0)), .dv (.d (.int .u8 0)), .dv (.d (.int .u8 0)), .dv (.d (.int .u8 0)), .dv (.d (.int .u8 0)), .dv (.d (.int .u8 0)), .dv (.d (.int .u8 0)), .dv (.d (.int .u8 0)), .dv (.d (.int .u8 0)), .dv (.d (.int .u8 0)), .dv (.d (.int .u8 0)), .dv (.d (.int .u8 0)), .dv (.d (.int .u8 0)), .dv (.d (.int .u8 0)), .dv (.d (.int .u8 0)), .dv (.d (.int .u8 0)), .dv (.d (.int .u8 0)), .dv (.d (.int .u8 0)), .dv (.d (.int .u8 0)), .dv (.d (.int .u8 0)), .dv (.d (.int .u8 0)), .dv (.d (.int .u8 0)), .dv (.d (.int .u8 0)), .dv (.d (.int .u8 0)), .dv (.d (.int .u8 0)), .dv (.d (.int .u8 0)), .dv (.d (.int .u8 0)), .dv (.d (.int .u8 0)), .dv (.d (.int .u8 0)), .dv (.d (.int .u8 0)), .dv (.d (.int .u8 0)), .dv (.d (.int .u8 0)), .dv (.d (.int .u8 0)), .dv (.d (.int .u8 0)), .dv (.d (.int .u8 0)), .dv (.d (.int .u8 0)), .dv (.d (.int .u8 0)), .dv (.d (.int .u8 0)), .dv (.d (.int .u8 0)), .dv (.d (.int .u8 0)), .dv (.d (.int .u8 0)), .dv (.d (.int .u8 0)), .dv (.d (.int .u8 0)), .dv (.d (.int .u8 0)), .dv (.d (.int .u8 0)), .dv (.d (.int .u8 0)), .dv (.d (.int .u8 0)), .dv (.d (.int .u8 0)), .dv (.d (.int .u8 0)), .dv (.d (.int .u8 0)), .dv (.d (.int .u8 0)), .dv (.d (.int .u8 0)), .dv (.d (.int .u8 0)), .dv (.d (.int .u8 0)), .dv (.d (.int .u8 0)), .dv (.d (.int .u8 0)), .dv (.d (.int .u8 0)), .dv (.d (.int .u8 0)), .dv (.d (.int .u8 0)), .dv (.d (.int .u8 0)), .dv (.d (.int .u8 0)), .dv (.d (.int .u8 0)), .dv (.d (.int .u8 0)), .dv (.d (.int .u8 0)), .dv (.d (.int .u8 0)), .dv (.d (.int .u8 0)), .dv (.d (.int .u8 0)), .dv (.d (.int .u8 0)), .dv (.d (.int .u8 0)), .dv (.d (.int .u8 0)), .dv (.d (.int .u8 0)), .dv (.d (.int .u8 0)), .dv (.d (.int .u8 0)), .dv (.d (.int .u8 0)), .dv (.d (.int .u8 0)), .dv (.d (.int .u8 0)), .dv (.d (.int .u8 0)), .dv (.d (.int .u8 0)), .dv (.d (.int .u8 0)), .dv (.d (.int .u8 0)), .dv (.d (.int .u8 0)), .dv (.d (.int .u8 0)), .dv (.d (.int .u8 0)), .dv (.d (.int .u8 0)), .dv (.d (.int .u8 0)), .dv (.d (.int .u8 0)), .dv (.d (.int .u8 0)), .dv (.d (.int .u8 0)), .dv (.d (.int .u8 0)), .dv (.d (.int .u8 0)), .dv (.d (.int .u8 0)), .dv (.d (.int .u8 0)), .dv (.d (.int .u8 0)), .dv (.d (.int .u8 0)), .dv (.d (.int .u8 0)), .dv (.d (.int .u8 0)), .dv (.d (.int .u8 0)), .dv (.d (.int .u8 0)), .dv (.d (.int .u8 0))] := by kernel_rfl
theorem p155 : Tplc Tryd.prog 155 = some [(0, 1), (1, 1), (2, 1), (3, 1), (4, 1), (5, 1), (6, 1), (7, 1), (8, 1), (9, 1), (10, 1), (11, 1), (12, 1), (13, 1), (14, 1), (15, 1), (16, 1), (17, 1), (18, 1), (19, 1), (20, 1), (21, 1), (22, 1), (23, 1), (24, 1), (25, 1), (26, 1), (27, 1), (28, 1), (29, 1), (30, 1), (31, 1), (32, 1), (33, 1), (34, 1), (35, 1), (36, 1), (37, 1), (38, 1), (39, 1), (40, 1), (41, 1), (42, 1), (43, 1), (44, 1), (45, 1), (46, 1), (47, 1), (48, 1), (49, 1), (50, 1), (51, 1), (52, 1), (53, 1), (54, 1), (55, 1), (56, 1), (57, 1), (58, 1), (59, 1), (60, 1), (61, 1), (62, 1), (63, 1), (64, 1), (65, 1), (66, 1), (67, 1), (68, 1), (69, 1), (70, 1), (71, 1), (72, 1), (73, 1), (74, 1), (75, 1), (76, 1), (77, 1), (78, 1), (79, 1), (80, 1), (81, 1), (82, 1), (83, 1), (84, 1), (85, 1), (86, 1), (87, 1), (88, 1), (89, 1), (90, 1), (91, 1), (92, 1), (93, 1), (94, 1), (95, 1), (96, 1), (97, 1), (98, 1), (99, 1), (100, 1), (101, 1), (102, 1), (103, 1), (104, 1), (105, 1), (106, 1), (107, 1), (108, 1), (109, 1), (110, 1), (111, 1), (112, 1), (113, 1), (114, 1), (115, 1), (116, 1), (117, 1), (118, 1), (119, 1), (120, 1), (121, 1), (122, 1), (123, 1), (124, 1), (125, 1), (126, 1), (127, 1), (128, 1), (129, 1), (130, 1), (131, 1), (132, 1), (133, 1), (134, 1), (135, 1), (136, 1), (137, 1), (138, 1), (139, 1), (140, 1), (141, 1), (142, 1), (143, 1), (144, 1), (145, 1), (146, 1), (147, 1), (148, 1), (149, 1), (150, 1), (151, 1), (152, 1), (153, 1), (154, 1), (155, 1), (156, 1), (157, 1), (158, 1), (159, 1), (160, 1), (161, 1), (162, 1), (163, 1), (164, 1), (165, 1), (166, 1), (167, 1), (168, 1), (169, 1), (170, 1), (171, 1), (172, 1), (173, 1), (174, 1), (175, 1), (176, 1), (177, 1), (178, 1), (179, 1), (180, 1), (181, 1), (182, 1), (183, 1), (184, 1), (185, 1), (186, 1), (187, 1), (188, 1), (189, 1), (190, 1), (191, 1), (192, 1), (193, 1), (194, 1), (195, 1), (196, 1), (197, 1), (198, 1), (199, 1), (200, 1), (201, 1), (202, 1), (203, 1), (204, 1), (205, 1), (206, 1), (207, 1), (208, 1), (209, 1), (210, 1), (211, 1), (212, 1), (213, 1), (214, 1), (215, 1), (216, 1), (217, 1), (218, 1), (219, 1), (220, 1), (221, 1), (222, 1), (223, 1), (224, 1), (225, 1), (226, 1), (227, 1), (228, 1), (229, 1), (230, 1), (231, 1), (232, 1), (233, 1), (234, 1), (235, 1), (236, 1), (237, 1), (238, 1), (239, 1), (240, 1), (241, 1), (242, 1), (243, 1), (244, 1), (245, 1), (246, 1), (247, 1), (248, 1), (249, 1), (250, 1), (251, 1), (252, 1), (253, 1), (254, 1), (255, 1)] := by kernel_rfl
theorem c156 : Program.cellsOf Tryd.prog 156 = 2 := by kernel_rfl
theorem b156 : Program.bytesOf Tryd.prog 156 = 2 := by kernel_rfl
theorem k156 : Tk Tryd.prog 156 = some true := by kernel_rfl
theorem z156 : Tzero Tryd.prog 156 = some [.int .u8 0, .int .u8 0] := by kernel_rfl
theorem a156 : TzeroA Tryd.prog 156 = some [.dv (.d (.int .u8 0)), .dv (.d (.int .u8 0))] := by kernel_rfl
theorem e156 : eqT Tryd.prog 156 = some [.i .u8, .i .u8] := by kernel_rfl
theorem f156_0 : Tfld Tryd.prog 156 0 = some (0, 5) := by kernel_rfl
theorem f156_1 : Tfld Tryd.prog 156 1 = some (1, 5) := by kernel_rfl
theorem p156 : Tplc Tryd.prog 156 = some [(0, 1), (1, 1)] := by kernel_rfl
theorem c157 : Program.cellsOf Tryd.prog 157 = 2 := by kernel_rfl
theorem b157 : Program.bytesOf Tryd.prog 157 = 2 := by kernel_rfl
theorem k157 : Tk Tryd.prog 157 = some true := by kernel_rfl
theorem z157 : Tzero Tryd.prog 157 = some [.int .u8 0, .int .u8 0] := by kernel_rfl
theorem a157 : TzeroA Tryd.prog 157 = some [.dv (.d (.int .u8 0)), .dv (.d (.int .u8 0))] := by kernel_rfl
theorem e157 : eqT Tryd.prog 157 = some [.i .u8, .i .u8] := by kernel_rfl
theorem f157_0 : Tfld Tryd.prog 157 0 = some (0, 5) := by kernel_rfl
theorem f157_1 : Tfld Tryd.prog 157 1 = some (1, 5) := by kernel_rfl
theorem p157 : Tplc Tryd.prog 157 = some [(0, 1), (1, 1)] := by kernel_rfl
theorem c158 : Program.cellsOf Tryd.prog 158 = 32 := by kernel_rfl
theorem b158 : Program.bytesOf Tryd.prog 158 = 32 := by kernel_rfl
theorem k158 : Tk Tryd.prog 158 = some true := by kernel_rfl
theorem z158 : Tzero Tryd.prog 158 = some [.int .u8 0, .int .u8 0, .int .u8 0, .int .u8 0, .int .u8 0, .int .u8 0, .int .u8 0, .int .u8 0, .int .u8 0, .int .u8 0, .int .u8 0, .int .u8 0, .int .u8 0, .int .u8 0, .int .u8 0, .int .u8 0, .int .u8 0, .int .u8 0, .int .u8 0, .int .u8 0, .int .u8 0, .int .u8 0, .int .u8 0, .int .u8 0, .int .u8 0, .int .u8 0, .int .u8 0, .int .u8 0, .int .u8 0, .int .u8 0, .int .u8 0, .int .u8 0] := by kernel_rfl
theorem a158 : TzeroA Tryd.prog 158 = some [.dv (.d (.int .u8 0)), .dv (.d (.int .u8 0)), .dv (.d (.int .u8 0)), .dv (.d (.int .u8 0)), .dv (.d (.int .u8 0)), .dv (.d (.int .u8 0)), .dv (.d (.int .u8 0)), .dv (.d (.int .u8 0)), .dv (.d (.int .u8 0)), .dv (.d (.int .u8 0)), .dv (.d (.int .u8 0)), .dv (.d (.int .u8 0)), .dv (.d (.int .u8 0)), .dv (.d (.int .u8 0)), .dv (.d (.int .u8 0)), .dv (.d (.int .u8 0)), .dv (.d (.int .u8 0)), .dv (.d (.int .u8 0)), .dv (.d (.int .u8 0)), .dv (.d (.int .u8 0)), .dv (.d (.int .u8 0)), .dv (.d (.int .u8 0)), .dv (.d (.int .u8 0)), .dv (.d (.int .u8 0)), .dv (.d (.int .u8 0)), .dv (.d (.int .u8 0)), .dv (.d (.int .u8 0)), .dv (.d (.int .u8 0)), .dv (.d (.int .u8 0)), .dv (.d (.int .u8 0)), .dv (.d (.int .u8 0)), .dv (.d (.int .u8 0))] := by kernel_rfl
theorem p158 : Tplc Tryd.prog 158 = some [(0, 2), (2, 2), (4, 2), (6, 2), (8, 2), (10, 2), (12, 2), (14, 2), (16, 2), (18, 2), (20, 2), (22, 2), (24, 2), (26, 2), (28, 2), (30, 2)] := by kernel_rfl
theorem c159 : Program.cellsOf Tryd.prog 159 = 1 := by kernel_rfl
theorem b159 : Program.bytesOf Tryd.prog 159 = 8 := by kernel_rfl
theorem k159 : Tk Tryd.prog 159 = some false := by kernel_rfl
theorem c160 : Program.cellsOf Tryd.prog 160 = 4 := by kernel_rfl
theorem b160 : Program.bytesOf Tryd.prog 160 = 40 := by kernel_rfl
theorem k160 : Tk Tryd.prog 160 = some true := by kernel_rfl
theorem f160_0 : Tfld Tryd.prog 160 0 = some (0, 17) := by kernel_rfl
theorem f160_1 : Tfld Tryd.prog 160 1 = some (1, 17) := by kernel_rfl
theorem f160_2 : Tfld Tryd.prog 160 2 = some (2, 17) := by kernel_rfl
theorem f160_3 : Tfld Tryd.prog 160 3 = some (3, 9) := by kernel_rfl
theorem p160 : Tplc Tryd.prog 160 = some [(0, 1), (1, 1), (2, 1), (3, 1)] := by kernel_rfl
theorem c161 : Program.cellsOf Tryd.prog 161 = 4 := by kernel_rfl
theorem b161 : Program.bytesOf Tryd.prog 161 = 40 := by kernel_rfl
theorem k161 : Tk Tryd.prog 161 = some true := by kernel_rfl
theorem f161_0 : Tfld Tryd.prog 161 0 = some (0, 17) := by kernel_rfl
theorem f161_1 : Tfld Tryd.prog 161 1 = some (1, 17) := by kernel_rfl
theorem f161_2 : Tfld Tryd.prog 161 2 = some (2, 17) := by kernel_rfl
theorem f161_3 : Tfld Tryd.prog 161 3 = some (3, 9) := by kernel_rfl
theorem p161 : Tplc Tryd.prog 161 = some [(0, 1), (1, 1), (2, 1), (3, 1)] := by kernel_rfl
theorem c162 : Program.cellsOf Tryd.prog 162 = 0 := by kernel_rfl
theorem b162 : Program.bytesOf Tryd.prog 162 = 0 := by kernel_rfl
theorem k162 : Tk Tryd.prog 162 = some true := by kernel_rfl
theorem z162 : Tzero Tryd.prog 162 = some [] := by kernel_rfl
theorem a162 : TzeroA Tryd.prog 162 = some [] := by kernel_rfl
theorem p162 : Tplc Tryd.prog 162 = some [] := by kernel_rfl
theorem c163 : Program.cellsOf Tryd.prog 163 = 0 := by kernel_rfl
theorem b163 : Program.bytesOf Tryd.prog 163 = 0 := by kernel_rfl
theorem k163 : Tk Tryd.prog 163 = some true := by kernel_rfl
theorem z163 : Tzero Tryd.prog 163 = some [] := by kernel_rfl
theorem a163 : TzeroA Tryd.prog 163 = some [] := by kernel_rfl
theorem f163_0 : Tfld Tryd.prog 163 0 = some (0, 162) := by kernel_rfl
theorem p163 : Tplc Tryd.prog 163 = some [(0, 0)] := by kernel_rfl
theorem c164 : Program.cellsOf Tryd.prog 164 = 0 := by kernel_rfl
theorem b164 : Program.bytesOf Tryd.prog 164 = 0 := by kernel_rfl
theorem k164 : Tk Tryd.prog 164 = some true := by kernel_rfl
theorem z164 : Tzero Tryd.prog 164 = some [] := by kernel_rfl
theorem a164 : TzeroA Tryd.prog 164 = some [] := by kernel_rfl
theorem f164_0 : Tfld Tryd.prog 164 0 = some (0, 162) := by kernel_rfl
theorem p164 : Tplc Tryd.prog 164 = some [(0, 0)] := by kernel_rfl
theorem c165 : Program.cellsOf Tryd.prog 165 = 1 := by kernel_rfl
theorem b165 : Program.bytesOf Tryd.prog 165 = 1 := by kernel_rfl
theorem k165 : Tk Tryd.prog 165 = some false := by kernel_rfl
theorem z165 : Tzero Tryd.prog 165 = some [.int .u8 0] := by kernel_rfl
theorem a165 : TzeroA Tryd.prog 165 = some [.dv (.d (.int .u8 0))] := by kernel_rfl
theorem o165 : Tone Tryd.prog 165 = some (.int .u8 0, 1) := by kernel_rfl
theorem c166 : Program.cellsOf Tryd.prog 166 = 1 := by kernel_rfl
theorem b166 : Program.bytesOf Tryd.prog 166 = 1 := by kernel_rfl
theorem k166 : Tk Tryd.prog 166 = some false := by kernel_rfl
theorem z166 : Tzero Tryd.prog 166 = some [.int .u8 0] := by kernel_rfl
theorem a166 : TzeroA Tryd.prog 166 = some [.dv (.d (.int .u8 0))] := by kernel_rfl
theorem o166 : Tone Tryd.prog 166 = some (.int .u8 0, 1) := by kernel_rfl
theorem c167 : Program.cellsOf Tryd.prog 167 = 1 := by kernel_rfl
theorem b167 : Program.bytesOf Tryd.prog 167 = 8 := by kernel_rfl
theorem k167 : Tk Tryd.prog 167 = some false := by kernel_rfl
theorem c168 : Program.cellsOf Tryd.prog 168 = 1 := by kernel_rfl
theorem b168 : Program.bytesOf Tryd.prog 168 = 4 := by kernel_rfl
theorem k168 : Tk Tryd.prog 168 = some false := by kernel_rfl
theorem z168 : Tzero Tryd.prog 168 = some [.int .i32 0] := by kernel_rfl
theorem a168 : TzeroA Tryd.prog 168 = some [.dv (.d (.int .i32 0))] := by kernel_rfl
theorem o168 : Tone Tryd.prog 168 = some (.int .i32 0, 4) := by kernel_rfl
theorem c169 : Program.cellsOf Tryd.prog 169 = 1 := by kernel_rfl
theorem b169 : Program.bytesOf Tryd.prog 169 = 4 := by kernel_rfl
theorem k169 : Tk Tryd.prog 169 = some false := by kernel_rfl
theorem z169 : Tzero Tryd.prog 169 = some [.int .i32 0] := by kernel_rfl
theorem a169 : TzeroA Tryd.prog 169 = some [.dv (.d (.int .i32 0))] := by kernel_rfl
theorem o169 : Tone Tryd.prog 169 = some (.int .i32 0, 4) := by kernel_rfl
theorem c170 : Program.cellsOf Tryd.prog 170 = 11 := by kernel_rfl
theorem b170 : Program.bytesOf Tryd.prog 170 = 48 := by kernel_rfl
theorem k170 : Tk Tryd.prog 170 = some true := by kernel_rfl
theorem f170_0 : Tfld Tryd.prog 170 0 = some (0, 12) := by kernel_rfl
theorem f170_1 : Tfld Tryd.prog 170 1 = some (1, 12) := by kernel_rfl
theorem f170_2 : Tfld Tryd.prog 170 2 = some (2, 134) := by kernel_rfl
theorem f170_3 : Tfld Tryd.prog 170 3 = some (3, 165) := by kernel_rfl
theorem f170_4 : Tfld Tryd.prog 170 4 = some (4, 5) := by kernel_rfl
theorem f170_5 : Tfld Tryd.prog 170 5 = some (5, 5) := by kernel_rfl
theorem f170_6 : Tfld Tryd.prog 170 6 = some (6, 166) := by kernel_rfl
theorem f170_7 : Tfld Tryd.prog 170 7 = some (7, 167) := by kernel_rfl
theorem f170_8 : Tfld Tryd.prog 170 8 = some (8, 140) := by kernel_rfl
theorem f170_9 : Tfld Tryd.prog 170 9 = some (9, 168) := by kernel_rfl
theorem f170_10 : Tfld Tryd.prog 170 10 = some (10, 169) := by kernel_rfl
theorem p170 : Tplc Tryd.prog 170 = some [(0, 1), (1, 1), (2, 1), (3, 1), (4, 1), (5, 1), (6, 1), (7, 1), (8, 1), (9, 1), (10, 1)] := by kernel_rfl
theorem c171 : Program.cellsOf Tryd.prog 171 = 11 := by kernel_rfl
theorem b171 : Program.bytesOf Tryd.prog 171 = 48 := by kernel_rfl
theorem k171 : Tk Tryd.prog 171 = some true := by kernel_rfl
theorem f171_0 : Tfld Tryd.prog 171 0 = some (0, 12) := by kernel_rfl
theorem f171_1 : Tfld Tryd.prog 171 1 = some (1, 12) := by kernel_rfl
theorem f171_2 : Tfld Tryd.prog 171 2 = some (2, 134) := by kernel_rfl
theorem f171_3 : Tfld Tryd.prog 171 3 = some (3, 165) := by kernel_rfl
theorem f171_4 : Tfld Tryd.prog 171 4 = some (4, 5) := by kernel_rfl
theorem f171_5 : Tfld Tryd.prog 171 5 = some (5, 5) := by kernel_rfl
theorem f171_6 : Tfld Tryd.prog 171 6 = some (6, 166) := by kernel_rfl
theorem f171_7 : Tfld Tryd.prog 171 7 = some (7, 167) := by kernel_rfl
theorem f171_8 : Tfld Tryd.prog 171 8 = some (8, 140) := by kernel_rfl
theorem f171_9 : Tfld Tryd.prog 171 9 = some (9, 168) := by kernel_rfl
theorem f171_10 : Tfld Tryd.prog 171 10 = some (10, 169) := by kernel_rfl
theorem p171 : Tplc Tryd.prog 171 = some [(0, 1), (1, 1), (2, 1), (3, 1), (4, 1), (5, 1), (6, 1), (7, 1), (8, 1), (9, 1), (10, 1)] := by kernel_rfl
theorem zv2 : zeroAV Tryd.prog 2 = [.dv (.d (.int .i64 0))] := Go.Avc.Eq.zeroAV_e a2
theorem zv3 : zeroAV Tryd.prog 3 = [.dv (.d (.int .i64 0))] := Go.Avc.Eq.zeroAV_e a3
theorem zv4 : zeroAV Tryd.prog 4 = [.dv (.d (.bool false))] := Go.Avc.Eq.zeroAV_e a4
theorem zv5 : zeroAV Tryd.prog 5 = [.dv (.d (.int .u8 0))] := Go.Avc.Eq.zeroAV_e a5
theorem zv6 : zeroAV Tryd.prog 6 = [.dv (.d (.int .u8 0))] := Go.Avc.Eq.zeroAV_e a6
theorem zv7 : zeroAV Tryd.prog 7 = [.dv (.d (.int .i64 0)), .dv (.d (.int .i64 0)), .dv (.d (.bool false)), .dv (.d (.int .u8 0))] := Go.Avc.Eq.zeroAV_e a7
theorem zv8 : zeroAV Tryd.prog 8 = [.dv (.d (.int .i64 0)), .dv (.d (.int .i64 0)), .dv (.d (.bool false)), .dv (.d (.int .u8 0))] := Go.Avc.Eq.zeroAV_e a8
theorem zv9 : zeroAV Tryd.prog 9 = [.dv (.d (.str ⟨#[]⟩))] := Go.Avc.Eq.zeroAV_e a9
theorem zv10 : zeroAV Tryd.prog 10 = [.dv (.d (.str ⟨#[]⟩))] := Go.Avc.Eq.zeroAV_e a10
theorem zv11 : zeroAV Tryd.prog 11 = [.dv (.d (.str ⟨#[]⟩))] := Go.Avc.Eq.zeroAV_e a11
theorem zv12 : zeroAV Tryd.prog 12 = [.dv (.d (.int .u64 0))] := Go.Avc.Eq.zeroAV_e a12
theorem zv13 : zeroAV Tryd.prog 13 = [.dv (.d (.str ⟨#[]⟩)), .dv (.d (.int .u64 0))] := Go.Avc.Eq.zeroAV_e a13
theorem zv14 : zeroAV Tryd.prog 14 = [.dv (.d (.str ⟨#[]⟩)), .dv (.d (.int .u64 0))] := Go.Avc.Eq.zeroAV_e a14
theorem zv21 : zeroAV Tryd.prog 21 = [.dv (.d (.int .i32 0))] := Go.Avc.Eq.zeroAV_e a21
theorem zv22 : zeroAV Tryd.prog 22 = [.nil] := Go.Avc.Eq.zeroAV_e a22
theorem zv24 : zeroAV Tryd.prog 24 = [.nil, .dv (.d (.int .i64 0))] := Go.Avc.Eq.zeroAV_e a24
theorem zv25 : zeroAV Tryd.prog 25 = [.nil, .dv (.d (.int .i64 0))] := Go.Avc.Eq.zeroAV_e a25
theorem zv26 : zeroAV Tryd.prog 26 = [.nil] := Go.Avc.Eq.zeroAV_e a26
theorem zv27 : zeroAV Tryd.prog 27 = [.nil] := Go.Avc.Eq.zeroAV_e a27
theorem zv28 : zeroAV Tryd.prog 28 = [.nil] := Go.Avc.Eq.zeroAV_e a28
theorem zv29 : zeroAV Tryd.prog 29 = [.nil, .dv (.d (.int .i64 0)), .dv (.d (.int .i64 0)), .nil, .nil, .nil, .nil] := Go.Avc.Eq.zeroAV_e a29
theorem zv30 : zeroAV Tryd.prog 30 = [.nil, .dv (.d (.int .i64 0)), .dv (.d (.int .i64 0)), .nil, .nil, .nil, .nil] := Go.Avc.Eq.zeroAV_e a30
theorem zv32 : zeroAV Tryd.prog 32 = [.nil] := Go.Avc.Eq.zeroAV_e a32
theorem zv33 : zeroAV Tryd.prog 33 = [.dv (.d (.str ⟨#[]⟩)), .nil] := Go.Avc.Eq.zeroAV_e a33
theorem zv34 : zeroAV Tryd.prog 34 = [.dv (.d (.str ⟨#[]⟩)), .nil] := Go.Avc.Eq.zeroAV_e a34
theorem zv39 : zeroAV Tryd.prog 39 = [.dv (.d (.int .i64 0))] := Go.Avc.Eq.zeroAV_e a39
theorem zv52 : zeroAV Tryd.prog 52 = [.dv (.d (.int .i64 0)), .dv (.d (.str ⟨#[]⟩))] := Go.Avc.Eq.zeroAV_e a52
theorem zv53 : zeroAV Tryd.prog 53 = [.dv (.d (.int .i64 0)), .dv (.d (.str ⟨#[]⟩))] := Go.Avc.Eq.zeroAV_e a53
theorem zv56 : zeroAV Tryd.prog 56 = [.nil] := Go.Avc.Eq.zeroAV_e a56
theorem zv57 : zeroAV Tryd.prog 57 = [.nil] := Go.Avc.Eq.zeroAV_e a57
theorem zv59 : zeroAV Tryd.prog 59 = [.dv (.d (.int .i64 0)), .dv (.d (.str ⟨#[]⟩)), .dv (.d (.int .i64 0)), .dv (.d (.int .i64 0))] := Go.Avc.Eq.zeroAV_e a59
theorem zv60 : zeroAV Tryd.prog 60 = [.dv (.d (.int .i64 0)), .dv (.d (.str ⟨#[]⟩)), .dv (.d (.int .i64 0)), .dv (.d (.int .i64 0))] := Go.Avc.Eq.zeroAV_e a60
theorem zv61 : zeroAV Tryd.prog 61 = [.dv (.d (.str ⟨#[]⟩)), .dv (.d (.int .i64 0)), .dv (.d (.int .i64 0)), .dv (.d (.int .i64 0)), .nil] := Go.Avc.Eq.zeroAV_e a61
theorem zv62 : zeroAV Tryd.prog 62 = [.dv (.d (.str ⟨#[]⟩)), .dv (.d (.int .i64 0)), .dv (.d (.int .i64 0)), .dv (.d (.int .i64 0)), .nil] := Go.Avc.Eq.zeroAV_e a62
theorem zv64 : zeroAV Tryd.prog 64 = [.dv (.d (.int .i64 0)), .dv (.d (.int .i64 0))] := Go.Avc.Eq.zeroAV_e a64
theorem zv65 : zeroAV Tryd.prog 65 = [.dv (.d (.int .i64 0)), .dv (.d (.int .i64 0))] := Go.Avc.Eq.zeroAV_e a65
theorem zv67 : zeroAV Tryd.prog 67 = [.nil] := Go.Avc.Eq.zeroAV_e a67
theorem zv83 : zeroAV Tryd.prog 83 = [.nil] := Go.Avc.Eq.zeroAV_e a83
theorem zv97 : zeroAV Tryd.prog 97 = [.dv (.d (.int .u64 0))] := Go.Avc.Eq.zeroAV_e a97
theorem zv111 : zeroAV Tryd.prog 111 = [.dv (.d (.bool false)), .dv (.d (.bool false)), .dv (.d (.bool false)), .dv (.d (.bool false)), .dv (.d (.bool false)), .dv (.d (.bool false)), .dv (.d (.bool false)), .dv (.d (.bool false)), .dv (.d (.bool false)), .dv (.d (.bool false)), .dv (.d (.bool false)), .dv (.d (.bool false)), .dv (.d (.bool false)), .dv (.d (.bool false)), .dv (.d (.bool false)), .dv (.d (.bool false)), .dv (.d (.bool false)), .dv (.d (.bool false)), .dv (.d (.bool false)), .dv (.d (.bool false)), .dv (.d (.bool false)), .dv (.d (.bool false)), .dv (.d (.bool false)), .dv (.d (.bool false)), .dv (.d (.bool false)), .dv (.d (.bool false)), .dv (.d (.bool false)), .dv (.d (.bool false)), .dv (.d (.bool false)), .dv (.d (.bool false)), .dv (.d (.bool false)), .dv (.d (.bool false)), .dv (.d (.bool false)), .dv (.d (.bool false)), .dv (.d (.bool false)), .dv (.d (.bool false)), .dv (.d (.bool false)), .dv (.d (.bool false)), .dv (.d (.bool false)), .dv (.d (.bool false)), .dv (.d (.bool false)), .dv (.d (.bool false)), .dv (.d (.bool false)), .dv (.d (.bool false)), .dv (.d (.bool false)), .dv (.d (.bool false)), .dv (.d (.bool false)), .dv (.d (.bool false)), .dv (.d (.bool false)), .dv (.d (.bool false)), .dv (.d (.bool false)), .dv (.d (.bool false)), .dv (.d (.bool false)), .dv (.d (.bool false)), .dv (.d (.bool false)), .dv (.d (.bool false)), .dv (.d (.bool false)), .dv (.d (.bool false)), .dv (.d (.bool false)), .dv (.d (.bool false)), .dv (.d (.bool false)), .dv (.d (.bool false)), .dv (.d (.bool false)), .dv (.d (.bool false)), .dv (.d (.bool false)), .dv (.d (.bool false)), .dv (.d (.bool false)), .dv (.d (.bool false)), .dv (.d (.bool false)), .dv (.d (.bool false)), .dv (.d (.bool false)), .dv (.d (.bool false)), .dv (.d (.bool false)), .dv (.d (.bool false)), .dv (.d (.bool false)), .dv (.d (.bool false)), .dv (.d (.bool false)), .dv (.d (.bool false)), .dv (.d (.bool false)), .dv (.d (.bool false)), .dv (.d (.bool false)), .dv (.d (.bool false)), .dv (.d (.bool false)), .dv (.d (.bool false)), .dv (.d (.bool false)), .dv (.d (.bool false)), .dv (.d (.bool false)), .dv (.d (.bool false)), .dv (.d (.bool false)), .dv (.d (.bool false)), .dv (.d (.bool false)), .dv (.d (.bool false)), .dv (.d (.bool false)), .dv (.d (.bool false)), .dv (.d (.bool false)), .dv (.d (.bool false)), .dv (.d (.bool false)), .dv (.d (.bool false)), .dv (.d (.bool false)), .dv (.d (.bool false)), .dv (.d (.bool false)), .dv (.d (.bool false)), .dv (.d (.bool false)), .dv (.d (.bool false)), .dv (.d (.bool false)), .dv (.d (.bool false)), .dv (.d (.bool false)), .dv (.d (.bool false)), .dv (.d (.bool false)), .dv (.d (.bool false)), .dv (.d (.bool false)), .dv (.d (.bool false)), .dv (.d (.bool false)), .dv (.d (.bool false)), .dv (.d (.bool false)), .dv (.d (.bool false)), .dv (.d (.bool false)), .dv (.d (.bool false)), .dv (.d (.bool false)), .dv (.d (.bool false)), .dv (.d (.bool false)), .dv (.d (.bool false)), .dv (.d (.bool false)), .dv (.d (.bool false)), .dv (.d (.bool false)), .dv (.d (.bool false)), .dv (.d (.bool false)), .dv (.d (.bool false)), .dv (.d (.bool false)), .dv (.d (.bool false)), .dv (.d (.bool false)), .dv (.d (.bool false)), .dv (.d (.bool false)), .dv (.d (.bool false)), .dv (.d (.bool false)), .dv (.d (.bool false)), .dv (.d (.bool false)), .dv (.d (.bool false)), .dv (.d (.bool false)), .dv (.d (.bool false)), .dv (.d (.bool false)), .dv (.d (.bool false)), .dv (.d (.bool false)), .dv (.d (.bool false)), .dv (.d (.bool false)), .dv (.d (.bool false)), .dv (.d (.bool false)), .dv (.d (.bool false)), .dv (.d (.bool false)), .dv (.d (.bool false)), .dv (.d (.bool false)), .dv (.d (.bool false)), .dv (.d (.bool false)), .dv (.d (.bool false)), .dv (.d (.bool false)), .dv (.d (.bool false)), .dv (.d (.bool false)), .dv (.d (.bool false)), .dv (.d (.bool false)), .dv (.d (.bool false)), .dv (.d (.bool false)), .dv (.d (.bool false)), .dv (.d (.bool false)), .dv (.d (.bool false)), .dv (.d (.bool false)), .dv (.d (.bool false)), .dv (.d (.bool false)), .dv (.d (.bool false)), .dv (.d (.bool false)), .dv (.d (.bool false)), .dv (.d (.bool false)), .dv (.d (.bool false)), .dv (.d (.bool false)), .dv (.d (.bool false)), .dv (.d (.bool false)), .dv (.d (.bool false)), .dv (.d (.bool false)), .dv (.d (.bool false)), .dv (.d (.bool false)), .dv (.d (.bool false)), .dv (.d (.bool false)), .dv (.d (.bool false)), .dv (.d (.bool false)), .dv (.d (.bool false)), .dv (.d (.bool false)), .dv (.d (.bool false)), .dv (.d (.bool false)), .dv (.d (.bool false)), .dv (.d (.bool false)), .dv (.d (.bool false)), .dv (.d (.bool false)), .dv (.d (.bool false)), .dv (.d (.bool false)), .dv (.d (.bool false)), .dv (.d (.bool false)), .dv (.d (.bool false)), .dv (.d (.bool false)), .dv (.d (.bool false)), .dv (.d (.bool false)), .dv (.d (.bool false)), .dv (.d (.bool false)), .dv (.d (.bool false)), .dv (.d (.bool false)), .dv (.d (.bool false)), .dv (.d (.bool false)), .dv (.d (.bool false)), .dv (.d (.bool false)), .dv (.d (.bool false)), .dv (.d (.bool false)), .dv (.d (.bool false)), .dv (.d (.bool false)), .dv (.d (.bool false)), .dv (.d (.bool false)), .dv (.d (.bool false)), .dv (.d (.bool false)), .dv (.d (.bool false)), .dv (.d (.bool false)), .dv (.d (.bool false)), .dv (.d (.bool false)), .dv (.d (.bool false)), .dv (.d (.bool false)), .dv (.d (.bool false)), .dv (.d (.bool false)), .dv (.d (.bool false)), .dv (.d (.bool false)), .dv (.d (.bool false)), .dv (.d (.bool false)), .dv (.d (.bool false)), .dv (.d (.bool false)), .dv (.d (.bool false)), .dv (.d (.bool false)), .dv (.d (.bool false)), .dv (.d (.bool false)), .dv (.d (.bool false)), .dv (.d (.bool false)), .dv (.d (.bool false)), .dv (.d (.bool false)), .dv (.d (.bool false)), .dv (.d (.bool false)), .dv (.d (.bool false)), .dv (.d (.bool false)), .dv (.d (.bool false)), .dv (.d (.bool false)), .dv (.d (.bool false)), .dv (.d (.bool false)), .dv (.d (.bool false)), .dv (.d (.bool false)), .dv (.d (.bool false)), .dv (.d (.bool false)), .dv (.d (.bool false)), .dv (.d (.bool false)), .dv (.d (.bool false)), .dv (.d (.bool false)), .dv (.d (.bool false)), .dv (.d (.bool false)), .dv (.d (.bool false))] := Go.Avc.Eq.zeroAV_e a111
theorem zv112 : zeroAV Tryd.prog 112 = [.dv (.d (.bool false)), .dv (.d (.bool false)), .dv (.d (.bool false)), .dv (.d (.bool false)), .dv (.d (.bool false)), .dv (.d (.bool false)), .dv (.d (.bool false)), .dv (.d (.bool false)), .dv (.d (.bool false)), .dv (.d (.bool false)), .dv (.d (.bool false)), .dv (.d (.bool false)), .dv (.d (.bool false)), .dv (.d (.bool false)), .dv (.d (.bool false)), .dv (.d (.bool false)), .dv (.d (.bool false)), .dv (.d (.bool false)), .dv (.d (.bool false)), .dv (.d (.bool false)), .dv (.d (.bool false)), .dv (.d (.bool false)), .dv (.d (.bool false)), .dv (.d (.bool false)), .dv (.d (.bool false)), .dv (.d (.bool false)), .dv (.d (.bool false)), .dv (.d (.bool false)), .dv (.d (.bool false)), .dv (.d (.bool false)), .dv (.d (.bool false)), .dv (.d (.bool false)), .dv (.d (.bool false)), .dv (.d (.bool false)), .dv (.d (.bool false)), .dv (.d (.bool false)), .dv (.d (.bool false)), .dv (.d (.bool false)), .dv (.d (.bool false)), .dv (.d (.bool false)), .dv (.d (.bool false)), .dv (.d (.bool false)), .dv (.d (.bool false)), .dv (.d (.bool false)), .dv (.d (.bool false)), .dv (.d (.bool false)), .dv (.d (.bool false)), .dv (.d (.bool false)), .dv (.d (.bool false)), .dv (.d (.bool false)), .dv (.d (.bool false)), .dv (.d (.bool false)), .dv (.d (.bool false)), .dv (.d (.bool false)), .dv (.d (.bool false)), .dv (.d (.bool false)), .dv (.d (.bool false)), .dv (.d (.bool false)), .dv (.d (.bool false)), .dv (.d (.bool false)), .dv (.d (.bool false)), .dv (.d (.bool false)), .dv (.d (.bool false)), .dv (.d (.bool false)), .dv (.d (.bool false)), .dv (.d (.bool false)), .dv (.d (.bool false)), .dv (.d (.bool false)), .dv (.d (.bool false)), .dv (.d (.bool false)), .dv (.d (.bool false)), .dv (.d (.bool false)), .dv (.d (.bool false)), .dv (.d (.bool false)), .dv (.d (.bool false)), .dv (.d (.bool false)), .dv (.d (.bool false)), .dv (.d (.bool false)), .dv (.d (.bool false)), .dv (.d (.bool false)), .dv (.d (.bool false)), .dv (.d (.bool false)), .dv (.d (.bool false)), .dv (.d (.bool false)), .dv (.d (.bool false)), .dv (.d (.bool false)), .dv (.d (.bool false)), .dv (.d (.bool false)), .dv (.d (.bool false)), .dv (.d (.bool false)), .dv (.d (.bool false)), .dv (.d (.bool false)), .dv (.d (.bool false)), .dv (.d (.bool false)), .dv (.d (.bool false)), .dv (.d (.bool false)), .dv (.d (.bool false)), .dv (.d (.bool false)), .dv (.d (.bool false)), .dv (.d (.bool false)), .dv (.d (.bool false)), .dv (.d (.bool false)), .dv (.d (.bool false)), .dv (.d (.bool false)), .dv (.d (.bool false)), .dv (.d (.bool false)), .dv (.d (.bool false)), .dv (.d (.bool false)), .dv (.d (.bool false)), .dv (.d (.bool false)), .dv (.d (.bool false)), .dv (.d (.bool false)), .dv (.d (.bool false)), .dv (.d (.bool false)), .dv (.d (.bool false)), .dv (.d (.bool false)), .dv (.d (.bool false)), .dv (.d (.bool false)), .dv (.d (.bool false)), .dv (.d (.bool false)), .dv (.d (.bool false)), .dv (.d (.bool false)), .dv (.d (.bool false)), .dv (.d (.bool false)), .dv (.d (.bool false)), .dv (.d (.bool false)), .dv (.d (.bool false)), .dv (.d (.bool false)), .dv (.d (.bool false)), .dv (.d (.bool false)), .dv (.d (.bool false)), .dv (.d (.bool false)), .dv (.d (.bool false)), .dv (.d (.bool false)), .dv (.d (.bool false)), .dv (.d (.bool false)), .dv (.d (.bool false)), .dv (.d (.bool false)), .dv (.d (.bool false)), .dv (.d (.bool false)), .dv (.d (.bool false)), .dv (.d (.bool false)), .dv (.d (.bool false)), .dv (.d (.bool false)), .dv (.d (.bool false)), .dv (.d (.bool false)), .dv (.d (.bool false)), .dv (.d (.bool false)), .dv (.d (.bool false)), .dv (.d (.bool false)), .dv (.d (.bool false)), .dv (.d (.bool false)), .dv (.d (.bool false)), .dv (.d (.bool false)), .dv (.d (.bool false)), .dv (.d (.bool false)), .dv (.d (.bool false)), .dv (.d (.bool false)), .dv (.d (.bool false)), .dv (.d (.bool false)), .dv (.d (.bool false)), .dv (.d (.bool false)), .dv (.d (.bool false)), .dv (.d (.bool false)), .dv (.d (.bool false)), .dv (.d (.bool false)), .dv (.d (.bool false)), .dv (.d (.bool false)), .dv (.d (.bool false)), .dv (.d (.bool false)), .dv (.d (.bool false)), .dv (.d (.bool false)), .dv (.d (.bool false)), .dv (.d (.bool false)), .dv (.d (.bool false)), .dv (.d (.bool false)), .dv (.d (.bool false)), .dv (.d (.bool false)), .dv (.d (.bool false)), .dv (.d (.bool false)), .dv (.d (.bool false)), .dv (.d (.bool false)), .dv (.d (.bool false)), .dv (.d (.bool false)), .dv (.d (.bool false)), .dv (.d (.bool false)), .dv (.d (.bool false)), .dv (.d (.bool false)), .dv (.d (.bool false)), .dv (.d (.bool false)), .dv (.d (.bool false)), .dv (.d (.bool false)), .dv (.d (.bool false)), .dv (.d (.bool false)), .dv (.d (.bool false)), .dv (.d (.bool false)), .dv (.d (.bool false)), .dv (.d (.bool false)), .dv (.d (.bool false)), .dv (.d (.bool false)), .dv (.d (.bool false)), .dv (.d (.bool false)), .dv (.d (.bool false)), .dv (.d (.bool false)), .dv (.d (.bool false)), .dv (.d (.bool false)), .dv (.d (.bool false)), .dv (.d (.bool false)), .dv (.d (.bool false)), .dv (.d (.bool false)), .dv (.d (.bool false)), .dv (.d (.bool false)), .dv (.d (.bool false)), .dv (.d (.bool false)), .dv (.d (.bool false)), .dv (.d (.bool false)), .dv (.d (.bool false)), .dv (.d (.bool false)), .dv (.d (.bool false)), .dv (.d (.bool false)), .dv (.d (.bool false)), .dv (.d (.bool false)), .dv (.d (.bool false)), .dv (.d (.bool false)), .dv (.d (.bool false)), .dv (.d (.bool false)), .dv (.d (.bool false)), .dv (.d (.bool false)), .dv (.d (.bool false)), .dv (.d (.bool false)), .dv (.d (.bool false)), .dv (.d (.bool false)), .dv (.d (.bool false)), .dv (.d (.bool false)), .dv (.d (.bool false)), .dv (.d (.bool false)), .dv (.d (.bool false)), .dv (.d (.bool false)), .dv (.d (.bool false)), .dv (.d (.bool false)), .dv (.d (.bool false)), .dv (.d (.bool false)), .dv (.d (.bool false)), .dv (.d (.bool false)), .dv (.d (.bool false)), .dv (.d (.bool false)), .dv (.d (.bool false)), .dv (.d (.bool false)), .dv (.d (.bool false)), .dv (.d (.bool false)), .dv (.d (.bool false)), .dv (.d (.bool false)), .dv (.d (.bool false)), .dv (.d (.bool false)), .dv (.d (.bool false)), .dv (.d (.bool false))] := Go.Avc.Eq.zeroAV_e a112
theorem zv127 : zeroAV Tryd.prog 127 = [.nil] := Go.Avc.Eq.zeroAV_e a127
theorem zv134 : zeroAV Tryd.prog 134 = [.dv (.d (.int .u32 0))] := Go.Avc.Eq.zeroAV_e a134
theorem zv137 : zeroAV Tryd.prog 137 = [.dv (.d (.int .u64 0))] := Go.Avc.Eq.zeroAV_e a137
theorem zv143 : zeroAV Tryd.prog 143 = [.nil] := Go.Avc.Eq.zeroAV_e a143
theorem zv144 : zeroAV Tryd.prog 144 = [.dv (.d (.int .i64 0)), .dv (.d (.int .i64 0))] := Go.Avc.Eq.zeroAV_e a144
theorem zv145 : zeroAV Tryd.prog 145 = [.dv (.d (.int .i64 0)), .dv (.d (.int .i64 0))] := Go.Avc.Eq.zeroAV_e a145
theorem zv155 : zeroAV Tryd.prog 155 = [.dv (.d (.int .u8 0)), .dv (.d (.int .u8 0)), .dv (.d (.int .u8 0)), .dv (.d (.int .u8 0)), .dv (.d (.int .u8 0)), .dv (.d (.int .u8 0)), .dv (.d (.int .u8 0)), .dv (.d (.int .u8 0)), .dv (.d (.int .u8 0)), .dv (.d (.int .u8 0)), .dv (.d (.int .u8 0)), .dv (.d (.int .u8 0)), .dv (.d (.int .u8 0)), .dv (.d (.int .u8 0)), .dv (.d (.int .u8 0)), .dv (.d (.int .u8 0)), .dv (.d (.int .u8 0)), .dv (.d (.int .u8 0)), .dv (.d (.int .u8 0)), .dv (.d (.int .u8 0)), .dv (.d (.int .u8 0)), .dv (.d (.int .u8 0)), .dv (.d (.int .u8 0)), .dv (.d (.int .u8 0)), .dv (.d (.int .u8 0)), .dv (.d (.int .u8 0)), .dv (.d (.int .u8 0)), .dv (.d (.int .u8 0)), .dv (.d (.int .u8 0)), .dv (.d (.int .u8 0)), .dv (.d (.int .u8 0)), .dv (.d (.int .u8 0)), .dv (.d (.int .u8 0)), .dv (.d (.int .u8 0)), .dv (.d (.int .u8 0)), .dv (.d (.int .u8 0)), .dv (.d (.int .u8 0)), .dv (.d (.int .u8 0)), .dv (.d (.int .u8 0)), .dv (.d (.int .u8 0)), .dv (.d (.int .u8 0)), .dv (.d (.int .u8 0)), .dv (.d (.int .u8 0)), .dv (.d (.int .u8 0)), .dv (.d (.int .u8 0)), .dv (.d (.int .u8 0)), .dv (.d (.int .u8 0)), .dv (.d (.int .u8 0)), .dv (.d (.int .u8 0)), .dv (.d (.int .u8 0)), .dv (.d (.int .u8 0)), .dv (.d (.int .u8 0)), .dv (.d (.int .u8 0)), .dv (.d (.int .u8 0)), .dv (.d (.int .u8 0)), .dv (.d (.int .u8 0)), .dv (.d (.int .u8 0)), .dv (.d (.int .u8 0)), .dv (.d (.int .u8 0)), .dv (.d (.int .u8 0)), .dv (.d (.int .u8 0)), .dv (.d (.int .u8 0)), .dv (.d (.int .u8 0)), .dv (.d (.int .u8 0)), .dv (.d (.int .u8 0)), .dv (.d (.int .u8 0)), .dv (.d (.int .u8 0)), .dv (.d (.int .u8 0)), .dv (.d (.int .u8 0)), .dv (.d (.int .u8 0)), .dv (.d (.int .u8 0)), .dv (.d (.int .u8 0)), .dv (.d (.int .u8 0)), .dv (.d (.int .u8 0)), .dv (.d (.int .u8 0)), .dv (.d (.int .u8 0)), .dv (.d (.int .u8 0)), .dv (.d (.int .u8 0)), .dv (.d (.int .u8 0)), .dv (.d (.int .u8 0)), .dv (.d (.int .u8 0)), .dv (.d (.int .u8 0)), .dv (.d (.int .u8 0)), .dv (.d (.int .u8 0)), .dv (.d (.int .u8 0)), .dv (.d (.int .u8 0)), .dv (.d (.int .u8 0)), .dv (.d (.int .u8 0)), .dv (.d (.int .u8 0)), .dv (.d (.int .u8 0)), .dv (.d (.int .u8 0)), .dv (.d (.int .u8 0)), .dv (.d (.int .u8 0)), .dv (.d (.int .u8 0)), .dv (.d (.int .u8 0)), .dv (.d (.int .u8 0)), .dv (.d (.int .u8 0)), .dv (.d (.int .u8 0)), .dv (.d (.int .u8 0)), .dv (.d (.int .u8 0)), .dv (.d (.int .u8 0)), .dv (.d (.int .u8 0)), .dv (.d (.int .u8 0)), .dv (.d (.int .u8 0)), .dv (.d (.int .u8 0)), .dv (.d (.int .u8 0)), .dv (.d (.int .u8 0)), .dv (.d (.int .u8 0)), .dv (.d (.int .u8 0)), .dv (.d (.int .u8 0)), .dv (.d (.int .u8 0)), .dv (.d (.int .u8 0)), .dv (.d (.int .u8 0)), .dv (.d (.int .u8 0)), .dv (.d (.int .u8 0)), .dv (.d (.int .u8 0)), .dv (.d (.int .u8 0)), .dv (.d (.int .u8 0)), .dv (.d (.int .u8 0)), .dv (.d (.int .u8 0)), .dv (.d (.int .u8 0)), .dv (.d (.int .u8 0)), .dv (.d (.int .u8 0)), .dv (.d (.int .u8 0)), .dv (.d (.int .u8 0)), .dv (.d (.int .u8 0)), .dv (.d (.int .u8 0)), .dv (.d (.int .u8 0)), .dv (.d (.int .u8 0)), .dv (.d (.int .u8 0)), .dv (.d (.int .u8 0)), .dv (.d (.int .u8 0)), .dv (.d (.int .u8 0)), .dv (.d (.int .u8 0)), .dv (.d (.int .u8 0)), .dv (.d (.int .u8 0)), .dv (.d (.int .u8 0)), .dv (.d (.int .u8 0)), .dv (.d (.int .u8 0)), .dv (.d (.int .u8 0)), .dv (.d (.int .u8 0)), .dv (.d (.int .u8 0)), .dv (.d (.int .u8 0)), .dv (.d (.int .u8 0)), .dv (.d (.int .u8 0)), .dv (.d (.int .u8 0)), .dv (.d (.int .u8 0)), .dv (.d (.int .u8 0)), .dv (.d (.int .u8 0)), .dv (.d (.int .u8 0)), .dv (.d (.int .u8 0)), .dv (.d (.int .u8 0)), .dv (.d (.int .u8 0)), .dv (.d (.int .u8 0)), .dv (.d (.int .u8 0)), .dv (.d (.int .u8 0)), .dv (.d (.int .u8 0)), .dv (.d (.int .u8 0)), .dv (.d (.int .u8 0)), .dv (.d (.int .u8 0)), .dv (.d (.int .u8 0)), .dv (.d (.int .u8 0)), .dv (.d (.int .u8 0)), .dv (.d (.int .u8 0)), .dv (.d (.int .u8 0)), .dv (.d (.int .u8 0)), .dv (.d (.int .u8 0)), .dv (.d (.int .u8 0)), .dv (.d (.int .u8 0)), .dv (.d (.int .u8 0)), .dv (.d (.int .u8 0)), .dv (.d (.int .u8 0)), .dv (.d (.int .u8 0)), .dv (.d (.int .u8 0)), .dv (.d (.int .u8 0)), .dv (.d (.int .u8 0)), .dv (.d (.int .u8 0)), .dv (.d (.int .u8 0)), .dv (.d (.int .u8 0)), .dv (.d (.int .u8 0)), .dv (.d (.int .u8 0)), .dv (.d (.int .u8 0)), .dv (.d (.int .u8 0)), .dv (.d (.int .u8 0)), .dv (.d (.int .u8 0)), .dv (.d (.int .u8 0)), .dv (.d (.int .u8 0)), .dv (.d (.int .u8 0)), .dv (.d (.int .u8 0)), .dv (.d (.int .u8 0)), .dv (.d (.int .u8 0)), .dv (.d (.int .u8 0)), .dv (.d (.int .u8 0)), .dv (.d (.int .u8 0)), .dv (.d (.int .u8 0)), .dv (.d (.int .u8 0)), .dv (.d (.int .u8 0)), .dv (.d (.int .u8 0)), .dv (.d (.int .u8 0)), .dv (.d (.int .u8 0)), .dv (.d (.int .u8 0)), .dv (.d (.int .u8 0)), .dv (.d (.int .u8 0)), .dv (.d (.int .u8 0)), .dv (.d (.int .u8 0)), .dv (.d (.int .u8 0)), .dv (.d (.int .u8 0)), .dv (.d (.int .u8 0)), .dv (.d (.int .u8 0)), .dv (.d (.int .u8 0)), .dv (.d (.int .u8 0)), .dv (.d (.int .u8 0)), .dv (.d (.int .u8 0)), .dv (.d (.int .u8 0)), .dv (.d (.int .u8 0)), .dv (.d (.int .u8 0)), .dv (.d (.int .u8 0)), .dv (.d (.int .u8 0)), .dv (.d (.int .u8 0)), .dv (.d (.int .u8 0)), .dv (.d (.int .u8 0)), .dv (.d (.int .u8 0)), .dv (.d (.int .u8 0)), .dv (.d (.int .u8 0)), .dv (.d (.int .u8 0)), .dv (.d (.int .u8 0)), .dv (.d (.int .u8 0)), .dv (.d (.int .u8 0)), .dv (.d (.int .u8 0)), .dv (.d (.int .u8 0)), .dv (.d (.int .u8 0)), .dv (.d (.int .u8 0)), .dv (.d (.int .u8 0)), .dv (.d (.int .u8 0)), .dv (.d (.int .u8 0)), .dv (.d (.int .u8 0)), .dv (.d (.int .u8 0)), .dv (.d (.int .u8 0)), .dv (.d (.int .u8 0)), .dv (.d (.int .u8 0)), .dv (.d (.int .u8 0)), .dv (.d (.int .u8 0)), .dv (.d (.int .u8 0)), .dv (.d (.int .u8 0)), .dv (.d (.int .u8 0)), .dv (.d (.int .u8 0)), .dv (.d (.int .u8 0)), .dv (.d (.int .u8 0)), .dv (.d (.int .u8 0)), .dv (.d (.int .u8 0)), .dv (.d (.int .u8 0)), .dv (.d (.int .u8 0)), .dv (.d (.int .u8 0)), .dv (.d (.int .u8 0)), .dv (.d (.int .u8 0)), .dv (.d (.int .u8 0))] := Go.Avc.Eq.zeroAV_e a155
theorem zv156 : zeroAV Tryd.prog 156 = [.dv (.d (.int .u8 0)), .dv (.d (.int .u8 0))] := Go.Avc.Eq.zeroAV_e a156
theorem zv157 : zeroAV Tryd.prog 157 = [.dv (.d (.int .u8 0)), .dv (.d (.int .u8 0))] := Go.Avc.Eq.zeroAV_e a157
theorem zv158 : zeroAV Tryd.prog 158 = [.dv (.d (.int .u8 0)), .dv (.d (.int .u8 0)), .dv (.d (.int .u8 0)), .dv (.d (.int .u8 0)), .dv (.d (.int .u8 0)), .dv (.d (.int .u8 0)), .dv (.d (.int .u8 0)), .dv (.d (.int .u8 0)), .dv (.d (.int .u8 0)), .dv (.d (.int .u8 0)), .dv (.d (.int .u8 0)), .dv (.d (.int .u8 0)), .dv (.d (.int .u8 0)), .dv (.d (.int .u8 0)), .dv (.d (.int .u8 0)), .dv (.d (.int .u8 0)), .dv (.d (.int .u8 0)), .dv (.d (.int .u8 0)), .dv (.d (.int .u8 0)), .dv (.d (.int .u8 0)), .dv (.d (.int .u8 0)), .dv (.d (.int .u8 0)), .dv (.d (.int .u8 0)), .dv (.d (.int .u8 0)), .dv (.d (.int .u8 0)), .dv (.d (.int .u8 0)), .dv (.d (.int .u8 0)), .dv (.d (.int .u8 0)), .dv (.d (.int .u8 0)), .dv (.d (.int .u8 0)), .dv (.d (.int .u8 0)), .dv (.d (.int .u8 0))] := Go.Avc.Eq.zeroAV_e a158
theorem zv162 : zeroAV Tryd.prog 162 = [] := Go.Avc.Eq.zeroAV_e a162
theorem zv163 : zeroAV Tryd.prog 163 = [] := Go.Avc.Eq.zeroAV_e a163
theorem zv164 : zeroAV Tryd.prog 164 = [] := Go.Avc.Eq.zeroAV_e a164
theorem zv165 : zeroAV Tryd.prog 165 = [.dv (.d (.int .u8 0))] := Go.Avc.Eq.zeroAV_e a165
theorem zv166 : zeroAV Tryd.prog 166 = [.dv (.d (.int .u8 0))] := Go.Avc.Eq.zeroAV_e a166
theorem zv168 : zeroAV Tryd.prog 168 = [.dv (.d (.int .i32 0))] := Go.Avc.Eq.zeroAV_e a168
theorem zv169 : zeroAV Tryd.prog 169 = [.dv (.d (.int .i32 0))] := Go.Avc.Eq.zeroAV_e a169
attribute [go_sem] c0 b0 k0 Tryd.underlying0 c1 b1 k1 Tryd.underlying1 c2 b2 k2 z2 zv2 a2 o2 Tryd.underlying2 c3 b3 k3 z3 zv3 a3 o3 Tryd.underlying3 c4 b4 k4 z4 zv4 a4 o4 Tryd.underlying4 c5 b5 k5 z5 zv5 a5 o5 Tryd.underlying5
attribute [go_sem] c6 b6 k6 z6 zv6 a6 o6 Tryd.underlying6 c7 b7 k7 z7 zv7 a7 e7 f7_0 f7_1 f7_2 f7_3 p7 Tryd.underlying7 c8 b8 k8 z8 zv8 a8 e8 f8_0 f8_1 f8_2 f8_3 p8 Tryd.underlying8 c9 b9 k9 z9 zv9 a9
attribute [go_sem] o9 Tryd.underlying9 c10 b10 k10 z10 zv10 a10 o10 Tryd.underlying10 c11 b11 k11 z11 zv11 a11 o11 Tryd.underlying11 c12 b12 k12 z12 zv12 a12 o12 Tryd.underlying12 c13 b13 k13 z13 zv13 a13 f13_0 f13_1 p13 Tryd.underlying13 c14 b14 k14 z14
attribute [go_sem] zv14 a14 f14_0 f14_1 p14 Tryd.underlying14 c15 b15 k15 Tryd.underlying15 c16 b16 k16 Tryd.underlying16 c17 b17 k17 Tryd.underlying17 c18 b18 k18 f18_0 p18 Tryd.underlying18 c19 b19 k19 f19_0 p19 Tryd.underlying19 c20 b20 k20 Tryd.underlying20 c21 b21 k21 z21 zv21 a21
attribute [go_sem] o21 Tryd.underlying21 c22 b22 k22 z22 zv22 a22 o22 Tryd.underlying22 c23 b23 k23 Tryd.underlying23 c24 b24 k24 z24 zv24 a24 f24_0 f24_1 p24 Tryd.underlying24 c25 b25 k25 z25 zv25 a25 f25_0 f25_1 p25 Tryd.underlying25 c26 b26 k26 z26 zv26 a26
attribute [go_sem] o26 Tryd.underlying26 c27 b27 k27 z27 zv27 a27 o27 Tryd.underlying27 c28 b28 k28 z28 zv28 a28 o28 Tryd.underlying28 c29 b29 k29 z29 zv29 a29 f29_0 f29_1 f29_2 f29_3 f29_4 f29_5 f29_6 p29 Tryd.underlying29 c30 b30 k30 z30 zv30 a30 f30_0
attribute [go_sem] f30_1 f30_2 f30_3 f30_4 f30_5 f30_6 p30 Tryd.underlying30 c31 b31 k31 Tryd.underlying31 c32 b32 k32 z32 zv32 a32 o32 Tryd.underlying32 c33 b33 k33 z33 zv33 a33 f33_0 f33_1 p33 Tryd.underlying33 c34 b34 k34 z34 zv34 a34 f34_0 f34_1 p34 Tryd.underlying34
attribute [go_sem] c35 b35 k35 Tryd.underlying35 c36 b36 k36 Tryd.underlying36 c37 b37 k37 Tryd.underlying37 c38 b38 k38 Tryd.underlying38 c39 b39 k39 z39 zv39 a39 o39 Tryd.underlying39 c40 b40 k40 Tryd.underlying40 c41 b41 k41 Tryd.underlying41 c42 b42 k42 Tryd.underlying42 c43 b43 k43 Tryd.underlying43
attribute [go_sem] c44 b44 k44 Tryd.underlying44 c45 b45 k45 Tryd.underlying45 c46 b46 k46 Tryd.underlying46 c47 b47 k47 Tryd.underlying47 c48 b48 k48 Tryd.underlying48 c49 b49 k49 Tryd.underlying49 c50 b50 k50 Tryd.underlying50 c51 b51 k51 Tryd.underlying51 c52 b52 k52 z52 zv52 a52 e52 f52_0
attribute [go_sem] f52_1 p52 Tryd.underlying52 c53 b53 k53 z53 zv53 a53 e53 f53_0 f53_1 p53 Tryd.underlying53 c54 b54 k54 Tryd.underlying54 c55 b55 k55 Tryd.underlying55 c56 b56 k56 z56 zv56 a56 o56 Tryd.underlying56 c57 b57 k57 z57 zv57 a57 o57 Tryd.underlying57 c58 b58
attribute [go_sem] k58 Tryd.underlying58 c59 b59 k59 z59 zv59 a59 e59 f59_0 f59_1 f59_2 f59_3 p59 Tryd.underlying59 c60 b60 k60 z60 zv60 a60 e60 f60_0 f60_1 f60_2 f60_3 p60 Tryd.underlying60 c61 b61 k61 z61 zv61 a61 f61_0 f61_1 f61_2 f61_3 f61_4 p61
attribute [go_sem] Tryd.underlying61 c62 b62 k62 z62 zv62 a62 f62_0 f62_1 f62_2 f62_3 f62_4 p62 Tryd.underlying62 c63 b63 k63 Tryd.underlying63 c64 b64 k64 z64 zv64 a64 e64 f64_0 f64_1 p64 Tryd.underlying64 c65 b65 k65 z65 zv65 a65 e65 f65_0 f65_1 p65 Tryd.underlying65
attribute [go_sem] c66 b66 k66 Tryd.underlying66 c67 b67 k67 z67 zv67 a67 o67 Tryd.underlying67 c68 b68 k68 Tryd.underlying68 c69 b69 k69 Tryd.underlying69 c70 b70 k70 Tryd.underlying70 c71 b71 k71 Tryd.underlying71 c72 b72 k72 Tryd.underlying72 c73 b73 k73 Tryd.underlying73 c74 b74 k74 Tryd.underlying74
attribute [go_sem] c75 b75 k75 Tryd.underlying75 c76 b76 k76 Tryd.underlying76 c77 b77 k77 Tryd.underlying77 c78 b78 k78 Tryd.underlying78 c79 b79 k79 Tryd.underlying79 c80 b80 k80 Tryd.underlying80 c81 b81 k81 Tryd.underlying81 c82 b82 k82 Tryd.underlying82 c83 b83 k83 z83 zv83 a83 o83 Tryd.underlying83
attribute [go_sem] c84 b84 k84 Tryd.underlying84 c85 b85 k85 Tryd.underlying85 c86 b86 k86 Tryd.underlying86 c87 b87 k87 Tryd.underlying87 c88 b88 k88 Tryd.underlying88 c89 b89 k89 Tryd.underlying89 c90 b90 k90 Tryd.underlying90 c91 b91 k91 Tryd.underlying91 c92 b92 k92 Tryd.underlying92 c93 b93 k93 Tryd.underlying93
attribute [go_sem] c94 b94 k94 Tryd.underlying94 c95 b95 k95 Tryd.underlying95 c96 b96 k96 Tryd.underlying96 c97 b97 k97 z97 zv97 a97 o97 Tryd.underlying97 c98 b98 k98 Tryd.underlying98 c99 b99 k99 Tryd.underlying99 c100 b100 k100 Tryd.underlying100 c101 b101 k101 f101_0 f101_1 p101 Tryd.underlying101 c102
attribute [go_sem] b102 k102 f102_0 f102_1 p102 Tryd.underlying102 c103 b103 k103 Tryd.underlying103 c104 b104 k104 Tryd.underlying104 c105 b105 k105 Tryd.underlying105 c106 b106 k106 Tryd.underlying106 c107 b107 k107 Tryd.underlying107 c108 b108 k108 Tryd.underlying108 c109 b109 k109 Tryd.underlying109 c110 b110 k110 Tryd.underlying110 c111 b111
attribute [go_sem] k111 z111 zv111 a111 p111 Tryd.underlying111 c112 b112 k112 z112 zv112 a112 p112 Tryd.underlying112 c113 b113 k113 Tryd.underlying113 c114 b114 k114 Tryd.underlying114 c115 b115 k115 Tryd.underlying115 c116 b116 k116 Tryd.underlying116 c117 b117 k117 Tryd.underlying117 c118 b118 k118 Tryd.underlying118 c119 b119
attribute [go_sem] k119 Tryd.underlying119 c120 b120 k120 Tryd.underlying120 c121 b121 k121 Tryd.underlying121 c122 b122 k122 Tryd.underlying122 c123 b123 k123 Tryd.underlying123 c124 b124 k124 Tryd.underlying124 c125 b125 k125 Tryd.underlying125 c126 b126 k126 Tryd.underlying126 c127 b127 k127 z127 zv127 a127 o127 Tryd.underlying127 c128 b128
attribute [go_sem] k128 Tryd.underlying128 c129 b129 k129 Tryd.underlying129 c130 b130 k130 Tryd.underlying130 c131 b131 k131 Tryd.underlying131 c132 b132 k132 Tryd.underlying132 c133 b133 k133 Tryd.underlying133 c134 b134 k134 z134 zv134 a134 o134 Tryd.underlying134 c135 b135 k135 Tryd.underlying135 c136 b136 k136 Tryd.underlying136 c137 b137
attribute [go_sem] k137 z137 zv137 a137 o137 Tryd.underlying137 c138 b138 k138 Tryd.underlying138 c139 b139 k139 Tryd.underlying139 c140 b140 k140 Tryd.underlying140 c141 b141 k141 Tryd.underlying141 c142 b142 k142 Tryd.underlying142 c143 b143 k143 z143 zv143 a143 o143 Tryd.underlying143 c144 b144 k144 z144 zv144 a144
attribute [go_sem] e144 f144_0 f144_1 p144 Tryd.underlying144 c145 b145 k145 z145 zv145 a145 e145 f145_0 f145_1 p145 Tryd.underlying145 c146 b146 k146 Tryd.underlying146 c147 b147 k147 Tryd.underlying147 c148 b148 k148 Tryd.underlying148 c149 b149 k149 Tryd.underlying149 c150 b150 k150 Tryd.underlying150 c151 b151 k151 Tryd.underlying151
attribute [go_sem] c152 b152 k152 Tryd.underlying152 c153 b153 k153 Tryd.underlying153 c154 b154 k154 Tryd.underlying154 c155 b155 k155 z155 zv155 a155 p155 Tryd.underlying155 c156 b156 k156 z156 zv156 a156 e156 f156_0 f156_1 p156 Tryd.underlying156 c157 b157 k157 z157 zv157 a157 e157 f157_0 f157_1
attribute [go_sem] p157 Tryd.underlying157 c158 b158 k158 z158 zv158 a158 p158 Tryd.underlying158 c159 b159 k159 Tryd.underlying159 c160 b160 k160 f160_0 f160_1 f160_2 f160_3 p160 Tryd.underlying160 c161 b161 k161 f161_0 f161_1 f161_2 f161_3 p161 Tryd.underlying161 c162 b162 k162 z162 zv162 a162 p162 Tryd.underlying162
attribute [go_sem] c163 b163 k163 z163 zv163 a163 f163_0 p163 Tryd.underlying163 c164 b164 k164 z164 zv164 a164 f164_0 p164 Tryd.underlying164 c165 b165 k165 z165 zv165 a165 o165 Tryd.underlying165 c166 b166 k166 z166 zv166 a166 o166 Tryd.underlying166 c167 b167 k167 Tryd.underlying167 c168 b168
attribute [go_sem] k168 z168 zv168 a168 o168 Tryd.underlying168 c169 b169 k169 z169 zv169 a169 o169 Tryd.underlying169 c170 b170 k170 f170_0 f170_1 f170_2 f170_3 f170_4 f170_5 f170_6 f170_7 f170_8 f170_9 f170_10 p170 Tryd.underlying170 c171 b171 k171 f171_0 f171_1 f171_2 f171_3 f171_4 f171_5 f171_6
attribute [go_sem] f171_7 f171_8 f171_9 f171_10 p171 Tryd.underlying171
end Go.Avc.F

/- The contracts of Below and of the stream's Next. No condition. -/
set_option linter.unusedVariables false
set_option linter.unusedSimpArgs false
namespace Go.Avc
open Go Go.Proofs

theorem drewN_gr (g : Option Nat) (w : World) (k : Nat) : Gr g w (w.drewN k) := ⟨rfl, rfl, rfl, Nat.le_refl _, fun _ _ _ => rfl⟩
theorem rel_int {cx : Cx} {w0 : World} {ok : Nat → Prop} {ρ : Nat → Value} {w : World} {k : IntKind} {n : Int} {v : Value} (h : rel0 cx w0 ok ρ w (.dv (.d (.int k n))) v) : v = .int k n := by
  have h' : Rd ok w (.int k n) v := h
  cases h'
  rfl

def belowS : Spec where
  pre xs := ∃ x n : Int, xs = [.i x, .i n]
  post xs r := ∃ x n : Int, xs = [.i x, .i n] ∧ r = .i (belowF x n)
  cost _ := 0
  fresh := true
theorem below_ctr (cx : Cx) (hP : cx.P = Tryd.prog) : Ctr cx 24 belowS := by
  refine ⟨by rw [hP]; exact ⟨_, Tryd.func24, by kernel_rfl, by kernel_rfl⟩, fun xs ⟨x, n, e⟩ => ⟨_, x, n, e, rfl⟩, ?_⟩
  rintro F xs vals rfl hF hst hgl hc hlen hargs ⟨x, n, rfl⟩
  match vals, hlen with
  | [u, v], _ =>
    have h0 := rel_int (hargs 0 _ u rfl rfl)
    have h1 := rel_int (hargs 1 _ v rfl rfl)
    subst h0
    subst h1
    rw [hP]
    refine (below_calls x n F.w0).mono ?_
    rintro e w' ⟨rfl, k, rfl⟩
    exact ⟨_, .i (belowF x n), rfl, drewN_gr _ _ _, hst.keep2 (Nat.le_refl _) (fun _ _ _ _ => rfl), ⟨x, n, rfl, rfl⟩, rfl, Rd.int _ _⟩

theorem belowF_range {x m : Int} (hm : m ≤ 9223372036854775807) : (1 ≤ m → 0 ≤ belowF x m ∧ belowF x m < m) ∧ (m < 1 → belowF x m = 0) := by
  unfold belowF
  refine ⟨fun h => ?_, fun h => by rw [if_pos h]⟩
  rw [if_neg (by omega)]
  have h1 : x.tmod m < m := Int.tmod_lt_of_pos x (by omega)
  have h2 : -m < x.tmod m := Int.lt_tmod_of_pos x (by omega)
  split
  · rw [IntWalk.i64_in _ (by omega)]
    omega
  · omega

def nextS : Spec where
  pre xs := ∃ m : Int, xs = [.st, .i m] ∧ m ≤ 9223372036854775807
  post xs r := ∃ m q : Int, xs = [.st, .i m] ∧ (1 ≤ m → 0 ≤ q ∧ q < m) ∧ (m < 1 → q = 0) ∧ r = .i q
  cost _ := 1
  fresh := true
theorem next_ctr (cx : Cx) (hP : cx.P = Tryd.prog) (hS : cx.ST = 25) : Ctr cx 8 nextS := by
  refine ⟨by rw [hP]; exact ⟨_, Tryd.func8, by kernel_rfl, by kernel_rfl⟩, fun xs ⟨m, e, hm⟩ => ⟨.i (belowF 0 m), m, belowF 0 m, e, (belowF_range hm).1, (belowF_range hm).2, rfl⟩, ?_⟩
  rintro F xs vals rfl hF hst hgl hc hlen hargs ⟨m, rfl, hm⟩
  match vals, hlen with
  | [u, v], _ =>
    have h1 := rel_int (hargs 1 _ v rfl rfl)
    subst h1
    obtain ⟨b, hb, hu⟩ := hargs 0 _ u rfl rfl
    subst hu
    obtain ⟨hng, A, c, n, hh, hn0, hnN, hrd⟩ := hst b hb
    have hN := hF.nb
    have hc1 : 1 ≤ F.B := hc
    rw [hP]
    have hsz : b < F.w0.heap.size := (Array.getElem?_eq_some_iff.1 hh).1
    refine (next_calls F.w0 b A F.cx.L.length c n m (by rw [← hS]; exact hh) hn0 (by omega) (fun j hj => ?_)).mono ?_
    · generalize hl : (F.cx.L.map fun x => [D.int .i64 x]) = l at hrd
      have hll : F.cx.L.length = l.length := by rw [← hl, List.length_map]
      rw [hll] at hrd hj
      cases hrd with
      | nil A c => exact absurd hj (by simp)
      | sl l z b' o c u hc' hb' hlt hz hu' hr =>
        have hx : l[j]? = some [D.int .i64 (F.cx.L.getD j 0)] := by
          rw [← hl, List.getElem?_map, List.getD_eq_getElem?_getD, List.getElem?_eq_getElem (by omega)]
          rfl
        have hz1 : z = 1 := (hz j _ hx).symm
        subst hz1
        have h2 := hu' j _ hx 0 _ rfl
        have h3 := hr j _ hx 0 _ rfl
        generalize u j 0 = v at h2 h3
        cases h3
        refine ⟨⟨b', o, none⟩, F.cx.L.getD j 0, rfl, ?_, ?_⟩
        · rw [Addr.add_lit]; show b' ≠ b; omega
        · rw [Addr.add_lit]
          simpa using h2
    · rintro e w' ⟨r, k, rfl, rfl⟩
      have hg : Gr F.cx.g F.w0 ((F.w0.setCell ⟨b, 1, none⟩ (.int .i64 (n + 1))).drewN k) := ⟨rfl, rfl, rfl, by show _ ≤ (F.w0.setCell _ _).heap.size; simp [World.setCell], fun b' hb' hne => heap_setCell_other _ _ _ _ (fun e => hne (by rw [hb, e]))⟩
      refine ⟨_, .i (belowF r m), rfl, hg, ?_, ⟨m, belowF r m, rfl, (belowF_range hm).1, (belowF_range hm).2, rfl⟩, rfl, Rd.int _ _⟩
      intro b' hb'
      rw [hb] at hb'
      cases hb'
      refine ⟨hng, A, c, n + 1, ?_, by omega, by show n + 1 ≤ ((F.N + 1 : Nat) : Int); omega, hrd.mono hg.size (fun _ h _ => h) (fun k' hk' hlt => hg.block k' hlt (fun e => ?_))⟩
      · show (F.w0.setCell ⟨b, 1, none⟩ (.int .i64 (n + 1))).heap[b]? = _
        simp [World.setCell, Array.getElem?_modify, hh]
      · rw [hb] at e
        cases e
        omega
end Go.Avc
