/- The stream's Next and Below, walked: what they answer and what they leave as it was. No condition. -/
import Derived.Test.YtjeljamjocligaaDoorChecked
import Derived.Below
import Derived.Deep.Draws
import Derived.Tactics
import Derived.WalkKit
import Derived.KernelRfl
import Derived.RowKit3
import Derived.Deep.QuietTactic
import Derived.BigQuiet
import Derived.WideLaws
import Derived.IntWalk
import Derived.Deep.Heap
import Derived.Shelf.Strings.Builder1
import Derived.Shelf.Strings.Builder2
import Derived.Shelf.Strings.OnBuilder
import Derived.Shelf.Strings.Trim
import Derived.Shelf.Strings.SlTrimAscii
import Derived.Shelf.Small.Utf8
import Derived.Shelf.Small.Strs
import Derived.Shelf.Small.Wraps
import Derived.Shelf.Strings.BuilderF
import Derived.Shelf.Strings.Search1
import Derived.Shelf.Strings.Search2
import Derived.Shelf.Strings.Search3
import Derived.Shelf.Strings.Cut
import Derived.Shelf.Strings.Count
import Derived.Shelf.LaysM
import Derived.Shelf.Strings.Shaped
import Derived.Shelf.Strings.Prefix
import Derived.Shelf.Strings.Split
import Derived.Shelf.Strings.Runes
import Derived.Shelf.Strings.RuneCount
import Derived.Shelf.Strings.AsciiSet
import Derived.Shelf.Bits.Mul64
import Derived.Shelf.Strings.Repeat
import Derived.Shelf.Unicode.DecodeSlow
import Derived.Shelf.Unicode.DecodeAny
import Derived.Shelf.Unicode.DecodeLast
import Derived.Shelf.Strings.FieldsFuncAny
import Derived.Shelf.Strings.FieldsFuncGrows
import Derived.Lib.ConvBytes
import Derived.Laws.IdiomStrings
import Derived.Lib.Bytealg
import Derived.Lib.FieldsP
import Derived.Lib.TrimUEq
import Derived.Lib.Walk
import Derived.Laws.Strings
import Derived.Lib.Builder
import Derived.Lib.AppendStr
import Derived.Lib.Strings
import Derived.Lib.Slices
import Derived.Laws.Externs
import Derived.Laws.AppendOwn
import Derived.Maps.AppendAt
import Derived.Lib.UnsafeStr
import Derived.Shelf.RegionOpenPlain
import Derived.ChangeSame
import Derived.ChangeSlices
import Derived.ChangeMaps5
import Derived.OpenShut
import Derived.Lib.DecodeN
import Derived.Test.YtjeljamjocligaaDoorKINCS1
import Derived.Test.YtjeljamjocligaaDoorKINCS2
import Derived.Test.YtjeljamjocligaaDoorKINCS3
/- The stream's Next and Below, walked: what they answer and what they leave as it was. No condition. -/
set_option linter.unusedVariables false
set_option linter.unusedSimpArgs false
namespace Go.Avc
open Go Go.RowKit Go.Proofs Go.IntWalk

def belowF (x n : Int) : Int := if n < 1 then 0 else if x.tmod n < 0 then IntKind.i64.wrap (x.tmod n + n) else x.tmod n
set_option maxHeartbeats 8000000 in
set_option maxRecDepth 100000 in
theorem below_calls (a0 a1 : Int) (w : World) : Calls Tryd.prog 68 #[.int .i64 a0, .int .i64 a1] w fun e w' => e = .returned (.int .i64 (belowF a0 a1)) ∧ ∃ k, w' = w.drewN k := by
  unfold belowF
  by_cases c3 : a1 < 1
  · rw [if_pos c3]
    have c3b0 : decide (a1 < 1) = true := decide_eq_true c3
    go_enter Tryd.func68, Tryd.ntmps68
    go_wp2
    go_ret
    exact ⟨rfl, 0, rfl⟩
  · rw [if_neg c3]
    have c3b0 : decide (a1 < 1) = false := decide_eq_false c3
    have c4 : ¬ a1 = 0 := by omega
    have c4b0 : (a1 == 0) = false := beq_eq_false_iff_ne.mpr c4
    have c4b1 : (a1 != 0) = true := bne_iff_ne.mpr c4
    by_cases c5 : (Int.tmod a0 a1) < 0
    · rw [if_pos c5]
      have c5b0 : decide ((Int.tmod a0 a1) < 0) = true := decide_eq_true c5
      go_enter Tryd.func68, Tryd.ntmps68
      go_wp2
      go_ret
      exact ⟨by rw [i64_left]; rfl, 0, rfl⟩
    · rw [if_neg c5]
      have c5b0 : decide ((Int.tmod a0 a1) < 0) = false := decide_eq_false c5
      go_enter Tryd.func68, Tryd.ntmps68
      go_wp2
      go_ret
      exact ⟨rfl, 0, rfl⟩

set_option maxHeartbeats 8000000 in
set_option maxRecDepth 100000 in
theorem next_calls (w : World) (g : Nat) (A : Option Addr) (n c : Nat) (at0 m : Int) (hh : w.heap[g]? = some (.cells #[.slice A n c, .int .i64 at0] 25 (0, 0)))
    (h0 : 0 ≤ at0) (h1 : at0 < 4611686018427387904)
    (hA : ∀ j : Nat, j < n → ∃ a x, A = some a ∧ (a.add j).block ≠ g ∧ w.cell? (a.add j) = some (.int .i64 x)) : Calls Tryd.prog 33 #[.pointer (some ⟨g, 0, none⟩), .int .i64 m] w fun e w' => ∃ r k, e = .returned (.int .i64 (belowF r m)) ∧ w' = (w.setCell ⟨g, 1, none⟩ (.int .i64 (at0 + 1))).drewN k := by
  have hc0 : w.cell? ⟨g, 0, none⟩ = some (.slice A n c) := (cell_of_row w g 0 _ _ (0, 0) hh).trans rfl
  have hc1 : w.cell? ⟨g, 1, none⟩ = some (.int .i64 at0) := (cell_of_row w g 1 _ _ (0, 0) hh).trans rfl
  have hf1 : w.frozen? ⟨g, 1, none⟩ = false := by simp [World.frozen?, hh]
  have hw1 : wrap64 (at0 + 1) = at0 + 1 := wrap64_in _ (by omega)
  by_cases c3 : (n : Int) = 0
  · have c3b0 : ((n : Int) == 0) = true := beq_iff_eq.mpr c3
    have c3b1 : ((n : Int) != 0) = false := bne_eq_false_iff_eq.mpr c3
    go_enter Tryd.func33, Tryd.ntmps33
    go_wp2_with (go_at_call 68; (refine (below_calls _ _ _).mono ?_); rintro e w' ⟨rfl, nd, rfl⟩)
    go_ret
    exact ⟨_, _, rfl, rfl⟩
  · have c3b0 : ((n : Int) == 0) = false := beq_eq_false_iff_ne.mpr c3
    have c3b1 : ((n : Int) != 0) = true := bne_iff_ne.mpr c3
    have hw2 : wrap64 (at0 + 1 - 1) = at0 := (wrap64_in _ (by omega)).trans (by omega)
    have he : at0.tmod n = at0 % n := Int.tmod_eq_emod_of_nonneg h0
    have hp : 0 ≤ at0 % (n : Int) := Int.emod_nonneg _ (by omega)
    have hq : at0 % (n : Int) < (n : Int) := Int.emod_lt_of_pos _ (by omega)
    have hj : (at0 % (n : Int)).toNat < n := by omega
    obtain ⟨a, x, rfl, hne, hx⟩ := hA _ hj
    have hx1 : (w.setCell ⟨g, 1, none⟩ (.int .i64 (at0 + 1))).cell? (a.add (at0 % (n : Int)).toNat) = some (.int .i64 x) := (World.cell?_setCell_other w ⟨g, 1, none⟩ _ _ (fun e => hne (by rw [← e]))).trans hx
    have hx2 := fun (k : Nat) => (show ((w.drewN k).setCell ⟨g, 1, none⟩ (.int .i64 (at0 + 1))).cell? (a.add (at0 % (n : Int)).toNat) = some (.int .i64 x) from hx1)
    have hp' := eq_true hp
    have hq' := eq_true hq
    go_enter Tryd.func33, Tryd.ntmps33
    go_wp2_with (go_at_call 68; (refine (below_calls _ _ _).mono ?_); rintro e w' ⟨rfl, nd, rfl⟩)
    repeat (go_quiet (first | (go_at_call 68; (refine (below_calls _ _ _).mono ?_); rintro e w' ⟨rfl, nd, rfl⟩; exact ⟨rfl, _, rfl⟩)); try go_wp2_with (go_at_call 68; (refine (below_calls _ _ _).mono ?_); rintro e w' ⟨rfl, nd, rfl⟩))
    go_ret
    exact ⟨_, _, rfl, rfl⟩
end Go.Avc

/-
  DERIVED: THE SHELF's CONTRACTS AT THIS DUMP, IN PLAIN WORDS (tools/lay-plain.mjs out of 'TrydShelf.lean', which tools/lay-shelf.mjs wrote): THE SAME DECLARATIONS UNDER THE SAME NAMES: 'import', 'namespace', 'open', 'def', 'theorem' AND NOTHING ELSE: no command of the shelf's: FOR A HAND-IN. Each laying: the table of numbers ('.._ren') and one theorem, a field a fact of the dump's own or the kernel's comparison; each contract: ONE APPLICATION.
-/
namespace Go.Proofs
open Go.Shelf
def Tryd.lays170_ren : Go.Shelf.Ren := ⟨fun | 170 => 37 | n => n, fun | 70 => 57 | 3 => 3 | 0 => 0 | 72 => 59 | 37 => 46 | 5 => 5 | n => n, fun | n => n⟩
theorem Tryd.lays170 : Go.Proofs.Lays.n170 Tryd.prog Tryd.lays170_ren := {
  mixed := by kernel_rfl
  f170 := Tryd.func37.trans (congrArg some (by kernel_rfl))
  t0 := Tryd.underlying0
  a0 := Tryd.isAgg0
  z0 := Tryd.sizeOf0
  v0 := Tryd.zeroValue0
  t3 := Tryd.underlying3
  a3 := Tryd.isAgg3
  z3 := Tryd.sizeOf3
  v3 := Tryd.zeroValue3
  t37 := Tryd.underlying46
  a37 := Tryd.isAgg46
  z37 := Tryd.sizeOf46
  v37 := Tryd.zeroValue46
  t70 := Tryd.underlying57
  a70 := Tryd.isAgg57
  z70 := Tryd.sizeOf57
  v70 := Tryd.zeroValue57
  t72 := Tryd.underlying59
  a72 := Tryd.isAgg59
  z72 := Tryd.sizeOf59
  v72 := Tryd.zeroValue59 }
open Go.RowKit in
/-- (*strings.Builder).Len: "Len returns the number of accumulated bytes; b.Len() == len(b.String()).": the world is as it was. (LAID: no walk: one application.) -/
theorem Tryd.Builder_Len (B b : Nat) (bs : List Value) (w : World) (h : Lib.IsBuilder 59 5 B b bs w) :
    Calls Tryd.prog 37 #[.pointer (some ⟨b, 0, none⟩)] w fun e w' => e = .returned (.int .i64 bs.length) ∧ w' = w := Any.Builder_Len Tryd.lays170 B b bs w h
def Tryd.lays169_ren : Go.Shelf.Ren := ⟨fun | 169 => 38 | n => n, fun | 70 => 57 | 9 => 9 | 0 => 0 | 72 => 59 | 37 => 46 | 127 => 95 | 3 => 3 | 5 => 5 | n => n, fun | n => n⟩
theorem Tryd.lays169 : Go.Proofs.Lays.n169 Tryd.prog Tryd.lays169_ren := {
  mixed := by kernel_rfl
  f169 := Tryd.func38.trans (congrArg some (by kernel_rfl))
  t0 := Tryd.underlying0
  a0 := Tryd.isAgg0
  z0 := Tryd.sizeOf0
  v0 := Tryd.zeroValue0
  t3 := Tryd.underlying3
  a3 := Tryd.isAgg3
  z3 := Tryd.sizeOf3
  v3 := Tryd.zeroValue3
  t9 := Tryd.underlying9
  a9 := Tryd.isAgg9
  z9 := Tryd.sizeOf9
  v9 := Tryd.zeroValue9
  t37 := Tryd.underlying46
  a37 := Tryd.isAgg46
  z37 := Tryd.sizeOf46
  v37 := Tryd.zeroValue46
  t70 := Tryd.underlying57
  a70 := Tryd.isAgg57
  z70 := Tryd.sizeOf57
  v70 := Tryd.zeroValue57
  t72 := Tryd.underlying59
  a72 := Tryd.isAgg59
  z72 := Tryd.sizeOf59
  v72 := Tryd.zeroValue59
  t127 := Tryd.underlying95
  a127 := Tryd.isAgg95
  z127 := Tryd.sizeOf95
  v127 := Tryd.zeroValue95 }
theorem Tryd.Builder_Extra_169 : Builder.Extra Tryd.prog Tryd.lays169_ren := {
  sizeBuilder := by kernel_rfl
  liesBuilder := by kernel_rfl
  t5 := Tryd.underlying5
  a5 := Tryd.isAgg5
  z5 := Tryd.sizeOf5
  v5 := Tryd.zeroValue5
  infoByte := by kernel_rfl
  cellsByte := by kernel_rfl
  sizeByte := by kernel_rfl
  neB5 := by decide }
open Go.RowKit in
/-- (*strings.Builder).String: "String returns the accumulated string.": OF A BUILDER THAT HOLDS AT LEAST ONE BYTE. ✋ THE MODEL FREEZES THOSE BYTES IN THE BUFFER (unsafe.String): a later write INTO them ends the model's run without an answer; a later append BEHIND them goes on. The statement's order of evaluation is drawn: one draw. (LAID: no walk: one application.) -/
theorem Tryd.Builder_String (B b : Nat) (l : List UInt8) (w : World) (h : Lib.IsBuilder 59 5 B b (Lib.byteCells l) w) (h0 : l ≠ []) :
    Calls Tryd.prog 38 #[.pointer (some ⟨b, 0, none⟩)] w fun e w' => e = .returned (.string ⟨l.toArray⟩) ∧ Below B w w' := Any.Builder_String Tryd.lays169 Tryd.Builder_Extra_169 B b l w h h0
open Go.RowKit in
/-- (*strings.Builder).String OF A BUILDER THAT HOLDS NO BYTE: the empty string. (Its buffer is nil, or a row of which it has taken nothing yet; where that row has NO capacity the model lays one new block for unsafe.SliceData's 'some address'.) One draw. (LAID: no walk: one application.) -/
theorem Tryd.Builder_String_empty (B b : Nat) (w : World) (h : Lib.IsBuilder 59 5 B b [] w) (hBw : B ≤ w.heap.size) :
    Calls Tryd.prog 38 #[.pointer (some ⟨b, 0, none⟩)] w fun e w' => e = .returned (.string ⟨#[]⟩) ∧ Below B w w' := Any.Builder_String_empty Tryd.lays169 Tryd.Builder_Extra_169 B b w h hBw
open Go.RowKit in
/-- (*strings.Builder).String: "String returns the accumulated string.": WHATEVER THE BUILDER HOLDS. (LAID: no walk: one application.) -/
theorem Tryd.Builder_String_any (B b : Nat) (l : List UInt8) (w : World) (h : Lib.IsBuilder 59 5 B b (Lib.byteCells l) w) (hBw : B ≤ w.heap.size) :
    Calls Tryd.prog 38 #[.pointer (some ⟨b, 0, none⟩)] w fun e w' => e = .returned (.string ⟨l.toArray⟩) ∧ Below B w w' := Any.Builder_String_any Tryd.lays169 Tryd.Builder_Extra_169 B b l w h hBw
def Tryd.lays241_ren : Go.Shelf.Ren := ⟨fun | 241 => 72 | 277 => 86 | n => n, fun | 70 => 57 | 3 => 3 | 0 => 0 | 72 => 59 | 37 => 46 | 5 => 5 | n => n, fun | n => n⟩
theorem Tryd.lays241 : Go.Proofs.Lays.n241 Tryd.prog Tryd.lays241_ren := {
  mixed := by kernel_rfl
  f241 := Tryd.func72.trans (congrArg some (by kernel_rfl))
  f277 := Tryd.func86.trans (congrArg some (by kernel_rfl))
  t0 := Tryd.underlying0
  a0 := Tryd.isAgg0
  z0 := Tryd.sizeOf0
  v0 := Tryd.zeroValue0
  t3 := Tryd.underlying3
  a3 := Tryd.isAgg3
  z3 := Tryd.sizeOf3
  v3 := Tryd.zeroValue3
  t37 := Tryd.underlying46
  a37 := Tryd.isAgg46
  z37 := Tryd.sizeOf46
  v37 := Tryd.zeroValue46
  t70 := Tryd.underlying57
  a70 := Tryd.isAgg57
  z70 := Tryd.sizeOf57
  v70 := Tryd.zeroValue57
  t72 := Tryd.underlying59
  a72 := Tryd.isAgg59
  z72 := Tryd.sizeOf59
  v72 := Tryd.zeroValue59 }
theorem Tryd.Builder_Extra_241 : Builder.Extra Tryd.prog Tryd.lays241_ren := {
  sizeBuilder := by kernel_rfl
  liesBuilder := by kernel_rfl
  t5 := Tryd.underlying5
  a5 := Tryd.isAgg5
  z5 := Tryd.sizeOf5
  v5 := Tryd.zeroValue5
  infoByte := by kernel_rfl
  cellsByte := by kernel_rfl
  sizeByte := by kernel_rfl
  neB5 := by decide }
open Go.RowKit in
/-- (*strings.Builder).grow (no doc but "grow copies the buffer to a new, larger buffer so that there are at least n bytes of capacity beyond len(b.buf)."): AT A BUILDER WITHOUT A BUFFER: a new row of whatever bytes for its buffer, none of them its own yet. Three draws. (LAID: no walk: one application.) -/
theorem Tryd.Builder_grow_fresh (B b n : Nat) (w : World) (hB : B ≤ b) (hbk : w.heap[b]? = some (.cells #[.pointer (some ⟨b, 0, none⟩), .slice none 0 0] 59 (0, 0))) (hBw : B ≤ w.heap.size) (hn : n ≤ 281474976710656) :
    Calls Tryd.prog 72 #[.pointer (some ⟨b, 0, none⟩), .int .i64 n] w fun e w' => e = .returned (.tuple #[]) ∧ (Lib.BuilderAt 59 5 B b (.pointer (some ⟨b, 0, none⟩)) [] w' ∧ Below B w w') := Any.Builder_grow_fresh Tryd.lays241 Tryd.Builder_Extra_241 B b n w hB hbk hBw hn
def Tryd.lays165_ren : Go.Shelf.Ren := ⟨fun | 165 => 35 | 240 => 71 | 241 => 72 | 276 => 85 | 277 => 86 | n => n, fun | 70 => 57 | 3 => 3 | 0 => 0 | 4 => 4 | 9 => 9 | 20 => 20 | 72 => 59 | 37 => 46 | 164 => 104 | 5 => 5 | n => n, fun | n => n⟩
theorem Tryd.lays165 : Go.Proofs.Lays.n165 Tryd.prog Tryd.lays165_ren := {
  mixed := by kernel_rfl
  f165 := Tryd.func35.trans (congrArg some (by kernel_rfl))
  f240 := Tryd.func71.trans (congrArg some (by kernel_rfl))
  f241 := Tryd.func72.trans (congrArg some (by kernel_rfl))
  f276 := Tryd.func85.trans (congrArg some (by kernel_rfl))
  f277 := Tryd.func86.trans (congrArg some (by kernel_rfl))
  t0 := Tryd.underlying0
  a0 := Tryd.isAgg0
  z0 := Tryd.sizeOf0
  v0 := Tryd.zeroValue0
  t3 := Tryd.underlying3
  a3 := Tryd.isAgg3
  z3 := Tryd.sizeOf3
  v3 := Tryd.zeroValue3
  t4 := Tryd.underlying4
  a4 := Tryd.isAgg4
  z4 := Tryd.sizeOf4
  v4 := Tryd.zeroValue4
  t9 := Tryd.underlying9
  a9 := Tryd.isAgg9
  z9 := Tryd.sizeOf9
  v9 := Tryd.zeroValue9
  t20 := Tryd.underlying20
  a20 := Tryd.isAgg20
  z20 := Tryd.sizeOf20
  v20 := Tryd.zeroValue20
  t37 := Tryd.underlying46
  a37 := Tryd.isAgg46
  z37 := Tryd.sizeOf46
  v37 := Tryd.zeroValue46
  t70 := Tryd.underlying57
  a70 := Tryd.isAgg57
  z70 := Tryd.sizeOf57
  v70 := Tryd.zeroValue57
  t72 := Tryd.underlying59
  a72 := Tryd.isAgg59
  z72 := Tryd.sizeOf59
  v72 := Tryd.zeroValue59
  t164 := Tryd.underlying104
  a164 := Tryd.isAgg104
  z164 := Tryd.sizeOf104
  v164 := Tryd.zeroValue104 }
theorem Tryd.Builder_Extra_165 : Builder.Extra Tryd.prog Tryd.lays165_ren := {
  sizeBuilder := by kernel_rfl
  liesBuilder := by kernel_rfl
  t5 := Tryd.underlying5
  a5 := Tryd.isAgg5
  z5 := Tryd.sizeOf5
  v5 := Tryd.zeroValue5
  infoByte := by kernel_rfl
  cellsByte := by kernel_rfl
  sizeByte := by kernel_rfl
  neB5 := by decide }
open Go.RowKit in
/-- (*strings.Builder).Grow AT A BUILDER THAT HAS NOT BEEN WRITTEN ('var b strings.Builder; b.Grow(n)'): "Grow grows b's capacity, if necessary, to guarantee space for another n bytes.": it holds no byte behind it as before it. (LAID: no walk: one application.) -/
theorem Tryd.Builder_Grow_fresh (B b n : Nat) (w : World) (hB : B ≤ b) (hbk : w.heap[b]? = some (.cells #[.pointer none, .slice none 0 0] 59 (0, 0))) (hBw : B ≤ w.heap.size) (hn : n ≤ 281474976710656) :
    Calls Tryd.prog 35 #[.pointer (some ⟨b, 0, none⟩), .int .i64 n] w fun e w' => e = .returned (.tuple #[]) ∧ (Lib.BuilderAt 59 5 B b (.pointer (some ⟨b, 0, none⟩)) [] w' ∧ Below B w w') := Any.Builder_Grow_fresh Tryd.lays165 Tryd.Builder_Extra_165 B b n w hB hbk hBw hn
def Tryd.lays156_ren : Go.Shelf.Ren := ⟨fun | 156 => 55 | 165 => 35 | 166 => 36 | 169 => 38 | 240 => 71 | 241 => 72 | 276 => 85 | 277 => 86 | n => n, fun | 31 => 53 | 9 => 9 | 3 => 3 | 4 => 4 | 0 => 0 | 20 => 20 | 72 => 59 | 76 => 63 | 70 => 57 | 37 => 46 | 75 => 62 | 127 => 95 | 164 => 104 | 5 => 5 | 80 => 66 | n => n, fun | n => n⟩
theorem Tryd.lays156 : Go.Proofs.Lays.n156 Tryd.prog Tryd.lays156_ren := {
  mixed := by kernel_rfl
  f156 := Tryd.func55.trans (congrArg some (by kernel_rfl))
  f165 := Tryd.func35.trans (congrArg some (by kernel_rfl))
  f166 := Tryd.func36.trans (congrArg some (by kernel_rfl))
  f169 := Tryd.func38.trans (congrArg some (by kernel_rfl))
  f240 := Tryd.func71.trans (congrArg some (by kernel_rfl))
  f241 := Tryd.func72.trans (congrArg some (by kernel_rfl))
  f276 := Tryd.func85.trans (congrArg some (by kernel_rfl))
  f277 := Tryd.func86.trans (congrArg some (by kernel_rfl))
  t0 := Tryd.underlying0
  a0 := Tryd.isAgg0
  z0 := Tryd.sizeOf0
  v0 := Tryd.zeroValue0
  t3 := Tryd.underlying3
  a3 := Tryd.isAgg3
  z3 := Tryd.sizeOf3
  v3 := Tryd.zeroValue3
  t4 := Tryd.underlying4
  a4 := Tryd.isAgg4
  z4 := Tryd.sizeOf4
  v4 := Tryd.zeroValue4
  t9 := Tryd.underlying9
  a9 := Tryd.isAgg9
  z9 := Tryd.sizeOf9
  v9 := Tryd.zeroValue9
  t20 := Tryd.underlying20
  a20 := Tryd.isAgg20
  z20 := Tryd.sizeOf20
  v20 := Tryd.zeroValue20
  t31 := Tryd.underlying53
  a31 := Tryd.isAgg53
  z31 := Tryd.sizeOf53
  v31 := Tryd.zeroValue53
  t37 := Tryd.underlying46
  a37 := Tryd.isAgg46
  z37 := Tryd.sizeOf46
  v37 := Tryd.zeroValue46
  t70 := Tryd.underlying57
  a70 := Tryd.isAgg57
  z70 := Tryd.sizeOf57
  v70 := Tryd.zeroValue57
  t72 := Tryd.underlying59
  a72 := Tryd.isAgg59
  z72 := Tryd.sizeOf59
  v72 := Tryd.zeroValue59
  t75 := Tryd.underlying62
  a75 := Tryd.isAgg62
  z75 := Tryd.sizeOf62
  v75 := Tryd.zeroValue62
  t76 := Tryd.underlying63
  a76 := Tryd.isAgg63
  z76 := Tryd.sizeOf63
  v76 := Tryd.zeroValue63
  t127 := Tryd.underlying95
  a127 := Tryd.isAgg95
  z127 := Tryd.sizeOf95
  v127 := Tryd.zeroValue95
  t164 := Tryd.underlying104
  a164 := Tryd.isAgg104
  z164 := Tryd.sizeOf104
  v164 := Tryd.zeroValue104 }
theorem Tryd.Builder_Extra_156 : Builder.Extra Tryd.prog Tryd.lays156_ren := {
  sizeBuilder := by kernel_rfl
  liesBuilder := by kernel_rfl
  t5 := Tryd.underlying5
  a5 := Tryd.isAgg5
  z5 := Tryd.sizeOf5
  v5 := Tryd.zeroValue5
  infoByte := by kernel_rfl
  cellsByte := by kernel_rfl
  sizeByte := by kernel_rfl
  neB5 := by decide }
open Go.RowKit in
/-- No element: the empty string; the world is as it was. (Whatever the slice's address and capacity: a nil slice too.) (LAID: no walk: one application.) -/
theorem Tryd.strings_Join_none (a : Option Addr) (c : Nat) (sep : ByteArray) (w : World) :
    Calls Tryd.prog 55 #[.slice a 0 c, .string sep] w fun e w' => e = .returned (.string ⟨#[]⟩) ∧ w' = w := Any.strings_Join_none Tryd.lays156 Tryd.Builder_Extra_156 a c sep w
open Go.RowKit in
/-- strings.Join: "Join concatenates the elements of its first argument to create a single string. The separator string sep is placed between elements in the resulting string.": HOWEVER MANY ELEMENTS. Below the heap's end the world is as it was. (LAID: no walk: one application.) -/
theorem Tryd.strings_Join (bk o c : Nat) (xs : List ByteArray) (sep : ByteArray) (w : World) (hcells : ∀ (j : Nat) x, xs[j]? = some x → w.cell? ⟨bk, o + j, none⟩ = some (.string x)) (hbk : bk < w.heap.size) (hN : xs.length ≤ 140737488355328) (hcap : xs.length ≤ c) (hlen : (Lib.join (xs.map (·.data.toList)) sep.data.toList).length ≤ 140737488355328) :
    Calls Tryd.prog 55 #[.slice (some ⟨bk, o, none⟩) xs.length c, .string sep] w fun e w' => e = .returned (.string ⟨(Lib.join (xs.map (·.data.toList)) sep.data.toList).toArray⟩) ∧ Below w.heap.size w w' := Any.strings_Join Tryd.lays156 Tryd.Builder_Extra_156 bk o c xs sep w hcells hbk hN hcap hlen
def Tryd.lays231_ren : Go.Shelf.Ren := ⟨fun | 231 => 39 | n => n, fun | 9 => 9 | 5 => 5 | 3 => 3 | 4 => 4 | n => n, fun | n => n⟩
theorem Tryd.lays231 : Go.Proofs.Lays.n231 Tryd.prog Tryd.lays231_ren := {
  mixed := by kernel_rfl
  f231 := Tryd.func39.trans (congrArg some (by kernel_rfl))
  t3 := Tryd.underlying3
  a3 := Tryd.isAgg3
  z3 := Tryd.sizeOf3
  v3 := Tryd.zeroValue3
  t4 := Tryd.underlying4
  a4 := Tryd.isAgg4
  z4 := Tryd.sizeOf4
  v4 := Tryd.zeroValue4
  t5 := Tryd.underlying5
  a5 := Tryd.isAgg5
  z5 := Tryd.sizeOf5
  v5 := Tryd.zeroValue5
  t9 := Tryd.underlying9
  a9 := Tryd.isAgg9
  z9 := Tryd.sizeOf9
  v9 := Tryd.zeroValue9 }
open Go.RowKit in
/-- strings.trimLeftByte (no doc; what TrimLeft and Trim call at a cutset of one ASCII byte): the leading bytes that are c are cut off. The world is as it was. (LAID: no walk: one application.) -/
theorem Tryd.strings_trimLeftByte (s : ByteArray) (c : UInt8) (w : World) :
    Calls Tryd.prog 39 #[.string s, .int .u8 c.toNat] w fun e w' => e = .returned (.string ⟨(Lib.trimLeftB s.data.toList c).toArray⟩) ∧ w' = w := Any.strings_trimLeftByte Tryd.lays231 s c w
def Tryd.lays232_ren : Go.Shelf.Ren := ⟨fun | 232 => 40 | n => n, fun | 9 => 9 | 5 => 5 | 3 => 3 | 4 => 4 | n => n, fun | n => n⟩
theorem Tryd.lays232 : Go.Proofs.Lays.n232 Tryd.prog Tryd.lays232_ren := {
  mixed := by kernel_rfl
  f232 := Tryd.func40.trans (congrArg some (by kernel_rfl))
  t3 := Tryd.underlying3
  a3 := Tryd.isAgg3
  z3 := Tryd.sizeOf3
  v3 := Tryd.zeroValue3
  t4 := Tryd.underlying4
  a4 := Tryd.isAgg4
  z4 := Tryd.sizeOf4
  v4 := Tryd.zeroValue4
  t5 := Tryd.underlying5
  a5 := Tryd.isAgg5
  z5 := Tryd.sizeOf5
  v5 := Tryd.zeroValue5
  t9 := Tryd.underlying9
  a9 := Tryd.isAgg9
  z9 := Tryd.sizeOf9
  v9 := Tryd.zeroValue9 }
open Go.RowKit in
/-- strings.trimRightByte (no doc; what TrimRight and Trim call at a cutset of one ASCII byte): the trailing bytes that are c are cut off. The world is as it was. ('hs': a string's length is a number that an int holds.) (LAID: no walk: one application.) -/
theorem Tryd.strings_trimRightByte (s : ByteArray) (c : UInt8) (w : World) (hs : s.size ≤ 9223372036854775807) :
    Calls Tryd.prog 40 #[.string s, .int .u8 c.toNat] w fun e w' => e = .returned (.string ⟨(Lib.trimRightB s.data.toList c).toArray⟩) ∧ w' = w := Any.strings_trimRightByte Tryd.lays232 s c w hs
def Tryd.lays160_ren : Go.Shelf.Ren := ⟨fun | 160 => 16 | 232 => 40 | 231 => 39 | 227 => 41 | 234 => 43 | 233 => 42 | 236 => 45 | 235 => 44 | 228 => 73 | 271 => 75 | 151 => 58 | 197 => 74 | 120 => 88 | 152 => 82 | 260 => 87 | 137 => 26 | 119 => 91 | 224 => 92 | 225 => 93 | 217 => 54 | 266 => 81 | n => n, fun | 9 => 9 | 4 => 4 | 3 => 3 | 5 => 5 | 117 => 70 | 116 => 69 | 0 => 0 | 124 => 73 | 21 => 21 | 105 => 96 | 46 => 54 | 119 => 108 | 139 => 111 | 138 => 110 | n => n, fun | 3 => 1 | 4 => 2 | n => n⟩
theorem Tryd.lays160 : Go.Proofs.Lays.n160 Tryd.prog Tryd.lays160_ren := {
  mixed := by kernel_rfl
  f119 := Tryd.func91.trans (congrArg some (by kernel_rfl))
  f120 := Tryd.func88.trans (congrArg some (by kernel_rfl))
  f137 := Tryd.func26.trans (congrArg some (by kernel_rfl))
  f151 := Tryd.func58.trans (congrArg some (by kernel_rfl))
  f152 := Tryd.func82.trans (congrArg some (by kernel_rfl))
  f160 := Tryd.func16.trans (congrArg some (by kernel_rfl))
  f197 := Tryd.func74.trans (congrArg some (by kernel_rfl))
  f217 := Tryd.func54.trans (congrArg some (by kernel_rfl))
  f224 := Tryd.func92.trans (congrArg some (by kernel_rfl))
  f225 := Tryd.func93.trans (congrArg some (by kernel_rfl))
  f227 := Tryd.func41.trans (congrArg some (by kernel_rfl))
  f228 := Tryd.func73.trans (congrArg some (by kernel_rfl))
  f231 := Tryd.func39.trans (congrArg some (by kernel_rfl))
  f232 := Tryd.func40.trans (congrArg some (by kernel_rfl))
  f233 := Tryd.func42.trans (congrArg some (by kernel_rfl))
  f234 := Tryd.func43.trans (congrArg some (by kernel_rfl))
  f235 := Tryd.func44.trans (congrArg some (by kernel_rfl))
  f236 := Tryd.func45.trans (congrArg some (by kernel_rfl))
  f260 := Tryd.func87.trans (congrArg some (by kernel_rfl))
  f266 := Tryd.func81.trans (congrArg some (by kernel_rfl))
  f271 := Tryd.func75.trans (congrArg some (by kernel_rfl))
  t0 := Tryd.underlying0
  a0 := Tryd.isAgg0
  z0 := Tryd.sizeOf0
  v0 := Tryd.zeroValue0
  t3 := Tryd.underlying3
  a3 := Tryd.isAgg3
  z3 := Tryd.sizeOf3
  v3 := Tryd.zeroValue3
  t4 := Tryd.underlying4
  a4 := Tryd.isAgg4
  z4 := Tryd.sizeOf4
  v4 := Tryd.zeroValue4
  t5 := Tryd.underlying5
  a5 := Tryd.isAgg5
  z5 := Tryd.sizeOf5
  v5 := Tryd.zeroValue5
  t9 := Tryd.underlying9
  a9 := Tryd.isAgg9
  z9 := Tryd.sizeOf9
  v9 := Tryd.zeroValue9
  t21 := Tryd.underlying21
  a21 := Tryd.isAgg21
  z21 := Tryd.sizeOf21
  v21 := Tryd.zeroValue21
  t46 := Tryd.underlying54
  a46 := Tryd.isAgg54
  z46 := Tryd.sizeOf54
  v46 := Tryd.zeroValue54
  t105 := Tryd.underlying96
  a105 := Tryd.isAgg96
  z105 := Tryd.sizeOf96
  v105 := Tryd.zeroValue96
  t116 := Tryd.underlying69
  a116 := Tryd.isAgg69
  z116 := Tryd.sizeOf69
  t117 := Tryd.underlying70
  a117 := Tryd.isAgg70
  z117 := Tryd.sizeOf70
  v117 := Tryd.zeroValue70
  t119 := Tryd.underlying108
  a119 := Tryd.isAgg108
  z119 := Tryd.sizeOf108
  t124 := Tryd.underlying73
  a124 := Tryd.isAgg73
  z124 := Tryd.sizeOf73
  v124 := Tryd.zeroValue73
  t138 := Tryd.underlying110
  a138 := Tryd.isAgg110
  z138 := Tryd.sizeOf110
  v138 := Tryd.zeroValue110
  t139 := Tryd.underlying111
  a139 := Tryd.isAgg111
  z139 := Tryd.sizeOf111
  v139 := Tryd.zeroValue111
  g3 := by kernel_rfl
  g4 := by kernel_rfl }
open Go.RowKit in
/-- strings.Trim: "Trim returns a slice of the string s with all leading and trailing Unicode code points contained in cutset removed.": AT A cutset OF ONE ASCII BYTE. THE WORLD BEHIND IT: as it was, or (where s is not empty) with ONE DRAW MORE off the tape: the statement 'return trimLeftByte(trimRightByte(s, c), c)' draws its order of evaluation. (LAID: no walk: one application.) -/
theorem Tryd.strings_Trim_one (s : ByteArray) (c : UInt8) (hc : c.toNat < 128) (w : World) (hs : s.size ≤ 9223372036854775807) :
    Calls Tryd.prog 16 #[.string s, .string ⟨#[c]⟩] w fun e w' => e = .returned (.string ⟨(Lib.trimB s.data.toList c).toArray⟩) ∧ (w' = w ∨ w' = w.drew) := Any.strings_Trim_one Tryd.lays160 s c hc w hs
def Tryd.lays119_ren : Go.Shelf.Ren := ⟨fun | 119 => 91 | n => n, fun | 21 => 21 | 4 => 4 | n => n, fun | n => n⟩
theorem Tryd.lays119 : Go.Proofs.Lays.n119 Tryd.prog Tryd.lays119_ren := {
  mixed := by kernel_rfl
  f119 := Tryd.func91.trans (congrArg some (by kernel_rfl))
  t4 := Tryd.underlying4
  a4 := Tryd.isAgg4
  z4 := Tryd.sizeOf4
  v4 := Tryd.zeroValue4
  t21 := Tryd.underlying21
  a21 := Tryd.isAgg21
  z21 := Tryd.sizeOf21
  v21 := Tryd.zeroValue21 }
/-- utf8.ValidRune: "ValidRune reports whether r can be legally encoded as UTF-8. Code points that are out of range or a surrogate half are illegal.": IT RETURNS 'Lib.validRune r'; the world is as it was. (LAID: no walk: one application.) -/
theorem Tryd.utf8_ValidRune (r : Int) (w : World) :
    Calls Tryd.prog 91 #[.int .i32 r] w fun e w' => e = .returned (.bool (Lib.validRune r)) ∧ w' = w := Any.utf8_ValidRune Tryd.lays119 r w
def Tryd.lays120_ren : Go.Shelf.Ren := ⟨fun | 120 => 88 | n => n, fun | 5 => 5 | 4 => 4 | n => n, fun | n => n⟩
theorem Tryd.lays120 : Go.Proofs.Lays.n120 Tryd.prog Tryd.lays120_ren := {
  mixed := by kernel_rfl
  f120 := Tryd.func88.trans (congrArg some (by kernel_rfl))
  t4 := Tryd.underlying4
  a4 := Tryd.isAgg4
  z4 := Tryd.sizeOf4
  v4 := Tryd.zeroValue4
  t5 := Tryd.underlying5
  a5 := Tryd.isAgg5
  z5 := Tryd.sizeOf5
  v5 := Tryd.zeroValue5 }
/-- utf8.RuneStart: "RuneStart reports whether the byte could be the first byte of an encoded, possibly invalid rune. Second and subsequent bytes always have the top two bits set to 10.": IT RETURNS 'Lib.runeStart b'; the world is as it was. ('h0', 'h1': b is a byte: a caller has it of every byte that it was handed.) (LAID: no walk: one application.) -/
theorem Tryd.utf8_RuneStart (b : Int) (w : World) (h0 : 0 ≤ b) (h1 : b < 256) :
    Calls Tryd.prog 88 #[.int .u8 b] w fun e w' => e = .returned (.bool (Lib.runeStart b)) ∧ w' = w := Any.utf8_RuneStart Tryd.lays120 b w h0 h1
def Tryd.lays137_ren : Go.Shelf.Ren := ⟨fun | 137 => 26 | 217 => 54 | 266 => 81 | n => n, fun | 9 => 9 | 5 => 5 | 3 => 3 | n => n, fun | n => n⟩
theorem Tryd.lays137 : Go.Proofs.Lays.n137 Tryd.prog Tryd.lays137_ren := {
  mixed := by kernel_rfl
  f137 := Tryd.func26.trans (congrArg some (by kernel_rfl))
  f217 := Tryd.func54.trans (congrArg some (by kernel_rfl))
  f266 := Tryd.func81.trans (congrArg some (by kernel_rfl))
  t3 := Tryd.underlying3
  a3 := Tryd.isAgg3
  z3 := Tryd.sizeOf3
  v3 := Tryd.zeroValue3
  t5 := Tryd.underlying5
  a5 := Tryd.isAgg5
  z5 := Tryd.sizeOf5
  v5 := Tryd.zeroValue5
  t9 := Tryd.underlying9
  a9 := Tryd.isAgg9
  z9 := Tryd.sizeOf9
  v9 := Tryd.zeroValue9 }
open Go.RowKit in
/-- strings.IndexByte: "IndexByte returns the index of the first instance of c in s, or -1 if c is not present in s.": IT RETURNS 'Lib.indexByte s c'; the world is as it was. (LAID: no walk: one application.) -/
theorem Tryd.strings_IndexByte (s : ByteArray) (c : Int) (w : World) :
    Calls Tryd.prog 26 #[.string s, .int .u8 c] w fun e w' => e = .returned (.int .i64 (Lib.indexByte s.data.toList c.toNat.toUInt8)) ∧ w' = w := Any.strings_IndexByte Tryd.lays137 s c w
def Tryd.lays210_ren : Go.Shelf.Ren := ⟨fun | 210 => 59 | 206 => 60 | n => n, fun | 9 => 9 | 4 => 4 | 3 => 3 | n => n, fun | n => n⟩
theorem Tryd.lays210 : Go.Proofs.Lays.n210 Tryd.prog Tryd.lays210_ren := {
  mixed := by kernel_rfl
  f206 := Tryd.func60.trans (congrArg some (by kernel_rfl))
  f210 := Tryd.func59.trans (congrArg some (by kernel_rfl))
  t3 := Tryd.underlying3
  a3 := Tryd.isAgg3
  z3 := Tryd.sizeOf3
  v3 := Tryd.zeroValue3
  t4 := Tryd.underlying4
  a4 := Tryd.isAgg4
  z4 := Tryd.sizeOf4
  v4 := Tryd.zeroValue4
  t9 := Tryd.underlying9
  a9 := Tryd.isAgg9
  z9 := Tryd.sizeOf9
  v9 := Tryd.zeroValue9 }
open Go.RowKit in
/-- internal/stringslite.CutPrefix (what strings.CutPrefix calls). (LAID: no walk: one application.) -/
theorem Tryd.stringslite_CutPrefix (s p : ByteArray) (w : World) :
    Calls Tryd.prog 59 #[.string s, .string p] w fun e w' => e = .returned (.tuple #[.string ⟨(Lib.trimPrefix s.data.toList p.data.toList).toArray⟩, .bool (Lib.hasPrefix s.data.toList p.data.toList)]) ∧ w' = w := Any.stringslite_CutPrefix Tryd.lays210 s p w
def Tryd.lays103_ren : Go.Shelf.Ren := ⟨fun | 103 => 28 | 210 => 59 | 206 => 60 | n => n, fun | 9 => 9 | 4 => 4 | 24 => 48 | 3 => 3 | n => n, fun | n => n⟩
theorem Tryd.lays103 : Go.Proofs.Lays.n103 Tryd.prog Tryd.lays103_ren := {
  mixed := by kernel_rfl
  f103 := Tryd.func28.trans (congrArg some (by kernel_rfl))
  f206 := Tryd.func60.trans (congrArg some (by kernel_rfl))
  f210 := Tryd.func59.trans (congrArg some (by kernel_rfl))
  t3 := Tryd.underlying3
  a3 := Tryd.isAgg3
  z3 := Tryd.sizeOf3
  v3 := Tryd.zeroValue3
  t4 := Tryd.underlying4
  a4 := Tryd.isAgg4
  z4 := Tryd.sizeOf4
  v4 := Tryd.zeroValue4
  t9 := Tryd.underlying9
  a9 := Tryd.isAgg9
  z9 := Tryd.sizeOf9
  v9 := Tryd.zeroValue9
  t24 := Tryd.underlying48
  a24 := Tryd.isAgg48
  z24 := Tryd.sizeOf48
  v24 := Tryd.zeroValue48 }
open Go.RowKit in
/-- strings.CutPrefix: "CutPrefix returns s without the provided leading prefix string and reports whether it found the prefix. If s doesn't start with prefix, CutPrefix returns s, false. If prefix is the empty string, CutPrefix returns s, true.": IT RETURNS '(Lib.trimPrefix s p, Lib.hasPrefix s p)'; the world is as it was. (LAID: no walk: one application.) -/
theorem Tryd.strings_CutPrefix (s p : ByteArray) (w : World) :
    Calls Tryd.prog 28 #[.string s, .string p] w fun e w' => e = .returned (.tuple #[.string ⟨(Lib.trimPrefix s.data.toList p.data.toList).toArray⟩, .bool (Lib.hasPrefix s.data.toList p.data.toList)]) ∧ w' = w := Any.strings_CutPrefix Tryd.lays103 s p w
open Go.RowKit in
/-- (*strings.Builder).Len: "Len returns the number of accumulated bytes; b.Len() == len(b.String()).": the world is as it was. (THE FORM '_f': 'Lib.IsBuilderF'.) (LAID: no walk: one application.) -/
theorem Tryd.Builder_Len_f (B b : Nat) (bs : List Value) (w : World) (h : Lib.IsBuilderF 59 5 B b bs w) :
    Calls Tryd.prog 37 #[.pointer (some ⟨b, 0, none⟩)] w fun e w' => e = .returned (.int .i64 bs.length) ∧ w' = w := Any.Builder_Len_f Tryd.lays170 B b bs w h
open Go.RowKit in
/-- (*strings.Builder).String: "String returns the accumulated string.": OF A BUILDER THAT HOLDS AT LEAST ONE BYTE. ✋ THE MODEL FREEZES THOSE BYTES IN THE BUFFER (unsafe.String): a later write INTO them ends the model's run without an answer; a later append BEHIND them goes on. The statement's order of evaluation is drawn: one draw. THE FORM '_f': IT SAYS BESIDES THAT THE BUILDER IS A BUILDER STILL ('Lib.IsBuilderF', the same bytes): SO IT CAN BE WRITTEN ON: 'b.WriteString(b.String()[:k])'. (LAID: no walk: one application.) -/
theorem Tryd.Builder_String_f (B b : Nat) (l : List UInt8) (w : World) (h : Lib.IsBuilderF 59 5 B b (Lib.byteCells l) w) (h0 : l ≠ []) :
    Calls Tryd.prog 38 #[.pointer (some ⟨b, 0, none⟩)] w fun e w' => e = .returned (.string ⟨l.toArray⟩) ∧ (Lib.IsBuilderF 59 5 B b (Lib.byteCells l) w' ∧ Below B w w') := Any.Builder_String_f Tryd.lays169 Tryd.Builder_Extra_169 B b l w h h0
open Go.RowKit in
/-- (*strings.Builder).String OF A BUILDER THAT HOLDS NO BYTE: the empty string; THE FORM '_f': a builder still. (LAID: no walk: one application.) -/
theorem Tryd.Builder_String_empty_f (B b : Nat) (w : World) (h : Lib.IsBuilderF 59 5 B b [] w) (hBw : B ≤ w.heap.size) :
    Calls Tryd.prog 38 #[.pointer (some ⟨b, 0, none⟩)] w fun e w' => e = .returned (.string ⟨#[]⟩) ∧ (Lib.IsBuilderF 59 5 B b [] w' ∧ Below B w w') := Any.Builder_String_empty_f Tryd.lays169 Tryd.Builder_Extra_169 B b w h hBw
open Go.RowKit in
/-- (*strings.Builder).String: "String returns the accumulated string.": WHATEVER THE BUILDER HOLDS; THE FORM '_f': OF A BUILDER THAT MAY HAVE BEEN READ BEFORE; AND IT IS A BUILDER STILL, holding the same bytes: it can be written on. (LAID: no walk: one application.) -/
theorem Tryd.Builder_String_any_f (B b : Nat) (l : List UInt8) (w : World) (h : Lib.IsBuilderF 59 5 B b (Lib.byteCells l) w) (hBw : B ≤ w.heap.size) :
    Calls Tryd.prog 38 #[.pointer (some ⟨b, 0, none⟩)] w fun e w' => e = .returned (.string ⟨l.toArray⟩) ∧ (Lib.IsBuilderF 59 5 B b (Lib.byteCells l) w' ∧ Below B w w') := Any.Builder_String_any_f Tryd.lays169 Tryd.Builder_Extra_169 B b l w h hBw
def Tryd.lays217_ren : Go.Shelf.Ren := ⟨fun | 217 => 54 | 266 => 81 | n => n, fun | 9 => 9 | 5 => 5 | 3 => 3 | n => n, fun | n => n⟩
theorem Tryd.lays217 : Go.Proofs.Lays.n217 Tryd.prog Tryd.lays217_ren := {
  mixed := by kernel_rfl
  f217 := Tryd.func54.trans (congrArg some (by kernel_rfl))
  f266 := Tryd.func81.trans (congrArg some (by kernel_rfl))
  t3 := Tryd.underlying3
  a3 := Tryd.isAgg3
  z3 := Tryd.sizeOf3
  v3 := Tryd.zeroValue3
  t5 := Tryd.underlying5
  a5 := Tryd.isAgg5
  z5 := Tryd.sizeOf5
  v5 := Tryd.zeroValue5
  t9 := Tryd.underlying9
  a9 := Tryd.isAgg9
  z9 := Tryd.sizeOf9
  v9 := Tryd.zeroValue9 }
open Go.RowKit Go.Lib in
/-- internal/stringslite.IndexByte (what strings.IndexByte calls): IT RETURNS 'Lib.indexByte s c'; the world is as it was. (LAID: no walk: one application.) -/
theorem Tryd.stringslite_IndexByte (s : ByteArray) (c : Int) (w : World) :
    Calls Tryd.prog 54 #[.string s, .int .u8 c] w fun e w' => e = .returned (.int .i64 (Lib.indexByte s.data.toList c.toNat.toUInt8)) ∧ w' = w := Any.stringslite_IndexByte Tryd.lays217 s c w
def Tryd.lays224_ren : Go.Shelf.Ren := ⟨fun | 224 => 92 | n => n, fun | 3 => 3 | n => n, fun | n => n⟩
theorem Tryd.lays224 : Go.Proofs.Lays.n224 Tryd.prog Tryd.lays224_ren := {
  mixed := by kernel_rfl
  f224 := Tryd.func92.trans (congrArg some (by kernel_rfl))
  t3 := Tryd.underlying3
  a3 := Tryd.isAgg3
  z3 := Tryd.sizeOf3
  v3 := Tryd.zeroValue3 }
open Go.RowKit Go.Lib in
/-- internal/bytealg.Cutover: "Cutover reports the number of failures of IndexByte we should tolerate before switching over to Index. n is the number of bytes processed so far.": on amd64: (n + 16) / 8. (LAID: no walk: one application.) -/
theorem Tryd.bytealg_Cutover (n : Int) (h0 : 0 ≤ n) (h1 : n < 4611686018427387904) (w : World) :
    Calls Tryd.prog 92 #[.int .i64 n] w fun e w' => e = .returned (.int .i64 ((n + 16) / 8)) ∧ w' = w := Any.bytealg_Cutover Tryd.lays224 n h0 h1 w
def Tryd.lays314_ren : Go.Shelf.Ren := ⟨fun | 314 => 99 | n => n, fun | 9 => 9 | 51 => 89 | 3 => 3 | 4 => 4 | 5 => 5 | 46 => 54 | n => n, fun | n => n⟩
theorem Tryd.lays314 : Go.Proofs.Lays.n314 Tryd.prog Tryd.lays314_ren := {
  mixed := by kernel_rfl
  f314 := Tryd.func99.trans (congrArg some (by kernel_rfl))
  t3 := Tryd.underlying3
  a3 := Tryd.isAgg3
  z3 := Tryd.sizeOf3
  v3 := Tryd.zeroValue3
  t4 := Tryd.underlying4
  a4 := Tryd.isAgg4
  z4 := Tryd.sizeOf4
  v4 := Tryd.zeroValue4
  t5 := Tryd.underlying5
  a5 := Tryd.isAgg5
  z5 := Tryd.sizeOf5
  v5 := Tryd.zeroValue5
  t9 := Tryd.underlying9
  a9 := Tryd.isAgg9
  z9 := Tryd.sizeOf9
  v9 := Tryd.zeroValue9
  t46 := Tryd.underlying54
  a46 := Tryd.isAgg54
  z46 := Tryd.sizeOf54
  v46 := Tryd.zeroValue54
  t51 := Tryd.underlying89
  a51 := Tryd.isAgg89
  z51 := Tryd.sizeOf89
  v51 := Tryd.zeroValue89 }
open Go.RowKit Go.Lib in
/-- hashStr: "returns the hash and the appropriate multiplicative factor for use in Rabin-Karp algorithm": THE HASH OF ALL OF sep, AND 16777619 ^ len(sep), both in uint32. (LAID: no walk: one application.) -/
theorem Tryd.bytealg_hashStr (sep : ByteArray) (hs : sep.size < 4294967281) (w : World) :
    Calls Tryd.prog 99 #[.string sep] w fun e w' => e = .returned (.tuple #[.int .u32 (RK.H sep.data.toList % 4294967296), .int .u32 (16777619 ^ sep.size % 4294967296)]) ∧ w' = w := Any.bytealg_hashStr Tryd.lays314 sep hs w
def Tryd.lays267_ren : Go.Shelf.Ren := ⟨fun | 267 => 96 | 314 => 99 | n => n, fun | 9 => 9 | 3 => 3 | 146 => 90 | 51 => 89 | 4 => 4 | 5 => 5 | 46 => 54 | n => n, fun | n => n⟩
theorem Tryd.lays267 : Go.Proofs.Lays.n267 Tryd.prog Tryd.lays267_ren := {
  mixed := by kernel_rfl
  f267 := Tryd.func96.trans (congrArg some (by kernel_rfl))
  f314 := Tryd.func99.trans (congrArg some (by kernel_rfl))
  t3 := Tryd.underlying3
  a3 := Tryd.isAgg3
  z3 := Tryd.sizeOf3
  v3 := Tryd.zeroValue3
  t4 := Tryd.underlying4
  a4 := Tryd.isAgg4
  z4 := Tryd.sizeOf4
  v4 := Tryd.zeroValue4
  t5 := Tryd.underlying5
  a5 := Tryd.isAgg5
  z5 := Tryd.sizeOf5
  v5 := Tryd.zeroValue5
  t9 := Tryd.underlying9
  a9 := Tryd.isAgg9
  z9 := Tryd.sizeOf9
  v9 := Tryd.zeroValue9
  t46 := Tryd.underlying54
  a46 := Tryd.isAgg54
  z46 := Tryd.sizeOf54
  v46 := Tryd.zeroValue54
  t51 := Tryd.underlying89
  a51 := Tryd.isAgg89
  z51 := Tryd.sizeOf89
  v51 := Tryd.zeroValue89
  t146 := Tryd.underlying90
  a146 := Tryd.isAgg90
  z146 := Tryd.sizeOf90
  v146 := Tryd.zeroValue90 }
open Go.RowKit Go.Lib in
theorem Tryd.bytealg_IndexRabinKarp (s sep : ByteArray) (h1 : 1 ≤ sep.size) (h2 : sep.size ≤ s.size) (hs : s.size < 4294967281) (w : World) :
    Calls Tryd.prog 96 #[.string s, .string sep] w fun e w' => e = .returned (.int .i64 (Lib.index s.data.toList sep.data.toList)) ∧ w' = w := Any.bytealg_IndexRabinKarp Tryd.lays267 s sep h1 h2 hs w
def Tryd.lays219_ren : Go.Shelf.Ren := ⟨fun | 219 => 89 | 217 => 54 | 225 => 93 | 224 => 92 | 267 => 96 | 266 => 81 | 314 => 99 | n => n, fun | 9 => 9 | 3 => 3 | 4 => 4 | 5 => 5 | 46 => 54 | 146 => 90 | 51 => 89 | n => n, fun | 1 => 0 | n => n⟩
theorem Tryd.lays219 : Go.Proofs.Lays.n219 Tryd.prog Tryd.lays219_ren := {
  mixed := by kernel_rfl
  f217 := Tryd.func54.trans (congrArg some (by kernel_rfl))
  f219 := Tryd.func89.trans (congrArg some (by kernel_rfl))
  f224 := Tryd.func92.trans (congrArg some (by kernel_rfl))
  f225 := Tryd.func93.trans (congrArg some (by kernel_rfl))
  f266 := Tryd.func81.trans (congrArg some (by kernel_rfl))
  f267 := Tryd.func96.trans (congrArg some (by kernel_rfl))
  f314 := Tryd.func99.trans (congrArg some (by kernel_rfl))
  t3 := Tryd.underlying3
  a3 := Tryd.isAgg3
  z3 := Tryd.sizeOf3
  v3 := Tryd.zeroValue3
  t4 := Tryd.underlying4
  a4 := Tryd.isAgg4
  z4 := Tryd.sizeOf4
  v4 := Tryd.zeroValue4
  t5 := Tryd.underlying5
  a5 := Tryd.isAgg5
  z5 := Tryd.sizeOf5
  v5 := Tryd.zeroValue5
  t9 := Tryd.underlying9
  a9 := Tryd.isAgg9
  z9 := Tryd.sizeOf9
  v9 := Tryd.zeroValue9
  t46 := Tryd.underlying54
  a46 := Tryd.isAgg54
  z46 := Tryd.sizeOf54
  v46 := Tryd.zeroValue54
  t51 := Tryd.underlying89
  a51 := Tryd.isAgg89
  z51 := Tryd.sizeOf89
  v51 := Tryd.zeroValue89
  t146 := Tryd.underlying90
  a146 := Tryd.isAgg90
  z146 := Tryd.sizeOf90
  v146 := Tryd.zeroValue90
  g1 := by kernel_rfl }
open Go.RowKit Go.Lib in
/-- internal/stringslite.Index (what strings.Index calls) AT A substr OF ONE BYTE c: IT RETURNS 'Lib.indexByte s c'; the world is as it was. (LAID: no walk: one application.) -/
theorem Tryd.stringslite_Index_one (s : ByteArray) (c : UInt8) (w : World) :
    Calls Tryd.prog 89 #[.string s, .string ⟨#[c]⟩] w fun e w' => e = .returned (.int .i64 (Lib.indexByte s.data.toList c)) ∧ w' = w := Any.stringslite_Index_one Tryd.lays219 s c w
open Go.RowKit Go.Lib in
/-- internal/stringslite.Index (what strings.Index calls) AT A substr OF WHATEVER LENGTH: IT RETURNS 'Lib.index s substr'; the world is as it was. 'm': what internal/bytealg.MaxLen holds: whatever. (LAID: no walk: one application.) -/
theorem Tryd.stringslite_Index (s sub : ByteArray) (m : Int) (w : World) (hs : s.size < 4294967281) (hm : w.cell? ⟨0, 0, none⟩ = some (.int .i64 m)) :
    Calls Tryd.prog 89 #[.string s, .string sub] w fun e w' => e = .returned (.int .i64 (Lib.index s.data.toList sub.data.toList)) ∧ w' = w := Any.stringslite_Index Tryd.lays219 s sub m w hs hm
def Tryd.lays143_ren : Go.Shelf.Ren := ⟨fun | 143 => 84 | 219 => 89 | 217 => 54 | 225 => 93 | 224 => 92 | 267 => 96 | 266 => 81 | 314 => 99 | n => n, fun | 9 => 9 | 3 => 3 | 4 => 4 | 5 => 5 | 46 => 54 | 146 => 90 | 51 => 89 | n => n, fun | 1 => 0 | n => n⟩
theorem Tryd.lays143 : Go.Proofs.Lays.n143 Tryd.prog Tryd.lays143_ren := {
  mixed := by kernel_rfl
  f143 := Tryd.func84.trans (congrArg some (by kernel_rfl))
  f217 := Tryd.func54.trans (congrArg some (by kernel_rfl))
  f219 := Tryd.func89.trans (congrArg some (by kernel_rfl))
  f224 := Tryd.func92.trans (congrArg some (by kernel_rfl))
  f225 := Tryd.func93.trans (congrArg some (by kernel_rfl))
  f266 := Tryd.func81.trans (congrArg some (by kernel_rfl))
  f267 := Tryd.func96.trans (congrArg some (by kernel_rfl))
  f314 := Tryd.func99.trans (congrArg some (by kernel_rfl))
  t3 := Tryd.underlying3
  a3 := Tryd.isAgg3
  z3 := Tryd.sizeOf3
  v3 := Tryd.zeroValue3
  t4 := Tryd.underlying4
  a4 := Tryd.isAgg4
  z4 := Tryd.sizeOf4
  v4 := Tryd.zeroValue4
  t5 := Tryd.underlying5
  a5 := Tryd.isAgg5
  z5 := Tryd.sizeOf5
  v5 := Tryd.zeroValue5
  t9 := Tryd.underlying9
  a9 := Tryd.isAgg9
  z9 := Tryd.sizeOf9
  v9 := Tryd.zeroValue9
  t46 := Tryd.underlying54
  a46 := Tryd.isAgg54
  z46 := Tryd.sizeOf54
  v46 := Tryd.zeroValue54
  t51 := Tryd.underlying89
  a51 := Tryd.isAgg89
  z51 := Tryd.sizeOf89
  v51 := Tryd.zeroValue89
  t146 := Tryd.underlying90
  a146 := Tryd.isAgg90
  z146 := Tryd.sizeOf90
  v146 := Tryd.zeroValue90
  g1 := by kernel_rfl }
open Go.RowKit Go.Lib in
/-- strings.Index: "Index returns the index of the first instance of substr in s, or -1 if substr is not present in s.": AT A substr OF ONE BYTE c: IT RETURNS 'Lib.indexByte s c'; the world is as it was. (LAID: no walk: one application.) -/
theorem Tryd.strings_Index_one (s : ByteArray) (c : UInt8) (w : World) :
    Calls Tryd.prog 84 #[.string s, .string ⟨#[c]⟩] w fun e w' => e = .returned (.int .i64 (Lib.indexByte s.data.toList c)) ∧ w' = w := Any.strings_Index_one Tryd.lays143 s c w
open Go.RowKit Go.Lib in
/-- strings.Index: "Index returns the index of the first instance of substr in s, or -1 if substr is not present in s.": IT RETURNS 'Lib.index s substr'; the world is as it was. (LAID: no walk: one application.) -/
theorem Tryd.strings_Index (s sub : ByteArray) (m : Int) (w : World) (hs : s.size < 4294967281) (hm : w.cell? ⟨0, 0, none⟩ = some (.int .i64 m)) :
    Calls Tryd.prog 84 #[.string s, .string sub] w fun e w' => e = .returned (.int .i64 (Lib.index s.data.toList sub.data.toList)) ∧ w' = w := Any.strings_Index Tryd.lays143 s sub m w hs hm
def Tryd.lays144_ren : Go.Shelf.Ren := ⟨fun | 144 => 62 | 143 => 84 | 219 => 89 | 217 => 54 | 225 => 93 | 224 => 92 | 267 => 96 | 266 => 81 | 314 => 99 | n => n, fun | 9 => 9 | 4 => 4 | 3 => 3 | 5 => 5 | 46 => 54 | 146 => 90 | 51 => 89 | n => n, fun | 1 => 0 | n => n⟩
theorem Tryd.lays144 : Go.Proofs.Lays.n144 Tryd.prog Tryd.lays144_ren := {
  mixed := by kernel_rfl
  f143 := Tryd.func84.trans (congrArg some (by kernel_rfl))
  f144 := Tryd.func62.trans (congrArg some (by kernel_rfl))
  f217 := Tryd.func54.trans (congrArg some (by kernel_rfl))
  f219 := Tryd.func89.trans (congrArg some (by kernel_rfl))
  f224 := Tryd.func92.trans (congrArg some (by kernel_rfl))
  f225 := Tryd.func93.trans (congrArg some (by kernel_rfl))
  f266 := Tryd.func81.trans (congrArg some (by kernel_rfl))
  f267 := Tryd.func96.trans (congrArg some (by kernel_rfl))
  f314 := Tryd.func99.trans (congrArg some (by kernel_rfl))
  t3 := Tryd.underlying3
  a3 := Tryd.isAgg3
  z3 := Tryd.sizeOf3
  v3 := Tryd.zeroValue3
  t4 := Tryd.underlying4
  a4 := Tryd.isAgg4
  z4 := Tryd.sizeOf4
  v4 := Tryd.zeroValue4
  t5 := Tryd.underlying5
  a5 := Tryd.isAgg5
  z5 := Tryd.sizeOf5
  v5 := Tryd.zeroValue5
  t9 := Tryd.underlying9
  a9 := Tryd.isAgg9
  z9 := Tryd.sizeOf9
  v9 := Tryd.zeroValue9
  t46 := Tryd.underlying54
  a46 := Tryd.isAgg54
  z46 := Tryd.sizeOf54
  v46 := Tryd.zeroValue54
  t51 := Tryd.underlying89
  a51 := Tryd.isAgg89
  z51 := Tryd.sizeOf89
  v51 := Tryd.zeroValue89
  t146 := Tryd.underlying90
  a146 := Tryd.isAgg90
  z146 := Tryd.sizeOf90
  v146 := Tryd.zeroValue90
  g1 := by kernel_rfl }
open Go.RowKit Go.Lib in
/-- strings.Contains: "Contains reports whether substr is within s.": AT A substr OF ONE BYTE c: IT RETURNS 'decide (0 ≤ Lib.indexByte s c)'; the world is as it was. (LAID: no walk: one application.) -/
theorem Tryd.strings_Contains_one (s : ByteArray) (c : UInt8) (w : World) :
    Calls Tryd.prog 62 #[.string s, .string ⟨#[c]⟩] w fun e w' => e = .returned (.bool (decide (0 ≤ Lib.indexByte s.data.toList c))) ∧ w' = w := Any.strings_Contains_one Tryd.lays144 s c w
open Go.RowKit Go.Lib in
/-- strings.Contains: "Contains reports whether substr is within s.": IT RETURNS 'Lib.contains s substr'; the world is as it was. (LAID: no walk: one application.) -/
theorem Tryd.strings_Contains (s sub : ByteArray) (m : Int) (w : World) (hs : s.size < 4294967281) (hm : w.cell? ⟨0, 0, none⟩ = some (.int .i64 m)) :
    Calls Tryd.prog 62 #[.string s, .string sub] w fun e w' => e = .returned (.bool (Lib.contains s.data.toList sub.data.toList)) ∧ w' = w := Any.strings_Contains Tryd.lays144 s sub m w hs hm
def Tryd.lays220_ren : Go.Shelf.Ren := ⟨fun | 220 => 76 | 219 => 89 | 217 => 54 | 225 => 93 | 224 => 92 | 267 => 96 | 266 => 81 | 314 => 99 | n => n, fun | 9 => 9 | 4 => 4 | 3 => 3 | 5 => 5 | 46 => 54 | 146 => 90 | 51 => 89 | n => n, fun | 1 => 0 | n => n⟩
theorem Tryd.lays220 : Go.Proofs.Lays.n220 Tryd.prog Tryd.lays220_ren := {
  mixed := by kernel_rfl
  f217 := Tryd.func54.trans (congrArg some (by kernel_rfl))
  f219 := Tryd.func89.trans (congrArg some (by kernel_rfl))
  f220 := Tryd.func76.trans (congrArg some (by kernel_rfl))
  f224 := Tryd.func92.trans (congrArg some (by kernel_rfl))
  f225 := Tryd.func93.trans (congrArg some (by kernel_rfl))
  f266 := Tryd.func81.trans (congrArg some (by kernel_rfl))
  f267 := Tryd.func96.trans (congrArg some (by kernel_rfl))
  f314 := Tryd.func99.trans (congrArg some (by kernel_rfl))
  t3 := Tryd.underlying3
  a3 := Tryd.isAgg3
  z3 := Tryd.sizeOf3
  v3 := Tryd.zeroValue3
  t4 := Tryd.underlying4
  a4 := Tryd.isAgg4
  z4 := Tryd.sizeOf4
  v4 := Tryd.zeroValue4
  t5 := Tryd.underlying5
  a5 := Tryd.isAgg5
  z5 := Tryd.sizeOf5
  v5 := Tryd.zeroValue5
  t9 := Tryd.underlying9
  a9 := Tryd.isAgg9
  z9 := Tryd.sizeOf9
  v9 := Tryd.zeroValue9
  t46 := Tryd.underlying54
  a46 := Tryd.isAgg54
  z46 := Tryd.sizeOf54
  v46 := Tryd.zeroValue54
  t51 := Tryd.underlying89
  a51 := Tryd.isAgg89
  z51 := Tryd.sizeOf89
  v51 := Tryd.zeroValue89
  t146 := Tryd.underlying90
  a146 := Tryd.isAgg90
  z146 := Tryd.sizeOf90
  v146 := Tryd.zeroValue90
  g1 := by kernel_rfl }
open Go.RowKit Go.Lib in
/-- internal/stringslite.Cut (what strings.Cut calls): IT RETURNS 'Lib.cut s sep'; the world is as it was but for the count of draws. (LAID: no walk: one application.) -/
theorem Tryd.stringslite_Cut (s sep : ByteArray) (m : Int) (w : World) (hs : s.size < 4294967281) (hm : w.cell? ⟨0, 0, none⟩ = some (.int .i64 m)) :
    Calls Tryd.prog 76 #[.string s, .string sep] w fun e w' => e = .returned (.tuple #[.string ⟨(Lib.cut s.data.toList sep.data.toList).1.toArray⟩, .string ⟨(Lib.cut s.data.toList sep.data.toList).2.1.toArray⟩, .bool (Lib.cut s.data.toList sep.data.toList).2.2]) ∧ ∃ n, w' = w.drewN n := Any.stringslite_Cut Tryd.lays220 s sep m w hs hm
def Tryd.lays145_ren : Go.Shelf.Ren := ⟨fun | 145 => 46 | 220 => 76 | 219 => 89 | 217 => 54 | 225 => 93 | 224 => 92 | 267 => 96 | 266 => 81 | 314 => 99 | n => n, fun | 9 => 9 | 4 => 4 | 59 => 74 | 3 => 3 | 5 => 5 | 46 => 54 | 146 => 90 | 51 => 89 | n => n, fun | 1 => 0 | n => n⟩
theorem Tryd.lays145 : Go.Proofs.Lays.n145 Tryd.prog Tryd.lays145_ren := {
  mixed := by kernel_rfl
  f145 := Tryd.func46.trans (congrArg some (by kernel_rfl))
  f217 := Tryd.func54.trans (congrArg some (by kernel_rfl))
  f219 := Tryd.func89.trans (congrArg some (by kernel_rfl))
  f220 := Tryd.func76.trans (congrArg some (by kernel_rfl))
  f224 := Tryd.func92.trans (congrArg some (by kernel_rfl))
  f225 := Tryd.func93.trans (congrArg some (by kernel_rfl))
  f266 := Tryd.func81.trans (congrArg some (by kernel_rfl))
  f267 := Tryd.func96.trans (congrArg some (by kernel_rfl))
  f314 := Tryd.func99.trans (congrArg some (by kernel_rfl))
  t3 := Tryd.underlying3
  a3 := Tryd.isAgg3
  z3 := Tryd.sizeOf3
  v3 := Tryd.zeroValue3
  t4 := Tryd.underlying4
  a4 := Tryd.isAgg4
  z4 := Tryd.sizeOf4
  v4 := Tryd.zeroValue4
  t5 := Tryd.underlying5
  a5 := Tryd.isAgg5
  z5 := Tryd.sizeOf5
  v5 := Tryd.zeroValue5
  t9 := Tryd.underlying9
  a9 := Tryd.isAgg9
  z9 := Tryd.sizeOf9
  v9 := Tryd.zeroValue9
  t46 := Tryd.underlying54
  a46 := Tryd.isAgg54
  z46 := Tryd.sizeOf54
  v46 := Tryd.zeroValue54
  t51 := Tryd.underlying89
  a51 := Tryd.isAgg89
  z51 := Tryd.sizeOf89
  v51 := Tryd.zeroValue89
  t59 := Tryd.underlying74
  a59 := Tryd.isAgg74
  z59 := Tryd.sizeOf74
  v59 := Tryd.zeroValue74
  t146 := Tryd.underlying90
  a146 := Tryd.isAgg90
  z146 := Tryd.sizeOf90
  v146 := Tryd.zeroValue90
  g1 := by kernel_rfl }
open Go.RowKit Go.Lib in
/-- strings.Cut: "Cut slices s around the first instance of sep, returning the text before and after sep. The found result reports whether sep appears in s. If sep does not appear in s, cut returns s, "", false.": IT RETURNS 'Lib.cut s sep'; the world is as it was but for the count of draws. (LAID: no walk: one application.) -/
theorem Tryd.strings_Cut (s sep : ByteArray) (m : Int) (w : World) (hs : s.size < 4294967281) (hm : w.cell? ⟨0, 0, none⟩ = some (.int .i64 m)) :
    Calls Tryd.prog 46 #[.string s, .string sep] w fun e w' => e = .returned (.tuple #[.string ⟨(Lib.cut s.data.toList sep.data.toList).1.toArray⟩, .string ⟨(Lib.cut s.data.toList sep.data.toList).2.1.toArray⟩, .bool (Lib.cut s.data.toList sep.data.toList).2.2]) ∧ ∃ n, w' = w.drewN n := Any.strings_Cut Tryd.lays145 s sep m w hs hm
def Tryd.lays138_ren : Go.Shelf.Ren := ⟨fun | 138 => 95 | 195 => 97 | 218 => 98 | 143 => 84 | 219 => 89 | 217 => 54 | 225 => 93 | 224 => 92 | 267 => 96 | 266 => 81 | 314 => 99 | n => n, fun | 9 => 9 | 3 => 3 | 4 => 4 | 5 => 5 | 0 => 0 | 46 => 54 | 146 => 90 | 51 => 89 | n => n, fun | 1 => 0 | n => n⟩
theorem Tryd.lays138 : Go.Proofs.Lays.n138 Tryd.prog Tryd.lays138_ren := {
  mixed := by kernel_rfl
  f138 := Tryd.func95.trans (congrArg some (by kernel_rfl))
  f143 := Tryd.func84.trans (congrArg some (by kernel_rfl))
  f195 := Tryd.func97.trans (congrArg some (by kernel_rfl))
  f217 := Tryd.func54.trans (congrArg some (by kernel_rfl))
  f218 := Tryd.func98.trans (congrArg some (by kernel_rfl))
  f219 := Tryd.func89.trans (congrArg some (by kernel_rfl))
  f224 := Tryd.func92.trans (congrArg some (by kernel_rfl))
  f225 := Tryd.func93.trans (congrArg some (by kernel_rfl))
  f266 := Tryd.func81.trans (congrArg some (by kernel_rfl))
  f267 := Tryd.func96.trans (congrArg some (by kernel_rfl))
  f314 := Tryd.func99.trans (congrArg some (by kernel_rfl))
  t0 := Tryd.underlying0
  a0 := Tryd.isAgg0
  z0 := Tryd.sizeOf0
  v0 := Tryd.zeroValue0
  t3 := Tryd.underlying3
  a3 := Tryd.isAgg3
  z3 := Tryd.sizeOf3
  v3 := Tryd.zeroValue3
  t4 := Tryd.underlying4
  a4 := Tryd.isAgg4
  z4 := Tryd.sizeOf4
  v4 := Tryd.zeroValue4
  t5 := Tryd.underlying5
  a5 := Tryd.isAgg5
  z5 := Tryd.sizeOf5
  v5 := Tryd.zeroValue5
  t9 := Tryd.underlying9
  a9 := Tryd.isAgg9
  z9 := Tryd.sizeOf9
  v9 := Tryd.zeroValue9
  t46 := Tryd.underlying54
  a46 := Tryd.isAgg54
  z46 := Tryd.sizeOf54
  v46 := Tryd.zeroValue54
  t51 := Tryd.underlying89
  a51 := Tryd.isAgg89
  z51 := Tryd.sizeOf89
  v51 := Tryd.zeroValue89
  t146 := Tryd.underlying90
  a146 := Tryd.isAgg90
  z146 := Tryd.sizeOf90
  v146 := Tryd.zeroValue90
  g1 := by kernel_rfl }
open Go.RowKit Go.Lib in
/-- strings.Count AT A substr OF ONE BYTE ('hp'): "Count counts the number of non-overlapping instances of substr in s.": IT RETURNS 'Lib.countByte s (that byte)'; the world is as it was. ✋ NO CONTRACT HERE YET at an empty substr (utf8.RuneCountInString) or at a longer one (a loop over strings.Index). (LAID: no walk: one application.) -/
theorem Tryd.strings_Count_one (s : ByteArray) (c : UInt8) (w : World) :
    Calls Tryd.prog 95 #[.string s, .string ⟨#[c]⟩] w fun e w' => e = .returned (.int .i64 (Lib.countByte s.data.toList c)) ∧ w' = w := Any.strings_Count_one Tryd.lays138 s c w
open Go.RowKit Go.Lib in
/-- strings.Count AT A substr OF TWO BYTES OR MORE: "Count counts the number of non-overlapping instances of substr in s.": IT RETURNS 'Lib.count s substr'; the world is as it was. (LAID: no walk: one application.) -/
theorem Tryd.strings_Count (s sub : ByteArray) (m : Int) (w : World) (hs : s.size < 4294967281) (hm : w.cell? ⟨0, 0, none⟩ = some (.int .i64 m)) (h2 : 2 ≤ sub.size) :
    Calls Tryd.prog 95 #[.string s, .string sub] w fun e w' => e = .returned (.int .i64 (Lib.countB s sub)) ∧ w' = w := Any.strings_Count Tryd.lays138 s sub m w hs hm h2
def Tryd.laysM219_ren : Go.Shelf.Ren := ⟨fun | 219 => 89 | 217 => 54 | 225 => 93 | 224 => 92 | 267 => 96 | 266 => 81 | 314 => 99 | n => n, fun | 9 => 9 | 3 => 3 | 4 => 4 | 5 => 5 | 46 => 54 | 146 => 90 | 51 => 89 | n => n, fun | 1 => 0 | n => n⟩
theorem Tryd.laysM219 : Go.Proofs.LaysM.n219 Tryd.prog Tryd.laysM219_ren := {
  mixed := by kernel_rfl
  f217 := Tryd.func54.trans (congrArg some (by kernel_rfl))
  f219 := Tryd.func89.trans (congrArg some (by kernel_rfl))
  f224 := Tryd.func92.trans (congrArg some (by kernel_rfl))
  f225 := Tryd.func93.trans (congrArg some (by kernel_rfl))
  f266 := Tryd.func81.trans (congrArg some (by kernel_rfl))
  f267 := Tryd.func96.trans (congrArg some (by kernel_rfl))
  f314 := Tryd.func99.trans (congrArg some (by kernel_rfl))
  t3 := Tryd.underlying3
  a3 := Tryd.isAgg3
  z3 := Tryd.sizeOf3
  v3 := Tryd.zeroValue3
  t4 := Tryd.underlying4
  a4 := Tryd.isAgg4
  z4 := Tryd.sizeOf4
  v4 := Tryd.zeroValue4
  t5 := Tryd.underlying5
  a5 := Tryd.isAgg5
  z5 := Tryd.sizeOf5
  v5 := Tryd.zeroValue5
  t9 := Tryd.underlying9
  a9 := Tryd.isAgg9
  z9 := Tryd.sizeOf9
  v9 := Tryd.zeroValue9
  t46 := Tryd.underlying54
  a46 := Tryd.isAgg54
  z46 := Tryd.sizeOf54
  v46 := Tryd.zeroValue54
  t51 := Tryd.underlying89
  a51 := Tryd.isAgg89
  z51 := Tryd.sizeOf89
  v51 := Tryd.zeroValue89
  t146 := Tryd.underlying90
  a146 := Tryd.isAgg90
  z146 := Tryd.sizeOf90
  v146 := Tryd.zeroValue90
  g1 := by kernel_rfl
  i3 := by kernel_rfl
  i4 := by kernel_rfl
  i5 := by kernel_rfl
  i9 := by kernel_rfl
  i46 := by kernel_rfl
  i51 := by kernel_rfl
  i146 := by kernel_rfl
  m1 := by kernel_rfl
  s1_3 := fun w h => Go.Proofs.cell_of_shapedOpen_int (zero := #[.int .i64 0]) (t := 3) h (of_decide_eq_true (by kernel_rfl)) (by kernel_rfl) rfl (by kernel_rfl) (by kernel_rfl) Tryd.underlying3 }
open Go.RowKit Go.Lib in
theorem Tryd.stringslite_Index_shaped (s sub : ByteArray) (w : World) (h : w.ShapedOpen Tryd.prog) (hs : s.size < 4294967281) :
    Calls Tryd.prog 89 #[.string s, .string sub] w fun e w' => e = .returned (.int .i64 (Lib.index s.data.toList sub.data.toList)) ∧ w' = w := Any.stringslite_Index_shaped Tryd.laysM219 s sub w h hs
def Tryd.laysM143_ren : Go.Shelf.Ren := ⟨fun | 143 => 84 | 219 => 89 | 217 => 54 | 225 => 93 | 224 => 92 | 267 => 96 | 266 => 81 | 314 => 99 | n => n, fun | 9 => 9 | 3 => 3 | 4 => 4 | 5 => 5 | 46 => 54 | 146 => 90 | 51 => 89 | n => n, fun | 1 => 0 | n => n⟩
theorem Tryd.laysM143 : Go.Proofs.LaysM.n143 Tryd.prog Tryd.laysM143_ren := {
  mixed := by kernel_rfl
  f143 := Tryd.func84.trans (congrArg some (by kernel_rfl))
  f217 := Tryd.func54.trans (congrArg some (by kernel_rfl))
  f219 := Tryd.func89.trans (congrArg some (by kernel_rfl))
  f224 := Tryd.func92.trans (congrArg some (by kernel_rfl))
  f225 := Tryd.func93.trans (congrArg some (by kernel_rfl))
  f266 := Tryd.func81.trans (congrArg some (by kernel_rfl))
  f267 := Tryd.func96.trans (congrArg some (by kernel_rfl))
  f314 := Tryd.func99.trans (congrArg some (by kernel_rfl))
  t3 := Tryd.underlying3
  a3 := Tryd.isAgg3
  z3 := Tryd.sizeOf3
  v3 := Tryd.zeroValue3
  t4 := Tryd.underlying4
  a4 := Tryd.isAgg4
  z4 := Tryd.sizeOf4
  v4 := Tryd.zeroValue4
  t5 := Tryd.underlying5
  a5 := Tryd.isAgg5
  z5 := Tryd.sizeOf5
  v5 := Tryd.zeroValue5
  t9 := Tryd.underlying9
  a9 := Tryd.isAgg9
  z9 := Tryd.sizeOf9
  v9 := Tryd.zeroValue9
  t46 := Tryd.underlying54
  a46 := Tryd.isAgg54
  z46 := Tryd.sizeOf54
  v46 := Tryd.zeroValue54
  t51 := Tryd.underlying89
  a51 := Tryd.isAgg89
  z51 := Tryd.sizeOf89
  v51 := Tryd.zeroValue89
  t146 := Tryd.underlying90
  a146 := Tryd.isAgg90
  z146 := Tryd.sizeOf90
  v146 := Tryd.zeroValue90
  g1 := by kernel_rfl
  i3 := by kernel_rfl
  i4 := by kernel_rfl
  i5 := by kernel_rfl
  i9 := by kernel_rfl
  i46 := by kernel_rfl
  i51 := by kernel_rfl
  i146 := by kernel_rfl
  m1 := by kernel_rfl
  s1_3 := fun w h => Go.Proofs.cell_of_shapedOpen_int (zero := #[.int .i64 0]) (t := 3) h (of_decide_eq_true (by kernel_rfl)) (by kernel_rfl) rfl (by kernel_rfl) (by kernel_rfl) Tryd.underlying3 }
open Go.RowKit Go.Lib in
theorem Tryd.strings_Index_shaped (s sub : ByteArray) (w : World) (h : w.ShapedOpen Tryd.prog) (hs : s.size < 4294967281) :
    Calls Tryd.prog 84 #[.string s, .string sub] w fun e w' => e = .returned (.int .i64 (Lib.index s.data.toList sub.data.toList)) ∧ w' = w := Any.strings_Index_shaped Tryd.laysM143 s sub w h hs
def Tryd.laysM144_ren : Go.Shelf.Ren := ⟨fun | 144 => 62 | 143 => 84 | 219 => 89 | 217 => 54 | 225 => 93 | 224 => 92 | 267 => 96 | 266 => 81 | 314 => 99 | n => n, fun | 9 => 9 | 4 => 4 | 3 => 3 | 5 => 5 | 46 => 54 | 146 => 90 | 51 => 89 | n => n, fun | 1 => 0 | n => n⟩
theorem Tryd.laysM144 : Go.Proofs.LaysM.n144 Tryd.prog Tryd.laysM144_ren := {
  mixed := by kernel_rfl
  f143 := Tryd.func84.trans (congrArg some (by kernel_rfl))
  f144 := Tryd.func62.trans (congrArg some (by kernel_rfl))
  f217 := Tryd.func54.trans (congrArg some (by kernel_rfl))
  f219 := Tryd.func89.trans (congrArg some (by kernel_rfl))
  f224 := Tryd.func92.trans (congrArg some (by kernel_rfl))
  f225 := Tryd.func93.trans (congrArg some (by kernel_rfl))
  f266 := Tryd.func81.trans (congrArg some (by kernel_rfl))
  f267 := Tryd.func96.trans (congrArg some (by kernel_rfl))
  f314 := Tryd.func99.trans (congrArg some (by kernel_rfl))
  t3 := Tryd.underlying3
  a3 := Tryd.isAgg3
  z3 := Tryd.sizeOf3
  v3 := Tryd.zeroValue3
  t4 := Tryd.underlying4
  a4 := Tryd.isAgg4
  z4 := Tryd.sizeOf4
  v4 := Tryd.zeroValue4
  t5 := Tryd.underlying5
  a5 := Tryd.isAgg5
  z5 := Tryd.sizeOf5
  v5 := Tryd.zeroValue5
  t9 := Tryd.underlying9
  a9 := Tryd.isAgg9
  z9 := Tryd.sizeOf9
  v9 := Tryd.zeroValue9
  t46 := Tryd.underlying54
  a46 := Tryd.isAgg54
  z46 := Tryd.sizeOf54
  v46 := Tryd.zeroValue54
  t51 := Tryd.underlying89
  a51 := Tryd.isAgg89
  z51 := Tryd.sizeOf89
  v51 := Tryd.zeroValue89
  t146 := Tryd.underlying90
  a146 := Tryd.isAgg90
  z146 := Tryd.sizeOf90
  v146 := Tryd.zeroValue90
  g1 := by kernel_rfl
  i3 := by kernel_rfl
  i4 := by kernel_rfl
  i5 := by kernel_rfl
  i9 := by kernel_rfl
  i46 := by kernel_rfl
  i51 := by kernel_rfl
  i146 := by kernel_rfl
  m1 := by kernel_rfl
  s1_3 := fun w h => Go.Proofs.cell_of_shapedOpen_int (zero := #[.int .i64 0]) (t := 3) h (of_decide_eq_true (by kernel_rfl)) (by kernel_rfl) rfl (by kernel_rfl) (by kernel_rfl) Tryd.underlying3 }
open Go.RowKit Go.Lib in
theorem Tryd.strings_Contains_shaped (s sub : ByteArray) (w : World) (h : w.ShapedOpen Tryd.prog) (hs : s.size < 4294967281) :
    Calls Tryd.prog 62 #[.string s, .string sub] w fun e w' => e = .returned (.bool (Lib.contains s.data.toList sub.data.toList)) ∧ w' = w := Any.strings_Contains_shaped Tryd.laysM144 s sub w h hs
def Tryd.laysM220_ren : Go.Shelf.Ren := ⟨fun | 220 => 76 | 219 => 89 | 217 => 54 | 225 => 93 | 224 => 92 | 267 => 96 | 266 => 81 | 314 => 99 | n => n, fun | 9 => 9 | 4 => 4 | 3 => 3 | 5 => 5 | 46 => 54 | 146 => 90 | 51 => 89 | n => n, fun | 1 => 0 | n => n⟩
theorem Tryd.laysM220 : Go.Proofs.LaysM.n220 Tryd.prog Tryd.laysM220_ren := {
  mixed := by kernel_rfl
  f217 := Tryd.func54.trans (congrArg some (by kernel_rfl))
  f219 := Tryd.func89.trans (congrArg some (by kernel_rfl))
  f220 := Tryd.func76.trans (congrArg some (by kernel_rfl))
  f224 := Tryd.func92.trans (congrArg some (by kernel_rfl))
  f225 := Tryd.func93.trans (congrArg some (by kernel_rfl))
  f266 := Tryd.func81.trans (congrArg some (by kernel_rfl))
  f267 := Tryd.func96.trans (congrArg some (by kernel_rfl))
  f314 := Tryd.func99.trans (congrArg some (by kernel_rfl))
  t3 := Tryd.underlying3
  a3 := Tryd.isAgg3
  z3 := Tryd.sizeOf3
  v3 := Tryd.zeroValue3
  t4 := Tryd.underlying4
  a4 := Tryd.isAgg4
  z4 := Tryd.sizeOf4
  v4 := Tryd.zeroValue4
  t5 := Tryd.underlying5
  a5 := Tryd.isAgg5
  z5 := Tryd.sizeOf5
  v5 := Tryd.zeroValue5
  t9 := Tryd.underlying9
  a9 := Tryd.isAgg9
  z9 := Tryd.sizeOf9
  v9 := Tryd.zeroValue9
  t46 := Tryd.underlying54
  a46 := Tryd.isAgg54
  z46 := Tryd.sizeOf54
  v46 := Tryd.zeroValue54
  t51 := Tryd.underlying89
  a51 := Tryd.isAgg89
  z51 := Tryd.sizeOf89
  v51 := Tryd.zeroValue89
  t146 := Tryd.underlying90
  a146 := Tryd.isAgg90
  z146 := Tryd.sizeOf90
  v146 := Tryd.zeroValue90
  g1 := by kernel_rfl
  i3 := by kernel_rfl
  i4 := by kernel_rfl
  i5 := by kernel_rfl
  i9 := by kernel_rfl
  i46 := by kernel_rfl
  i51 := by kernel_rfl
  i146 := by kernel_rfl
  m1 := by kernel_rfl
  s1_3 := fun w h => Go.Proofs.cell_of_shapedOpen_int (zero := #[.int .i64 0]) (t := 3) h (of_decide_eq_true (by kernel_rfl)) (by kernel_rfl) rfl (by kernel_rfl) (by kernel_rfl) Tryd.underlying3 }
open Go.RowKit Go.Lib in
theorem Tryd.stringslite_Cut_shaped (s sep : ByteArray) (w : World) (h : w.ShapedOpen Tryd.prog) (hs : s.size < 4294967281) :
    Calls Tryd.prog 76 #[.string s, .string sep] w fun e w' => e = .returned (.tuple #[.string ⟨(Lib.cut s.data.toList sep.data.toList).1.toArray⟩, .string ⟨(Lib.cut s.data.toList sep.data.toList).2.1.toArray⟩, .bool (Lib.cut s.data.toList sep.data.toList).2.2]) ∧ ∃ n, w' = w.drewN n := Any.stringslite_Cut_shaped Tryd.laysM220 s sep w h hs
def Tryd.laysM145_ren : Go.Shelf.Ren := ⟨fun | 145 => 46 | 220 => 76 | 219 => 89 | 217 => 54 | 225 => 93 | 224 => 92 | 267 => 96 | 266 => 81 | 314 => 99 | n => n, fun | 9 => 9 | 4 => 4 | 59 => 74 | 3 => 3 | 5 => 5 | 46 => 54 | 146 => 90 | 51 => 89 | n => n, fun | 1 => 0 | n => n⟩
theorem Tryd.laysM145 : Go.Proofs.LaysM.n145 Tryd.prog Tryd.laysM145_ren := {
  mixed := by kernel_rfl
  f145 := Tryd.func46.trans (congrArg some (by kernel_rfl))
  f217 := Tryd.func54.trans (congrArg some (by kernel_rfl))
  f219 := Tryd.func89.trans (congrArg some (by kernel_rfl))
  f220 := Tryd.func76.trans (congrArg some (by kernel_rfl))
  f224 := Tryd.func92.trans (congrArg some (by kernel_rfl))
  f225 := Tryd.func93.trans (congrArg some (by kernel_rfl))
  f266 := Tryd.func81.trans (congrArg some (by kernel_rfl))
  f267 := Tryd.func96.trans (congrArg some (by kernel_rfl))
  f314 := Tryd.func99.trans (congrArg some (by kernel_rfl))
  t3 := Tryd.underlying3
  a3 := Tryd.isAgg3
  z3 := Tryd.sizeOf3
  v3 := Tryd.zeroValue3
  t4 := Tryd.underlying4
  a4 := Tryd.isAgg4
  z4 := Tryd.sizeOf4
  v4 := Tryd.zeroValue4
  t5 := Tryd.underlying5
  a5 := Tryd.isAgg5
  z5 := Tryd.sizeOf5
  v5 := Tryd.zeroValue5
  t9 := Tryd.underlying9
  a9 := Tryd.isAgg9
  z9 := Tryd.sizeOf9
  v9 := Tryd.zeroValue9
  t46 := Tryd.underlying54
  a46 := Tryd.isAgg54
  z46 := Tryd.sizeOf54
  v46 := Tryd.zeroValue54
  t51 := Tryd.underlying89
  a51 := Tryd.isAgg89
  z51 := Tryd.sizeOf89
  v51 := Tryd.zeroValue89
  t59 := Tryd.underlying74
  a59 := Tryd.isAgg74
  z59 := Tryd.sizeOf74
  v59 := Tryd.zeroValue74
  t146 := Tryd.underlying90
  a146 := Tryd.isAgg90
  z146 := Tryd.sizeOf90
  v146 := Tryd.zeroValue90
  g1 := by kernel_rfl
  i3 := by kernel_rfl
  i4 := by kernel_rfl
  i5 := by kernel_rfl
  i9 := by kernel_rfl
  i46 := by kernel_rfl
  i51 := by kernel_rfl
  i59 := by kernel_rfl
  i146 := by kernel_rfl
  m1 := by kernel_rfl
  s1_3 := fun w h => Go.Proofs.cell_of_shapedOpen_int (zero := #[.int .i64 0]) (t := 3) h (of_decide_eq_true (by kernel_rfl)) (by kernel_rfl) rfl (by kernel_rfl) (by kernel_rfl) Tryd.underlying3 }
open Go.RowKit Go.Lib in
theorem Tryd.strings_Cut_shaped (s sep : ByteArray) (w : World) (h : w.ShapedOpen Tryd.prog) (hs : s.size < 4294967281) :
    Calls Tryd.prog 46 #[.string s, .string sep] w fun e w' => e = .returned (.tuple #[.string ⟨(Lib.cut s.data.toList sep.data.toList).1.toArray⟩, .string ⟨(Lib.cut s.data.toList sep.data.toList).2.1.toArray⟩, .bool (Lib.cut s.data.toList sep.data.toList).2.2]) ∧ ∃ n, w' = w.drewN n := Any.strings_Cut_shaped Tryd.laysM145 s sep w h hs
def Tryd.laysM138_ren : Go.Shelf.Ren := ⟨fun | 138 => 95 | 195 => 97 | 218 => 98 | 143 => 84 | 219 => 89 | 217 => 54 | 225 => 93 | 224 => 92 | 267 => 96 | 266 => 81 | 314 => 99 | n => n, fun | 9 => 9 | 3 => 3 | 4 => 4 | 5 => 5 | 0 => 0 | 46 => 54 | 146 => 90 | 51 => 89 | n => n, fun | 1 => 0 | n => n⟩
theorem Tryd.laysM138 : Go.Proofs.LaysM.n138 Tryd.prog Tryd.laysM138_ren := {
  mixed := by kernel_rfl
  f138 := Tryd.func95.trans (congrArg some (by kernel_rfl))
  f143 := Tryd.func84.trans (congrArg some (by kernel_rfl))
  f195 := Tryd.func97.trans (congrArg some (by kernel_rfl))
  f217 := Tryd.func54.trans (congrArg some (by kernel_rfl))
  f218 := Tryd.func98.trans (congrArg some (by kernel_rfl))
  f219 := Tryd.func89.trans (congrArg some (by kernel_rfl))
  f224 := Tryd.func92.trans (congrArg some (by kernel_rfl))
  f225 := Tryd.func93.trans (congrArg some (by kernel_rfl))
  f266 := Tryd.func81.trans (congrArg some (by kernel_rfl))
  f267 := Tryd.func96.trans (congrArg some (by kernel_rfl))
  f314 := Tryd.func99.trans (congrArg some (by kernel_rfl))
  t0 := Tryd.underlying0
  a0 := Tryd.isAgg0
  z0 := Tryd.sizeOf0
  v0 := Tryd.zeroValue0
  t3 := Tryd.underlying3
  a3 := Tryd.isAgg3
  z3 := Tryd.sizeOf3
  v3 := Tryd.zeroValue3
  t4 := Tryd.underlying4
  a4 := Tryd.isAgg4
  z4 := Tryd.sizeOf4
  v4 := Tryd.zeroValue4
  t5 := Tryd.underlying5
  a5 := Tryd.isAgg5
  z5 := Tryd.sizeOf5
  v5 := Tryd.zeroValue5
  t9 := Tryd.underlying9
  a9 := Tryd.isAgg9
  z9 := Tryd.sizeOf9
  v9 := Tryd.zeroValue9
  t46 := Tryd.underlying54
  a46 := Tryd.isAgg54
  z46 := Tryd.sizeOf54
  v46 := Tryd.zeroValue54
  t51 := Tryd.underlying89
  a51 := Tryd.isAgg89
  z51 := Tryd.sizeOf89
  v51 := Tryd.zeroValue89
  t146 := Tryd.underlying90
  a146 := Tryd.isAgg90
  z146 := Tryd.sizeOf90
  v146 := Tryd.zeroValue90
  g1 := by kernel_rfl
  i0 := by kernel_rfl
  i3 := by kernel_rfl
  i4 := by kernel_rfl
  i5 := by kernel_rfl
  i9 := by kernel_rfl
  i46 := by kernel_rfl
  i51 := by kernel_rfl
  i146 := by kernel_rfl
  m1 := by kernel_rfl
  s1_3 := fun w h => Go.Proofs.cell_of_shapedOpen_int (zero := #[.int .i64 0]) (t := 3) h (of_decide_eq_true (by kernel_rfl)) (by kernel_rfl) rfl (by kernel_rfl) (by kernel_rfl) Tryd.underlying3 }
open Go.RowKit Go.Lib in
theorem Tryd.strings_Count_shaped (s sub : ByteArray) (w : World) (h : w.ShapedOpen Tryd.prog) (hs : s.size < 4294967281) (h2 : 2 ≤ sub.size) :
    Calls Tryd.prog 95 #[.string s, .string sub] w fun e w' => e = .returned (.int .i64 (Lib.countB s sub)) ∧ w' = w := Any.strings_Count_shaped Tryd.laysM138 s sub w h hs h2
def Tryd.lays206_ren : Go.Shelf.Ren := ⟨fun | 206 => 60 | n => n, fun | 9 => 9 | 4 => 4 | 3 => 3 | n => n, fun | n => n⟩
theorem Tryd.lays206 : Go.Proofs.Lays.n206 Tryd.prog Tryd.lays206_ren := {
  mixed := by kernel_rfl
  f206 := Tryd.func60.trans (congrArg some (by kernel_rfl))
  t3 := Tryd.underlying3
  a3 := Tryd.isAgg3
  z3 := Tryd.sizeOf3
  v3 := Tryd.zeroValue3
  t4 := Tryd.underlying4
  a4 := Tryd.isAgg4
  z4 := Tryd.sizeOf4
  v4 := Tryd.zeroValue4
  t9 := Tryd.underlying9
  a9 := Tryd.isAgg9
  z9 := Tryd.sizeOf9
  v9 := Tryd.zeroValue9 }
open Go.RowKit Go.Lib in
/-- internal/stringslite.HasPrefix (what strings.HasPrefix calls). (LAID: no walk: one application.) -/
theorem Tryd.stringslite_HasPrefix (s p : ByteArray) (w : World) :
    Calls Tryd.prog 60 #[.string s, .string p] w fun e w' => e = .returned (.bool (Lib.hasPrefix s.data.toList p.data.toList)) ∧ w' = w := Any.stringslite_HasPrefix Tryd.lays206 s p w
def Tryd.lays99_ren : Go.Shelf.Ren := ⟨fun | 99 => 29 | 206 => 60 | n => n, fun | 9 => 9 | 4 => 4 | 3 => 3 | n => n, fun | n => n⟩
theorem Tryd.lays99 : Go.Proofs.Lays.n99 Tryd.prog Tryd.lays99_ren := {
  mixed := by kernel_rfl
  f99 := Tryd.func29.trans (congrArg some (by kernel_rfl))
  f206 := Tryd.func60.trans (congrArg some (by kernel_rfl))
  t3 := Tryd.underlying3
  a3 := Tryd.isAgg3
  z3 := Tryd.sizeOf3
  v3 := Tryd.zeroValue3
  t4 := Tryd.underlying4
  a4 := Tryd.isAgg4
  z4 := Tryd.sizeOf4
  v4 := Tryd.zeroValue4
  t9 := Tryd.underlying9
  a9 := Tryd.isAgg9
  z9 := Tryd.sizeOf9
  v9 := Tryd.zeroValue9 }
open Go.RowKit Go.Lib in
/-- strings.HasPrefix: "HasPrefix reports whether the string s begins with prefix.": IT RETURNS 'Lib.hasPrefix s prefix'; the world is as it was. (LAID: no walk: one application.) -/
theorem Tryd.strings_HasPrefix (s p : ByteArray) (w : World) :
    Calls Tryd.prog 29 #[.string s, .string p] w fun e w' => e = .returned (.bool (Lib.hasPrefix s.data.toList p.data.toList)) ∧ w' = w := Any.strings_HasPrefix Tryd.lays99 s p w
open Go.RowKit Go.Lib in
/-- strings.Count at whatever sep that is not empty: the two roads under one statement. (LAID: no walk: one application.) -/
theorem Tryd.strings_Count_any (s sep : ByteArray) (m : Int) (w : World) (hs : s.size < 4294967281) (hm : w.cell? ⟨0, 0, none⟩ = some (.int .i64 m)) (h1 : 1 ≤ sep.size) :
    Calls Tryd.prog 95 #[.string s, .string sep] w fun e w' => e = .returned (.int .i64 (Lib.countB s sep)) ∧ w' = w := Any.strings_Count_any Tryd.lays138 s sep m w hs hm h1
def Tryd.lays221_ren : Go.Shelf.Ren := ⟨fun | 221 => 83 | 268 => 94 | 138 => 95 | 143 => 84 | 195 => 97 | 197 => 74 | 218 => 98 | 219 => 89 | 260 => 87 | 217 => 54 | 225 => 93 | 224 => 92 | 267 => 96 | 266 => 81 | 314 => 99 | n => n, fun | 9 => 9 | 3 => 3 | 31 => 53 | 4 => 4 | 0 => 0 | 105 => 96 | 21 => 21 | 5 => 5 | 46 => 54 | 119 => 108 | 139 => 111 | 138 => 110 | 146 => 90 | 51 => 89 | n => n, fun | 1 => 0 | 3 => 1 | 4 => 2 | n => n⟩
theorem Tryd.lays221 : Go.Proofs.Lays.n221 Tryd.prog Tryd.lays221_ren := {
  mixed := by kernel_rfl
  f138 := Tryd.func95.trans (congrArg some (by kernel_rfl))
  f143 := Tryd.func84.trans (congrArg some (by kernel_rfl))
  f195 := Tryd.func97.trans (congrArg some (by kernel_rfl))
  f197 := Tryd.func74.trans (congrArg some (by kernel_rfl))
  f217 := Tryd.func54.trans (congrArg some (by kernel_rfl))
  f218 := Tryd.func98.trans (congrArg some (by kernel_rfl))
  f219 := Tryd.func89.trans (congrArg some (by kernel_rfl))
  f221 := Tryd.func83.trans (congrArg some (by kernel_rfl))
  f224 := Tryd.func92.trans (congrArg some (by kernel_rfl))
  f225 := Tryd.func93.trans (congrArg some (by kernel_rfl))
  f260 := Tryd.func87.trans (congrArg some (by kernel_rfl))
  f266 := Tryd.func81.trans (congrArg some (by kernel_rfl))
  f267 := Tryd.func96.trans (congrArg some (by kernel_rfl))
  f268 := Tryd.func94.trans (congrArg some (by kernel_rfl))
  f314 := Tryd.func99.trans (congrArg some (by kernel_rfl))
  t0 := Tryd.underlying0
  a0 := Tryd.isAgg0
  z0 := Tryd.sizeOf0
  v0 := Tryd.zeroValue0
  t3 := Tryd.underlying3
  a3 := Tryd.isAgg3
  z3 := Tryd.sizeOf3
  v3 := Tryd.zeroValue3
  t4 := Tryd.underlying4
  a4 := Tryd.isAgg4
  z4 := Tryd.sizeOf4
  v4 := Tryd.zeroValue4
  t5 := Tryd.underlying5
  a5 := Tryd.isAgg5
  z5 := Tryd.sizeOf5
  v5 := Tryd.zeroValue5
  t9 := Tryd.underlying9
  a9 := Tryd.isAgg9
  z9 := Tryd.sizeOf9
  v9 := Tryd.zeroValue9
  t21 := Tryd.underlying21
  a21 := Tryd.isAgg21
  z21 := Tryd.sizeOf21
  v21 := Tryd.zeroValue21
  t31 := Tryd.underlying53
  a31 := Tryd.isAgg53
  z31 := Tryd.sizeOf53
  v31 := Tryd.zeroValue53
  t46 := Tryd.underlying54
  a46 := Tryd.isAgg54
  z46 := Tryd.sizeOf54
  v46 := Tryd.zeroValue54
  t51 := Tryd.underlying89
  a51 := Tryd.isAgg89
  z51 := Tryd.sizeOf89
  v51 := Tryd.zeroValue89
  t105 := Tryd.underlying96
  a105 := Tryd.isAgg96
  z105 := Tryd.sizeOf96
  v105 := Tryd.zeroValue96
  t119 := Tryd.underlying108
  a119 := Tryd.isAgg108
  z119 := Tryd.sizeOf108
  t138 := Tryd.underlying110
  a138 := Tryd.isAgg110
  z138 := Tryd.sizeOf110
  v138 := Tryd.zeroValue110
  t139 := Tryd.underlying111
  a139 := Tryd.isAgg111
  z139 := Tryd.sizeOf111
  v139 := Tryd.zeroValue111
  t146 := Tryd.underlying90
  a146 := Tryd.isAgg90
  z146 := Tryd.sizeOf90
  v146 := Tryd.zeroValue90
  g1 := by kernel_rfl
  g3 := by kernel_rfl
  g4 := by kernel_rfl }
open Go.RowKit Go.Lib in
theorem Tryd.strings_genSplit (s sep : ByteArray) (sv : Nat) (n : Int) (N : Nat) (m : Int) (w : World) (hs : s.size < 4294967281) (hm : w.cell? ⟨0, 0, none⟩ = some (.int .i64 m)) (h1 : 1 ≤ sep.size) (hsv : sv ≤ sep.size) (hn0 : n ≠ 0) (hn63 : n ≤ 9223372036854775807) (hN : (N : Int) = min (if n < 0 then (Lib.countB s sep : Int) + 1 else n) ((s.size : Int) + 1)) :
    Calls Tryd.prog 83 #[.string s, .string sep, .int .i64 sv, .int .i64 n] w fun e w' =>
      e = .returned (.slice (some ⟨w.heap.size, 0, none⟩) (Lib.splitB sep sv (N - 1) s).length N) ∧ w' = w.alloc (.cells (Lib.cellsOf (Lib.splitB sep sv (N - 1) s) N) 9) := Any.strings_genSplit Tryd.lays221 (by kernel_rfl) s sep sv n N m w hs hm h1 hsv hn0 hn63 hN
def Tryd.lays146_ren : Go.Shelf.Ren := ⟨fun | 146 => 61 | 221 => 83 | 268 => 94 | 138 => 95 | 143 => 84 | 195 => 97 | 197 => 74 | 218 => 98 | 219 => 89 | 260 => 87 | 217 => 54 | 225 => 93 | 224 => 92 | 267 => 96 | 266 => 81 | 314 => 99 | n => n, fun | 9 => 9 | 31 => 53 | 3 => 3 | 4 => 4 | 0 => 0 | 105 => 96 | 21 => 21 | 5 => 5 | 46 => 54 | 119 => 108 | 139 => 111 | 138 => 110 | 146 => 90 | 51 => 89 | n => n, fun | 1 => 0 | 3 => 1 | 4 => 2 | n => n⟩
theorem Tryd.lays146 : Go.Proofs.Lays.n146 Tryd.prog Tryd.lays146_ren := {
  mixed := by kernel_rfl
  f138 := Tryd.func95.trans (congrArg some (by kernel_rfl))
  f143 := Tryd.func84.trans (congrArg some (by kernel_rfl))
  f146 := Tryd.func61.trans (congrArg some (by kernel_rfl))
  f195 := Tryd.func97.trans (congrArg some (by kernel_rfl))
  f197 := Tryd.func74.trans (congrArg some (by kernel_rfl))
  f217 := Tryd.func54.trans (congrArg some (by kernel_rfl))
  f218 := Tryd.func98.trans (congrArg some (by kernel_rfl))
  f219 := Tryd.func89.trans (congrArg some (by kernel_rfl))
  f221 := Tryd.func83.trans (congrArg some (by kernel_rfl))
  f224 := Tryd.func92.trans (congrArg some (by kernel_rfl))
  f225 := Tryd.func93.trans (congrArg some (by kernel_rfl))
  f260 := Tryd.func87.trans (congrArg some (by kernel_rfl))
  f266 := Tryd.func81.trans (congrArg some (by kernel_rfl))
  f267 := Tryd.func96.trans (congrArg some (by kernel_rfl))
  f268 := Tryd.func94.trans (congrArg some (by kernel_rfl))
  f314 := Tryd.func99.trans (congrArg some (by kernel_rfl))
  t0 := Tryd.underlying0
  a0 := Tryd.isAgg0
  z0 := Tryd.sizeOf0
  v0 := Tryd.zeroValue0
  t3 := Tryd.underlying3
  a3 := Tryd.isAgg3
  z3 := Tryd.sizeOf3
  v3 := Tryd.zeroValue3
  t4 := Tryd.underlying4
  a4 := Tryd.isAgg4
  z4 := Tryd.sizeOf4
  v4 := Tryd.zeroValue4
  t5 := Tryd.underlying5
  a5 := Tryd.isAgg5
  z5 := Tryd.sizeOf5
  v5 := Tryd.zeroValue5
  t9 := Tryd.underlying9
  a9 := Tryd.isAgg9
  z9 := Tryd.sizeOf9
  v9 := Tryd.zeroValue9
  t21 := Tryd.underlying21
  a21 := Tryd.isAgg21
  z21 := Tryd.sizeOf21
  v21 := Tryd.zeroValue21
  t31 := Tryd.underlying53
  a31 := Tryd.isAgg53
  z31 := Tryd.sizeOf53
  v31 := Tryd.zeroValue53
  t46 := Tryd.underlying54
  a46 := Tryd.isAgg54
  z46 := Tryd.sizeOf54
  v46 := Tryd.zeroValue54
  t51 := Tryd.underlying89
  a51 := Tryd.isAgg89
  z51 := Tryd.sizeOf89
  v51 := Tryd.zeroValue89
  t105 := Tryd.underlying96
  a105 := Tryd.isAgg96
  z105 := Tryd.sizeOf96
  v105 := Tryd.zeroValue96
  t119 := Tryd.underlying108
  a119 := Tryd.isAgg108
  z119 := Tryd.sizeOf108
  t138 := Tryd.underlying110
  a138 := Tryd.isAgg110
  z138 := Tryd.sizeOf110
  v138 := Tryd.zeroValue110
  t139 := Tryd.underlying111
  a139 := Tryd.isAgg111
  z139 := Tryd.sizeOf111
  v139 := Tryd.zeroValue111
  t146 := Tryd.underlying90
  a146 := Tryd.isAgg90
  z146 := Tryd.sizeOf90
  v146 := Tryd.zeroValue90
  g1 := by kernel_rfl
  g3 := by kernel_rfl
  g4 := by kernel_rfl }
open Go.RowKit Go.Lib in
/-- strings.Split. (LAID: no walk: one application.) -/
theorem Tryd.strings_Split (s sep : ByteArray) (m : Int) (w : World) (hs : s.size < 4294967281) (hm : w.cell? ⟨0, 0, none⟩ = some (.int .i64 m)) (h1 : 1 ≤ sep.size) :
    Calls Tryd.prog 61 #[.string s, .string sep] w fun e w' =>
      e = .returned (.slice (some ⟨w.heap.size, 0, none⟩) (Lib.countB s sep + 1) (Lib.countB s sep + 1)) ∧ w' = w.alloc (.cells ((Lib.splitB sep 0 (Lib.countB s sep) s).map Value.string).toArray 9) := Any.strings_Split Tryd.lays146 (by kernel_rfl) s sep m w hs hm h1
def Tryd.lays152_ren : Go.Shelf.Ren := ⟨fun | 152 => 82 | 137 => 26 | 119 => 91 | 224 => 92 | 225 => 93 | 217 => 54 | 266 => 81 | n => n, fun | 9 => 9 | 21 => 21 | 3 => 3 | 4 => 4 | 5 => 5 | 0 => 0 | 46 => 54 | n => n, fun | n => n⟩
theorem Tryd.lays152 : Go.Proofs.Lays.n152 Tryd.prog Tryd.lays152_ren := {
  mixed := by kernel_rfl
  f119 := Tryd.func91.trans (congrArg some (by kernel_rfl))
  f137 := Tryd.func26.trans (congrArg some (by kernel_rfl))
  f152 := Tryd.func82.trans (congrArg some (by kernel_rfl))
  f217 := Tryd.func54.trans (congrArg some (by kernel_rfl))
  f224 := Tryd.func92.trans (congrArg some (by kernel_rfl))
  f225 := Tryd.func93.trans (congrArg some (by kernel_rfl))
  f266 := Tryd.func81.trans (congrArg some (by kernel_rfl))
  t0 := Tryd.underlying0
  a0 := Tryd.isAgg0
  z0 := Tryd.sizeOf0
  v0 := Tryd.zeroValue0
  t3 := Tryd.underlying3
  a3 := Tryd.isAgg3
  z3 := Tryd.sizeOf3
  v3 := Tryd.zeroValue3
  t4 := Tryd.underlying4
  a4 := Tryd.isAgg4
  z4 := Tryd.sizeOf4
  v4 := Tryd.zeroValue4
  t5 := Tryd.underlying5
  a5 := Tryd.isAgg5
  z5 := Tryd.sizeOf5
  v5 := Tryd.zeroValue5
  t9 := Tryd.underlying9
  a9 := Tryd.isAgg9
  z9 := Tryd.sizeOf9
  v9 := Tryd.zeroValue9
  t21 := Tryd.underlying21
  a21 := Tryd.isAgg21
  z21 := Tryd.sizeOf21
  v21 := Tryd.zeroValue21
  t46 := Tryd.underlying54
  a46 := Tryd.isAgg54
  z46 := Tryd.sizeOf54
  v46 := Tryd.zeroValue54 }
open Go.RowKit Go.Lib in
theorem Tryd.strings_IndexRune_ascii (s : ByteArray) (r : Int) (w : World) (h0 : 0 ≤ r) (h1 : r < 128) :
    Calls Tryd.prog 82 #[.string s, .int .i32 r] w fun e w' => e = .returned (.int .i64 (Lib.indexByte s.data.toList r.toNat.toUInt8)) ∧ w' = w := Any.strings_IndexRune_ascii Tryd.lays152 s r w h0 h1
def Tryd.lays151_ren : Go.Shelf.Ren := ⟨fun | 151 => 58 | 152 => 82 | 137 => 26 | 119 => 91 | 224 => 92 | 225 => 93 | 217 => 54 | 266 => 81 | n => n, fun | 9 => 9 | 21 => 21 | 4 => 4 | 3 => 3 | 5 => 5 | 0 => 0 | 46 => 54 | n => n, fun | n => n⟩
theorem Tryd.lays151 : Go.Proofs.Lays.n151 Tryd.prog Tryd.lays151_ren := {
  mixed := by kernel_rfl
  f119 := Tryd.func91.trans (congrArg some (by kernel_rfl))
  f137 := Tryd.func26.trans (congrArg some (by kernel_rfl))
  f151 := Tryd.func58.trans (congrArg some (by kernel_rfl))
  f152 := Tryd.func82.trans (congrArg some (by kernel_rfl))
  f217 := Tryd.func54.trans (congrArg some (by kernel_rfl))
  f224 := Tryd.func92.trans (congrArg some (by kernel_rfl))
  f225 := Tryd.func93.trans (congrArg some (by kernel_rfl))
  f266 := Tryd.func81.trans (congrArg some (by kernel_rfl))
  t0 := Tryd.underlying0
  a0 := Tryd.isAgg0
  z0 := Tryd.sizeOf0
  v0 := Tryd.zeroValue0
  t3 := Tryd.underlying3
  a3 := Tryd.isAgg3
  z3 := Tryd.sizeOf3
  v3 := Tryd.zeroValue3
  t4 := Tryd.underlying4
  a4 := Tryd.isAgg4
  z4 := Tryd.sizeOf4
  v4 := Tryd.zeroValue4
  t5 := Tryd.underlying5
  a5 := Tryd.isAgg5
  z5 := Tryd.sizeOf5
  v5 := Tryd.zeroValue5
  t9 := Tryd.underlying9
  a9 := Tryd.isAgg9
  z9 := Tryd.sizeOf9
  v9 := Tryd.zeroValue9
  t21 := Tryd.underlying21
  a21 := Tryd.isAgg21
  z21 := Tryd.sizeOf21
  v21 := Tryd.zeroValue21
  t46 := Tryd.underlying54
  a46 := Tryd.isAgg54
  z46 := Tryd.sizeOf54
  v46 := Tryd.zeroValue54 }
open Go.RowKit Go.Lib in
theorem Tryd.strings_ContainsRune_ascii (s : ByteArray) (r : Int) (w : World) (h0 : 0 ≤ r) (h1 : r < 128) :
    Calls Tryd.prog 58 #[.string s, .int .i32 r] w fun e w' => e = .returned (.bool (decide (0 ≤ Lib.indexByte s.data.toList r.toNat.toUInt8))) ∧ w' = w := Any.strings_ContainsRune_ascii Tryd.lays151 s r w h0 h1
def Tryd.lays195_ren : Go.Shelf.Ren := ⟨fun | 195 => 97 | n => n, fun | 9 => 9 | 3 => 3 | 0 => 0 | 4 => 4 | n => n, fun | n => n⟩
theorem Tryd.lays195 : Go.Proofs.Lays.n195 Tryd.prog Tryd.lays195_ren := {
  mixed := by kernel_rfl
  f195 := Tryd.func97.trans (congrArg some (by kernel_rfl))
  t0 := Tryd.underlying0
  a0 := Tryd.isAgg0
  z0 := Tryd.sizeOf0
  v0 := Tryd.zeroValue0
  t3 := Tryd.underlying3
  a3 := Tryd.isAgg3
  z3 := Tryd.sizeOf3
  v3 := Tryd.zeroValue3
  t4 := Tryd.underlying4
  a4 := Tryd.isAgg4
  z4 := Tryd.sizeOf4
  v4 := Tryd.zeroValue4
  t9 := Tryd.underlying9
  a9 := Tryd.isAgg9
  z9 := Tryd.sizeOf9
  v9 := Tryd.zeroValue9 }
open Go.RowKit Go.Lib in
theorem Tryd.utf8_RuneCountInString_ascii (s : ByteArray) (w : World) (hs : s.size < 4294967281) (hascii : ∀ (j : Nat) b, s.data.toList[j]? = some b → b.toNat < 128) :
    Calls Tryd.prog 97 #[.string s] w fun e w' => e = .returned (.int .i64 s.size) ∧ w' = w.iter s s.size := Any.utf8_RuneCountInString_ascii Tryd.lays195 s w hs hascii
def Tryd.lays227_ren : Go.Shelf.Ren := ⟨fun | 227 => 41 | n => n, fun | 9 => 9 | 116 => 69 | 4 => 4 | 0 => 0 | 3 => 3 | 5 => 5 | n => n, fun | n => n⟩
theorem Tryd.lays227 : Go.Proofs.Lays.n227 Tryd.prog Tryd.lays227_ren := {
  mixed := by kernel_rfl
  f227 := Tryd.func41.trans (congrArg some (by kernel_rfl))
  t0 := Tryd.underlying0
  a0 := Tryd.isAgg0
  z0 := Tryd.sizeOf0
  v0 := Tryd.zeroValue0
  t3 := Tryd.underlying3
  a3 := Tryd.isAgg3
  z3 := Tryd.sizeOf3
  v3 := Tryd.zeroValue3
  t4 := Tryd.underlying4
  a4 := Tryd.isAgg4
  z4 := Tryd.sizeOf4
  v4 := Tryd.zeroValue4
  t5 := Tryd.underlying5
  a5 := Tryd.isAgg5
  z5 := Tryd.sizeOf5
  v5 := Tryd.zeroValue5
  t9 := Tryd.underlying9
  a9 := Tryd.isAgg9
  z9 := Tryd.sizeOf9
  v9 := Tryd.zeroValue9
  t116 := Tryd.underlying69
  a116 := Tryd.isAgg69
  z116 := Tryd.sizeOf69 }
open Go.RowKit Go.Lib in
theorem Tryd.strings_makeASCIISet (hv116 : ∀ w, (zeroValue 69).run Tryd.prog w = .ok (.agg (Array.replicate 256 (.bool false))) w) (chars : ByteArray) (w : World) (hs : chars.size < 4294967281) (hascii : ∀ (j : Nat) b, chars.data.toList[j]? = some b → b.toNat < 128) :
    Calls Tryd.prog 41 #[.string chars] w fun e w' => e = .returned (.tuple #[.agg (Lib.setCells chars.data.toList), .bool true]) ∧ w' = w.alloc (.cells (Lib.setCells chars.data.toList) 69) := Any.strings_makeASCIISet Tryd.lays227 hv116 (by kernel_rfl) chars w hs hascii
def Tryd.lays228_ren : Go.Shelf.Ren := ⟨fun | 228 => 73 | n => n, fun | 124 => 73 | 5 => 5 | 4 => 4 | 0 => 0 | 116 => 69 | n => n, fun | n => n⟩
theorem Tryd.lays228 : Go.Proofs.Lays.n228 Tryd.prog Tryd.lays228_ren := {
  mixed := by kernel_rfl
  f228 := Tryd.func73.trans (congrArg some (by kernel_rfl))
  t0 := Tryd.underlying0
  a0 := Tryd.isAgg0
  z0 := Tryd.sizeOf0
  v0 := Tryd.zeroValue0
  t4 := Tryd.underlying4
  a4 := Tryd.isAgg4
  z4 := Tryd.sizeOf4
  v4 := Tryd.zeroValue4
  t5 := Tryd.underlying5
  a5 := Tryd.isAgg5
  z5 := Tryd.sizeOf5
  v5 := Tryd.zeroValue5
  t116 := Tryd.underlying69
  a116 := Tryd.isAgg69
  z116 := Tryd.sizeOf69
  t124 := Tryd.underlying73
  a124 := Tryd.isAgg73
  z124 := Tryd.sizeOf73
  v124 := Tryd.zeroValue73 }
open Go.RowKit Go.Lib in
/-- '(as *asciiSet) contains(c)': 'as[c]': the set lies at block b, whole. (LAID: no walk: one application.) -/
theorem Tryd.asciiSet_contains (b : Nat) (x : UInt8) (v : Bool) (w : World) (hc : w.cell? ⟨b, x.toNat, none⟩ = some (.bool v)) :
    Calls Tryd.prog 73 #[.pointer (some ⟨b, 0, none⟩), .int .u8 x.toNat] w fun e w' => e = .returned (.bool v) ∧ w' = w := Any.asciiSet_contains Tryd.lays228 b x v w hc
def Tryd.lays264_ren : Go.Shelf.Ren := ⟨fun | 264 => 70 | n => n, fun | 53 => 92 | 46 => 54 | n => n, fun | n => n⟩
theorem Tryd.lays264 : Go.Proofs.Lays.n264 Tryd.prog Tryd.lays264_ren := {
  mixed := by kernel_rfl
  f264 := Tryd.func70.trans (congrArg some (by kernel_rfl))
  t46 := Tryd.underlying54
  a46 := Tryd.isAgg54
  z46 := Tryd.sizeOf54
  v46 := Tryd.zeroValue54
  t53 := Tryd.underlying92
  a53 := Tryd.isAgg92
  z53 := Tryd.sizeOf92
  v53 := Tryd.zeroValue92 }
open Go.RowKit Go.Lib in
theorem Tryd.bits_Mul64 (x y : Nat) (hx : x < 18446744073709551616) (hy : y < 18446744073709551616) (w : World) :
    Calls Tryd.prog 70 #[.int .u64 x, .int .u64 y] w fun e w' => e = .returned (.tuple #[.int .u64 ((x * y / 18446744073709551616 : Nat) : Int), .int .u64 ((x * y % 18446744073709551616 : Nat) : Int)]) ∧ w' = w := Any.bits_Mul64 Tryd.lays264 x y hx hy w
def Tryd.lays212_ren : Go.Shelf.Ren := ⟨fun | 212 => 34 | 263 => 69 | 264 => 70 | n => n, fun | 46 => 54 | 51 => 89 | 146 => 90 | 53 => 92 | 148 => 93 | n => n, fun | n => n⟩
theorem Tryd.lays212 : Go.Proofs.Lays.n212 Tryd.prog Tryd.lays212_ren := {
  mixed := by kernel_rfl
  f212 := Tryd.func34.trans (congrArg some (by kernel_rfl))
  f263 := Tryd.func69.trans (congrArg some (by kernel_rfl))
  f264 := Tryd.func70.trans (congrArg some (by kernel_rfl))
  t46 := Tryd.underlying54
  a46 := Tryd.isAgg54
  z46 := Tryd.sizeOf54
  v46 := Tryd.zeroValue54
  t51 := Tryd.underlying89
  a51 := Tryd.isAgg89
  z51 := Tryd.sizeOf89
  v51 := Tryd.zeroValue89
  t53 := Tryd.underlying92
  a53 := Tryd.isAgg92
  z53 := Tryd.sizeOf92
  v53 := Tryd.zeroValue92
  t146 := Tryd.underlying90
  a146 := Tryd.isAgg90
  z146 := Tryd.sizeOf90
  v146 := Tryd.zeroValue90
  t148 := Tryd.underlying93
  a148 := Tryd.isAgg93
  z148 := Tryd.sizeOf93
  v148 := Tryd.zeroValue93 }
open Go.RowKit Go.Lib in
/-- math/bits.Mul: "Mul returns the full-width product of x and y": on a machine of 64 bits: Mul64's. (LAID: no walk: one application.) -/
theorem Tryd.bits_Mul (x y : Nat) (hx : x < 18446744073709551616) (hy : y < 18446744073709551616) (w : World) :
    Calls Tryd.prog 34 #[.int .u64 x, .int .u64 y] w fun e w' => e = .returned (.tuple #[.int .u64 ((x * y / 18446744073709551616 : Nat) : Int), .int .u64 ((x * y % 18446744073709551616 : Nat) : Int)]) ∧ w' = w := Any.bits_Mul Tryd.lays212 x y hx hy w
def Tryd.lays105_ren : Go.Shelf.Ren := ⟨fun | 105 => 12 | 212 => 34 | 99 => 29 | 165 => 35 | 166 => 36 | 170 => 37 | 169 => 38 | 263 => 69 | 264 => 70 | 206 => 60 | 240 => 71 | 241 => 72 | 276 => 85 | 277 => 86 | n => n, fun | 9 => 9 | 3 => 3 | 4 => 4 | 20 => 20 | 0 => 0 | 46 => 54 | 109 => 55 | 5 => 5 | 72 => 59 | 76 => 63 | 51 => 89 | 146 => 90 | 53 => 92 | 148 => 93 | 70 => 57 | 37 => 46 | 75 => 62 | 127 => 95 | 164 => 104 | 80 => 66 | n => n, fun | n => n⟩
theorem Tryd.lays105 : Go.Proofs.Lays.n105 Tryd.prog Tryd.lays105_ren := {
  mixed := by kernel_rfl
  f99 := Tryd.func29.trans (congrArg some (by kernel_rfl))
  f105 := Tryd.func12.trans (congrArg some (by kernel_rfl))
  f165 := Tryd.func35.trans (congrArg some (by kernel_rfl))
  f166 := Tryd.func36.trans (congrArg some (by kernel_rfl))
  f169 := Tryd.func38.trans (congrArg some (by kernel_rfl))
  f170 := Tryd.func37.trans (congrArg some (by kernel_rfl))
  f206 := Tryd.func60.trans (congrArg some (by kernel_rfl))
  f212 := Tryd.func34.trans (congrArg some (by kernel_rfl))
  f240 := Tryd.func71.trans (congrArg some (by kernel_rfl))
  f241 := Tryd.func72.trans (congrArg some (by kernel_rfl))
  f263 := Tryd.func69.trans (congrArg some (by kernel_rfl))
  f264 := Tryd.func70.trans (congrArg some (by kernel_rfl))
  f276 := Tryd.func85.trans (congrArg some (by kernel_rfl))
  f277 := Tryd.func86.trans (congrArg some (by kernel_rfl))
  t0 := Tryd.underlying0
  a0 := Tryd.isAgg0
  z0 := Tryd.sizeOf0
  v0 := Tryd.zeroValue0
  t3 := Tryd.underlying3
  a3 := Tryd.isAgg3
  z3 := Tryd.sizeOf3
  v3 := Tryd.zeroValue3
  t4 := Tryd.underlying4
  a4 := Tryd.isAgg4
  z4 := Tryd.sizeOf4
  v4 := Tryd.zeroValue4
  t5 := Tryd.underlying5
  a5 := Tryd.isAgg5
  z5 := Tryd.sizeOf5
  v5 := Tryd.zeroValue5
  t9 := Tryd.underlying9
  a9 := Tryd.isAgg9
  z9 := Tryd.sizeOf9
  v9 := Tryd.zeroValue9
  t20 := Tryd.underlying20
  a20 := Tryd.isAgg20
  z20 := Tryd.sizeOf20
  v20 := Tryd.zeroValue20
  t37 := Tryd.underlying46
  a37 := Tryd.isAgg46
  z37 := Tryd.sizeOf46
  v37 := Tryd.zeroValue46
  t46 := Tryd.underlying54
  a46 := Tryd.isAgg54
  z46 := Tryd.sizeOf54
  v46 := Tryd.zeroValue54
  t51 := Tryd.underlying89
  a51 := Tryd.isAgg89
  z51 := Tryd.sizeOf89
  v51 := Tryd.zeroValue89
  t53 := Tryd.underlying92
  a53 := Tryd.isAgg92
  z53 := Tryd.sizeOf92
  v53 := Tryd.zeroValue92
  t70 := Tryd.underlying57
  a70 := Tryd.isAgg57
  z70 := Tryd.sizeOf57
  v70 := Tryd.zeroValue57
  t72 := Tryd.underlying59
  a72 := Tryd.isAgg59
  z72 := Tryd.sizeOf59
  v72 := Tryd.zeroValue59
  t75 := Tryd.underlying62
  a75 := Tryd.isAgg62
  z75 := Tryd.sizeOf62
  v75 := Tryd.zeroValue62
  t76 := Tryd.underlying63
  a76 := Tryd.isAgg63
  z76 := Tryd.sizeOf63
  v76 := Tryd.zeroValue63
  t109 := Tryd.underlying55
  a109 := Tryd.isAgg55
  z109 := Tryd.sizeOf55
  v109 := Tryd.zeroValue55
  t127 := Tryd.underlying95
  a127 := Tryd.isAgg95
  z127 := Tryd.sizeOf95
  v127 := Tryd.zeroValue95
  t146 := Tryd.underlying90
  a146 := Tryd.isAgg90
  z146 := Tryd.sizeOf90
  v146 := Tryd.zeroValue90
  t148 := Tryd.underlying93
  a148 := Tryd.isAgg93
  z148 := Tryd.sizeOf93
  v148 := Tryd.zeroValue93
  t164 := Tryd.underlying104
  a164 := Tryd.isAgg104
  z164 := Tryd.sizeOf104
  v164 := Tryd.zeroValue104 }
theorem Tryd.Builder_Extra_105 : Builder.Extra Tryd.prog Tryd.lays105_ren := {
  sizeBuilder := by kernel_rfl
  liesBuilder := by kernel_rfl
  t5 := Tryd.underlying5
  a5 := Tryd.isAgg5
  z5 := Tryd.sizeOf5
  v5 := Tryd.zeroValue5
  infoByte := by kernel_rfl
  cellsByte := by kernel_rfl
  sizeByte := by kernel_rfl
  neB5 := by decide }
open Go.RowKit Go.Lib in
/-- THE MAIN CASE: at least two copies of a string that is not empty. (LAID: no walk: one application.) -/
theorem Tryd.strings_Repeat_main (s : ByteArray) (c : Nat) (w : World) (hc2 : 2 ≤ c) (hc : c ≤ 9223372036854775807) (hlen : s.size * c ≤ 140737488355328) (h0 : 0 < s.size) :
    Calls Tryd.prog 12 #[.string s, .int .i64 c] w fun e w' => e = .returned (.string ⟨(Lib.repeatL s.data.toList c).toArray⟩) ∧ Below w.heap.size w w' := Any.strings_Repeat_main Tryd.lays105 Tryd.Builder_Extra_105 s c w hc2 hc hlen h0
open Go.RowKit Go.Lib in
theorem Tryd.strings_Repeat_zero (s : ByteArray) (w : World) :
    Calls Tryd.prog 12 #[.string s, .int .i64 0] w fun e w' => e = .returned (.string ⟨#[]⟩) ∧ w' = w := Any.strings_Repeat_zero Tryd.lays105 s w
open Go.RowKit Go.Lib in
theorem Tryd.strings_Repeat_one (s : ByteArray) (w : World) :
    Calls Tryd.prog 12 #[.string s, .int .i64 1] w fun e w' => e = .returned (.string s) ∧ w' = w := Any.strings_Repeat_one Tryd.lays105 s w
open Go.RowKit Go.Lib in
/-- Copies of the empty string. (LAID: no walk: one application.) -/
theorem Tryd.strings_Repeat_empty (s : ByteArray) (c : Nat) (w : World) (hc2 : 2 ≤ c) (hc : c ≤ 9223372036854775807) (h0 : s.size = 0) :
    Calls Tryd.prog 12 #[.string s, .int .i64 c] w fun e w' => e = .returned (.string ⟨#[]⟩) ∧ w' = w := Any.strings_Repeat_empty Tryd.lays105 s c w hc2 hc h0
open Go.RowKit Go.Lib in
/-- count < 0: "It panics if count is negative". (LAID: no walk: one application.) -/
theorem Tryd.strings_Repeat_negative (s : ByteArray) (c : Int) (w : World) (hc : c < 0) :
    Calls Tryd.prog 12 #[.string s, .int .i64 c] w fun e w' => e = .panicked [{ v := repeatPanic Tryd.lays105_ren "strings: negative Repeat count", recovered := false }] ∧ w' = w := Any.strings_Repeat_negative Tryd.lays105 s c w hc
open Go.RowKit Go.Lib in
/-- len(s) * count is no int: ".. or if the result of (len(s) * count) overflows". (LAID: no walk: one application.) -/
theorem Tryd.strings_Repeat_overflow (s : ByteArray) (c : Nat) (w : World) (hc : c ≤ 9223372036854775807) (hs : s.size ≤ 9223372036854775807) (hbig : 9223372036854775807 < s.size * c) :
    Calls Tryd.prog 12 #[.string s, .int .i64 c] w fun e w' => e = .panicked [{ v := repeatPanic Tryd.lays105_ren "strings: Repeat output length overflow", recovered := false }] ∧ w' = w := Any.strings_Repeat_overflow Tryd.lays105 s c w hc hs hbig
open Go.RowKit Go.Lib in
/-- **strings.Repeat: count ≥ 0, the result within one allocation: count copies of s.** (LAID: no walk: one application.) -/
theorem Tryd.strings_Repeat (s : ByteArray) (c : Nat) (w : World) (hc : c ≤ 9223372036854775807) (hlen : s.size * c ≤ 140737488355328) :
    Calls Tryd.prog 12 #[.string s, .int .i64 c] w fun e w' => e = .returned (.string ⟨(Lib.repeatL s.data.toList c).toArray⟩) ∧ Below w.heap.size w w' := Any.strings_Repeat Tryd.lays105 Tryd.Builder_Extra_105 s c w hc hlen
def Tryd.lays260_ren : Go.Shelf.Ren := ⟨fun | 260 => 87 | n => n, fun | 9 => 9 | 21 => 21 | 3 => 3 | 4 => 4 | 5 => 5 | 119 => 108 | 0 => 0 | 46 => 54 | 139 => 111 | 138 => 110 | n => n, fun | 3 => 1 | 4 => 2 | n => n⟩
theorem Tryd.lays260 : Go.Proofs.Lays.n260 Tryd.prog Tryd.lays260_ren := {
  mixed := by kernel_rfl
  f260 := Tryd.func87.trans (congrArg some (by kernel_rfl))
  t0 := Tryd.underlying0
  a0 := Tryd.isAgg0
  z0 := Tryd.sizeOf0
  v0 := Tryd.zeroValue0
  t3 := Tryd.underlying3
  a3 := Tryd.isAgg3
  z3 := Tryd.sizeOf3
  v3 := Tryd.zeroValue3
  t4 := Tryd.underlying4
  a4 := Tryd.isAgg4
  z4 := Tryd.sizeOf4
  v4 := Tryd.zeroValue4
  t5 := Tryd.underlying5
  a5 := Tryd.isAgg5
  z5 := Tryd.sizeOf5
  v5 := Tryd.zeroValue5
  t9 := Tryd.underlying9
  a9 := Tryd.isAgg9
  z9 := Tryd.sizeOf9
  v9 := Tryd.zeroValue9
  t21 := Tryd.underlying21
  a21 := Tryd.isAgg21
  z21 := Tryd.sizeOf21
  v21 := Tryd.zeroValue21
  t46 := Tryd.underlying54
  a46 := Tryd.isAgg54
  z46 := Tryd.sizeOf54
  v46 := Tryd.zeroValue54
  t119 := Tryd.underlying108
  a119 := Tryd.isAgg108
  z119 := Tryd.sizeOf108
  t138 := Tryd.underlying110
  a138 := Tryd.isAgg110
  z138 := Tryd.sizeOf110
  v138 := Tryd.zeroValue110
  t139 := Tryd.underlying111
  a139 := Tryd.isAgg111
  z139 := Tryd.sizeOf111
  v139 := Tryd.zeroValue111
  g3 := by kernel_rfl
  g4 := by kernel_rfl }
open Go.RowKit Go.Lib in
theorem Tryd.utf8_decodeRuneInStringSlow (s : ByteArray) (w : World) (hT : Lib.Utf8Tabs 1 2 w) :
    Calls Tryd.prog 87 #[.string s] w fun e w' => e = .returned (.tuple #[.int .i32 (Lib.decodeGo s).1, .int .i64 (Lib.decodeGo s).2]) ∧ Below w.heap.size w w' := Any.utf8_decodeRuneInStringSlow Tryd.lays260 s w hT
def Tryd.lays197_ren : Go.Shelf.Ren := ⟨fun | 197 => 74 | 260 => 87 | n => n, fun | 9 => 9 | 21 => 21 | 3 => 3 | 4 => 4 | 5 => 5 | 105 => 96 | 119 => 108 | 0 => 0 | 46 => 54 | 139 => 111 | 138 => 110 | n => n, fun | 3 => 1 | 4 => 2 | n => n⟩
theorem Tryd.lays197 : Go.Proofs.Lays.n197 Tryd.prog Tryd.lays197_ren := {
  mixed := by kernel_rfl
  f197 := Tryd.func74.trans (congrArg some (by kernel_rfl))
  f260 := Tryd.func87.trans (congrArg some (by kernel_rfl))
  t0 := Tryd.underlying0
  a0 := Tryd.isAgg0
  z0 := Tryd.sizeOf0
  v0 := Tryd.zeroValue0
  t3 := Tryd.underlying3
  a3 := Tryd.isAgg3
  z3 := Tryd.sizeOf3
  v3 := Tryd.zeroValue3
  t4 := Tryd.underlying4
  a4 := Tryd.isAgg4
  z4 := Tryd.sizeOf4
  v4 := Tryd.zeroValue4
  t5 := Tryd.underlying5
  a5 := Tryd.isAgg5
  z5 := Tryd.sizeOf5
  v5 := Tryd.zeroValue5
  t9 := Tryd.underlying9
  a9 := Tryd.isAgg9
  z9 := Tryd.sizeOf9
  v9 := Tryd.zeroValue9
  t21 := Tryd.underlying21
  a21 := Tryd.isAgg21
  z21 := Tryd.sizeOf21
  v21 := Tryd.zeroValue21
  t46 := Tryd.underlying54
  a46 := Tryd.isAgg54
  z46 := Tryd.sizeOf54
  v46 := Tryd.zeroValue54
  t105 := Tryd.underlying96
  a105 := Tryd.isAgg96
  z105 := Tryd.sizeOf96
  v105 := Tryd.zeroValue96
  t119 := Tryd.underlying108
  a119 := Tryd.isAgg108
  z119 := Tryd.sizeOf108
  t138 := Tryd.underlying110
  a138 := Tryd.isAgg110
  z138 := Tryd.sizeOf110
  v138 := Tryd.zeroValue110
  t139 := Tryd.underlying111
  a139 := Tryd.isAgg111
  z139 := Tryd.sizeOf111
  v139 := Tryd.zeroValue111
  g3 := by kernel_rfl
  g4 := by kernel_rfl }
open Go.RowKit Go.Lib in
/-- **unicode/utf8.DecodeRuneInString AT EVERY STRING.** (LAID: no walk: one application.) -/
theorem Tryd.utf8_DecodeRuneInString (s : ByteArray) (w : World) (hT : Lib.Utf8Tabs 1 2 w) :
    Calls Tryd.prog 74 #[.string s] w fun e w' => e = .returned (.tuple #[.int .i32 (Lib.decodeGo s).1, .int .i64 (Lib.decodeGo s).2]) ∧ Below w.heap.size w w' := Any.utf8_DecodeRuneInString Tryd.lays197 s w hT
def Tryd.lays271_ren : Go.Shelf.Ren := ⟨fun | 271 => 75 | 120 => 88 | 197 => 74 | 260 => 87 | n => n, fun | 9 => 9 | 21 => 21 | 3 => 3 | 4 => 4 | 5 => 5 | 105 => 96 | 119 => 108 | 0 => 0 | 46 => 54 | 139 => 111 | 138 => 110 | n => n, fun | 3 => 1 | 4 => 2 | n => n⟩
theorem Tryd.lays271 : Go.Proofs.Lays.n271 Tryd.prog Tryd.lays271_ren := {
  mixed := by kernel_rfl
  f120 := Tryd.func88.trans (congrArg some (by kernel_rfl))
  f197 := Tryd.func74.trans (congrArg some (by kernel_rfl))
  f260 := Tryd.func87.trans (congrArg some (by kernel_rfl))
  f271 := Tryd.func75.trans (congrArg some (by kernel_rfl))
  t0 := Tryd.underlying0
  a0 := Tryd.isAgg0
  z0 := Tryd.sizeOf0
  v0 := Tryd.zeroValue0
  t3 := Tryd.underlying3
  a3 := Tryd.isAgg3
  z3 := Tryd.sizeOf3
  v3 := Tryd.zeroValue3
  t4 := Tryd.underlying4
  a4 := Tryd.isAgg4
  z4 := Tryd.sizeOf4
  v4 := Tryd.zeroValue4
  t5 := Tryd.underlying5
  a5 := Tryd.isAgg5
  z5 := Tryd.sizeOf5
  v5 := Tryd.zeroValue5
  t9 := Tryd.underlying9
  a9 := Tryd.isAgg9
  z9 := Tryd.sizeOf9
  v9 := Tryd.zeroValue9
  t21 := Tryd.underlying21
  a21 := Tryd.isAgg21
  z21 := Tryd.sizeOf21
  v21 := Tryd.zeroValue21
  t46 := Tryd.underlying54
  a46 := Tryd.isAgg54
  z46 := Tryd.sizeOf54
  v46 := Tryd.zeroValue54
  t105 := Tryd.underlying96
  a105 := Tryd.isAgg96
  z105 := Tryd.sizeOf96
  v105 := Tryd.zeroValue96
  t119 := Tryd.underlying108
  a119 := Tryd.isAgg108
  z119 := Tryd.sizeOf108
  t138 := Tryd.underlying110
  a138 := Tryd.isAgg110
  z138 := Tryd.sizeOf110
  v138 := Tryd.zeroValue110
  t139 := Tryd.underlying111
  a139 := Tryd.isAgg111
  z139 := Tryd.sizeOf111
  v139 := Tryd.zeroValue111
  g3 := by kernel_rfl
  g4 := by kernel_rfl }
open Go.RowKit Go.Lib in
/-- **unicode/utf8.DecodeLastRuneInString AT EVERY STRING.** (LAID: no walk: one application.) -/
theorem Tryd.utf8_DecodeLastRuneInString (s : ByteArray) (w : World) (hs : s.size ≤ 9223372036854775807) (hT : Lib.Utf8Tabs 1 2 w) :
    Calls Tryd.prog 75 #[.string s] w fun e w' => e = .returned (.tuple #[.int .i32 (Lib.decodeLastL s.data.toList).1, .int .i64 (Lib.decodeLastL s.data.toList).2]) ∧ Below w.heap.size w w' := Any.utf8_DecodeLastRuneInString Tryd.lays271 s w hs hT
def Tryd.lays229_ren : Go.Shelf.Ren := ⟨fun | 229 => 56 | n => n, fun | 9 => 9 | 40 => 81 | 31 => 53 | 152 => 98 | 3 => 3 | 0 => 0 | 4 => 4 | 21 => 21 | 154 => 100 | n => n, fun | n => n⟩
theorem Tryd.lays229 : Go.Proofs.Lays.n229 Tryd.prog Tryd.lays229_ren := {
  mixed := by kernel_rfl
  f229 := Tryd.func56.trans (congrArg some (by kernel_rfl))
  t0 := Tryd.underlying0
  a0 := Tryd.isAgg0
  z0 := Tryd.sizeOf0
  v0 := Tryd.zeroValue0
  t3 := Tryd.underlying3
  a3 := Tryd.isAgg3
  z3 := Tryd.sizeOf3
  v3 := Tryd.zeroValue3
  t4 := Tryd.underlying4
  a4 := Tryd.isAgg4
  z4 := Tryd.sizeOf4
  v4 := Tryd.zeroValue4
  t9 := Tryd.underlying9
  a9 := Tryd.isAgg9
  z9 := Tryd.sizeOf9
  v9 := Tryd.zeroValue9
  t21 := Tryd.underlying21
  a21 := Tryd.isAgg21
  z21 := Tryd.sizeOf21
  v21 := Tryd.zeroValue21
  t31 := Tryd.underlying53
  a31 := Tryd.isAgg53
  z31 := Tryd.sizeOf53
  v31 := Tryd.zeroValue53
  t40 := Tryd.underlying81
  a40 := Tryd.isAgg81
  z40 := Tryd.sizeOf81
  v40 := Tryd.zeroValue81
  t152 := Tryd.underlying98
  a152 := Tryd.isAgg98
  z152 := Tryd.sizeOf98
  v152 := Tryd.zeroValue98
  t154 := Tryd.underlying100
  a154 := Tryd.isAgg100
  z154 := Tryd.sizeOf100
  v154 := Tryd.zeroValue100 }
open Go.RowKit Go.Lib in
theorem Tryd.strings_FieldsFunc_runes (g : Nat) (lb : Array Value) (eg : ∀ args w, (callFunc g args).run Tryd.prog w = .ok (.enter g args) w) (p : Nat → Bool) (s : ByteArray) (w : World) (hs : s.size ≤ 4294967296) (hp : PredAtRunes Tryd.prog g lb p w) :
    Calls Tryd.prog 56 #[.string s, .func (.func g) #[] lb] w fun e w' => ∃ A, e = .returned (.slice (some ⟨A, 0, none⟩) (Lib.goFieldsP p s).length (Lib.goFieldsP p s).length) ∧ w.heap.size ≤ A ∧
      w'.ownsRow w.heap.size 9 1 (.slice (some ⟨A, 0, none⟩) (Lib.goFieldsP p s).length (Lib.goFieldsP p s).length) (Lib.goFieldsP p s).length ((Lib.goFieldsP p s).map Value.string) ∧ Below w.heap.size w w' := Any.strings_FieldsFunc_runes Tryd.lays229 g lb eg p s w hs hp (by kernel_rfl) (by kernel_rfl)
open Go.RowKit Go.Lib in
/-- .. over a hand of the authors' house's premise as it stands. (LAID: no walk: one application.) -/
theorem Tryd.strings_FieldsFunc (g : Nat) (lb : Array Value) (eg : ∀ args w, (callFunc g args).run Tryd.prog w = .ok (.enter g args) w) (p : Nat → Bool) (s : ByteArray) (w : World) (hs : s.size ≤ 4294967296) (hp : PredAt Tryd.prog g lb encR p w) :
    Calls Tryd.prog 56 #[.string s, .func (.func g) #[] lb] w fun e w' => ∃ A, e = .returned (.slice (some ⟨A, 0, none⟩) (Lib.goFieldsP p s).length (Lib.goFieldsP p s).length) ∧ w.heap.size ≤ A ∧
      w'.ownsRow w.heap.size 9 1 (.slice (some ⟨A, 0, none⟩) (Lib.goFieldsP p s).length (Lib.goFieldsP p s).length) (Lib.goFieldsP p s).length ((Lib.goFieldsP p s).map Value.string) ∧ Below w.heap.size w w' := Any.strings_FieldsFunc Tryd.lays229 g lb eg p s w hs hp (by kernel_rfl) (by kernel_rfl)
open Go.RowKit Go.Lib in
theorem Tryd.strings_FieldsFunc_grows (g : Nat) (lb : Array Value) (eg : ∀ args w, (callFunc g args).run Tryd.prog w = .ok (.enter g args) w) (p : Nat → Bool) (s : ByteArray) (w : World) (hs : s.size ≤ 4294967296) (hp : PredGrows Tryd.prog g lb p w) :
    Calls Tryd.prog 56 #[.string s, .func (.func g) #[] lb] w fun e w' => ∃ A, e = .returned (.slice (some ⟨A, 0, none⟩) (Lib.goFieldsP p s).length (Lib.goFieldsP p s).length) ∧ w.heap.size ≤ A ∧
      w'.ownsRow w.heap.size 9 1 (.slice (some ⟨A, 0, none⟩) (Lib.goFieldsP p s).length (Lib.goFieldsP p s).length) (Lib.goFieldsP p s).length ((Lib.goFieldsP p s).map Value.string) ∧ Below w.heap.size w w' := Any.strings_FieldsFunc_grows Tryd.lays229 g lb eg p s w hs hp (by kernel_rfl) (by kernel_rfl)
theorem Tryd.strings_Trim_ascii (s cutset : ByteArray) (w : World) (hs : s.size ≤ 9223372036854775807) (hcs : cutset.size < 4294967281) (hascii : ∀ (j : Nat) b, cutset.data.toList[j]? = some b → b.toNat < 128) :
    Calls Tryd.prog 16 #[.string s, .string cutset] w fun e w' => e = .returned (.string ⟨(Lib.trimS s.data.toList cutset.data.toList).toArray⟩) ∧ Go.RowKit.Below w.heap.size w w' := Any.strings_Trim_laid Tryd.lays160 (by kernel_rfl) s cutset w hs hcs hascii
end Go.Proofs

/- lower, upper, the reference's lower (a closure) and without: their walks. No condition. -/
set_option linter.unusedVariables false
set_option linter.unusedSimpArgs false
namespace Go.Nrm
open Go Go.RowKit Go.Proofs

def iv : Value → Int
  | .int _ n => n
  | _ => 0
/-- Byte j of a string, as a number. -/
def bn (s : ByteArray) (j : Nat) : UInt8 := s.data.toList.getD j 0
def mapS (f : UInt8 → UInt8) (s : ByteArray) : ByteArray := ⟨(s.data.toList.map f).toArray⟩
def isCap (c : UInt8) : Bool := decide (65 ≤ c.toNat) && decide (c.toNat ≤ 90)
def isSm (c : UInt8) : Bool := decide (97 ≤ c.toNat) && decide (c.toNat ≤ 122)
def lowU (c : UInt8) : UInt8 := if isCap c = true then c + 32 else c
def upU (c : UInt8) : UInt8 := if isSm c = true then c - 32 else c
/-- The row while it is being rewritten: its first k bytes are. -/
def Mixed (f : UInt8 → UInt8) (s : ByteArray) (g k : Nat) (w : World) : Prop := ∀ j, j < s.size → w.cell? ⟨g, j, none⟩ = some (.int .u8 ((if j < k then f (bn s j) else bn s j).toNat : Int)) ∧ w.frozen? ⟨g, j, none⟩ = false
theorem Mixed.start (f : UInt8 → UInt8) (w : World) (e : TypeId) (s : ByteArray) : Mixed f s w.heap.size 0 (Lib.bytesWorld w e s) := fun j hj => by
  refine ⟨?_, ?_⟩
  · rw [Lib.bytesWorld_cell w e s j hj]
    simp [bn]
  · unfold World.frozen?
    rw [Lib.bytesWorld_at_new]
    have h1 : s.size ≤ (Lib.bytesCells w e s).size := by
      unfold Lib.bytesCells
      rw [Array.size_append, Array.size_map]
      have : s.data.size = s.size := rfl
      omega
    simp
    try omega
theorem Mixed.skip {f : UInt8 → UInt8} {s : ByteArray} {g k : Nat} {w : World} (h : Mixed f s g k w) (hf : f (bn s k) = bn s k) : Mixed f s g (k + 1) w := fun j hj => by
  refine ⟨?_, (h j hj).2⟩
  rw [(h j hj).1]
  by_cases h1 : j < k
  · rw [if_pos h1, if_pos (by omega)]
  · rw [if_neg h1]
    by_cases h2 : j = k
    · subst h2
      rw [if_pos (by omega), hf]
    · rw [if_neg (by omega)]
theorem Mixed.put {f : UInt8 → UInt8} {s : ByteArray} {g k : Nat} {w : World} (h : Mixed f s g k w) (hk : k < s.size) : Mixed f s g (k + 1) (w.setCell ⟨g, k, none⟩ (.int .u8 ((f (bn s k)).toNat : Int))) := fun j hj => by
  refine ⟨?_, by simp [(h j hj).2]⟩
  by_cases h2 : j = k
  · subst h2
    rw [World.cell?_setCell_same w ⟨g, j, none⟩ _ (h j hj).1, if_pos (by omega)]
  · rw [World.cell?_setCell_other w ⟨g, k, none⟩ ⟨g, j, none⟩ _ (by simp <;> omega), (h j hj).1]
    by_cases h1 : j < k
    · rw [if_pos h1, if_pos (by omega)]
    · rw [if_neg h1, if_neg (by omega)]
theorem Mixed.back {f : UInt8 → UInt8} {s : ByteArray} {g cap : Nat} {w : World} {P : Program} {src dst e : TypeId} (h : Mixed f s g s.size w) (hs : P.underlying src = some (.slice e)) (he : P.underlying e = some (.int .u8)) (hd : P.underlying dst = some .string) :
    (convert src dst (.slice (some ⟨g, 0, none⟩) s.size cap)).run P w = .ok (.string (mapS f s)) w := by
  have hl : (s.data.toList.map f).length = s.size := by rw [List.length_map, Array.length_toList]; rfl
  have := run_convert_bytes_back (P := P) w src dst e ⟨g, 0, none⟩ cap (s.data.toList.map f) hs he hd (fun j hj => by
    rw [hl] at hj
    have h1 := (h j hj).1
    rw [if_pos hj] at h1
    have h2 : (⟨g, 0, none⟩ : Addr).add j = ⟨g, j, none⟩ := by simp [Addr.add]; omega
    rw [h2, h1]
    simp [bn, List.getD, List.getElem?_eq_getElem (show j < s.data.toList.length by rw [Array.length_toList]; exact hj)])
  rw [hl] at this
  exact this
theorem below_bytes (w : World) (e : TypeId) (s : ByteArray) : RowKit.Below w.heap.size w (Lib.bytesWorld w e s) := ⟨rfl, rfl, rfl, by rw [Lib.bytesWorld_size]; omega, fun j hj => Lib.bytesWorld_at_old w e s j hj⟩
theorem low_put {c : UInt8} (h : isCap c = true) : ((c.toNat : Int) + 97 - 65) % 256 = ((lowU c).toNat : Int) := by
  unfold lowU
  rw [if_pos h]
  unfold isCap at h
  rw [Bool.and_eq_true, decide_eq_true_eq, decide_eq_true_eq] at h
  rw [UInt8.toNat_add]
  have : (32 : UInt8).toNat = 32 := rfl
  omega
theorem up_put {c : UInt8} (h : isSm c = true) : ((c.toNat : Int) + 65 - 97) % 256 = ((upU c).toNat : Int) := by
  unfold upU
  rw [if_pos h]
  unfold isSm at h
  rw [Bool.and_eq_true, decide_eq_true_eq, decide_eq_true_eq] at h
  rw [UInt8.toNat_sub_of_le _ _ (by rw [UInt8.le_iff_toNat_le]; exact Nat.le_trans (by decide : (32 : UInt8).toNat ≤ 97) h.1)]
  have : (32 : UInt8).toNat = 32 := rfl
  omega

theorem capital_walk (c : UInt8) (w : World) : Calls Tryd.prog 47 #[.int .u8 (c.toNat : Int)] w fun e w' => e = .returned (.bool (isCap c)) ∧ w' = w := by
  go_enter Tryd.func47, Tryd.ntmps47
  by_cases h1 : (65 : Int) ≤ (c.toNat : Int)
  · have h1' : decide (65 ≤ c.toNat) = true := by simp; omega
    go_wp2
    go_ret
    simp [isCap, h1']
    try omega
  · have h1' : decide (65 ≤ c.toNat) = false := by simp; omega
    go_wp2
    go_ret
    simp [isCap, h1']

theorem small_walk (c : UInt8) (w : World) : Calls Tryd.prog 48 #[.int .u8 (c.toNat : Int)] w fun e w' => e = .returned (.bool (isSm c)) ∧ w' = w := by
  go_enter Tryd.func48, Tryd.ntmps48
  by_cases h1 : (97 : Int) ≤ (c.toNat : Int)
  · have h1' : decide (97 ≤ c.toNat) = true := by simp; omega
    go_wp2
    go_ret
    simp [isSm, h1']
    try omega
  · have h1' : decide (97 ≤ c.toNat) = false := by simp; omega
    go_wp2
    go_ret
    simp [isSm, h1']

set_option maxHeartbeats 2000000 in
set_option maxRecDepth 100000 in
theorem lower_walk (s : ByteArray) (w : World) (hs : s.size ≤ 4000000000) :
    Calls Tryd.prog 18 #[.string s] w fun e w' => e = .returned (.string (mapS lowU s)) ∧ RowKit.Below w.heap.size w w' := by
  have hconv := Lib.run_convert_string_bytes (P := Tryd.prog) w 9 46 5 s Tryd.underlying9 Tryd.underlying46 Tryd.underlying5
  go_enter Tryd.func18, Tryd.ntmps18
  go_wp2
  go_loopw [10] (fun i wr => ∃ k : Nat, k ≤ s.size ∧ i = .int .i64 (k : Int) ∧ RowKit.Below w.heap.size w wr ∧ Mixed lowU s w.heap.size k wr) (fun i _ => s.size - (iv i).toNat)
  case atStart => exact ⟨0, Nat.zero_le _, rfl, below_bytes w _ s, Mixed.start _ w _ s⟩
  case round =>
    obtain ⟨k, hk, rfl, hb, hm⟩ := hrel
    by_cases hlt : k < s.size
    · have hc := (hm k hlt).1
      have hz := (hm k hlt).2
      rw [if_neg (Nat.lt_irrefl k)] at hc
      have e1 : IntKind.i64.wrap ((k : Int) + 1) = ((k + 1 : Nat) : Int) := by rw [IntWalk.i64_in _ (by omega)]; omega
      by_cases hcap : isCap (bn s k) = true
      · have hp := low_put hcap
        go_wp2_with (go_at_call 47; refine (capital_walk _ _).mono ?_; rintro e w' ⟨rfl, rfl⟩)
        go_roundw
        case rel => exact ⟨k + 1, by omega, by simp, hb.setCell (Nat.le_refl _) _, hp ▸ hm.put hlt⟩
        case measure => simp [iv] <;> omega
      · go_wp2_with (go_at_call 47; refine (capital_walk _ _).mono ?_; rintro e w' ⟨rfl, rfl⟩)
        go_roundw
        case rel => exact ⟨k + 1, by omega, by simp, hb, hm.skip (by unfold lowU; rw [if_neg hcap])⟩
        case measure => simp [iv] <;> omega
    · obtain rfl : k = s.size := by omega
      have hback := hm.back (cap := grownCap w s.size 0 5) (P := Tryd.prog) Tryd.underlying46 Tryd.underlying5 Tryd.underlying9
      go_wp2
      go_ret
      exact ⟨rfl, hb⟩
set_option maxHeartbeats 2000000 in
set_option maxRecDepth 100000 in
theorem upper_walk (s : ByteArray) (w : World) (hs : s.size ≤ 4000000000) :
    Calls Tryd.prog 21 #[.string s] w fun e w' => e = .returned (.string (mapS upU s)) ∧ RowKit.Below w.heap.size w w' := by
  have hconv := Lib.run_convert_string_bytes (P := Tryd.prog) w 9 46 5 s Tryd.underlying9 Tryd.underlying46 Tryd.underlying5
  go_enter Tryd.func21, Tryd.ntmps21
  go_wp2
  go_loopw [10] (fun i wr => ∃ k : Nat, k ≤ s.size ∧ i = .int .i64 (k : Int) ∧ RowKit.Below w.heap.size w wr ∧ Mixed upU s w.heap.size k wr) (fun i _ => s.size - (iv i).toNat)
  case atStart => exact ⟨0, Nat.zero_le _, rfl, below_bytes w _ s, Mixed.start _ w _ s⟩
  case round =>
    obtain ⟨k, hk, rfl, hb, hm⟩ := hrel
    by_cases hlt : k < s.size
    · have hc := (hm k hlt).1
      have hz := (hm k hlt).2
      rw [if_neg (Nat.lt_irrefl k)] at hc
      have e1 : IntKind.i64.wrap ((k : Int) + 1) = ((k + 1 : Nat) : Int) := by rw [IntWalk.i64_in _ (by omega)]; omega
      by_cases hcap : isSm (bn s k) = true
      · have hp := up_put hcap
        go_wp2_with (go_at_call 48; refine (small_walk _ _).mono ?_; rintro e w' ⟨rfl, rfl⟩)
        go_roundw
        case rel => exact ⟨k + 1, by omega, by simp, hb.setCell (Nat.le_refl _) _, hp ▸ hm.put hlt⟩
        case measure => simp [iv] <;> omega
      · go_wp2_with (go_at_call 48; refine (small_walk _ _).mono ?_; rintro e w' ⟨rfl, rfl⟩)
        go_roundw
        case rel => exact ⟨k + 1, by omega, by simp, hb, hm.skip (by unfold upU; rw [if_neg hcap])⟩
        case measure => simp [iv] <;> omega
    · obtain rfl : k = s.size := by omega
      have hback := hm.back (cap := grownCap w s.size 0 5) (P := Tryd.prog) Tryd.underlying46 Tryd.underlying5 Tryd.underlying9
      go_wp2
      go_ret
      exact ⟨rfl, hb⟩
end Go.Nrm

/- What strings.FieldsFunc's pieces are when put together; small letters, capitals, bytes left out: plain laws. No condition. -/
set_option linter.unusedVariables false
set_option linter.unusedSimpArgs false
namespace Go.Avc
open Go

def pcN (L : List UInt8) (a b : Nat) : List UInt8 := (L.drop a).take (b - a)
def opN (L : List UInt8) (st : Option Nat) (pos : Nat) : List UInt8 := match st with
  | some a => pcN L a pos
  | none => []
theorem dec_hi (n b0 b1 b2 b3 : Nat) (hn : 1 ≤ n) (hb : ¬ b0 < 128) (h0 : b0 < 256) : 128 ≤ (Lib.decodeN n b0 b1 b2 b3).1 ∧ 1 ≤ (Lib.decodeN n b0 b1 b2 b3).2 ∧ (Lib.decodeN n b0 b1 b2 b3).2 ≤ n ∧ (Lib.decodeN n b0 b1 b2 b3).2 ≤ 4 ∧
    (2 ≤ (Lib.decodeN n b0 b1 b2 b3).2 → 128 ≤ b1) ∧ (3 ≤ (Lib.decodeN n b0 b1 b2 b3).2 → 128 ≤ b2) ∧ (4 ≤ (Lib.decodeN n b0 b1 b2 b3).2 → 128 ≤ b3) := by
  unfold Lib.decodeN
  repeat' split
  all_goals (simp only; omega)
theorem dec_lo (n b0 b1 b2 b3 : Nat) (hb : b0 < 128) : Lib.decodeN n b0 b1 b2 b3 = (b0, 1) := by
  unfold Lib.decodeN
  rw [if_pos hb]
theorem pc_grow (L : List UInt8) {a pos : Nat} (k : Nat) (h : a ≤ pos) : pcN L a (pos + k) = pcN L a pos ++ (L.drop pos).take k := by
  unfold pcN
  rw [show pos + k - a = (pos - a) + k by omega, List.take_add, List.drop_drop, show a + (pos - a) = pos by omega]
theorem drop_cons (L : List UInt8) {pos : Nat} (h : pos < L.length) : L.drop pos = L.getD pos 0 :: L.drop (pos + 1) := by
  rw [List.drop_eq_getElem_cons h]
  congr 1
  simp [List.getD, List.getElem?_eq_getElem h]
theorem spans_succ (p : Nat → Bool) (s : ByteArray) (f pos : Nat) (st : Option Nat) (acc : List (Nat × Nat)) (h : pos < s.size) : Lib.spansFromP p s (f + 1) pos st acc =
    if p (Utf8.decode s pos).1 = true then (match st with
      | some a => Lib.spansFromP p s f (pos + (Utf8.decode s pos).2) none (acc ++ [(a, pos)])
      | none => Lib.spansFromP p s f (pos + (Utf8.decode s pos).2) none acc)
    else (match st with
      | some a => Lib.spansFromP p s f (pos + (Utf8.decode s pos).2) (some a) acc
      | none => Lib.spansFromP p s f (pos + (Utf8.decode s pos).2) (some pos) acc) := by
  conv => lhs; unfold Lib.spansFromP
  rw [if_pos h]
  cases st <;> rfl
theorem cat_spans (p : Nat → Bool) (hp : ∀ r, 128 ≤ r → p r = false) (s : ByteArray) : ∀ (f pos : Nat) (st : Option Nat) (acc : List (Nat × Nat)), s.size ≤ pos + f → pos ≤ s.size → (∀ a, st = some a → a ≤ pos) →
    ((Lib.closeSpans s (Lib.spansFromP p s f pos st acc)).flatMap fun x => pcN s.data.toList x.1 x.2) = ((acc.flatMap fun x => pcN s.data.toList x.1 x.2) ++ opN s.data.toList st pos) ++ (s.data.toList.drop pos).filter fun c => !p c.toNat
  | 0, pos, st, acc, h, hps, hst => by
    have hl : s.data.toList.length = s.size := Array.length_toList
    obtain rfl : pos = s.size := by omega
    rw [List.drop_eq_nil_of_le (by omega), List.filter_nil, List.append_nil]
    cases st with
    | none => simp [Lib.spansFromP, Lib.closeSpans, opN]
    | some a => simp [Lib.spansFromP, Lib.closeSpans, opN]
  | f + 1, pos, st, acc, h, hps, hst => by
    have hl : s.data.toList.length = s.size := Array.length_toList
    by_cases hlt : pos < s.size
    · rw [spans_succ _ _ _ _ _ _ hlt, Lib.decode_N]
      by_cases hb : (s.data.toList.getD pos 0).toNat < 128
      · rw [dec_lo _ _ _ _ _ hb, drop_cons _ (by omega : pos < s.data.toList.length)]
        have h1 : (s.data.toList.drop pos).take 1 = [s.data.toList.getD pos 0] := by
          rw [drop_cons _ (by omega : pos < s.data.toList.length)]
          rfl
        by_cases hpb : p (s.data.toList.getD pos 0).toNat = true
        · rw [if_pos hpb, List.filter_cons_of_neg (by show ¬ (!p _) = true; rw [hpb]; decide)]
          cases st with
          | some a => rw [cat_spans p hp s f _ _ _ (by simp only; omega) (by simp only; omega) (fun a h => by cases h)]; simp [opN]
          | none => rw [cat_spans p hp s f _ _ _ (by simp only; omega) (by simp only; omega) (fun a h => by cases h)]; simp [opN]
        · rw [if_neg hpb, List.filter_cons_of_pos (by show (!p _) = true; rw [Bool.not_eq_true] at hpb; rw [hpb]; rfl)]
          cases st with
          | some a =>
            have := hst a rfl
            rw [cat_spans p hp s f _ _ _ (by simp only; omega) (by simp only; omega) (fun b h => by cases h; simp only; omega)]
            simp only [opN]
            rw [pc_grow _ 1 this, h1]
            simp
          | none =>
            rw [cat_spans p hp s f _ _ _ (by simp only; omega) (by simp only; omega) (fun b h => by cases h; simp only; omega)]
            simp only [opN]
            rw [pc_grow _ 1 (Nat.le_refl _), h1]
            simp [pcN]
      · have hd := dec_hi (s.data.toList.length - pos) (s.data.toList.getD pos 0).toNat (s.data.toList.getD (pos + 1) 0).toNat (s.data.toList.getD (pos + 2) 0).toNat (s.data.toList.getD (pos + 3) 0).toNat (by omega) hb (UInt8.toNat_lt _)
        generalize Lib.decodeN (s.data.toList.length - pos) (s.data.toList.getD pos 0).toNat (s.data.toList.getD (pos + 1) 0).toNat (s.data.toList.getD (pos + 2) 0).toNat (s.data.toList.getD (pos + 3) 0).toNat = d at hd ⊢
        obtain ⟨r, k⟩ := d
        obtain ⟨h1, h2, h3, h4, h5, h6, h7⟩ := hd
        simp only at h1 h2 h3 h4 h5 h6 h7
        simp only [hp r h1, Bool.false_eq_true, if_false]
        have hsp : s.data.toList.drop pos = (s.data.toList.drop pos).take k ++ s.data.toList.drop (pos + k) := by
          rw [← List.drop_drop, List.take_append_drop]
        have hall : ∀ c ∈ (s.data.toList.drop pos).take k, (fun c : UInt8 => !p c.toNat) c = true := by
          intro c hc
          obtain ⟨j, hj, rfl⟩ := List.mem_iff_getElem.1 hc
          rw [List.length_take, List.length_drop] at hj
          rw [List.getElem_take, List.getElem_drop]
          have hg : s.data.toList[pos + j]'(by omega) = s.data.toList.getD (pos + j) 0 := by simp [List.getD, List.getElem?_eq_getElem (show pos + j < s.data.toList.length by omega)]
          rw [hg]
          have : 128 ≤ (s.data.toList.getD (pos + j) 0).toNat := by
            rcases j with _ | _ | _ | _ | j
            · simpa using hb
            · exact h5 (by omega)
            · exact h6 (by omega)
            · exact h7 (by omega)
            · omega
          simp only
          rw [hp _ this]
          rfl
        rw [hsp, List.filter_append, List.filter_eq_self.2 hall]
        cases st with
        | some a =>
          have := hst a rfl
          rw [cat_spans p hp s f _ _ _ (by omega) (by omega) (fun b h => by cases h; omega)]
          simp only [opN]
          rw [pc_grow _ k this]
          simp
        | none =>
          rw [cat_spans p hp s f _ _ _ (by omega) (by omega) (fun b h => by cases h; omega)]
          simp only [opN]
          rw [pc_grow _ k (Nat.le_refl _)]
          simp [pcN]
    · rw [Lib.spansFromP_end _ _ _ _ _ _ hlt]
      obtain rfl : pos = s.size := by omega
      rw [List.drop_eq_nil_of_le (by omega), List.filter_nil, List.append_nil]
      cases st with
      | none => simp [Lib.closeSpans, opN]
      | some a => simp [Lib.closeSpans, opN]
theorem spans_len (p : Nat → Bool) (s : ByteArray) : ∀ (f pos : Nat) (st : Option Nat) (acc : List (Nat × Nat)), (Lib.spansFromP p s f pos st acc).1.length ≤ acc.length + f
  | 0, pos, st, acc => by simp [Lib.spansFromP]
  | f + 1, pos, st, acc => by
    by_cases h : pos < s.size
    · rw [spans_succ p s f pos st acc h]
      split
      · cases st with
        | some a => exact Nat.le_trans (spans_len p s f _ _ _) (by simp; omega)
        | none => exact Nat.le_trans (spans_len p s f _ _ _) (by omega)
      · cases st with
        | some a => exact Nat.le_trans (spans_len p s f _ _ _) (by omega)
        | none => exact Nat.le_trans (spans_len p s f _ _ _) (by omega)
    · rw [Lib.spansFromP_end _ _ _ _ _ _ h]
      simp
theorem fields_len (p : Nat → Bool) (s : ByteArray) : (Lib.goFieldsP p s).length ≤ s.size + 1 := by
  unfold Lib.goFieldsP Lib.spansOfP Lib.closeSpans
  rw [List.length_map]
  have := spans_len p s s.size 0 none []
  split
  · simp at this ⊢; omega
  · simp at this ⊢; omega
/-- The pieces, put together: the bytes that stay. -/
theorem fields_cat (p : Nat → Bool) (hp : ∀ r, 128 ≤ r → p r = false) (s : ByteArray) : ((Lib.goFieldsP p s).map fun x => x.data.toList).flatten = s.data.toList.filter fun c => !p c.toNat := by
  have h := cat_spans p hp s s.size 0 none [] (by omega) (Nat.zero_le _) (fun a h => by cases h)
  simp only [opN, List.flatMap_nil, List.append_nil, List.nil_append, List.drop_zero] at h
  rw [← h]
  unfold Lib.goFieldsP Lib.spansOfP
  rw [List.map_map, ← List.flatMap_def]
  congr 1
  funext x
  simp [pcN, ByteArray.data_extract]
end Go.Avc

/- The reference's 'first': its walk. No condition. -/
set_option linter.unusedVariables false
set_option linter.unusedSimpArgs false
namespace Go.Avc
open Go Go.RowKit Go.Proofs

end Go.Avc

/- The reference's closure that maps bytes, and the reference's without: their walks. No condition. -/
set_option linter.unusedVariables false
set_option linter.unusedSimpArgs false
namespace Go.Nrm
open Go Go.RowKit Go.Proofs

theorem ix_range (l : List UInt8) (c : UInt8) : Lib.indexByte l c = -1 ∨ (0 ≤ Lib.indexByte l c ∧ Lib.indexByte l c < l.length) := by
  induction l with
  | nil => exact .inl rfl
  | cons b r ih =>
    unfold Lib.indexByte
    split
    · right; simp only [List.length_cons]; omega
    · split
      · exact .inl rfl
      · rename_i h
        right
        rw [beq_iff_eq] at h
        rcases ih with h1 | ⟨h1, h2⟩
        · exact absurd h1 h
        · simp only [List.length_cons]; omega
def trU (fr tt : ByteArray) (c : UInt8) : UInt8 := if 0 ≤ Lib.indexByte fr.data.toList c then bn tt (Lib.indexByte fr.data.toList c).toNat else c

set_option maxHeartbeats 4000000 in
set_option maxRecDepth 100000 in
theorem map_walk (fr tt s : ByteArray) (b o : Nat) (w : World) (hb0 : b < w.heap.size) (hc0 : w.cell? ⟨b, o, none⟩ = some (.string s)) (hs : s.size ≤ 4000000000) (hft : fr.size ≤ tt.size) :
    Calls Tryd.prog 25 #[.string fr, .string tt, .pointer (some ⟨b, o, none⟩)] w fun e w' => e = .returned (.string (mapS (trU fr tt) s)) ∧ RowKit.Below w.heap.size w w' := by
  have hconv := Lib.run_convert_string_bytes (P := Tryd.prog) w 9 46 5 s Tryd.underlying9 Tryd.underlying46 Tryd.underlying5
  go_enter Tryd.func25, Tryd.ntmps25
  go_wp2
  go_loopw [14] (fun i wr => ∃ k : Nat, k ≤ s.size ∧ i = .int .i64 (k : Int) ∧ RowKit.Below w.heap.size w wr ∧ Mixed (trU fr tt) s w.heap.size k wr) (fun i _ => s.size - (iv i).toNat)
  case atStart => exact ⟨0, Nat.zero_le _, rfl, below_bytes w _ s, Mixed.start _ w _ s⟩
  case round =>
    obtain ⟨k, hk, rfl, hb, hm⟩ := hrel
    by_cases hlt : k < s.size
    · have hc := (hm k hlt).1
      have hz := (hm k hlt).2
      rw [if_neg (Nat.lt_irrefl k)] at hc
      have e1 : IntKind.i64.wrap ((k : Int) + 1) = ((k + 1 : Nat) : Int) := by rw [IntWalk.i64_in _ (by omega)]; omega
      have hcc : ((((bn s k).toNat : Int)).toNat).toUInt8 = bn s k := by simp
      have hix : ∀ W : World, Calls Tryd.prog 26 #[.string fr, .int .u8 ((bn s k).toNat : Int)] W fun e w' => e = .returned (.int .i64 (Lib.indexByte fr.data.toList (bn s k))) ∧ w' = W := fun W => by
        have := Tryd.strings_IndexByte fr ((bn s k).toNat : Int) W
        rw [hcc] at this
        exact this
      rcases ix_range fr.data.toList (bn s k) with h1 | ⟨h1, h2⟩
      · rw [h1] at hix
        go_wp2_with (go_at_call 26; refine (hix _).mono ?_; rintro e w' ⟨rfl, rfl⟩)
        go_roundw
        case rel => exact ⟨k + 1, by omega, by simp, hb, hm.skip (by unfold trU; rw [h1]; rfl)⟩
        case measure => simp [iv] <;> omega
      · obtain ⟨m, hm1⟩ : ∃ m : Nat, Lib.indexByte fr.data.toList (bn s k) = (m : Int) := ⟨_, (Int.toNat_of_nonneg h1).symm⟩
        have hmt : m < tt.size := by
          have : fr.data.toList.length = fr.size := Array.length_toList
          omega
        have htr : trU fr tt (bn s k) = bn tt m := by
          unfold trU
          rw [hm1, if_pos (by omega), Int.toNat_natCast]
        rw [hm1] at hix
        have hput := hm.put hlt
        rw [htr] at hput
        have hbn : bn tt m = tt[m] := by
          unfold bn
          simp [List.getD, List.getElem?_eq_getElem (show m < tt.data.toList.length by rw [Array.length_toList]; exact hmt)]
          rfl
        rw [hbn] at hput
        go_wp2_with (go_at_call 26; refine (hix _).mono ?_; rintro e w' ⟨rfl, rfl⟩)
        go_roundw
        case rel => exact ⟨k + 1, by omega, by simp, hb.setCell (Nat.le_refl _) _, hput⟩
        case measure => simp [iv] <;> omega
    · obtain rfl : k = s.size := by omega
      have hback := hm.back (cap := grownCap w s.size 0 5) (P := Tryd.prog) Tryd.underlying46 Tryd.underlying5 Tryd.underlying9
      go_wp2
      go_ret
      exact ⟨rfl, hb⟩

def inSet (b : ByteArray) (x : Nat) : Bool := decide (x < 128) && decide (0 ≤ Lib.indexByte b.data.toList x.toUInt8)
theorem pred_walk (b : ByteArray) (B : Nat) (w : World) (hB : B < w.heap.size) (hc : w.cell? ⟨B, 0, none⟩ = some (.string b)) : PredGrows Tryd.prog 57 #[.pointer (some ⟨B, 0, none⟩)] (inSet b) w := fun W r hr hb => by
  have hc' : W.cell? ⟨B, 0, none⟩ = some (.string b) := (hb.cell (p := ⟨B, 0, none⟩) hB).trans hc
  show Calls Tryd.prog 57 #[.int .i32 (r : Int), .pointer (some ⟨B, 0, none⟩)] W _
  go_enter Tryd.func57, Tryd.ntmps57
  by_cases h1 : r < 128
  · have h1' : ((r : Int) < 128) := by omega
    have hcr := Tryd.strings_ContainsRune_ascii b (r : Int) W (by omega) h1'
    rw [Int.toNat_natCast] at hcr
    go_wp2_with (go_at_call 58; refine hcr.mono ?_; rintro e w' ⟨rfl, rfl⟩)
    go_ret
    exact ⟨by simp [inSet, h1], Below.refl _ _⟩
  · have h1' : ¬ ((r : Int) < 128) := by omega
    go_wp2
    go_ret
    exact ⟨by simp [inSet, h1], Below.refl _ _⟩
def woS (b s : ByteArray) : ByteArray := ⟨(s.data.toList.filter fun c => !inSet b c.toNat).toArray⟩
theorem join_nil : ∀ l : List (List UInt8), Lib.join l [] = l.flatten := by
  intro l
  induction l with
  | nil => rfl
  | cons x r ih => cases r <;> simp_all [Lib.join]
theorem own_cells {w : World} {B e A n c : Nat} {xs : List Value} (h : w.ownsRow B e 1 (.slice (some ⟨A, 0, none⟩) n c) n xs) (j : Nat) (x : Value) (hx : xs[j]? = some x) : w.cell? ⟨A, 0 + j, none⟩ = some x := by
  obtain ⟨h1, h2⟩ := h
  rcases h2 with ⟨h2, _⟩ | ⟨g, cap, cur, h2, h3, h4, h5, h6, h7, h8⟩
  · cases h2
  · simp only [Value.slice.injEq, Option.some.injEq, Addr.mk.injEq, and_true] at h2
    obtain ⟨rfl, _, rfl⟩ := h2
    unfold World.cell?
    rw [h4]
    rw [← h8, List.getElem?_take] at hx
    split at hx
    · simpa using hx
    · cases hx
set_option maxHeartbeats 4000000 in
set_option maxRecDepth 100000 in
theorem wo_walk (b s : ByteArray) (w : World) (hs : s.size ≤ 4000000000) :
    Calls Tryd.prog 27 #[.string s, .string b] w fun e w' => e = .returned (.string (woS b s)) ∧ RowKit.Below w.heap.size w w' := by
  have hbx : (w.alloc (.cells #[.string b] 9)).cell? ⟨w.heap.size, 0, none⟩ = some (.string b) := by simp
  have hsz : (w.alloc (.cells #[.string b] 9)).heap.size = w.heap.size + 1 := by simp
  have hff := Tryd.strings_FieldsFunc_grows 57 #[.pointer (some ⟨w.heap.size, 0, none⟩)] (enters_of Tryd.func57 (by kernel_rfl) rfl) (inSet b) s (w.alloc (.cells #[.string b] 9)) (by omega) (pred_walk b w.heap.size _ (by omega) hbx)
  go_enter Tryd.func27, Tryd.ntmps27
  go_wp2_with (go_at_call 56; refine hff.mono ?_; rintro e w' ⟨A, rfl, hA, hown, hbl⟩)
  have hcat := Avc.fields_cat (inSet b) (fun r hr => by simp [inSet]; omega) s
  have hlen := Avc.fields_len (inSet b) s
  have hAlt : A < w'.heap.size := (hown.lt A rfl).2
  have hjn : Lib.join ((Lib.goFieldsP (inSet b) s).map (·.data.toList)) (⟨#[]⟩ : ByteArray).data.toList = s.data.toList.filter fun c => !inSet b c.toNat := (join_nil _).trans hcat
  have hj := Tryd.strings_Join A 0 (Lib.goFieldsP (inSet b) s).length (Lib.goFieldsP (inSet b) s) ⟨#[]⟩ w' (fun j x hx => own_cells hown j (.string x) (by rw [List.getElem?_map, hx]; rfl)) hAlt (by omega) (Nat.le_refl _) (by
    rw [hjn]
    have h1 := List.length_filter_le (fun c : UInt8 => !inSet b c.toNat) s.data.toList
    have h2 : s.data.toList.length = s.size := Array.length_toList
    omega)
  rw [hjn] at hj
  have hb1 : RowKit.Below w.heap.size w w' := ((Below.refl _ w).alloc (Nat.le_refl _) _).trans (hbl.mono (by omega))
  go_wp2_with (go_at_call 55; refine hj.mono ?_; rintro e w2 ⟨rfl, hb2⟩)
  go_ret
  exact ⟨rfl, hb1.trans (hb2.mono hb1.size)⟩
end Go.Nrm

/- Strings as lists of numbers. No condition. -/
set_option linter.unusedVariables false
set_option linter.unusedSimpArgs false
namespace Go.Avc
open Go

/-- A string's bytes, as numbers. -/
def bl (s : ByteArray) : List Int := s.data.toList.map fun b => (b.toNat : Int)
/-- Numbers that are bytes. -/
def isBs (l : List Int) : Prop := ∀ x ∈ l, 0 ≤ x ∧ x ≤ 255
theorem bl_length (s : ByteArray) : (bl s).length = s.size := by
  unfold bl
  rw [List.length_map, Array.length_toList]
  rfl
theorem bl_bs (s : ByteArray) : isBs (bl s) := by
  intro x hx
  obtain ⟨b, _, rfl⟩ := List.mem_map.1 hx
  have := b.toNat_lt
  omega
theorem bt_bl (s : ByteArray) (i : Int) : bt s i = (bl s).getD i.toNat 0 := by
  unfold bt bl
  rw [List.getD_eq_getElem?_getD, List.getD_eq_getElem?_getD, List.getElem?_map]
  cases s.data.toList[i.toNat]? <;> rfl
theorem bl_extract (s : ByteArray) (a b : Nat) : bl (s.extract a b) = ((bl s).take b).drop a := by
  unfold bl
  rw [ByteArray.data_extract, Array.toList_extract, List.extract_eq_take_drop, ← List.map_take, ← List.map_drop, List.drop_take]
theorem bl_append (s t : ByteArray) : bl (s ++ t) = bl s ++ bl t := by
  unfold bl
  rw [ByteArray.data_append, Array.toList_append, List.map_append]
theorem u8_back (b : UInt8) : UInt8.ofNat ((b.toNat : Int)).toNat = b := by simp
theorem str_bl (s : ByteArray) : strOfNums (bl s) = s := by
  unfold strOfNums bl
  rw [List.map_map]
  have : ((fun n : Int => UInt8.ofNat n.toNat) ∘ fun b : UInt8 => (b.toNat : Int)) = id := by
    funext b; exact u8_back b
  rw [this, List.map_id, Array.toArray_toList]
theorem bl_str {l : List Int} (h : isBs l) : bl (strOfNums l) = l := by
  unfold bl
  rw [strOfNums_data, List.map_map]
  conv => rhs; rw [← List.map_id l]
  refine List.map_congr_left fun x hx => ?_
  obtain ⟨h0, h1⟩ := h x hx
  simp only [Function.comp, UInt8.toNat_ofNat', Nat.reducePow, id]
  omega
theorem bl_inj {s t : ByteArray} : bl s = bl t ↔ s = t := ⟨fun h => by rw [← str_bl s, h, str_bl], fun h => by rw [h]⟩
theorem str_inj {l m : List Int} (hl : isBs l) (hm : isBs m) (h : strOfNums l = strOfNums m) : l = m := by rw [← bl_str hl, h, bl_str hm]
theorem isBs_append {l m : List Int} : isBs (l ++ m) ↔ isBs l ∧ isBs m := by
  unfold isBs
  simp only [List.mem_append]
  exact ⟨fun h => ⟨fun x hx => h x (.inl hx), fun x hx => h x (.inr hx)⟩, fun h x hx => hx.elim (h.1 x) (h.2 x)⟩
theorem isBs_cons {x : Int} {l : List Int} : isBs (x :: l) ↔ (0 ≤ x ∧ x ≤ 255) ∧ isBs l := by
  unfold isBs
  simp only [List.mem_cons, forall_eq_or_imp]
theorem isBs_nil : isBs [] := fun x hx => by cases hx
theorem isBs_drop {l : List Int} (h : isBs l) (n : Nat) : isBs (l.drop n) := fun x hx => h x (List.mem_of_mem_drop hx)
theorem isBs_take {l : List Int} (h : isBs l) (n : Nat) : isBs (l.take n) := fun x hx => h x (List.mem_of_mem_take hx)
theorem str_app (l m : List Int) : strOfNums l ++ strOfNums m = strOfNums (l ++ m) := by
  apply ByteArray.ext
  apply Array.ext'
  rw [ByteArray.data_append, Array.toList_append, strOfNums_data, strOfNums_data, strOfNums_data, List.map_append]
theorem toList_eq_data (s : ByteArray) : s.toList = s.data.toList := by
  exact ByteArray.toList_eq s
theorem str_beq (s t : ByteArray) : (s.toList == t.toList) = decide (s = t) := by
  rw [toList_eq_data, toList_eq_data, Bool.eq_iff_iff]
  simp only [beq_iff_eq, decide_eq_true_eq]
  constructor
  · intro h
    apply ByteArray.ext
    exact Array.ext' h
  · intro h
    rw [h]
theorem getD_lt {α : Type} {l : List α} {i : Nat} {d : α} (h : i < l.length) : l.getD i d = l[i] := by
  rw [List.getD_eq_getElem?_getD, List.getElem?_eq_getElem h]; rfl
theorem drop_getD {l : List Int} {i : Nat} (h : i < l.length) : l.drop i = l.getD i 0 :: l.drop (i + 1) := by
  rw [getD_lt h, List.drop_eq_getElem_cons h]
end Go.Avc

/- Quoting: plain functions over lists of numbers, and that the program's and the reference's reading agree. No condition. -/
set_option linter.unusedVariables false
set_option linter.unusedSimpArgs false
namespace Go.Avc

def hexL : List Int := [48, 49, 50, 51, 52, 53, 54, 55, 56, 57, 97, 98, 99, 100, 101, 102]
def hexS : ByteArray := ⟨#[48, 49, 50, 51, 52, 53, 54, 55, 56, 57, 97, 98, 99, 100, 101, 102]⟩
theorem bl_hex : bl hexS = hexL := by decide
/-- Where a number stands in a list, or -1. -/
def ixL : List Int → Int → Int
  | [], _ => -1
  | b :: l, c => if b = c then 0 else if ixL l c = -1 then -1 else ixL l c + 1
def hid (c : Int) : Bool := (decide (c < 33) && (c != 10)) || decide (c ≥ 127)
/-- One byte quoted. -/
def q1 (c : Int) : List Int := if c = 34 ∨ c = 92 then [92, c] else if c = 10 then [92, 110] else if c < 33 ∨ c > 126 then [92, 120, hexL.getD (c / 16).toNat 0, hexL.getD (c % 16).toNat 0] else [c]
def quotedL (l : List Int) : List Int := 34 :: (l.flatMap q1 ++ [34])
theorem q1_len (c : Int) : 1 ≤ (q1 c).length ∧ (q1 c).length ≤ 4 := by
  unfold q1
  repeat' split
  all_goals simp
theorem hex_bs (k : Nat) : 0 ≤ hexL.getD k 0 ∧ hexL.getD k 0 ≤ 255 := by
  by_cases h : k < 16
  · have : ∀ k < 16, 0 ≤ hexL.getD k 0 ∧ hexL.getD k 0 ≤ 255 := by decide
    exact this k h
  · rw [List.getD_eq_getElem?_getD, List.getElem?_eq_none (by simp [hexL]; omega)]
    decide
theorem q1_bs {c : Int} (h : 0 ≤ c ∧ c ≤ 255) : isBs (q1 c) := by
  unfold q1
  have h1 := hex_bs (c / 16).toNat
  have h2 := hex_bs (c % 16).toNat
  repeat' split
  all_goals simp only [isBs_cons, isBs_nil, and_true]; omega
theorem quotedL_bs {l : List Int} (h : isBs l) : isBs (quotedL l) := by
  unfold quotedL
  rw [isBs_cons, isBs_append, isBs_cons]
  refine ⟨by omega, ?_, by omega, isBs_nil⟩
  intro x hx
  obtain ⟨c, hc, hx⟩ := List.mem_flatMap.1 hx
  exact q1_bs (h c hc) x hx
theorem flatMap_len (l : List Int) : (l.flatMap q1).length ≤ 4 * l.length := by
  induction l with
  | nil => simp
  | cons x r ih =>
    rw [List.flatMap_cons, List.length_append, List.length_cons]
    have := (q1_len x).2
    omega
/-- What stands behind a backslash. -/
def escL : List Int → Int × Int
  | [] => (0, 0)
  | c :: r => if c = 34 ∨ c = 92 then (c, 1) else if c = 110 then (10, 1) else if c = 120 then (match r with
    | a :: b :: _ => if ixL hexL a < 0 ∨ ixL hexL b < 0 then (0, 0) else if hid (16 * ixL hexL a + ixL hexL b) = true then (16 * ixL hexL a + ixL hexL b, 3) else (0, 0)
    | _ => (0, 0)) else (0, 0)
/-- The program's reading: the bytes, and how many are left at the closing sign. -/
def unqL : Nat → List Int → List Int → Option (List Int × Nat)
  | 0, _, _ => none
  | _ + 1, [], _ => none
  | k + 1, c :: r, acc => if c = 34 then some (acc, r.length + 1) else if c = 92 then (if (escL r).2 = 0 then none else unqL k (r.drop (escL r).2.toNat) (acc ++ [(escL r).1])) else if hid c = true ∨ c = 10 then none else unqL k r (acc ++ [c])
/-- The first byte whose quoted form stands in front. -/
def findC (rest : List Int) : Option Int := ((List.range 256).find? fun (x : Nat) => (q1 (x : Int)).isPrefixOf rest).map fun (x : Nat) => (x : Int)
/-- The reference's reading. -/
def unqR : Nat → List Int → List Int → Option (List Int × Nat)
  | 0, _, _ => none
  | _ + 1, [], _ => none
  | k + 1, c :: r, acc => if c = 34 then some (acc, r.length + 1) else match findC (c :: r) with
    | none => none
    | some x => unqR k ((c :: r).drop (q1 x).length) (acc ++ [x])

theorem ixL_ge (l : List Int) (c : Int) : -1 ≤ ixL l c := by
  induction l with
  | nil => simp [ixL]
  | cons x r ih => unfold ixL; repeat' split
                   all_goals omega
theorem ixL_lt (l : List Int) (c : Int) : ixL l c < l.length := by
  induction l with
  | nil => simp [ixL]
  | cons x r ih => unfold ixL; rw [List.length_cons]; repeat' split
                   all_goals omega
theorem ixL_get (l : List Int) (c : Int) (h : 0 ≤ ixL l c) : l.getD (ixL l c).toNat 0 = c := by
  induction l with
  | nil => simp [ixL] at h
  | cons x r ih =>
    unfold ixL at h ⊢
    by_cases h1 : x = c
    · rw [if_pos h1]; simpa using h1
    · rw [if_neg h1] at h ⊢
      by_cases h2 : ixL r c = -1
      · rw [if_pos h2] at h; omega
      · rw [if_neg h2] at h ⊢
        have h3 := ixL_ge r c
        rw [show (ixL r c + 1).toNat = (ixL r c).toNat + 1 by omega, List.getD_cons_succ]
        exact ih (by omega)
theorem ix_hex {k : Nat} (h : k < 16) : ixL hexL (hexL.getD k 0) = k := by
  have : ∀ k < 16, ixL hexL (hexL.getD k 0) = (k : Int) := by decide
  exact this k h
theorem hid_iff (c : Int) : hid c = true ↔ (c < 33 ∧ c ≠ 10) ∨ 127 ≤ c := by
  unfold hid; simp

/-- The step of the program's reading. -/
def stepL : List Int → Option (Int × Nat)
  | [] => none
  | c :: r => if c = 92 then (if (escL r).2 = 0 then none else some ((escL r).1, 1 + (escL r).2.toNat)) else if hid c = true ∨ c = 10 then none else some (c, 1)

theorem step_cons (c : Int) (r : List Int) : stepL (c :: r) = if c = 92 then (if (escL r).2 = 0 then none else some ((escL r).1, 1 + (escL r).2.toNat)) else if hid c = true ∨ c = 10 then none else some (c, 1) := rfl
theorem step_of_pref {x : Int} (hx : 0 ≤ x ∧ x ≤ 255) {rest : List Int} (h : q1 x <+: rest) : stepL rest = some (x, (q1 x).length) := by
  obtain ⟨t, rfl⟩ := h
  unfold q1
  by_cases h1 : x = 34 ∨ x = 92
  · rw [if_pos h1]
    simp only [List.cons_append, List.nil_append, stepL, escL, if_true, if_pos h1]
    simp
  · rw [if_neg h1]
    by_cases h2 : x = 10
    · rw [if_pos h2, h2]
      simp [stepL, escL]
    · rw [if_neg h2]
      by_cases h3 : x < 33 ∨ x > 126
      · rw [if_pos h3]
        have ha : ixL hexL (hexL.getD (x / 16).toNat 0) = x / 16 := by rw [ix_hex (by omega)]; omega
        have hb : ixL hexL (hexL.getD (x % 16).toNat 0) = x % 16 := by rw [ix_hex (by omega)]; omega
        have hs : 16 * (x / 16) + x % 16 = x := by omega
        have hh : hid x = true := (hid_iff x).2 (by omega)
        have h7 : ¬ (x / 16 < 0 ∨ x % 16 < 0) := by omega
        simp only [List.cons_append, List.nil_append, stepL, escL, if_true, ha, hb, hs, hh, if_neg h7]
        simp
      · rw [if_neg h3]
        have hh : ¬ (hid x = true ∨ x = 10) := by rw [hid_iff]; omega
        simp only [List.cons_append, List.nil_append, stepL, if_neg hh]
        rw [if_neg (by omega)]
        rfl
theorem pref_of_step {x : Int} {n : Nat} {rest : List Int} (hr : isBs rest) (h34 : rest.head? ≠ some 34) (h : stepL rest = some (x, n)) : q1 x <+: rest ∧ 0 ≤ x ∧ x ≤ 255 := by
  cases rest with
  | nil => cases h
  | cons c r =>
    have hc := (isBs_cons.1 hr).1
    have hr' := (isBs_cons.1 hr).2
    have hc34 : c ≠ 34 := fun e => h34 (by rw [e]; rfl)
    rw [step_cons] at h
    by_cases h1 : c = 92
    · rw [if_pos h1] at h
      by_cases h2 : (escL r).2 = 0
      · rw [if_pos h2] at h; cases h
      · rw [if_neg h2] at h
        simp only [Option.some.injEq, Prod.mk.injEq] at h
        obtain ⟨hx, _⟩ := h
        subst hx
        subst h1
        cases r with
        | nil => simp [escL] at h2
        | cons d r =>
          have hd := (isBs_cons.1 hr').1
          unfold escL at h2 ⊢
          by_cases h3 : d = 34 ∨ d = 92
          · simp only [if_pos h3] at h2 ⊢
            refine ⟨?_, hd⟩
            unfold q1
            rw [if_pos h3]
            exact ⟨r, rfl⟩
          · simp only [if_neg h3] at h2 ⊢
            by_cases h4 : d = 110
            · simp only [if_pos h4] at h2 ⊢
              refine ⟨?_, by omega⟩
              unfold q1
              simp only [h4]
              exact ⟨r, rfl⟩
            · simp only [if_neg h4] at h2 ⊢
              by_cases h5 : d = 120
              · simp only [if_pos h5] at h2 ⊢
                match r with
                | [] => simp at h2
                | [_] => simp at h2
                | a :: b :: t =>
                  simp only at h2 ⊢
                  by_cases h6 : ixL hexL a < 0 ∨ ixL hexL b < 0
                  · rw [if_pos h6] at h2; simp at h2
                  · rw [if_neg h6] at h2 ⊢
                    by_cases h7 : hid (16 * ixL hexL a + ixL hexL b) = true
                    · rw [if_pos h7] at h2 ⊢
                      simp only
                      have ha := ixL_lt hexL a
                      have hb := ixL_lt hexL b
                      have hl : (hexL.length : Int) = 16 := by decide
                      have h8 := (hid_iff _).1 h7
                      refine ⟨?_, by omega, by omega⟩
                      unfold q1
                      rw [if_neg (by omega), if_neg (by omega), if_pos (by omega)]
                      have e1 : (16 * ixL hexL a + ixL hexL b) / 16 = ixL hexL a := by omega
                      have e2 : (16 * ixL hexL a + ixL hexL b) % 16 = ixL hexL b := by omega
                      rw [e1, e2, ixL_get _ _ (by omega), ixL_get _ _ (by omega), h5]
                      exact ⟨t, rfl⟩
                    · rw [if_neg h7] at h2; simp at h2
              · simp only [if_neg h5] at h2
                simp at h2
    · rw [if_neg h1] at h
      by_cases h2 : hid c = true ∨ c = 10
      · rw [if_pos h2] at h; cases h
      · rw [if_neg h2] at h
        simp only [Option.some.injEq, Prod.mk.injEq] at h
        obtain ⟨hx, _⟩ := h
        subst hx
        rw [hid_iff] at h2
        refine ⟨?_, hc⟩
        unfold q1
        rw [if_neg (by omega), if_neg (by omega), if_neg (by omega)]
        exact ⟨r, rfl⟩

theorem find_step {rest : List Int} (hr : isBs rest) (h34 : rest.head? ≠ some 34) : findC rest = (stepL rest).map (·.1) := by
  unfold findC
  cases hs : stepL rest with
  | none =>
    have : ((List.range 256).find? fun (x : Nat) => (q1 (x : Int)).isPrefixOf rest) = none := by
      rw [List.find?_eq_none]
      intro x hx hp
      have hx' : x < 256 := by simpa using hx
      rw [step_of_pref (x := (x : Int)) (by omega) (List.isPrefixOf_iff_prefix.1 hp)] at hs
      cases hs
    rw [this]; rfl
  | some p =>
    obtain ⟨x, n⟩ := p
    obtain ⟨hp, h0, h1⟩ := pref_of_step hr h34 hs
    have hex : ∃ y, ((List.range 256).find? fun (x : Nat) => (q1 (x : Int)).isPrefixOf rest) = some y := by
      rw [← Option.isSome_iff_exists, List.find?_isSome]
      exact ⟨x.toNat, by simp; omega, by rw [show ((x.toNat : Nat) : Int) = x by omega]; exact List.isPrefixOf_iff_prefix.2 hp⟩
    obtain ⟨y, hy⟩ := hex
    have hy1 := List.find?_some hy
    have hy2 : y < 256 := by have := List.mem_of_find?_eq_some hy; simpa using this
    have := step_of_pref (x := (y : Int)) (by omega) (List.isPrefixOf_iff_prefix.1 hy1)
    rw [hs] at this
    simp only [Option.some.injEq, Prod.mk.injEq] at this
    rw [hy]
    simp [this.1]
/-- The two readings agree. -/
theorem unq_same : ∀ (k : Nat) (rest acc : List Int), isBs rest → unqL k rest acc = unqR k rest acc
  | 0, _, _, _ => rfl
  | _ + 1, [], _, _ => rfl
  | k + 1, c :: r, acc, h => by
    unfold unqL unqR
    by_cases h1 : c = 34
    · rw [if_pos h1, if_pos h1]
    · rw [if_neg h1, if_neg h1]
      have h34 : (c :: r).head? ≠ some 34 := by simpa using h1
      rw [find_step h h34]
      have hstep : stepL (c :: r) = if c = 92 then (if (escL r).2 = 0 then none else some ((escL r).1, 1 + (escL r).2.toNat)) else if hid c = true ∨ c = 10 then none else some (c, 1) := rfl
      by_cases h2 : c = 92
      · rw [if_pos h2] at hstep ⊢
        by_cases h3 : (escL r).2 = 0
        · rw [if_pos h3] at hstep ⊢
          rw [hstep]; rfl
        · rw [if_neg h3] at hstep ⊢
          rw [hstep]
          simp only [Option.map_some]
          obtain ⟨hp, h0, h5⟩ := pref_of_step h h34 hstep
          have := step_of_pref ⟨h0, h5⟩ hp
          rw [hstep] at this
          simp only [Option.some.injEq, Prod.mk.injEq, true_and] at this
          rw [← this, Nat.add_comm 1, List.drop_succ_cons]
          exact unq_same k _ _ (isBs_drop (isBs_cons.1 h).2 _)
      · rw [if_neg h2] at hstep ⊢
        by_cases h3 : hid c = true ∨ c = 10
        · rw [if_pos h3] at hstep ⊢
          rw [hstep]; rfl
        · rw [if_neg h3] at hstep ⊢
          rw [hstep]
          simp only [Option.map_some]
          obtain ⟨hp, h0, h5⟩ := pref_of_step h h34 hstep
          have := step_of_pref ⟨h0, h5⟩ hp
          rw [hstep] at this
          simp only [Option.some.injEq, Prod.mk.injEq, true_and] at this
          rw [← this, List.drop_succ_cons, List.drop_zero]
          exact unq_same k _ _ (isBs_cons.1 h).2
end Go.Avc

/- The program's types: cells, bytes, zero values. No condition. -/
set_option maxRecDepth 100000
namespace Go.Avc.F
open Go Go.Avc Go.Proofs
theorem c3 : Program.cellsOf Tryd.prog 3 = 1 := by kernel_rfl
theorem k3 : Tk Tryd.prog 3 = some false := by kernel_rfl
theorem z3 : Tzero Tryd.prog 3 = some [.int .i64 0] := by kernel_rfl
theorem o3 : Tone Tryd.prog 3 = some (.int .i64 0, 8) := by kernel_rfl
theorem c5 : Program.cellsOf Tryd.prog 5 = 1 := by kernel_rfl
theorem b5 : Program.bytesOf Tryd.prog 5 = 1 := by kernel_rfl
theorem z5 : Tzero Tryd.prog 5 = some [.int .u8 0] := by kernel_rfl
theorem c9 : Program.cellsOf Tryd.prog 9 = 1 := by kernel_rfl
theorem k9 : Tk Tryd.prog 9 = some false := by kernel_rfl
theorem z9 : Tzero Tryd.prog 9 = some [.str ⟨#[]⟩] := by kernel_rfl
theorem a9 : TzeroA Tryd.prog 9 = some [.dv (.d (.str ⟨#[]⟩))] := by kernel_rfl
theorem c21 : Program.cellsOf Tryd.prog 21 = 1 := by kernel_rfl
theorem b21 : Program.bytesOf Tryd.prog 21 = 4 := by kernel_rfl
theorem k21 : Tk Tryd.prog 21 = some false := by kernel_rfl
theorem z21 : Tzero Tryd.prog 21 = some [.int .i32 0] := by kernel_rfl
theorem c29 : Program.cellsOf Tryd.prog 29 = 2 := by kernel_rfl
theorem k29 : Tk Tryd.prog 29 = some true := by kernel_rfl
theorem z29 : Tzero Tryd.prog 29 = some [.int .i64 0, .str ⟨#[]⟩] := by kernel_rfl
theorem a29 : TzeroA Tryd.prog 29 = some [.dv (.d (.int .i64 0)), .dv (.d (.str ⟨#[]⟩))] := by kernel_rfl
theorem e29 : eqT Tryd.prog 29 = some [.i .i64, .s] := by kernel_rfl
theorem f29_0 : Tfld Tryd.prog 29 0 = some (0, 3) := by kernel_rfl
theorem f29_1 : Tfld Tryd.prog 29 1 = some (1, 9) := by kernel_rfl
theorem p29 : Tplc Tryd.prog 29 = some [(0, 1), (1, 1)] := by kernel_rfl
theorem zv29 : zeroAV Tryd.prog 29 = [.dv (.d (.int .i64 0)), .dv (.d (.str ⟨#[]⟩))] := Go.Avc.Eq.zeroAV_e a29
attribute [go_sem] Tryd.underlying0 Tryd.underlying1 Tryd.underlying2 c3 k3 z3 o3 Tryd.underlying3 Tryd.underlying4 c5 b5 z5 Tryd.underlying5
attribute [go_sem] Tryd.underlying6 Tryd.underlying7 Tryd.underlying8 c9 k9 z9 a9
attribute [go_sem] Tryd.underlying9 Tryd.underlying10 Tryd.underlying11 Tryd.underlying12 Tryd.underlying13
attribute [go_sem] Tryd.underlying14 Tryd.underlying15 Tryd.underlying16 Tryd.underlying17 Tryd.underlying18 Tryd.underlying19 Tryd.underlying20 c21 b21 k21 z21
attribute [go_sem] Tryd.underlying21 Tryd.underlying22 Tryd.underlying23 Tryd.underlying24 Tryd.underlying25 Tryd.underlying26
attribute [go_sem] Tryd.underlying27 Tryd.underlying28 c29 k29 z29 zv29 a29 e29 f29_0 f29_1 p29 Tryd.underlying29 Tryd.underlying30 Tryd.underlying31 Tryd.underlying32
attribute [go_sem] Tryd.underlying33 Tryd.underlying34 Tryd.underlying35 Tryd.underlying36 Tryd.underlying37 Tryd.underlying38 Tryd.underlying39 Tryd.underlying40 Tryd.underlying41 Tryd.underlying42
attribute [go_sem] Tryd.underlying43 Tryd.underlying44 Tryd.underlying45 Tryd.underlying46 Tryd.underlying47 Tryd.underlying48 Tryd.underlying49 Tryd.underlying50 Tryd.underlying51
attribute [go_sem] Tryd.underlying52 Tryd.underlying53 Tryd.underlying54 Tryd.underlying55 Tryd.underlying56 Tryd.underlying57 Tryd.underlying58
attribute [go_sem] Tryd.underlying59 Tryd.underlying60 Tryd.underlying61 Tryd.underlying62 Tryd.underlying63 Tryd.underlying64 Tryd.underlying65 Tryd.underlying66 Tryd.underlying67
attribute [go_sem] Tryd.underlying68 Tryd.underlying69 Tryd.underlying70 Tryd.underlying71 Tryd.underlying72 Tryd.underlying73 Tryd.underlying74 Tryd.underlying75
attribute [go_sem] Tryd.underlying76 Tryd.underlying77 Tryd.underlying78 Tryd.underlying79 Tryd.underlying80 Tryd.underlying81 Tryd.underlying82 Tryd.underlying83 Tryd.underlying84
attribute [go_sem] Tryd.underlying85 Tryd.underlying86 Tryd.underlying87 Tryd.underlying88 Tryd.underlying89 Tryd.underlying90 Tryd.underlying91 Tryd.underlying92
attribute [go_sem] Tryd.underlying93 Tryd.underlying94 Tryd.underlying95 Tryd.underlying96 Tryd.underlying97 Tryd.underlying98 Tryd.underlying99
attribute [go_sem] Tryd.underlying100 Tryd.underlying101 Tryd.underlying102 Tryd.underlying103 Tryd.underlying104 Tryd.underlying105 Tryd.underlying106 Tryd.underlying107
attribute [go_sem] Tryd.underlying108 Tryd.underlying109 Tryd.underlying110 Tryd.underlying111 Tryd.underlying112
attribute [go_sem] Tryd.underlying113 Tryd.underlying114 Tryd.underlying115 Tryd.underlying116
attribute [go_sem] Tryd.underlying117 Tryd.underlying118 Tryd.underlying119 Tryd.underlying120 Tryd.underlying121 Tryd.underlying122
attribute [go_sem] Tryd.underlying123 Tryd.underlying124
end Go.Avc.F

/- The contracts of Below and of the stream's Next. No condition. -/
set_option linter.unusedVariables false
set_option linter.unusedSimpArgs false
namespace Go.Avc
open Go Go.Proofs

theorem drewN_gr (g : Option Nat) (w : World) (k : Nat) : Gr g w (w.drewN k) := ⟨rfl, rfl, rfl, Nat.le_refl _, fun _ _ _ => rfl⟩
theorem rel_int {cx : Cx} {w0 : World} {ok : Nat → Prop} {ρ : Nat → Value} {w : World} {k : IntKind} {n : Int} {v : Value} (h : rel0 cx w0 ok ρ w (.dv (.d (.int k n))) v) : v = .int k n := by
  have h' : Rd ok w (.int k n) v := h
  cases h'
  rfl

def belowS : Spec where
  pre xs := ∃ x n : Int, xs = [.i x, .i n]
  post xs r := ∃ x n : Int, xs = [.i x, .i n] ∧ r = .i (belowF x n)
  cost _ := 0
  fresh := true
theorem below_ctr (cx : Cx) (hP : cx.P = Tryd.prog) : Ctr cx 68 belowS := by
  refine ⟨by rw [hP]; exact ⟨_, Tryd.func68, by kernel_rfl, by kernel_rfl⟩, fun xs ⟨x, n, e⟩ => ⟨_, x, n, e, rfl⟩, ?_⟩
  rintro F xs vals rfl hF hst hgl hc hlen hargs ⟨x, n, rfl⟩
  match vals, hlen with
  | [u, v], _ =>
    have h0 := rel_int (hargs 0 _ u rfl rfl)
    have h1 := rel_int (hargs 1 _ v rfl rfl)
    subst h0
    subst h1
    rw [hP]
    refine (below_calls x n F.w0).mono ?_
    rintro e w' ⟨rfl, k, rfl⟩
    exact ⟨_, .i (belowF x n), rfl, drewN_gr _ _ _, hst.keep2 (Nat.le_refl _) (fun _ _ _ _ => rfl), ⟨x, n, rfl, rfl⟩, rfl, Rd.int _ _⟩

theorem belowF_range {x m : Int} (hm : m ≤ 9223372036854775807) : (1 ≤ m → 0 ≤ belowF x m ∧ belowF x m < m) ∧ (m < 1 → belowF x m = 0) := by
  unfold belowF
  refine ⟨fun h => ?_, fun h => by rw [if_pos h]⟩
  rw [if_neg (by omega)]
  have h1 : x.tmod m < m := Int.tmod_lt_of_pos x (by omega)
  have h2 : -m < x.tmod m := Int.lt_tmod_of_pos x (by omega)
  split
  · rw [IntWalk.i64_in _ (by omega)]
    omega
  · omega

def nextS : Spec where
  pre xs := ∃ m : Int, xs = [.st, .i m] ∧ m ≤ 9223372036854775807
  post xs r := ∃ m q : Int, xs = [.st, .i m] ∧ (1 ≤ m → 0 ≤ q ∧ q < m) ∧ (m < 1 → q = 0) ∧ r = .i q
  cost _ := 1
  fresh := true
theorem next_ctr (cx : Cx) (hP : cx.P = Tryd.prog) (hS : cx.ST = 25) : Ctr cx 33 nextS := by
  refine ⟨by rw [hP]; exact ⟨_, Tryd.func33, by kernel_rfl, by kernel_rfl⟩, fun xs ⟨m, e, hm⟩ => ⟨.i (belowF 0 m), m, belowF 0 m, e, (belowF_range hm).1, (belowF_range hm).2, rfl⟩, ?_⟩
  rintro F xs vals rfl hF hst hgl hc hlen hargs ⟨m, rfl, hm⟩
  match vals, hlen with
  | [u, v], _ =>
    have h1 := rel_int (hargs 1 _ v rfl rfl)
    subst h1
    obtain ⟨b, hb, hu⟩ := hargs 0 _ u rfl rfl
    subst hu
    obtain ⟨hng, A, c, n, hh, hn0, hnN, hrd⟩ := hst b hb
    have hN := hF.nb
    have hc1 : 1 ≤ F.B := hc
    rw [hP]
    have hsz : b < F.w0.heap.size := (Array.getElem?_eq_some_iff.1 hh).1
    refine (next_calls F.w0 b A F.cx.L.length c n m (by rw [← hS]; exact hh) hn0 (by omega) (fun j hj => ?_)).mono ?_
    · generalize hl : (F.cx.L.map fun x => [D.int .i64 x]) = l at hrd
      have hll : F.cx.L.length = l.length := by rw [← hl, List.length_map]
      rw [hll] at hrd hj
      cases hrd with
      | nil A c => exact absurd hj (by simp)
      | sl l z b' o c u hc' hb' hlt hz hu' hr =>
        have hx : l[j]? = some [D.int .i64 (F.cx.L.getD j 0)] := by
          rw [← hl, List.getElem?_map, List.getD_eq_getElem?_getD, List.getElem?_eq_getElem (by omega)]
          rfl
        have hz1 : z = 1 := (hz j _ hx).symm
        subst hz1
        have h2 := hu' j _ hx 0 _ rfl
        have h3 := hr j _ hx 0 _ rfl
        generalize u j 0 = v at h2 h3
        cases h3
        refine ⟨⟨b', o, none⟩, F.cx.L.getD j 0, rfl, ?_, ?_⟩
        · rw [Addr.add_lit]; show b' ≠ b; omega
        · rw [Addr.add_lit]
          simpa using h2
    · rintro e w' ⟨r, k, rfl, rfl⟩
      have hg : Gr F.cx.g F.w0 ((F.w0.setCell ⟨b, 1, none⟩ (.int .i64 (n + 1))).drewN k) := ⟨rfl, rfl, rfl, by show _ ≤ (F.w0.setCell _ _).heap.size; simp [World.setCell], fun b' hb' hne => heap_setCell_other _ _ _ _ (fun e => hne (by rw [hb, e]))⟩
      refine ⟨_, .i (belowF r m), rfl, hg, ?_, ⟨m, belowF r m, rfl, (belowF_range hm).1, (belowF_range hm).2, rfl⟩, rfl, Rd.int _ _⟩
      intro b' hb'
      rw [hb] at hb'
      cases hb'
      refine ⟨hng, A, c, n + 1, ?_, by omega, by show n + 1 ≤ ((F.N + 1 : Nat) : Int); omega, hrd.mono hg.size (fun _ h _ => h) (fun k' hk' hlt => hg.block k' hlt (fun e => ?_))⟩
      · show (F.w0.setCell ⟨b, 1, none⟩ (.int .i64 (n + 1))).heap[b]? = _
        simp [World.setCell, Array.getElem?_modify, hh]
      · rw [hb] at e
        cases e
        omega
end Go.Avc

/- strings.Builder's WriteByte and WriteString, walked: what they leave. No condition. -/
set_option linter.unusedVariables false
set_option linter.unusedSimpArgs false
namespace Go.Avc
open Go Go.RowKit Go.Proofs

set_option maxHeartbeats 1000000 in
set_option maxRecDepth 100000 in
theorem check_used (b : Nat) (w : World) (h0 : w.cell? ⟨b, 0, none⟩ = some (.pointer (some ⟨b, 0, none⟩))) :
    Calls Tryd.prog 71 #[.pointer (some ⟨b, 0, none⟩)] w fun e w' => e = .returned (.tuple #[]) ∧ w' = w := by
  have hj : ∃ j, Tryd.prog.info? 59 = some j := ⟨Tryd.t59, by kernel_rfl⟩
  obtain ⟨j, hj⟩ := hj
  go_enter Tryd.func71, Tryd.ntmps71
  go_wp2
  rw [Lib.run_neq_ptr_same w _ Tryd.underlying57 hj]
  go_wp2
  go_end0
  exact ⟨rfl, rfl⟩

set_option maxHeartbeats 1000000 in
set_option maxRecDepth 100000 in
theorem check_fresh (b : Nat) (w : World) (h0 : w.cell? ⟨b, 0, none⟩ = some (.pointer none)) (hsh : w.shape? b = some (59, 2)) (hfz : w.frozen? ⟨b, 0, none⟩ = false) :
    Calls Tryd.prog 71 #[.pointer (some ⟨b, 0, none⟩)] w fun e w' => e = .returned (.tuple #[]) ∧ w' = w.setCell ⟨b, 0, none⟩ (.pointer (some ⟨b, 0, none⟩)) := by
  obtain ⟨j, hj, hjs⟩ : ∃ j, Tryd.prog.info? 59 = some j ∧ j.size = 2 := ⟨Tryd.t59, by kernel_rfl, by kernel_rfl⟩
  go_enter Tryd.func71, Tryd.ntmps71
  go_wp2
  rw [Lib.run_to_unsafe w ⟨b, 0, none⟩ Tryd.underlying57 Tryd.underlying104 hj (by rw [hjs]; decide) hsh (Nat.zero_lt_succ 1)]
  simp only [Result.andThen]
  rw [Oper.upon_value]
  go_wp2
  rw [run_callFunc_extern Tryd.func85 (by kernel_rfl) (by kernel_rfl) (by kernel_rfl) (e := Extern.AbiNoEscape.same) (by kernel_rfl)]
  rw [Lib.run_noEscape]
  simp only [Result.andThen]
  rw [Oper.upon_value]
  go_wp2
  rw [Lib.run_from_unsafe w ⟨b, 0, none⟩ Tryd.underlying104 Tryd.underlying57 hj hsh (by kernel_rfl)]
  simp only [Result.andThen]
  rw [Oper.upon_value]
  go_wp2
  go_end0
  exact ⟨rfl, rfl⟩

theorem check_calls (b : Nat) (w : World) (v : Value) (h : Bld w b v) : Calls Tryd.prog 71 #[.pointer (some ⟨b, 0, none⟩)] w fun e w' => e = .returned (.tuple #[]) ∧ w'.heap[b]? = some (.cells #[.pointer (some ⟨b, 0, none⟩), v] 59 (0, 0)) ∧
    w'.os = w.os ∧ w'.tape = w.tape ∧ w'.output = w.output ∧ w'.heap.size = w.heap.size ∧ ∀ k, k ≠ b → w'.heap[k]? = w.heap[k]? := by
  obtain ⟨p, hp, hb⟩ := h
  have hc := Lib.cell_of_heap hb 0
  rcases hp with rfl | rfl
  · refine (check_fresh b w (hc.trans rfl) (by simp [World.shape?, hb]) (Lib.frozen_of_heap hb 0)).mono ?_
    rintro e w' ⟨rfl, rfl⟩
    exact ⟨rfl, by simp [World.setCell, Array.getElem?_modify, hb], rfl, rfl, rfl, by simp [World.setCell], fun k hk => heap_setCell_other _ _ _ _ hk⟩
  · refine (check_used b w (hc.trans rfl)).mono ?_
    rintro e w' ⟨rfl, rfl⟩
    exact ⟨rfl, hb, rfl, rfl, rfl, rfl, fun _ _ => rfl⟩

set_option maxHeartbeats 4000000 in
set_option maxRecDepth 100000 in
theorem writeByte_calls (B b : Nat) (bs : List Value) (c : Int) (w : World) (v : Value) (h : Bld w b v) (hown : w.ownsRow B bE 1 v bs.length bs) (hlen : bs.length + 1 ≤ 140737488355328) (hBw : B ≤ w.heap.size) :
    Calls Tryd.prog 66 #[.pointer (some ⟨b, 0, none⟩), .int .u8 c] w fun e w' => e = .returned .nilIface ∧ Wrote B b w v (bs ++ [.int .u8 c]) w' := by
  have hne : v.ownBlock ≠ some b := by
    obtain ⟨p, _, hb⟩ := h
    exact Lib.ownBlock_ne hown hb (by decide)
  have hlt : b < w.heap.size := by
    obtain ⟨p, _, hb⟩ := h
    exact (Array.getElem?_eq_some_iff.1 hb).1
  go_enter Tryd.func66, Tryd.ntmps66
  go_wp2_with (go_at_call 71; refine (check_calls b _ v h).mono ?_)
  rintro e w1 ⟨rfl, hb1, ho1, ht1, hu1, hs1, hk1⟩
  have hown1 : w1.ownsRow B bE 1 v bs.length bs := hown.kept (row := some b) ⟨ho1, ht1, hu1, by omega, fun k hk hn => hk1 k (fun e => hn (by rw [e]))⟩ (.inr hne)
  have hs2 : w.heap.size ≤ w1.heap.size ∧ w1.heap.size ≤ w.heap.size := by omega
  clear hs1
  have c0 : w1.cell? ⟨b, 0, none⟩ = some (.pointer (some ⟨b, 0, none⟩)) := by rw [Lib.cell_of_heap hb1]; rfl
  have c1 : w1.cell? ⟨b, 1, none⟩ = some v := by rw [Lib.cell_of_heap hb1]; rfl
  have hi : Tryd.prog.info? 5 = some Tryd.t5 := by kernel_rfl
  have hz0 : Tryd.t5.zero = some (.int .u8 0) := by kernel_rfl
  have hz1 : Tryd.t5.size = 1 := by kernel_rfl
  have hz2 : Tryd.t5.bytes = 1 := by kernel_rfl
  go_wp2_with (at_builtin; refine wpList_append_own_at _ rfl _ _ 46 rfl B bE Tryd.t5 (.int .u8 0) 1 1 Tryd.underlying46 hi hz0 hz1 hz2 rfl (by decide) _ _ _ rfl (hown1.alloc _) ⟨w1.heap.size, 0, none⟩ 1 1 [.int .u8 c] rfl rfl ?c1 ?c2 ?c3 ?c4 ?c5 ?_)
  case c1 =>
    intro j u hj
    match j, hj with
    | 0, hj => simp at hj; subst hj; simp [Addr.add]
  case c2 => intro u hu; simp at hu; subst hu; rfl
  case c3 => unfold maxLen; omega
  case c4 => omega
  case c5 => simp; omega
  intro v' w2 hown' hgrow _ hat
  have hb2 : w2.heap[b]? = some (.cells #[.pointer (some ⟨b, 0, none⟩), v] 59 (0, 0)) := by
    rw [hgrow.block b (by simp; omega) (fun e => hne e.symm), Lib.alloc_old w1 _ b (by omega)]
    exact hb1
  have d0 : w2.cell? ⟨b, 0, none⟩ = some (.pointer (some ⟨b, 0, none⟩)) := by rw [Lib.cell_of_heap hb2]; rfl
  have d1 : w2.cell? ⟨b, 1, none⟩ = some v := by rw [Lib.cell_of_heap hb2]; rfl
  have f1 : w2.frozen? ⟨b, 1, none⟩ = false := Lib.frozen_of_heap hb2 1
  obtain ⟨g, cap, rfl⟩ : ∃ g cap, v' = .slice (some ⟨g, 0, none⟩) (bs.length + 1) cap := by
    rcases hown'.2 with ⟨_, h0⟩ | ⟨g, cap, cur, hv, _⟩
    · omega
    · exact ⟨g, cap, hv⟩
  go_wp2
  go_ret
  refine ⟨rfl, ?_⟩
  have hnb : (Value.slice (some ⟨g, 0, none⟩) (bs.length + 1) cap).ownBlock ≠ some b := Lib.ownBlock_ne hown' hb2 (by decide)
  refine ⟨.slice (some ⟨g, 0, none⟩) (bs.length + 1) cap, ?_, ?_, ?_, ?_⟩
  · simp [World.setCell, Array.getElem?_modify, hb2]
  · rw [List.length_append]
    exact hown'.kept (row := some b) ⟨rfl, rfl, rfl, by simp [World.setCell], fun k _ hk => heap_setCell_other _ _ _ _ (fun e => hk (by rw [e]))⟩ (.inr hnb)
  · rcases hat with e | e
    · exact .inr (.inl e)
    · refine .inr (.inr ⟨w1.heap.size + 1, e, by omega, ?_⟩)
      have := (hown'.lt _ e).2
      simpa [World.setCell] using this
  · refine ⟨hgrow.os.trans ho1, hgrow.tape.trans ht1, hgrow.output.trans hu1, ?_, fun k hk hkb hkv => ?_⟩
    · have := hgrow.size
      simp at this
      simp [World.setCell]
      omega
    · rw [heap_setCell_other _ _ _ _ (by exact hkb), hgrow.block k (by simp; omega) (fun e => hkv e.symm), Lib.alloc_old w1 _ k (by omega)]
      exact hk1 k hkb
theorem wpList_app_str {P : Program} {w : World} {ops : Array Oper} {rest : List Oper} {o : Oper} {a : Act} {Q : Exit → Act → World → Prop} (hgd : o.guard = none) (sl x : Operand) (t u : TypeId) (ho : o.op = .call { callee := .builtin .append, args := #[sl, x], argTypes := #[t, u] })
    {base : Nat} {e : TypeId} {i : TypeInfo} (ht : P.underlying t = some (.slice e)) (hu : P.underlying u = some .string) (hi : P.info? e = some i) (hz : i.zero = some (.int .u8 0)) (hsize : i.size = 1) (hby : i.bytes = 1)
    {v : Value} {n : Nat} {xs : List Value} (hs : a.eval sl = v) (hown : w.ownsRow base e 1 v n xs) (s : ByteArray) (hx : a.eval x = .string s) (hb : n + s.size ≤ 140737488355328) (hbase : base ≤ w.heap.size)
    (h : ∀ v' w', w'.ownsRow base e 1 v' (n + s.size) (xs ++ Lib.strCells s) → w.grownBy w' v.ownBlock → (v'.ownBlock = none ∨ v'.ownBlock = v.ownBlock ∨ v'.ownBlock = some w.heap.size) → wpList P ops Q rest (a.put o.dst v') w') : wpList P ops Q (o :: rest) a w := by
  refine wpList_plain hgd fun K hK => ?_
  obtain ⟨v', w', hr, h2, h3, h4⟩ := app_str_run (P := P) (ty := o.type) (w := w) ht hu hi hz hsize hby hown s hb hbase
  unfold Oper.wp execOp
  simp only [ho, resolve, invoke, builtin, Sem.run_bind, Sem.run_pure, Result.andThen_ok, List.map_toArray, List.map_cons, List.map_nil, hs, hx, hr]
  exact hK _ _ (h v' w' h2 h3 h4)

set_option maxHeartbeats 4000000 in
set_option maxRecDepth 100000 in
theorem writeString_calls (B b : Nat) (bs : List Value) (s : ByteArray) (w : World) (v : Value) (h : Bld w b v) (hown : w.ownsRow B bE 1 v bs.length bs) (hlen : bs.length + s.size ≤ 140737488355328) (hBw : B ≤ w.heap.size) :
    Calls Tryd.prog 36 #[.pointer (some ⟨b, 0, none⟩), .string s] w fun e w' => e = .returned (.tuple #[.int .i64 s.size, .nilIface]) ∧ Wrote B b w v (bs ++ Lib.strCells s) w' := by
  have hne : v.ownBlock ≠ some b := by
    obtain ⟨p, _, hb⟩ := h
    exact Lib.ownBlock_ne hown hb (by decide)
  have hlt : b < w.heap.size := by
    obtain ⟨p, _, hb⟩ := h
    exact (Array.getElem?_eq_some_iff.1 hb).1
  go_enter Tryd.func36, Tryd.ntmps36
  go_wp2_with (go_at_call 71; refine (check_calls b _ v h).mono ?_)
  rintro e w1 ⟨rfl, hb1, ho1, ht1, hu1, hs1, hk1⟩
  have hown1 : w1.ownsRow B bE 1 v bs.length bs := hown.kept (row := some b) ⟨ho1, ht1, hu1, by omega, fun k hk hn => hk1 k (fun e => hn (by rw [e]))⟩ (.inr hne)
  have hs2 : w.heap.size ≤ w1.heap.size ∧ w1.heap.size ≤ w.heap.size := by omega
  clear hs1
  have c0 : w1.cell? ⟨b, 0, none⟩ = some (.pointer (some ⟨b, 0, none⟩)) := by rw [Lib.cell_of_heap hb1]; rfl
  have c1 : w1.cell? ⟨b, 1, none⟩ = some v := by rw [Lib.cell_of_heap hb1]; rfl
  have hi : Tryd.prog.info? 5 = some Tryd.t5 := by kernel_rfl
  have hz0 : Tryd.t5.zero = some (.int .u8 0) := by kernel_rfl
  have hz1 : Tryd.t5.size = 1 := by kernel_rfl
  have hz2 : Tryd.t5.bytes = 1 := by kernel_rfl
  go_wp2_with (at_builtin; refine wpList_app_str rfl _ _ 46 9 rfl Tryd.underlying46 Tryd.underlying9 hi hz0 hz1 hz2 rfl hown1 s rfl hlen ?c5 ?_)
  case c5 => omega
  intro v' w2 hown' hgrow hat
  have hb2 : w2.heap[b]? = some (.cells #[.pointer (some ⟨b, 0, none⟩), v] 59 (0, 0)) := by
    rw [hgrow.block b (by omega) (fun e => hne e.symm)]
    exact hb1
  have d0 : w2.cell? ⟨b, 0, none⟩ = some (.pointer (some ⟨b, 0, none⟩)) := by rw [Lib.cell_of_heap hb2]; rfl
  have d1 : w2.cell? ⟨b, 1, none⟩ = some v := by rw [Lib.cell_of_heap hb2]; rfl
  have f1 : w2.frozen? ⟨b, 1, none⟩ = false := Lib.frozen_of_heap hb2 1
  obtain ⟨A', m', c', rfl⟩ : ∃ A m c, v' = .slice A m c := by
    rcases hown'.2 with ⟨rfl, _⟩ | ⟨g, cap, cur, rfl, _⟩
    · exact ⟨_, _, _, rfl⟩
    · exact ⟨_, _, _, rfl⟩
  have hnb : (Value.slice A' m' c').ownBlock ≠ some b := Lib.ownBlock_ne hown' hb2 (by decide)
  go_wp2
  go_ret2
  refine ⟨rfl, .slice A' m' c', ?_, ?_, ?_, ?_⟩
  · simp [World.setCell, Array.getElem?_modify, hb2]
  · rw [List.length_append, Lib.strCells_length]
    exact hown'.kept (row := some b) ⟨rfl, rfl, rfl, by simp [World.setCell], fun k _ hk => heap_setCell_other _ _ _ _ (fun e => hk (by rw [e]))⟩ (.inr hnb)
  · rcases hat with e | e | e
    · exact .inl e
    · exact .inr (.inl e)
    · refine .inr (.inr ⟨w1.heap.size, e, by omega, ?_⟩)
      have := (hown'.lt _ e).2
      simpa [World.setCell] using this
  · refine ⟨hgrow.os.trans ho1, hgrow.tape.trans ht1, hgrow.output.trans hu1, ?_, fun k hk hkb hkv => ?_⟩
    · have := hgrow.size
      simp [World.setCell]
      omega
    · rw [heap_setCell_other _ _ _ _ (by exact hkb), hgrow.block k (by omega) (fun e => hkv e.symm)]
      exact hk1 k hkb

section
variable (B b : Nat) (p v : Value) (l : List UInt8) (w : World)
theorem cells_byte : Tryd.prog.cellsOf 5 = 1 := by kernel_rfl
theorem else_drew : Else w v.ownBlock w.drew := ⟨rfl, rfl, rfl, Nat.le_refl _, fun _ _ _ => rfl⟩
set_option maxHeartbeats 2000000 in
set_option maxRecDepth 100000 in
theorem string_some (h0 : l ≠ []) (hbk : w.heap[b]? = some (.cells #[p, v] bT (0, 0))) (hown : w.ownsRow B bE 1 v l.length (l.map fun x => .int .u8 x.toNat)) :
    Calls Tryd.prog fSt #[.pointer (some ⟨b, 0, none⟩)] w fun e w' => e = .returned (.string ⟨l.toArray⟩) ∧ Else w v.ownBlock w' := by
  have hl0 : l.length ≠ 0 := by simpa using h0
  obtain ⟨g, cap, cur, rfl, hbg, hg, hnc, hcm, hcs, htake⟩ : ∃ g cap cur, v = .slice (some ⟨g, 0, none⟩) l.length cap ∧ B ≤ g ∧ w.heap[g]? = some (.cells cur bE (0, 0)) ∧ l.length ≤ cap ∧ cap ≤ maxLen ∧ cur.size = cap * 1 ∧ cur.toList.take (l.length * 1) = l.map fun x => .int .u8 x.toNat := by
    rcases hown.2 with ⟨_, hz⟩ | ⟨g, cap, cur, hv, r⟩
    · exact absurd hz hl0
    · exact ⟨g, cap, cur, hv, r⟩
  have c1 : w.drew.cell? ⟨b, 1, none⟩ = some (.slice (some ⟨g, 0, none⟩) l.length cap) := by
    have : w.drew.heap[b]? = some (.cells #[p, .slice (some ⟨g, 0, none⟩) l.length cap] bT (0, 0)) := hbk
    rw [Lib.cell_of_heap this]; rfl
  have hSD : (Builtin.unsafeSliceData_ #[46] 95 #[.slice (some ⟨g, 0, none⟩) l.length cap]).run Tryd.prog w.drew = .ok (.pointer (some ⟨g, 0, none⟩)) w.drew :=
    Lib.run_unsafeSliceData_row _ _ _ _ _ _ (by omega)
  have hUS : (Builtin.unsafeString_ #[95, 3] 9 #[.pointer (some ⟨g, 0, none⟩), .int .i64 l.length]).run Tryd.prog w.drew = .ok (.string ⟨l.toArray⟩) (w.drew.freeze ⟨g, 0, none⟩ l.length) := by
    refine Lib.run_unsafeString_row w.drew 95 3 9 5 Tryd.underlying95 cells_byte g cur.size (by have hg' : w.drew.heap[g]? = some (.cells cur bE (0, 0)) := hg; simp [World.shape?, hg']) l h0 (by omega) (by unfold maxLen at hcm; omega) ?_
    intro j x hx
    exact hown.cells (g := g) rfl j (.int .u8 x.toNat) (by simp [hx])
  have hfin : Else w (Value.slice (some ⟨g, 0, none⟩) l.length cap).ownBlock (w.drew.freeze ⟨g, 0, none⟩ l.length) := by
    have hgk : ∀ k, some g ≠ some k → g ≠ k := fun k h e => h (by rw [e])
    unfold World.freeze
    rw [if_neg hl0]
    refine ⟨rfl, rfl, rfl, by simp, fun k hk hne => ?_⟩
    rw [Array.getElem?_modify, if_neg (hgk k hne)]
    rfl
  have mixed : Tryd.prog.follows Departure.mixedOrders = true := by kernel_rfl
  go_enter Tryd.func38, Tryd.ntmps38
  go_wp2
  go_region_o
  all_goals (go_wp2; go_ret; exact ⟨rfl, hfin⟩)
theorem us_none (W : World) (q : Option Addr) : (Builtin.unsafeString_ #[95, 3] 9 #[.pointer q, .int .i64 0]).run Tryd.prog W = .ok (.string .empty) W :=
  Lib.run_unsafeString_none W _ _ _ q
set_option maxHeartbeats 2000000 in
set_option maxRecDepth 100000 in
theorem string_nil (hbk : w.heap[b]? = some (.cells #[p, .slice none 0 0] bT (0, 0))) :
    Calls Tryd.prog fSt #[.pointer (some ⟨b, 0, none⟩)] w fun e w' => e = .returned (.string ⟨#[]⟩) ∧ w' = w.drew := by
  have hUS := us_none
  have c1 : w.drew.cell? ⟨b, 1, none⟩ = some (.slice none 0 0) := by
    have : w.drew.heap[b]? = some (.cells #[p, .slice none 0 0] bT (0, 0)) := hbk
    rw [Lib.cell_of_heap this]; rfl
  have hSD : (Builtin.unsafeSliceData_ #[46] 95 #[.slice none 0 0]).run Tryd.prog w.drew = .ok (.pointer none) w.drew := rfl
  have mixed : Tryd.prog.follows Departure.mixedOrders = true := by kernel_rfl
  go_enter Tryd.func38, Tryd.ntmps38
  go_wp2
  go_region_o
  all_goals (go_wp2; go_ret; exact ⟨rfl, rfl⟩)
set_option maxHeartbeats 2000000 in
set_option maxRecDepth 100000 in
theorem string_noroom (g : Nat) (cur : Array Value) (hbk : w.heap[b]? = some (.cells #[p, .slice (some ⟨g, 0, none⟩) 0 0] bT (0, 0))) (hg : w.heap[g]? = some (.cells cur bE (0, 0))) :
    Calls Tryd.prog fSt #[.pointer (some ⟨b, 0, none⟩)] w fun e w' => e = .returned (.string ⟨#[]⟩) ∧ Else w none w' := by
  have hUS := us_none
  have hlt : b < w.heap.size := (Array.getElem?_eq_some_iff.1 hbk).1
  have c1 : w.drew.cell? ⟨b, 1, none⟩ = some (.slice (some ⟨g, 0, none⟩) 0 0) := by
    have : w.drew.heap[b]? = some (.cells #[p, .slice (some ⟨g, 0, none⟩) 0 0] bT (0, 0)) := hbk
    rw [Lib.cell_of_heap this]; rfl
  have hSD : (Builtin.unsafeSliceData_ #[46] 95 #[.slice (some ⟨g, 0, none⟩) 0 0]).run Tryd.prog w.drew = .ok (.pointer (some ⟨w.drew.heap.size, 0, none⟩)) (w.drew.alloc (.view ⟨g, 0, none⟩ 5)) :=
    Lib.run_unsafeSliceData_zero w.drew _ _ 5 Tryd.underlying95 ⟨g, 0, none⟩ 0 (5, cur.size) (by have hg' : w.drew.heap[g]? = some (.cells cur bE (0, 0)) := hg; simp [World.shape?, hg'])
  have c2 : (w.drew.alloc (.view ⟨g, 0, none⟩ 5)).cell? ⟨b, 1, none⟩ = some (.slice (some ⟨g, 0, none⟩) 0 0) := by
    have : (w.drew.alloc (.view ⟨g, 0, none⟩ 5)).heap[b]? = _ := (Lib.alloc_old w.drew _ b hlt).trans hbk
    rw [Lib.cell_of_heap this]; rfl
  have c3 : (w.alloc (.view ⟨g, 0, none⟩ 5)).drew.cell? ⟨b, 1, none⟩ = some (.slice (some ⟨g, 0, none⟩) 0 0) := c2
  have c0 : w.cell? ⟨b, 1, none⟩ = some (.slice (some ⟨g, 0, none⟩) 0 0) := c1
  have hfin : ∀ o, Else w none (w.drew.alloc o) := fun o => ⟨rfl, rfl, rfl, by simp, fun k hk _ => Lib.alloc_old w.drew _ k hk⟩
  have mixed : Tryd.prog.follows Departure.mixedOrders = true := by kernel_rfl
  go_enter Tryd.func38, Tryd.ntmps38
  go_wp2
  go_region_o
  all_goals (go_wp2; go_ret; exact ⟨rfl, hfin _⟩)
set_option maxHeartbeats 2000000 in
set_option maxRecDepth 100000 in
theorem string_room (g cap : Nat) (hc0 : cap ≠ 0) (hbk : w.heap[b]? = some (.cells #[p, .slice (some ⟨g, 0, none⟩) 0 cap] bT (0, 0))) :
    Calls Tryd.prog fSt #[.pointer (some ⟨b, 0, none⟩)] w fun e w' => e = .returned (.string ⟨#[]⟩) ∧ w' = w.drew := by
  have hUS := us_none
  have c1 : w.drew.cell? ⟨b, 1, none⟩ = some (.slice (some ⟨g, 0, none⟩) 0 cap) := by
    have : w.drew.heap[b]? = some (.cells #[p, .slice (some ⟨g, 0, none⟩) 0 cap] bT (0, 0)) := hbk
    rw [Lib.cell_of_heap this]; rfl
  have hSD : (Builtin.unsafeSliceData_ #[46] 95 #[.slice (some ⟨g, 0, none⟩) 0 cap]).run Tryd.prog w.drew = .ok (.pointer (some ⟨g, 0, none⟩)) w.drew :=
    Lib.run_unsafeSliceData_row _ _ _ _ _ _ hc0
  clear hc0
  have mixed : Tryd.prog.follows Departure.mixedOrders = true := by kernel_rfl
  go_enter Tryd.func38, Tryd.ntmps38
  go_wp2
  go_region_o
  all_goals (go_wp2; go_ret; exact ⟨rfl, rfl⟩)
theorem string_calls (h : Bld w b v) (hown : w.ownsRow B bE 1 v l.length (l.map fun x => .int .u8 x.toNat)) :
    Calls Tryd.prog fSt #[.pointer (some ⟨b, 0, none⟩)] w fun e w' => e = .returned (.string ⟨l.toArray⟩) ∧ Else w v.ownBlock w' := by
  obtain ⟨p, hp, hbk⟩ := h
  cases l with
  | cons x r => exact string_some B b p v (x :: r) w (by simp) hbk hown
  | nil =>
    rcases hown.2 with ⟨rfl, _⟩ | ⟨g, cap, cur, rfl, hbg, hg, _, _, _, _⟩
    · exact (string_nil b p w hbk).mono fun e w' ⟨h1, h2⟩ => ⟨h1, h2 ▸ else_drew _ w⟩
    · by_cases hc0 : cap = 0
      · subst hc0
        exact (string_noroom b p w g cur hbk hg).mono fun e w' ⟨h1, h2⟩ => ⟨h1, h2.1, h2.2.1, h2.2.2.1, h2.2.2.2.1, fun k hk _ => h2.2.2.2.2 k hk (by simp)⟩
      · exact (string_room b p w g cap hc0 hbk).mono fun e w' ⟨h1, h2⟩ => ⟨h1, h2 ▸ else_drew _ w⟩
set_option maxHeartbeats 2000000 in
theorem len_calls (n : Nat) (A : Option Addr) (c : Nat) (hbk : w.heap[b]? = some (.cells #[p, .slice A n c] bT (0, 0))) : Calls Tryd.prog 37 #[.pointer (some ⟨b, 0, none⟩)] w fun e w' => e = .returned (.int .i64 n) ∧ w' = w := by
  have c1 : w.cell? ⟨b, 1, none⟩ = some (.slice A n c) := by rw [Lib.cell_of_heap hbk]; rfl
  go_enter Tryd.func37, Tryd.ntmps37
  go_wp2
  go_ret
  exact ⟨rfl, rfl⟩
end
theorem bldOk : BldOk Tryd.prog where
  mix := by kernel_rfl
  fi := .inl rfl
  eb := .inr ⟨_, Tryd.func66, by kernel_rfl, by kernel_rfl⟩
  es := ⟨_, Tryd.func36, by kernel_rfl, by kernel_rfl⟩
  et := ⟨_, Tryd.func38, by kernel_rfl, by kernel_rfl⟩
  el := .inr ⟨_, Tryd.func37, by kernel_rfl, by kernel_rfl⟩
  al := ⟨Tryd.t59, by kernel_rfl, by kernel_rfl⟩
  wb := .inr writeByte_calls
  ws := writeString_calls
  st := fun B b l w v h hown _ => string_calls B b v l w h hown
  ln := .inr fun B b bs w v h hown => by
    obtain ⟨p, _, hbk⟩ := h
    rcases hown.2 with ⟨rfl, h0⟩ | ⟨g, cap, cur, rfl, _⟩
    · rw [h0]; exact len_calls b p w 0 none 0 hbk
    · exact len_calls b p w _ _ _ hbk
theorem env0 {cx : Cx} (hP : cx.P = Tryd.prog) : EnvOk cx (envL []) := envL_nil cx (hP ▸ bldOk)
end Go.Avc

/- The stream's Range, Flip and Pick: their contracts. No condition. -/
set_option linter.unusedVariables false
set_option linter.unusedSimpArgs false
set_option maxRecDepth 100000
namespace Go.Avc
open Go Go.Proofs

def rangeS : Spec where
  pre xs := ∃ lo hi : Int, xs = [.st, .i lo, .i hi] ∧ -1073741824 ≤ lo ∧ lo ≤ 1073741824 ∧ -1073741824 ≤ hi ∧ hi ≤ 1073741824
  post xs r := ∃ lo hi q : Int, xs = [.st, .i lo, .i hi] ∧ lo ≤ q ∧ (lo ≤ hi → q ≤ hi) ∧ (hi < lo → q = lo) ∧ r = .i q
  cost _ := 1
  fresh := true


def flipS : Spec where
  pre xs := ∃ m : Int, xs = [.st, .i m] ∧ m ≤ 9223372036854775807
  post xs r := ∃ (m : Int) (b : Bool), xs = [.st, .i m] ∧ r = .b b
  cost _ := 1
  fresh := true

theorem flip_ctr (cx : Cx) (hP : cx.P = Tryd.prog) (hS : cx.ST = 25) : Ctr cx 10 flipS := by
  refine ctr_of (fn := Tryd.f10) (l := [.tmp 4]) (envL [(33, nextS)]) [0, 1, 4] [] [] (envL_cons (next_ctr cx hP hS) (env0 hP)) ?_ (by rw [hP]; exact Tryd.func10) rfl (by kernel_rfl) rfl ?_ ?_
  · rw [hP]; exact ⟨_, Tryd.func10, by kernel_rfl, by kernel_rfl⟩
  · rintro xs ⟨m, rfl, h1⟩
    exact ⟨.b true, m, true, rfl, rfl⟩
  · rintro xs ⟨m, rfl, h1⟩
    refine ⟨by rw [Tryd.ntmps10]; simp, ?_⟩
    simp only [go_sem, hP, Tryd.ntmps10, flipS, nextS, Nat.reduceEqDiff, reduceCtorEq, Nat.reduceMul, Nat.reduceAdd, Nat.reduceLeDiff, Nat.reduceLT, Nat.reduceBNe, Nat.reduceBEq, reduceIte]
    simp [and_assoc, h1]

def intsD (l : List Int) : List (List D) := l.map fun x => [D.int .i64 x]
def isIn (x : Int) (l : List Int) : Prop := x ∈ l
def pickS : Spec where
  pre xs := ∃ l : List Int, xs = [.st, .sl (intsD l)] ∧ l ≠ [] ∧ l.length ≤ 1073741824
  post xs r := ∃ (l : List Int) (x : Int), xs = [.st, .sl (intsD l)] ∧ isIn x l ∧ r = .i x
  cost _ := 1
  fresh := true

theorem pick_ctr (cx : Cx) (hP : cx.P = Tryd.prog) (hS : cx.ST = 25) : Ctr cx 8 pickS := by
  refine ctr_of (fn := Tryd.f8) (l := [.tmp 4]) (envL [(33, nextS)]) [0, 1, 4] [] [] (envL_cons (next_ctr cx hP hS) (env0 hP)) ?_ (by rw [hP]; exact Tryd.func8) rfl (by kernel_rfl) rfl ?_ ?_
  · rw [hP]; exact ⟨_, Tryd.func8, by kernel_rfl, by kernel_rfl⟩
  · rintro xs ⟨l, rfl, h1, h2⟩
    exact (match l, h1 with | x :: t, _ => ⟨.i x, x :: t, x, rfl, List.mem_cons_self, rfl⟩)
  · rintro xs ⟨l, rfl, h1, h2⟩
    refine ⟨by rw [Tryd.ntmps8]; simp, ?_⟩
    simp only [go_sem, hP, Tryd.ntmps8, pickS, nextS, Nat.reduceEqDiff, reduceCtorEq, Nat.reduceMul, Nat.reduceAdd, Nat.reduceLeDiff, Nat.reduceLT, Nat.reduceBNe, Nat.reduceBEq, reduceIte]
    refine ⟨⟨⟨_, rfl, by rw [intsD, List.length_map]; omega⟩, fun h => h.elim⟩, fun a q e h3 h4 => ?_⟩
    have hq : 0 ≤ q ∧ q < (l.length : Int) := by
      simp only [List.cons.injEq, AV.dv.injEq, DV.d.injEq, D.int.injEq, true_and, and_true, intsD, List.length_map] at e
      have := List.length_pos_iff.2 h1
      omega
    have hg : (intsD l).getD q.toNat [D.int .i64 0] = [D.int .i64 (l.getD q.toNat 0)] := by
      rw [List.getD_eq_getElem?_getD, intsD, List.getElem?_map, List.getD_eq_getElem?_getD, List.getElem?_eq_getElem (by omega)]
      rfl
    have hm : l.getD q.toNat 0 ∈ l := by
      rw [List.getD_eq_getElem?_getD, List.getElem?_eq_getElem (by omega)]
      exact List.getElem_mem _
    simp only [hg, go_sem, reduceCtorEq, reduceIte]
    exact ⟨⟨hq.1, by rw [intsD, List.length_map]; exact hq.2⟩, l, _, rfl, hm, rfl⟩
end Go.Avc

/- What a context must be for this seat's contracts. No condition. -/
set_option linter.unusedVariables false
set_option linter.unusedSimpArgs false
namespace Go.Avc
open Go Go.Proofs
structure Seat (cx : Cx) : Prop where
  hP : cx.P = Tryd.prog
  hS : cx.ST = 25
attribute [go_sem] List.cons.injEq AV.dv.injEq DV.d.injEq DV.ag.injEq D.int.injEq D.str.injEq D.bool.injEq D.sl.injEq AV.dp.injEq exists_eq_left' exists_and_left exists_const and_assoc AV.tcons.injEq Int.toNat_natCast Int.toNat_zero implies_true decide_eq_true_eq decide_eq_false_iff_not beq_iff_eq beq_eq_false_iff_ne bne_iff_ne bne_eq_false_iff_eq Bool.and_eq_true Bool.or_eq_true Bool.not_eq_true' Bool.not_eq_false' str_beq false_implies true_implies ge_iff_le gt_iff_lt exists_eq' List.size_toArray exists_eq_right' exists_eq_right
theorem str_beq_nil (s : ByteArray) : (s = ⟨#[]⟩) = (bl s = []) := by rw [← bl_inj]; rfl
theorem str_nil (s : ByteArray) : (s = ⟨#[]⟩) = (s.size = 0) := by
  apply propext
  rw [← bl_inj, ← bl_length, List.length_eq_zero_iff]; rfl
theorem ex_two {p : Prop} : (∃ (_ : Int) (_ : Int), p) ↔ p := ⟨fun ⟨_, _, h⟩ => h, fun h => ⟨0, 0, h⟩⟩
theorem i64w {n : Int} (h1 : -9223372036854775808 ≤ n) (h2 : n ≤ 9223372036854775807) : IntKind.i64.wrap n = n := IntWalk.i64_in _ (by omega)
theorem u8w {n : Int} (h1 : 0 ≤ n) (h2 : n ≤ 255) : IntKind.u8.wrap n = n := by rw [IntKind.wrap_u8]; omega
theorem bt_at {s : ByteArray} {i : Nat} : bt s (i : Int) = (bl s).getD i 0 := bt_bl s i
theorem bt_range (s : ByteArray) (i : Int) : 0 ≤ bt s i ∧ bt s i ≤ 255 := by
  unfold bt
  have := (s.data.toList.getD i.toNat 0).toNat_lt
  omega
theorem bt_tdiv16 (s : ByteArray) (i : Int) : IntKind.u8.wrap ((bt s i).tdiv 16) = bt s i / 16 := by
  have := bt_range s i
  rw [Int.tdiv_eq_ediv_of_nonneg this.1]
  exact u8w (by omega) (by omega)
theorem bt_tmod16 (s : ByteArray) (i : Int) : (bt s i).tmod 16 = bt s i % 16 := Int.tmod_eq_emod_of_nonneg (bt_range s i).1
def rowsB (l : List Int) : List (List D) := l.map fun c => [.int .u8 c]
theorem rowsB_len (l : List Int) : (rowsB l).length = l.length := List.length_map ..
theorem rowsB_app (l m : List Int) : rowsB (l ++ m) = rowsB l ++ rowsB m := List.map_append ..
theorem rowsB_nil : rowsB [] = [] := rfl
theorem rowsB_cons (c : Int) (l : List Int) : rowsB (c :: l) = [.int .u8 c] :: rowsB l := rfl
theorem numsOf_rowsB (l : List Int) : numsOf (rowsB l) = l := by
  unfold numsOf rowsB
  rw [List.map_map]
  induction l with
  | nil => rfl
  | cons x r ih => simp [ih]
theorem strRows_rowsB (b : ByteArray) : strRows b = rowsB (bl b) := by
  unfold strRows rowsB bl
  rw [List.map_map]; rfl
theorem rows1 (c : Int) : [[D.int .u8 c]] = rowsB [c] := rfl
theorem i64s {n : Nat} (h : n < 9223372036854775807) : IntKind.i64.wrap ((n : Int) + 1) = ((n + 1 : Nat) : Int) := by rw [i64w (by omega) (by omega)]; rfl
theorem rowsB_ok {l : List Int} (h : isBs l) : ∀ x ∈ rowsB l, ∃ n : Int, x = [D.int .u8 n] ∧ 0 ≤ n ∧ n ≤ 255 := by
  intro x hx
  obtain ⟨n, hn, rfl⟩ := List.mem_map.1 hx
  exact ⟨n, rfl, h n hn⟩
theorem rowsB_u8 (l : List Int) : ∀ x ∈ rowsB l, ∃ n : Int, x = [D.int .u8 n] := by
  intro x hx
  obtain ⟨n, hn, rfl⟩ := List.mem_map.1 hx
  exact ⟨n, rfl⟩

/-! ### A contract of plain values -/
def flatV1 : AV → Option Value
  | .dv (.d (.int k n)) => some (.int k n)
  | .dv (.d (.bool b)) => some (.bool b)
  | .dv (.d (.str s)) => some (.string s)
  | _ => none
def flatT : AV → Option (List Value)
  | .tnil => some []
  | .tcons a t => match flatV1 a, flatT t with
    | some v, some r => some (v :: r)
    | _, _ => none
  | _ => none
def flatR : AV → Option Value
  | .tcons a t => (flatT (.tcons a t)).map fun l => .tuple l.toArray
  | a => flatV1 a
theorem flatV1_val {cx : Cx} {w0 : World} {ok : Nat → Prop} {ρ : Nat → Value} {w : World} {a : AV} {v u : Value} (h : flatV1 a = some v) (hr : rel0 cx w0 ok ρ w a u) : u = v := by
  unfold flatV1 at h
  split at h
  · cases h; exact Rd.int_inv hr
  · cases h; cases (show Rd _ _ (.bool _) u from hr); rfl
  · cases h; exact Rd.str_inv hr
  · cases h
theorem flatV1_mk {cx : Cx} {w0 : World} {ok : Nat → Prop} {ρ : Nat → Value} {w : World} {a : AV} {v : Value} (h : flatV1 a = some v) : rel0 cx w0 ok ρ w a v ∧ a.plain = true := by
  unfold flatV1 at h
  split at h
  · cases h; exact ⟨Rd.int _ _, rfl⟩
  · cases h; exact ⟨Rd.bool _, rfl⟩
  · cases h; exact ⟨Rd.str _, rfl⟩
  · cases h
theorem flatT_mk {cx : Cx} {w0 : World} {ok : Nat → Prop} {ρ : Nat → Value} {w : World} : ∀ {a : AV} {l : List Value}, flatT a = some l → relT cx w0 ok ρ w a l ∧ a.plain = true
  | .tnil, l, h => by cases h; exact ⟨rfl, rfl⟩
  | .tcons a t, l, h => by
    unfold flatT at h
    split at h
    · rename_i v r h1 h2
      cases h
      have h3 := flatV1_mk (cx := cx) (w0 := w0) (ok := ok) (ρ := ρ) (w := w) h1
      have h4 := flatT_mk (cx := cx) (w0 := w0) (ok := ok) (ρ := ρ) (w := w) h2
      exact ⟨⟨v, r, rfl, h3.1, h4.1⟩, by simp [AV.plain, h3.2, h4.2]⟩
    · cases h
  | .dv _, l, h => by cases h
  | .own _, l, h => by cases h
  | .ptr _ _, l, h => by cases h
  | .eptr _ _ _ _, l, h => by cases h
  | .dp _, l, h => by cases h
  | .st, l, h => by cases h
  | .fn _ _, l, h => by cases h
  | .fv _, l, h => by cases h
  | .nil, l, h => by cases h
  | .lit _ _, l, h => by cases h
  | .sv _ _ _, l, h => by cases h
  | .agz _ _, l, h => by cases h
  | .ago _ _ _, l, h => by cases h
  | .agv _, l, h => by cases h
  | .un, l, h => by cases h
theorem flatR_mk {cx : Cx} {w0 : World} {ok : Nat → Prop} {ρ : Nat → Value} {w : World} {a : AV} {v : Value} (h : flatR a = some v) : relA cx w0 ok ρ w a v ∧ a.plain = true := by
  have k : flatV1 a = some v → relA cx w0 ok ρ w a v ∧ a.plain = true := fun h => ⟨relA_of0 (flatV1_mk h).1, (flatV1_mk (cx := cx) (w0 := w0) (ok := ok) (ρ := ρ) (w := w) h).2⟩
  unfold flatR at h
  split at h
  · rename_i a t
    rw [Option.map_eq_some_iff] at h
    obtain ⟨l, hl, rfl⟩ := h
    have := flatT_mk (cx := cx) (w0 := w0) (ok := ok) (ρ := ρ) (w := w) hl
    exact ⟨⟨l, rfl, this.1⟩, this.2⟩
  · exact k h
theorem vals_of {cx : Cx} {w0 : World} {ok : Nat → Prop} {ρ : Nat → Value} {w : World} : ∀ {xs : List AV} {vs us : List Value}, xs.mapM flatV1 = some vs → xs.length = us.length → (∀ (i : Nat) (a : AV) (u : Value), xs[i]? = some a → us[i]? = some u → rel0 cx w0 ok ρ w a u) → us = vs
  | [], vs, us, h, hl, _ => by
    simp only [List.mapM_nil, Option.pure_def, Option.some.injEq] at h
    subst h
    cases us with
    | nil => rfl
    | cons x r => cases hl
  | a :: xs, vs, us, h, hl, hr => by
    simp only [List.mapM_cons, Option.bind_eq_bind, Option.bind_eq_some_iff, Option.pure_def, Option.some.injEq] at h
    obtain ⟨v, h1, r, h2, rfl⟩ := h
    cases us with
    | nil => cases hl
    | cons u us =>
      rw [flatV1_val h1 (hr 0 a u rfl rfl), vals_of h2 (by simpa using hl) fun i b x hb hx => hr (i + 1) b x hb hx]
/-- A contract of a function of plain values that leaves all memory as it was. -/
theorem ctr_flat {cx : Cx} {f : FuncId} {sp : Spec} (hen : Enters cx.P f) (hc : ∀ xs, sp.cost xs = 0)
    (h : ∀ xs, sp.pre xs → ∃ vals r v, xs.mapM flatV1 = some vals ∧ sp.post xs r ∧ flatR r = some v ∧ ∀ w, GlAt cx w → Calls cx.P f vals.toArray w fun e w' => e = .returned v ∧ Go.RowKit.Below w.heap.size w w') : Ctr cx f sp := by
  refine ⟨hen, fun xs hp => ?_, ?_⟩
  · obtain ⟨vals, r, v, _, h2, _⟩ := h xs hp
    exact ⟨r, h2⟩
  · intro F xs us hcx hF hst hgl hco hlen hargs hp
    obtain ⟨vals, r, v, h1, h2, h3, h4⟩ := h xs hp
    obtain rfl := vals_of h1 hlen hargs
    refine (h4 F.w0 hgl).mono ?_
    rintro e w' ⟨rfl, hb⟩
    have hm := flatR_mk (cx := cx) (w0 := F.w0) (ok := resOk F sp.fresh) (ρ := fun _ => undef) (w := w') h3
    exact ⟨v, r, rfl, ⟨hb.os, hb.tape, hb.output, hb.size, fun b hlt _ => hb.block b hlt⟩, by rw [hc]; exact hst.keep hb.size (fun b hlt => hb.block b hlt), h2, hm.2, hm.1⟩
end Go.Avc

/- The program's structs as Lean structures, and how they lie in rows of cells. No condition. -/
set_option linter.unusedVariables false
set_option linter.unusedSimpArgs false
set_option maxRecDepth 100000
namespace Go.Avc
open Go Go.Proofs

def rowsK (k : IntKind) (l : List Int) : List (List D) := l.map fun c => [.int k c]
theorem rowsK_len (k : IntKind) (l : List Int) : (rowsK k l).length = l.length := List.length_map ..
theorem rowsK_app (k : IntKind) (l m : List Int) : rowsK k (l ++ m) = rowsK k l ++ rowsK k m := List.map_append ..
theorem rowsK_one (k : IntKind) (c : Int) : [[D.int k c]] = rowsK k [c] := rfl
theorem rowsK_get (k : IntKind) (l : List Int) (i : Nat) : (rowsK k l).getD i [.int k 0] = [.int k (l.getD i 0)] := by
  unfold rowsK
  rw [List.getD_eq_getElem?_getD, List.getElem?_map, List.getD_eq_getElem?_getD]
  cases l[i]? <;> rfl
theorem rowsK_set (k : IntKind) (l : List Int) (i : Nat) (c : Int) : (rowsK k l).set i [.int k c] = rowsK k (l.set i c) := by
  unfold rowsK
  rw [List.map_set]
theorem rowsK_flat (k : IntKind) (l : List Int) : ((rowsK k l).all fun x => x.all D.flat) = true := by
  rw [List.all_eq_true]
  intro x hx
  obtain ⟨c, _, rfl⟩ := List.mem_map.1 hx
  rfl
/-- strings as a slice -/
def rowsT (l : List ByteArray) : List (List D) := l.map fun s => [.str s]
theorem rowsT_len (l : List ByteArray) : (rowsT l).length = l.length := List.length_map ..
theorem rowsT_get (l : List ByteArray) (i : Nat) : (rowsT l).getD i [.str ⟨#[]⟩] = [.str (l.getD i ⟨#[]⟩)] := by
  unfold rowsT
  rw [List.getD_eq_getElem?_getD, List.getElem?_map, List.getD_eq_getElem?_getD]
  cases l[i]? <;> rfl
theorem map_inj_of {α β : Type} {f : α → β} (h : ∀ a b, f a = f b → a = b) : ∀ {l m : List α}, (l.map f = m.map f) = (l = m)
  | [], [] => by simp
  | [], b :: m => by simp
  | a :: l, [] => by simp
  | a :: l, b :: m => by
    rw [List.map_cons, List.map_cons, List.cons.injEq, List.cons.injEq, map_inj_of h]
    exact propext ⟨fun ⟨x, y⟩ => ⟨h _ _ x, y⟩, fun ⟨x, y⟩ => ⟨x ▸ rfl, y⟩⟩
theorem rowsT_inj {l m : List ByteArray} : (rowsT l = rowsT m) = (l = m) := map_inj_of fun a b h => by
  simp only [List.cons.injEq, D.str.injEq, and_true] at h; exact h
theorem rowsKi_inj {k : IntKind} {l m : List Int} : (rowsK k l = rowsK k m) = (l = m) := map_inj_of fun a b h => by
  simp only [List.cons.injEq, D.int.injEq, and_true, true_and] at h; exact h
theorem intsDi_inj {l m : List Int} : (intsD l = intsD m) = (l = m) := rowsKi_inj (k := .i64)
/-- Bounds of what is drawn. -/
def okI (n : Int) : Prop := -1125899906842624 ≤ n ∧ n ≤ 1125899906842624
def okS (s : ByteArray) : Prop := s.size ≤ 1073741824
def okL {α : Type} (p : α → Prop) (l : List α) : Prop := l.length ≤ 1048576 ∧ ∀ x ∈ l, p x
theorem okL_z {α : Type} (p : α → Prop) : okL p [] := ⟨Nat.zero_le _, fun _ h => by cases h⟩
theorem ints1 (a : Int) : [[D.int .i64 a]] = intsD [a] := rfl
theorem intsc (a : Int) (l : List Int) : [D.int .i64 a] :: intsD l = intsD (a :: l) := rfl
theorem strs1 (a : ByteArray) : [[D.str a]] = rowsT [a] := rfl
theorem strsc (a : ByteArray) (l : List ByteArray) : [D.str a] :: rowsT l = rowsT (a :: l) := rfl
/-- slices of slices of numbers, of strings -/
def rowsLI (l : List (List Int)) : List (List D) := l.map fun q => [.sl (intsD q)]
def rowsLT (l : List (List ByteArray)) : List (List D) := l.map fun q => [.sl (rowsT q)]

structure TId where
  kind : Int
  text : ByteArray
def TId.z : TId := ⟨0, ⟨#[]⟩⟩
instance : Inhabited TId := ⟨TId.z⟩
def TId.row (x : TId) : List D := [.int .i64 x.kind, .str x.text]
def TId.rows (l : List TId) : List (List D) := l.map TId.row
theorem TId.inj {x y : TId} (h : x.row = y.row) : x = y := by
  obtain ⟨_, _⟩ := x; obtain ⟨_, _⟩ := y
  simp only [TId.row, List.cons.injEq, D.int.injEq, D.str.injEq, D.bool.injEq, D.sl.injEq, true_and, and_true] at h
  obtain ⟨rfl, rfl⟩ := h; rfl
theorem TId.row_inj {x y : TId} : (x.row = y.row) = (x = y) := propext ⟨TId.inj, fun h => h ▸ rfl⟩
theorem TId.rows_inj {l m : List TId} : (TId.rows l = TId.rows m) = (l = m) := map_inj_of fun _ _ => TId.inj
def TId.ok (x : TId) : Prop := okI x.kind ∧ okS x.text
structure TValue where
  kind : Int
  text : ByteArray
  number : Int
def TValue.z : TValue := ⟨0, ⟨#[]⟩, 0⟩
instance : Inhabited TValue := ⟨TValue.z⟩
def TValue.row (x : TValue) : List D := [.int .i64 x.kind, .str x.text, .int .i64 x.number]
def TValue.rows (l : List TValue) : List (List D) := l.map TValue.row
def TValue.ok (x : TValue) : Prop := okI x.kind ∧ okS x.text ∧ okI x.number
structure TField where
  name : ByteArray
  value : TValue
def TField.z : TField := ⟨⟨#[]⟩, ⟨0, ⟨#[]⟩, 0⟩⟩
instance : Inhabited TField := ⟨TField.z⟩
def TField.row (x : TField) : List D := [.str x.name, .int .i64 x.value.kind, .str x.value.text, .int .i64 x.value.number]
def TField.rows (l : List TField) : List (List D) := l.map TField.row
def TField.ok (x : TField) : Prop := okS x.name ∧ TValue.ok x.value
structure TShift where
  at_ : Int
  offset : Int
def TShift.z : TShift := ⟨0, 0⟩
instance : Inhabited TShift := ⟨TShift.z⟩
def TShift.row (x : TShift) : List D := [.int .i64 x.at_, .int .i64 x.offset]
def TShift.rows (l : List TShift) : List (List D) := l.map TShift.row
def TShift.ok (x : TShift) : Prop := okI x.at_ ∧ okI x.offset
structure TZone where
  name : ByteArray
  shifts : List TShift
def TZone.z : TZone := ⟨⟨#[]⟩, []⟩
instance : Inhabited TZone := ⟨TZone.z⟩
def TZone.row (x : TZone) : List D := [.str x.name, .sl (TShift.rows x.shifts)]
def TZone.rows (l : List TZone) : List (List D) := l.map TZone.row
def TZone.ok (x : TZone) : Prop := okS x.name ∧ okL TShift.ok x.shifts
structure TWindow where
  from_ : Int
  to_ : Int
def TWindow.z : TWindow := ⟨0, 0⟩
instance : Inhabited TWindow := ⟨TWindow.z⟩
def TWindow.row (x : TWindow) : List D := [.int .i64 x.from_, .int .i64 x.to_]
def TWindow.rows (l : List TWindow) : List (List D) := l.map TWindow.row
def TWindow.ok (x : TWindow) : Prop := okI x.from_ ∧ okI x.to_
structure TCap where
  channel : Int
  purpose : ByteArray
  many : Int
  within : Int
def TCap.z : TCap := ⟨0, ⟨#[]⟩, 0, 0⟩
instance : Inhabited TCap := ⟨TCap.z⟩
def TCap.row (x : TCap) : List D := [.int .i64 x.channel, .str x.purpose, .int .i64 x.many, .int .i64 x.within]
def TCap.rows (l : List TCap) : List (List D) := l.map TCap.row
def TCap.ok (x : TCap) : Prop := okI x.channel ∧ okS x.purpose ∧ okI x.many ∧ okI x.within
structure TPool where
  name : ByteArray
  channel : Int
  perMinute : Int
  first : Int
  warm : List Int
def TPool.z : TPool := ⟨⟨#[]⟩, 0, 0, 0, []⟩
instance : Inhabited TPool := ⟨TPool.z⟩
def TPool.row (x : TPool) : List D := [.str x.name, .int .i64 x.channel, .int .i64 x.perMinute, .int .i64 x.first, .sl (intsD x.warm)]
def TPool.rows (l : List TPool) : List (List D) := l.map TPool.row
def TPool.ok (x : TPool) : Prop := okS x.name ∧ okI x.channel ∧ okI x.perMinute ∧ okI x.first ∧ okL okI x.warm
structure TSendRules where
  quiet : List Int
  quietFrom : Int
  quietTo : Int
  ranks : List ByteArray
  caps : List TCap
  pools : List TPool
  delays : List Int
def TSendRules.z : TSendRules := ⟨[], 0, 0, [], [], [], []⟩
instance : Inhabited TSendRules := ⟨TSendRules.z⟩
def TSendRules.row (x : TSendRules) : List D := [.sl (intsD x.quiet), .int .i64 x.quietFrom, .int .i64 x.quietTo, .sl (rowsT x.ranks), .sl (TCap.rows x.caps), .sl (TPool.rows x.pools), .sl (intsD x.delays)]
def TSendRules.rows (l : List TSendRules) : List (List D) := l.map TSendRules.row
def TSendRules.ok (x : TSendRules) : Prop := okL okI x.quiet ∧ okI x.quietFrom ∧ okI x.quietTo ∧ okL okS x.ranks ∧ okL TCap.ok x.caps ∧ okL TPool.ok x.pools ∧ okL okI x.delays
structure TMeasure where
  name : ByteArray
  how : Int
  far : Int
  points : Int
def TMeasure.z : TMeasure := ⟨⟨#[]⟩, 0, 0, 0⟩
instance : Inhabited TMeasure := ⟨TMeasure.z⟩
def TMeasure.row (x : TMeasure) : List D := [.str x.name, .int .i64 x.how, .int .i64 x.far, .int .i64 x.points]
def TMeasure.rows (l : List TMeasure) : List (List D) := l.map TMeasure.row
def TMeasure.ok (x : TMeasure) : Prop := okS x.name ∧ okI x.how ∧ okI x.far ∧ okI x.points
structure TNeed where
  name : ByteArray
  kind : Int
  must : Bool
def TNeed.z : TNeed := ⟨⟨#[]⟩, 0, false⟩
instance : Inhabited TNeed := ⟨TNeed.z⟩
def TNeed.row (x : TNeed) : List D := [.str x.name, .int .i64 x.kind, .bool x.must]
def TNeed.rows (l : List TNeed) : List (List D) := l.map TNeed.row
def TNeed.ok (x : TNeed) : Prop := okS x.name ∧ okI x.kind
structure TSchema where
  name : ByteArray
  needs : List TNeed
def TSchema.z : TSchema := ⟨⟨#[]⟩, []⟩
instance : Inhabited TSchema := ⟨TSchema.z⟩
def TSchema.row (x : TSchema) : List D := [.str x.name, .sl (TNeed.rows x.needs)]
def TSchema.rows (l : List TSchema) : List (List D) := l.map TSchema.row
def TSchema.ok (x : TSchema) : Prop := okS x.name ∧ okL TNeed.ok x.needs
structure TEvent where
  id : ByteArray
  name : ByteArray
  at_ : Int
  who : TId
  fields : List TField
def TEvent.z : TEvent := ⟨⟨#[]⟩, ⟨#[]⟩, 0, ⟨0, ⟨#[]⟩⟩, []⟩
instance : Inhabited TEvent := ⟨TEvent.z⟩
def TEvent.row (x : TEvent) : List D := [.str x.id, .str x.name, .int .i64 x.at_, .int .i64 x.who.kind, .str x.who.text, .sl (TField.rows x.fields)]
def TEvent.rows (l : List TEvent) : List (List D) := l.map TEvent.row
def TEvent.ok (x : TEvent) : Prop := okS x.id ∧ okS x.name ∧ okI x.at_ ∧ TId.ok x.who ∧ okL TField.ok x.fields
structure TTerm where
  region : ByteArray
  channel : Int
  free : Bool
  days : Int
  wait : Int
def TTerm.z : TTerm := ⟨⟨#[]⟩, 0, false, 0, 0⟩
instance : Inhabited TTerm := ⟨TTerm.z⟩
def TTerm.row (x : TTerm) : List D := [.str x.region, .int .i64 x.channel, .bool x.free, .int .i64 x.days, .int .i64 x.wait]
def TTerm.rows (l : List TTerm) : List (List D) := l.map TTerm.row
def TTerm.ok (x : TTerm) : Prop := okS x.region ∧ okI x.channel ∧ okI x.days ∧ okI x.wait
structure TPurpose where
  name : ByteArray
  terms : List TTerm
def TPurpose.z : TPurpose := ⟨⟨#[]⟩, []⟩
instance : Inhabited TPurpose := ⟨TPurpose.z⟩
def TPurpose.row (x : TPurpose) : List D := [.str x.name, .sl (TTerm.rows x.terms)]
def TPurpose.rows (l : List TPurpose) : List (List D) := l.map TPurpose.row
def TPurpose.ok (x : TPurpose) : Prop := okS x.name ∧ okL TTerm.ok x.terms
structure TStatement where
  no : Int
  at_ : Int
  id : TId
  purpose : ByteArray
  region : ByteArray
  channel : Int
  what : Int
def TStatement.z : TStatement := ⟨0, 0, ⟨0, ⟨#[]⟩⟩, ⟨#[]⟩, ⟨#[]⟩, 0, 0⟩
instance : Inhabited TStatement := ⟨TStatement.z⟩
def TStatement.row (x : TStatement) : List D := [.int .i64 x.no, .int .i64 x.at_, .int .i64 x.id.kind, .str x.id.text, .str x.purpose, .str x.region, .int .i64 x.channel, .int .i64 x.what]
def TStatement.rows (l : List TStatement) : List (List D) := l.map TStatement.row
def TStatement.ok (x : TStatement) : Prop := okI x.no ∧ okI x.at_ ∧ TId.ok x.id ∧ okS x.purpose ∧ okS x.region ∧ okI x.channel ∧ okI x.what
end Go.Avc

/- A law that begins by laying its stream: its walk out of what the rest of its code asks. No condition. -/
set_option linter.unusedVariables false
set_option linter.unusedSimpArgs false
namespace Go.Avc
open Go Go.Proofs

theorem getD_put' {a : Act} {d t : Nat} {v : Value} (hd : d < a.tmps.size) : (a.put (some d) v).tmps.getD t undef = if t = d then v else a.tmps.getD t undef := getD_put hd
theorem put_size {a : Act} {d : Option Nat} {v : Value} : (a.put d v).tmps.size = a.tmps.size := by cases d <;> simp [Act.put]
theorem put_defers {a : Act} {d : Option Nat} {v : Value} : (a.put d v).defers = a.defers := by cases d <;> rfl

/-- The result's slot is laid, the stream is built and boxed. -/
theorem head_wp {P : Program} {Q : Exit → Act → World → Prop} {c : Code} {i0 i1 : Nat} {o0 m bo bx sg : Oper} {d x1 x2 x3 x4 : Nat} {ST : TypeId}
    (h0 : o0.op = .assign (.const (.bool false)) ∧ o0.dst = some d ∧ o0.guard = none) (h1 : m.op = .move (.tmp 0) ∧ m.dst = some x1 ∧ m.guard = none)
    (h2 : bo.op = .build ST #[(0, .tmp x1)] ∧ bo.dst = some x2 ∧ bo.guard = none) (h3 : bx.op = .box ST (.tmp x2) ∧ bx.dst = some x3 ∧ bx.guard = none)
    (h4 : sg.op = .assign (.tmp x3) ∧ sg.dst = some x4 ∧ sg.guard = none) (hd : d ≠ 0)
    (hbuild : ∀ (A : Option Addr) (n cp : Nat) (w : World) (ev : Operand → Value) (o : Oper), o.op = .build ST #[(0, .tmp x1)] → ev (.tmp x1) = .slice A n cp → (execOp ev o).run P w = .ok (.value (.agg #[.slice A n cp, .int .i64 0])) w)
    {a : Act} {w : World} {A : Option Addr} {n cp : Nat} (ha : a.tmps.getD 0 undef = .slice A n cp) (hs : d < a.tmps.size ∧ x1 < a.tmps.size ∧ x2 < a.tmps.size ∧ x3 < a.tmps.size ∧ x4 < a.tmps.size)
    (hc : ∀ a' : Act, (∀ t, a'.tmps.getD t undef = if t = x4 then .pointer (some ⟨w.heap.size, 0, none⟩) else if t = x3 then .pointer (some ⟨w.heap.size, 0, none⟩) else if t = x2 then .agg #[.slice A n cp, .int .i64 0] else if t = x1 then .slice A n cp else if t = d then .bool false else a.tmps.getD t undef) →
      a'.tmps.size = a.tmps.size → a'.defers = a.defers → c.wp P Q a' (w.alloc (.cells #[.slice A n cp, .int .i64 0] ST))) :
    (Code.seq (.region i0 #[o0] false) (.seq (.region i1 #[m, bo, bx, sg] false) c)).wp P Q a w := by
  obtain ⟨s0, s1, s2, s3, s4⟩ := hs
  refine wp_seq (wp_region_list ?_)
  refine wpList_plain h0.2.2 fun K hK => ?_
  have r0 : (execOp a.eval o0).run P w = .ok (.value (.bool false)) w := by simp [execOp, h0.1, Act.eval]
  unfold Oper.wp
  rw [r0, Oper.upon_value, h0.2.1]
  refine hK _ _ ?_
  refine wp_seq (wp_region_list ?_)
  have e0 : (a.put (some d) (.bool false)).tmps.getD 0 undef = .slice A n cp := by rw [getD_put' s0, if_neg (fun e => hd e.symm)]; exact ha
  refine wpList_plain h1.2.2 fun K1 hK1 => ?_
  have r1 : (execOp (a.put (some d) (.bool false)).eval m).run P w = .ok (.value (.slice A n cp)) w := by simp [execOp, h1.1, Act.eval, e0]
  unfold Oper.wp
  rw [r1, Oper.upon_value, h1.2.1]
  refine hK1 _ _ ?_
  refine wpList_plain h2.2.2 fun K2 hK2 => ?_
  have e1 : ((a.put (some d) (.bool false)).put (some x1) (.slice A n cp)).eval (.tmp x1) = .slice A n cp := by
    show ((a.put (some d) (.bool false)).put (some x1) (.slice A n cp)).tmps.getD x1 undef = _
    rw [getD_put' (by rw [put_size]; exact s1), if_pos rfl]
  have r2 := hbuild A n cp w _ bo h2.1 e1
  unfold Oper.wp
  rw [r2, Oper.upon_value, h2.2.1]
  refine hK2 _ _ ?_
  refine wpList_plain h3.2.2 fun K3 hK3 => ?_
  have e2 : (((a.put (some d) (.bool false)).put (some x1) (.slice A n cp)).put (some x2) (.agg #[.slice A n cp, .int .i64 0])).eval (.tmp x2) = .agg #[.slice A n cp, .int .i64 0] := by
    show (((a.put (some d) (.bool false)).put (some x1) (.slice A n cp)).put (some x2) (.agg #[.slice A n cp, .int .i64 0])).tmps.getD x2 undef = _
    rw [getD_put' (by rw [put_size, put_size]; exact s2), if_pos rfl]
  have r3 : (execOp (((a.put (some d) (.bool false)).put (some x1) (.slice A n cp)).put (some x2) (.agg #[.slice A n cp, .int .i64 0])).eval bx).run P w = .ok (.value (.pointer (some ⟨w.heap.size, 0, none⟩))) (w.alloc (.cells #[.slice A n cp, .int .i64 0] ST)) := by
    simp only [execOp, h3.1, Instr.box, newVar, newRow, Sem.run_bind, run_newObj, Sem.run_pure, Result.andThen_ok, e2]
    rfl
  unfold Oper.wp
  rw [r3, Oper.upon_value, h3.2.1]
  refine hK3 _ _ ?_
  refine wpList_plain h4.2.2 fun K4 hK4 => ?_
  generalize hA3 : ((((a.put (some d) (.bool false)).put (some x1) (.slice A n cp)).put (some x2) (.agg #[.slice A n cp, .int .i64 0])).put (some x3) (.pointer (some ⟨w.heap.size, 0, none⟩))) = a3
  have hsz : a3.tmps.size = a.tmps.size := by rw [← hA3]; simp only [put_size]
  have e3 : a3.eval (.tmp x3) = .pointer (some ⟨w.heap.size, 0, none⟩) := by
    show a3.tmps.getD x3 undef = _
    rw [← hA3, getD_put' (by simp only [put_size]; exact s3), if_pos rfl]
  have r4 : (execOp a3.eval sg).run P (w.alloc (.cells #[.slice A n cp, .int .i64 0] ST)) = .ok (.value (.pointer (some ⟨w.heap.size, 0, none⟩))) (w.alloc (.cells #[.slice A n cp, .int .i64 0] ST)) := by simp [execOp, h4.1, e3]
  unfold Oper.wp
  rw [r4, Oper.upon_value, h4.2.1]
  refine hK4 _ _ ?_
  refine hc _ (fun t => ?_) (by rw [put_size, hsz]) (by rw [put_defers, ← hA3]; simp only [put_defers])
  rw [getD_put' (by rw [hsz]; exact s4), ← hA3, getD_put' (by simp only [put_size]; exact s3), getD_put' (by simp only [put_size]; exact s2), getD_put' (by simp only [put_size]; exact s1), getD_put' s0]

def intRows (L : List Int) : List (List D) := L.map fun x => [.int .i64 x]
/-- A law's walk: its stream laid, the rest by what its code asks. -/
theorem law_calls {P : Program} {f : FuncId} {fn : Func} {c : Code} {i0 i1 : Nat} {o0 m bo bx sg : Oper} {d x1 x2 x3 x4 : Nat} {ST : TypeId} {E : Env} {B : Nat} {live : List Nat} {HH : List Nat} {hz : List (Nat × List Nat × List Nat)} {ex : List AV} {xv : List Value} {L : List Int} {A : Option Addr} {cp ng : Nat} {glob : Nat → Option (List D)} {W : World}
    (hf : P.funcs[f]? = some fn) (hb : fn.body = some (Code.seq (.region i0 #[o0] false) (.seq (.region i1 #[m, bo, bx, sg] false) c))) (hl : fn.results = [ResultVar.tmp d].toArray) (hok : codeOk fn.ntmps hz c = true)
    (h0 : o0.op = .assign (.const (.bool false)) ∧ o0.dst = some d ∧ o0.guard = none) (h1 : m.op = .move (.tmp 0) ∧ m.dst = some x1 ∧ m.guard = none)
    (h2 : bo.op = .build ST #[(0, .tmp x1)] ∧ bo.dst = some x2 ∧ bo.guard = none) (h3 : bx.op = .box ST (.tmp x2) ∧ bx.dst = some x3 ∧ bx.guard = none)
    (h4 : sg.op = .assign (.tmp x3) ∧ sg.dst = some x4 ∧ sg.guard = none)
    (hbuild : ∀ (A : Option Addr) (n cp : Nat) (w : World) (ev : Operand → Value) (o : Oper), o.op = .build ST #[(0, .tmp x1)] → ev (.tmp x1) = .slice A n cp → (execOp ev o).run P w = .ok (.value (.agg #[.slice A n cp, .int .i64 0])) w)
    (hlt : xv.length < d ∧ d < x1 ∧ x4 < x1 ∧ d < x4 ∧ x1 < x2 ∧ x2 < x3 ∧ x3 < fn.ntmps) (hxl : ex.length = xv.length) (hxr : ∀ (i : Nat) (x : AV) (u : Value), ex[i]? = some x → xv[i]? = some u → flatV1 x = some u)
    (hB : B ≤ 4611686018427387904) (hng : ng ≤ W.heap.size) (hrd : Rd (fun k => k < W.heap.size) W (.sl (intRows L)) (.slice A L.length cp)) (hgl : GlAt ⟨P, none, L, ST, ng, glob⟩ W)
    (hvc : ∀ cx : Cx, cx.P = P → cx.ST = ST → (∀ w, GlAt cx w → GlAt ⟨P, none, L, ST, ng, glob⟩ w) → cx.glob = glob → EnvOk cx E ∧ vc ⟨cx, E, B, fn.ntmps, live, HH, hz⟩ c (Ends P (fun r => r = .b true) true [ResultVar.tmp d] B) (Ends P (fun r => r = .b true) true [ResultVar.tmp d] B) (fun _ _ => False)
      ⟨upd (upd (argS (.un :: ex)) d (.b false)) x4 .st, noO, 0⟩) :
    Calls P f (.slice A L.length cp :: xv).toArray W fun e W' => e = .returned (.bool true) ∧ RowKit.Below W.heap.size W W' := by
  obtain ⟨l1, l2, l3, l4, l5, l6, l7⟩ := hlt
  let cx : Cx := ⟨P, some W.heap.size, L, ST, ng, glob⟩
  let w1 : World := W.alloc (.cells #[.slice A L.length cp, .int .i64 0] ST)
  let F : Fr := ⟨cx, w1, fun k => k < W.heap.size, 0, B, fn.ntmps, w1, fun _ => False⟩
  have hs1 : W.heap.size < w1.heap.size := alloc_size W _
  have hw : ∀ b, b < W.heap.size → w1.heap[b]? = W.heap[b]? := fun b hb => (alloc_gr W _).block b hb (by simp)
  have hF : F.Wf := ⟨fun b hb => ⟨by have : b < W.heap.size := hb; show b < w1.heap.size; omega, fun e => by have h1 : W.heap.size = b := Option.some.inj e; have : b < W.heap.size := hb; omega⟩, fun b hb => by show b < W.heap.size; have : b < ng := hb; omega, fun b hb => by cases hb; exact hs1, by show 0 + B ≤ _; omega⟩
  have hst : StAt cx 0 w1 := fun b hb => by
    cases hb
    exact ⟨hng, A, cp, 0, heap_alloc_new W _, by omega, by omega, hrd.mono (Nat.le_of_lt hs1) (fun k hk _ => hk) (fun k hk _ => hw k hk)⟩
  have hgl0 : GlAt cx W := hgl
  have hgl1 : GlAt cx w1 := fun k l hk => by
    obtain ⟨g0, g1, cs, g2, g3⟩ := hgl0 k l hk
    exact ⟨g0, by omega, cs, fun j u hj => (cell_congr (a := ⟨k, j, none⟩) (hw k g1)).trans (g2 j u hj), g3.mono (Nat.le_of_lt hs1) (fun _ h _ => h) (fun b hb _ => hw b (by have : b < ng := hb; omega))⟩
  obtain ⟨hE, hv⟩ := hvc cx rfl rfl (fun w h => h) rfl
  have hend : ∀ (σ : St) (a : Act) (w : World), Rel F σ a w → Ends P (fun r => r = .b true) true [ResultVar.tmp d] B σ → a.defers = [] ∧ ∃ v, (results fn a.tmps).run P w = .ok v w ∧ Ending.returned v = .returned (.bool true) ∧ RowKit.Below W.heap.size W w := by
    intro σ a w h he
    obtain ⟨M, ρ, h⟩ := h
    obtain ⟨e1, e2⟩ := he
    split at e2
    · rename_i r hr
      obtain ⟨h3, v, h4, h5⟩ := outA_rel hF h hl hr
      subst e2
      have : v = .bool true := by cases (show Rd _ _ (.bool true) v from h5); rfl
      subst this
      refine ⟨h.df, _, h4, rfl, h.gr.os, h.gr.tape, h.gr.output, ?_, fun k hk => ?_⟩
      · have : w1.heap.size ≤ w.heap.size := h.gr.size; omega
      · exact (h.gr.block k (by show k < w1.heap.size; omega) (fun e => by have e' : W.heap.size = k := Option.some.inj e; omega)).trans (hw k hk)
    · exact e2.elim
  refine calls_of_wp hf hb ?_
  have hpd : ∀ t, ((Value.slice A L.length cp :: xv).toArray ++ Array.replicate (fn.ntmps - (Value.slice A L.length cp :: xv).toArray.size) undef).getD t undef = (Value.slice A L.length cp :: xv).getD t undef := by
    intro t
    rw [Array.getD_eq_getD_getElem?, Array.getElem?_append, List.getD_eq_getElem?_getD]
    split
    · rw [List.getElem?_toArray]
    · rename_i h
      rw [Array.getElem?_replicate, List.getElem?_eq_none (by simpa using h)]
      split <;> rfl
  have hsz : ((Value.slice A L.length cp :: xv).toArray ++ Array.replicate (fn.ntmps - (Value.slice A L.length cp :: xv).toArray.size) undef).size = fn.ntmps := by
    simp; omega
  refine head_wp (A := A) (n := L.length) (cp := cp) h0 h1 h2 h3 h4 (by omega) hbuild (by rw [hpd]; rfl) (by simp only [hsz]; omega) fun a' hg hsa hda => ?_
  refine vc_sound (F := F) (live := live) (H := HH) (hz := hz) hE hF c hok _ _ _ _ (fun σ a w h hk => hend σ a w h hk) (fun σ a w h hk => hend σ a w h hk) (fun j σ a w h hk => hk.elim) _ _ _ ?_ hv
  refine ⟨fun _ => False, fun _ => undef, Gr.refl _ _, hst, hgl1, fun b hb => hb.elim, fun t => ?_, (fun k o hk => by cases hk), (fun k k' o o' hk => by cases hk), hda, by rw [hsa, hsz]; exact Nat.le_refl _, ⟨Nat.le_refl _, fun _ _ _ _ => rfl, fun _ hb => hb.elim⟩⟩
  rw [hg]
  show relA _ _ _ _ _ (upd (upd (argS (.un :: ex)) d (.b false)) x4 .st t) _
  simp only [upd_apply]
  by_cases e4 : t = x4
  · rw [if_pos e4, if_pos e4]; exact ⟨_, rfl, rfl⟩
  · rw [if_neg e4, if_neg e4]
    by_cases ed : t = d
    · rw [if_pos ed, if_neg (by omega), if_neg (by omega), if_neg (by omega), if_pos ed]; exact Rd.bool _
    · rw [if_neg ed]
      cases t with
      | zero => exact trivial
      | succ t =>
        show relA _ _ _ _ _ (ex.getD t .un) _
        rw [List.getD_eq_getElem?_getD]
        cases hx : ex[t]? with
        | none => exact trivial
        | some x =>
          have hlt : t < xv.length := by rw [← hxl]; exact (List.getElem?_eq_some_iff.1 hx).1
          have hfl := hxr t x _ hx (List.getElem?_eq_getElem hlt)
          rw [if_neg (by omega), if_neg (by omega), if_neg (by omega), if_neg ed, hpd, List.getD_cons_succ, List.getD_eq_getElem?_getD, List.getElem?_eq_getElem hlt]
          exact relA_of0 (flatV1_mk hfl).1
theorem build_stream {x1 : Nat} (A : Option Addr) (n cp : Nat) (w : World) (ev : Operand → Value) (o : Oper) (ho : o.op = .build 25 #[(0, .tmp x1)]) (he : ev (.tmp x1) = .slice A n cp) : (execOp ev o).run Tryd.prog w = .ok (.value (.agg #[.slice A n cp, .int .i64 0])) w := by
  have hb : Tryd.prog.built 25 [(0, .slice A n cp)] = some #[.slice A n cp, .int .i64 0] := by kernel_rfl
  simp [execOp, ho, he, run_build w 25 _ _ hb]
end Go.Avc

/- Function values over data: a closure's contract, what it answers. No condition. -/
set_option linter.unusedVariables false
set_option linter.unusedSimpArgs false
set_option maxRecDepth 100000
namespace Go.Avc
open Go Go.Proofs

theorem Ctr.weaken {cx : Cx} {f : FuncId} {sp sp' : Spec} (h : Ctr cx f sp) (hp : ∀ xs, sp'.pre xs → sp.pre xs) (hq : ∀ xs r, sp'.pre xs → sp.post xs r → sp'.post xs r) (hc : ∀ xs, sp.cost xs ≤ sp'.cost xs) (hf : sp'.fresh = sp.fresh) : Ctr cx f sp' := by
  obtain ⟨h1, h2, h3⟩ := h
  refine ⟨h1, fun xs ha => ?_, fun F xs vals e1 e2 e3 e4 e5 e6 e7 e8 => (h3 F xs vals e1 e2 e3 e4 (Nat.le_trans (hc xs) e5) e6 e7 (hp xs e8)).mono fun e w' hh => ?_⟩
  · obtain ⟨r, hr⟩ := h2 xs (hp xs ha)
    exact ⟨r, hq xs r ha hr⟩
  · obtain ⟨v, r, g1, g2, g3, g4, g5, g6⟩ := hh
    exact ⟨v, r, g1, g2, g3.le (Nat.add_le_add_left (hc xs) _), hq xs r e8 g4, g5, by rw [hf]; exact g6⟩
/-- Does a function value say yes to x? -/
noncomputable def FSpec.holds (sp : FSpec) (x : DV) : Bool := @decide (sp.post [x] (.d (.bool true))) (Classical.propDecidable _)
/-- It takes x, and answers just one thing. -/
def FSpec.det (sp : FSpec) (x : DV) : Prop := sp.pre [x] ∧ ∀ y, sp.post [x] y ↔ y = .d (.bool (sp.holds x))
/-- A closure of one argument that answers a bool, out of what its captured variables hold. -/
def csp {γ α : Type} (F : γ → List (List D)) (f : α → DV) (g : γ → α → Bool) (caps : List (List D)) : FSpec where
  pre xs := ∃ c a, caps = F c ∧ xs = [f a]
  post xs r := ∃ c a, caps = F c ∧ xs = [f a] ∧ r = .d (.bool (g c a))
def cloS {γ α : Type} (F : γ → List (List D)) (f : α → DV) (g : γ → α → Bool) : Spec where
  pre xs := ∃ c a, xs = .dv (f a) :: (F c).map .dp
  post xs r := ∃ c a, xs = .dv (f a) :: (F c).map .dp ∧ r = .b (g c a)
  cost _ := 0
  fresh := true
theorem dp_inj : ∀ {l m : List (List D)}, l.map AV.dp = m.map AV.dp → l = m
  | [], [], _ => rfl
  | [], b :: m, h => by simp at h
  | a :: l, [], h => by simp at h
  | a :: l, b :: m, h => by
    rw [List.map_cons, List.map_cons, List.cons.injEq, AV.dp.injEq] at h
    rw [h.1, dp_inj h.2]
theorem clo_of {cx : Cx} {fn : FuncId} {γ α : Type} {F : γ → List (List D)} {f : α → DV} {g : γ → α → Bool} (h : Ctr cx fn (cloS F f g)) (caps : List (List D)) : Ctr cx fn (clo (csp F f g) caps) := by
  refine h.weaken (fun xs hx => ?_) (fun xs r hx hr => ?_) (fun _ => Nat.le_refl _) rfl
  · obtain ⟨ys, rfl, c, a, rfl, rfl⟩ := hx
    exact ⟨c, a, rfl⟩
  · obtain ⟨ys, rfl, c', a', rfl, rfl⟩ := hx
    obtain ⟨c, a, e, rfl⟩ := hr
    have e2 : AV.dv (f a') :: (F c').map AV.dp = AV.dv (f a) :: (F c).map AV.dp := e
    rw [List.cons.injEq] at e2
    have e3 := dp_inj e2.2
    have e4 : f a' = f a := by simpa using e2.1
    exact ⟨[f a'], _, rfl, rfl, c, a, e3, by rw [e4], rfl⟩
theorem csp_post {γ α : Type} {F : γ → List (List D)} {f : α → DV} {g : γ → α → Bool} (hF : ∀ c d, F c = F d → c = d) (hf : ∀ a b, f a = f b → a = b) (c : γ) (a : α) (y : DV) : (csp F f g (F c)).post [f a] y ↔ y = .d (.bool (g c a)) := by
  constructor
  · rintro ⟨c', a', h1, h2, rfl⟩
    rw [hF _ _ h1, hf a a' (by simpa using h2)]
  · rintro rfl
    exact ⟨c, a, rfl, rfl, rfl⟩
theorem csp_holds {γ α : Type} {F : γ → List (List D)} {f : α → DV} {g : γ → α → Bool} (hF : ∀ c d, F c = F d → c = d) (hf : ∀ a b, f a = f b → a = b) (c : γ) (a : α) : (csp F f g (F c)).holds (f a) = g c a := by
  unfold FSpec.holds
  cases hg : g c a with
  | true => exact @decide_eq_true _ (Classical.propDecidable _) ((csp_post hF hf c a _).2 (by rw [hg]))
  | false => exact @decide_eq_false _ (Classical.propDecidable _) (fun h => by have := (csp_post hF hf c a _).1 h; simp [hg] at this)
theorem csp_det {γ α : Type} {F : γ → List (List D)} {f : α → DV} {g : γ → α → Bool} (hF : ∀ c d, F c = F d → c = d) (hf : ∀ a b, f a = f b → a = b) (c : γ) (a : α) : (csp F f g (F c)).det (f a) :=
  ⟨⟨c, a, rfl, rfl⟩, fun y => by rw [csp_holds hF hf]; exact csp_post hF hf c a y⟩
/-- Nothing captured. -/
def F0 (_ : Unit) : List (List D) := []
theorem F0_inj : ∀ c d, F0 c = F0 d → c = d := fun _ _ _ => rfl
abbrev AV.u8 (c : Int) : AV := .dv (.d (.int .u8 c))
def u8D (c : Int) : DV := .d (.int .u8 c)
theorem u8D_inj : ∀ a b, u8D a = u8D b → a = b := fun a b h => by simpa [u8D] using h
def intD (c : Int) : DV := .d (.int .i64 c)
theorem intD_inj : ∀ a b, intD a = intD b → a = b := fun a b h => by simpa [intD] using h
def strD (c : ByteArray) : DV := .d (.str c)
theorem strD_inj : ∀ a b, strD a = strD b → a = b := fun a b h => by simpa [strD] using h
theorem ag_inj {α : Type} {row : α → List D} (h : ∀ x y, row x = row y → x = y) : ∀ a b, DV.ag (row a) = DV.ag (row b) → a = b := fun a b e => h a b (by simpa using e)

theorem AllR_sw (x : AV) (p : Prop) (k : AV → Prop) : AllR (fun r => r = x ∧ p) k = (p → k x) := propext ⟨fun h hp => h x ⟨rfl, hp⟩, fun h r ⟨e, hp⟩ => e ▸ h hp⟩
theorem AllR_sw' (x : AV) (p : Prop) (k : AV → Prop) : AllR (fun r => r = x ∧ p) k = (p → k x) := AllR_sw x p k
attribute [go_sem] AllR_sw
attribute [go_sem ↓] AllR_sw'
theorem FSpec.det.post {sp : FSpec} {x : DV} (h : sp.det x) (y : DV) : sp.post [x] y = (y = .d (.bool (sp.holds x))) := propext (h.2 y)
theorem FSpec.det.pre {sp : FSpec} {x : DV} (h : sp.det x) : sp.pre [x] = True := eq_true h.1

/-! ### Keys -/
def inB (n lo hi : Int) : Bool := decide (lo ≤ n ∧ n ≤ hi)
def inS  : Spec where
  pre xs := ∃ (n : Int) (lo : Int) (hi : Int), xs = [.i n, .i lo, .i hi]
  post xs y := ∃ (n : Int) (lo : Int) (hi : Int), xs = [.i n, .i lo, .i hi] ∧ y = .b (inB n lo hi)
  cost _ := 0
  fresh := true
theorem inS_c  (xs : List AV) : (inS).cost xs = 0 := nr rfl
theorem inS_f  : (inS).fresh = true := nr rfl
theorem inS_q  (n : Int) (lo : Int) (hi : Int) : (inS).pre [.i n, .i lo, .i hi] = (True) := propext ⟨fun h => by
  have h' : ∃ (n' : Int) (lo' : Int) (hi' : Int), ([.i n, .i lo, .i hi] : List AV) = [.i n', .i lo', .i hi'] := h
  obtain ⟨n', lo', hi', e⟩ := h'
  simp only [List.cons.injEq, AV.dv.injEq, AV.fv.injEq, DV.d.injEq, DV.ag.injEq, D.int.injEq, D.str.injEq, D.bool.injEq, D.sl.injEq, true_and, and_true, intsDi_inj, rowsT_inj, rowsKi_inj] at e
  obtain ⟨rfl, rfl, rfl⟩ := e
  exact trivial, fun h => ⟨n, lo, hi, rfl⟩⟩
theorem inS_p  (n : Int) (lo : Int) (hi : Int) : (inS).post [.i n, .i lo, .i hi] = fun y => y = .b (inB n lo hi) := funext fun y => propext ⟨fun h => by
  have h' : ∃ (n' : Int) (lo' : Int) (hi' : Int), ([.i n, .i lo, .i hi] : List AV) = [.i n', .i lo', .i hi'] ∧ y = .b (inB n' lo' hi') := h
  obtain ⟨n', lo', hi', e, h⟩ := h'
  simp only [List.cons.injEq, AV.dv.injEq, AV.fv.injEq, DV.d.injEq, DV.ag.injEq, D.int.injEq, D.str.injEq, D.bool.injEq, D.sl.injEq, true_and, and_true, intsDi_inj, rowsT_inj, rowsKi_inj] at e
  obtain ⟨rfl, rfl, rfl⟩ := e
  exact h, fun h => ⟨n, lo, hi, rfl, h⟩⟩
def smallC (c : Int) : Bool := decide (97 ≤ c ∧ c ≤ 122)
def digitC (c : Int) : Bool := decide (48 ≤ c ∧ c ≤ 57)
def capitalC (c : Int) : Bool := decide (65 ≤ c ∧ c ≤ 90)
def keyC (c : Int) : Bool := smallC c || digitC c || (c == 45) || (c == 95)
def keyB (s : ByteArray) : Bool := inB s.size 1 40 && smallC (bt s 0) && (bl s).all keyC
def byteS (p : Int → Bool) : Spec where
  pre xs := ∃ (c : Int), xs = [.u8 c]
  post xs y := ∃ (c : Int), xs = [.u8 c] ∧ y = .b (p c)
  cost _ := 0
  fresh := true
theorem byteS_c (p : Int → Bool) (xs : List AV) : (byteS p).cost xs = 0 := nr rfl
theorem byteS_f (p : Int → Bool) : (byteS p).fresh = true := nr rfl
theorem byteS_q (p : Int → Bool) (c : Int) : (byteS p).pre [.u8 c] = (True) := propext ⟨fun h => by
  have h' : ∃ (c' : Int), ([.u8 c] : List AV) = [.u8 c'] := h
  obtain ⟨c', e⟩ := h'
  simp only [List.cons.injEq, AV.dv.injEq, AV.fv.injEq, DV.d.injEq, DV.ag.injEq, D.int.injEq, D.str.injEq, D.bool.injEq, D.sl.injEq, true_and, and_true, intsDi_inj, rowsT_inj, rowsKi_inj] at e
  obtain rfl := e
  exact trivial, fun h => ⟨c, rfl⟩⟩
theorem byteS_p (p : Int → Bool) (c : Int) : (byteS p).post [.u8 c] = fun y => y = .b (p c) := funext fun y => propext ⟨fun h => by
  have h' : ∃ (c' : Int), ([.u8 c] : List AV) = [.u8 c'] ∧ y = .b (p c') := h
  obtain ⟨c', e, h⟩ := h'
  simp only [List.cons.injEq, AV.dv.injEq, AV.fv.injEq, DV.d.injEq, DV.ag.injEq, D.int.injEq, D.str.injEq, D.bool.injEq, D.sl.injEq, true_and, and_true, intsDi_inj, rowsT_inj, rowsKi_inj] at e
  obtain rfl := e
  exact h, fun h => ⟨c, rfl, h⟩⟩
theorem pwithin_ctr {cx : Cx} (h : Seat cx) : Ctr cx 13 inS := by
  refine ctr_of (fn := Tryd.f13) (l := [.tmp 6]) (envL []) [0, 1, 2, 6] [] [] (env0 h.hP) ?_ (by rw [h.hP]; exact Tryd.func13) rfl (by kernel_rfl) rfl ?_ ?_
  · rw [h.hP]; exact ⟨_, Tryd.func13, by kernel_rfl, by kernel_rfl⟩
  · rintro xs ⟨n, lo, hi, rfl⟩; exact ⟨_, n, lo, hi, rfl, rfl⟩
  · rintro xs ⟨n, lo, hi, rfl⟩
    refine ⟨by rw [Tryd.ntmps13]; simp, ?_⟩
    simp only [go_sem, h.hP, inS_q, inS_p, inS_c, inS_f, Tryd.ntmps13, Nat.reduceEqDiff, reduceCtorEq, Nat.reduceMul, Nat.reduceAdd, Nat.reduceSub, Nat.reduceDiv, Nat.reduceMod, Nat.reduceLeDiff, Nat.reduceLT, Nat.reduceBNe, Nat.reduceBEq, reduceIte, Int.reduceLE, Int.reduceLT, Int.reduceToNat, Int.reduceNeg, Int.reduceAdd, Int.reduceSub, Int.reduceMul, Int.reduceEq]
    unfold inB
    exact ⟨fun c => by simp [c], fun c => by simp [c]⟩
theorem in_ctr {cx : Cx} (h : Seat cx) : Ctr cx 23 inS := by
  refine ctr_of (fn := Tryd.f23) (l := [.tmp 6]) (envL []) [0, 1, 2, 6] [] [] (env0 h.hP) ?_ (by rw [h.hP]; exact Tryd.func23) rfl (by kernel_rfl) rfl ?_ ?_
  · rw [h.hP]; exact ⟨_, Tryd.func23, by kernel_rfl, by kernel_rfl⟩
  · rintro xs ⟨n, lo, hi, rfl⟩; exact ⟨_, n, lo, hi, rfl, rfl⟩
  · rintro xs ⟨n, lo, hi, rfl⟩
    refine ⟨by rw [Tryd.ntmps23]; simp, ?_⟩
    simp only [go_sem, h.hP, inS_q, inS_p, inS_c, inS_f, Tryd.ntmps23, Nat.reduceEqDiff, reduceCtorEq, Nat.reduceMul, Nat.reduceAdd, Nat.reduceSub, Nat.reduceDiv, Nat.reduceMod, Nat.reduceLeDiff, Nat.reduceLT, Nat.reduceBNe, Nat.reduceBEq, reduceIte, Int.reduceLE, Int.reduceLT, Int.reduceToNat, Int.reduceNeg, Int.reduceAdd, Int.reduceSub, Int.reduceMul, Int.reduceEq]
    unfold inB
    exact ⟨fun c => by simp [c], fun c => by simp [c]⟩
theorem small_ctr {cx : Cx} (h : Seat cx) : Ctr cx 48 (byteS smallC) := by
  refine ctr_of (fn := Tryd.f48) (l := [.tmp 2]) (envL []) [0, 2] [] [] (env0 h.hP) ?_ (by rw [h.hP]; exact Tryd.func48) rfl (by kernel_rfl) rfl ?_ ?_
  · rw [h.hP]; exact ⟨_, Tryd.func48, by kernel_rfl, by kernel_rfl⟩
  · rintro xs ⟨c, rfl⟩; exact ⟨_, c, rfl, rfl⟩
  · rintro xs ⟨c, rfl⟩
    refine ⟨by rw [Tryd.ntmps48]; simp, ?_⟩
    simp only [go_sem, h.hP, byteS_q, byteS_p, byteS_c, byteS_f, Tryd.ntmps48, Nat.reduceEqDiff, reduceCtorEq, Nat.reduceMul, Nat.reduceAdd, Nat.reduceSub, Nat.reduceDiv, Nat.reduceMod, Nat.reduceLeDiff, Nat.reduceLT, Nat.reduceBNe, Nat.reduceBEq, reduceIte, Int.reduceLE, Int.reduceLT, Int.reduceToNat, Int.reduceNeg, Int.reduceAdd, Int.reduceSub, Int.reduceMul, Int.reduceEq]
    unfold smallC
    exact ⟨fun c => by simp [c], fun c => by simp [c]⟩
theorem digit_ctr {cx : Cx} (h : Seat cx) : Ctr cx 15 (byteS digitC) := by
  refine ctr_of (fn := Tryd.f15) (l := [.tmp 2]) (envL []) [0, 2] [] [] (env0 h.hP) ?_ (by rw [h.hP]; exact Tryd.func15) rfl (by kernel_rfl) rfl ?_ ?_
  · rw [h.hP]; exact ⟨_, Tryd.func15, by kernel_rfl, by kernel_rfl⟩
  · rintro xs ⟨c, rfl⟩; exact ⟨_, c, rfl, rfl⟩
  · rintro xs ⟨c, rfl⟩
    refine ⟨by rw [Tryd.ntmps15]; simp, ?_⟩
    simp only [go_sem, h.hP, byteS_q, byteS_p, byteS_c, byteS_f, Tryd.ntmps15, Nat.reduceEqDiff, reduceCtorEq, Nat.reduceMul, Nat.reduceAdd, Nat.reduceSub, Nat.reduceDiv, Nat.reduceMod, Nat.reduceLeDiff, Nat.reduceLT, Nat.reduceBNe, Nat.reduceBEq, reduceIte, Int.reduceLE, Int.reduceLT, Int.reduceToNat, Int.reduceNeg, Int.reduceAdd, Int.reduceSub, Int.reduceMul, Int.reduceEq]
    unfold digitC
    exact ⟨fun c => by simp [c], fun c => by simp [c]⟩
theorem all_bt (s : ByteArray) (p : Int → Bool) : ((bl s).all p = true) = ∀ j : Nat, (j : Int) < s.size → p (bt s j) = true := by
  apply propext
  rw [List.all_eq_true]
  constructor
  · intro h j hj
    rw [bt_at, List.getD_eq_getElem?_getD, List.getElem?_eq_getElem (by rw [bl_length]; omega)]
    exact h _ (List.getElem_mem _)
  · intro h x hx
    obtain ⟨j, hj, rfl⟩ := List.mem_iff_getElem.1 hx
    have := h j (by rw [bl_length] at hj; omega)
    rwa [bt_at, List.getD_eq_getElem?_getD, List.getElem?_eq_getElem hj] at this
theorem all_bt_no {s : ByteArray} {p : Int → Bool} {i : Int} (h0 : 0 ≤ i) (h1 : i < s.size) (h : p (bt s i) = false) : (bl s).all p = false := by
  cases e : (bl s).all p with
  | false => rfl
  | true =>
    rw [all_bt] at e
    have := e i.toNat (by omega)
    rw [Int.toNat_of_nonneg h0, h] at this
    cases this
/-- all of a string's bytes -/
def allS : Spec where
  pre xs := ∃ (s : ByteArray) (sp : FSpec), xs = [.str s, .fv sp] ∧ (∀ c : Int, 0 ≤ c → c ≤ 255 → sp.det (.d (.int .u8 c))) ∧ s.size ≤ 4611686018427387904
  post xs r := ∃ (s : ByteArray) (sp : FSpec), xs = [.str s, .fv sp] ∧ r = .b ((bl s).all fun c => sp.holds (.d (.int .u8 c)))
  cost _ := 0
  fresh := true
theorem all_ctr {cx : Cx} (h : Seat cx) : Ctr cx 14 allS := by
  refine ctr_of (fn := Tryd.f14) (l := [.tmp 4]) (envL []) [0, 1, 4, 5, 7, 8, 9, 16] [] [] (env0 h.hP) ?_ (by rw [h.hP]; exact Tryd.func14) rfl (by kernel_rfl) rfl ?_ ?_
  · rw [h.hP]; exact ⟨_, Tryd.func14, by kernel_rfl, by kernel_rfl⟩
  · rintro xs ⟨s, sp, rfl, h1, h2⟩; exact ⟨_, s, sp, rfl, rfl⟩
  · rintro xs ⟨s, sp, rfl, h1, h2⟩
    refine ⟨by rw [Tryd.ntmps14]; simp, ?_⟩
    simp only [go_sem, h.hP, allS, Tryd.ntmps14, Nat.reduceEqDiff, reduceCtorEq, Nat.reduceMul, Nat.reduceAdd, Nat.reduceSub, Nat.reduceDiv, Nat.reduceMod, Nat.reduceLeDiff, Nat.reduceLT, Nat.reduceBNe, Nat.reduceBEq, reduceIte, Int.reduceLE, Int.reduceLT, Int.reduceToNat, Int.reduceNeg, Int.reduceAdd, Int.reduceSub, Int.reduceMul, Int.reduceEq]
    have hd : ∀ i, sp.det (.d (.int .u8 (bt s i))) := fun i => h1 _ (bt_range s i).1 (bt_range s i).2
    refine vc_loopS (Int) (fun (i : Int) => [(8, .i i)]) [] (fun (i : Int) => []) (fun (i : Int) => []) (fun (i : Int) => 0) (fun (i : Int) => 0 ≤ i ∧ i ≤ s.size ∧ ∀ j : Nat, (j : Int) < i → sp.holds (.d (.int .u8 (bt s j))) = true) (fun (i : Int) => (s.size - i).toNat) [] ?_ ?_
    · simp only [go_sem, h.hP, List.cons_append, List.nil_append, Meets_e, Below_e, Prod.exists, exists_eq, exists_eq_left, exists_eq_left', exists_eq_right, exists_eq_right', exists_and_left, exists_and_right, Ob.arr.injEq, AV.own.injEq, AV.fv.injEq, Tryd.ntmps14, Nat.reduceEqDiff, reduceCtorEq, Nat.reduceMul, Nat.reduceAdd, Nat.reduceSub, Nat.reduceDiv, Nat.reduceMod, Nat.reduceLeDiff, Nat.reduceLT, Nat.reduceBNe, Nat.reduceBEq, reduceIte, Int.reduceLE, Int.reduceLT, Int.reduceToNat, Int.reduceNeg, Int.reduceAdd, Int.reduceSub, Int.reduceMul, Int.reduceEq]
      exact ⟨Int.natCast_nonneg _, fun j hj => by omega⟩
    · rintro i ⟨j1, j2, j3⟩
      simp only [go_sem, h.hP, List.cons_append, List.nil_append, Meets_e, Below_e, Prod.exists, exists_eq, exists_eq_left, exists_eq_left', exists_eq_right, exists_eq_right', exists_and_left, exists_and_right, Ob.arr.injEq, AV.own.injEq, AV.fv.injEq, allS, fun i => (hd i).pre, fun i => (hd i).post, Tryd.ntmps14, Nat.reduceEqDiff, reduceCtorEq, Nat.reduceMul, Nat.reduceAdd, Nat.reduceSub, Nat.reduceDiv, Nat.reduceMod, Nat.reduceLeDiff, Nat.reduceLT, Nat.reduceBNe, Nat.reduceBEq, reduceIte, Int.reduceLE, Int.reduceLT, Int.reduceToNat, Int.reduceNeg, Int.reduceAdd, Int.reduceSub, Int.reduceMul, Int.reduceEq]
      have hw : i < s.size → IntKind.i64.wrap (i + 1) = i + 1 := fun h => i64w (by omega) (by omega)
      refine ⟨fun c => ⟨j1, c, fun hf => (all_bt_no j1 c hf).symm, fun ht => ?_⟩, fun c => ?_⟩
      · rw [hw c]
        refine ⟨by omega, by omega, fun j hj => ?_, by omega⟩
        by_cases e : (j : Int) = i
        · rw [e]; exact ht
        · exact j3 j (by omega)
      · have := all_bt s fun c => sp.holds (.d (.int .u8 c))
        exact (this.mpr fun j hj => j3 j (by omega)).symm
/-- IsKey -/
def keyΦ : List (List D) → FSpec := csp F0 u8D fun _ c => keyC c
theorem keyΦ_h (c : Int) : (keyΦ []).holds (.d (.int .u8 c)) = keyC c := csp_holds F0_inj u8D_inj () c
theorem keyΦ_d (c : Int) : (keyΦ []).det (.d (.int .u8 c)) := csp_det F0_inj u8D_inj () c
def strB (p : ByteArray → Bool) : Spec where
  pre xs := ∃ (s : ByteArray), xs = [.str s] ∧ (s.size ≤ 4611686018427387904)
  post xs y := ∃ (s : ByteArray), xs = [.str s] ∧ y = .b (p s)
  cost _ := 0
  fresh := true
theorem strB_c (p : ByteArray → Bool) (xs : List AV) : (strB p).cost xs = 0 := nr rfl
theorem strB_f (p : ByteArray → Bool) : (strB p).fresh = true := nr rfl
theorem strB_q (p : ByteArray → Bool) (s : ByteArray) : (strB p).pre [.str s] = (s.size ≤ 4611686018427387904) := propext ⟨fun h => by
  have h' : ∃ (s' : ByteArray), ([.str s] : List AV) = [.str s'] ∧ (s'.size ≤ 4611686018427387904) := h
  obtain ⟨s', e, h⟩ := h'
  simp only [List.cons.injEq, AV.dv.injEq, AV.fv.injEq, DV.d.injEq, DV.ag.injEq, D.int.injEq, D.str.injEq, D.bool.injEq, D.sl.injEq, true_and, and_true, intsDi_inj, rowsT_inj, rowsKi_inj] at e
  obtain rfl := e
  exact h, fun h => ⟨s, rfl, h⟩⟩
theorem strB_p (p : ByteArray → Bool) (s : ByteArray) : (strB p).post [.str s] = fun y => y = .b (p s) := funext fun y => propext ⟨fun h => by
  have h' : ∃ (s' : ByteArray), ([.str s] : List AV) = [.str s'] ∧ y = .b (p s') := h
  obtain ⟨s', e, h⟩ := h'
  simp only [List.cons.injEq, AV.dv.injEq, AV.fv.injEq, DV.d.injEq, DV.ag.injEq, D.int.injEq, D.str.injEq, D.bool.injEq, D.sl.injEq, true_and, and_true, intsDi_inj, rowsT_inj, rowsKi_inj] at e
  obtain rfl := e
  exact h, fun h => ⟨s, rfl, h⟩⟩
end Go.Avc

/- hidden, IndexByte, HasPrefix, escaped: their contracts. No condition. -/
set_option linter.unusedVariables false
set_option linter.unusedSimpArgs false
set_option maxRecDepth 100000
namespace Go.Avc
open Go Go.Proofs

def hiddenS : Spec where
  pre xs := ∃ c : Int, xs = [.dv (.d (.int .u8 c))]
  post xs r := ∃ c : Int, xs = [.dv (.d (.int .u8 c))] ∧ r = .b (hid c)
  cost _ := 0
  fresh := true
theorem hidden_ctr {cx : Cx} (h : Seat cx) : Ctr cx 67 hiddenS := by
  refine ctr_of (fn := Tryd.f67) (l := [.tmp 2]) (envL []) [0, 2] [] [] (env0 h.hP) ?_ (by rw [h.hP]; exact Tryd.func67) rfl (by kernel_rfl) rfl ?_ ?_
  · rw [h.hP]; exact ⟨_, Tryd.func67, by kernel_rfl, by kernel_rfl⟩
  · rintro xs ⟨c, rfl⟩; exact ⟨_, c, rfl, rfl⟩
  · rintro xs ⟨c, rfl⟩
    refine ⟨by rw [Tryd.ntmps67]; simp, ?_⟩
    simp only [go_sem, h.hP, hiddenS, Tryd.ntmps67, Nat.reduceEqDiff, reduceCtorEq, Nat.reduceMul, Nat.reduceAdd, Nat.reduceSub, Nat.reduceDiv, Nat.reduceMod, Nat.reduceLeDiff, Nat.reduceLT, Nat.reduceBNe, Nat.reduceBEq, reduceIte, Int.reduceLE, Int.reduceLT, Int.reduceToNat, Int.reduceNeg, Int.reduceAdd, Int.reduceSub, Int.reduceMul, Int.reduceEq]
    (repeat' (first | with_reducible apply And.intro | with_reducible intro)) <;> (rw [Bool.eq_iff_iff]; simp [hid]; omega)

def hasPre (s p : ByteArray) : Bool := (bl p).isPrefixOf (bl s)
def hasPreS : Spec where
  pre xs := ∃ s p : ByteArray, xs = [.str s, .str p] ∧ s.size ≤ 9223372036854775807
  post xs r := ∃ s p : ByteArray, xs = [.str s, .str p] ∧ r = .b (hasPre s p)
  cost _ := 0
  fresh := true
theorem hasPre_of (s p : ByteArray) (h : p.size ≤ s.size) : ((s.extract 0 p.size).toList == p.toList) = hasPre s p := by
  rw [str_beq, Bool.eq_iff_iff, decide_eq_true_eq, ← bl_inj, bl_extract, List.drop_zero]
  unfold hasPre
  rw [List.isPrefixOf_iff_prefix, List.prefix_iff_eq_take, bl_length]
  exact ⟨fun e => e.symm, fun e => e.symm⟩
theorem hasPre_not (s p : ByteArray) (h : s.size < p.size) : hasPre s p = false := by
  unfold hasPre
  rw [Bool.eq_false_iff]
  intro e
  have := (List.isPrefixOf_iff_prefix.1 e).length_le
  rw [bl_length, bl_length] at this
  omega
theorem hasPre0_ctr {cx : Cx} (h : Seat cx) : Ctr cx 60 hasPreS := by
  refine ctr_of (fn := Tryd.f60) (l := [.tmp 4]) (envL []) [0, 1, 4] [] [] (env0 h.hP) ?_ (by rw [h.hP]; exact Tryd.func60) rfl (by kernel_rfl) rfl ?_ ?_
  · rw [h.hP]; exact ⟨_, Tryd.func60, by kernel_rfl, by kernel_rfl⟩
  · rintro xs ⟨s, p, rfl, hs⟩; exact ⟨_, s, p, rfl, rfl⟩
  · rintro xs ⟨s, p, rfl, hs⟩
    refine ⟨by rw [Tryd.ntmps60]; simp, ?_⟩
    simp only [go_sem, h.hP, hasPreS, Tryd.ntmps60, Nat.reduceEqDiff, reduceCtorEq, Nat.reduceMul, Nat.reduceAdd, Nat.reduceSub, Nat.reduceDiv, Nat.reduceMod, Nat.reduceLeDiff, Nat.reduceLT, Nat.reduceBNe, Nat.reduceBEq, reduceIte, Int.reduceLE, Int.reduceLT, Int.reduceToNat, Int.reduceNeg, Int.reduceAdd, Int.reduceSub, Int.reduceMul, Int.reduceEq]
    exact ⟨fun h1 => ⟨by omega, by omega, by rw [← str_beq]; exact hasPre_of s p (by omega)⟩, fun h1 => (hasPre_not s p (by omega)).symm⟩
theorem hasPre_ctr {cx : Cx} (h : Seat cx) : Ctr cx 29 hasPreS := by
  refine ctr_of (fn := Tryd.f29) (l := [.tmp 4]) (envL [(60, hasPreS)]) [0, 1, 4] [] [] (envL_cons (hasPre0_ctr h) (env0 h.hP)) ?_ (by rw [h.hP]; exact Tryd.func29) rfl (by kernel_rfl) rfl ?_ ?_
  · rw [h.hP]; exact ⟨_, Tryd.func29, by kernel_rfl, by kernel_rfl⟩
  · rintro xs ⟨s, p, rfl, hs⟩; exact ⟨_, s, p, rfl, rfl⟩
  · rintro xs ⟨s, p, rfl, hs⟩
    refine ⟨by rw [Tryd.ntmps29]; simp, ?_⟩
    simp only [go_sem, h.hP, hasPreS, Tryd.ntmps29, Nat.reduceEqDiff, reduceCtorEq, Nat.reduceMul, Nat.reduceAdd, Nat.reduceSub, Nat.reduceDiv, Nat.reduceMod, Nat.reduceLeDiff, Nat.reduceLT, Nat.reduceBNe, Nat.reduceBEq, reduceIte, Int.reduceLE, Int.reduceLT, Int.reduceToNat, Int.reduceNeg, Int.reduceAdd, Int.reduceSub, Int.reduceMul, Int.reduceEq]
    exact hs

theorem ix_same (s : ByteArray) (c : Int) (h : 0 ≤ c ∧ c ≤ 255) : Lib.indexByte s.data.toList c.toNat.toUInt8 = ixL (bl s) c := by
  unfold bl
  generalize s.data.toList = l
  induction l with
  | nil => rfl
  | cons x r ih =>
    rw [List.map_cons]
    unfold Lib.indexByte ixL
    have hx : (x == c.toNat.toUInt8) = decide ((x.toNat : Int) = c) := by
      rw [Bool.eq_iff_iff, beq_iff_eq, decide_eq_true_eq]
      constructor
      · intro e; rw [e]; simp [Nat.toUInt8]; omega
      · intro e; apply UInt8.toNat.inj; simp [Nat.toUInt8]; omega
    rw [hx, ih]
    by_cases h1 : (x.toNat : Int) = c
    · rw [if_pos (by simpa using h1), if_pos h1]
    · rw [if_neg (by simpa using h1), if_neg h1]
      by_cases h2 : ixL (r.map fun b => (b.toNat : Int)) c = -1
      · rw [if_pos (by simpa using h2), if_pos h2]
      · rw [if_neg (by simpa using h2), if_neg h2]
def ixS : Spec where
  pre xs := ∃ (s : ByteArray) (c : Int), xs = [.str s, .dv (.d (.int .u8 c))] ∧ 0 ≤ c ∧ c ≤ 255
  post xs r := ∃ (s : ByteArray) (c : Int), xs = [.str s, .dv (.d (.int .u8 c))] ∧ r = .i (ixL (bl s) c)
  cost _ := 0
  fresh := true
theorem ix_ctr {cx : Cx} (h : Seat cx) : Ctr cx 26 ixS := by
  refine ctr_flat (by rw [h.hP]; exact ⟨_, Tryd.func26, by kernel_rfl, by kernel_rfl⟩) (fun _ => rfl) ?_
  rintro xs ⟨s, c, rfl, h0, h1⟩
  refine ⟨_, _, _, rfl, ⟨s, c, rfl, rfl⟩, rfl, fun w _ => ?_⟩
  rw [h.hP]
  refine (Tryd.strings_IndexByte s c w).mono ?_
  rintro e w' ⟨rfl, rfl⟩
  rw [ix_same s c ⟨h0, h1⟩]
  exact ⟨rfl, Go.RowKit.Below.refl _ _⟩

def escS : Spec where
  pre xs := ∃ s : ByteArray, xs = [.str s] ∧ s.size ≤ 9223372036854775807
  post xs r := ∃ s : ByteArray, xs = [.str s] ∧ r = .tcons (.dv (.d (.int .u8 (escL (bl s)).1))) (.tcons (.i (escL (bl s)).2) .tnil)
  cost _ := 0
  fresh := true
end Go.Avc

/- A slice of numbers that is handed in: it reads as numbers; it reads so still in a world of which all that was there is left. No condition. -/
set_option linter.unusedVariables false
namespace Go.Avc
open Go Go.Proofs Go.ChangeShapes Go.ChangeMaps

theorem cell_spot' {w : World} {a : Addr} {v : Value} (h : w.cell? a = some v) : a.spot = none := by
  obtain ⟨b, o, s⟩ := a
  cases s with
  | none => rfl
  | some x =>
    unfold World.cell? at h
    split at h <;> simp at h
section
variable {H : Type} {enc : TypeId × Value → H} {P : Program} {W : World}
theorem open_nums {t e : TypeId} {r : Reach} {b0 : Nat} {v : Value} {d : DataW H} {ps : List MemPlace} (ht : P.underlying t = some (.slice e)) (he : P.underlying e = some (.int .i64)) (hc : P.cellsOf e = 1)
    (hval : Value.okWide P W r b0 t v) (hd : DataW.Trod enc P W 0 (fun _ => true) true t v d ps) :
    ∃ (A : Option Addr) (L : List Int) (cp : Nat), v = .slice A L.length cp ∧ Rd (fun k => k < W.heap.size) W (.sl (intRows L)) v ∧
      ∀ W', RowKit.Below W.heap.size W W' → ∀ sp : Nat → Bool, (∀ p ∈ ps, sp p.block = true) → DataW.Trod enc P W' 0 sp true t v d ps := by
  obtain ⟨a0, len0, cap0, rfl⟩ := Go.WideShapes.okWide_slice ht hval
  obtain ⟨fuel, hf⟩ := hd
  rcases open_ints ht he hc hf with ⟨h1, h2⟩ | ⟨a, len, cap, zs, h1, hb, hl, hm, hz, hx, hcell, hw⟩
  · have h1' : [Value.slice a0 len0 cap0] = [Value.slice none 0 0] := h1
    simp only [List.cons.injEq, Value.slice.injEq, and_true] at h1'
    obtain ⟨rfl, rfl, rfl⟩ := h1'
    cases h2
    refine ⟨none, [], 0, rfl, .nil none 0, fun W' _ sp _ => ⟨1, ?_⟩⟩
    simp [DataW.trod, Value.cells, ht]
  · have h1' : [Value.slice a0 len0 cap0] = [Value.slice (some a) len cap] := h1
    simp only [List.cons.injEq, Value.slice.injEq, and_true] at h1'
    obtain ⟨rfl, rfl, rfl⟩ := h1'
    simp only [if_true] at hz
    cases hx
    have hin : ∀ i, i < zs.length → a.block < W.heap.size := fun i hi => by
      have := hcell i hi
      by_cases h : a.block < W.heap.size
      · exact h
      · have e : W.heap[(a.add i).block]? = none := by
          rw [Array.getElem?_eq_none]
          rw [block_add]
          omega
        unfold World.cell? at this
        rw [e] at this
        cases this
    refine ⟨some a, zs.take len0, cap0, by rw [List.length_take, Nat.min_eq_left (by omega)], ?_, fun W' hW sp hsp => ⟨2, ?_⟩⟩
    · have hlen : (zs.take len0).length = len0 := by rw [List.length_take, Nat.min_eq_left (by omega)]
      by_cases h0 : len0 = 0
      · subst h0
        rw [List.take_zero]
        exact .nil (some a) cap0
      · have hs : a.spot = none := cell_spot' (a := a.add 0) (hcell 0 (by omega))
        obtain ⟨b, o, s⟩ := a
        have hs' : s = none := hs
        subst hs'
        have hr : Rd (fun k => k < W.heap.size) W (.sl (intRows (zs.take len0))) (.slice (some ⟨b, o, none⟩) (intRows (zs.take len0)).length cap0) := by
          refine .sl (intRows (zs.take len0)) 1 b o cap0 (fun i _ => .int .i64 (zs.getD i 0)) ?_ (hin 0 (by omega)) (hin 0 (by omega)) ?_ ?_ ?_
          · unfold intRows
            rw [List.length_map, hlen]
            exact hl
          · intro i x hx
            unfold intRows at hx
            rw [List.getElem?_map] at hx
            obtain ⟨y, _, rfl⟩ := Option.map_eq_some_iff.1 hx
            rfl
          · intro i x hx j y hy
            unfold intRows at hx
            rw [List.getElem?_map] at hx
            obtain ⟨n, hn, rfl⟩ := Option.map_eq_some_iff.1 hx
            have hi : i < len0 := by
              have := (List.getElem?_eq_some_iff.1 hn).1
              omega
            cases j with
            | zero =>
              have := hcell i (by omega)
              rw [Go.WideShapes.add_plain] at this
              rw [Nat.mul_one, Nat.add_zero]
              exact this
            | succ j => simp at hy
          · intro i x hx j y hy
            unfold intRows at hx
            rw [List.getElem?_map] at hx
            obtain ⟨n, hn, rfl⟩ := Option.map_eq_some_iff.1 hx
            have hi : i < len0 := by
              have := (List.getElem?_eq_some_iff.1 hn).1
              omega
            cases j with
            | zero =>
              have hy' : D.int .i64 n = y := Option.some.inj hy
              subst hy'
              have hn' : zs.getD i 0 = n := by
                rw [List.getElem?_take, if_pos hi] at hn
                rw [List.getD_eq_getElem?_getD, hn]
                rfl
              show Rd _ _ _ (Value.int .i64 (zs.getD i 0))
              rw [hn']
              exact .int _ _
            | succ j => simp at hy
        have hl' : (intRows (zs.take len0)).length = len0 := by unfold intRows; rw [List.length_map, hlen]
        rw [hl'] at hr
        exact hr
    · refine shut_ints 0 ht he hc hb hl hm ?_ (fun i hi => ?_) hw
      · by_cases h0 : cap0 = 0
        · have : len0 = 0 := by omega
          subst h0
          subst this
          rw [hz]
          split <;> rfl
        · have := hsp (.cell a.block (a.off + 0)) (List.mem_map.2 ⟨0, List.mem_range.2 (by omega), rfl⟩)
          have e : sp a.block = true := this
          rw [if_pos e, hz]
      · rw [hW.cell (by rw [block_add]; exact hin i hi)]
        exact hcell i hi
end

section
open Go.RowKit Go.WideShapes
variable {H : Type} {enc : TypeId × Value → H} {P : Program}
theorem post_of_below {f : Func} {s : ChangeSpec} {apart fresh handsOn again : Bool} {W W' : World} {args : Array Value} {v : Value} {ds gs : List (DataW H)} {before pa pv : List MemPlace}
    (hW : DataW.Whole enc P f.params.toList s.vars apart W args.toList ds gs before)
    (hres : ∀ (b : Nat) (sp : Nat → Bool) (hd : Bool), DataW.TrodAll enc P W' b sp hd f.resultTypes.toList (v.resultList f.resultTypes.size) (s.fn H (ds ++ gs)).results [])
    (hargs : ∀ sp : Nat → Bool, (∀ p ∈ before, sp p.block = true) → DataW.TrodAll enc P W' 0 sp true f.params.toList args.toList (s.fn H (ds ++ gs)).args pa)
    (hvars : ∀ sp : Nat → Bool, (∀ p ∈ before, sp p.block = true) → DataW.TrodVars enc P W' sp s.vars (s.fn H (ds ++ gs)).vars pv)
    (hps : before = pa ++ pv) (hb : RowKit.Below W.heap.size W W')
    (hok : ∀ (j : Nat) (t : TypeId) (r : Value), f.resultTypes[j]? = some t → (v.resultList f.resultTypes.size)[j]? = some r → Value.okWide P W' .any 0 t r) :
    s.post enc P f apart fresh handsOn again W args v W' := by
  have hlt : ∀ p ∈ before, p.block < W.heap.size := fun p hp => hW.lt p hp
  have hold : ∀ p ∈ before, (fun b => decide (b < W.heap.size)) p.block = true := fun p hp => by simpa using hlt p hp
  refine ⟨ds, gs, before, [], pa, pv, hW, hres _ _ _, hargs _ hold, hvars _ hold, World.keptBut_mono (fun p hp => ⟨hp, ?_⟩) (hb.frame (· ∈ before)), fun _ => ?_⟩
  · rw [hps, List.mem_append] at hp
    exact Or.inr hp
  · obtain ⟨_, _, _, _, _, hz, hn⟩ := hW
    refine ⟨hok, _, _, ([] ++ pa) ++ pv, ⟨[] ++ pa, pv, trodAll_append (hargs _ (fun _ _ => rfl)) (hres _ _ _), hvars _ (fun _ _ => rfl), rfl, ?_, ?_⟩, ?_⟩
    · intro b off hp
      have hin : MemPlace.cell b off ∈ before := by rw [hps]; simpa using hp
      rw [hb.frozen (hlt _ hin)]
      exact hz b off hin
    · intro ha
      have := hn ha
      rw [hps] at this
      simpa using this
    · intro p hp _
      rw [hps]
      simpa using hp
end
end Go.Avc

/- Small functions of the sending rules: their contracts. No condition. -/
set_option linter.unusedVariables false
set_option linter.unusedSimpArgs false
set_option maxRecDepth 100000
namespace Go.Avc
open Go Go.Proofs

theorem rowsK_inj' {l m : List Int} : intsD l = intsD m ↔ l = m := by
  refine ⟨fun h => ?_, fun h => by rw [h]⟩
  have e : ∀ l : List Int, numsOf (intsD l) = l := fun l => by
    unfold numsOf intsD
    rw [List.map_map]
    induction l with
    | nil => rfl
    | cons x r ih => simp [ih]
  rw [← e l, ← e m, h]
def chanS  : Spec where
  pre xs := ∃ (n : Int), xs = [.i n]
  post xs y := ∃ (n : Int), xs = [.i n] ∧ y = .b (inB n 1 4)
  cost _ := 0
  fresh := true
theorem chanS_c  (xs : List AV) : (chanS).cost xs = 0 := nr rfl
theorem chanS_f  : (chanS).fresh = true := nr rfl
theorem chanS_q  (n : Int) : (chanS).pre [.i n] = (True) := propext ⟨fun h => by
  have h' : ∃ (n' : Int), ([.i n] : List AV) = [.i n'] := h
  obtain ⟨n', e⟩ := h'
  simp only [List.cons.injEq, AV.dv.injEq, AV.fv.injEq, DV.d.injEq, DV.ag.injEq, D.int.injEq, D.str.injEq, D.bool.injEq, D.sl.injEq, true_and, and_true, intsDi_inj, rowsT_inj, rowsKi_inj] at e
  obtain rfl := e
  exact trivial, fun h => ⟨n, rfl⟩⟩
theorem chanS_p  (n : Int) : (chanS).post [.i n] = fun y => y = .b (inB n 1 4) := funext fun y => propext ⟨fun h => by
  have h' : ∃ (n' : Int), ([.i n] : List AV) = [.i n'] ∧ y = .b (inB n' 1 4) := h
  obtain ⟨n', e, h⟩ := h'
  simp only [List.cons.injEq, AV.dv.injEq, AV.fv.injEq, DV.d.injEq, DV.ag.injEq, D.int.injEq, D.str.injEq, D.bool.injEq, D.sl.injEq, true_and, and_true, intsDi_inj, rowsT_inj, rowsKi_inj] at e
  obtain rfl := e
  exact h, fun h => ⟨n, rfl, h⟩⟩
def kindL : List Int := [0, 1, 2, 4, 3]
def kindS  : Spec where
  pre xs := ∃ (n : Int), xs = [.i n] ∧ (0 ≤ n ∧ n ≤ 4)
  post xs y := ∃ (n : Int), xs = [.i n] ∧ y = .i (kindL.getD n.toNat 0)
  cost _ := 0
  fresh := true
theorem kindS_c  (xs : List AV) : (kindS).cost xs = 0 := nr rfl
theorem kindS_f  : (kindS).fresh = true := nr rfl
theorem kindS_q  (n : Int) : (kindS).pre [.i n] = (0 ≤ n ∧ n ≤ 4) := propext ⟨fun h => by
  have h' : ∃ (n' : Int), ([.i n] : List AV) = [.i n'] ∧ (0 ≤ n' ∧ n' ≤ 4) := h
  obtain ⟨n', e, h⟩ := h'
  simp only [List.cons.injEq, AV.dv.injEq, AV.fv.injEq, DV.d.injEq, DV.ag.injEq, D.int.injEq, D.str.injEq, D.bool.injEq, D.sl.injEq, true_and, and_true, intsDi_inj, rowsT_inj, rowsKi_inj] at e
  obtain rfl := e
  exact h, fun h => ⟨n, rfl, h⟩⟩
theorem kindS_p  (n : Int) : (kindS).post [.i n] = fun y => y = .i (kindL.getD n.toNat 0) := funext fun y => propext ⟨fun h => by
  have h' : ∃ (n' : Int), ([.i n] : List AV) = [.i n'] ∧ y = .i (kindL.getD n'.toNat 0) := h
  obtain ⟨n', e, h⟩ := h'
  simp only [List.cons.injEq, AV.dv.injEq, AV.fv.injEq, DV.d.injEq, DV.ag.injEq, D.int.injEq, D.str.injEq, D.bool.injEq, D.sl.injEq, true_and, and_true, intsDi_inj, rowsT_inj, rowsKi_inj] at e
  obtain rfl := e
  exact h, fun h => ⟨n, rfl, h⟩⟩
def isKindS : Spec where
  pre xs := ∃ n : Int, xs = [.i n]
  post xs r := ∃ (n k e : Int), xs = [.i n] ∧ (inB n 1 4 = true → k = kindL.getD n.toNat 0 ∧ e = 0) ∧ (inB n 1 4 = false → k = 0 ∧ e = 4) ∧ r = .tcons (.i k) (.tcons (.i e) .tnil)
  cost _ := 0
  fresh := true
def oddS : Spec where
  pre xs := ∃ lo hi : Int, xs = [.st, .i lo, .i hi] ∧ -1073741824 ≤ lo ∧ lo ≤ 1073741823 ∧ -1073741823 ≤ hi ∧ hi ≤ 1073741823
  post xs r := ∃ lo hi q : Int, xs = [.st, .i lo, .i hi] ∧ -1099511627776 ≤ q ∧ q ≤ 1099511627776 ∧ r = .i q
  cost _ := 2
  fresh := true
def isOf (x : ByteArray) (l : List ByteArray) : Prop := x ∈ l
def oneS : Spec where
  pre xs := ∃ l : List ByteArray, xs = [.st, .sl (rowsT l)] ∧ l ≠ [] ∧ l.length ≤ 1073741824
  post xs r := ∃ (l : List ByteArray) (x : ByteArray), xs = [.st, .sl (rowsT l)] ∧ isOf x l ∧ r = .str x
  cost _ := 1
  fresh := true
theorem one_ctr {cx : Cx} (h : Seat cx) : Ctr cx 9 oneS := by
  refine ctr_of (fn := Tryd.f9) (l := [.tmp 4]) (envL [(33, nextS)]) [0, 1, 4] [] [] (envL_cons (next_ctr cx h.hP h.hS) (env0 h.hP)) ?_ (by rw [h.hP]; exact Tryd.func9) rfl (by kernel_rfl) rfl ?_ ?_
  · rw [h.hP]; exact ⟨_, Tryd.func9, by kernel_rfl, by kernel_rfl⟩
  · rintro xs ⟨l, rfl, h1, h2⟩
    exact (match l, h1 with | x :: t, _ => ⟨.str x, x :: t, x, rfl, List.mem_cons_self, rfl⟩)
  · rintro xs ⟨l, rfl, h1, h2⟩
    refine ⟨by rw [Tryd.ntmps9]; simp, ?_⟩
    simp only [go_sem, h.hP, nextS, oneS, rowsT_len, rowsT_get, rowsT_inj, Tryd.ntmps9, Nat.reduceEqDiff, reduceCtorEq, Nat.reduceMul, Nat.reduceAdd, Nat.reduceSub, Nat.reduceDiv, Nat.reduceMod, Nat.reduceLeDiff, Nat.reduceLT, Nat.reduceBNe, Nat.reduceBEq, reduceIte, Int.reduceLE, Int.reduceLT, Int.reduceToNat, Int.reduceNeg, Int.reduceAdd, Int.reduceSub, Int.reduceMul, Int.reduceEq]
    have hl := List.length_pos_iff.2 h1
    refine ⟨by omega, fun a e1 _ => ?_⟩
    have ha := e1 (by omega)
    refine ⟨ha.1, ha.2, ?_⟩
    rw [List.getD_eq_getElem?_getD, List.getElem?_eq_getElem (by omega)]
    exact List.getElem_mem _
/-! ### The stream's functions, as equations -/
theorem nextS_q (m : Int) : nextS.pre [.st, .i m] = (m ≤ 9223372036854775807) := propext ⟨fun ⟨m', e, h⟩ => by
  simp only [List.cons.injEq, AV.dv.injEq, DV.d.injEq, D.int.injEq, true_and, and_true] at e; subst e; exact h, fun h => ⟨m, rfl, h⟩⟩
theorem nextS_p (m : Int) : nextS.post [.st, .i m] = fun y => ∃ q : Int, (1 ≤ m → 0 ≤ q ∧ q < m) ∧ (m < 1 → q = 0) ∧ y = .i q := funext fun y => propext ⟨fun ⟨m', q, e, h⟩ => by
  simp only [List.cons.injEq, AV.dv.injEq, DV.d.injEq, D.int.injEq, true_and, and_true] at e; subst e; exact ⟨q, h⟩, fun ⟨q, h⟩ => ⟨m, q, rfl, h⟩⟩
theorem nextS_c (xs : List AV) : nextS.cost xs = 1 := nr rfl
theorem nextS_f : nextS.fresh = true := nr rfl
theorem flipS_q (m : Int) : flipS.pre [.st, .i m] = (m ≤ 9223372036854775807) := propext ⟨fun ⟨m', e, h⟩ => by
  simp only [List.cons.injEq, AV.dv.injEq, DV.d.injEq, D.int.injEq, true_and, and_true] at e; subst e; exact h, fun h => ⟨m, rfl, h⟩⟩
theorem flipS_p (m : Int) : flipS.post [.st, .i m] = fun y => ∃ b : Bool, y = .b b := funext fun y => propext ⟨fun ⟨m', q, e, h⟩ => ⟨q, h⟩, fun ⟨q, h⟩ => ⟨m, q, rfl, h⟩⟩
theorem flipS_c (xs : List AV) : flipS.cost xs = 1 := nr rfl
theorem flipS_f : flipS.fresh = true := nr rfl
theorem pickS_q (l : List Int) : pickS.pre [.st, .sl (intsD l)] = (l ≠ [] ∧ l.length ≤ 1073741824) := propext ⟨fun ⟨m', e, h⟩ => by
  simp only [List.cons.injEq, AV.dv.injEq, DV.d.injEq, D.sl.injEq, intsDi_inj, true_and, and_true] at e; subst e; exact h, fun h => ⟨l, rfl, h⟩⟩
theorem pickS_p (l : List Int) : pickS.post [.st, .sl (intsD l)] = fun y => ∃ x : Int, isIn x l ∧ y = .i x := funext fun y => propext ⟨fun ⟨m', q, e, h⟩ => by
  simp only [List.cons.injEq, AV.dv.injEq, DV.d.injEq, D.sl.injEq, intsDi_inj, true_and, and_true] at e; subst e; exact ⟨q, h⟩, fun ⟨q, h⟩ => ⟨l, q, rfl, h⟩⟩
theorem pickS_c (xs : List AV) : pickS.cost xs = 1 := nr rfl
theorem pickS_f : pickS.fresh = true := nr rfl
theorem oneS_q (l : List ByteArray) : oneS.pre [.st, .sl (rowsT l)] = (l ≠ [] ∧ l.length ≤ 1073741824) := propext ⟨fun ⟨m', e, h⟩ => by
  simp only [List.cons.injEq, AV.dv.injEq, DV.d.injEq, D.sl.injEq, rowsT_inj, true_and, and_true] at e; subst e; exact h, fun h => ⟨l, rfl, h⟩⟩
theorem oneS_p (l : List ByteArray) : oneS.post [.st, .sl (rowsT l)] = fun y => ∃ x : ByteArray, isOf x l ∧ y = .str x := funext fun y => propext ⟨fun ⟨m', q, e, h⟩ => by
  simp only [List.cons.injEq, AV.dv.injEq, DV.d.injEq, D.sl.injEq, rowsT_inj, true_and, and_true] at e; subst e; exact ⟨q, h⟩, fun ⟨q, h⟩ => ⟨l, q, rfl, h⟩⟩
theorem oneS_c (xs : List AV) : oneS.cost xs = 1 := nr rfl
theorem oneS_f : oneS.fresh = true := nr rfl
theorem rangeS_q (lo hi : Int) : rangeS.pre [.st, .i lo, .i hi] = (-1073741824 ≤ lo ∧ lo ≤ 1073741824 ∧ -1073741824 ≤ hi ∧ hi ≤ 1073741824) := propext ⟨fun ⟨a, b, e, h⟩ => by
  simp only [List.cons.injEq, AV.dv.injEq, DV.d.injEq, D.int.injEq, true_and, and_true] at e; obtain ⟨rfl, rfl⟩ := e; exact h, fun h => ⟨lo, hi, rfl, h⟩⟩
theorem rangeS_p (lo hi : Int) : rangeS.post [.st, .i lo, .i hi] = fun y => ∃ q : Int, lo ≤ q ∧ (lo ≤ hi → q ≤ hi) ∧ (hi < lo → q = lo) ∧ y = .i q := funext fun y => propext ⟨fun ⟨a, b, q, e, h⟩ => by
  simp only [List.cons.injEq, AV.dv.injEq, DV.d.injEq, D.int.injEq, true_and, and_true] at e; obtain ⟨rfl, rfl⟩ := e; exact ⟨q, h⟩, fun ⟨q, h⟩ => ⟨lo, hi, q, rfl, h⟩⟩
theorem rangeS_c (xs : List AV) : rangeS.cost xs = 1 := nr rfl
theorem rangeS_f : rangeS.fresh = true := nr rfl
theorem oddS_q (lo hi : Int) : oddS.pre [.st, .i lo, .i hi] = (-1073741824 ≤ lo ∧ lo ≤ 1073741823 ∧ -1073741823 ≤ hi ∧ hi ≤ 1073741823) := propext ⟨fun ⟨a, b, e, h⟩ => by
  simp only [List.cons.injEq, AV.dv.injEq, DV.d.injEq, D.int.injEq, true_and, and_true] at e; obtain ⟨rfl, rfl⟩ := e; exact h, fun h => ⟨lo, hi, rfl, h⟩⟩
theorem oddS_p (lo hi : Int) : oddS.post [.st, .i lo, .i hi] = fun y => ∃ q : Int, -1099511627776 ≤ q ∧ q ≤ 1099511627776 ∧ y = .i q := funext fun y => propext ⟨fun ⟨a, b, q, e, h⟩ => by
  simp only [List.cons.injEq, AV.dv.injEq, DV.d.injEq, D.int.injEq, true_and, and_true] at e; obtain ⟨rfl, rfl⟩ := e; exact ⟨q, h⟩, fun ⟨q, h⟩ => ⟨lo, hi, q, rfl, h⟩⟩
theorem oddS_c (xs : List AV) : oddS.cost xs = 2 := nr rfl
theorem oddS_f : oddS.fresh = true := nr rfl
end Go.Avc

/- The tables of unicode/utf8 and DecodeRuneInString; a text as its points. No condition. -/
set_option linter.unusedVariables false
set_option linter.unusedSimpArgs false
set_option maxRecDepth 100000
namespace Go.Avc
open Go Go.Proofs

/-- The tables of unicode/utf8 lie as they are laid. -/
def Utf8 (cx : Cx) : Prop := ∀ w, GlAt cx w → Lib.Utf8Tabs 1 2 w
def decS : Spec where
  pre xs := ∃ s : ByteArray, xs = [.str s]
  post xs r := ∃ s : ByteArray, xs = [.str s] ∧ r = .tcons (.dv (.d (.int .i32 (Lib.decodeGo s).1))) (.tcons (.i (Lib.decodeGo s).2) .tnil)
  cost _ := 0
  fresh := true
theorem dec_ctr {cx : Cx} (h : Seat cx) (hU : Utf8 cx) : Ctr cx 74 decS := by
  refine ctr_flat (by rw [h.hP]; exact ⟨_, Tryd.func74, by kernel_rfl, by kernel_rfl⟩) (fun _ => rfl) ?_
  rintro xs ⟨s, rfl⟩
  refine ⟨_, _, _, rfl, ⟨s, rfl, rfl⟩, rfl, fun w hw => ?_⟩
  rw [h.hP]
  exact Tryd.utf8_DecodeRuneInString s w (hU w hw)

theorem spl_one (x y : D) : spl [x] 0 [y] = [y] := rfl

/-- How many bytes the first code point takes. -/
def wid (s : ByteArray) : Nat := (Lib.decodeGo s).2
def ptOf (s : ByteArray) : Int := if ((Lib.decodeGo s).1 : Int) = 65533 ∧ ((Lib.decodeGo s).2 : Int) = 1 then -1 - bt s 0 else ((Lib.decodeGo s).1 : Int)
def ptsL : Nat → ByteArray → List Int
  | 0, _ => []
  | k + 1, s => if s.size = 0 then [] else ptOf s :: ptsL k (s.extract (wid s) s.size)
/-- The code points of a string; a byte that is none is below 0. -/
def pts (s : ByteArray) : List Int := ptsL s.size s
theorem i32w {n : Int} (h1 : -2147483648 ≤ n) (h2 : n ≤ 2147483647) : IntKind.i32.wrap n = n := IntWalk.i32_in _ ⟨h1, h2⟩
theorem decodeN_w (n b0 b1 b2 b3 : Nat) (hn : 1 ≤ n) (hb : b0 < 256) : 1 ≤ (Lib.decodeN n b0 b1 b2 b3).2 ∧ (Lib.decodeN n b0 b1 b2 b3).2 ≤ n ∧ (Lib.decodeN n b0 b1 b2 b3).1 ≤ 1114111 := by
  unfold Lib.decodeN
  repeat' split
  all_goals (simp only; omega)
theorem wid_ge {s : ByteArray} (h : s.size ≠ 0) : 1 ≤ wid s ∧ wid s ≤ s.size ∧ (Lib.decodeGo s).1 ≤ 1114111 := by
  unfold wid Lib.decodeGo
  rw [if_neg h, Lib.decode_at]
  exact decodeN_w _ _ _ _ _ (by omega) (UInt8.toNat_lt _)
theorem ptsL_step {s : ByteArray} {k : Nat} (h : s.size ≠ 0) (hk : s.size ≤ k) : ∃ k', k = k' + 1 ∧ ptsL k s = ptOf s :: ptsL k' (s.extract (wid s) s.size) := by
  obtain ⟨k', rfl⟩ : ∃ k', k = k' + 1 := ⟨k - 1, by omega⟩
  exact ⟨k', rfl, by conv => lhs; unfold ptsL
                     rw [if_neg h]⟩
theorem ptsL_nil {s : ByteArray} (h : s.size = 0) (k : Nat) : ptsL k s = [] := by
  cases k with
  | zero => rfl
  | succ k => unfold ptsL; rw [if_pos h]
theorem ptsL_len : ∀ (k : Nat) (s : ByteArray), (ptsL k s).length ≤ s.size
  | 0, s => Nat.zero_le _
  | k + 1, s => by
    unfold ptsL
    split
    · exact Nat.zero_le _
    · rename_i h
      have h1 := wid_ge h
      have h2 := ptsL_len k (s.extract (wid s) s.size)
      rw [ByteArray.size_extract] at h2
      rw [List.length_cons]
      omega
end Go.Avc

/- Quote and the reference's Quoted: their contracts. No condition. -/
set_option linter.unusedVariables false
set_option linter.unusedSimpArgs false
set_option maxRecDepth 100000
namespace Go.Avc
open Go Go.Proofs

theorem take_succ_bt {s : ByteArray} {i : Nat} (h : i < s.size) : (bl s).take (i + 1) = (bl s).take i ++ [bt s (i : Int)] := by
  have h' : i < (bl s).length := by rw [bl_length]; exact h
  rw [bt_bl, Int.toNat_natCast, getD_lt h', List.take_succ_eq_append_getElem h']
theorem fm_succ {s : ByteArray} {i : Nat} (h : i < s.size) : ((bl s).take (i + 1)).flatMap q1 = ((bl s).take i).flatMap q1 ++ q1 (bt s (i : Int)) := by
  rw [take_succ_bt h, List.flatMap_append]
  simp
theorem fm_one {s : ByteArray} (h : 0 < s.size) : ((bl s).take (0 + 1)).flatMap q1 = q1 (bt s 0) := by rw [fm_succ h]; rfl
theorem fm_len (s : ByteArray) (i : Nat) : (((bl s).take i).flatMap q1).length ≤ 4 * s.size := by
  have h1 := flatMap_len ((bl s).take i)
  have h2 : ((bl s).take i).length ≤ s.size := by rw [List.length_take, bl_length]; omega
  omega
theorem hex_at {c : Int} (h : 0 ≤ c ∧ c ≤ 255) : bt ⟨#[48, 49, 50, 51, 52, 53, 54, 55, 56, 57, 97, 98, 99, 100, 101, 102]⟩ c = hexL.getD c.toNat 0 := by
  rw [bt_bl, show bl ⟨#[48, 49, 50, 51, 52, 53, 54, 55, 56, 57, 97, 98, 99, 100, 101, 102]⟩ = hexL from bl_hex]
theorem q1_esc {c : Int} (h : c = 34 ∨ c = 92) : q1 c = [92, c] := by unfold q1; rw [if_pos h]
theorem q1_nl {c : Int} (h : c = 10) : q1 c = [92, 110] := by unfold q1; rw [if_neg (by omega), if_pos h]
theorem q1_hid {c : Int} (h0 : 0 ≤ c ∧ c ≤ 255) (h1 : ¬ c = 34) (h2 : ¬ c = 92) (h3 : ¬ c = 10) (h : hid c = true) : q1 c = [92, 120, bt ⟨#[48, 49, 50, 51, 52, 53, 54, 55, 56, 57, 97, 98, 99, 100, 101, 102]⟩ (c / 16), bt ⟨#[48, 49, 50, 51, 52, 53, 54, 55, 56, 57, 97, 98, 99, 100, 101, 102]⟩ (c % 16)] := by
  have := (hid_iff c).1 h
  unfold q1
  rw [if_neg (by omega), if_neg h3, if_pos (by omega), hex_at (by omega), hex_at (by omega)]
theorem q1_plain {c : Int} (h1 : ¬ c = 34) (h2 : ¬ c = 92) (h3 : ¬ c = 10) (h : hid c = false) : q1 c = [c] := by
  have : ¬ (c < 33 ∧ c ≠ 10 ∨ 127 ≤ c) := fun h' => by rw [(hid_iff c).2 h'] at h; cases h
  unfold q1
  rw [if_neg (by omega), if_neg h3, if_neg (by omega)]
theorem qbs (s : ByteArray) : isBs (34 :: (bl s).flatMap q1 ++ [34]) := quotedL_bs (bl_bs s)
theorem qend {s : ByteArray} {i : Nat} (h : i = s.size) : (bl s).take i = bl s := by rw [h, ← bl_length, List.take_length]
def quotedF (s : ByteArray) : ByteArray := strOfNums (quotedL (bl s))
def quoteS : Spec where
  pre xs := ∃ s : ByteArray, xs = [.str s] ∧ s.size ≤ 16777216
  post xs r := ∃ s : ByteArray, xs = [.str s] ∧ r = .str (quotedF s)
  cost _ := 0
  fresh := true
def quoteSf (s : ByteArray) (i : Nat) : Sh := ⟨[(0, .str s), (3, .ptr 3 0), (8, .i s.size), (9, .i i)], [(3, .bld bT 5003), (5003, .arr bE 1 (rowsB (34 :: ((bl s).take i).flatMap q1)))], 0⟩
theorem quote_ctr {cx : Cx} (h : Seat cx) : Ctr cx 32 quoteS := by
  refine ctr_of (fn := Tryd.f32) (l := [.tmp 2]) (envL [(67, hiddenS)]) [0, 2, 3, 4, 5, 8, 9, 10, 17, 27, 31] [] [] (envL_cons (hidden_ctr h) (env0 h.hP)) ?_ (by rw [h.hP]; exact Tryd.func32) rfl (by kernel_rfl) rfl ?_ ?_
  · rw [h.hP]; exact ⟨_, Tryd.func32, by kernel_rfl, by kernel_rfl⟩
  · rintro xs ⟨s, rfl, hs⟩; exact ⟨_, s, rfl, rfl⟩
  · rintro xs ⟨s, rfl, hs⟩
    refine ⟨by rw [Tryd.ntmps32]; simp, ?_⟩
    simp only [go_sem, h.hP, quoteS, hiddenS, Tryd.ntmps32, Nat.reduceEqDiff, reduceCtorEq, Nat.reduceMul, Nat.reduceAdd, Nat.reduceSub, Nat.reduceDiv, Nat.reduceMod, Nat.reduceLeDiff, Nat.reduceLT, Nat.reduceBNe, Nat.reduceBEq, reduceIte, Int.reduceLE, Int.reduceLT, Int.reduceToNat, Int.reduceNeg, Int.reduceAdd, Int.reduceSub, Int.reduceMul, Int.reduceEq]
    refine vc_loop _ (quoteSf s) (fun i => i ≤ s.size) (fun i => s.size - i) [] ?_ ?_
    · refine meets_mk _ 0 (Nat.zero_le _) ?_
      simp only [go_sem, h.hP, quoteSf, Tryd.ntmps32, Nat.reduceEqDiff, reduceCtorEq, Nat.reduceMul, Nat.reduceAdd, Nat.reduceSub, Nat.reduceDiv, Nat.reduceMod, Nat.reduceLeDiff, Nat.reduceLT, Nat.reduceBNe, Nat.reduceBEq, reduceIte, Int.reduceLE, Int.reduceLT, Int.reduceToNat, Int.reduceNeg, Int.reduceAdd, Int.reduceSub, Int.reduceMul, Int.reduceEq]
      exact ⟨rfl, rfl⟩
    · intro i hi
      simp only [go_sem, h.hP, quoteSf, quoteS, hiddenS, Tryd.ntmps32, Nat.reduceEqDiff, reduceCtorEq, Nat.reduceMul, Nat.reduceAdd, Nat.reduceSub, Nat.reduceDiv, Nat.reduceMod, Nat.reduceLeDiff, Nat.reduceLT, Nat.reduceBNe, Nat.reduceBEq, reduceIte, Int.reduceLE, Int.reduceLT, Int.reduceToNat, Int.reduceNeg, Int.reduceAdd, Int.reduceSub, Int.reduceMul, Int.reduceEq]
      have hr := bt_range s i
      have hl := fm_len s i
      simp only [bt_tdiv16, bt_tmod16, rowsB_len, strRows_rowsB, rows1, List.length_append, List.length_cons, List.length_nil, show bl ⟨#[92, 110]⟩ = [92, 110] by decide, show bl ⟨#[92, 120]⟩ = [92, 120] by decide]
      (repeat' (first | with_reducible apply And.intro | with_reducible intro))
      all_goals try omega
      all_goals first
        | (have hi' : i < s.size := by omega
           refine below_mk (J := fun i => i ≤ s.size) (μ := fun i => s.size - i) _ (i + 1) (show i + 1 ≤ s.size by omega) (show s.size - (i + 1) < s.size - i by omega) ?_
           simp only [go_sem, h.hP, quoteSf, Tryd.ntmps32, Nat.reduceEqDiff, reduceCtorEq, Nat.reduceMul, Nat.reduceAdd, Nat.reduceSub, Nat.reduceDiv, Nat.reduceMod, Nat.reduceLeDiff, Nat.reduceLT, Nat.reduceBNe, Nat.reduceBEq, reduceIte, Int.reduceLE, Int.reduceLT, Int.reduceToNat, Int.reduceNeg, Int.reduceAdd, Int.reduceSub, Int.reduceMul, Int.reduceEq]
           refine ⟨i64s (by omega), ?_⟩
           rw [fm_succ hi']
           first
             | rw [q1_esc (by omega)]
             | rw [q1_nl (by omega)]
             | rw [q1_hid hr (by omega) (by omega) (by omega) (by assumption)]
             | rw [q1_plain (by omega) (by omega) (by omega) (by assumption)]
           simp only [← rowsB_app, List.cons_append, List.append_assoc, List.nil_append, *])
        | skip
      · rename_i hx
        rw [qend (show i = s.size by omega), ← rowsB_app] at hx
        exact rowsB_ok (qbs s) _ hx
      · rw [qend (show i = s.size by omega), ← rowsB_app, numsOf_rowsB]
        rfl

def quotedSf (s : ByteArray) (p : Nat × Bool) : Sh := match p.2 with
  | true => ⟨[(0, .str s), (3, .lit 5 [[.int .u8 34]]), (8, .i s.size), (9, .i 0)], [], 0⟩
  | false => ⟨[(0, .str s), (3, .own 3), (8, .i s.size), (9, .i p.1)], [(3, .arr 5 1 (rowsB (34 :: ((bl s).take p.1).flatMap q1)))], 0⟩
def quotedJ (s : ByteArray) (p : Nat × Bool) : Prop := match p.2 with
  | true => p.1 = 0
  | false => p.1 ≤ s.size
theorem quoted_leaf {s : ByteArray} {i : Nat} {n m : Nat} {σ : St} (hi : i < s.size) (hm : m = s.size - i) (h : At n [(3, 5, 1)] (quotedSf s (i + 1, false)) σ) : Below n [(3, 5, 1)] (quotedSf s) (quotedJ s) (fun p => s.size - p.1) m σ :=
  below_mk _ (i + 1, false) (by show i + 1 ≤ s.size; omega) (by show s.size - (i + 1) < m; omega) h
theorem hid_not {c : Int} : (c < 33 → hid c = true ∨ c = 10) ∧ (126 < c → hid c = true) ∧ (¬ c < 33 → ¬ 126 < c → hid c = false) := by
  refine ⟨fun h => ?_, fun h => (hid_iff c).2 (by omega), fun h1 h2 => ?_⟩
  · by_cases e : c = 10
    · exact .inr e
    · exact .inl ((hid_iff c).2 (by omega))
  · cases e : hid c with
    | false => rfl
    | true => have := (hid_iff c).1 e; omega
end Go.Avc

/- Keys by the reference: strings.Trim at a cutset of ASCII bytes. No condition. -/
set_option linter.unusedVariables false
set_option linter.unusedSimpArgs false
set_option maxRecDepth 100000
namespace Go.Avc
open Go Go.Proofs

def asciiB (c : ByteArray) : Bool := c.data.toList.all fun b => decide (b.toNat < 128)
def trimF (s c : ByteArray) : ByteArray := ⟨(Lib.trimS s.data.toList c.data.toList).toArray⟩
def trimSp  : Spec where
  pre xs := ∃ (s : ByteArray) (c : ByteArray), xs = [.str s, .str c] ∧ (s.size ≤ 4611686018427387904 ∧ c.size ≤ 1000000 ∧ asciiB c = true)
  post xs y := ∃ (s : ByteArray) (c : ByteArray), xs = [.str s, .str c] ∧ y = .str (trimF s c)
  cost _ := 0
  fresh := true
theorem trimSp_c  (xs : List AV) : (trimSp).cost xs = 0 := nr rfl
theorem trimSp_f  : (trimSp).fresh = true := nr rfl
theorem trimSp_q  (s : ByteArray) (c : ByteArray) : (trimSp).pre [.str s, .str c] = (s.size ≤ 4611686018427387904 ∧ c.size ≤ 1000000 ∧ asciiB c = true) := propext ⟨fun h => by
  have h' : ∃ (s' : ByteArray) (c' : ByteArray), ([.str s, .str c] : List AV) = [.str s', .str c'] ∧ (s'.size ≤ 4611686018427387904 ∧ c'.size ≤ 1000000 ∧ asciiB c' = true) := h
  obtain ⟨s', c', e, h⟩ := h'
  simp only [List.cons.injEq, AV.dv.injEq, AV.fv.injEq, DV.d.injEq, DV.ag.injEq, D.int.injEq, D.str.injEq, D.bool.injEq, D.sl.injEq, true_and, and_true, intsDi_inj, rowsT_inj, rowsKi_inj] at e
  obtain ⟨rfl, rfl⟩ := e
  exact h, fun h => ⟨s, c, rfl, h⟩⟩
theorem trimSp_p  (s : ByteArray) (c : ByteArray) : (trimSp).post [.str s, .str c] = fun y => y = .str (trimF s c) := funext fun y => propext ⟨fun h => by
  have h' : ∃ (s' : ByteArray) (c' : ByteArray), ([.str s, .str c] : List AV) = [.str s', .str c'] ∧ y = .str (trimF s' c') := h
  obtain ⟨s', c', e, h⟩ := h'
  simp only [List.cons.injEq, AV.dv.injEq, AV.fv.injEq, DV.d.injEq, DV.ag.injEq, D.int.injEq, D.str.injEq, D.bool.injEq, D.sl.injEq, true_and, and_true, intsDi_inj, rowsT_inj, rowsKi_inj] at e
  obtain ⟨rfl, rfl⟩ := e
  exact h, fun h => ⟨s, c, rfl, h⟩⟩
theorem trim_ctr {cx : Cx} (h : Seat cx) : Ctr cx 16 trimSp := by
  refine ctr_flat (by rw [h.hP]; exact ⟨_, Tryd.func16, by kernel_rfl, by kernel_rfl⟩) (fun _ => rfl) ?_
  rintro xs ⟨s, c, rfl, h1, h2, h3⟩
  refine ⟨_, _, _, rfl, ⟨s, c, rfl, rfl⟩, rfl, fun w hw => ?_⟩
  rw [h.hP]
  exact Tryd.strings_Trim_ascii s c w (by omega) (by omega) (ascii_of_all h3)
def onlyB (s c : ByteArray) : Bool := s.data.toList.all fun b => c.data.toList.contains b
theorem drop_nil_of {α : Type} {p : α → Bool} : ∀ {l : List α}, l.dropWhile p = [] ↔ l.all p = true
  | [] => by simp
  | x :: l => by
    cases h : p x with
    | true => rw [List.dropWhile_cons_of_pos h, List.all_cons, h, Bool.true_and]; exact drop_nil_of
    | false => rw [List.dropWhile_cons_of_neg (by simp [h]), List.all_cons, h]; simp
theorem drop_head {α : Type} {p : α → Bool} : ∀ {l : List α} {x : α} {r : List α}, l.dropWhile p = x :: r → p x = false
  | [], x, r, h => by simp at h
  | y :: l, x, r, h => by
    cases hy : p y with
    | true => rw [List.dropWhile_cons_of_pos hy] at h; exact drop_head h
    | false => rw [List.dropWhile_cons_of_neg (by simp [hy])] at h; cases h; exact hy
theorem trim_nil (s c : ByteArray) : ((trimF s c).size = 0) = (onlyB s c = true) := by
  apply propext
  unfold trimF onlyB Lib.trimS Lib.trimLeftS Lib.trimRightS
  show (List.toArray _).size = 0 ↔ _
  rw [List.size_toArray, List.length_eq_zero_iff, drop_nil_of, List.all_reverse]
  generalize hp : (fun b : UInt8 => c.data.toList.contains b) = p
  constructor
  · intro h
    have : s.data.toList.reverse.dropWhile p = [] := by
      cases e : s.data.toList.reverse.dropWhile p with
      | nil => rfl
      | cons x r =>
        have h1 := drop_head e
        rw [e] at h
        rw [List.all_cons, h1] at h
        cases h
    rw [drop_nil_of, List.all_reverse] at this
    exact this
  · intro h
    have : s.data.toList.reverse.dropWhile p = [] := by rw [drop_nil_of, List.all_reverse]; exact h
    rw [this]; rfl
def onlyS  : Spec where
  pre xs := ∃ (s : ByteArray) (c : ByteArray), xs = [.str s, .str c] ∧ (s.size ≤ 4611686018427387904 ∧ c.size ≤ 1000000 ∧ asciiB c = true)
  post xs y := ∃ (s : ByteArray) (c : ByteArray), xs = [.str s, .str c] ∧ y = .b (onlyB s c)
  cost _ := 0
  fresh := true
theorem onlyS_c  (xs : List AV) : (onlyS).cost xs = 0 := nr rfl
theorem onlyS_f  : (onlyS).fresh = true := nr rfl
theorem onlyS_q  (s : ByteArray) (c : ByteArray) : (onlyS).pre [.str s, .str c] = (s.size ≤ 4611686018427387904 ∧ c.size ≤ 1000000 ∧ asciiB c = true) := propext ⟨fun h => by
  have h' : ∃ (s' : ByteArray) (c' : ByteArray), ([.str s, .str c] : List AV) = [.str s', .str c'] ∧ (s'.size ≤ 4611686018427387904 ∧ c'.size ≤ 1000000 ∧ asciiB c' = true) := h
  obtain ⟨s', c', e, h⟩ := h'
  simp only [List.cons.injEq, AV.dv.injEq, AV.fv.injEq, DV.d.injEq, DV.ag.injEq, D.int.injEq, D.str.injEq, D.bool.injEq, D.sl.injEq, true_and, and_true, intsDi_inj, rowsT_inj, rowsKi_inj] at e
  obtain ⟨rfl, rfl⟩ := e
  exact h, fun h => ⟨s, c, rfl, h⟩⟩
theorem onlyS_p  (s : ByteArray) (c : ByteArray) : (onlyS).post [.str s, .str c] = fun y => y = .b (onlyB s c) := funext fun y => propext ⟨fun h => by
  have h' : ∃ (s' : ByteArray) (c' : ByteArray), ([.str s, .str c] : List AV) = [.str s', .str c'] ∧ y = .b (onlyB s' c') := h
  obtain ⟨s', c', e, h⟩ := h'
  simp only [List.cons.injEq, AV.dv.injEq, AV.fv.injEq, DV.d.injEq, DV.ag.injEq, D.int.injEq, D.str.injEq, D.bool.injEq, D.sl.injEq, true_and, and_true, intsDi_inj, rowsT_inj, rowsKi_inj] at e
  obtain ⟨rfl, rfl⟩ := e
  exact h, fun h => ⟨s, c, rfl, h⟩⟩
theorem only_ctr {cx : Cx} (h : Seat cx) : Ctr cx 24 onlyS := by
  refine ctr_of (fn := Tryd.f24) (l := [.tmp 4]) (envL [(16, trimSp)]) [0, 1, 4] [] [] (envL_cons (trim_ctr h) (env0 h.hP)) ?_ (by rw [h.hP]; exact Tryd.func24) rfl (by kernel_rfl) rfl ?_ ?_
  · rw [h.hP]; exact ⟨_, Tryd.func24, by kernel_rfl, by kernel_rfl⟩
  · rintro xs ⟨s, c, rfl, h1, h2, h3⟩; exact ⟨_, s, c, rfl, rfl⟩
  · rintro xs ⟨s, c, rfl, h1, h2, h3⟩
    refine ⟨by rw [Tryd.ntmps24]; simp, ?_⟩
    simp only [go_sem, h.hP, List.cons_append, List.nil_append, Meets_e, Below_e, Prod.exists, exists_eq, exists_eq_left, exists_eq_left', exists_eq_right, exists_eq_right', exists_and_left, exists_and_right, Ob.arr.injEq, AV.own.injEq, AV.fv.injEq, onlyS_q, onlyS_p, onlyS_c, onlyS_f, trimSp_q, trimSp_p, trimSp_c, trimSp_f, str_nil, trim_nil, Tryd.ntmps24, Nat.reduceEqDiff, reduceCtorEq, Nat.reduceMul, Nat.reduceAdd, Nat.reduceSub, Nat.reduceDiv, Nat.reduceMod, Nat.reduceLeDiff, Nat.reduceLT, Nat.reduceBNe, Nat.reduceBEq, reduceIte, Int.reduceLE, Int.reduceLT, Int.reduceToNat, Int.reduceNeg, Int.reduceAdd, Int.reduceSub, Int.reduceMul, Int.reduceEq]
    exact ⟨h1, h2, h3, by cases onlyB s c <;> rfl⟩
theorem u8_all {p : UInt8 → Bool} (h : ((List.range 256).all fun n => p (UInt8.ofNat n)) = true) (c : UInt8) : p c = true := by
  rw [List.all_eq_true] at h
  have := h c.toNat (List.mem_range.2 (UInt8.toNat_lt c))
  rwa [UInt8.ofNat_toNat] at this
theorem u8_same {p q : UInt8 → Bool} (h : ((List.range 256).all fun n => p (UInt8.ofNat n) == q (UInt8.ofNat n)) = true) (c : UInt8) : p c = q c := by
  have := u8_all (p := fun c => p c == q c) h c
  simpa using this
theorem bl_all (s : ByteArray) (p : Int → Bool) : (bl s).all p = s.data.toList.all fun c => p (c.toNat : Int) := by
  unfold bl
  rw [List.all_map]; rfl
theorem only_all {c : ByteArray} {p : Int → Bool} (h : ((List.range 256).all fun n => c.data.toList.contains (UInt8.ofNat n) == p (((UInt8.ofNat n).toNat : Nat) : Int)) = true) (s : ByteArray) : onlyB s c = (bl s).all p := by
  rw [bl_all]
  unfold onlyB
  rw [funext (u8_same (p := fun b => c.data.toList.contains b) (q := fun b => p (b.toNat : Int)) h)]
end Go.Avc

/- Loops that look for the first error, and what the generators' lists hold: plain law. No condition. -/
set_option linter.unusedVariables false
set_option linter.unusedSimpArgs false
namespace Go.Avc
open Go Go.Proofs

/-- The first of some errors. -/
def firstI (n : Nat) (f : Nat → Int) : Int := match (List.range n).find? (fun i => decide (f i ≠ 0)) with
  | some i => f i
  | none => 0
theorem firstI_no {n : Nat} {f : Nat → Int} {i : Int} (h : ∀ j : Nat, (j : Int) < i → f j = 0) (hi : n ≤ i) : firstI n f = 0 := by
  unfold firstI
  rw [List.find?_eq_none.2]
  intro x hx
  simp [h x (by have := List.mem_range.1 hx; omega)]
theorem firstI_at {n : Nat} {f : Nat → Int} {i : Int} (h0 : 0 ≤ i) (h1 : i < n) (h : ∀ j : Nat, (j : Int) < i → f j = 0) (hf : f i.toNat ≠ 0) : firstI n f = f i.toNat := by
  unfold firstI
  obtain ⟨k, rfl⟩ : ∃ k : Nat, i = k := ⟨i.toNat, by omega⟩
  rw [Int.toNat_natCast] at hf ⊢
  have : (List.range n).find? (fun i => decide (f i ≠ 0)) = some k := by
    rw [List.find?_range_eq_some]
    refine ⟨by simpa using hf, List.mem_range.2 (by omega), fun j hj => by simp [h j (by omega)]⟩
  rw [this]
/-- The rounds of a loop that looks for the first error. -/
def Rounds (n : Nat) (f : Nat → Int) (i : Int) : Prop := 0 ≤ i ∧ i ≤ n ∧ ∀ j : Nat, (j : Int) < i → f j = 0
theorem Rounds.start {n : Nat} {f : Nat → Int} : Rounds n f 0 := ⟨by decide, Int.natCast_nonneg _, fun j hj => by omega⟩
theorem Rounds.use {n : Nat} {f : Nat → Int} {i : Int} (h : Rounds n f i) (hn : n ≤ 4611686018427387904) :
    0 ≤ i ∧ (i < n → f i.toNat = 0 → Rounds n f (IntKind.i64.wrap (i + 1))) ∧ (i < n → ((n : Int) - IntKind.i64.wrap (i + 1)).toNat < ((n : Int) - i).toNat) ∧
    (∀ e, i < n → f i.toNat = e → e ≠ 0 → firstI n f = e) ∧ (¬ i < n → firstI n f = 0) := by
  obtain ⟨j1, j2, j3⟩ := h
  refine ⟨j1, fun c hf => ?_, fun c => by rw [i64w (by omega) (by omega)]; omega, fun e c hf he => by subst hf; exact firstI_at j1 c j3 he, fun c => firstI_no j3 (by omega)⟩
  rw [i64w (by omega) (by omega)]
  refine ⟨by omega, by omega, fun j hj => ?_⟩
  by_cases e : (j : Int) = i
  · rw [← e, Int.toNat_natCast] at hf; exact hf
  · exact j3 j (by omega)
theorem any_first {α : Type} (l : List α) (d : α) (q : α → Bool) {e : Int} (he : e ≠ 0) : firstI l.length (fun i => if q (l.getD i d) = true then e else 0) = if l.any q = true then e else 0 := by
  by_cases h : l.any q = true
  · rw [if_pos h]
    have hne : ∃ i, i < l.length ∧ q (l.getD i d) = true := by
      obtain ⟨x, hx, hq⟩ := List.any_eq_true.1 h
      obtain ⟨i, hi, rfl⟩ := List.mem_iff_getElem.1 hx
      exact ⟨i, hi, by rw [List.getD_eq_getElem?_getD, List.getElem?_eq_getElem hi]; exact hq⟩
    unfold firstI
    cases hf : (List.range l.length).find? (fun i => decide ((if q (l.getD i d) = true then e else 0) ≠ 0)) with
    | none =>
      obtain ⟨i, hi, hq⟩ := hne
      have := List.find?_eq_none.1 hf i (List.mem_range.2 hi)
      simp only [decide_eq_true_eq] at this
      rw [if_pos hq] at this
      exact absurd he this
    | some i =>
      have := List.find?_some hf
      simp only [decide_eq_true_eq] at this
      split at this
      · rename_i hq; simp only [hq, if_true]
      · exact absurd rfl this
  · rw [if_neg h]
    refine firstI_no (i := l.length) (fun j hj => ?_) (by omega)
    rw [if_neg]
    intro hq
    have hj' : j < l.length := by omega
    rw [List.getD_eq_getElem?_getD, List.getElem?_eq_getElem hj'] at hq
    exact h (List.any_eq_true.2 ⟨_, List.getElem_mem hj', hq⟩)
theorem inB_iff {n lo hi : Int} : inB n lo hi = true ↔ lo ≤ n ∧ n ≤ hi := by unfold inB; exact decide_eq_true_iff
theorem okL_get {α : Type} {p : α → Prop} {l : List α} {d : α} (h : okL p l) (hd : p d) (i : Nat) : p (l.getD i d) := by
  rw [List.getD_eq_getElem?_getD]
  cases e : l[i]? with
  | none => exact hd
  | some x => exact h.2 x (List.mem_of_getElem? e)
theorem ne_ft {b : Bool} (h : b = true) : ¬ b = false := fun e => by rw [h] at e; cases e
theorem ne_tf {b : Bool} (h : b = false) : ¬ b = true := fun e => by rw [h] at e; cases e
def orE (a b : Int) : Int := if a ≠ 0 then a else b
theorem orE_l {a b : Int} (h : a ≠ 0) : orE a b = a := if_pos h
theorem orE_r {a b : Int} (h : a = 0) : orE a b = b := if_neg (fun e => e h)
theorem firstI_zero {n : Nat} {f : Nat → Int} (h : firstI n f = 0) (i : Nat) (hi : i < n) : f i = 0 := by
  unfold firstI at h
  cases hf : (List.range n).find? (fun i => decide (f i ≠ 0)) with
  | none =>
    have := List.find?_eq_none.1 hf i (List.mem_range.2 hi)
    simpa using this
  | some k =>
    rw [hf] at h
    have := List.find?_some hf
    simp only [decide_eq_true_eq] at this
    exact absurd h this
theorem orE_zero {a b : Int} (h : orE a b = 0) : a = 0 ∧ b = 0 := by
  unfold orE at h
  split at h
  · rename_i c; exact absurd h c
  · rename_i c; exact ⟨Decidable.not_not.1 c, h⟩
theorem isIn_le {x : Int} {l : List Int} (h : isIn x l) {b : Int} (hb : l.all (fun y => decide (-b ≤ y ∧ y ≤ b)) = true) : -b ≤ x ∧ x ≤ b := by
  have := List.all_eq_true.1 hb x h
  simpa using this
theorem isOf_ok {x : ByteArray} {l : List ByteArray} (h : isOf x l) (hb : l.all (fun y => decide (y.size ≤ 1000)) = true) : x.size ≤ 1000 := by
  have := List.all_eq_true.1 hb x h
  simpa using this
theorem okI_of {x : Int} {b : Int} (h : -b ≤ x ∧ x ≤ b) (hb : b ≤ 1125899906842624) : okI x := ⟨by omega, by omega⟩
theorem isIn_ok {x : Int} {l : List Int} (h : isIn x l) (hb : l.all (fun y => decide (-1125899906842624 ≤ y ∧ y ≤ 1125899906842624)) = true) : okI x := isIn_le h hb
theorem okL_app {α : Type} {p : α → Prop} {l : List α} {x : α} (h : ∀ y ∈ l, p y) (hx : p x) : ∀ y ∈ l ++ [x], p y := fun y hy => by
  rcases List.mem_append.1 hy with hy | hy
  · exact h y hy
  · rw [List.mem_singleton] at hy; rw [hy]; exact hx
theorem okL_mem {α : Type} {p : α → Prop} {l : List α} {x y : α} (hm : y ∈ l ++ [x]) (h : ∀ y ∈ l, p y) (hx : p x) : p y := okL_app h hx y hm
theorem okL_one {α : Type} {p : α → Prop} {x : α} (hx : p x) : okL p [x] := ⟨by simp, fun y hy => by rw [List.mem_singleton] at hy; rw [hy]; exact hx⟩
theorem okS_of {s : ByteArray} (h : s.size ≤ 1000) : okS s := by unfold okS; omega
theorem odd_ok {q : Int} (h1 : -1099511627776 ≤ q) (h2 : q ≤ 1099511627776) : okI q := ⟨by omega, by omega⟩
theorem all_get {α : Type} {p : α → Prop} {l : List α} {d : α} (h : ∀ x ∈ l, p x) (hd : p d) (i : Nat) : p (l.getD i d) := by
  rw [List.getD_eq_getElem?_getD]
  cases e : l[i]? with
  | none => exact hd
  | some x => exact h x (List.mem_of_getElem? e)
def okIB (l : List Int) : Bool := decide (l.length ≤ 1048576) && l.all fun y => decide (-1125899906842624 ≤ y ∧ y ≤ 1125899906842624)
theorem okLI_of {l : List Int} (h : okIB l = true) : okL okI l := by
  unfold okIB at h
  rw [Bool.and_eq_true, decide_eq_true_eq, List.all_eq_true] at h
  exact ⟨h.1, fun x hx => by have := h.2 x hx; unfold okI; simpa using this⟩
def okSB (l : List ByteArray) : Bool := decide (l.length ≤ 1048576) && l.all fun y => decide (y.size ≤ 1000)
theorem okLS_of {l : List ByteArray} (h : okSB l = true) : okL okS l := by
  unfold okSB at h
  rw [Bool.and_eq_true, decide_eq_true_eq, List.all_eq_true] at h
  exact ⟨h.1, fun x hx => okS_of (by simpa using h.2 x hx)⟩
theorem okLI_lit {ls : List (List Int)} (h : ls.all okIB = true) (i : Nat) : okL okI (ls.getD i []) := all_get (p := okL okI) (fun x hx => okLI_of (List.all_eq_true.1 h x hx)) (okL_z _) i
theorem okLS_lit {ls : List (List ByteArray)} (h : ls.all okSB = true) (i : Nat) : okL okS (ls.getD i []) := all_get (p := okL okS) (fun x hx => okLS_of (List.all_eq_true.1 h x hx)) (okL_z _) i
theorem okL_snoc {α : Type} {p : α → Prop} {l : List α} {x : α} (h : ∀ y ∈ l, p y) (hl : (l.length : Int) ≤ 1000) (hx : p x) : okL p (l ++ [x]) := ⟨by rw [List.length_append, List.length_singleton]; omega, okL_app h hx⟩
end Go.Avc
