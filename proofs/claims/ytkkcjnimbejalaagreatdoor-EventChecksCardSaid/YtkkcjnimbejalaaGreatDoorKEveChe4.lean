/- The stream's Next and Below, walked: what they answer and what they leave as it was. No condition. -/
import Derived.Test.YtkkcjnimbejalaaGreatDoorChecked
import Derived.Below
import Derived.Deep.Draws
import Derived.Tactics
import Derived.WalkKit
import Derived.KernelRfl
import Derived.RowKit3
import Derived.Deep.QuietTactic
import Derived.BigQuiet
import Derived.WideLaws
import Derived.IntWalk
import Derived.Deep.Heap
import Derived.Shelf.SlSortCmp.NoneTotal
import Derived.Shelf.SlicesE.Clone
import Derived.Shelf.SlicesE.Reverse
import Derived.Shelf.SlicesQ.Reverse
import Derived.Ground.SlsfProg
import Derived.Ground.SlgnProg
import Derived.Shelf.Unicode.ValidAny
import Derived.Shelf.Strings.Builder1
import Derived.Shelf.Strings.Builder2
import Derived.Shelf.Strings.Trim
import Derived.Shelf.Strings.SlTrimAscii
import Derived.Shelf.Small.Utf8
import Derived.Shelf.Small.Bits
import Derived.Shelf.Small.Strs
import Derived.Shelf.Small.Wraps
import Derived.Shelf.Strings.BuilderF
import Derived.Shelf.Strconv.Itoa0
import Derived.Shelf.Strings.Search1
import Derived.Shelf.Strings.Search2
import Derived.Shelf.Strings.Search3
import Derived.Shelf.Strings.Cut
import Derived.Shelf.Strings.Count
import Derived.Shelf.LaysM
import Derived.Shelf.Strings.Shaped
import Derived.Shelf.Strings.Prefix
import Derived.Shelf.Strings.Split
import Derived.Shelf.Strings.Runes
import Derived.Shelf.Strings.RuneCount
import Derived.Shelf.Strings.AsciiSet
import Derived.Shelf.Bits.Mul64
import Derived.Shelf.Strings.Repeat
import Derived.Shelf.Unicode.DecodeSlow
import Derived.Shelf.Unicode.DecodeAny
import Derived.Shelf.Slices.Equal
import Derived.RangeFuncNested
import Derived.RangeFuncBox
import Derived.RangeFuncLeaves
import Derived.Shelf.Abstract
import Derived.OwnWalkIn
import Derived.TacticsInMore
import Derived.LoopNIn
import Derived.LoopIn
import Derived.Test.YtkkcjnimbejalaaGreatDoorProg
import Derived.Lib.Walk
import Derived.Laws.Strings
import Derived.Lib.Builder
import Derived.Lib.AppendStr
import Derived.Lib.Strings
import Derived.Lib.Slices
import Derived.Laws.Externs
import Derived.Laws.AppendOwn
import Derived.Maps.AppendAt
import Derived.Lib.UnsafeStr
import Derived.Shelf.RegionOpenPlain
import Derived.ChangeSame
import Derived.ChangeSlices
import Derived.ChangeMaps5
import Derived.OpenShut
import Derived.Lib.DecodeN
import Derived.Carry
import Derived.LoopN
import Derived.Laws.IdiomCopy
import Derived.Lib.ValidLaws
import Derived.Lib.TrimUEq
import Derived.Deep.LoopGhost
import Derived.Lib.Repeat
import Derived.Test.YtkkcjnimbejalaaGreatDoorRows
import Derived.Lib.LaidU8
import Derived.Lib.IndexMore
import Derived.Lib.SplitLaws
import Derived.Test.YtkkcjnimbejalaaGreatDoorKEveChe1
import Derived.Test.YtkkcjnimbejalaaGreatDoorKEveChe2
import Derived.Test.YtkkcjnimbejalaaGreatDoorKEveChe3
set_option linter.unusedVariables false
set_option linter.unusedSimpArgs false
namespace Go.Avc
open Go Go.RowKit Go.Proofs Go.IntWalk

def belowF (x n : Int) : Int := if n < 1 then 0 else if x.tmod n < 0 then IntKind.i64.wrap (x.tmod n + n) else x.tmod n
set_option maxHeartbeats 8000000 in
set_option maxRecDepth 100000 in
theorem below_calls (a0 a1 : Int) (w : World) : Calls Tryz.prog 106 #[.int .i64 a0, .int .i64 a1] w fun e w' => e = .returned (.int .i64 (belowF a0 a1)) ∧ ∃ k, w' = w.drewN k := by
  unfold belowF
  by_cases c3 : a1 < 1
  · rw [if_pos c3]
    have c3b0 : decide (a1 < 1) = true := decide_eq_true c3
    go_enter Tryz.func106, Tryz.ntmps106
    go_wp2
    go_ret
    exact ⟨rfl, 0, rfl⟩
  · rw [if_neg c3]
    have c3b0 : decide (a1 < 1) = false := decide_eq_false c3
    have c4 : ¬ a1 = 0 := by omega
    have c4b0 : (a1 == 0) = false := beq_eq_false_iff_ne.mpr c4
    have c4b1 : (a1 != 0) = true := bne_iff_ne.mpr c4
    by_cases c5 : (Int.tmod a0 a1) < 0
    · rw [if_pos c5]
      have c5b0 : decide ((Int.tmod a0 a1) < 0) = true := decide_eq_true c5
      go_enter Tryz.func106, Tryz.ntmps106
      go_wp2
      go_ret
      exact ⟨by rw [i64_left]; rfl, 0, rfl⟩
    · rw [if_neg c5]
      have c5b0 : decide ((Int.tmod a0 a1) < 0) = false := decide_eq_false c5
      go_enter Tryz.func106, Tryz.ntmps106
      go_wp2
      go_ret
      exact ⟨rfl, 0, rfl⟩

set_option maxHeartbeats 8000000 in
set_option maxRecDepth 100000 in
theorem next_calls (w : World) (g : Nat) (A : Option Addr) (n c : Nat) (at0 m : Int) (hh : w.heap[g]? = some (.cells #[.slice A n c, .int .i64 at0] 25 (0, 0)))
    (h0 : 0 ≤ at0) (h1 : at0 < 4611686018427387904)
    (hA : ∀ j : Nat, j < n → ∃ a x, A = some a ∧ (a.add j).block ≠ g ∧ w.cell? (a.add j) = some (.int .i64 x)) : Calls Tryz.prog 55 #[.pointer (some ⟨g, 0, none⟩), .int .i64 m] w fun e w' => ∃ r k, e = .returned (.int .i64 (belowF r m)) ∧ w' = (w.setCell ⟨g, 1, none⟩ (.int .i64 (at0 + 1))).drewN k := by
  have hc0 : w.cell? ⟨g, 0, none⟩ = some (.slice A n c) := (cell_of_row w g 0 _ _ (0, 0) hh).trans rfl
  have hc1 : w.cell? ⟨g, 1, none⟩ = some (.int .i64 at0) := (cell_of_row w g 1 _ _ (0, 0) hh).trans rfl
  have hf1 : w.frozen? ⟨g, 1, none⟩ = false := by simp [World.frozen?, hh]
  have hw1 : wrap64 (at0 + 1) = at0 + 1 := wrap64_in _ (by omega)
  by_cases c3 : (n : Int) = 0
  · have c3b0 : ((n : Int) == 0) = true := beq_iff_eq.mpr c3
    have c3b1 : ((n : Int) != 0) = false := bne_eq_false_iff_eq.mpr c3
    go_enter Tryz.func55, Tryz.ntmps55
    go_wp2_with (go_at_call 106; (refine (below_calls _ _ _).mono ?_); rintro e w' ⟨rfl, nd, rfl⟩)
    go_ret
    exact ⟨_, _, rfl, rfl⟩
  · have c3b0 : ((n : Int) == 0) = false := beq_eq_false_iff_ne.mpr c3
    have c3b1 : ((n : Int) != 0) = true := bne_iff_ne.mpr c3
    have hw2 : wrap64 (at0 + 1 - 1) = at0 := (wrap64_in _ (by omega)).trans (by omega)
    have he : at0.tmod n = at0 % n := Int.tmod_eq_emod_of_nonneg h0
    have hp : 0 ≤ at0 % (n : Int) := Int.emod_nonneg _ (by omega)
    have hq : at0 % (n : Int) < (n : Int) := Int.emod_lt_of_pos _ (by omega)
    have hj : (at0 % (n : Int)).toNat < n := by omega
    obtain ⟨a, x, rfl, hne, hx⟩ := hA _ hj
    have hx1 : (w.setCell ⟨g, 1, none⟩ (.int .i64 (at0 + 1))).cell? (a.add (at0 % (n : Int)).toNat) = some (.int .i64 x) := (World.cell?_setCell_other w ⟨g, 1, none⟩ _ _ (fun e => hne (by rw [← e]))).trans hx
    have hx2 := fun (k : Nat) => (show ((w.drewN k).setCell ⟨g, 1, none⟩ (.int .i64 (at0 + 1))).cell? (a.add (at0 % (n : Int)).toNat) = some (.int .i64 x) from hx1)
    have hp' := eq_true hp
    have hq' := eq_true hq
    go_enter Tryz.func55, Tryz.ntmps55
    go_wp2_with (go_at_call 106; (refine (below_calls _ _ _).mono ?_); rintro e w' ⟨rfl, nd, rfl⟩)
    repeat (go_quiet (first | (go_at_call 106; (refine (below_calls _ _ _).mono ?_); rintro e w' ⟨rfl, nd, rfl⟩; exact ⟨rfl, _, rfl⟩)); try go_wp2_with (go_at_call 106; (refine (below_calls _ _ _).mono ?_); rintro e w' ⟨rfl, nd, rfl⟩))
    go_ret
    exact ⟨_, _, rfl, rfl⟩
end Go.Avc

namespace Go.Proofs
open Go.Shelf
def Tryz.lays160_ren : Go.Shelf.Ren := ⟨fun | 160 => 83 | 232 => 135 | 231 => 134 | 227 => 136 | 234 => 138 | 233 => 137 | 236 => 140 | 235 => 139 | 228 => 179 | 271 => 182 | 151 => 181 | 197 => 180 | 120 => 212 | 152 => 211 | 260 => 210 | 137 => 143 | 119 => 232 | 224 => 206 | 225 => 205 | 217 => 184 | 266 => 213 | n => n, fun | 9 => 9 | 4 => 4 | 3 => 3 | 5 => 5 | 117 => 171 | 116 => 170 | 0 => 0 | 124 => 174 | 21 => 21 | 105 => 205 | 46 => 183 | 119 => 245 | 139 => 248 | 138 => 247 | n => n, fun | 3 => 4 | 4 => 5 | n => n⟩
theorem Tryz.lays160 : Go.Proofs.Lays.n160 Tryz.prog Tryz.lays160_ren := {
  mixed := by kernel_rfl
  f119 := Tryz.func232.trans (congrArg some (by kernel_rfl))
  f120 := Tryz.func212.trans (congrArg some (by kernel_rfl))
  f137 := Tryz.func143.trans (congrArg some (by kernel_rfl))
  f151 := Tryz.func181.trans (congrArg some (by kernel_rfl))
  f152 := Tryz.func211.trans (congrArg some (by kernel_rfl))
  f160 := Tryz.func83.trans (congrArg some (by kernel_rfl))
  f197 := Tryz.func180.trans (congrArg some (by kernel_rfl))
  f217 := Tryz.func184.trans (congrArg some (by kernel_rfl))
  f224 := Tryz.func206.trans (congrArg some (by kernel_rfl))
  f225 := Tryz.func205.trans (congrArg some (by kernel_rfl))
  f227 := Tryz.func136.trans (congrArg some (by kernel_rfl))
  f228 := Tryz.func179.trans (congrArg some (by kernel_rfl))
  f231 := Tryz.func134.trans (congrArg some (by kernel_rfl))
  f232 := Tryz.func135.trans (congrArg some (by kernel_rfl))
  f233 := Tryz.func137.trans (congrArg some (by kernel_rfl))
  f234 := Tryz.func138.trans (congrArg some (by kernel_rfl))
  f235 := Tryz.func139.trans (congrArg some (by kernel_rfl))
  f236 := Tryz.func140.trans (congrArg some (by kernel_rfl))
  f260 := Tryz.func210.trans (congrArg some (by kernel_rfl))
  f266 := Tryz.func213.trans (congrArg some (by kernel_rfl))
  f271 := Tryz.func182.trans (congrArg some (by kernel_rfl))
  t0 := Tryz.underlying0
  a0 := Tryz.isAgg0
  z0 := Tryz.sizeOf0
  v0 := Tryz.zeroValue0
  t3 := Tryz.underlying3
  a3 := Tryz.isAgg3
  z3 := Tryz.sizeOf3
  v3 := Tryz.zeroValue3
  t4 := Tryz.underlying4
  a4 := Tryz.isAgg4
  z4 := Tryz.sizeOf4
  v4 := Tryz.zeroValue4
  t5 := Tryz.underlying5
  a5 := Tryz.isAgg5
  z5 := Tryz.sizeOf5
  v5 := Tryz.zeroValue5
  t9 := Tryz.underlying9
  a9 := Tryz.isAgg9
  z9 := Tryz.sizeOf9
  v9 := Tryz.zeroValue9
  t21 := Tryz.underlying21
  a21 := Tryz.isAgg21
  z21 := Tryz.sizeOf21
  v21 := Tryz.zeroValue21
  t46 := Tryz.underlying183
  a46 := Tryz.isAgg183
  z46 := Tryz.sizeOf183
  v46 := Tryz.zeroValue183
  t105 := Tryz.underlying205
  a105 := Tryz.isAgg205
  z105 := Tryz.sizeOf205
  v105 := Tryz.zeroValue205
  t116 := Tryz.underlying170
  a116 := Tryz.isAgg170
  z116 := Tryz.sizeOf170
  t117 := Tryz.underlying171
  a117 := Tryz.isAgg171
  z117 := Tryz.sizeOf171
  v117 := Tryz.zeroValue171
  t119 := Tryz.underlying245
  a119 := Tryz.isAgg245
  z119 := Tryz.sizeOf245
  t124 := Tryz.underlying174
  a124 := Tryz.isAgg174
  z124 := Tryz.sizeOf174
  v124 := Tryz.zeroValue174
  t138 := Tryz.underlying247
  a138 := Tryz.isAgg247
  z138 := Tryz.sizeOf247
  v138 := Tryz.zeroValue247
  t139 := Tryz.underlying248
  a139 := Tryz.isAgg248
  z139 := Tryz.sizeOf248
  v139 := Tryz.zeroValue248
  g3 := by kernel_rfl
  g4 := by kernel_rfl }
def Tryz.lays137_ren : Go.Shelf.Ren := ⟨fun | 137 => 143 | 217 => 184 | 266 => 213 | n => n, fun | 9 => 9 | 5 => 5 | 3 => 3 | n => n, fun | n => n⟩
theorem Tryz.lays137 : Go.Proofs.Lays.n137 Tryz.prog Tryz.lays137_ren := {
  mixed := by kernel_rfl
  f137 := Tryz.func143.trans (congrArg some (by kernel_rfl))
  f217 := Tryz.func184.trans (congrArg some (by kernel_rfl))
  f266 := Tryz.func213.trans (congrArg some (by kernel_rfl))
  t3 := Tryz.underlying3
  a3 := Tryz.isAgg3
  z3 := Tryz.sizeOf3
  v3 := Tryz.zeroValue3
  t5 := Tryz.underlying5
  a5 := Tryz.isAgg5
  z5 := Tryz.sizeOf5
  v5 := Tryz.zeroValue5
  t9 := Tryz.underlying9
  a9 := Tryz.isAgg9
  z9 := Tryz.sizeOf9
  v9 := Tryz.zeroValue9 }
open Go.RowKit in
/-- strings.IndexByte: "IndexByte returns the index of the first instance of c in s, or -1 if c is not present in s.": IT RETURNS 'Lib.indexByte s c'; the world is as it was. (LAID: no walk: one application.) -/
theorem Tryz.strings_IndexByte (s : ByteArray) (c : Int) (w : World) :
    Calls Tryz.prog 143 #[.string s, .int .u8 c] w fun e w' => e = .returned (.int .i64 (Lib.indexByte s.data.toList c.toNat.toUInt8)) ∧ w' = w := Any.strings_IndexByte Tryz.lays137 s c w
def Tryz.lays210_ren : Go.Shelf.Ren := ⟨fun | 210 => 142 | 206 => 183 | n => n, fun | 9 => 9 | 4 => 4 | 3 => 3 | n => n, fun | n => n⟩
def Tryz.lays103_ren : Go.Shelf.Ren := ⟨fun | 103 => 85 | 210 => 142 | 206 => 183 | n => n, fun | 9 => 9 | 4 => 4 | 24 => 132 | 3 => 3 | n => n, fun | n => n⟩
theorem Tryz.lays103 : Go.Proofs.Lays.n103 Tryz.prog Tryz.lays103_ren := {
  mixed := by kernel_rfl
  f103 := Tryz.func85.trans (congrArg some (by kernel_rfl))
  f206 := Tryz.func183.trans (congrArg some (by kernel_rfl))
  f210 := Tryz.func142.trans (congrArg some (by kernel_rfl))
  t3 := Tryz.underlying3
  a3 := Tryz.isAgg3
  z3 := Tryz.sizeOf3
  v3 := Tryz.zeroValue3
  t4 := Tryz.underlying4
  a4 := Tryz.isAgg4
  z4 := Tryz.sizeOf4
  v4 := Tryz.zeroValue4
  t9 := Tryz.underlying9
  a9 := Tryz.isAgg9
  z9 := Tryz.sizeOf9
  v9 := Tryz.zeroValue9
  t24 := Tryz.underlying132
  a24 := Tryz.isAgg132
  z24 := Tryz.sizeOf132
  v24 := Tryz.zeroValue132 }
open Go.RowKit in
/-- strings.CutPrefix: "CutPrefix returns s without the provided leading prefix string and reports whether it found the prefix. If s doesn't start with prefix, CutPrefix returns s, false. If prefix is the empty string, CutPrefix returns s, true.": IT RETURNS '(Lib.trimPrefix s p, Lib.hasPrefix s p)'; the world is as it was. (LAID: no walk: one application.) -/
theorem Tryz.strings_CutPrefix (s p : ByteArray) (w : World) :
    Calls Tryz.prog 85 #[.string s, .string p] w fun e w' => e = .returned (.tuple #[.string ⟨(Lib.trimPrefix s.data.toList p.data.toList).toArray⟩, .bool (Lib.hasPrefix s.data.toList p.data.toList)]) ∧ w' = w := Any.strings_CutPrefix Tryz.lays103 s p w
def Tryz.lays215_ren : Go.Shelf.Ren := ⟨fun | 215 => 162 | n => n, fun | 3 => 3 | 4 => 4 | n => n, fun | n => n⟩
def Tryz.lays122_ren : Go.Shelf.Ren := ⟨fun | 122 => 119 | 215 => 162 | n => n, fun | 3 => 3 | 4 => 4 | n => n, fun | n => n⟩
theorem Tryz.lays122 : Go.Proofs.Lays.n122 Tryz.prog Tryz.lays122_ren := {
  mixed := by kernel_rfl
  f122 := Tryz.func119.trans (congrArg some (by kernel_rfl))
  f215 := Tryz.func162.trans (congrArg some (by kernel_rfl))
  t3 := Tryz.underlying3
  a3 := Tryz.isAgg3
  z3 := Tryz.sizeOf3
  v3 := Tryz.zeroValue3
  t4 := Tryz.underlying4
  a4 := Tryz.isAgg4
  z4 := Tryz.sizeOf4
  v4 := Tryz.zeroValue4 }
open Go.RowKit in
/-- cmp.Compare at int: "Compare returns -1 if x is less than y, 0 if x equals y, +1 if x is greater than y.": IT RETURNS 'Lib.compareInt x y'; the world is as it was. (LAID: no walk: one application.) -/
theorem Tryz.cmp_Compare_int (x y : Int) (w : World) :
    Calls Tryz.prog 119 #[.int .i64 x, .int .i64 y] w fun e w' => e = .returned (.int .i64 (Lib.compareInt x y)) ∧ w' = w := Any.cmp_Compare_int Tryz.lays122 x y w
def Tryz.lays219_ren : Go.Shelf.Ren := ⟨fun | 219 => 176 | 217 => 184 | 225 => 205 | 224 => 206 | 267 => 207 | 266 => 213 | 314 => 231 | n => n, fun | 9 => 9 | 3 => 3 | 4 => 4 | 5 => 5 | 46 => 183 | 146 => 224 | 51 => 216 | n => n, fun | 1 => 3 | n => n⟩
def Tryz.lays144_ren : Go.Shelf.Ren := ⟨fun | 144 => 84 | 143 => 141 | 219 => 176 | 217 => 184 | 225 => 205 | 224 => 206 | 267 => 207 | 266 => 213 | 314 => 231 | n => n, fun | 9 => 9 | 4 => 4 | 3 => 3 | 5 => 5 | 46 => 183 | 146 => 224 | 51 => 216 | n => n, fun | 1 => 3 | n => n⟩
theorem Tryz.lays144 : Go.Proofs.Lays.n144 Tryz.prog Tryz.lays144_ren := {
  mixed := by kernel_rfl
  f143 := Tryz.func141.trans (congrArg some (by kernel_rfl))
  f144 := Tryz.func84.trans (congrArg some (by kernel_rfl))
  f217 := Tryz.func184.trans (congrArg some (by kernel_rfl))
  f219 := Tryz.func176.trans (congrArg some (by kernel_rfl))
  f224 := Tryz.func206.trans (congrArg some (by kernel_rfl))
  f225 := Tryz.func205.trans (congrArg some (by kernel_rfl))
  f266 := Tryz.func213.trans (congrArg some (by kernel_rfl))
  f267 := Tryz.func207.trans (congrArg some (by kernel_rfl))
  f314 := Tryz.func231.trans (congrArg some (by kernel_rfl))
  t3 := Tryz.underlying3
  a3 := Tryz.isAgg3
  z3 := Tryz.sizeOf3
  v3 := Tryz.zeroValue3
  t4 := Tryz.underlying4
  a4 := Tryz.isAgg4
  z4 := Tryz.sizeOf4
  v4 := Tryz.zeroValue4
  t5 := Tryz.underlying5
  a5 := Tryz.isAgg5
  z5 := Tryz.sizeOf5
  v5 := Tryz.zeroValue5
  t9 := Tryz.underlying9
  a9 := Tryz.isAgg9
  z9 := Tryz.sizeOf9
  v9 := Tryz.zeroValue9
  t46 := Tryz.underlying183
  a46 := Tryz.isAgg183
  z46 := Tryz.sizeOf183
  v46 := Tryz.zeroValue183
  t51 := Tryz.underlying216
  a51 := Tryz.isAgg216
  z51 := Tryz.sizeOf216
  v51 := Tryz.zeroValue216
  t146 := Tryz.underlying224
  a146 := Tryz.isAgg224
  z146 := Tryz.sizeOf224
  v146 := Tryz.zeroValue224
  g1 := by kernel_rfl }
open Go.RowKit Go.Lib in
/-- strings.Contains: "Contains reports whether substr is within s.": IT RETURNS 'Lib.contains s substr'; the world is as it was. (LAID: no walk: one application.) -/
theorem Tryz.strings_Contains (s sub : ByteArray) (m : Int) (w : World) (hs : s.size < 4294967281) (hm : w.cell? ⟨3, 0, none⟩ = some (.int .i64 m)) :
    Calls Tryz.prog 84 #[.string s, .string sub] w fun e w' => e = .returned (.bool (Lib.contains s.data.toList sub.data.toList)) ∧ w' = w := Any.strings_Contains Tryz.lays144 s sub m w hs hm
def Tryz.lays145_ren : Go.Shelf.Ren := ⟨fun | 145 => 80 | 220 => 132 | 219 => 176 | 217 => 184 | 225 => 205 | 224 => 206 | 267 => 207 | 266 => 213 | 314 => 231 | n => n, fun | 9 => 9 | 4 => 4 | 59 => 127 | 3 => 3 | 5 => 5 | 46 => 183 | 146 => 224 | 51 => 216 | n => n, fun | 1 => 3 | n => n⟩
theorem Tryz.lays145 : Go.Proofs.Lays.n145 Tryz.prog Tryz.lays145_ren := {
  mixed := by kernel_rfl
  f145 := Tryz.func80.trans (congrArg some (by kernel_rfl))
  f217 := Tryz.func184.trans (congrArg some (by kernel_rfl))
  f219 := Tryz.func176.trans (congrArg some (by kernel_rfl))
  f220 := Tryz.func132.trans (congrArg some (by kernel_rfl))
  f224 := Tryz.func206.trans (congrArg some (by kernel_rfl))
  f225 := Tryz.func205.trans (congrArg some (by kernel_rfl))
  f266 := Tryz.func213.trans (congrArg some (by kernel_rfl))
  f267 := Tryz.func207.trans (congrArg some (by kernel_rfl))
  f314 := Tryz.func231.trans (congrArg some (by kernel_rfl))
  t3 := Tryz.underlying3
  a3 := Tryz.isAgg3
  z3 := Tryz.sizeOf3
  v3 := Tryz.zeroValue3
  t4 := Tryz.underlying4
  a4 := Tryz.isAgg4
  z4 := Tryz.sizeOf4
  v4 := Tryz.zeroValue4
  t5 := Tryz.underlying5
  a5 := Tryz.isAgg5
  z5 := Tryz.sizeOf5
  v5 := Tryz.zeroValue5
  t9 := Tryz.underlying9
  a9 := Tryz.isAgg9
  z9 := Tryz.sizeOf9
  v9 := Tryz.zeroValue9
  t46 := Tryz.underlying183
  a46 := Tryz.isAgg183
  z46 := Tryz.sizeOf183
  v46 := Tryz.zeroValue183
  t51 := Tryz.underlying216
  a51 := Tryz.isAgg216
  z51 := Tryz.sizeOf216
  v51 := Tryz.zeroValue216
  t59 := Tryz.underlying127
  a59 := Tryz.isAgg127
  z59 := Tryz.sizeOf127
  v59 := Tryz.zeroValue127
  t146 := Tryz.underlying224
  a146 := Tryz.isAgg224
  z146 := Tryz.sizeOf224
  v146 := Tryz.zeroValue224
  g1 := by kernel_rfl }
open Go.RowKit Go.Lib in
/-- strings.Cut: "Cut slices s around the first instance of sep, returning the text before and after sep. The found result reports whether sep appears in s. If sep does not appear in s, cut returns s, "", false.": IT RETURNS 'Lib.cut s sep'; the world is as it was but for the count of draws. (LAID: no walk: one application.) -/
theorem Tryz.strings_Cut (s sep : ByteArray) (m : Int) (w : World) (hs : s.size < 4294967281) (hm : w.cell? ⟨3, 0, none⟩ = some (.int .i64 m)) :
    Calls Tryz.prog 80 #[.string s, .string sep] w fun e w' => e = .returned (.tuple #[.string ⟨(Lib.cut s.data.toList sep.data.toList).1.toArray⟩, .string ⟨(Lib.cut s.data.toList sep.data.toList).2.1.toArray⟩, .bool (Lib.cut s.data.toList sep.data.toList).2.2]) ∧ ∃ n, w' = w.drewN n := Any.strings_Cut Tryz.lays145 s sep m w hs hm
def Tryz.laysM144_ren : Go.Shelf.Ren := ⟨fun | 144 => 84 | 143 => 141 | 219 => 176 | 217 => 184 | 225 => 205 | 224 => 206 | 267 => 207 | 266 => 213 | 314 => 231 | n => n, fun | 9 => 9 | 4 => 4 | 3 => 3 | 5 => 5 | 46 => 183 | 146 => 224 | 51 => 216 | n => n, fun | 1 => 3 | n => n⟩
theorem Tryz.laysM144 : Go.Proofs.LaysM.n144 Tryz.prog Tryz.laysM144_ren := {
  mixed := by kernel_rfl
  f143 := Tryz.func141.trans (congrArg some (by kernel_rfl))
  f144 := Tryz.func84.trans (congrArg some (by kernel_rfl))
  f217 := Tryz.func184.trans (congrArg some (by kernel_rfl))
  f219 := Tryz.func176.trans (congrArg some (by kernel_rfl))
  f224 := Tryz.func206.trans (congrArg some (by kernel_rfl))
  f225 := Tryz.func205.trans (congrArg some (by kernel_rfl))
  f266 := Tryz.func213.trans (congrArg some (by kernel_rfl))
  f267 := Tryz.func207.trans (congrArg some (by kernel_rfl))
  f314 := Tryz.func231.trans (congrArg some (by kernel_rfl))
  t3 := Tryz.underlying3
  a3 := Tryz.isAgg3
  z3 := Tryz.sizeOf3
  v3 := Tryz.zeroValue3
  t4 := Tryz.underlying4
  a4 := Tryz.isAgg4
  z4 := Tryz.sizeOf4
  v4 := Tryz.zeroValue4
  t5 := Tryz.underlying5
  a5 := Tryz.isAgg5
  z5 := Tryz.sizeOf5
  v5 := Tryz.zeroValue5
  t9 := Tryz.underlying9
  a9 := Tryz.isAgg9
  z9 := Tryz.sizeOf9
  v9 := Tryz.zeroValue9
  t46 := Tryz.underlying183
  a46 := Tryz.isAgg183
  z46 := Tryz.sizeOf183
  v46 := Tryz.zeroValue183
  t51 := Tryz.underlying216
  a51 := Tryz.isAgg216
  z51 := Tryz.sizeOf216
  v51 := Tryz.zeroValue216
  t146 := Tryz.underlying224
  a146 := Tryz.isAgg224
  z146 := Tryz.sizeOf224
  v146 := Tryz.zeroValue224
  g1 := by kernel_rfl
  i3 := by kernel_rfl
  i4 := by kernel_rfl
  i5 := by kernel_rfl
  i9 := by kernel_rfl
  i46 := by kernel_rfl
  i51 := by kernel_rfl
  i146 := by kernel_rfl
  m1 := by kernel_rfl
  s1_3 := fun w h => Go.Proofs.cell_of_shapedOpen_int (zero := #[.int .i64 0]) (t := 3) h (of_decide_eq_true (by kernel_rfl)) (by kernel_rfl) rfl (by kernel_rfl) (by kernel_rfl) Tryz.underlying3 }
def Tryz.lays99_ren : Go.Shelf.Ren := ⟨fun | 99 => 166 | 206 => 183 | n => n, fun | 9 => 9 | 4 => 4 | 3 => 3 | n => n, fun | n => n⟩
theorem Tryz.lays99 : Go.Proofs.Lays.n99 Tryz.prog Tryz.lays99_ren := {
  mixed := by kernel_rfl
  f99 := Tryz.func166.trans (congrArg some (by kernel_rfl))
  f206 := Tryz.func183.trans (congrArg some (by kernel_rfl))
  t3 := Tryz.underlying3
  a3 := Tryz.isAgg3
  z3 := Tryz.sizeOf3
  v3 := Tryz.zeroValue3
  t4 := Tryz.underlying4
  a4 := Tryz.isAgg4
  z4 := Tryz.sizeOf4
  v4 := Tryz.zeroValue4
  t9 := Tryz.underlying9
  a9 := Tryz.isAgg9
  z9 := Tryz.sizeOf9
  v9 := Tryz.zeroValue9 }
open Go.RowKit Go.Lib in
/-- strings.HasPrefix: "HasPrefix reports whether the string s begins with prefix.": IT RETURNS 'Lib.hasPrefix s prefix'; the world is as it was. (LAID: no walk: one application.) -/
theorem Tryz.strings_HasPrefix (s p : ByteArray) (w : World) :
    Calls Tryz.prog 166 #[.string s, .string p] w fun e w' => e = .returned (.bool (Lib.hasPrefix s.data.toList p.data.toList)) ∧ w' = w := Any.strings_HasPrefix Tryz.lays99 s p w
def Tryz.lays221_ren : Go.Shelf.Ren := ⟨fun | 221 => 133 | 268 => 177 | 138 => 178 | 143 => 141 | 195 => 208 | 197 => 180 | 218 => 209 | 219 => 176 | 260 => 210 | 217 => 184 | 225 => 205 | 224 => 206 | 267 => 207 | 266 => 213 | 314 => 231 | n => n, fun | 9 => 9 | 3 => 3 | 31 => 80 | 4 => 4 | 0 => 0 | 105 => 205 | 21 => 21 | 5 => 5 | 46 => 183 | 119 => 245 | 139 => 248 | 138 => 247 | 146 => 224 | 51 => 216 | n => n, fun | 1 => 3 | 3 => 4 | 4 => 5 | n => n⟩
def Tryz.lays146_ren : Go.Shelf.Ren := ⟨fun | 146 => 81 | 221 => 133 | 268 => 177 | 138 => 178 | 143 => 141 | 195 => 208 | 197 => 180 | 218 => 209 | 219 => 176 | 260 => 210 | 217 => 184 | 225 => 205 | 224 => 206 | 267 => 207 | 266 => 213 | 314 => 231 | n => n, fun | 9 => 9 | 31 => 80 | 3 => 3 | 4 => 4 | 0 => 0 | 105 => 205 | 21 => 21 | 5 => 5 | 46 => 183 | 119 => 245 | 139 => 248 | 138 => 247 | 146 => 224 | 51 => 216 | n => n, fun | 1 => 3 | 3 => 4 | 4 => 5 | n => n⟩
theorem Tryz.lays146 : Go.Proofs.Lays.n146 Tryz.prog Tryz.lays146_ren := {
  mixed := by kernel_rfl
  f138 := Tryz.func178.trans (congrArg some (by kernel_rfl))
  f143 := Tryz.func141.trans (congrArg some (by kernel_rfl))
  f146 := Tryz.func81.trans (congrArg some (by kernel_rfl))
  f195 := Tryz.func208.trans (congrArg some (by kernel_rfl))
  f197 := Tryz.func180.trans (congrArg some (by kernel_rfl))
  f217 := Tryz.func184.trans (congrArg some (by kernel_rfl))
  f218 := Tryz.func209.trans (congrArg some (by kernel_rfl))
  f219 := Tryz.func176.trans (congrArg some (by kernel_rfl))
  f221 := Tryz.func133.trans (congrArg some (by kernel_rfl))
  f224 := Tryz.func206.trans (congrArg some (by kernel_rfl))
  f225 := Tryz.func205.trans (congrArg some (by kernel_rfl))
  f260 := Tryz.func210.trans (congrArg some (by kernel_rfl))
  f266 := Tryz.func213.trans (congrArg some (by kernel_rfl))
  f267 := Tryz.func207.trans (congrArg some (by kernel_rfl))
  f268 := Tryz.func177.trans (congrArg some (by kernel_rfl))
  f314 := Tryz.func231.trans (congrArg some (by kernel_rfl))
  t0 := Tryz.underlying0
  a0 := Tryz.isAgg0
  z0 := Tryz.sizeOf0
  v0 := Tryz.zeroValue0
  t3 := Tryz.underlying3
  a3 := Tryz.isAgg3
  z3 := Tryz.sizeOf3
  v3 := Tryz.zeroValue3
  t4 := Tryz.underlying4
  a4 := Tryz.isAgg4
  z4 := Tryz.sizeOf4
  v4 := Tryz.zeroValue4
  t5 := Tryz.underlying5
  a5 := Tryz.isAgg5
  z5 := Tryz.sizeOf5
  v5 := Tryz.zeroValue5
  t9 := Tryz.underlying9
  a9 := Tryz.isAgg9
  z9 := Tryz.sizeOf9
  v9 := Tryz.zeroValue9
  t21 := Tryz.underlying21
  a21 := Tryz.isAgg21
  z21 := Tryz.sizeOf21
  v21 := Tryz.zeroValue21
  t31 := Tryz.underlying80
  a31 := Tryz.isAgg80
  z31 := Tryz.sizeOf80
  v31 := Tryz.zeroValue80
  t46 := Tryz.underlying183
  a46 := Tryz.isAgg183
  z46 := Tryz.sizeOf183
  v46 := Tryz.zeroValue183
  t51 := Tryz.underlying216
  a51 := Tryz.isAgg216
  z51 := Tryz.sizeOf216
  v51 := Tryz.zeroValue216
  t105 := Tryz.underlying205
  a105 := Tryz.isAgg205
  z105 := Tryz.sizeOf205
  v105 := Tryz.zeroValue205
  t119 := Tryz.underlying245
  a119 := Tryz.isAgg245
  z119 := Tryz.sizeOf245
  t138 := Tryz.underlying247
  a138 := Tryz.isAgg247
  z138 := Tryz.sizeOf247
  v138 := Tryz.zeroValue247
  t139 := Tryz.underlying248
  a139 := Tryz.isAgg248
  z139 := Tryz.sizeOf248
  v139 := Tryz.zeroValue248
  t146 := Tryz.underlying224
  a146 := Tryz.isAgg224
  z146 := Tryz.sizeOf224
  v146 := Tryz.zeroValue224
  g1 := by kernel_rfl
  g3 := by kernel_rfl
  g4 := by kernel_rfl }
open Go.RowKit Go.Lib in
/-- strings.Split. (LAID: no walk: one application.) -/
theorem Tryz.strings_Split (s sep : ByteArray) (m : Int) (w : World) (hs : s.size < 4294967281) (hm : w.cell? ⟨3, 0, none⟩ = some (.int .i64 m)) (h1 : 1 ≤ sep.size) :
    Calls Tryz.prog 81 #[.string s, .string sep] w fun e w' =>
      e = .returned (.slice (some ⟨w.heap.size, 0, none⟩) (Lib.countB s sep + 1) (Lib.countB s sep + 1)) ∧ w' = w.alloc (.cells ((Lib.splitB sep 0 (Lib.countB s sep) s).map Value.string).toArray 9) := Any.strings_Split Tryz.lays146 (by kernel_rfl) s sep m w hs hm h1
def Tryz.lays105_ren : Go.Shelf.Ren := ⟨fun | 105 => 125 | 212 => 165 | 99 => 166 | 165 => 167 | 166 => 168 | 170 => 169 | 169 => 170 | 263 => 200 | 264 => 201 | 206 => 183 | 240 => 202 | 241 => 203 | 276 => 229 | 277 => 230 | n => n, fun | 9 => 9 | 3 => 3 | 4 => 4 | 20 => 20 | 0 => 0 | 46 => 183 | 109 => 194 | 5 => 5 | 72 => 198 | 76 => 201 | 51 => 216 | 146 => 224 | 53 => 218 | 148 => 226 | 70 => 196 | 37 => 153 | 75 => 200 | 127 => 228 | 164 => 241 | 80 => 47 | n => n, fun | n => n⟩
theorem Tryz.lays105 : Go.Proofs.Lays.n105 Tryz.prog Tryz.lays105_ren := {
  mixed := by kernel_rfl
  f99 := Tryz.func166.trans (congrArg some (by kernel_rfl))
  f105 := Tryz.func125.trans (congrArg some (by kernel_rfl))
  f165 := Tryz.func167.trans (congrArg some (by kernel_rfl))
  f166 := Tryz.func168.trans (congrArg some (by kernel_rfl))
  f169 := Tryz.func170.trans (congrArg some (by kernel_rfl))
  f170 := Tryz.func169.trans (congrArg some (by kernel_rfl))
  f206 := Tryz.func183.trans (congrArg some (by kernel_rfl))
  f212 := Tryz.func165.trans (congrArg some (by kernel_rfl))
  f240 := Tryz.func202.trans (congrArg some (by kernel_rfl))
  f241 := Tryz.func203.trans (congrArg some (by kernel_rfl))
  f263 := Tryz.func200.trans (congrArg some (by kernel_rfl))
  f264 := Tryz.func201.trans (congrArg some (by kernel_rfl))
  f276 := Tryz.func229.trans (congrArg some (by kernel_rfl))
  f277 := Tryz.func230.trans (congrArg some (by kernel_rfl))
  t0 := Tryz.underlying0
  a0 := Tryz.isAgg0
  z0 := Tryz.sizeOf0
  v0 := Tryz.zeroValue0
  t3 := Tryz.underlying3
  a3 := Tryz.isAgg3
  z3 := Tryz.sizeOf3
  v3 := Tryz.zeroValue3
  t4 := Tryz.underlying4
  a4 := Tryz.isAgg4
  z4 := Tryz.sizeOf4
  v4 := Tryz.zeroValue4
  t5 := Tryz.underlying5
  a5 := Tryz.isAgg5
  z5 := Tryz.sizeOf5
  v5 := Tryz.zeroValue5
  t9 := Tryz.underlying9
  a9 := Tryz.isAgg9
  z9 := Tryz.sizeOf9
  v9 := Tryz.zeroValue9
  t20 := Tryz.underlying20
  a20 := Tryz.isAgg20
  z20 := Tryz.sizeOf20
  v20 := Tryz.zeroValue20
  t37 := Tryz.underlying153
  a37 := Tryz.isAgg153
  z37 := Tryz.sizeOf153
  v37 := Tryz.zeroValue153
  t46 := Tryz.underlying183
  a46 := Tryz.isAgg183
  z46 := Tryz.sizeOf183
  v46 := Tryz.zeroValue183
  t51 := Tryz.underlying216
  a51 := Tryz.isAgg216
  z51 := Tryz.sizeOf216
  v51 := Tryz.zeroValue216
  t53 := Tryz.underlying218
  a53 := Tryz.isAgg218
  z53 := Tryz.sizeOf218
  v53 := Tryz.zeroValue218
  t70 := Tryz.underlying196
  a70 := Tryz.isAgg196
  z70 := Tryz.sizeOf196
  v70 := Tryz.zeroValue196
  t72 := Tryz.underlying198
  a72 := Tryz.isAgg198
  z72 := Tryz.sizeOf198
  v72 := Tryz.zeroValue198
  t75 := Tryz.underlying200
  a75 := Tryz.isAgg200
  z75 := Tryz.sizeOf200
  v75 := Tryz.zeroValue200
  t76 := Tryz.underlying201
  a76 := Tryz.isAgg201
  z76 := Tryz.sizeOf201
  v76 := Tryz.zeroValue201
  t109 := Tryz.underlying194
  a109 := Tryz.isAgg194
  z109 := Tryz.sizeOf194
  v109 := Tryz.zeroValue194
  t127 := Tryz.underlying228
  a127 := Tryz.isAgg228
  z127 := Tryz.sizeOf228
  v127 := Tryz.zeroValue228
  t146 := Tryz.underlying224
  a146 := Tryz.isAgg224
  z146 := Tryz.sizeOf224
  v146 := Tryz.zeroValue224
  t148 := Tryz.underlying226
  a148 := Tryz.isAgg226
  z148 := Tryz.sizeOf226
  v148 := Tryz.zeroValue226
  t164 := Tryz.underlying241
  a164 := Tryz.isAgg241
  z164 := Tryz.sizeOf241
  v164 := Tryz.zeroValue241 }
theorem Tryz.Builder_Extra_105 : Builder.Extra Tryz.prog Tryz.lays105_ren := {
  sizeBuilder := by kernel_rfl
  liesBuilder := by kernel_rfl
  t5 := Tryz.underlying5
  a5 := Tryz.isAgg5
  z5 := Tryz.sizeOf5
  v5 := Tryz.zeroValue5
  infoByte := by kernel_rfl
  cellsByte := by kernel_rfl
  sizeByte := by kernel_rfl
  neB5 := by decide }
open Go.RowKit Go.Lib in
/-- **strings.Repeat: count ≥ 0, the result within one allocation: count copies of s.** (LAID: no walk: one application.) -/
theorem Tryz.strings_Repeat (s : ByteArray) (c : Nat) (w : World) (hc : c ≤ 9223372036854775807) (hlen : s.size * c ≤ 140737488355328) :
    Calls Tryz.prog 125 #[.string s, .int .i64 c] w fun e w' => e = .returned (.string ⟨(Lib.repeatL s.data.toList c).toArray⟩) ∧ Below w.heap.size w w' := Any.strings_Repeat Tryz.lays105 Tryz.Builder_Extra_105 s c w hc hlen
def Tryz.lays260_ren : Go.Shelf.Ren := ⟨fun | 260 => 210 | n => n, fun | 9 => 9 | 21 => 21 | 3 => 3 | 4 => 4 | 5 => 5 | 119 => 245 | 0 => 0 | 46 => 183 | 139 => 248 | 138 => 247 | n => n, fun | 3 => 4 | 4 => 5 | n => n⟩
theorem Tryz.lays260 : Go.Proofs.Lays.n260 Tryz.prog Tryz.lays260_ren := {
  mixed := by kernel_rfl
  f260 := Tryz.func210.trans (congrArg some (by kernel_rfl))
  t0 := Tryz.underlying0
  a0 := Tryz.isAgg0
  z0 := Tryz.sizeOf0
  v0 := Tryz.zeroValue0
  t3 := Tryz.underlying3
  a3 := Tryz.isAgg3
  z3 := Tryz.sizeOf3
  v3 := Tryz.zeroValue3
  t4 := Tryz.underlying4
  a4 := Tryz.isAgg4
  z4 := Tryz.sizeOf4
  v4 := Tryz.zeroValue4
  t5 := Tryz.underlying5
  a5 := Tryz.isAgg5
  z5 := Tryz.sizeOf5
  v5 := Tryz.zeroValue5
  t9 := Tryz.underlying9
  a9 := Tryz.isAgg9
  z9 := Tryz.sizeOf9
  v9 := Tryz.zeroValue9
  t21 := Tryz.underlying21
  a21 := Tryz.isAgg21
  z21 := Tryz.sizeOf21
  v21 := Tryz.zeroValue21
  t46 := Tryz.underlying183
  a46 := Tryz.isAgg183
  z46 := Tryz.sizeOf183
  v46 := Tryz.zeroValue183
  t119 := Tryz.underlying245
  a119 := Tryz.isAgg245
  z119 := Tryz.sizeOf245
  t138 := Tryz.underlying247
  a138 := Tryz.isAgg247
  z138 := Tryz.sizeOf247
  v138 := Tryz.zeroValue247
  t139 := Tryz.underlying248
  a139 := Tryz.isAgg248
  z139 := Tryz.sizeOf248
  v139 := Tryz.zeroValue248
  g3 := by kernel_rfl
  g4 := by kernel_rfl }
def Tryz.lays197_ren : Go.Shelf.Ren := ⟨fun | 197 => 180 | 260 => 210 | n => n, fun | 9 => 9 | 21 => 21 | 3 => 3 | 4 => 4 | 5 => 5 | 105 => 205 | 119 => 245 | 0 => 0 | 46 => 183 | 139 => 248 | 138 => 247 | n => n, fun | 3 => 4 | 4 => 5 | n => n⟩
theorem Tryz.lays197 : Go.Proofs.Lays.n197 Tryz.prog Tryz.lays197_ren := {
  mixed := by kernel_rfl
  f197 := Tryz.func180.trans (congrArg some (by kernel_rfl))
  f260 := Tryz.func210.trans (congrArg some (by kernel_rfl))
  t0 := Tryz.underlying0
  a0 := Tryz.isAgg0
  z0 := Tryz.sizeOf0
  v0 := Tryz.zeroValue0
  t3 := Tryz.underlying3
  a3 := Tryz.isAgg3
  z3 := Tryz.sizeOf3
  v3 := Tryz.zeroValue3
  t4 := Tryz.underlying4
  a4 := Tryz.isAgg4
  z4 := Tryz.sizeOf4
  v4 := Tryz.zeroValue4
  t5 := Tryz.underlying5
  a5 := Tryz.isAgg5
  z5 := Tryz.sizeOf5
  v5 := Tryz.zeroValue5
  t9 := Tryz.underlying9
  a9 := Tryz.isAgg9
  z9 := Tryz.sizeOf9
  v9 := Tryz.zeroValue9
  t21 := Tryz.underlying21
  a21 := Tryz.isAgg21
  z21 := Tryz.sizeOf21
  v21 := Tryz.zeroValue21
  t46 := Tryz.underlying183
  a46 := Tryz.isAgg183
  z46 := Tryz.sizeOf183
  v46 := Tryz.zeroValue183
  t105 := Tryz.underlying205
  a105 := Tryz.isAgg205
  z105 := Tryz.sizeOf205
  v105 := Tryz.zeroValue205
  t119 := Tryz.underlying245
  a119 := Tryz.isAgg245
  z119 := Tryz.sizeOf245
  t138 := Tryz.underlying247
  a138 := Tryz.isAgg247
  z138 := Tryz.sizeOf247
  v138 := Tryz.zeroValue247
  t139 := Tryz.underlying248
  a139 := Tryz.isAgg248
  z139 := Tryz.sizeOf248
  v139 := Tryz.zeroValue248
  g3 := by kernel_rfl
  g4 := by kernel_rfl }
open Go.RowKit Go.Lib in
/-- **unicode/utf8.DecodeRuneInString AT EVERY STRING.** (LAID: no walk: one application.) -/
theorem Tryz.utf8_DecodeRuneInString (s : ByteArray) (w : World) (hT : Lib.Utf8Tabs 4 5 w) :
    Calls Tryz.prog 180 #[.string s] w fun e w' => e = .returned (.tuple #[.int .i32 (Lib.decodeGo s).1, .int .i64 (Lib.decodeGo s).2]) ∧ Below w.heap.size w w' := Any.utf8_DecodeRuneInString Tryz.lays197 s w hT
theorem Tryz.strings_Trim_ascii (s cutset : ByteArray) (w : World) (hs : s.size ≤ 9223372036854775807) (hcs : cutset.size < 4294967281) (hascii : ∀ (j : Nat) b, cutset.data.toList[j]? = some b → b.toNat < 128) :
    Calls Tryz.prog 83 #[.string s, .string cutset] w fun e w' => e = .returned (.string ⟨(Lib.trimS s.data.toList cutset.data.toList).toArray⟩) ∧ Go.RowKit.Below w.heap.size w w' := Any.strings_Trim_laid Tryz.lays160 (by kernel_rfl) s cutset w hs hcs hascii
def Tryz.laysValid_ren : Go.Shelf.Ren := ⟨fun | 196 => 227 | 259 => 237 | n => n, fun | 9 => 9 | 4 => 4 | 3 => 3 | 5 => 5 | 12 => 12 | 119 => 245 | 0 => 0 | 46 => 183 | 139 => 248 | 138 => 247 | 53 => 218 | n => n, fun | 3 => 4 | 4 => 5 | n => n⟩
theorem Tryz.laysValid : Go.Proofs.Lays.n196 Tryz.prog Tryz.laysValid_ren := {
  mixed := by kernel_rfl
  f196 := Tryz.func227.trans (congrArg some (by kernel_rfl))
  f259 := Tryz.func237.trans (congrArg some (by kernel_rfl))
  t0 := Tryz.underlying0
  a0 := Tryz.isAgg0
  z0 := Tryz.sizeOf0
  v0 := Tryz.zeroValue0
  t3 := Tryz.underlying3
  a3 := Tryz.isAgg3
  z3 := Tryz.sizeOf3
  v3 := Tryz.zeroValue3
  t4 := Tryz.underlying4
  a4 := Tryz.isAgg4
  z4 := Tryz.sizeOf4
  v4 := Tryz.zeroValue4
  t5 := Tryz.underlying5
  a5 := Tryz.isAgg5
  z5 := Tryz.sizeOf5
  v5 := Tryz.zeroValue5
  t9 := Tryz.underlying9
  a9 := Tryz.isAgg9
  z9 := Tryz.sizeOf9
  v9 := Tryz.zeroValue9
  t12 := Tryz.underlying12
  a12 := Tryz.isAgg12
  z12 := Tryz.sizeOf12
  v12 := Tryz.zeroValue12
  t46 := Tryz.underlying183
  a46 := Tryz.isAgg183
  z46 := Tryz.sizeOf183
  v46 := Tryz.zeroValue183
  t53 := Tryz.underlying218
  a53 := Tryz.isAgg218
  z53 := Tryz.sizeOf218
  v53 := Tryz.zeroValue218
  t119 := Tryz.underlying245
  a119 := Tryz.isAgg245
  z119 := Tryz.sizeOf245
  t138 := Tryz.underlying247
  a138 := Tryz.isAgg247
  z138 := Tryz.sizeOf247
  v138 := Tryz.zeroValue247
  t139 := Tryz.underlying248
  a139 := Tryz.isAgg248
  z139 := Tryz.sizeOf248
  v139 := Tryz.zeroValue248
  g3 := by kernel_rfl
  g4 := by kernel_rfl }
theorem Tryz.utf8_ValidString (s : ByteArray) (w : World) (hs : s.size ≤ 9223372036854775807) (hT : Lib.Utf8Tabs 4 5 w) :
    Calls Tryz.prog 227 #[.string s] w fun e w' => e = .returned (.bool (Lib.validD s.data.toList)) ∧ Go.RowKit.Below w.heap.size w w' := Any.utf8_ValidString Tryz.laysValid s w hs hT
def Tryz.laysCloneEvent_ren : Go.Shelf.Ren := ⟨fun | 41 => 38 | n => n, fun | 22 => 26 | 23 => 52 | 4 => 4 | n => n, fun | n => n⟩
theorem Tryz.laysCloneEvent : Go.Proofs.SlLaysE0.n41 Tryz.prog Tryz.laysCloneEvent_ren := {
  mixed := by kernel_rfl
  f41 := ⟨Tryz.f38.name, by decide, Tryz.func38.trans (congrArg some (by kernel_rfl))⟩
  t4 := Tryz.underlying4
  a4 := Tryz.isAgg4
  z4 := Tryz.sizeOf4
  v4 := Tryz.zeroValue4
  t22 := Tryz.underlying26
  a22 := Tryz.isAgg26
  z22 := Tryz.sizeOf26
  v22 := Tryz.zeroValue26 }
def Tryz.laysCloneField_ren : Go.Shelf.Ren := ⟨fun | 41 => 112 | n => n, fun | 22 => 50 | 23 => 118 | 4 => 4 | n => n, fun | n => n⟩
theorem Tryz.laysCloneField : Go.Proofs.SlLaysE0.n41 Tryz.prog Tryz.laysCloneField_ren := {
  mixed := by kernel_rfl
  f41 := ⟨Tryz.f112.name, by decide, Tryz.func112.trans (congrArg some (by kernel_rfl))⟩
  t4 := Tryz.underlying4
  a4 := Tryz.isAgg4
  z4 := Tryz.sizeOf4
  v4 := Tryz.zeroValue4
  t22 := Tryz.underlying50
  a22 := Tryz.isAgg50
  z22 := Tryz.sizeOf50
  v22 := Tryz.zeroValue50 }
def Tryz.laysSortEvent_ren : Go.Shelf.Ren := ⟨fun | 6 => 155 | 15 => 152 | 14 => 196 | 28 => 193 | 29 => 194 | 20 => 219 | 21 => 220 | 22 => 221 | 23 => 222 | 24 => 223 | 25 => 224 | 26 => 225 | 27 => 226 | 46 => 234 | 47 => 215 | 48 => 216 | 49 => 235 | 50 => 236 | 57 => 238 | n => n, fun | 22 => 26 | 24 => 52 | 25 => 124 | 3 => 3 | 39 => 183 | 0 => 0 | 53 => 216 | 55 => 218 | 4 => 4 | 46 => 210 | 45 => 209 | 50 => 178 | 5 => 5 | 9 => 9 | 66 => 230 | 70 => 234 | 76 => 250 | 77 => 34 | n => n, fun | n => n⟩
theorem Tryz.laysSortEvent : Go.Proofs.SlLaysF0.n6 Tryz.prog Tryz.laysSortEvent_ren := {
  mixed := by kernel_rfl
  f6 := ⟨Tryz.f155.name, by decide, Tryz.func155.trans (congrArg some (by kernel_rfl))⟩
  f14 := ⟨Tryz.f196.name, by decide, Tryz.func196.trans (congrArg some (by kernel_rfl))⟩
  f15 := Tryz.func152.trans (congrArg some (by kernel_rfl))
  f20 := ⟨Tryz.f219.name, by decide, Tryz.func219.trans (congrArg some (by kernel_rfl))⟩
  f21 := ⟨Tryz.f220.name, by decide, Tryz.func220.trans (congrArg some (by kernel_rfl))⟩
  f22 := ⟨Tryz.f221.name, by decide, Tryz.func221.trans (congrArg some (by kernel_rfl))⟩
  f23 := ⟨Tryz.f222.name, by decide, Tryz.func222.trans (congrArg some (by kernel_rfl))⟩
  f24 := ⟨Tryz.f223.name, by decide, Tryz.func223.trans (congrArg some (by kernel_rfl))⟩
  f25 := ⟨Tryz.f224.name, by decide, Tryz.func224.trans (congrArg some (by kernel_rfl))⟩
  f26 := ⟨Tryz.f225.name, by decide, Tryz.func225.trans (congrArg some (by kernel_rfl))⟩
  f27 := ⟨Tryz.f226.name, by decide, Tryz.func226.trans (congrArg some (by kernel_rfl))⟩
  f28 := Tryz.func193.trans (congrArg some (by kernel_rfl))
  f29 := Tryz.func194.trans (congrArg some (by kernel_rfl))
  f46 := ⟨Tryz.f234.name, by decide, Tryz.func234.trans (congrArg some (by kernel_rfl))⟩
  f47 := Tryz.func215.trans (congrArg some (by kernel_rfl))
  f48 := Tryz.func216.trans (congrArg some (by kernel_rfl))
  f49 := ⟨Tryz.f235.name, by decide, Tryz.func235.trans (congrArg some (by kernel_rfl))⟩
  f50 := ⟨Tryz.f236.name, by decide, Tryz.func236.trans (congrArg some (by kernel_rfl))⟩
  f57 := ⟨Tryz.f238.name, by decide, Tryz.func238.trans (congrArg some (by kernel_rfl))⟩
  t0 := Tryz.underlying0
  a0 := Tryz.isAgg0
  z0 := Tryz.sizeOf0
  v0 := Tryz.zeroValue0
  t3 := Tryz.underlying3
  a3 := Tryz.isAgg3
  z3 := Tryz.sizeOf3
  v3 := Tryz.zeroValue3
  t4 := Tryz.underlying4
  a4 := Tryz.isAgg4
  z4 := Tryz.sizeOf4
  v4 := Tryz.zeroValue4
  t5 := Tryz.underlying5
  a5 := Tryz.isAgg5
  z5 := Tryz.sizeOf5
  v5 := Tryz.zeroValue5
  t9 := Tryz.underlying9
  a9 := Tryz.isAgg9
  z9 := Tryz.sizeOf9
  v9 := Tryz.zeroValue9
  t22 := Tryz.underlying26
  a22 := Tryz.isAgg26
  z22 := Tryz.sizeOf26
  v22 := Tryz.zeroValue26
  t25 := Tryz.underlying124
  a25 := Tryz.isAgg124
  z25 := Tryz.sizeOf124
  v25 := Tryz.zeroValue124
  t39 := Tryz.underlying183
  a39 := Tryz.isAgg183
  z39 := Tryz.sizeOf183
  v39 := Tryz.zeroValue183
  t45 := Tryz.underlying209
  a45 := Tryz.isAgg209
  z45 := Tryz.sizeOf209
  v45 := Tryz.zeroValue209
  t46 := Tryz.underlying210
  a46 := Tryz.isAgg210
  z46 := Tryz.sizeOf210
  v46 := Tryz.zeroValue210
  t50 := Tryz.underlying178
  a50 := Tryz.isAgg178
  z50 := Tryz.sizeOf178
  v50 := Tryz.zeroValue178
  t53 := Tryz.underlying216
  a53 := Tryz.isAgg216
  z53 := Tryz.sizeOf216
  v53 := Tryz.zeroValue216
  t55 := Tryz.underlying218
  a55 := Tryz.isAgg218
  z55 := Tryz.sizeOf218
  v55 := Tryz.zeroValue218
  t66 := Tryz.underlying230
  a66 := Tryz.isAgg230
  z66 := Tryz.sizeOf230
  v66 := Tryz.zeroValue230
  t70 := Tryz.underlying234
  a70 := Tryz.isAgg234
  z70 := Tryz.sizeOf234
  v70 := Tryz.zeroValue234
  t76 := Tryz.underlying250
  a76 := Tryz.isAgg250
  z76 := Tryz.sizeOf250
  v76 := Tryz.zeroValue250
  t77 := Tryz.underlying34
  a77 := Tryz.isAgg34
  z77 := Tryz.sizeOf34
  v77 := Tryz.zeroValue34 }
end Go.Proofs

namespace Go.Proofs
open Go.RowKit Go.Shelf
attribute [local go_sem] Oper.semAt_some

end Go.Proofs

namespace Go.Avc
open Go Go.RowKit Go.Proofs

set_option maxHeartbeats 4000000 in
set_option maxRecDepth 100000 in
theorem first_walk (cx : Cx) (sps : List FSpec) (vs : List Value) (K : Int → Prop) (N b : Nat) (w : World) (hP : cx.P = Tryz.prog) {n : Nat} (hl : vs.length = n) (hl2 : sps.length = n) (hlt : n ≤ 1000) (hcall : ∀ (j : Nat) (sp : FSpec) (v : Value), sps[j]? = some sp → vs[j]? = some v → Callable cx w sp v)
    (hcell : ∀ (j : Nat) (v : Value), vs[j]? = some v → w.cell? ⟨b, j, none⟩ = some v) (hb : b < w.heap.size) (hbg : cx.g ≠ some b) (hst : StAt cx N w) (hgl : GlAt cx w) (hN : N ≤ 4611686018427387904) (hng : ∀ b, b < cx.ng → b < w.heap.size ∧ cx.g ≠ some b) (hK : FK sps K) :
    Calls Tryz.prog 121 #[.slice (some ⟨b, 0, none⟩) n n] w fun e w' => ∃ c : Int, e = .returned (.int .i64 c) ∧ K c ∧ Gr cx.g w w' ∧ StAt cx N w' := by
  go_enter Tryz.func121, Tryz.ntmps121
  go_wp2
  go_loopw [8] (fun i wr => ∃ k : Nat, k ≤ n ∧ i = .int .i64 (k : Int) ∧ Gr cx.g w wr ∧ StAt cx N wr ∧ FK (sps.drop k) K) (fun i _ => n - (RowKit.intOf i).toNat)
  case atStart => exact ⟨0, Nat.zero_le _, rfl, Gr.refl _ _, hst, by simpa using hK⟩
  case round =>
    obtain ⟨k, hk, rfl, hgr, hsr, hfk⟩ := hrel
    by_cases hlt2 : k < n
    · obtain ⟨v, hv⟩ : ∃ v, vs[k]? = some v := ⟨_, List.getElem?_eq_getElem (by omega)⟩
      obtain ⟨sp, hs⟩ : ∃ sp, sps[k]? = some sp := ⟨_, List.getElem?_eq_getElem (by omega)⟩
      have hc : wr.cell? ⟨b, k, none⟩ = some v := by
        rw [← hcell k v hv]
        unfold World.cell?
        rw [hgr.block b hb hbg]
      obtain ⟨f, caps, rfl, hen, hcl⟩ := hcall k sp v hs hv
      have hd : sps.drop k = sp :: sps.drop (k + 1) := by
        rw [List.drop_eq_getElem_cons (by omega)]
        congr 1
        have := List.getElem?_eq_getElem (l := sps) (i := k) (by omega)
        rw [this] at hs
        exact Option.some.inj hs
      rw [hd] at hfk
      obtain ⟨hpre, _, hpost⟩ := hfk
      have hen' : Enters Tryz.prog f := hP ▸ hen
      have hrn : (callFunc f caps).run Tryz.prog wr = .ok (.enter f caps) wr := by
        obtain ⟨fn, hf, hn, hb'⟩ := hen'
        simp only [callFunc, Sem.run_bind, run_program, Result.andThen_ok, hf, hn, hb', Bool.false_eq_true, if_false]
        rfl
      go_wp2
      have hcl' := hcl wr N (fun b => b < wr.heap.size ∧ cx.g ≠ some b) [] [] hgr hsr (hgl.keep hst hgr) hN (fun b hb => hb) (fun b hb => ⟨by have := (hng b hb).1; have := hgr.size; omega, (hng b hb).2⟩) rfl (fun i a u h => by simp at h) hpre
      rw [hP] at hcl'
      rw [show (([] : List Value).toArray ++ caps) = caps by simp] at hcl'
      refine hcl'.mono ?_
      rintro e w' ⟨v', r, rfl, hpo, hrd, hg2, hs2⟩
      obtain ⟨c, rfl, h1, h2⟩ := hpost r hpo
      cases (show Rd _ _ (.int .i64 c) v' from hrd)
      have e1 : IntKind.i64.wrap ((k : Int) + 1) = ((k + 1 : Nat) : Int) := by rw [IntWalk.i64_in _ (by omega)]; omega
      by_cases hc0 : c = 0
      · subst hc0
        go_wp2
        go_roundw
        case rel => exact ⟨k + 1, by omega, by simp, hgr.trans hg2, hs2, by simpa using h2⟩
        case measure => simp [RowKit.intOf] <;> omega
      · go_wp2
        go_ret
        exact ⟨c, rfl, h1 hc0, hgr.trans hg2, hs2⟩
    · obtain rfl : k = n := by omega
      have hf : K 0 := by
        rw [← hl2, List.drop_length] at hfk
        exact hfk
      go_wp2
      go_ret
      exact ⟨0, rfl, hf, hgr, hsr⟩
end Go.Avc

namespace Go.Avc
open Go

/-- A string's bytes, as numbers. -/
def bl (s : ByteArray) : List Int := s.data.toList.map fun b => (b.toNat : Int)
theorem bl_length (s : ByteArray) : (bl s).length = s.size := by
  unfold bl
  rw [List.length_map, Array.length_toList]
  rfl
theorem bt_bl (s : ByteArray) (i : Int) : bt s i = (bl s).getD i.toNat 0 := by
  unfold bt bl
  rw [List.getD_eq_getElem?_getD, List.getD_eq_getElem?_getD, List.getElem?_map]
  cases s.data.toList[i.toNat]? <;> rfl
theorem bl_extract (s : ByteArray) (a b : Nat) : bl (s.extract a b) = ((bl s).take b).drop a := by
  unfold bl
  rw [ByteArray.data_extract, Array.toList_extract, List.extract_eq_take_drop, ← List.map_take, ← List.map_drop, List.drop_take]
theorem u8_back (b : UInt8) : UInt8.ofNat ((b.toNat : Int)).toNat = b := by simp
theorem str_bl (s : ByteArray) : strOfNums (bl s) = s := by
  unfold strOfNums bl
  rw [List.map_map]
  have : ((fun n : Int => UInt8.ofNat n.toNat) ∘ fun b : UInt8 => (b.toNat : Int)) = id := by
    funext b; exact u8_back b
  rw [this, List.map_id, Array.toArray_toList]
theorem bl_inj {s t : ByteArray} : bl s = bl t ↔ s = t := ⟨fun h => by rw [← str_bl s, h, str_bl], fun h => by rw [h]⟩
theorem toList_eq_data (s : ByteArray) : s.toList = s.data.toList := by
  exact ByteArray.toList_eq s
theorem str_beq (s t : ByteArray) : (s.toList == t.toList) = decide (s = t) := by
  rw [toList_eq_data, toList_eq_data, Bool.eq_iff_iff]
  simp only [beq_iff_eq, decide_eq_true_eq]
  constructor
  · intro h
    apply ByteArray.ext
    exact Array.ext' h
  · intro h
    rw [h]
end Go.Avc

namespace Go.Avc

def hexL : List Int := [48, 49, 50, 51, 52, 53, 54, 55, 56, 57, 97, 98, 99, 100, 101, 102]
/-- One byte quoted. -/
def q1 (c : Int) : List Int := if c = 34 ∨ c = 92 then [92, c] else if c = 10 then [92, 110] else if c < 33 ∨ c > 126 then [92, 120, hexL.getD (c / 16).toNat 0, hexL.getD (c % 16).toNat 0] else [c]




end Go.Avc

set_option maxRecDepth 100000
namespace Go.Avc.F
open Go Go.Avc Go.Proofs
theorem c0 : Program.cellsOf Tryz.prog 0 = 1 := by kernel_rfl
theorem b0 : Program.bytesOf Tryz.prog 0 = 0 := by kernel_rfl
theorem k0 : Tk Tryz.prog 0 = some false := by kernel_rfl
theorem c1 : Program.cellsOf Tryz.prog 1 = 1 := by kernel_rfl
theorem b1 : Program.bytesOf Tryz.prog 1 = 8 := by kernel_rfl
theorem k1 : Tk Tryz.prog 1 = some false := by kernel_rfl
theorem c2 : Program.cellsOf Tryz.prog 2 = 1 := by kernel_rfl
theorem b2 : Program.bytesOf Tryz.prog 2 = 8 := by kernel_rfl
theorem k2 : Tk Tryz.prog 2 = some false := by kernel_rfl
theorem z2 : Tzero Tryz.prog 2 = some [.int .i64 0] := by kernel_rfl
theorem a2 : TzeroA Tryz.prog 2 = some [.dv (.d (.int .i64 0))] := by kernel_rfl
theorem o2 : Tone Tryz.prog 2 = some (.int .i64 0, 8) := by kernel_rfl
theorem c3 : Program.cellsOf Tryz.prog 3 = 1 := by kernel_rfl
theorem b3 : Program.bytesOf Tryz.prog 3 = 8 := by kernel_rfl
theorem k3 : Tk Tryz.prog 3 = some false := by kernel_rfl
theorem z3 : Tzero Tryz.prog 3 = some [.int .i64 0] := by kernel_rfl
theorem a3 : TzeroA Tryz.prog 3 = some [.dv (.d (.int .i64 0))] := by kernel_rfl
theorem o3 : Tone Tryz.prog 3 = some (.int .i64 0, 8) := by kernel_rfl
theorem c4 : Program.cellsOf Tryz.prog 4 = 1 := by kernel_rfl
theorem b4 : Program.bytesOf Tryz.prog 4 = 1 := by kernel_rfl
theorem k4 : Tk Tryz.prog 4 = some false := by kernel_rfl
theorem z4 : Tzero Tryz.prog 4 = some [.bool false] := by kernel_rfl
theorem a4 : TzeroA Tryz.prog 4 = some [.dv (.d (.bool false))] := by kernel_rfl
theorem o4 : Tone Tryz.prog 4 = some (.bool false, 1) := by kernel_rfl
theorem c5 : Program.cellsOf Tryz.prog 5 = 1 := by kernel_rfl
theorem b5 : Program.bytesOf Tryz.prog 5 = 1 := by kernel_rfl
theorem k5 : Tk Tryz.prog 5 = some false := by kernel_rfl
theorem z5 : Tzero Tryz.prog 5 = some [.int .u8 0] := by kernel_rfl
theorem a5 : TzeroA Tryz.prog 5 = some [.dv (.d (.int .u8 0))] := by kernel_rfl
theorem o5 : Tone Tryz.prog 5 = some (.int .u8 0, 1) := by kernel_rfl
theorem c6 : Program.cellsOf Tryz.prog 6 = 1 := by kernel_rfl
theorem b6 : Program.bytesOf Tryz.prog 6 = 1 := by kernel_rfl
theorem a6 : TzeroA Tryz.prog 6 = some [.dv (.d (.int .u8 0))] := by kernel_rfl
theorem c7 : Program.cellsOf Tryz.prog 7 = 4 := by kernel_rfl
theorem e7 : eqT Tryz.prog 7 = some [.i .i64, .i .i64, .b, .i .u8] := by kernel_rfl
theorem b8 : Program.bytesOf Tryz.prog 8 = 24 := by kernel_rfl
theorem e8 : eqT Tryz.prog 8 = some [.i .i64, .i .i64, .b, .i .u8] := by kernel_rfl
theorem c9 : Program.cellsOf Tryz.prog 9 = 1 := by kernel_rfl
theorem k9 : Tk Tryz.prog 9 = some false := by kernel_rfl
theorem z9 : Tzero Tryz.prog 9 = some [.str ⟨#[]⟩] := by kernel_rfl
theorem a9 : TzeroA Tryz.prog 9 = some [.dv (.d (.str ⟨#[]⟩))] := by kernel_rfl
theorem z12 : Tzero Tryz.prog 12 = some [.int .u64 0] := by kernel_rfl
theorem a12 : TzeroA Tryz.prog 12 = some [.dv (.d (.int .u64 0))] := by kernel_rfl
theorem z21 : Tzero Tryz.prog 21 = some [.int .i32 0] := by kernel_rfl
theorem a21 : TzeroA Tryz.prog 21 = some [.dv (.d (.int .i32 0))] := by kernel_rfl
theorem z22 : Tzero Tryz.prog 22 = some [.sl []] := by kernel_rfl
theorem a22 : TzeroA Tryz.prog 22 = some [.nil] := by kernel_rfl
theorem z24 : Tzero Tryz.prog 24 = some [.sl [], .int .i64 0] := by kernel_rfl
theorem a24 : TzeroA Tryz.prog 24 = some [.nil, .dv (.d (.int .i64 0))] := by kernel_rfl
theorem z25 : Tzero Tryz.prog 25 = some [.sl [], .int .i64 0] := by kernel_rfl
theorem a25 : TzeroA Tryz.prog 25 = some [.nil, .dv (.d (.int .i64 0))] := by kernel_rfl
theorem c27 : Program.cellsOf Tryz.prog 27 = 1 := by kernel_rfl
theorem k27 : Tk Tryz.prog 27 = some false := by kernel_rfl
theorem z27 : Tzero Tryz.prog 27 = some [.int .i64 0] := by kernel_rfl
theorem z45 : Tzero Tryz.prog 45 = some [.int .i64 0, .int .i64 0, .int .i64 0, .str ⟨#[]⟩] := by kernel_rfl
theorem a45 : TzeroA Tryz.prog 45 = some [.dv (.d (.int .i64 0)), .dv (.d (.int .i64 0)), .dv (.d (.int .i64 0)), .dv (.d (.str ⟨#[]⟩))] := by kernel_rfl
theorem c49 : Program.cellsOf Tryz.prog 49 = 2 := by kernel_rfl
theorem b49 : Program.bytesOf Tryz.prog 49 = 24 := by kernel_rfl
theorem k49 : Tk Tryz.prog 49 = some true := by kernel_rfl
theorem z49 : Tzero Tryz.prog 49 = some [.int .i64 0, .str ⟨#[]⟩] := by kernel_rfl
theorem a49 : TzeroA Tryz.prog 49 = some [.dv (.d (.int .i64 0)), .dv (.d (.str ⟨#[]⟩))] := by kernel_rfl
theorem e49 : eqT Tryz.prog 49 = some [.i .i64, .s] := by kernel_rfl
theorem f49_0 : Tfld Tryz.prog 49 0 = some (0, 3) := by kernel_rfl
theorem f49_1 : Tfld Tryz.prog 49 1 = some (1, 9) := by kernel_rfl
theorem c50 : Program.cellsOf Tryz.prog 50 = 1 := by kernel_rfl
theorem k50 : Tk Tryz.prog 50 = some false := by kernel_rfl
theorem z50 : Tzero Tryz.prog 50 = some [.sl []] := by kernel_rfl
theorem a50 : TzeroA Tryz.prog 50 = some [.nil] := by kernel_rfl
theorem z51 : Tzero Tryz.prog 51 = some [.str ⟨#[]⟩, .str ⟨#[]⟩, .int .i64 0, .int .i64 0, .str ⟨#[]⟩, .sl []] := by kernel_rfl
theorem a51 : TzeroA Tryz.prog 51 = some [.dv (.d (.str ⟨#[]⟩)), .dv (.d (.str ⟨#[]⟩)), .dv (.d (.int .i64 0)), .dv (.d (.int .i64 0)), .dv (.d (.str ⟨#[]⟩)), .nil] := by kernel_rfl
theorem c52 : Program.cellsOf Tryz.prog 52 = 6 := by kernel_rfl
theorem b52 : Program.bytesOf Tryz.prog 52 = 88 := by kernel_rfl
theorem k52 : Tk Tryz.prog 52 = some true := by kernel_rfl
theorem z52 : Tzero Tryz.prog 52 = some [.str ⟨#[]⟩, .str ⟨#[]⟩, .int .i64 0, .int .i64 0, .str ⟨#[]⟩, .sl []] := by kernel_rfl
theorem a52 : TzeroA Tryz.prog 52 = some [.dv (.d (.str ⟨#[]⟩)), .dv (.d (.str ⟨#[]⟩)), .dv (.d (.int .i64 0)), .dv (.d (.int .i64 0)), .dv (.d (.str ⟨#[]⟩)), .nil] := by kernel_rfl
theorem f52_0 : Tfld Tryz.prog 52 0 = some (0, 9) := by kernel_rfl
theorem f52_1 : Tfld Tryz.prog 52 1 = some (1, 9) := by kernel_rfl
theorem f52_2 : Tfld Tryz.prog 52 2 = some (2, 3) := by kernel_rfl
theorem f52_3 : Tfld Tryz.prog 52 3 = some (3, 49) := by kernel_rfl
theorem f52_4 : Tfld Tryz.prog 52 4 = some (5, 50) := by kernel_rfl
theorem p52 : Tplc Tryz.prog 52 = some [(0, 1), (1, 1), (2, 1), (3, 2), (5, 1)] := by kernel_rfl
theorem c59 : Program.cellsOf Tryz.prog 59 = 1 := by kernel_rfl
theorem k59 : Tk Tryz.prog 59 = some false := by kernel_rfl
theorem z59 : Tzero Tryz.prog 59 = some [.sl []] := by kernel_rfl
theorem a59 : TzeroA Tryz.prog 59 = some [.nil] := by kernel_rfl
theorem c61 : Program.cellsOf Tryz.prog 61 = 2 := by kernel_rfl
theorem k61 : Tk Tryz.prog 61 = some true := by kernel_rfl
theorem z61 : Tzero Tryz.prog 61 = some [.str ⟨#[]⟩, .sl []] := by kernel_rfl
theorem a61 : TzeroA Tryz.prog 61 = some [.dv (.d (.str ⟨#[]⟩)), .nil] := by kernel_rfl
theorem f61_0 : Tfld Tryz.prog 61 0 = some (0, 9) := by kernel_rfl
theorem f61_1 : Tfld Tryz.prog 61 1 = some (1, 59) := by kernel_rfl
theorem p61 : Tplc Tryz.prog 61 = some [(0, 1), (1, 1)] := by kernel_rfl
theorem c71 : Program.cellsOf Tryz.prog 71 = 1 := by kernel_rfl
theorem k71 : Tk Tryz.prog 71 = some false := by kernel_rfl
theorem z71 : Tzero Tryz.prog 71 = some [.sl []] := by kernel_rfl
theorem a71 : TzeroA Tryz.prog 71 = some [.nil] := by kernel_rfl
theorem c97 : Program.cellsOf Tryz.prog 97 = 3 := by kernel_rfl
theorem k97 : Tk Tryz.prog 97 = some true := by kernel_rfl
theorem z97 : Tzero Tryz.prog 97 = some [.int .i64 0, .str ⟨#[]⟩, .int .i64 0] := by kernel_rfl
theorem a97 : TzeroA Tryz.prog 97 = some [.dv (.d (.int .i64 0)), .dv (.d (.str ⟨#[]⟩)), .dv (.d (.int .i64 0))] := by kernel_rfl
theorem f97_0 : Tfld Tryz.prog 97 0 = some (0, 3) := by kernel_rfl
theorem f97_1 : Tfld Tryz.prog 97 1 = some (1, 9) := by kernel_rfl
theorem f97_2 : Tfld Tryz.prog 97 2 = some (2, 3) := by kernel_rfl
theorem p97 : Tplc Tryz.prog 97 = some [(0, 1), (1, 1), (2, 1)] := by kernel_rfl
theorem c103 : Program.cellsOf Tryz.prog 103 = 2 := by kernel_rfl
theorem k103 : Tk Tryz.prog 103 = some true := by kernel_rfl
theorem z103 : Tzero Tryz.prog 103 = some [.int .i64 0, .int .i64 0] := by kernel_rfl
theorem a103 : TzeroA Tryz.prog 103 = some [.dv (.d (.int .i64 0)), .dv (.d (.int .i64 0))] := by kernel_rfl
theorem f103_0 : Tfld Tryz.prog 103 0 = some (0, 3) := by kernel_rfl
theorem f103_1 : Tfld Tryz.prog 103 1 = some (1, 3) := by kernel_rfl
theorem p103 : Tplc Tryz.prog 103 = some [(0, 1), (1, 1)] := by kernel_rfl
theorem z117 : Tzero Tryz.prog 117 = some [.str ⟨#[]⟩, .int .i64 0, .str ⟨#[]⟩, .int .i64 0] := by kernel_rfl
theorem a117 : TzeroA Tryz.prog 117 = some [.dv (.d (.str ⟨#[]⟩)), .dv (.d (.int .i64 0)), .dv (.d (.str ⟨#[]⟩)), .dv (.d (.int .i64 0))] := by kernel_rfl
theorem c118 : Program.cellsOf Tryz.prog 118 = 4 := by kernel_rfl
theorem b118 : Program.bytesOf Tryz.prog 118 = 48 := by kernel_rfl
theorem k118 : Tk Tryz.prog 118 = some true := by kernel_rfl
theorem z118 : Tzero Tryz.prog 118 = some [.str ⟨#[]⟩, .int .i64 0, .str ⟨#[]⟩, .int .i64 0] := by kernel_rfl
theorem a118 : TzeroA Tryz.prog 118 = some [.dv (.d (.str ⟨#[]⟩)), .dv (.d (.int .i64 0)), .dv (.d (.str ⟨#[]⟩)), .dv (.d (.int .i64 0))] := by kernel_rfl
theorem e118 : eqT Tryz.prog 118 = some [.s, .i .i64, .s, .i .i64] := by kernel_rfl
theorem f118_0 : Tfld Tryz.prog 118 0 = some (0, 9) := by kernel_rfl
theorem f118_1 : Tfld Tryz.prog 118 1 = some (1, 97) := by kernel_rfl
theorem p118 : Tplc Tryz.prog 118 = some [(0, 1), (1, 3)] := by kernel_rfl
theorem c190 : Program.cellsOf Tryz.prog 190 = 6 := by kernel_rfl
theorem k190 : Tk Tryz.prog 190 = some true := by kernel_rfl
theorem z223 : Tzero Tryz.prog 223 = some [.int .i64 0, .int .i64 0, .int .i64 0, .int .i64 0, .int .i64 0] := by kernel_rfl
theorem a223 : TzeroA Tryz.prog 223 = some [.dv (.d (.int .i64 0)), .dv (.d (.int .i64 0)), .dv (.d (.int .i64 0)), .dv (.d (.int .i64 0)), .dv (.d (.int .i64 0))] := by kernel_rfl
theorem p223 : Tplc Tryz.prog 223 = some [(0, 1), (1, 1), (2, 1), (3, 1), (4, 1)] := by kernel_rfl
theorem zv52 : zeroAV Tryz.prog 52 = [.dv (.d (.str ⟨#[]⟩)), .dv (.d (.str ⟨#[]⟩)), .dv (.d (.int .i64 0)), .dv (.d (.int .i64 0)), .dv (.d (.str ⟨#[]⟩)), .nil] := Go.Avc.Eq.zeroAV_e a52
theorem zv61 : zeroAV Tryz.prog 61 = [.dv (.d (.str ⟨#[]⟩)), .nil] := Go.Avc.Eq.zeroAV_e a61
theorem zv97 : zeroAV Tryz.prog 97 = [.dv (.d (.int .i64 0)), .dv (.d (.str ⟨#[]⟩)), .dv (.d (.int .i64 0))] := Go.Avc.Eq.zeroAV_e a97
theorem zv103 : zeroAV Tryz.prog 103 = [.dv (.d (.int .i64 0)), .dv (.d (.int .i64 0))] := Go.Avc.Eq.zeroAV_e a103
theorem zv118 : zeroAV Tryz.prog 118 = [.dv (.d (.str ⟨#[]⟩)), .dv (.d (.int .i64 0)), .dv (.d (.str ⟨#[]⟩)), .dv (.d (.int .i64 0))] := Go.Avc.Eq.zeroAV_e a118
theorem zv223 : zeroAV Tryz.prog 223 = [.dv (.d (.int .i64 0)), .dv (.d (.int .i64 0)), .dv (.d (.int .i64 0)), .dv (.d (.int .i64 0)), .dv (.d (.int .i64 0))] := Go.Avc.Eq.zeroAV_e a223
attribute [go_sem] c0 b0 k0 Tryz.underlying0 c1 b1 k1 Tryz.underlying1 c2 b2 k2 z2 a2 o2 Tryz.underlying2 c3 b3 k3 z3 a3 o3 Tryz.underlying3 c4 b4 k4 z4 a4 o4 Tryz.underlying4 c5 b5 k5 z5 a5 o5 Tryz.underlying5
attribute [go_sem] c6 b6 a6 Tryz.underlying6 c7 e7 Tryz.underlying7 b8 e8 Tryz.underlying8 c9 k9 z9 a9
attribute [go_sem] Tryz.underlying9 Tryz.underlying10 Tryz.underlying11 z12 a12 Tryz.underlying12 Tryz.underlying13
attribute [go_sem] Tryz.underlying14 Tryz.underlying15 Tryz.underlying16 Tryz.underlying17 Tryz.underlying18 Tryz.underlying19 Tryz.underlying20 z21 a21
attribute [go_sem] Tryz.underlying21 z22 a22 Tryz.underlying22 Tryz.underlying23 z24 a24 Tryz.underlying24 z25 a25 Tryz.underlying25
attribute [go_sem] Tryz.underlying26 c27 k27 z27 Tryz.underlying27 Tryz.underlying28 Tryz.underlying29 Tryz.underlying30 Tryz.underlying31 Tryz.underlying32 Tryz.underlying33 Tryz.underlying34
attribute [go_sem] Tryz.underlying35 Tryz.underlying36 Tryz.underlying37 Tryz.underlying38 Tryz.underlying39 Tryz.underlying40 Tryz.underlying41
attribute [go_sem] Tryz.underlying42 Tryz.underlying43 Tryz.underlying44 z45 a45 Tryz.underlying45 Tryz.underlying46
attribute [go_sem] Tryz.underlying47 Tryz.underlying48 c49 b49 k49 z49 a49 e49 f49_0 f49_1 Tryz.underlying49 c50 k50 z50 a50 Tryz.underlying50 z51 a51
attribute [go_sem] Tryz.underlying51 c52 b52 k52 z52 zv52 a52 f52_0 f52_1 f52_2 f52_3 f52_4 p52 Tryz.underlying52 Tryz.underlying53 Tryz.underlying54 Tryz.underlying55 Tryz.underlying56 Tryz.underlying57
attribute [go_sem] Tryz.underlying58 c59 k59 z59 a59 Tryz.underlying59 Tryz.underlying60 c61 k61 z61 zv61 a61 f61_0 f61_1 p61 Tryz.underlying61 Tryz.underlying62 Tryz.underlying63
attribute [go_sem] Tryz.underlying64 Tryz.underlying65 Tryz.underlying66 Tryz.underlying67 Tryz.underlying68 Tryz.underlying69 Tryz.underlying70 c71 k71 z71 a71 Tryz.underlying71 Tryz.underlying72
attribute [go_sem] Tryz.underlying73 Tryz.underlying74 Tryz.underlying75 Tryz.underlying76 Tryz.underlying77 Tryz.underlying78 Tryz.underlying79 Tryz.underlying80 Tryz.underlying81
attribute [go_sem] Tryz.underlying82 Tryz.underlying83 Tryz.underlying84 Tryz.underlying85 Tryz.underlying86 Tryz.underlying87 Tryz.underlying88 Tryz.underlying89 Tryz.underlying90
attribute [go_sem] Tryz.underlying91 Tryz.underlying92 Tryz.underlying93 Tryz.underlying94 Tryz.underlying95 Tryz.underlying96 c97 k97 z97 zv97 a97 f97_0
attribute [go_sem] f97_1 f97_2 p97 Tryz.underlying97 Tryz.underlying98 Tryz.underlying99 Tryz.underlying100 Tryz.underlying101 Tryz.underlying102 c103 k103 z103 zv103 a103 f103_0 f103_1
attribute [go_sem] p103 Tryz.underlying103 Tryz.underlying104 Tryz.underlying105 Tryz.underlying106 Tryz.underlying107 Tryz.underlying108 Tryz.underlying109 Tryz.underlying110 Tryz.underlying111 Tryz.underlying112
attribute [go_sem] Tryz.underlying113 Tryz.underlying114 Tryz.underlying115 Tryz.underlying116 z117 a117 Tryz.underlying117 c118 b118 k118 z118 zv118 a118 e118 f118_0 f118_1 p118 Tryz.underlying118
attribute [go_sem] Tryz.underlying119 Tryz.underlying120 Tryz.underlying121 Tryz.underlying122 Tryz.underlying123 Tryz.underlying124 Tryz.underlying125 Tryz.underlying126 Tryz.underlying127
attribute [go_sem] Tryz.underlying128 Tryz.underlying129 Tryz.underlying130 Tryz.underlying131 Tryz.underlying132 Tryz.underlying133 Tryz.underlying134 Tryz.underlying135 Tryz.underlying136 Tryz.underlying137
attribute [go_sem] Tryz.underlying138 Tryz.underlying139 Tryz.underlying140 Tryz.underlying141 Tryz.underlying142 Tryz.underlying143 Tryz.underlying144 Tryz.underlying145 Tryz.underlying146 Tryz.underlying147
attribute [go_sem] Tryz.underlying148 Tryz.underlying149 Tryz.underlying150 Tryz.underlying151 Tryz.underlying152 Tryz.underlying153 Tryz.underlying154
attribute [go_sem] Tryz.underlying155 Tryz.underlying156 Tryz.underlying157 Tryz.underlying158 Tryz.underlying159 Tryz.underlying160 Tryz.underlying161 Tryz.underlying162 Tryz.underlying163
attribute [go_sem] Tryz.underlying164 Tryz.underlying165 Tryz.underlying166 Tryz.underlying167 Tryz.underlying168 Tryz.underlying169 Tryz.underlying170 Tryz.underlying171
attribute [go_sem] Tryz.underlying172 Tryz.underlying173 Tryz.underlying174 Tryz.underlying175 Tryz.underlying176 Tryz.underlying177 Tryz.underlying178 Tryz.underlying179 Tryz.underlying180 Tryz.underlying181
attribute [go_sem] Tryz.underlying182 Tryz.underlying183 Tryz.underlying184 Tryz.underlying185 Tryz.underlying186 Tryz.underlying187 Tryz.underlying188 Tryz.underlying189 c190 k190
attribute [go_sem] Tryz.underlying190 Tryz.underlying191 Tryz.underlying192 Tryz.underlying193 Tryz.underlying194 Tryz.underlying195 Tryz.underlying196 Tryz.underlying197
attribute [go_sem] Tryz.underlying198 Tryz.underlying199 Tryz.underlying200 Tryz.underlying201 Tryz.underlying202 Tryz.underlying203 Tryz.underlying204 Tryz.underlying205 Tryz.underlying206 Tryz.underlying207
attribute [go_sem] Tryz.underlying208 Tryz.underlying209 Tryz.underlying210 Tryz.underlying211 Tryz.underlying212 Tryz.underlying213 Tryz.underlying214 Tryz.underlying215
attribute [go_sem] Tryz.underlying216 Tryz.underlying217 Tryz.underlying218 Tryz.underlying219 Tryz.underlying220 Tryz.underlying221 Tryz.underlying222 z223 zv223 a223 p223 Tryz.underlying223
attribute [go_sem] Tryz.underlying224 Tryz.underlying225 Tryz.underlying226 Tryz.underlying227 Tryz.underlying228 Tryz.underlying229 Tryz.underlying230 Tryz.underlying231 Tryz.underlying232
attribute [go_sem] Tryz.underlying233 Tryz.underlying234 Tryz.underlying235 Tryz.underlying236 Tryz.underlying237 Tryz.underlying238 Tryz.underlying239 Tryz.underlying240 Tryz.underlying241 Tryz.underlying242
attribute [go_sem] Tryz.underlying243 Tryz.underlying244 Tryz.underlying245 Tryz.underlying246 Tryz.underlying247
attribute [go_sem] Tryz.underlying248 Tryz.underlying249 Tryz.underlying250 Tryz.underlying251 Tryz.underlying252 Tryz.underlying253 Tryz.underlying254 Tryz.underlying255
attribute [go_sem] Tryz.underlying256 Tryz.underlying257 Tryz.underlying258 Tryz.underlying259 Tryz.underlying260
attribute [go_sem] Tryz.underlying261 Tryz.underlying262 Tryz.underlying263 Tryz.underlying264 Tryz.underlying265
attribute [go_sem] Tryz.underlying266 Tryz.underlying267
end Go.Avc.F

namespace Go.Avc
open Go Go.Proofs Go.Shelf Go.Sort

section
variable {α : Type} {row : α → List D} {k : Nat}
def flatRow (x : List D) : Bool := (x.map D.ek).all EK.ok
theorem rdL_flat_mk {ok : Nat → Prop} {w : World} {l : List D} (h : flatRow l = true) : RdL ok w l (l.map vD) := ⟨by rw [List.length_map], fun j x v hx hv => by
  rw [List.getElem?_map, hx] at hv
  cases hv
  have hk := List.all_eq_true.1 h _ (List.mem_map.2 ⟨x, List.mem_of_getElem? hx, rfl⟩)
  cases x with
  | int k n => exact .int k n
  | bool b => exact .bool b
  | str s => exact .str s
  | sl l => cases hk⟩
theorem flat_rows (hfl : ∀ a, flatRow (row a) = true) (l : List α) : flatRow (l.map row).flatten = true := by
  unfold flatRow
  rw [List.all_eq_true]
  intro y hy
  obtain ⟨x, hx, rfl⟩ := List.mem_map.1 hy
  obtain ⟨r, hr, hx⟩ := List.mem_flatten.1 hx
  obtain ⟨a, _, rfl⟩ := List.mem_map.1 hr
  exact List.all_eq_true.1 (hfl a) _ (List.mem_map.2 ⟨x, hx, rfl⟩)
theorem len_rows (hk : ∀ a, (row a).length = k) (l : List α) : ∀ (i : Nat) (x : List D), (l.map row)[i]? = some x → x.length = k := fun i x hx => by
  rw [List.getElem?_map, Option.map_eq_some_iff] at hx
  obtain ⟨a, _, rfl⟩ := hx
  exact hk a
theorem flat_len (hk0 : 0 < k) (hk : ∀ a, (row a).length = k) (l : List α) : ((l.map row).flatten.map vD).length = l.length * k := by
  rw [List.length_map, (flat_index hk0 (len_rows hk l)).1, List.length_map]
theorem oneV {x : D} (h : x.ek.ok = true) : (vD x).oneCell' = true := by
  cases x with
  | sl l => cases h
  | _ => rfl
variable [Inhabited α]
end
end Go.Avc

namespace Go.Avc
open Go Go.Proofs

theorem rel_int {cx : Cx} {w0 : World} {ok : Nat → Prop} {ρ : Nat → Value} {w : World} {k : IntKind} {n : Int} {v : Value} (h : rel0 cx w0 ok ρ w (.dv (.d (.int k n))) v) : v = .int k n := by
  have h' : Rd ok w (.int k n) v := h
  cases h'
  rfl


theorem belowF_range {x m : Int} (hm : m ≤ 9223372036854775807) : (1 ≤ m → 0 ≤ belowF x m ∧ belowF x m < m) ∧ (m < 1 → belowF x m = 0) := by
  unfold belowF
  refine ⟨fun h => ?_, fun h => by rw [if_pos h]⟩
  rw [if_neg (by omega)]
  have h1 : x.tmod m < m := Int.tmod_lt_of_pos x (by omega)
  have h2 : -m < x.tmod m := Int.lt_tmod_of_pos x (by omega)
  split
  · rw [IntWalk.i64_in _ (by omega)]
    omega
  · omega

def nextS : Spec where
  pre xs := ∃ m : Int, xs = [.st, .i m] ∧ m ≤ 9223372036854775807
  post xs r := ∃ m q : Int, xs = [.st, .i m] ∧ (1 ≤ m → 0 ≤ q ∧ q < m) ∧ (m < 1 → q = 0) ∧ r = .i q
  cost _ := 1
  fresh := true
theorem next_ctr (cx : Cx) (hP : cx.P = Tryz.prog) (hS : cx.ST = 25) : Ctr cx 55 nextS := by
  refine ⟨by rw [hP]; exact ⟨_, Tryz.func55, by kernel_rfl, by kernel_rfl⟩, fun xs ⟨m, e, hm⟩ => ⟨.i (belowF 0 m), m, belowF 0 m, e, (belowF_range hm).1, (belowF_range hm).2, rfl⟩, ?_⟩
  rintro F xs vals rfl hF hst hgl hc hlen hargs ⟨m, rfl, hm⟩
  match vals, hlen with
  | [u, v], _ =>
    have h1 := rel_int (hargs 1 _ v rfl rfl)
    subst h1
    obtain ⟨b, hb, hu⟩ := hargs 0 _ u rfl rfl
    subst hu
    obtain ⟨hng, A, c, n, hh, hn0, hnN, hrd⟩ := hst b hb
    have hN := hF.nb
    have hc1 : 1 ≤ F.B := hc
    rw [hP]
    have hsz : b < F.w0.heap.size := (Array.getElem?_eq_some_iff.1 hh).1
    refine (next_calls F.w0 b A F.cx.L.length c n m (by rw [← hS]; exact hh) hn0 (by omega) (fun j hj => ?_)).mono ?_
    · generalize hl : (F.cx.L.map fun x => [D.int .i64 x]) = l at hrd
      have hll : F.cx.L.length = l.length := by rw [← hl, List.length_map]
      rw [hll] at hrd hj
      cases hrd with
      | nil A c => exact absurd hj (by simp)
      | sl l z b' o c u hc' hb' hlt hz hu' hr =>
        have hx : l[j]? = some [D.int .i64 (F.cx.L.getD j 0)] := by
          rw [← hl, List.getElem?_map, List.getD_eq_getElem?_getD, List.getElem?_eq_getElem (by omega)]
          rfl
        have hz1 : z = 1 := (hz j _ hx).symm
        subst hz1
        have h2 := hu' j _ hx 0 _ rfl
        have h3 := hr j _ hx 0 _ rfl
        generalize u j 0 = v at h2 h3
        cases h3
        refine ⟨⟨b', o, none⟩, F.cx.L.getD j 0, rfl, ?_, ?_⟩
        · rw [Addr.add_lit]; show b' ≠ b; omega
        · rw [Addr.add_lit]
          simpa using h2
    · rintro e w' ⟨r, k, rfl, rfl⟩
      have hg : Gr F.cx.g F.w0 ((F.w0.setCell ⟨b, 1, none⟩ (.int .i64 (n + 1))).drewN k) := ⟨rfl, rfl, rfl, by show _ ≤ (F.w0.setCell _ _).heap.size; simp [World.setCell], fun b' hb' hne => heap_setCell_other _ _ _ _ (fun e => hne (by rw [hb, e]))⟩
      refine ⟨_, .i (belowF r m), rfl, hg, ?_, ⟨m, belowF r m, rfl, (belowF_range hm).1, (belowF_range hm).2, rfl⟩, rfl, Rd.int _ _⟩
      intro b' hb'
      rw [hb] at hb'
      cases hb'
      refine ⟨hng, A, c, n + 1, ?_, by omega, by show n + 1 ≤ ((F.N + 1 : Nat) : Int); omega, hrd.mono hg.size (fun _ h _ => h) (fun k' hk' hlt => hg.block k' hlt (fun e => ?_))⟩
      · show (F.w0.setCell ⟨b, 1, none⟩ (.int .i64 (n + 1))).heap[b]? = _
        simp [World.setCell, Array.getElem?_modify, hh]
      · rw [hb] at e
        cases e
        omega
end Go.Avc

namespace Go.Avc
open Go Go.RowKit Go.Proofs

set_option maxHeartbeats 1000000 in
set_option maxRecDepth 100000 in
theorem check_used (b : Nat) (w : World) (h0 : w.cell? ⟨b, 0, none⟩ = some (.pointer (some ⟨b, 0, none⟩))) :
    Calls Tryz.prog 202 #[.pointer (some ⟨b, 0, none⟩)] w fun e w' => e = .returned (.tuple #[]) ∧ w' = w := by
  have hj : ∃ j, Tryz.prog.info? 198 = some j := ⟨Tryz.t198, by kernel_rfl⟩
  obtain ⟨j, hj⟩ := hj
  go_enter Tryz.func202, Tryz.ntmps202
  go_wp2
  rw [Lib.run_neq_ptr_same w _ Tryz.underlying196 hj]
  go_wp2
  go_end0
  exact ⟨rfl, rfl⟩

set_option maxHeartbeats 1000000 in
set_option maxRecDepth 100000 in
theorem check_fresh (b : Nat) (w : World) (h0 : w.cell? ⟨b, 0, none⟩ = some (.pointer none)) (hsh : w.shape? b = some (198, 2)) (hfz : w.frozen? ⟨b, 0, none⟩ = false) :
    Calls Tryz.prog 202 #[.pointer (some ⟨b, 0, none⟩)] w fun e w' => e = .returned (.tuple #[]) ∧ w' = w.setCell ⟨b, 0, none⟩ (.pointer (some ⟨b, 0, none⟩)) := by
  obtain ⟨j, hj, hjs⟩ : ∃ j, Tryz.prog.info? 198 = some j ∧ j.size = 2 := ⟨Tryz.t198, by kernel_rfl, by kernel_rfl⟩
  go_enter Tryz.func202, Tryz.ntmps202
  go_wp2
  rw [Lib.run_to_unsafe w ⟨b, 0, none⟩ Tryz.underlying196 Tryz.underlying241 hj (by rw [hjs]; decide) hsh (Nat.zero_lt_succ 1)]
  simp only [Result.andThen]
  rw [Oper.upon_value]
  go_wp2
  rw [run_callFunc_extern Tryz.func229 (by kernel_rfl) (by kernel_rfl) (by kernel_rfl) (e := Extern.AbiNoEscape.same) (by kernel_rfl)]
  rw [Lib.run_noEscape]
  simp only [Result.andThen]
  rw [Oper.upon_value]
  go_wp2
  rw [Lib.run_from_unsafe w ⟨b, 0, none⟩ Tryz.underlying241 Tryz.underlying196 hj hsh (by kernel_rfl)]
  simp only [Result.andThen]
  rw [Oper.upon_value]
  go_wp2
  go_end0
  exact ⟨rfl, rfl⟩

theorem check_calls (b : Nat) (w : World) (v : Value) (h : Bld w b v) : Calls Tryz.prog 202 #[.pointer (some ⟨b, 0, none⟩)] w fun e w' => e = .returned (.tuple #[]) ∧ w'.heap[b]? = some (.cells #[.pointer (some ⟨b, 0, none⟩), v] 198 (0, 0)) ∧
    w'.os = w.os ∧ w'.tape = w.tape ∧ w'.output = w.output ∧ w'.heap.size = w.heap.size ∧ ∀ k, k ≠ b → w'.heap[k]? = w.heap[k]? := by
  obtain ⟨p, hp, hb⟩ := h
  have hc := Lib.cell_of_heap hb 0
  rcases hp with rfl | rfl
  · refine (check_fresh b w (hc.trans rfl) (by simp [World.shape?, hb]) (Lib.frozen_of_heap hb 0)).mono ?_
    rintro e w' ⟨rfl, rfl⟩
    exact ⟨rfl, by simp [World.setCell, Array.getElem?_modify, hb], rfl, rfl, rfl, by simp [World.setCell], fun k hk => heap_setCell_other _ _ _ _ hk⟩
  · refine (check_used b w (hc.trans rfl)).mono ?_
    rintro e w' ⟨rfl, rfl⟩
    exact ⟨rfl, hb, rfl, rfl, rfl, rfl, fun _ _ => rfl⟩

theorem wpList_app_str {P : Program} {w : World} {ops : Array Oper} {rest : List Oper} {o : Oper} {a : Act} {Q : Exit → Act → World → Prop} (hgd : o.guard = none) (sl x : Operand) (t u : TypeId) (ho : o.op = .call { callee := .builtin .append, args := #[sl, x], argTypes := #[t, u] })
    {base : Nat} {e : TypeId} {i : TypeInfo} (ht : P.underlying t = some (.slice e)) (hu : P.underlying u = some .string) (hi : P.info? e = some i) (hz : i.zero = some (.int .u8 0)) (hsize : i.size = 1) (hby : i.bytes = 1)
    {v : Value} {n : Nat} {xs : List Value} (hs : a.eval sl = v) (hown : w.ownsRow base e 1 v n xs) (s : ByteArray) (hx : a.eval x = .string s) (hb : n + s.size ≤ 140737488355328) (hbase : base ≤ w.heap.size)
    (h : ∀ v' w', w'.ownsRow base e 1 v' (n + s.size) (xs ++ Lib.strCells s) → w.grownBy w' v.ownBlock → (v'.ownBlock = none ∨ v'.ownBlock = v.ownBlock ∨ v'.ownBlock = some w.heap.size) → wpList P ops Q rest (a.put o.dst v') w') : wpList P ops Q (o :: rest) a w := by
  refine wpList_plain hgd fun K hK => ?_
  obtain ⟨v', w', hr, h2, h3, h4⟩ := app_str_run (P := P) (ty := o.type) (w := w) ht hu hi hz hsize hby hown s hb hbase
  unfold Oper.wp execOp
  simp only [ho, resolve, invoke, builtin, Sem.run_bind, Sem.run_pure, Result.andThen_ok, List.map_toArray, List.map_cons, List.map_nil, hs, hx, hr]
  exact hK _ _ (h v' w' h2 h3 h4)

set_option maxHeartbeats 4000000 in
set_option maxRecDepth 100000 in
theorem writeString_calls (B b : Nat) (bs : List Value) (s : ByteArray) (w : World) (v : Value) (h : Bld w b v) (hown : w.ownsRow B bE 1 v bs.length bs) (hlen : bs.length + s.size ≤ 140737488355328) (hBw : B ≤ w.heap.size) :
    Calls Tryz.prog 168 #[.pointer (some ⟨b, 0, none⟩), .string s] w fun e w' => e = .returned (.tuple #[.int .i64 s.size, .nilIface]) ∧ Wrote B b w v (bs ++ Lib.strCells s) w' := by
  have hne : v.ownBlock ≠ some b := by
    obtain ⟨p, _, hb⟩ := h
    exact Lib.ownBlock_ne hown hb (by decide)
  have hlt : b < w.heap.size := by
    obtain ⟨p, _, hb⟩ := h
    exact (Array.getElem?_eq_some_iff.1 hb).1
  go_enter Tryz.func168, Tryz.ntmps168
  go_wp2_with (go_at_call 202; refine (check_calls b _ v h).mono ?_)
  rintro e w1 ⟨rfl, hb1, ho1, ht1, hu1, hs1, hk1⟩
  have hown1 : w1.ownsRow B bE 1 v bs.length bs := hown.kept (row := some b) ⟨ho1, ht1, hu1, by omega, fun k hk hn => hk1 k (fun e => hn (by rw [e]))⟩ (.inr hne)
  have hs2 : w.heap.size ≤ w1.heap.size ∧ w1.heap.size ≤ w.heap.size := by omega
  clear hs1
  have c0 : w1.cell? ⟨b, 0, none⟩ = some (.pointer (some ⟨b, 0, none⟩)) := by rw [Lib.cell_of_heap hb1]; rfl
  have c1 : w1.cell? ⟨b, 1, none⟩ = some v := by rw [Lib.cell_of_heap hb1]; rfl
  have hi : Tryz.prog.info? 5 = some Tryz.t5 := by kernel_rfl
  have hz0 : Tryz.t5.zero = some (.int .u8 0) := by kernel_rfl
  have hz1 : Tryz.t5.size = 1 := by kernel_rfl
  have hz2 : Tryz.t5.bytes = 1 := by kernel_rfl
  go_wp2_with (at_builtin; refine wpList_app_str rfl _ _ 153 9 rfl Tryz.underlying153 Tryz.underlying9 hi hz0 hz1 hz2 rfl hown1 s rfl hlen ?c5 ?_)
  case c5 => omega
  intro v' w2 hown' hgrow hat
  have hb2 : w2.heap[b]? = some (.cells #[.pointer (some ⟨b, 0, none⟩), v] 198 (0, 0)) := by
    rw [hgrow.block b (by omega) (fun e => hne e.symm)]
    exact hb1
  have d0 : w2.cell? ⟨b, 0, none⟩ = some (.pointer (some ⟨b, 0, none⟩)) := by rw [Lib.cell_of_heap hb2]; rfl
  have d1 : w2.cell? ⟨b, 1, none⟩ = some v := by rw [Lib.cell_of_heap hb2]; rfl
  have f1 : w2.frozen? ⟨b, 1, none⟩ = false := Lib.frozen_of_heap hb2 1
  obtain ⟨A', m', c', rfl⟩ : ∃ A m c, v' = .slice A m c := by
    rcases hown'.2 with ⟨rfl, _⟩ | ⟨g, cap, cur, rfl, _⟩
    · exact ⟨_, _, _, rfl⟩
    · exact ⟨_, _, _, rfl⟩
  have hnb : (Value.slice A' m' c').ownBlock ≠ some b := Lib.ownBlock_ne hown' hb2 (by decide)
  go_wp2
  go_ret2
  refine ⟨rfl, .slice A' m' c', ?_, ?_, ?_, ?_⟩
  · simp [World.setCell, Array.getElem?_modify, hb2]
  · rw [List.length_append, Lib.strCells_length]
    exact hown'.kept (row := some b) ⟨rfl, rfl, rfl, by simp [World.setCell], fun k _ hk => heap_setCell_other _ _ _ _ (fun e => hk (by rw [e]))⟩ (.inr hnb)
  · rcases hat with e | e | e
    · exact .inl e
    · exact .inr (.inl e)
    · refine .inr (.inr ⟨w1.heap.size, e, by omega, ?_⟩)
      have := (hown'.lt _ e).2
      simpa [World.setCell] using this
  · refine ⟨hgrow.os.trans ho1, hgrow.tape.trans ht1, hgrow.output.trans hu1, ?_, fun k hk hkb hkv => ?_⟩
    · have := hgrow.size
      simp [World.setCell]
      omega
    · rw [heap_setCell_other _ _ _ _ (by exact hkb), hgrow.block k (by omega) (fun e => hkv e.symm)]
      exact hk1 k hkb

section
variable (B b : Nat) (p v : Value) (l : List UInt8) (w : World)
theorem cells_byte : Tryz.prog.cellsOf 5 = 1 := by kernel_rfl
theorem else_drew : Else w v.ownBlock w.drew := ⟨rfl, rfl, rfl, Nat.le_refl _, fun _ _ _ => rfl⟩
set_option maxHeartbeats 2000000 in
set_option maxRecDepth 100000 in
theorem string_some (h0 : l ≠ []) (hbk : w.heap[b]? = some (.cells #[p, v] bT (0, 0))) (hown : w.ownsRow B bE 1 v l.length (l.map fun x => .int .u8 x.toNat)) :
    Calls Tryz.prog fSt #[.pointer (some ⟨b, 0, none⟩)] w fun e w' => e = .returned (.string ⟨l.toArray⟩) ∧ Else w v.ownBlock w' := by
  have hl0 : l.length ≠ 0 := by simpa using h0
  obtain ⟨g, cap, cur, rfl, hbg, hg, hnc, hcm, hcs, htake⟩ : ∃ g cap cur, v = .slice (some ⟨g, 0, none⟩) l.length cap ∧ B ≤ g ∧ w.heap[g]? = some (.cells cur bE (0, 0)) ∧ l.length ≤ cap ∧ cap ≤ maxLen ∧ cur.size = cap * 1 ∧ cur.toList.take (l.length * 1) = l.map fun x => .int .u8 x.toNat := by
    rcases hown.2 with ⟨_, hz⟩ | ⟨g, cap, cur, hv, r⟩
    · exact absurd hz hl0
    · exact ⟨g, cap, cur, hv, r⟩
  have c1 : w.drew.cell? ⟨b, 1, none⟩ = some (.slice (some ⟨g, 0, none⟩) l.length cap) := by
    have : w.drew.heap[b]? = some (.cells #[p, .slice (some ⟨g, 0, none⟩) l.length cap] bT (0, 0)) := hbk
    rw [Lib.cell_of_heap this]; rfl
  have hSD : (Builtin.unsafeSliceData_ #[153] 228 #[.slice (some ⟨g, 0, none⟩) l.length cap]).run Tryz.prog w.drew = .ok (.pointer (some ⟨g, 0, none⟩)) w.drew :=
    Lib.run_unsafeSliceData_row _ _ _ _ _ _ (by omega)
  have hUS : (Builtin.unsafeString_ #[228, 3] 9 #[.pointer (some ⟨g, 0, none⟩), .int .i64 l.length]).run Tryz.prog w.drew = .ok (.string ⟨l.toArray⟩) (w.drew.freeze ⟨g, 0, none⟩ l.length) := by
    refine Lib.run_unsafeString_row w.drew 228 3 9 5 Tryz.underlying228 cells_byte g cur.size (by have hg' : w.drew.heap[g]? = some (.cells cur bE (0, 0)) := hg; simp [World.shape?, hg']) l h0 (by omega) (by unfold maxLen at hcm; omega) ?_
    intro j x hx
    exact hown.cells (g := g) rfl j (.int .u8 x.toNat) (by simp [hx])
  have hfin : Else w (Value.slice (some ⟨g, 0, none⟩) l.length cap).ownBlock (w.drew.freeze ⟨g, 0, none⟩ l.length) := by
    have hgk : ∀ k, some g ≠ some k → g ≠ k := fun k h e => h (by rw [e])
    unfold World.freeze
    rw [if_neg hl0]
    refine ⟨rfl, rfl, rfl, by simp, fun k hk hne => ?_⟩
    rw [Array.getElem?_modify, if_neg (hgk k hne)]
    rfl
  have mixed : Tryz.prog.follows Departure.mixedOrders = true := by kernel_rfl
  go_enter Tryz.func170, Tryz.ntmps170
  go_wp2
  go_region_o
  all_goals (go_wp2; go_ret; exact ⟨rfl, hfin⟩)
theorem us_none (W : World) (q : Option Addr) : (Builtin.unsafeString_ #[228, 3] 9 #[.pointer q, .int .i64 0]).run Tryz.prog W = .ok (.string .empty) W :=
  Lib.run_unsafeString_none W _ _ _ q
set_option maxHeartbeats 2000000 in
set_option maxRecDepth 100000 in
theorem string_nil (hbk : w.heap[b]? = some (.cells #[p, .slice none 0 0] bT (0, 0))) :
    Calls Tryz.prog fSt #[.pointer (some ⟨b, 0, none⟩)] w fun e w' => e = .returned (.string ⟨#[]⟩) ∧ w' = w.drew := by
  have hUS := us_none
  have c1 : w.drew.cell? ⟨b, 1, none⟩ = some (.slice none 0 0) := by
    have : w.drew.heap[b]? = some (.cells #[p, .slice none 0 0] bT (0, 0)) := hbk
    rw [Lib.cell_of_heap this]; rfl
  have hSD : (Builtin.unsafeSliceData_ #[153] 228 #[.slice none 0 0]).run Tryz.prog w.drew = .ok (.pointer none) w.drew := rfl
  have mixed : Tryz.prog.follows Departure.mixedOrders = true := by kernel_rfl
  go_enter Tryz.func170, Tryz.ntmps170
  go_wp2
  go_region_o
  all_goals (go_wp2; go_ret; exact ⟨rfl, rfl⟩)
set_option maxHeartbeats 2000000 in
set_option maxRecDepth 100000 in
theorem string_noroom (g : Nat) (cur : Array Value) (hbk : w.heap[b]? = some (.cells #[p, .slice (some ⟨g, 0, none⟩) 0 0] bT (0, 0))) (hg : w.heap[g]? = some (.cells cur bE (0, 0))) :
    Calls Tryz.prog fSt #[.pointer (some ⟨b, 0, none⟩)] w fun e w' => e = .returned (.string ⟨#[]⟩) ∧ Else w none w' := by
  have hUS := us_none
  have hlt : b < w.heap.size := (Array.getElem?_eq_some_iff.1 hbk).1
  have c1 : w.drew.cell? ⟨b, 1, none⟩ = some (.slice (some ⟨g, 0, none⟩) 0 0) := by
    have : w.drew.heap[b]? = some (.cells #[p, .slice (some ⟨g, 0, none⟩) 0 0] bT (0, 0)) := hbk
    rw [Lib.cell_of_heap this]; rfl
  have hSD : (Builtin.unsafeSliceData_ #[153] 228 #[.slice (some ⟨g, 0, none⟩) 0 0]).run Tryz.prog w.drew = .ok (.pointer (some ⟨w.drew.heap.size, 0, none⟩)) (w.drew.alloc (.view ⟨g, 0, none⟩ 5)) :=
    Lib.run_unsafeSliceData_zero w.drew _ _ 5 Tryz.underlying228 ⟨g, 0, none⟩ 0 (5, cur.size) (by have hg' : w.drew.heap[g]? = some (.cells cur bE (0, 0)) := hg; simp [World.shape?, hg'])
  have c2 : (w.drew.alloc (.view ⟨g, 0, none⟩ 5)).cell? ⟨b, 1, none⟩ = some (.slice (some ⟨g, 0, none⟩) 0 0) := by
    have : (w.drew.alloc (.view ⟨g, 0, none⟩ 5)).heap[b]? = _ := (Lib.alloc_old w.drew _ b hlt).trans hbk
    rw [Lib.cell_of_heap this]; rfl
  have c3 : (w.alloc (.view ⟨g, 0, none⟩ 5)).drew.cell? ⟨b, 1, none⟩ = some (.slice (some ⟨g, 0, none⟩) 0 0) := c2
  have c0 : w.cell? ⟨b, 1, none⟩ = some (.slice (some ⟨g, 0, none⟩) 0 0) := c1
  have hfin : ∀ o, Else w none (w.drew.alloc o) := fun o => ⟨rfl, rfl, rfl, by simp, fun k hk _ => Lib.alloc_old w.drew _ k hk⟩
  have mixed : Tryz.prog.follows Departure.mixedOrders = true := by kernel_rfl
  go_enter Tryz.func170, Tryz.ntmps170
  go_wp2
  go_region_o
  all_goals (go_wp2; go_ret; exact ⟨rfl, hfin _⟩)
set_option maxHeartbeats 2000000 in
set_option maxRecDepth 100000 in
theorem string_room (g cap : Nat) (hc0 : cap ≠ 0) (hbk : w.heap[b]? = some (.cells #[p, .slice (some ⟨g, 0, none⟩) 0 cap] bT (0, 0))) :
    Calls Tryz.prog fSt #[.pointer (some ⟨b, 0, none⟩)] w fun e w' => e = .returned (.string ⟨#[]⟩) ∧ w' = w.drew := by
  have hUS := us_none
  have c1 : w.drew.cell? ⟨b, 1, none⟩ = some (.slice (some ⟨g, 0, none⟩) 0 cap) := by
    have : w.drew.heap[b]? = some (.cells #[p, .slice (some ⟨g, 0, none⟩) 0 cap] bT (0, 0)) := hbk
    rw [Lib.cell_of_heap this]; rfl
  have hSD : (Builtin.unsafeSliceData_ #[153] 228 #[.slice (some ⟨g, 0, none⟩) 0 cap]).run Tryz.prog w.drew = .ok (.pointer (some ⟨g, 0, none⟩)) w.drew :=
    Lib.run_unsafeSliceData_row _ _ _ _ _ _ hc0
  clear hc0
  have mixed : Tryz.prog.follows Departure.mixedOrders = true := by kernel_rfl
  go_enter Tryz.func170, Tryz.ntmps170
  go_wp2
  go_region_o
  all_goals (go_wp2; go_ret; exact ⟨rfl, rfl⟩)
theorem string_calls (h : Bld w b v) (hown : w.ownsRow B bE 1 v l.length (l.map fun x => .int .u8 x.toNat)) :
    Calls Tryz.prog fSt #[.pointer (some ⟨b, 0, none⟩)] w fun e w' => e = .returned (.string ⟨l.toArray⟩) ∧ Else w v.ownBlock w' := by
  obtain ⟨p, hp, hbk⟩ := h
  cases l with
  | cons x r => exact string_some B b p v (x :: r) w (by simp) hbk hown
  | nil =>
    rcases hown.2 with ⟨rfl, _⟩ | ⟨g, cap, cur, rfl, hbg, hg, _, _, _, _⟩
    · exact (string_nil b p w hbk).mono fun e w' ⟨h1, h2⟩ => ⟨h1, h2 ▸ else_drew _ w⟩
    · by_cases hc0 : cap = 0
      · subst hc0
        exact (string_noroom b p w g cur hbk hg).mono fun e w' ⟨h1, h2⟩ => ⟨h1, h2.1, h2.2.1, h2.2.2.1, h2.2.2.2.1, fun k hk _ => h2.2.2.2.2 k hk (by simp)⟩
      · exact (string_room b p w g cap hc0 hbk).mono fun e w' ⟨h1, h2⟩ => ⟨h1, h2 ▸ else_drew _ w⟩
set_option maxHeartbeats 2000000 in
theorem len_calls (n : Nat) (A : Option Addr) (c : Nat) (hbk : w.heap[b]? = some (.cells #[p, .slice A n c] bT (0, 0))) : Calls Tryz.prog 169 #[.pointer (some ⟨b, 0, none⟩)] w fun e w' => e = .returned (.int .i64 n) ∧ w' = w := by
  have c1 : w.cell? ⟨b, 1, none⟩ = some (.slice A n c) := by rw [Lib.cell_of_heap hbk]; rfl
  go_enter Tryz.func169, Tryz.ntmps169
  go_wp2
  go_ret
  exact ⟨rfl, rfl⟩
end
theorem bldOk : BldOk Tryz.prog where
  mix := by kernel_rfl
  fi := .inr ⟨⟨_, Tryz.func121, by kernel_rfl, by kernel_rfl⟩, Tryz.underlying193, by kernel_rfl, ⟨.nilFunc, rfl, fun w => by kernel_rfl⟩, fun cx sps vs K N b w h1 {n} h2 h3 h4 h5 h6 h7 h8 h9 h10 h11 h12 h13 => first_walk cx sps vs K N b w h1 h2 h3 h4 h5 h6 h7 h8 h9 h10 h11 h12 h13⟩
  eb := .inl rfl
  es := ⟨_, Tryz.func168, by kernel_rfl, by kernel_rfl⟩
  et := ⟨_, Tryz.func170, by kernel_rfl, by kernel_rfl⟩
  el := .inr ⟨_, Tryz.func169, by kernel_rfl, by kernel_rfl⟩
  al := ⟨Tryz.t198, by kernel_rfl, by kernel_rfl⟩
  wb := .inl rfl
  ws := writeString_calls
  st := fun B b l w v h hown _ => string_calls B b v l w h hown
  ln := .inr fun B b bs w v h hown => by
    obtain ⟨p, _, hbk⟩ := h
    rcases hown.2 with ⟨rfl, h0⟩ | ⟨g, cap, cur, rfl, _⟩
    · rw [h0]; exact len_calls b p w 0 none 0 hbk
    · exact len_calls b p w _ _ _ hbk
theorem env0 {cx : Cx} (hP : cx.P = Tryz.prog) : EnvOk cx (envL []) := envL_nil cx (hP ▸ bldOk)
end Go.Avc

namespace Go.Avc
open Go Go.Proofs

def rangeS : Spec where
  pre xs := ∃ lo hi : Int, xs = [.st, .i lo, .i hi] ∧ -1073741824 ≤ lo ∧ lo ≤ 1073741824 ∧ -1073741824 ≤ hi ∧ hi ≤ 1073741824
  post xs r := ∃ lo hi q : Int, xs = [.st, .i lo, .i hi] ∧ lo ≤ q ∧ (lo ≤ hi → q ≤ hi) ∧ (hi < lo → q = lo) ∧ r = .i q
  cost _ := 1
  fresh := true

theorem range_ctr (cx : Cx) (hP : cx.P = Tryz.prog) (hS : cx.ST = 25) : Ctr cx 11 rangeS := by
  refine ctr_of (fn := Tryz.f11) (l := [.tmp 6]) (envL [(55, nextS)]) [0, 1, 2, 6, 9] [] [] (envL_cons (next_ctr cx hP hS) (env0 hP)) ?_ (by rw [hP]; exact Tryz.func11) rfl (by kernel_rfl) rfl ?_ ?_
  · rw [hP]; exact ⟨_, Tryz.func11, by kernel_rfl, by kernel_rfl⟩
  · rintro xs ⟨lo, hi, rfl, h1, h2, h3, h4⟩
    exact ⟨.i lo, lo, hi, lo, rfl, by omega, by omega, by omega, rfl⟩
  · rintro xs ⟨lo, hi, rfl, h1, h2, h3, h4⟩
    refine ⟨by rw [Tryz.ntmps11]; simp, ?_⟩
    simp only [go_sem, hP, Tryz.ntmps11, rangeS, nextS, Nat.reduceEqDiff, reduceCtorEq, Nat.reduceMul, Nat.reduceAdd, Nat.reduceLeDiff, Nat.reduceLT, Nat.reduceBNe, Nat.reduceBEq, reduceIte]
    have w1 : IntKind.i64.wrap (hi - lo) = hi - lo := IntWalk.i64_in _ (by omega)
    have w2 : IntKind.i64.wrap (hi - lo + 1) = hi - lo + 1 := IntWalk.i64_in _ (by omega)
    simp [w1, w2]
    refine ⟨fun c => ⟨lo, hi, ⟨rfl, rfl⟩, lo, by omega⟩, fun c => ⟨by omega, fun a q e h5 h6 => ⟨lo, hi, ⟨rfl, rfl⟩, lo + q, by omega, by omega, by omega, IntWalk.i64_in _ (by omega)⟩⟩⟩

def flipS : Spec where
  pre xs := ∃ m : Int, xs = [.st, .i m] ∧ m ≤ 9223372036854775807
  post xs r := ∃ (m : Int) (b : Bool), xs = [.st, .i m] ∧ r = .b b
  cost _ := 1
  fresh := true

theorem flip_ctr (cx : Cx) (hP : cx.P = Tryz.prog) (hS : cx.ST = 25) : Ctr cx 26 flipS := by
  refine ctr_of (fn := Tryz.f26) (l := [.tmp 4]) (envL [(55, nextS)]) [0, 1, 4] [] [] (envL_cons (next_ctr cx hP hS) (env0 hP)) ?_ (by rw [hP]; exact Tryz.func26) rfl (by kernel_rfl) rfl ?_ ?_
  · rw [hP]; exact ⟨_, Tryz.func26, by kernel_rfl, by kernel_rfl⟩
  · rintro xs ⟨m, rfl, h1⟩
    exact ⟨.b true, m, true, rfl, rfl⟩
  · rintro xs ⟨m, rfl, h1⟩
    refine ⟨by rw [Tryz.ntmps26]; simp, ?_⟩
    simp only [go_sem, hP, Tryz.ntmps26, flipS, nextS, Nat.reduceEqDiff, reduceCtorEq, Nat.reduceMul, Nat.reduceAdd, Nat.reduceLeDiff, Nat.reduceLT, Nat.reduceBNe, Nat.reduceBEq, reduceIte]
    simp [and_assoc, h1]

def intsD (l : List Int) : List (List D) := l.map fun x => [D.int .i64 x]
def isIn (x : Int) (l : List Int) : Prop := x ∈ l
def pickS : Spec where
  pre xs := ∃ l : List Int, xs = [.st, .sl (intsD l)] ∧ l ≠ [] ∧ l.length ≤ 1073741824
  post xs r := ∃ (l : List Int) (x : Int), xs = [.st, .sl (intsD l)] ∧ isIn x l ∧ r = .i x
  cost _ := 1
  fresh := true

theorem pick_ctr (cx : Cx) (hP : cx.P = Tryz.prog) (hS : cx.ST = 25) : Ctr cx 12 pickS := by
  refine ctr_of (fn := Tryz.f12) (l := [.tmp 4]) (envL [(55, nextS)]) [0, 1, 4] [] [] (envL_cons (next_ctr cx hP hS) (env0 hP)) ?_ (by rw [hP]; exact Tryz.func12) rfl (by kernel_rfl) rfl ?_ ?_
  · rw [hP]; exact ⟨_, Tryz.func12, by kernel_rfl, by kernel_rfl⟩
  · rintro xs ⟨l, rfl, h1, h2⟩
    exact (match l, h1 with | x :: t, _ => ⟨.i x, x :: t, x, rfl, List.mem_cons_self, rfl⟩)
  · rintro xs ⟨l, rfl, h1, h2⟩
    refine ⟨by rw [Tryz.ntmps12]; simp, ?_⟩
    simp only [go_sem, hP, Tryz.ntmps12, pickS, nextS, Nat.reduceEqDiff, reduceCtorEq, Nat.reduceMul, Nat.reduceAdd, Nat.reduceLeDiff, Nat.reduceLT, Nat.reduceBNe, Nat.reduceBEq, reduceIte]
    refine ⟨⟨⟨_, rfl, by rw [intsD, List.length_map]; omega⟩, fun h => h.elim⟩, fun a q e h3 h4 => ?_⟩
    have hq : 0 ≤ q ∧ q < (l.length : Int) := by
      simp only [List.cons.injEq, AV.dv.injEq, DV.d.injEq, D.int.injEq, true_and, and_true, intsD, List.length_map] at e
      have := List.length_pos_iff.2 h1
      omega
    have hg : (intsD l).getD q.toNat [D.int .i64 0] = [D.int .i64 (l.getD q.toNat 0)] := by
      rw [List.getD_eq_getElem?_getD, intsD, List.getElem?_map, List.getD_eq_getElem?_getD, List.getElem?_eq_getElem (by omega)]
      rfl
    have hm : l.getD q.toNat 0 ∈ l := by
      rw [List.getD_eq_getElem?_getD, List.getElem?_eq_getElem (by omega)]
      exact List.getElem_mem _
    simp only [hg, go_sem, reduceCtorEq, reduceIte]
    exact ⟨⟨hq.1, by rw [intsD, List.length_map]; exact hq.2⟩, l, _, rfl, hm, rfl⟩
end Go.Avc

namespace Go.Avc
open Go Go.Proofs
structure Seat (cx : Cx) : Prop where
  hP : cx.P = Tryz.prog
  hS : cx.ST = 25
attribute [go_sem] List.cons.injEq AV.dv.injEq DV.d.injEq DV.ag.injEq D.int.injEq D.str.injEq D.bool.injEq D.sl.injEq AV.dp.injEq exists_eq_left' exists_and_left exists_const and_assoc AV.tcons.injEq Int.toNat_natCast Int.toNat_zero implies_true decide_eq_true_eq decide_eq_false_iff_not beq_iff_eq beq_eq_false_iff_ne bne_iff_ne bne_eq_false_iff_eq Bool.and_eq_true Bool.or_eq_true Bool.not_eq_true' Bool.not_eq_false' str_beq false_implies true_implies ge_iff_le gt_iff_lt exists_eq' List.size_toArray exists_eq_right' exists_eq_right
theorem str_nil (s : ByteArray) : (s = ⟨#[]⟩) = (s.size = 0) := by
  apply propext
  rw [← bl_inj, ← bl_length, List.length_eq_zero_iff]; rfl
theorem i64w {n : Int} (h1 : -9223372036854775808 ≤ n) (h2 : n ≤ 9223372036854775807) : IntKind.i64.wrap n = n := IntWalk.i64_in _ (by omega)
theorem bt_at {s : ByteArray} {i : Nat} : bt s (i : Int) = (bl s).getD i 0 := bt_bl s i
theorem bt_range (s : ByteArray) (i : Int) : 0 ≤ bt s i ∧ bt s i ≤ 255 := by
  unfold bt
  have := (s.data.toList.getD i.toNat 0).toNat_lt
  omega

/-! ### A contract of plain values -/
def flatV1 : AV → Option Value
  | .dv (.d (.int k n)) => some (.int k n)
  | .dv (.d (.bool b)) => some (.bool b)
  | .dv (.d (.str s)) => some (.string s)
  | _ => none
def flatT : AV → Option (List Value)
  | .tnil => some []
  | .tcons a t => match flatV1 a, flatT t with
    | some v, some r => some (v :: r)
    | _, _ => none
  | _ => none
def flatR : AV → Option Value
  | .tcons a t => (flatT (.tcons a t)).map fun l => .tuple l.toArray
  | a => flatV1 a
theorem flatV1_val {cx : Cx} {w0 : World} {ok : Nat → Prop} {ρ : Nat → Value} {w : World} {a : AV} {v u : Value} (h : flatV1 a = some v) (hr : rel0 cx w0 ok ρ w a u) : u = v := by
  unfold flatV1 at h
  split at h
  · cases h; exact Rd.int_inv hr
  · cases h; cases (show Rd _ _ (.bool _) u from hr); rfl
  · cases h; exact Rd.str_inv hr
  · cases h
theorem flatV1_mk {cx : Cx} {w0 : World} {ok : Nat → Prop} {ρ : Nat → Value} {w : World} {a : AV} {v : Value} (h : flatV1 a = some v) : rel0 cx w0 ok ρ w a v ∧ a.plain = true := by
  unfold flatV1 at h
  split at h
  · cases h; exact ⟨Rd.int _ _, rfl⟩
  · cases h; exact ⟨Rd.bool _, rfl⟩
  · cases h; exact ⟨Rd.str _, rfl⟩
  · cases h
theorem flatT_mk {cx : Cx} {w0 : World} {ok : Nat → Prop} {ρ : Nat → Value} {w : World} : ∀ {a : AV} {l : List Value}, flatT a = some l → relT cx w0 ok ρ w a l ∧ a.plain = true
  | .tnil, l, h => by cases h; exact ⟨rfl, rfl⟩
  | .tcons a t, l, h => by
    unfold flatT at h
    split at h
    · rename_i v r h1 h2
      cases h
      have h3 := flatV1_mk (cx := cx) (w0 := w0) (ok := ok) (ρ := ρ) (w := w) h1
      have h4 := flatT_mk (cx := cx) (w0 := w0) (ok := ok) (ρ := ρ) (w := w) h2
      exact ⟨⟨v, r, rfl, h3.1, h4.1⟩, by simp [AV.plain, h3.2, h4.2]⟩
    · cases h
  | .dv _, l, h => by cases h
  | .own _, l, h => by cases h
  | .ptr _ _, l, h => by cases h
  | .eptr _ _ _ _, l, h => by cases h
  | .dp _, l, h => by cases h
  | .st, l, h => by cases h
  | .fn _ _, l, h => by cases h
  | .fv _, l, h => by cases h
  | .nil, l, h => by cases h
  | .lit _ _, l, h => by cases h
  | .sv _ _ _, l, h => by cases h
  | .agz _ _, l, h => by cases h
  | .ago _ _ _, l, h => by cases h
  | .agv _, l, h => by cases h
  | .un, l, h => by cases h
theorem flatR_mk {cx : Cx} {w0 : World} {ok : Nat → Prop} {ρ : Nat → Value} {w : World} {a : AV} {v : Value} (h : flatR a = some v) : relA cx w0 ok ρ w a v ∧ a.plain = true := by
  have k : flatV1 a = some v → relA cx w0 ok ρ w a v ∧ a.plain = true := fun h => ⟨relA_of0 (flatV1_mk h).1, (flatV1_mk (cx := cx) (w0 := w0) (ok := ok) (ρ := ρ) (w := w) h).2⟩
  unfold flatR at h
  split at h
  · rename_i a t
    rw [Option.map_eq_some_iff] at h
    obtain ⟨l, hl, rfl⟩ := h
    have := flatT_mk (cx := cx) (w0 := w0) (ok := ok) (ρ := ρ) (w := w) hl
    exact ⟨⟨l, rfl, this.1⟩, this.2⟩
  · exact k h
theorem vals_of {cx : Cx} {w0 : World} {ok : Nat → Prop} {ρ : Nat → Value} {w : World} : ∀ {xs : List AV} {vs us : List Value}, xs.mapM flatV1 = some vs → xs.length = us.length → (∀ (i : Nat) (a : AV) (u : Value), xs[i]? = some a → us[i]? = some u → rel0 cx w0 ok ρ w a u) → us = vs
  | [], vs, us, h, hl, _ => by
    simp only [List.mapM_nil, Option.pure_def, Option.some.injEq] at h
    subst h
    cases us with
    | nil => rfl
    | cons x r => cases hl
  | a :: xs, vs, us, h, hl, hr => by
    simp only [List.mapM_cons, Option.bind_eq_bind, Option.bind_eq_some_iff, Option.pure_def, Option.some.injEq] at h
    obtain ⟨v, h1, r, h2, rfl⟩ := h
    cases us with
    | nil => cases hl
    | cons u us =>
      rw [flatV1_val h1 (hr 0 a u rfl rfl), vals_of h2 (by simpa using hl) fun i b x hb hx => hr (i + 1) b x hb hx]
/-- A contract of a function of plain values that leaves all memory as it was. -/
theorem ctr_flat {cx : Cx} {f : FuncId} {sp : Spec} (hen : Enters cx.P f) (hc : ∀ xs, sp.cost xs = 0)
    (h : ∀ xs, sp.pre xs → ∃ vals r v, xs.mapM flatV1 = some vals ∧ sp.post xs r ∧ flatR r = some v ∧ ∀ w, GlAt cx w → Calls cx.P f vals.toArray w fun e w' => e = .returned v ∧ Go.RowKit.Below w.heap.size w w') : Ctr cx f sp := by
  refine ⟨hen, fun xs hp => ?_, ?_⟩
  · obtain ⟨vals, r, v, _, h2, _⟩ := h xs hp
    exact ⟨r, h2⟩
  · intro F xs us hcx hF hst hgl hco hlen hargs hp
    obtain ⟨vals, r, v, h1, h2, h3, h4⟩ := h xs hp
    obtain rfl := vals_of h1 hlen hargs
    refine (h4 F.w0 hgl).mono ?_
    rintro e w' ⟨rfl, hb⟩
    have hm := flatR_mk (cx := cx) (w0 := F.w0) (ok := resOk F sp.fresh) (ρ := fun _ => undef) (w := w') h3
    exact ⟨v, r, rfl, ⟨hb.os, hb.tape, hb.output, hb.size, fun b hlt _ => hb.block b hlt⟩, by rw [hc]; exact hst.keep hb.size (fun b hlt => hb.block b hlt), h2, hm.2, hm.1⟩
end Go.Avc

namespace Go.Avc
open Go Go.Proofs

def rowsK (k : IntKind) (l : List Int) : List (List D) := l.map fun c => [.int k c]
theorem rowsK_len (k : IntKind) (l : List Int) : (rowsK k l).length = l.length := List.length_map ..
theorem rowsK_app (k : IntKind) (l m : List Int) : rowsK k (l ++ m) = rowsK k l ++ rowsK k m := List.map_append ..
theorem rowsK_one (k : IntKind) (c : Int) : [[D.int k c]] = rowsK k [c] := rfl
theorem rowsK_get (k : IntKind) (l : List Int) (i : Nat) : (rowsK k l).getD i [.int k 0] = [.int k (l.getD i 0)] := by
  unfold rowsK
  rw [List.getD_eq_getElem?_getD, List.getElem?_map, List.getD_eq_getElem?_getD]
  cases l[i]? <;> rfl
theorem rowsK_flat (k : IntKind) (l : List Int) : ((rowsK k l).all fun x => x.all D.flat) = true := by
  rw [List.all_eq_true]
  intro x hx
  obtain ⟨c, _, rfl⟩ := List.mem_map.1 hx
  rfl
/-- strings as a slice -/
def rowsT (l : List ByteArray) : List (List D) := l.map fun s => [.str s]
theorem rowsT_len (l : List ByteArray) : (rowsT l).length = l.length := List.length_map ..
theorem rowsT_get (l : List ByteArray) (i : Nat) : (rowsT l).getD i [.str ⟨#[]⟩] = [.str (l.getD i ⟨#[]⟩)] := by
  unfold rowsT
  rw [List.getD_eq_getElem?_getD, List.getElem?_map, List.getD_eq_getElem?_getD]
  cases l[i]? <;> rfl
theorem map_inj_of {α β : Type} {f : α → β} (h : ∀ a b, f a = f b → a = b) : ∀ {l m : List α}, (l.map f = m.map f) = (l = m)
  | [], [] => by simp
  | [], b :: m => by simp
  | a :: l, [] => by simp
  | a :: l, b :: m => by
    rw [List.map_cons, List.map_cons, List.cons.injEq, List.cons.injEq, map_inj_of h]
    exact propext ⟨fun ⟨x, y⟩ => ⟨h _ _ x, y⟩, fun ⟨x, y⟩ => ⟨x ▸ rfl, y⟩⟩
theorem rowsT_inj {l m : List ByteArray} : (rowsT l = rowsT m) = (l = m) := map_inj_of fun a b h => by
  simp only [List.cons.injEq, D.str.injEq, and_true] at h; exact h
theorem rowsKi_inj {k : IntKind} {l m : List Int} : (rowsK k l = rowsK k m) = (l = m) := map_inj_of fun a b h => by
  simp only [List.cons.injEq, D.int.injEq, and_true, true_and] at h; exact h
theorem intsDi_inj {l m : List Int} : (intsD l = intsD m) = (l = m) := rowsKi_inj (k := .i64)
/-- Bounds of what is drawn. -/
def okI (n : Int) : Prop := -1125899906842624 ≤ n ∧ n ≤ 1125899906842624
def okS (s : ByteArray) : Prop := s.size ≤ 1073741824
def okL {α : Type} (p : α → Prop) (l : List α) : Prop := l.length ≤ 1048576 ∧ ∀ x ∈ l, p x
theorem okI_z : okI 0 := ⟨by decide, by decide⟩
theorem okS_z : okS ⟨#[]⟩ := by unfold okS; decide
theorem okL_z {α : Type} (p : α → Prop) : okL p [] := ⟨Nat.zero_le _, fun _ h => by cases h⟩
theorem map_get {α : Type} (f : α → List D) (l : List α) (i : Nat) (z : α) : (l.map f).getD i (f z) = f (l.getD i z) := by
  rw [List.getD_eq_getElem?_getD, List.getElem?_map, List.getD_eq_getElem?_getD]
  cases l[i]? <;> rfl
theorem ints1 (a : Int) : [[D.int .i64 a]] = intsD [a] := rfl
theorem intsc (a : Int) (l : List Int) : [D.int .i64 a] :: intsD l = intsD (a :: l) := rfl
theorem intsD_len (l : List Int) : (intsD l).length = l.length := List.length_map ..
theorem intsD_get (l : List Int) (i : Nat) : (intsD l).getD i [.int .i64 0] = [.int .i64 (l.getD i 0)] := rowsK_get .i64 l i
theorem strs1 (a : ByteArray) : [[D.str a]] = rowsT [a] := rfl
theorem strsc (a : ByteArray) (l : List ByteArray) : [D.str a] :: rowsT l = rowsT (a :: l) := rfl

structure TId where
  kind : Int
  text : ByteArray
def TId.z : TId := ⟨0, ⟨#[]⟩⟩
instance : Inhabited TId := ⟨TId.z⟩
def TId.row (x : TId) : List D := [.int .i64 x.kind, .str x.text]
def TId.rows (l : List TId) : List (List D) := l.map TId.row
theorem TId.inj {x y : TId} (h : x.row = y.row) : x = y := by
  obtain ⟨_, _⟩ := x; obtain ⟨_, _⟩ := y
  simp only [TId.row, List.cons.injEq, D.int.injEq, D.str.injEq, D.bool.injEq, D.sl.injEq, true_and, and_true] at h
  obtain ⟨rfl, rfl⟩ := h; rfl
theorem TId.row_inj {x y : TId} : (x.row = y.row) = (x = y) := propext ⟨TId.inj, fun h => h ▸ rfl⟩
theorem TId.rows_inj {l m : List TId} : (TId.rows l = TId.rows m) = (l = m) := map_inj_of fun _ _ => TId.inj
theorem TId.len (l : List TId) : (TId.rows l).length = l.length := List.length_map ..
theorem TId.get (l : List TId) (i : Nat) : (TId.rows l).getD i [.int .i64 0, .str ⟨#[]⟩] = [.int .i64 (l.getD i TId.z).kind, .str (l.getD i TId.z).text] := map_get TId.row l i TId.z
theorem TId.z_len (l : List TId) : ∀ y ∈ TId.rows l, y.length = 2 := fun y hy => by obtain ⟨x, _, rfl⟩ := List.mem_map.1 hy; rfl
theorem TId.zlT (l : List TId) : (∀ y ∈ TId.rows l, y.length = 2) = True := eq_true (TId.z_len l)
theorem TId.ex {p : TId → Prop} : (∃ x, p x) = ∃ a0 a1, p ⟨a0, a1⟩ := propext ⟨fun ⟨⟨a0, a1⟩, h⟩ => ⟨a0, a1, h⟩, fun ⟨a0, a1, h⟩ => ⟨⟨a0, a1⟩, h⟩⟩
theorem TId.nil2 (l : List TId) : ([] = TId.rows l) = (l = []) := propext ⟨fun h => List.map_eq_nil_iff.1 h.symm, fun h => h ▸ rfl⟩
theorem TId.fold1 (b1 : Int) (b2 : ByteArray) : [[D.int .i64 b1, D.str b2]] = TId.rows [⟨b1, b2⟩] := rfl
theorem TId.app' (l m : List TId) : TId.rows l ++ TId.rows m = TId.rows (l ++ m) := (List.map_append ..).symm
def TId.ok (x : TId) : Prop := okI x.kind ∧ okS x.text
theorem TId.z_ok : TId.z.ok := ⟨okI_z, okS_z⟩
structure TValue where
  kind : Int
  text : ByteArray
  number : Int
def TValue.z : TValue := ⟨0, ⟨#[]⟩, 0⟩
instance : Inhabited TValue := ⟨TValue.z⟩
def TValue.row (x : TValue) : List D := [.int .i64 x.kind, .str x.text, .int .i64 x.number]
def TValue.rows (l : List TValue) : List (List D) := l.map TValue.row
theorem TValue.inj {x y : TValue} (h : x.row = y.row) : x = y := by
  obtain ⟨_, _, _⟩ := x; obtain ⟨_, _, _⟩ := y
  simp only [TValue.row, List.cons.injEq, D.int.injEq, D.str.injEq, D.bool.injEq, D.sl.injEq, true_and, and_true] at h
  obtain ⟨rfl, rfl, rfl⟩ := h; rfl
theorem TValue.row_inj {x y : TValue} : (x.row = y.row) = (x = y) := propext ⟨TValue.inj, fun h => h ▸ rfl⟩
theorem TValue.rows_inj {l m : List TValue} : (TValue.rows l = TValue.rows m) = (l = m) := map_inj_of fun _ _ => TValue.inj
def TValue.ok (x : TValue) : Prop := okI x.kind ∧ okS x.text ∧ okI x.number
theorem TValue.z_ok : TValue.z.ok := ⟨okI_z, okS_z, okI_z⟩
structure TField where
  name : ByteArray
  value : TValue
def TField.z : TField := ⟨⟨#[]⟩, ⟨0, ⟨#[]⟩, 0⟩⟩
instance : Inhabited TField := ⟨TField.z⟩
def TField.row (x : TField) : List D := [.str x.name, .int .i64 x.value.kind, .str x.value.text, .int .i64 x.value.number]
def TField.rows (l : List TField) : List (List D) := l.map TField.row
theorem TField.inj {x y : TField} (h : x.row = y.row) : x = y := by
  obtain ⟨_, ⟨_, _, _⟩⟩ := x; obtain ⟨_, ⟨_, _, _⟩⟩ := y
  simp only [TField.row, List.cons.injEq, D.int.injEq, D.str.injEq, D.bool.injEq, D.sl.injEq, true_and, and_true] at h
  obtain ⟨rfl, rfl, rfl, rfl⟩ := h; rfl
theorem TField.row_inj {x y : TField} : (x.row = y.row) = (x = y) := propext ⟨TField.inj, fun h => h ▸ rfl⟩
theorem TField.rows_inj {l m : List TField} : (TField.rows l = TField.rows m) = (l = m) := map_inj_of fun _ _ => TField.inj
theorem TField.len (l : List TField) : (TField.rows l).length = l.length := List.length_map ..
theorem TField.get (l : List TField) (i : Nat) : (TField.rows l).getD i [.str ⟨#[]⟩, .int .i64 0, .str ⟨#[]⟩, .int .i64 0] = [.str (l.getD i TField.z).name, .int .i64 (l.getD i TField.z).value.kind, .str (l.getD i TField.z).value.text, .int .i64 (l.getD i TField.z).value.number] := map_get TField.row l i TField.z
theorem TField.z_len (l : List TField) : ∀ y ∈ TField.rows l, y.length = 4 := fun y hy => by obtain ⟨x, _, rfl⟩ := List.mem_map.1 hy; rfl
theorem TField.zlT (l : List TField) : (∀ y ∈ TField.rows l, y.length = 4) = True := eq_true (TField.z_len l)
theorem TField.nil2 (l : List TField) : ([] = TField.rows l) = (l = []) := propext ⟨fun h => List.map_eq_nil_iff.1 h.symm, fun h => h ▸ rfl⟩
theorem TField.fold1 (b1 : ByteArray) (b2 : Int) (b3 : ByteArray) (b4 : Int) : [[D.str b1, D.int .i64 b2, D.str b3, D.int .i64 b4]] = TField.rows [⟨b1, ⟨b2, b3, b4⟩⟩] := rfl
theorem TField.app' (l m : List TField) : TField.rows l ++ TField.rows m = TField.rows (l ++ m) := (List.map_append ..).symm
def TField.ok (x : TField) : Prop := okS x.name ∧ TValue.ok x.value
theorem TField.z_ok : TField.z.ok := ⟨okS_z, TValue.z_ok⟩
theorem TField.flat (l : List TField) : ((TField.rows l).all fun x => x.all D.flat) = true := by
  rw [List.all_eq_true]; intro y hy; obtain ⟨x, _, rfl⟩ := List.mem_map.1 hy; rfl
structure TShift where
  at_ : Int
  offset : Int
def TShift.z : TShift := ⟨0, 0⟩
instance : Inhabited TShift := ⟨TShift.z⟩
def TShift.row (x : TShift) : List D := [.int .i64 x.at_, .int .i64 x.offset]
def TShift.rows (l : List TShift) : List (List D) := l.map TShift.row
theorem TShift.inj {x y : TShift} (h : x.row = y.row) : x = y := by
  obtain ⟨_, _⟩ := x; obtain ⟨_, _⟩ := y
  simp only [TShift.row, List.cons.injEq, D.int.injEq, D.str.injEq, D.bool.injEq, D.sl.injEq, true_and, and_true] at h
  obtain ⟨rfl, rfl⟩ := h; rfl
theorem TShift.rows_inj {l m : List TShift} : (TShift.rows l = TShift.rows m) = (l = m) := map_inj_of fun _ _ => TShift.inj
theorem TShift.len (l : List TShift) : (TShift.rows l).length = l.length := List.length_map ..
theorem TShift.get (l : List TShift) (i : Nat) : (TShift.rows l).getD i [.int .i64 0, .int .i64 0] = [.int .i64 (l.getD i TShift.z).at_, .int .i64 (l.getD i TShift.z).offset] := map_get TShift.row l i TShift.z
def TShift.ok (x : TShift) : Prop := okI x.at_ ∧ okI x.offset
structure TZone where
  name : ByteArray
  shifts : List TShift
def TZone.z : TZone := ⟨⟨#[]⟩, []⟩
instance : Inhabited TZone := ⟨TZone.z⟩
def TZone.row (x : TZone) : List D := [.str x.name, .sl (TShift.rows x.shifts)]
def TZone.rows (l : List TZone) : List (List D) := l.map TZone.row
theorem TZone.inj {x y : TZone} (h : x.row = y.row) : x = y := by
  obtain ⟨_, _⟩ := x; obtain ⟨_, _⟩ := y
  simp only [TZone.row, List.cons.injEq, D.int.injEq, D.str.injEq, D.bool.injEq, D.sl.injEq, true_and, and_true, TShift.rows_inj] at h
  obtain ⟨rfl, rfl⟩ := h; rfl
theorem TZone.row_inj {x y : TZone} : (x.row = y.row) = (x = y) := propext ⟨TZone.inj, fun h => h ▸ rfl⟩
theorem TZone.rows_inj {l m : List TZone} : (TZone.rows l = TZone.rows m) = (l = m) := map_inj_of fun _ _ => TZone.inj
def TZone.ok (x : TZone) : Prop := okS x.name ∧ okL TShift.ok x.shifts
structure TWindow where
  from_ : Int
  to_ : Int
def TWindow.z : TWindow := ⟨0, 0⟩
instance : Inhabited TWindow := ⟨TWindow.z⟩
structure TCap where
  channel : Int
  purpose : ByteArray
  many : Int
  within : Int
def TCap.z : TCap := ⟨0, ⟨#[]⟩, 0, 0⟩
instance : Inhabited TCap := ⟨TCap.z⟩
structure TPool where
  name : ByteArray
  channel : Int
  perMinute : Int
  first : Int
  warm : List Int
def TPool.z : TPool := ⟨⟨#[]⟩, 0, 0, 0, []⟩
instance : Inhabited TPool := ⟨TPool.z⟩
structure TSendRules where
  quiet : List Int
  quietFrom : Int
  quietTo : Int
  ranks : List ByteArray
  caps : List TCap
  pools : List TPool
  delays : List Int
def TSendRules.z : TSendRules := ⟨[], 0, 0, [], [], [], []⟩
instance : Inhabited TSendRules := ⟨TSendRules.z⟩
structure TMeasure where
  name : ByteArray
  how : Int
  far : Int
  points : Int
def TMeasure.z : TMeasure := ⟨⟨#[]⟩, 0, 0, 0⟩
instance : Inhabited TMeasure := ⟨TMeasure.z⟩
structure TNeed where
  name : ByteArray
  kind : Int
  must : Bool
def TNeed.z : TNeed := ⟨⟨#[]⟩, 0, false⟩
instance : Inhabited TNeed := ⟨TNeed.z⟩
structure TSchema where
  name : ByteArray
  needs : List TNeed
def TSchema.z : TSchema := ⟨⟨#[]⟩, []⟩
instance : Inhabited TSchema := ⟨TSchema.z⟩
structure TEvent where
  id : ByteArray
  name : ByteArray
  at_ : Int
  who : TId
  fields : List TField
def TEvent.z : TEvent := ⟨⟨#[]⟩, ⟨#[]⟩, 0, ⟨0, ⟨#[]⟩⟩, []⟩
instance : Inhabited TEvent := ⟨TEvent.z⟩
def TEvent.row (x : TEvent) : List D := [.str x.id, .str x.name, .int .i64 x.at_, .int .i64 x.who.kind, .str x.who.text, .sl (TField.rows x.fields)]
def TEvent.rows (l : List TEvent) : List (List D) := l.map TEvent.row
theorem TEvent.inj {x y : TEvent} (h : x.row = y.row) : x = y := by
  obtain ⟨_, _, _, ⟨_, _⟩, _⟩ := x; obtain ⟨_, _, _, ⟨_, _⟩, _⟩ := y
  simp only [TEvent.row, List.cons.injEq, D.int.injEq, D.str.injEq, D.bool.injEq, D.sl.injEq, true_and, and_true, TField.rows_inj] at h
  obtain ⟨rfl, rfl, rfl, rfl, rfl, rfl⟩ := h; rfl
theorem TEvent.row_inj {x y : TEvent} : (x.row = y.row) = (x = y) := propext ⟨TEvent.inj, fun h => h ▸ rfl⟩
theorem TEvent.rows_inj {l m : List TEvent} : (TEvent.rows l = TEvent.rows m) = (l = m) := map_inj_of fun _ _ => TEvent.inj
theorem TEvent.len (l : List TEvent) : (TEvent.rows l).length = l.length := List.length_map ..
theorem TEvent.rset (l : List TEvent) (n : Nat) (x : TEvent) : (TEvent.rows l).set n x.row = TEvent.rows (l.set n x) := by simp only [TEvent.rows, List.map_set]
theorem TEvent.get (l : List TEvent) (i : Nat) : (TEvent.rows l).getD i [.str ⟨#[]⟩, .str ⟨#[]⟩, .int .i64 0, .int .i64 0, .str ⟨#[]⟩, .sl []] = [.str (l.getD i TEvent.z).id, .str (l.getD i TEvent.z).name, .int .i64 (l.getD i TEvent.z).at_, .int .i64 (l.getD i TEvent.z).who.kind, .str (l.getD i TEvent.z).who.text, .sl (TField.rows (l.getD i TEvent.z).fields)] := map_get TEvent.row l i TEvent.z
theorem TEvent.z_len (l : List TEvent) : ∀ y ∈ TEvent.rows l, y.length = 6 := fun y hy => by obtain ⟨x, _, rfl⟩ := List.mem_map.1 hy; rfl
theorem TEvent.zlT (l : List TEvent) : (∀ y ∈ TEvent.rows l, y.length = 6) = True := eq_true (TEvent.z_len l)
theorem TEvent.ex {p : TEvent → Prop} : (∃ x, p x) = ∃ a0 a1 a2 a3 a4, p ⟨a0, a1, a2, a3, a4⟩ := propext ⟨fun ⟨⟨a0, a1, a2, a3, a4⟩, h⟩ => ⟨a0, a1, a2, a3, a4, h⟩, fun ⟨a0, a1, a2, a3, a4, h⟩ => ⟨⟨a0, a1, a2, a3, a4⟩, h⟩⟩
theorem TEvent.nil2 (l : List TEvent) : ([] = TEvent.rows l) = (l = []) := propext ⟨fun h => List.map_eq_nil_iff.1 h.symm, fun h => h ▸ rfl⟩
theorem TEvent.fold1 (b1 : ByteArray) (b2 : ByteArray) (b3 : Int) (b4 : Int) (b5 : ByteArray) (b6 : List TField) : [[D.str b1, D.str b2, D.int .i64 b3, D.int .i64 b4, D.str b5, D.sl (TField.rows b6)]] = TEvent.rows [⟨b1, b2, b3, ⟨b4, b5⟩, b6⟩] := rfl
theorem TEvent.app' (l m : List TEvent) : TEvent.rows l ++ TEvent.rows m = TEvent.rows (l ++ m) := (List.map_append ..).symm
def TEvent.ok (x : TEvent) : Prop := okS x.id ∧ okS x.name ∧ okI x.at_ ∧ TId.ok x.who ∧ okL TField.ok x.fields
theorem TEvent.z_ok : TEvent.z.ok := ⟨okS_z, okS_z, okI_z, TId.z_ok, okL_z _⟩
structure TTerm where
  region : ByteArray
  channel : Int
  free : Bool
  days : Int
  wait : Int
def TTerm.z : TTerm := ⟨⟨#[]⟩, 0, false, 0, 0⟩
instance : Inhabited TTerm := ⟨TTerm.z⟩
structure TPurpose where
  name : ByteArray
  terms : List TTerm
def TPurpose.z : TPurpose := ⟨⟨#[]⟩, []⟩
instance : Inhabited TPurpose := ⟨TPurpose.z⟩
structure TStatement where
  no : Int
  at_ : Int
  id : TId
  purpose : ByteArray
  region : ByteArray
  channel : Int
  what : Int
def TStatement.z : TStatement := ⟨0, 0, ⟨0, ⟨#[]⟩⟩, ⟨#[]⟩, ⟨#[]⟩, 0, 0⟩
instance : Inhabited TStatement := ⟨TStatement.z⟩
structure TTouch where
  no : Int
  at_ : Int
  source : ByteArray
  ids : List TId
  fields : List TField
def TTouch.z : TTouch := ⟨0, 0, ⟨#[]⟩, [], []⟩
instance : Inhabited TTouch := ⟨TTouch.z⟩
structure TSurvival where
  name : ByteArray
  how : Int
  sources : List ByteArray
def TSurvival.z : TSurvival := ⟨⟨#[]⟩, 0, []⟩
instance : Inhabited TSurvival := ⟨TSurvival.z⟩
structure TJoinRules where
  kinds : List Int
  most : Int
  weak : List TId
  survive : List TSurvival
def TJoinRules.z : TJoinRules := ⟨[], 0, [], []⟩
instance : Inhabited TJoinRules := ⟨TJoinRules.z⟩
structure TSession where
  window : TWindow
  many : Int
  first : ByteArray
def TSession.z : TSession := ⟨⟨0, 0⟩, 0, ⟨#[]⟩⟩
instance : Inhabited TSession := ⟨TSession.z⟩
end Go.Avc

namespace Go.Avc
open Go Go.Proofs

theorem getD_put' {a : Act} {d t : Nat} {v : Value} (hd : d < a.tmps.size) : (a.put (some d) v).tmps.getD t undef = if t = d then v else a.tmps.getD t undef := getD_put hd
theorem put_size {a : Act} {d : Option Nat} {v : Value} : (a.put d v).tmps.size = a.tmps.size := by cases d <;> simp [Act.put]
theorem put_defers {a : Act} {d : Option Nat} {v : Value} : (a.put d v).defers = a.defers := by cases d <;> rfl

/-- The result's slot is laid, the stream is built and boxed. -/
theorem head_wp {P : Program} {Q : Exit → Act → World → Prop} {c : Code} {i0 i1 : Nat} {o0 m bo bx sg : Oper} {d x1 x2 x3 x4 : Nat} {ST : TypeId}
    (h0 : o0.op = .assign (.const (.bool false)) ∧ o0.dst = some d ∧ o0.guard = none) (h1 : m.op = .move (.tmp 0) ∧ m.dst = some x1 ∧ m.guard = none)
    (h2 : bo.op = .build ST #[(0, .tmp x1)] ∧ bo.dst = some x2 ∧ bo.guard = none) (h3 : bx.op = .box ST (.tmp x2) ∧ bx.dst = some x3 ∧ bx.guard = none)
    (h4 : sg.op = .assign (.tmp x3) ∧ sg.dst = some x4 ∧ sg.guard = none) (hd : d ≠ 0)
    (hbuild : ∀ (A : Option Addr) (n cp : Nat) (w : World) (ev : Operand → Value) (o : Oper), o.op = .build ST #[(0, .tmp x1)] → ev (.tmp x1) = .slice A n cp → (execOp ev o).run P w = .ok (.value (.agg #[.slice A n cp, .int .i64 0])) w)
    {a : Act} {w : World} {A : Option Addr} {n cp : Nat} (ha : a.tmps.getD 0 undef = .slice A n cp) (hs : d < a.tmps.size ∧ x1 < a.tmps.size ∧ x2 < a.tmps.size ∧ x3 < a.tmps.size ∧ x4 < a.tmps.size)
    (hc : ∀ a' : Act, (∀ t, a'.tmps.getD t undef = if t = x4 then .pointer (some ⟨w.heap.size, 0, none⟩) else if t = x3 then .pointer (some ⟨w.heap.size, 0, none⟩) else if t = x2 then .agg #[.slice A n cp, .int .i64 0] else if t = x1 then .slice A n cp else if t = d then .bool false else a.tmps.getD t undef) →
      a'.tmps.size = a.tmps.size → a'.defers = a.defers → c.wp P Q a' (w.alloc (.cells #[.slice A n cp, .int .i64 0] ST))) :
    (Code.seq (.region i0 #[o0] false) (.seq (.region i1 #[m, bo, bx, sg] false) c)).wp P Q a w := by
  obtain ⟨s0, s1, s2, s3, s4⟩ := hs
  refine wp_seq (wp_region_list ?_)
  refine wpList_plain h0.2.2 fun K hK => ?_
  have r0 : (execOp a.eval o0).run P w = .ok (.value (.bool false)) w := by simp [execOp, h0.1, Act.eval]
  unfold Oper.wp
  rw [r0, Oper.upon_value, h0.2.1]
  refine hK _ _ ?_
  refine wp_seq (wp_region_list ?_)
  have e0 : (a.put (some d) (.bool false)).tmps.getD 0 undef = .slice A n cp := by rw [getD_put' s0, if_neg (fun e => hd e.symm)]; exact ha
  refine wpList_plain h1.2.2 fun K1 hK1 => ?_
  have r1 : (execOp (a.put (some d) (.bool false)).eval m).run P w = .ok (.value (.slice A n cp)) w := by simp [execOp, h1.1, Act.eval, e0]
  unfold Oper.wp
  rw [r1, Oper.upon_value, h1.2.1]
  refine hK1 _ _ ?_
  refine wpList_plain h2.2.2 fun K2 hK2 => ?_
  have e1 : ((a.put (some d) (.bool false)).put (some x1) (.slice A n cp)).eval (.tmp x1) = .slice A n cp := by
    show ((a.put (some d) (.bool false)).put (some x1) (.slice A n cp)).tmps.getD x1 undef = _
    rw [getD_put' (by rw [put_size]; exact s1), if_pos rfl]
  have r2 := hbuild A n cp w _ bo h2.1 e1
  unfold Oper.wp
  rw [r2, Oper.upon_value, h2.2.1]
  refine hK2 _ _ ?_
  refine wpList_plain h3.2.2 fun K3 hK3 => ?_
  have e2 : (((a.put (some d) (.bool false)).put (some x1) (.slice A n cp)).put (some x2) (.agg #[.slice A n cp, .int .i64 0])).eval (.tmp x2) = .agg #[.slice A n cp, .int .i64 0] := by
    show (((a.put (some d) (.bool false)).put (some x1) (.slice A n cp)).put (some x2) (.agg #[.slice A n cp, .int .i64 0])).tmps.getD x2 undef = _
    rw [getD_put' (by rw [put_size, put_size]; exact s2), if_pos rfl]
  have r3 : (execOp (((a.put (some d) (.bool false)).put (some x1) (.slice A n cp)).put (some x2) (.agg #[.slice A n cp, .int .i64 0])).eval bx).run P w = .ok (.value (.pointer (some ⟨w.heap.size, 0, none⟩))) (w.alloc (.cells #[.slice A n cp, .int .i64 0] ST)) := by
    simp only [execOp, h3.1, Instr.box, newVar, newRow, Sem.run_bind, run_newObj, Sem.run_pure, Result.andThen_ok, e2]
    rfl
  unfold Oper.wp
  rw [r3, Oper.upon_value, h3.2.1]
  refine hK3 _ _ ?_
  refine wpList_plain h4.2.2 fun K4 hK4 => ?_
  generalize hA3 : ((((a.put (some d) (.bool false)).put (some x1) (.slice A n cp)).put (some x2) (.agg #[.slice A n cp, .int .i64 0])).put (some x3) (.pointer (some ⟨w.heap.size, 0, none⟩))) = a3
  have hsz : a3.tmps.size = a.tmps.size := by rw [← hA3]; simp only [put_size]
  have e3 : a3.eval (.tmp x3) = .pointer (some ⟨w.heap.size, 0, none⟩) := by
    show a3.tmps.getD x3 undef = _
    rw [← hA3, getD_put' (by simp only [put_size]; exact s3), if_pos rfl]
  have r4 : (execOp a3.eval sg).run P (w.alloc (.cells #[.slice A n cp, .int .i64 0] ST)) = .ok (.value (.pointer (some ⟨w.heap.size, 0, none⟩))) (w.alloc (.cells #[.slice A n cp, .int .i64 0] ST)) := by simp [execOp, h4.1, e3]
  unfold Oper.wp
  rw [r4, Oper.upon_value, h4.2.1]
  refine hK4 _ _ ?_
  refine hc _ (fun t => ?_) (by rw [put_size, hsz]) (by rw [put_defers, ← hA3]; simp only [put_defers])
  rw [getD_put' (by rw [hsz]; exact s4), ← hA3, getD_put' (by simp only [put_size]; exact s3), getD_put' (by simp only [put_size]; exact s2), getD_put' (by simp only [put_size]; exact s1), getD_put' s0]

def intRows (L : List Int) : List (List D) := L.map fun x => [.int .i64 x]
/-- A law's walk: its stream laid, the rest by what its code asks. -/
theorem law_calls {P : Program} {f : FuncId} {fn : Func} {c : Code} {i0 i1 : Nat} {o0 m bo bx sg : Oper} {d x1 x2 x3 x4 : Nat} {ST : TypeId} {E : Env} {B : Nat} {live : List Nat} {HH : List Nat} {hz : List (Nat × List Nat × List Nat)} {ex : List AV} {xv : List Value} {L : List Int} {A : Option Addr} {cp ng : Nat} {glob : Nat → Option (List D)} {W : World}
    (hf : P.funcs[f]? = some fn) (hb : fn.body = some (Code.seq (.region i0 #[o0] false) (.seq (.region i1 #[m, bo, bx, sg] false) c))) (hl : fn.results = [ResultVar.tmp d].toArray) (hok : codeOk fn.ntmps hz c = true)
    (h0 : o0.op = .assign (.const (.bool false)) ∧ o0.dst = some d ∧ o0.guard = none) (h1 : m.op = .move (.tmp 0) ∧ m.dst = some x1 ∧ m.guard = none)
    (h2 : bo.op = .build ST #[(0, .tmp x1)] ∧ bo.dst = some x2 ∧ bo.guard = none) (h3 : bx.op = .box ST (.tmp x2) ∧ bx.dst = some x3 ∧ bx.guard = none)
    (h4 : sg.op = .assign (.tmp x3) ∧ sg.dst = some x4 ∧ sg.guard = none)
    (hbuild : ∀ (A : Option Addr) (n cp : Nat) (w : World) (ev : Operand → Value) (o : Oper), o.op = .build ST #[(0, .tmp x1)] → ev (.tmp x1) = .slice A n cp → (execOp ev o).run P w = .ok (.value (.agg #[.slice A n cp, .int .i64 0])) w)
    (hlt : xv.length < d ∧ d < x1 ∧ x4 < x1 ∧ d < x4 ∧ x1 < x2 ∧ x2 < x3 ∧ x3 < fn.ntmps) (hxl : ex.length = xv.length) (hxr : ∀ (i : Nat) (x : AV) (u : Value), ex[i]? = some x → xv[i]? = some u → flatV1 x = some u)
    (hB : B ≤ 4611686018427387904) (hng : ng ≤ W.heap.size) (hrd : Rd (fun k => k < W.heap.size) W (.sl (intRows L)) (.slice A L.length cp)) (hgl : GlAt ⟨P, none, L, ST, ng, glob⟩ W)
    (hvc : ∀ cx : Cx, cx.P = P → cx.ST = ST → (∀ w, GlAt cx w → GlAt ⟨P, none, L, ST, ng, glob⟩ w) → cx.glob = glob → EnvOk cx E ∧ vc ⟨cx, E, B, fn.ntmps, live, HH, hz⟩ c (Ends P (fun r => r = .b true) true [ResultVar.tmp d] B) (Ends P (fun r => r = .b true) true [ResultVar.tmp d] B) (fun _ _ => False)
      ⟨upd (upd (argS (.un :: ex)) d (.b false)) x4 .st, noO, 0⟩) :
    Calls P f (.slice A L.length cp :: xv).toArray W fun e W' => e = .returned (.bool true) ∧ RowKit.Below W.heap.size W W' := by
  obtain ⟨l1, l2, l3, l4, l5, l6, l7⟩ := hlt
  let cx : Cx := ⟨P, some W.heap.size, L, ST, ng, glob⟩
  let w1 : World := W.alloc (.cells #[.slice A L.length cp, .int .i64 0] ST)
  let F : Fr := ⟨cx, w1, fun k => k < W.heap.size, 0, B, fn.ntmps, w1, fun _ => False⟩
  have hs1 : W.heap.size < w1.heap.size := alloc_size W _
  have hw : ∀ b, b < W.heap.size → w1.heap[b]? = W.heap[b]? := fun b hb => (alloc_gr W _).block b hb (by simp)
  have hF : F.Wf := ⟨fun b hb => ⟨by have : b < W.heap.size := hb; show b < w1.heap.size; omega, fun e => by have h1 : W.heap.size = b := Option.some.inj e; have : b < W.heap.size := hb; omega⟩, fun b hb => by show b < W.heap.size; have : b < ng := hb; omega, fun b hb => by cases hb; exact hs1, by show 0 + B ≤ _; omega⟩
  have hst : StAt cx 0 w1 := fun b hb => by
    cases hb
    exact ⟨hng, A, cp, 0, heap_alloc_new W _, by omega, by omega, hrd.mono (Nat.le_of_lt hs1) (fun k hk _ => hk) (fun k hk _ => hw k hk)⟩
  have hgl0 : GlAt cx W := hgl
  have hgl1 : GlAt cx w1 := fun k l hk => by
    obtain ⟨g0, g1, cs, g2, g3⟩ := hgl0 k l hk
    exact ⟨g0, by omega, cs, fun j u hj => (cell_congr (a := ⟨k, j, none⟩) (hw k g1)).trans (g2 j u hj), g3.mono (Nat.le_of_lt hs1) (fun _ h _ => h) (fun b hb _ => hw b (by have : b < ng := hb; omega))⟩
  obtain ⟨hE, hv⟩ := hvc cx rfl rfl (fun w h => h) rfl
  have hend : ∀ (σ : St) (a : Act) (w : World), Rel F σ a w → Ends P (fun r => r = .b true) true [ResultVar.tmp d] B σ → a.defers = [] ∧ ∃ v, (results fn a.tmps).run P w = .ok v w ∧ Ending.returned v = .returned (.bool true) ∧ RowKit.Below W.heap.size W w := by
    intro σ a w h he
    obtain ⟨M, ρ, h⟩ := h
    obtain ⟨e1, e2⟩ := he
    split at e2
    · rename_i r hr
      obtain ⟨h3, v, h4, h5⟩ := outA_rel hF h hl hr
      subst e2
      have : v = .bool true := by cases (show Rd _ _ (.bool true) v from h5); rfl
      subst this
      refine ⟨h.df, _, h4, rfl, h.gr.os, h.gr.tape, h.gr.output, ?_, fun k hk => ?_⟩
      · have : w1.heap.size ≤ w.heap.size := h.gr.size; omega
      · exact (h.gr.block k (by show k < w1.heap.size; omega) (fun e => by have e' : W.heap.size = k := Option.some.inj e; omega)).trans (hw k hk)
    · exact e2.elim
  refine calls_of_wp hf hb ?_
  have hpd : ∀ t, ((Value.slice A L.length cp :: xv).toArray ++ Array.replicate (fn.ntmps - (Value.slice A L.length cp :: xv).toArray.size) undef).getD t undef = (Value.slice A L.length cp :: xv).getD t undef := by
    intro t
    rw [Array.getD_eq_getD_getElem?, Array.getElem?_append, List.getD_eq_getElem?_getD]
    split
    · rw [List.getElem?_toArray]
    · rename_i h
      rw [Array.getElem?_replicate, List.getElem?_eq_none (by simpa using h)]
      split <;> rfl
  have hsz : ((Value.slice A L.length cp :: xv).toArray ++ Array.replicate (fn.ntmps - (Value.slice A L.length cp :: xv).toArray.size) undef).size = fn.ntmps := by
    simp; omega
  refine head_wp (A := A) (n := L.length) (cp := cp) h0 h1 h2 h3 h4 (by omega) hbuild (by rw [hpd]; rfl) (by simp only [hsz]; omega) fun a' hg hsa hda => ?_
  refine vc_sound (F := F) (live := live) (H := HH) (hz := hz) hE hF c hok _ _ _ _ (fun σ a w h hk => hend σ a w h hk) (fun σ a w h hk => hend σ a w h hk) (fun j σ a w h hk => hk.elim) _ _ _ ?_ hv
  refine ⟨fun _ => False, fun _ => undef, Gr.refl _ _, hst, hgl1, fun b hb => hb.elim, fun t => ?_, (fun k o hk => by cases hk), (fun k k' o o' hk => by cases hk), hda, by rw [hsa, hsz]; exact Nat.le_refl _, ⟨Nat.le_refl _, fun _ _ _ _ => rfl, fun _ hb => hb.elim⟩⟩
  rw [hg]
  show relA _ _ _ _ _ (upd (upd (argS (.un :: ex)) d (.b false)) x4 .st t) _
  simp only [upd_apply]
  by_cases e4 : t = x4
  · rw [if_pos e4, if_pos e4]; exact ⟨_, rfl, rfl⟩
  · rw [if_neg e4, if_neg e4]
    by_cases ed : t = d
    · rw [if_pos ed, if_neg (by omega), if_neg (by omega), if_neg (by omega), if_pos ed]; exact Rd.bool _
    · rw [if_neg ed]
      cases t with
      | zero => exact trivial
      | succ t =>
        show relA _ _ _ _ _ (ex.getD t .un) _
        rw [List.getD_eq_getElem?_getD]
        cases hx : ex[t]? with
        | none => exact trivial
        | some x =>
          have hlt : t < xv.length := by rw [← hxl]; exact (List.getElem?_eq_some_iff.1 hx).1
          have hfl := hxr t x _ hx (List.getElem?_eq_getElem hlt)
          rw [if_neg (by omega), if_neg (by omega), if_neg (by omega), if_neg ed, hpd, List.getD_cons_succ, List.getD_eq_getElem?_getD, List.getElem?_eq_getElem hlt]
          exact relA_of0 (flatV1_mk hfl).1
theorem build_stream {x1 : Nat} (A : Option Addr) (n cp : Nat) (w : World) (ev : Operand → Value) (o : Oper) (ho : o.op = .build 25 #[(0, .tmp x1)]) (he : ev (.tmp x1) = .slice A n cp) : (execOp ev o).run Tryz.prog w = .ok (.value (.agg #[.slice A n cp, .int .i64 0])) w := by
  have hb : Tryz.prog.built 25 [(0, .slice A n cp)] = some #[.slice A n cp, .int .i64 0] := by kernel_rfl
  simp [execOp, ho, he, run_build w 25 _ _ hb]
end Go.Avc

namespace Go.Avc
open Go Go.Proofs

theorem Ctr.weaken {cx : Cx} {f : FuncId} {sp sp' : Spec} (h : Ctr cx f sp) (hp : ∀ xs, sp'.pre xs → sp.pre xs) (hq : ∀ xs r, sp'.pre xs → sp.post xs r → sp'.post xs r) (hc : ∀ xs, sp.cost xs ≤ sp'.cost xs) (hf : sp'.fresh = sp.fresh) : Ctr cx f sp' := by
  obtain ⟨h1, h2, h3⟩ := h
  refine ⟨h1, fun xs ha => ?_, fun F xs vals e1 e2 e3 e4 e5 e6 e7 e8 => (h3 F xs vals e1 e2 e3 e4 (Nat.le_trans (hc xs) e5) e6 e7 (hp xs e8)).mono fun e w' hh => ?_⟩
  · obtain ⟨r, hr⟩ := h2 xs (hp xs ha)
    exact ⟨r, hq xs r ha hr⟩
  · obtain ⟨v, r, g1, g2, g3, g4, g5, g6⟩ := hh
    exact ⟨v, r, g1, g2, g3.le (Nat.add_le_add_left (hc xs) _), hq xs r e8 g4, g5, by rw [hf]; exact g6⟩
/-- Does a function value say yes to x? -/
noncomputable def FSpec.holds (sp : FSpec) (x : DV) : Bool := @decide (sp.post [x] (.d (.bool true))) (Classical.propDecidable _)
/-- It takes x, and answers just one thing. -/
def FSpec.det (sp : FSpec) (x : DV) : Prop := sp.pre [x] ∧ ∀ y, sp.post [x] y ↔ y = .d (.bool (sp.holds x))
/-- A closure of one argument that answers a bool, out of what its captured variables hold. -/
def csp {γ α : Type} (F : γ → List (List D)) (f : α → DV) (g : γ → α → Bool) (caps : List (List D)) : FSpec where
  pre xs := ∃ c a, caps = F c ∧ xs = [f a]
  post xs r := ∃ c a, caps = F c ∧ xs = [f a] ∧ r = .d (.bool (g c a))
def cloS {γ α : Type} (F : γ → List (List D)) (f : α → DV) (g : γ → α → Bool) : Spec where
  pre xs := ∃ c a, xs = .dv (f a) :: (F c).map .dp
  post xs r := ∃ c a, xs = .dv (f a) :: (F c).map .dp ∧ r = .b (g c a)
  cost _ := 0
  fresh := true
theorem dp_inj : ∀ {l m : List (List D)}, l.map AV.dp = m.map AV.dp → l = m
  | [], [], _ => rfl
  | [], b :: m, h => by simp at h
  | a :: l, [], h => by simp at h
  | a :: l, b :: m, h => by
    rw [List.map_cons, List.map_cons, List.cons.injEq, AV.dp.injEq] at h
    rw [h.1, dp_inj h.2]
theorem clo_of {cx : Cx} {fn : FuncId} {γ α : Type} {F : γ → List (List D)} {f : α → DV} {g : γ → α → Bool} (h : Ctr cx fn (cloS F f g)) (caps : List (List D)) : Ctr cx fn (clo (csp F f g) caps) := by
  refine h.weaken (fun xs hx => ?_) (fun xs r hx hr => ?_) (fun _ => Nat.le_refl _) rfl
  · obtain ⟨ys, rfl, c, a, rfl, rfl⟩ := hx
    exact ⟨c, a, rfl⟩
  · obtain ⟨ys, rfl, c', a', rfl, rfl⟩ := hx
    obtain ⟨c, a, e, rfl⟩ := hr
    have e2 : AV.dv (f a') :: (F c').map AV.dp = AV.dv (f a) :: (F c).map AV.dp := e
    rw [List.cons.injEq] at e2
    have e3 := dp_inj e2.2
    have e4 : f a' = f a := by simpa using e2.1
    exact ⟨[f a'], _, rfl, rfl, c, a, e3, by rw [e4], rfl⟩
theorem csp_post {γ α : Type} {F : γ → List (List D)} {f : α → DV} {g : γ → α → Bool} (hF : ∀ c d, F c = F d → c = d) (hf : ∀ a b, f a = f b → a = b) (c : γ) (a : α) (y : DV) : (csp F f g (F c)).post [f a] y ↔ y = .d (.bool (g c a)) := by
  constructor
  · rintro ⟨c', a', h1, h2, rfl⟩
    rw [hF _ _ h1, hf a a' (by simpa using h2)]
  · rintro rfl
    exact ⟨c, a, rfl, rfl, rfl⟩
theorem csp_holds {γ α : Type} {F : γ → List (List D)} {f : α → DV} {g : γ → α → Bool} (hF : ∀ c d, F c = F d → c = d) (hf : ∀ a b, f a = f b → a = b) (c : γ) (a : α) : (csp F f g (F c)).holds (f a) = g c a := by
  unfold FSpec.holds
  cases hg : g c a with
  | true => exact @decide_eq_true _ (Classical.propDecidable _) ((csp_post hF hf c a _).2 (by rw [hg]))
  | false => exact @decide_eq_false _ (Classical.propDecidable _) (fun h => by have := (csp_post hF hf c a _).1 h; simp [hg] at this)
theorem csp_det {γ α : Type} {F : γ → List (List D)} {f : α → DV} {g : γ → α → Bool} (hF : ∀ c d, F c = F d → c = d) (hf : ∀ a b, f a = f b → a = b) (c : γ) (a : α) : (csp F f g (F c)).det (f a) :=
  ⟨⟨c, a, rfl, rfl⟩, fun y => by rw [csp_holds hF hf]; exact csp_post hF hf c a y⟩
/-- Nothing captured. -/
def F0 (_ : Unit) : List (List D) := []
theorem F0_inj : ∀ c d, F0 c = F0 d → c = d := fun _ _ _ => rfl
abbrev AV.u8 (c : Int) : AV := .dv (.d (.int .u8 c))
def u8D (c : Int) : DV := .d (.int .u8 c)
theorem u8D_inj : ∀ a b, u8D a = u8D b → a = b := fun a b h => by simpa [u8D] using h

theorem FSpec.det.post {sp : FSpec} {x : DV} (h : sp.det x) (y : DV) : sp.post [x] y = (y = .d (.bool (sp.holds x))) := propext (h.2 y)
theorem FSpec.det.pre {sp : FSpec} {x : DV} (h : sp.det x) : sp.pre [x] = True := eq_true h.1

/-! ### Keys -/
def inB (n lo hi : Int) : Bool := decide (lo ≤ n ∧ n ≤ hi)
def inS  : Spec where
  pre xs := ∃ (n : Int) (lo : Int) (hi : Int), xs = [.i n, .i lo, .i hi]
  post xs y := ∃ (n : Int) (lo : Int) (hi : Int), xs = [.i n, .i lo, .i hi] ∧ y = .b (inB n lo hi)
  cost _ := 0
  fresh := true
theorem inS_c  (xs : List AV) : (inS).cost xs = 0 := nr rfl
theorem inS_f  : (inS).fresh = true := nr rfl
theorem inS_q  (n : Int) (lo : Int) (hi : Int) : (inS).pre [.i n, .i lo, .i hi] = (True) := propext ⟨fun h => by
  have h' : ∃ (n' : Int) (lo' : Int) (hi' : Int), ([.i n, .i lo, .i hi] : List AV) = [.i n', .i lo', .i hi'] := h
  obtain ⟨n', lo', hi', e⟩ := h'
  simp only [List.cons.injEq, AV.dv.injEq, AV.dp.injEq, AV.fv.injEq, DV.d.injEq, DV.ag.injEq, D.int.injEq, D.str.injEq, D.bool.injEq, D.sl.injEq, true_and, and_true, intsDi_inj, rowsT_inj, rowsKi_inj] at e
  obtain ⟨rfl, rfl, rfl⟩ := e
  exact trivial, fun h => ⟨n, lo, hi, rfl⟩⟩
theorem inS_p  (n : Int) (lo : Int) (hi : Int) : (inS).post [.i n, .i lo, .i hi] = fun y => y = .b (inB n lo hi) := funext fun y => propext ⟨fun h => by
  have h' : ∃ (n' : Int) (lo' : Int) (hi' : Int), ([.i n, .i lo, .i hi] : List AV) = [.i n', .i lo', .i hi'] ∧ y = .b (inB n' lo' hi') := h
  obtain ⟨n', lo', hi', e, h⟩ := h'
  simp only [List.cons.injEq, AV.dv.injEq, AV.dp.injEq, AV.fv.injEq, DV.d.injEq, DV.ag.injEq, D.int.injEq, D.str.injEq, D.bool.injEq, D.sl.injEq, true_and, and_true, intsDi_inj, rowsT_inj, rowsKi_inj] at e
  obtain ⟨rfl, rfl, rfl⟩ := e
  exact h, fun h => ⟨n, lo, hi, rfl, h⟩⟩
def smallC (c : Int) : Bool := decide (97 ≤ c ∧ c ≤ 122)
def digitC (c : Int) : Bool := decide (48 ≤ c ∧ c ≤ 57)
def capitalC (c : Int) : Bool := decide (65 ≤ c ∧ c ≤ 90)
def keyC (c : Int) : Bool := smallC c || digitC c || (c == 45) || (c == 95)
def keyB (s : ByteArray) : Bool := inB s.size 1 40 && smallC (bt s 0) && (bl s).all keyC
def byteS (p : Int → Bool) : Spec where
  pre xs := ∃ (c : Int), xs = [.u8 c]
  post xs y := ∃ (c : Int), xs = [.u8 c] ∧ y = .b (p c)
  cost _ := 0
  fresh := true
theorem byteS_c (p : Int → Bool) (xs : List AV) : (byteS p).cost xs = 0 := nr rfl
theorem byteS_f (p : Int → Bool) : (byteS p).fresh = true := nr rfl
theorem byteS_q (p : Int → Bool) (c : Int) : (byteS p).pre [.u8 c] = (True) := propext ⟨fun h => by
  have h' : ∃ (c' : Int), ([.u8 c] : List AV) = [.u8 c'] := h
  obtain ⟨c', e⟩ := h'
  simp only [List.cons.injEq, AV.dv.injEq, AV.dp.injEq, AV.fv.injEq, DV.d.injEq, DV.ag.injEq, D.int.injEq, D.str.injEq, D.bool.injEq, D.sl.injEq, true_and, and_true, intsDi_inj, rowsT_inj, rowsKi_inj] at e
  obtain rfl := e
  exact trivial, fun h => ⟨c, rfl⟩⟩
theorem byteS_p (p : Int → Bool) (c : Int) : (byteS p).post [.u8 c] = fun y => y = .b (p c) := funext fun y => propext ⟨fun h => by
  have h' : ∃ (c' : Int), ([.u8 c] : List AV) = [.u8 c'] ∧ y = .b (p c') := h
  obtain ⟨c', e, h⟩ := h'
  simp only [List.cons.injEq, AV.dv.injEq, AV.dp.injEq, AV.fv.injEq, DV.d.injEq, DV.ag.injEq, D.int.injEq, D.str.injEq, D.bool.injEq, D.sl.injEq, true_and, and_true, intsDi_inj, rowsT_inj, rowsKi_inj] at e
  obtain rfl := e
  exact h, fun h => ⟨c, rfl, h⟩⟩
theorem pwithin_ctr {cx : Cx} (h : Seat cx) : Ctr cx 144 inS := by
  refine ctr_of (fn := Tryz.f144) (l := [.tmp 6]) (envL []) [0, 1, 2, 6] [] [] (env0 h.hP) ?_ (by rw [h.hP]; exact Tryz.func144) rfl (by kernel_rfl) rfl ?_ ?_
  · rw [h.hP]; exact ⟨_, Tryz.func144, by kernel_rfl, by kernel_rfl⟩
  · rintro xs ⟨n, lo, hi, rfl⟩; exact ⟨_, n, lo, hi, rfl, rfl⟩
  · rintro xs ⟨n, lo, hi, rfl⟩
    refine ⟨by rw [Tryz.ntmps144]; simp, ?_⟩
    simp only [go_sem, h.hP, inS_q, inS_p, inS_c, inS_f, Tryz.ntmps144, Nat.reduceEqDiff, reduceCtorEq, Nat.reduceMul, Nat.reduceAdd, Nat.reduceSub, Nat.reduceDiv, Nat.reduceMod, Nat.reduceLeDiff, Nat.reduceLT, Nat.reduceBNe, Nat.reduceBEq, reduceIte, Int.reduceLE, Int.reduceLT, Int.reduceToNat, Int.reduceNeg, Int.reduceAdd, Int.reduceSub, Int.reduceMul, Int.reduceEq]
    unfold inB
    exact ⟨fun c => by simp [c], fun c => by simp [c]⟩
theorem in_ctr {cx : Cx} (h : Seat cx) : Ctr cx 57 inS := by
  refine ctr_of (fn := Tryz.f57) (l := [.tmp 6]) (envL []) [0, 1, 2, 6] [] [] (env0 h.hP) ?_ (by rw [h.hP]; exact Tryz.func57) rfl (by kernel_rfl) rfl ?_ ?_
  · rw [h.hP]; exact ⟨_, Tryz.func57, by kernel_rfl, by kernel_rfl⟩
  · rintro xs ⟨n, lo, hi, rfl⟩; exact ⟨_, n, lo, hi, rfl, rfl⟩
  · rintro xs ⟨n, lo, hi, rfl⟩
    refine ⟨by rw [Tryz.ntmps57]; simp, ?_⟩
    simp only [go_sem, h.hP, inS_q, inS_p, inS_c, inS_f, Tryz.ntmps57, Nat.reduceEqDiff, reduceCtorEq, Nat.reduceMul, Nat.reduceAdd, Nat.reduceSub, Nat.reduceDiv, Nat.reduceMod, Nat.reduceLeDiff, Nat.reduceLT, Nat.reduceBNe, Nat.reduceBEq, reduceIte, Int.reduceLE, Int.reduceLT, Int.reduceToNat, Int.reduceNeg, Int.reduceAdd, Int.reduceSub, Int.reduceMul, Int.reduceEq]
    unfold inB
    exact ⟨fun c => by simp [c], fun c => by simp [c]⟩
theorem small_ctr {cx : Cx} (h : Seat cx) : Ctr cx 145 (byteS smallC) := by
  refine ctr_of (fn := Tryz.f145) (l := [.tmp 2]) (envL []) [0, 2] [] [] (env0 h.hP) ?_ (by rw [h.hP]; exact Tryz.func145) rfl (by kernel_rfl) rfl ?_ ?_
  · rw [h.hP]; exact ⟨_, Tryz.func145, by kernel_rfl, by kernel_rfl⟩
  · rintro xs ⟨c, rfl⟩; exact ⟨_, c, rfl, rfl⟩
  · rintro xs ⟨c, rfl⟩
    refine ⟨by rw [Tryz.ntmps145]; simp, ?_⟩
    simp only [go_sem, h.hP, byteS_q, byteS_p, byteS_c, byteS_f, Tryz.ntmps145, Nat.reduceEqDiff, reduceCtorEq, Nat.reduceMul, Nat.reduceAdd, Nat.reduceSub, Nat.reduceDiv, Nat.reduceMod, Nat.reduceLeDiff, Nat.reduceLT, Nat.reduceBNe, Nat.reduceBEq, reduceIte, Int.reduceLE, Int.reduceLT, Int.reduceToNat, Int.reduceNeg, Int.reduceAdd, Int.reduceSub, Int.reduceMul, Int.reduceEq]
    unfold smallC
    exact ⟨fun c => by simp [c], fun c => by simp [c]⟩
theorem digit_ctr {cx : Cx} (h : Seat cx) : Ctr cx 148 (byteS digitC) := by
  refine ctr_of (fn := Tryz.f148) (l := [.tmp 2]) (envL []) [0, 2] [] [] (env0 h.hP) ?_ (by rw [h.hP]; exact Tryz.func148) rfl (by kernel_rfl) rfl ?_ ?_
  · rw [h.hP]; exact ⟨_, Tryz.func148, by kernel_rfl, by kernel_rfl⟩
  · rintro xs ⟨c, rfl⟩; exact ⟨_, c, rfl, rfl⟩
  · rintro xs ⟨c, rfl⟩
    refine ⟨by rw [Tryz.ntmps148]; simp, ?_⟩
    simp only [go_sem, h.hP, byteS_q, byteS_p, byteS_c, byteS_f, Tryz.ntmps148, Nat.reduceEqDiff, reduceCtorEq, Nat.reduceMul, Nat.reduceAdd, Nat.reduceSub, Nat.reduceDiv, Nat.reduceMod, Nat.reduceLeDiff, Nat.reduceLT, Nat.reduceBNe, Nat.reduceBEq, reduceIte, Int.reduceLE, Int.reduceLT, Int.reduceToNat, Int.reduceNeg, Int.reduceAdd, Int.reduceSub, Int.reduceMul, Int.reduceEq]
    unfold digitC
    exact ⟨fun c => by simp [c], fun c => by simp [c]⟩
theorem all_bt (s : ByteArray) (p : Int → Bool) : ((bl s).all p = true) = ∀ j : Nat, (j : Int) < s.size → p (bt s j) = true := by
  apply propext
  rw [List.all_eq_true]
  constructor
  · intro h j hj
    rw [bt_at, List.getD_eq_getElem?_getD, List.getElem?_eq_getElem (by rw [bl_length]; omega)]
    exact h _ (List.getElem_mem _)
  · intro h x hx
    obtain ⟨j, hj, rfl⟩ := List.mem_iff_getElem.1 hx
    have := h j (by rw [bl_length] at hj; omega)
    rwa [bt_at, List.getD_eq_getElem?_getD, List.getElem?_eq_getElem hj] at this
theorem all_bt_no {s : ByteArray} {p : Int → Bool} {i : Int} (h0 : 0 ≤ i) (h1 : i < s.size) (h : p (bt s i) = false) : (bl s).all p = false := by
  cases e : (bl s).all p with
  | false => rfl
  | true =>
    rw [all_bt] at e
    have := e i.toNat (by omega)
    rw [Int.toNat_of_nonneg h0, h] at this
    cases this
/-- all of a string's bytes -/
def allS : Spec where
  pre xs := ∃ (s : ByteArray) (sp : FSpec), xs = [.str s, .fv sp] ∧ (∀ c : Int, 0 ≤ c → c ≤ 255 → sp.det (.d (.int .u8 c))) ∧ s.size ≤ 4611686018427387904
  post xs r := ∃ (s : ByteArray) (sp : FSpec), xs = [.str s, .fv sp] ∧ r = .b ((bl s).all fun c => sp.holds (.d (.int .u8 c)))
  cost _ := 0
  fresh := true
theorem all_ctr {cx : Cx} (h : Seat cx) : Ctr cx 146 allS := by
  refine ctr_of (fn := Tryz.f146) (l := [.tmp 4]) (envL []) [0, 1, 4, 5, 7, 8, 9, 16] [] [] (env0 h.hP) ?_ (by rw [h.hP]; exact Tryz.func146) rfl (by kernel_rfl) rfl ?_ ?_
  · rw [h.hP]; exact ⟨_, Tryz.func146, by kernel_rfl, by kernel_rfl⟩
  · rintro xs ⟨s, sp, rfl, h1, h2⟩; exact ⟨_, s, sp, rfl, rfl⟩
  · rintro xs ⟨s, sp, rfl, h1, h2⟩
    refine ⟨by rw [Tryz.ntmps146]; simp, ?_⟩
    simp only [go_sem, h.hP, allS, Tryz.ntmps146, Nat.reduceEqDiff, reduceCtorEq, Nat.reduceMul, Nat.reduceAdd, Nat.reduceSub, Nat.reduceDiv, Nat.reduceMod, Nat.reduceLeDiff, Nat.reduceLT, Nat.reduceBNe, Nat.reduceBEq, reduceIte, Int.reduceLE, Int.reduceLT, Int.reduceToNat, Int.reduceNeg, Int.reduceAdd, Int.reduceSub, Int.reduceMul, Int.reduceEq]
    have hd : ∀ i, sp.det (.d (.int .u8 (bt s i))) := fun i => h1 _ (bt_range s i).1 (bt_range s i).2
    refine vc_loopS (Int) (fun (i : Int) => [(8, .i i)]) [] (fun (i : Int) => []) (fun (i : Int) => []) (fun (i : Int) => 0) (fun (i : Int) => 0 ≤ i ∧ i ≤ s.size ∧ ∀ j : Nat, (j : Int) < i → sp.holds (.d (.int .u8 (bt s j))) = true) (fun (i : Int) => (s.size - i).toNat) [] ?_ ?_
    · simp only [go_sem, h.hP, List.cons_append, List.nil_append, Meets_e, Below_e, Prod.exists, exists_eq, exists_eq_left, exists_eq_left', exists_eq_right, exists_eq_right', exists_and_left, exists_and_right, Ob.arr.injEq, AV.own.injEq, AV.fv.injEq, Tryz.ntmps146, Nat.reduceEqDiff, reduceCtorEq, Nat.reduceMul, Nat.reduceAdd, Nat.reduceSub, Nat.reduceDiv, Nat.reduceMod, Nat.reduceLeDiff, Nat.reduceLT, Nat.reduceBNe, Nat.reduceBEq, reduceIte, Int.reduceLE, Int.reduceLT, Int.reduceToNat, Int.reduceNeg, Int.reduceAdd, Int.reduceSub, Int.reduceMul, Int.reduceEq]
      exact ⟨Int.natCast_nonneg _, fun j hj => by omega⟩
    · rintro i ⟨j1, j2, j3⟩
      simp only [go_sem, h.hP, List.cons_append, List.nil_append, Meets_e, Below_e, Prod.exists, exists_eq, exists_eq_left, exists_eq_left', exists_eq_right, exists_eq_right', exists_and_left, exists_and_right, Ob.arr.injEq, AV.own.injEq, AV.fv.injEq, allS, fun i => (hd i).pre, fun i => (hd i).post, Tryz.ntmps146, Nat.reduceEqDiff, reduceCtorEq, Nat.reduceMul, Nat.reduceAdd, Nat.reduceSub, Nat.reduceDiv, Nat.reduceMod, Nat.reduceLeDiff, Nat.reduceLT, Nat.reduceBNe, Nat.reduceBEq, reduceIte, Int.reduceLE, Int.reduceLT, Int.reduceToNat, Int.reduceNeg, Int.reduceAdd, Int.reduceSub, Int.reduceMul, Int.reduceEq]
      have hw : i < s.size → IntKind.i64.wrap (i + 1) = i + 1 := fun h => i64w (by omega) (by omega)
      refine ⟨fun c => ⟨j1, c, fun hf => (all_bt_no j1 c hf).symm, fun ht => ?_⟩, fun c => ?_⟩
      · rw [hw c]
        refine ⟨by omega, by omega, fun j hj => ?_, by omega⟩
        by_cases e : (j : Int) = i
        · rw [e]; exact ht
        · exact j3 j (by omega)
      · have := all_bt s fun c => sp.holds (.d (.int .u8 c))
        exact (this.mpr fun j hj => j3 j (by omega)).symm
/-- IsKey -/
def keyΦ : List (List D) → FSpec := csp F0 u8D fun _ c => keyC c
theorem keyΦ_h (c : Int) : (keyΦ []).holds (.d (.int .u8 c)) = keyC c := csp_holds F0_inj u8D_inj () c
theorem keyΦ_d (c : Int) : (keyΦ []).det (.d (.int .u8 c)) := csp_det F0_inj u8D_inj () c
theorem IsKey1_ctr {cx : Cx} (h : Seat cx) : Ctr cx 147 (cloS F0 u8D fun _ c => keyC c) := by
  refine ctr_of (fn := Tryz.f147) (l := [.tmp 2]) (envL [(145, (byteS smallC)), (148, (byteS digitC))]) [0, 2] [] [] (envL_cons (small_ctr h) (envL_cons (digit_ctr h) (env0 h.hP))) ?_ (by rw [h.hP]; exact Tryz.func147) rfl (by kernel_rfl) rfl ?_ ?_
  · rw [h.hP]; exact ⟨_, Tryz.func147, by kernel_rfl, by kernel_rfl⟩
  · rintro xs ⟨c, a, rfl⟩; exact ⟨_, c, a, rfl, rfl⟩
  · rintro xs ⟨c, a, rfl⟩
    refine ⟨by rw [Tryz.ntmps147]; simp [F0], ?_⟩
    simp only [go_sem, h.hP, byteS_q, byteS_p, byteS_c, byteS_f, F0, u8D, cloS, Tryz.ntmps147, Nat.reduceEqDiff, reduceCtorEq, Nat.reduceMul, Nat.reduceAdd, Nat.reduceSub, Nat.reduceDiv, Nat.reduceMod, Nat.reduceLeDiff, Nat.reduceLT, Nat.reduceBNe, Nat.reduceBEq, reduceIte, Int.reduceLE, Int.reduceLT, Int.reduceToNat, Int.reduceNeg, Int.reduceAdd, Int.reduceSub, Int.reduceMul, Int.reduceEq]
    grind [keyC]
def strB (p : ByteArray → Bool) : Spec where
  pre xs := ∃ (s : ByteArray), xs = [.str s] ∧ (s.size ≤ 4611686018427387904)
  post xs y := ∃ (s : ByteArray), xs = [.str s] ∧ y = .b (p s)
  cost _ := 0
  fresh := true
theorem strB_c (p : ByteArray → Bool) (xs : List AV) : (strB p).cost xs = 0 := nr rfl
theorem strB_f (p : ByteArray → Bool) : (strB p).fresh = true := nr rfl
theorem strB_q (p : ByteArray → Bool) (s : ByteArray) : (strB p).pre [.str s] = (s.size ≤ 4611686018427387904) := propext ⟨fun h => by
  have h' : ∃ (s' : ByteArray), ([.str s] : List AV) = [.str s'] ∧ (s'.size ≤ 4611686018427387904) := h
  obtain ⟨s', e, h⟩ := h'
  simp only [List.cons.injEq, AV.dv.injEq, AV.dp.injEq, AV.fv.injEq, DV.d.injEq, DV.ag.injEq, D.int.injEq, D.str.injEq, D.bool.injEq, D.sl.injEq, true_and, and_true, intsDi_inj, rowsT_inj, rowsKi_inj] at e
  obtain rfl := e
  exact h, fun h => ⟨s, rfl, h⟩⟩
theorem strB_p (p : ByteArray → Bool) (s : ByteArray) : (strB p).post [.str s] = fun y => y = .b (p s) := funext fun y => propext ⟨fun h => by
  have h' : ∃ (s' : ByteArray), ([.str s] : List AV) = [.str s'] ∧ y = .b (p s') := h
  obtain ⟨s', e, h⟩ := h'
  simp only [List.cons.injEq, AV.dv.injEq, AV.dp.injEq, AV.fv.injEq, DV.d.injEq, DV.ag.injEq, D.int.injEq, D.str.injEq, D.bool.injEq, D.sl.injEq, true_and, and_true, intsDi_inj, rowsT_inj, rowsKi_inj] at e
  obtain rfl := e
  exact h, fun h => ⟨s, rfl, h⟩⟩
theorem IsKey_ctr {cx : Cx} (h : Seat cx) : Ctr cx 90 (strB keyB) := by
  refine ctr_of (fn := Tryz.f90) (l := [.tmp 2]) (envF [(145, (byteS smallC)), (144, inS), (146, allS)] [(147, keyΦ)]) [0, 2] [] [] (envF_cons (clo_of (IsKey1_ctr h)) (envF_nil (envL_cons (small_ctr h) (envL_cons (pwithin_ctr h) (envL_cons (all_ctr h) (env0 h.hP)))))) ?_ (by rw [h.hP]; exact Tryz.func90) rfl (by kernel_rfl) rfl ?_ ?_
  · rw [h.hP]; exact ⟨_, Tryz.func90, by kernel_rfl, by kernel_rfl⟩
  · rintro xs ⟨s, rfl, hs⟩; exact ⟨_, s, rfl, rfl⟩
  · rintro xs ⟨s, rfl, hs⟩
    refine ⟨by rw [Tryz.ntmps90]; simp, ?_⟩
    simp only [go_sem, h.hP, List.cons_append, List.nil_append, Meets_e, Below_e, Prod.exists, exists_eq, exists_eq_left, exists_eq_left', exists_eq_right, exists_eq_right', exists_and_left, exists_and_right, Ob.arr.injEq, AV.own.injEq, AV.fv.injEq, byteS_q, byteS_p, byteS_c, byteS_f, strB_q, strB_p, strB_c, strB_f, inS_q, inS_p, inS_c, inS_f, allS, keyΦ_h, keyΦ_d, Tryz.ntmps90, Nat.reduceEqDiff, reduceCtorEq, Nat.reduceMul, Nat.reduceAdd, Nat.reduceSub, Nat.reduceDiv, Nat.reduceMod, Nat.reduceLeDiff, Nat.reduceLT, Nat.reduceBNe, Nat.reduceBEq, reduceIte, Int.reduceLE, Int.reduceLT, Int.reduceToNat, Int.reduceNeg, Int.reduceAdd, Int.reduceSub, Int.reduceMul, Int.reduceEq]
    grind [keyB, inB]
end Go.Avc

namespace Go.Avc
open Go Go.Proofs

/-- The six cells of an event. -/
structure EvV where
  id : ByteArray
  name : ByteArray
  at_ : Int
  kind : Int
  text : ByteArray
  A : Option Addr
  n : Nat
  c : Nat
def EvV.z : EvV := ⟨⟨#[]⟩, ⟨#[]⟩, 0, 0, ⟨#[]⟩, none, 0, 0⟩
instance : Inhabited EvV := ⟨EvV.z⟩
def EvV.enc (x : EvV) : List Value := [.string x.id, .string x.name, .int .i64 x.at_, .int .i64 x.kind, .string x.text, .slice x.A x.n x.c]
theorem EvV.len (x : EvV) : x.enc.length = 6 := rfl
theorem EvV.one (x : EvV) : ∀ v ∈ x.enc, v.oneCell' = true := by
  intro v hv
  simp only [EvV.enc, List.mem_cons, List.not_mem_nil, or_false] at hv
  rcases hv with rfl | rfl | rfl | rfl | rfl | rfl <;> rfl
/-- An event and how it lies. -/
def Lay (ok : Nat → Prop) (w : World) (p : TEvent × EvV) : Prop := RdL ok w p.1.row p.2.enc
theorem Lay.mono {ok ok' : Nat → Prop} {w w' : World} {p : TEvent × EvV} (h : Lay ok w p) (hs : w.heap.size ≤ w'.heap.size)
    (hk : ∀ b, ok b → b < w.heap.size → ok' b) (hw : ∀ b, ok b → b < w.heap.size → w'.heap[b]? = w.heap[b]?) : Lay ok' w' p := RdL.mono h hs hk hw
theorem rd_sl_val {ok : Nat → Prop} {w : World} {l : List (List D)} {v : Value} (h : Rd ok w (.sl l) v) : ∃ A n c, v = .slice A n c := by
  generalize e : D.sl l = d at h
  cases h with
  | nil A c => exact ⟨_, _, _, rfl⟩
  | sl l z b o c u hc hb hlt hz hu hr => exact ⟨_, _, _, rfl⟩
  | _ => cases e
theorem rd_str_val {ok : Nat → Prop} {w : World} {s : ByteArray} {v : Value} (h : Rd ok w (.str s) v) : v = .string s := by
  cases h; rfl
theorem rd_int_val {ok : Nat → Prop} {w : World} {k : IntKind} {n : Int} {v : Value} (h : Rd ok w (.int k n) v) : v = .int k n := by
  cases h; rfl
theorem lay_one {ok : Nat → Prop} {w : World} {x : TEvent} {cs : List Value} (h : RdL ok w x.row cs) : ∃ v : EvV, cs = v.enc := by
  have hl := h.1
  match cs, hl with
  | [a, b, c, d, e, f], _ =>
    have h0 := rd_str_val (h.2 0 (.str x.id) a rfl rfl)
    have h1 := rd_str_val (h.2 1 (.str x.name) b rfl rfl)
    have h2 := rd_int_val (h.2 2 (.int .i64 x.at_) c rfl rfl)
    have h3 := rd_int_val (h.2 3 (.int .i64 x.who.kind) d rfl rfl)
    have h4 := rd_str_val (h.2 4 (.str x.who.text) e rfl rfl)
    obtain ⟨A, n, c', h5⟩ := rd_sl_val (h.2 5 (.sl (TField.rows x.fields)) f rfl rfl)
    subst h0 h1 h2 h3 h4 h5
    exact ⟨⟨x.id, x.name, x.at_, x.who.kind, x.who.text, A, n, c'⟩, rfl⟩
def encP (ps : List (TEvent × EvV)) : List Value := (ps.map fun p => p.2.enc).flatten
theorem encP_len (ps : List (TEvent × EvV)) : (encP ps).length = ps.length * 6 := by
  induction ps with
  | nil => rfl
  | cons p r ih =>
    show (p.2.enc ++ encP r).length = _
    rw [List.length_append, ih, EvV.len, List.length_cons]
    omega
theorem encP_one (ps : List (TEvent × EvV)) : ∀ v ∈ encP ps, v.oneCell' = true := fun v hv => by
  obtain ⟨r, hr, hv⟩ := List.mem_flatten.1 hv
  obtain ⟨p, _, rfl⟩ := List.mem_map.1 hr
  exact p.2.one v hv
theorem lays_of {ok : Nat → Prop} {w : World} : ∀ (l : List TEvent) (cs : List Value), RdL ok w (TEvent.rows l).flatten cs → ∃ ps : List (TEvent × EvV), ps.map Prod.fst = l ∧ cs = encP ps ∧ ∀ p ∈ ps, Lay ok w p
  | [], cs, h => by
    have : cs = [] := List.eq_nil_of_length_eq_zero h.1.symm
    subst this
    exact ⟨[], rfl, rfl, fun p hp => by cases hp⟩
  | x :: r, cs, h => by
    have h1 : RdL ok w x.row (cs.take 6) := by
      have := h.slice 0 6
      rwa [List.drop_zero, List.drop_zero, show ((TEvent.rows (x :: r)).flatten).take 6 = x.row from rfl] at this
    have h2 : RdL ok w (TEvent.rows r).flatten (cs.drop 6) := by
      have := h.drop 6
      rwa [show ((TEvent.rows (x :: r)).flatten).drop 6 = (TEvent.rows r).flatten from rfl] at this
    obtain ⟨v, hv⟩ := lay_one h1
    obtain ⟨ps, q1, q2, q3⟩ := lays_of r _ h2
    refine ⟨(x, v) :: ps, by rw [List.map_cons, q1], ?_, fun p hp => ?_⟩
    · show cs = v.enc ++ encP ps
      rw [← hv, ← q2, List.take_append_drop]
    · rcases List.mem_cons.1 hp with rfl | hp
      · show RdL ok w x.row v.enc
        rw [← hv]
        exact h1
      · exact q3 p hp
theorem lays_to {ok : Nat → Prop} {w : World} : ∀ (ps : List (TEvent × EvV)), (∀ p ∈ ps, Lay ok w p) → RdL ok w (TEvent.rows (ps.map Prod.fst)).flatten (encP ps)
  | [], _ => RdL.nil
  | p :: r, h => (show RdL ok w (p.1.row ++ (TEvent.rows (r.map Prod.fst)).flatten) (p.2.enc ++ encP r) from RdL.append (h p List.mem_cons_self) (lays_to r fun q hq => h q (List.mem_cons_of_mem _ hq)))
theorem encP_get (ps : List (TEvent × EvV)) {j c : Nat} {p : TEvent × EvV} (hj : ps[j]? = some p) (hc : c < 6) : (encP ps)[j * 6 + c]? = p.2.enc[c]? := by
  induction ps generalizing j with
  | nil => simp at hj
  | cons q r ih =>
    show (q.2.enc ++ encP r)[j * 6 + c]? = _
    cases j with
    | zero =>
      simp only [List.getElem?_cons_zero, Option.some.injEq] at hj
      subst hj
      rw [Nat.zero_mul, Nat.zero_add, List.getElem?_append_left (by rw [EvV.len]; exact hc)]
    | succ j =>
      rw [List.getElem?_append_right (by rw [EvV.len]; omega), EvV.len, show (j + 1) * 6 + c - 6 = j * 6 + c by omega]
      exact ih (by simpa using hj)

/-! ### A row whose first n places hold events of a list -/
def RowsIn (S : TEvent × EvV → Prop) (cur : Array Value) (n : Nat) : Prop := ∀ j, j < n → ∃ p, S p ∧ ∀ c, c < 6 → cur[j * 6 + c]? = p.2.enc[c]?
theorem RowsIn.of {cur : Array Value} {ps : List (TEvent × EvV)} (h : cur.toList.take (ps.length * 6) = encP ps) : RowsIn (· ∈ ps) cur ps.length := fun j hj => by
  refine ⟨ps[j], List.getElem_mem hj, fun c hc => ?_⟩
  have := congrArg (fun q : List Value => q[j * 6 + c]?) h
  simp only [List.getElem?_take, Array.getElem?_toList] at this
  rw [if_pos (by omega)] at this
  rw [this]
  exact encP_get ps (List.getElem?_eq_getElem hj) hc
end Go.Avc

namespace Go.Avc
open Go Go.Proofs Go.ChangeShapes Go.ChangeMaps

theorem cell_spot' {w : World} {a : Addr} {v : Value} (h : w.cell? a = some v) : a.spot = none := by
  obtain ⟨b, o, s⟩ := a
  cases s with
  | none => rfl
  | some x =>
    unfold World.cell? at h
    split at h <;> simp at h
section
variable {H : Type} {enc : TypeId × Value → H} {P : Program} {W : World}
theorem open_nums {t e : TypeId} {r : Reach} {b0 : Nat} {v : Value} {d : DataW H} {ps : List MemPlace} (ht : P.underlying t = some (.slice e)) (he : P.underlying e = some (.int .i64)) (hc : P.cellsOf e = 1)
    (hval : Value.okWide P W r b0 t v) (hd : DataW.Trod enc P W 0 (fun _ => true) true t v d ps) :
    ∃ (A : Option Addr) (L : List Int) (cp : Nat), v = .slice A L.length cp ∧ Rd (fun k => k < W.heap.size) W (.sl (intRows L)) v ∧
      ∀ W', RowKit.Below W.heap.size W W' → ∀ sp : Nat → Bool, (∀ p ∈ ps, sp p.block = true) → DataW.Trod enc P W' 0 sp true t v d ps := by
  obtain ⟨a0, len0, cap0, rfl⟩ := Go.WideShapes.okWide_slice ht hval
  obtain ⟨fuel, hf⟩ := hd
  rcases open_ints ht he hc hf with ⟨h1, h2⟩ | ⟨a, len, cap, zs, h1, hb, hl, hm, hz, hx, hcell, hw⟩
  · have h1' : [Value.slice a0 len0 cap0] = [Value.slice none 0 0] := h1
    simp only [List.cons.injEq, Value.slice.injEq, and_true] at h1'
    obtain ⟨rfl, rfl, rfl⟩ := h1'
    cases h2
    refine ⟨none, [], 0, rfl, .nil none 0, fun W' _ sp _ => ⟨1, ?_⟩⟩
    simp [DataW.trod, Value.cells, ht]
  · have h1' : [Value.slice a0 len0 cap0] = [Value.slice (some a) len cap] := h1
    simp only [List.cons.injEq, Value.slice.injEq, and_true] at h1'
    obtain ⟨rfl, rfl, rfl⟩ := h1'
    simp only [if_true] at hz
    cases hx
    have hin : ∀ i, i < zs.length → a.block < W.heap.size := fun i hi => by
      have := hcell i hi
      by_cases h : a.block < W.heap.size
      · exact h
      · have e : W.heap[(a.add i).block]? = none := by
          rw [Array.getElem?_eq_none]
          rw [block_add]
          omega
        unfold World.cell? at this
        rw [e] at this
        cases this
    refine ⟨some a, zs.take len0, cap0, by rw [List.length_take, Nat.min_eq_left (by omega)], ?_, fun W' hW sp hsp => ⟨2, ?_⟩⟩
    · have hlen : (zs.take len0).length = len0 := by rw [List.length_take, Nat.min_eq_left (by omega)]
      by_cases h0 : len0 = 0
      · subst h0
        rw [List.take_zero]
        exact .nil (some a) cap0
      · have hs : a.spot = none := cell_spot' (a := a.add 0) (hcell 0 (by omega))
        obtain ⟨b, o, s⟩ := a
        have hs' : s = none := hs
        subst hs'
        have hr : Rd (fun k => k < W.heap.size) W (.sl (intRows (zs.take len0))) (.slice (some ⟨b, o, none⟩) (intRows (zs.take len0)).length cap0) := by
          refine .sl (intRows (zs.take len0)) 1 b o cap0 (fun i _ => .int .i64 (zs.getD i 0)) ?_ (hin 0 (by omega)) (hin 0 (by omega)) ?_ ?_ ?_
          · unfold intRows
            rw [List.length_map, hlen]
            exact hl
          · intro i x hx
            unfold intRows at hx
            rw [List.getElem?_map] at hx
            obtain ⟨y, _, rfl⟩ := Option.map_eq_some_iff.1 hx
            rfl
          · intro i x hx j y hy
            unfold intRows at hx
            rw [List.getElem?_map] at hx
            obtain ⟨n, hn, rfl⟩ := Option.map_eq_some_iff.1 hx
            have hi : i < len0 := by
              have := (List.getElem?_eq_some_iff.1 hn).1
              omega
            cases j with
            | zero =>
              have := hcell i (by omega)
              rw [Go.WideShapes.add_plain] at this
              rw [Nat.mul_one, Nat.add_zero]
              exact this
            | succ j => simp at hy
          · intro i x hx j y hy
            unfold intRows at hx
            rw [List.getElem?_map] at hx
            obtain ⟨n, hn, rfl⟩ := Option.map_eq_some_iff.1 hx
            have hi : i < len0 := by
              have := (List.getElem?_eq_some_iff.1 hn).1
              omega
            cases j with
            | zero =>
              have hy' : D.int .i64 n = y := Option.some.inj hy
              subst hy'
              have hn' : zs.getD i 0 = n := by
                rw [List.getElem?_take, if_pos hi] at hn
                rw [List.getD_eq_getElem?_getD, hn]
                rfl
              show Rd _ _ _ (Value.int .i64 (zs.getD i 0))
              rw [hn']
              exact .int _ _
            | succ j => simp at hy
        have hl' : (intRows (zs.take len0)).length = len0 := by unfold intRows; rw [List.length_map, hlen]
        rw [hl'] at hr
        exact hr
    · refine shut_ints 0 ht he hc hb hl hm ?_ (fun i hi => ?_) hw
      · by_cases h0 : cap0 = 0
        · have : len0 = 0 := by omega
          subst h0
          subst this
          rw [hz]
          split <;> rfl
        · have := hsp (.cell a.block (a.off + 0)) (List.mem_map.2 ⟨0, List.mem_range.2 (by omega), rfl⟩)
          have e : sp a.block = true := this
          rw [if_pos e, hz]
      · rw [hW.cell (by rw [block_add]; exact hin i hi)]
        exact hcell i hi
end

section
open Go.RowKit Go.WideShapes
variable {H : Type} {enc : TypeId × Value → H} {P : Program}
theorem post_of_below {f : Func} {s : ChangeSpec} {apart fresh handsOn again : Bool} {W W' : World} {args : Array Value} {v : Value} {ds gs : List (DataW H)} {before pa pv : List MemPlace}
    (hW : DataW.Whole enc P f.params.toList s.vars apart W args.toList ds gs before)
    (hres : ∀ (b : Nat) (sp : Nat → Bool) (hd : Bool), DataW.TrodAll enc P W' b sp hd f.resultTypes.toList (v.resultList f.resultTypes.size) (s.fn H (ds ++ gs)).results [])
    (hargs : ∀ sp : Nat → Bool, (∀ p ∈ before, sp p.block = true) → DataW.TrodAll enc P W' 0 sp true f.params.toList args.toList (s.fn H (ds ++ gs)).args pa)
    (hvars : ∀ sp : Nat → Bool, (∀ p ∈ before, sp p.block = true) → DataW.TrodVars enc P W' sp s.vars (s.fn H (ds ++ gs)).vars pv)
    (hps : before = pa ++ pv) (hb : RowKit.Below W.heap.size W W')
    (hok : ∀ (j : Nat) (t : TypeId) (r : Value), f.resultTypes[j]? = some t → (v.resultList f.resultTypes.size)[j]? = some r → Value.okWide P W' .any 0 t r) :
    s.post enc P f apart fresh handsOn again W args v W' := by
  have hlt : ∀ p ∈ before, p.block < W.heap.size := fun p hp => hW.lt p hp
  have hold : ∀ p ∈ before, (fun b => decide (b < W.heap.size)) p.block = true := fun p hp => by simpa using hlt p hp
  refine ⟨ds, gs, before, [], pa, pv, hW, hres _ _ _, hargs _ hold, hvars _ hold, World.keptBut_mono (fun p hp => ⟨hp, ?_⟩) (hb.frame (· ∈ before)), fun _ => ?_⟩
  · rw [hps, List.mem_append] at hp
    exact Or.inr hp
  · obtain ⟨_, _, _, _, _, hz, hn⟩ := hW
    refine ⟨hok, _, _, ([] ++ pa) ++ pv, ⟨[] ++ pa, pv, trodAll_append (hargs _ (fun _ _ => rfl)) (hres _ _ _), hvars _ (fun _ _ => rfl), rfl, ?_, ?_⟩, ?_⟩
    · intro b off hp
      have hin : MemPlace.cell b off ∈ before := by rw [hps]; simpa using hp
      rw [hb.frozen (hlt _ hin)]
      exact hz b off hin
    · intro ha
      have := hn ha
      rw [hps] at this
      simpa using this
    · intro p hp _
      rw [hps]
      simpa using hp
end
end Go.Avc

namespace Go.Avc
open Go Go.Proofs

/-- The tables of unicode/utf8 lie as they are laid. -/
def Utf8 (cx : Cx) : Prop := ∀ w, GlAt cx w → Lib.Utf8Tabs 4 5 w
def decS : Spec where
  pre xs := ∃ s : ByteArray, xs = [.str s]
  post xs r := ∃ s : ByteArray, xs = [.str s] ∧ r = .tcons (.dv (.d (.int .i32 (Lib.decodeGo s).1))) (.tcons (.i (Lib.decodeGo s).2) .tnil)
  cost _ := 0
  fresh := true
theorem dec_ctr {cx : Cx} (h : Seat cx) (hU : Utf8 cx) : Ctr cx 180 decS := by
  refine ctr_flat (by rw [h.hP]; exact ⟨_, Tryz.func180, by kernel_rfl, by kernel_rfl⟩) (fun _ => rfl) ?_
  rintro xs ⟨s, rfl⟩
  refine ⟨_, _, _, rfl, ⟨s, rfl, rfl⟩, rfl, fun w hw => ?_⟩
  rw [h.hP]
  exact Tryz.utf8_DecodeRuneInString s w (hU w hw)


/-- How many bytes the first code point takes. -/
def wid (s : ByteArray) : Nat := (Lib.decodeGo s).2
def ptOf (s : ByteArray) : Int := if ((Lib.decodeGo s).1 : Int) = 65533 ∧ ((Lib.decodeGo s).2 : Int) = 1 then -1 - bt s 0 else ((Lib.decodeGo s).1 : Int)
def ptsL : Nat → ByteArray → List Int
  | 0, _ => []
  | k + 1, s => if s.size = 0 then [] else ptOf s :: ptsL k (s.extract (wid s) s.size)
/-- The code points of a string; a byte that is none is below 0. -/
def pts (s : ByteArray) : List Int := ptsL s.size s
theorem decodeN_w (n b0 b1 b2 b3 : Nat) (hn : 1 ≤ n) (hb : b0 < 256) : 1 ≤ (Lib.decodeN n b0 b1 b2 b3).2 ∧ (Lib.decodeN n b0 b1 b2 b3).2 ≤ n ∧ (Lib.decodeN n b0 b1 b2 b3).1 ≤ 1114111 := by
  unfold Lib.decodeN
  repeat' split
  all_goals (simp only; omega)
theorem wid_ge {s : ByteArray} (h : s.size ≠ 0) : 1 ≤ wid s ∧ wid s ≤ s.size ∧ (Lib.decodeGo s).1 ≤ 1114111 := by
  unfold wid Lib.decodeGo
  rw [if_neg h, Lib.decode_at]
  exact decodeN_w _ _ _ _ _ (by omega) (UInt8.toNat_lt _)
theorem ptsL_step {s : ByteArray} {k : Nat} (h : s.size ≠ 0) (hk : s.size ≤ k) : ∃ k', k = k' + 1 ∧ ptsL k s = ptOf s :: ptsL k' (s.extract (wid s) s.size) := by
  obtain ⟨k', rfl⟩ : ∃ k', k = k' + 1 := ⟨k - 1, by omega⟩
  exact ⟨k', rfl, by conv => lhs; unfold ptsL
                     rw [if_neg h]⟩
theorem ptsL_nil {s : ByteArray} (h : s.size = 0) (k : Nat) : ptsL k s = [] := by
  cases k with
  | zero => rfl
  | succ k => unfold ptsL; rw [if_pos h]
theorem ptsL_len : ∀ (k : Nat) (s : ByteArray), (ptsL k s).length ≤ s.size
  | 0, s => Nat.zero_le _
  | k + 1, s => by
    unfold ptsL
    split
    · exact Nat.zero_le _
    · rename_i h
      have h1 := wid_ge h
      have h2 := ptsL_len k (s.extract (wid s) s.size)
      rw [ByteArray.size_extract] at h2
      rw [List.length_cons]
      omega
end Go.Avc

namespace Go.Avc
open Go Go.Proofs

theorem rowsK_inj' {l m : List Int} : intsD l = intsD m ↔ l = m := by
  refine ⟨fun h => ?_, fun h => by rw [h]⟩
  have e : ∀ l : List Int, numsOf (intsD l) = l := fun l => by
    unfold numsOf intsD
    rw [List.map_map]
    induction l with
    | nil => rfl
    | cons x r ih => simp [ih]
  rw [← e l, ← e m, h]
def oddS : Spec where
  pre xs := ∃ lo hi : Int, xs = [.st, .i lo, .i hi] ∧ -1073741824 ≤ lo ∧ lo ≤ 1073741823 ∧ -1073741823 ≤ hi ∧ hi ≤ 1073741823
  post xs r := ∃ lo hi q : Int, xs = [.st, .i lo, .i hi] ∧ -1099511627776 ≤ q ∧ q ≤ 1099511627776 ∧ r = .i q
  cost _ := 2
  fresh := true
theorem odd_ctr {cx : Cx} (h : Seat cx) : Ctr cx 68 oddS := by
  refine ctr_of (fn := Tryz.f68) (l := [.tmp 6]) (envL [(26, flipS), (12, pickS), (11, rangeS)]) [0, 1, 2, 6, 8] [] [] (envL_cons (flip_ctr cx h.hP h.hS) (envL_cons (pick_ctr cx h.hP h.hS) (envL_cons (range_ctr cx h.hP h.hS) (env0 h.hP)))) ?_ (by rw [h.hP]; exact Tryz.func68) rfl (by kernel_rfl) rfl ?_ ?_
  · rw [h.hP]; exact ⟨_, Tryz.func68, by kernel_rfl, by kernel_rfl⟩
  · rintro xs ⟨lo, hi, rfl, h1, h2, h3, h4⟩; exact ⟨_, lo, hi, 0, rfl, by omega, by omega, rfl⟩
  · rintro xs ⟨lo, hi, rfl, h1, h2, h3, h4⟩
    refine ⟨by rw [Tryz.ntmps68]; simp, ?_⟩
    simp only [go_sem, h.hP, flipS, pickS, rangeS, oddS, show ∀ a b c d e f : Int, ([[D.int .i64 a], [D.int .i64 b], [D.int .i64 c], [D.int .i64 d], [D.int .i64 e], [D.int .i64 f]] : List (List D)) = intsD [a, b, c, d, e, f] from fun _ _ _ _ _ _ => rfl, (show ∀ l m : List Int, (intsD l = intsD m) = (l = m) from fun l m => propext rowsK_inj'), Tryz.ntmps68, Nat.reduceEqDiff, reduceCtorEq, Nat.reduceMul, Nat.reduceAdd, Nat.reduceSub, Nat.reduceDiv, Nat.reduceMod, Nat.reduceLeDiff, Nat.reduceLT, Nat.reduceBNe, Nat.reduceBEq, reduceIte, Int.reduceLE, Int.reduceLT, Int.reduceToNat, Int.reduceNeg, Int.reduceAdd, Int.reduceSub, Int.reduceMul, Int.reduceEq]
    rw [i64w (n := lo - 1) (by omega) (by omega), i64w (n := hi + 1) (by omega) (by omega)]
    refine fun a => ⟨fun _ x hx => ?_, fun _ => ⟨by omega, by omega, by omega, by omega, fun x a1 a2 a3 => ⟨x, by omega, ?_, rfl⟩⟩⟩
    · unfold isIn at hx
      simp only [List.mem_cons, List.not_mem_nil, or_false] at hx
      exact ⟨x, by omega, by omega, rfl⟩
    · by_cases c : lo ≤ hi
      · have := a2 c; omega
      · have := a3 (by omega); omega
def isOf (x : ByteArray) (l : List ByteArray) : Prop := x ∈ l
def oneS : Spec where
  pre xs := ∃ l : List ByteArray, xs = [.st, .sl (rowsT l)] ∧ l ≠ [] ∧ l.length ≤ 1073741824
  post xs r := ∃ (l : List ByteArray) (x : ByteArray), xs = [.st, .sl (rowsT l)] ∧ isOf x l ∧ r = .str x
  cost _ := 1
  fresh := true
theorem one_ctr {cx : Cx} (h : Seat cx) : Ctr cx 61 oneS := by
  refine ctr_of (fn := Tryz.f61) (l := [.tmp 4]) (envL [(55, nextS)]) [0, 1, 4] [] [] (envL_cons (next_ctr cx h.hP h.hS) (env0 h.hP)) ?_ (by rw [h.hP]; exact Tryz.func61) rfl (by kernel_rfl) rfl ?_ ?_
  · rw [h.hP]; exact ⟨_, Tryz.func61, by kernel_rfl, by kernel_rfl⟩
  · rintro xs ⟨l, rfl, h1, h2⟩
    exact (match l, h1 with | x :: t, _ => ⟨.str x, x :: t, x, rfl, List.mem_cons_self, rfl⟩)
  · rintro xs ⟨l, rfl, h1, h2⟩
    refine ⟨by rw [Tryz.ntmps61]; simp, ?_⟩
    simp only [go_sem, h.hP, nextS, oneS, rowsT_len, rowsT_get, rowsT_inj, Tryz.ntmps61, Nat.reduceEqDiff, reduceCtorEq, Nat.reduceMul, Nat.reduceAdd, Nat.reduceSub, Nat.reduceDiv, Nat.reduceMod, Nat.reduceLeDiff, Nat.reduceLT, Nat.reduceBNe, Nat.reduceBEq, reduceIte, Int.reduceLE, Int.reduceLT, Int.reduceToNat, Int.reduceNeg, Int.reduceAdd, Int.reduceSub, Int.reduceMul, Int.reduceEq]
    have hl := List.length_pos_iff.2 h1
    refine ⟨by omega, fun a e1 _ => ?_⟩
    have ha := e1 (by omega)
    refine ⟨ha.1, ha.2, ?_⟩
    rw [List.getD_eq_getElem?_getD, List.getElem?_eq_getElem (by omega)]
    exact List.getElem_mem _
/-! ### The stream's functions, as equations -/
theorem nextS_q (m : Int) : nextS.pre [.st, .i m] = (m ≤ 9223372036854775807) := propext ⟨fun ⟨m', e, h⟩ => by
  simp only [List.cons.injEq, AV.dv.injEq, DV.d.injEq, D.int.injEq, true_and, and_true] at e; subst e; exact h, fun h => ⟨m, rfl, h⟩⟩
theorem nextS_p (m : Int) : nextS.post [.st, .i m] = fun y => ∃ q : Int, (1 ≤ m → 0 ≤ q ∧ q < m) ∧ (m < 1 → q = 0) ∧ y = .i q := funext fun y => propext ⟨fun ⟨m', q, e, h⟩ => by
  simp only [List.cons.injEq, AV.dv.injEq, DV.d.injEq, D.int.injEq, true_and, and_true] at e; subst e; exact ⟨q, h⟩, fun ⟨q, h⟩ => ⟨m, q, rfl, h⟩⟩
theorem nextS_c (xs : List AV) : nextS.cost xs = 1 := nr rfl
theorem nextS_f : nextS.fresh = true := nr rfl
theorem flipS_q (m : Int) : flipS.pre [.st, .i m] = (m ≤ 9223372036854775807) := propext ⟨fun ⟨m', e, h⟩ => by
  simp only [List.cons.injEq, AV.dv.injEq, DV.d.injEq, D.int.injEq, true_and, and_true] at e; subst e; exact h, fun h => ⟨m, rfl, h⟩⟩
theorem flipS_p (m : Int) : flipS.post [.st, .i m] = fun y => ∃ b : Bool, y = .b b := funext fun y => propext ⟨fun ⟨m', q, e, h⟩ => ⟨q, h⟩, fun ⟨q, h⟩ => ⟨m, q, rfl, h⟩⟩
theorem flipS_c (xs : List AV) : flipS.cost xs = 1 := nr rfl
theorem flipS_f : flipS.fresh = true := nr rfl
theorem pickS_q (l : List Int) : pickS.pre [.st, .sl (intsD l)] = (l ≠ [] ∧ l.length ≤ 1073741824) := propext ⟨fun ⟨m', e, h⟩ => by
  simp only [List.cons.injEq, AV.dv.injEq, DV.d.injEq, D.sl.injEq, intsDi_inj, true_and, and_true] at e; subst e; exact h, fun h => ⟨l, rfl, h⟩⟩
theorem pickS_p (l : List Int) : pickS.post [.st, .sl (intsD l)] = fun y => ∃ x : Int, isIn x l ∧ y = .i x := funext fun y => propext ⟨fun ⟨m', q, e, h⟩ => by
  simp only [List.cons.injEq, AV.dv.injEq, DV.d.injEq, D.sl.injEq, intsDi_inj, true_and, and_true] at e; subst e; exact ⟨q, h⟩, fun ⟨q, h⟩ => ⟨l, q, rfl, h⟩⟩
theorem pickS_c (xs : List AV) : pickS.cost xs = 1 := nr rfl
theorem pickS_f : pickS.fresh = true := nr rfl
theorem oneS_q (l : List ByteArray) : oneS.pre [.st, .sl (rowsT l)] = (l ≠ [] ∧ l.length ≤ 1073741824) := propext ⟨fun ⟨m', e, h⟩ => by
  simp only [List.cons.injEq, AV.dv.injEq, DV.d.injEq, D.sl.injEq, rowsT_inj, true_and, and_true] at e; subst e; exact h, fun h => ⟨l, rfl, h⟩⟩
theorem oneS_p (l : List ByteArray) : oneS.post [.st, .sl (rowsT l)] = fun y => ∃ x : ByteArray, isOf x l ∧ y = .str x := funext fun y => propext ⟨fun ⟨m', q, e, h⟩ => by
  simp only [List.cons.injEq, AV.dv.injEq, DV.d.injEq, D.sl.injEq, rowsT_inj, true_and, and_true] at e; subst e; exact ⟨q, h⟩, fun ⟨q, h⟩ => ⟨l, q, rfl, h⟩⟩
theorem oneS_c (xs : List AV) : oneS.cost xs = 1 := nr rfl
theorem oneS_f : oneS.fresh = true := nr rfl
theorem rangeS_q (lo hi : Int) : rangeS.pre [.st, .i lo, .i hi] = (-1073741824 ≤ lo ∧ lo ≤ 1073741824 ∧ -1073741824 ≤ hi ∧ hi ≤ 1073741824) := propext ⟨fun ⟨a, b, e, h⟩ => by
  simp only [List.cons.injEq, AV.dv.injEq, DV.d.injEq, D.int.injEq, true_and, and_true] at e; obtain ⟨rfl, rfl⟩ := e; exact h, fun h => ⟨lo, hi, rfl, h⟩⟩
theorem rangeS_p (lo hi : Int) : rangeS.post [.st, .i lo, .i hi] = fun y => ∃ q : Int, lo ≤ q ∧ (lo ≤ hi → q ≤ hi) ∧ (hi < lo → q = lo) ∧ y = .i q := funext fun y => propext ⟨fun ⟨a, b, q, e, h⟩ => by
  simp only [List.cons.injEq, AV.dv.injEq, DV.d.injEq, D.int.injEq, true_and, and_true] at e; obtain ⟨rfl, rfl⟩ := e; exact ⟨q, h⟩, fun ⟨q, h⟩ => ⟨lo, hi, q, rfl, h⟩⟩
theorem rangeS_c (xs : List AV) : rangeS.cost xs = 1 := nr rfl
theorem rangeS_f : rangeS.fresh = true := nr rfl
theorem oddS_q (lo hi : Int) : oddS.pre [.st, .i lo, .i hi] = (-1073741824 ≤ lo ∧ lo ≤ 1073741823 ∧ -1073741823 ≤ hi ∧ hi ≤ 1073741823) := propext ⟨fun ⟨a, b, e, h⟩ => by
  simp only [List.cons.injEq, AV.dv.injEq, DV.d.injEq, D.int.injEq, true_and, and_true] at e; obtain ⟨rfl, rfl⟩ := e; exact h, fun h => ⟨lo, hi, rfl, h⟩⟩
theorem oddS_p (lo hi : Int) : oddS.post [.st, .i lo, .i hi] = fun y => ∃ q : Int, -1099511627776 ≤ q ∧ q ≤ 1099511627776 ∧ y = .i q := funext fun y => propext ⟨fun ⟨a, b, q, e, h⟩ => by
  simp only [List.cons.injEq, AV.dv.injEq, DV.d.injEq, D.int.injEq, true_and, and_true] at e; obtain ⟨rfl, rfl⟩ := e; exact ⟨q, h⟩, fun ⟨q, h⟩ => ⟨lo, hi, q, rfl, h⟩⟩
theorem oddS_c (xs : List AV) : oddS.cost xs = 2 := nr rfl
theorem oddS_f : oddS.fresh = true := nr rfl
end Go.Avc

namespace Go.Avc
open Go Go.RowKit Go.Proofs

/-- A world behind w in which the row at block b still holds events such as S tells, and all else is as it was. -/
structure DelW (w : World) (b off n0 : Nat) (S : TEvent × EvV → Prop) (W : World) : Prop where
  os : W.os = w.os
  tape : W.tape = w.tape
  out : W.output = w.output
  size : w.heap.size ≤ W.heap.size
  keep : ∀ k, k < w.heap.size → k ≠ b → W.heap[k]? = w.heap[k]?
  rows : ∀ j, j < n0 → ∃ p, S p ∧ ∀ c v, p.2.enc[c]? = some v → W.cell? ⟨b, off + j * 6 + c, none⟩ = some v
  frz : ∀ o, W.frozen? ⟨b, o, none⟩ = false
section
variable {w W W' : World} {b off n0 : Nat} {S : TEvent × EvV → Prop}
theorem DelW.below (h : DelW w b off n0 S W) (hb : b < w.heap.size) (hB : RowKit.Below W.heap.size W W') : DelW w b off n0 S W' where
  os := hB.os.trans h.os
  tape := hB.tape.trans h.tape
  out := hB.output.trans h.out
  size := Nat.le_trans h.size hB.size
  keep := fun k hk hne => (hB.block k (Nat.lt_of_lt_of_le hk h.size)).trans (h.keep k hk hne)
  rows := fun j hj => by
    obtain ⟨p, hp, hc⟩ := h.rows j hj
    exact ⟨p, hp, fun c v hv => (cell_congr (a := ⟨b, off + j * 6 + c, none⟩) (hB.block b (Nat.lt_of_lt_of_le hb h.size))).trans (hc c v hv)⟩
  frz := fun o => by
    have := h.frz o
    unfold World.frozen? at this ⊢
    rw [show (⟨b, o, none⟩ : Addr).block = b from rfl] at this ⊢
    rw [hB.block b (Nat.lt_of_lt_of_le hb h.size)]
    exact this
theorem DelW.at_ (h : DelW w b off n0 S W) {j : Nat} (hj : j < n0) : ∃ p : TEvent × EvV, S p ∧ W.cell? ⟨b, off + j * 6, none⟩ = some (.string p.2.id) ∧ W.cell? ⟨b, off + j * 6 + 1, none⟩ = some (.string p.2.name) ∧ W.cell? ⟨b, off + j * 6 + 2, none⟩ = some (.int .i64 p.2.at_) ∧
    W.cell? ⟨b, off + j * 6 + 3, none⟩ = some (.int .i64 p.2.kind) ∧ W.cell? ⟨b, off + j * 6 + 4, none⟩ = some (.string p.2.text) ∧ W.cell? ⟨b, off + j * 6 + 5, none⟩ = some (.slice p.2.A p.2.n p.2.c) := by
  obtain ⟨p, hp, hc⟩ := h.rows j hj
  exact ⟨p, hp, hc 0 _ rfl, hc 1 _ rfl, hc 2 _ rfl, hc 3 _ rfl, hc 4 _ rfl, hc 5 _ rfl⟩
end
theorem setCells_keep (b : Nat) : ∀ (vs : List Value) (o : Nat) (W : World), (W.setCells b o vs).os = W.os ∧ (W.setCells b o vs).tape = W.tape ∧ (W.setCells b o vs).output = W.output ∧ (W.setCells b o vs).heap.size = W.heap.size ∧ ∀ k, k ≠ b → (W.setCells b o vs).heap[k]? = W.heap[k]?
  | [], _, _ => ⟨rfl, rfl, rfl, rfl, fun _ _ => rfl⟩
  | v :: r, o, W => by
    obtain ⟨h1, h2, h3, h4, h5⟩ := setCells_keep b r (o + 1) (W.setCell ⟨b, o, none⟩ v)
    exact ⟨h1, h2, h3, h4.trans (by simp [World.setCell]), fun k hk => (h5 k hk).trans (heap_setCell_other _ _ _ _ (by exact hk))⟩
section
variable {w W W' : World} {b off n0 : Nat} {S : TEvent × EvV → Prop}
theorem DelW.cut (h : DelW w b off n0 S W) {k : Nat} (hk : k ≤ n0) (vs : List Value) : DelW w b off k S (W.setCells b (off + k * 6) vs) := by
  obtain ⟨h1, h2, h3, h4, h5⟩ := setCells_keep b vs (off + k * 6) W
  refine ⟨h1.trans h.os, h2.trans h.tape, h3.trans h.out, h4.symm ▸ h.size, fun j hj hne => (h5 j hne).trans (h.keep j hj hne), fun j hj => ?_, fun o => (World.frozen?_setCells b _ _ _ _).trans (h.frz o)⟩
  obtain ⟨p, hp, hc⟩ := h.rows j (by omega)
  refine ⟨p, hp, fun c v hv => ?_⟩
  have hc6 : c < 6 := (List.getElem?_eq_some_iff.1 hv).1
  rw [World.cell?_setCells_out b _ _ _ _ (fun _ _ => .inl (by show off + j * 6 + c < off + k * 6; omega))]
  exact hc c v hv
theorem in_at {b o : Nat} {vs : List Value} {W : World} (h : ∀ j, j < vs.length → (W.cell? ⟨b, o + j, none⟩).isSome = true) {c : Nat} {v : Value} (hv : vs[c]? = some v) : (W.setCells b o vs).cell? ⟨b, o + c, none⟩ = some v := by
  obtain ⟨hc, rfl⟩ := List.getElem?_eq_some_iff.1 hv
  exact World.cell?_setCells_in b vs o W h c hc
theorem DelW.store (h : DelW w b off n0 S W) {i : Nat} (hi : i < n0) {p : TEvent × EvV} (hp : S p) : DelW w b off n0 S (W.setCells b (off + i * 6) p.2.enc) := by
  have hl : p.2.enc.length = 6 := rfl
  generalize hvs : p.2.enc = vs at hl ⊢
  obtain ⟨h1, h2, h3, h4, h5⟩ := setCells_keep b vs (off + i * 6) W
  refine ⟨h1.trans h.os, h2.trans h.tape, h3.trans h.out, h4.symm ▸ h.size, fun j hj hne => (h5 j hne).trans (h.keep j hj hne), fun j hj => ?_, fun o => (World.frozen?_setCells b _ _ _ _).trans (h.frz o)⟩
  by_cases e : j = i
  · subst e
    refine ⟨p, hp, fun c v hv => in_at (fun c hc => ?_) (by rw [← hvs]; exact hv)⟩
    obtain ⟨q, _, hq⟩ := h.rows j hj
    rw [hq c _ (List.getElem?_eq_getElem (show c < q.2.enc.length by rw [EvV.len, ← hl]; exact hc))]
    rfl
  · obtain ⟨q, hq, hc⟩ := h.rows j hj
    refine ⟨q, hq, fun c v hv => ?_⟩
    have hc6 : c < 6 := (List.getElem?_eq_some_iff.1 hv).1
    rw [World.cell?_setCells_out b _ _ _ _ (fun _ _ => by show off + j * 6 + c < off + i * 6 ∨ off + i * 6 + vs.length ≤ off + j * 6 + c; rw [hl]; omega)]
    exact hc c v hv
theorem zero_one (n : Nat) (h : n < 6) : (#[.string ⟨#[]⟩, .string ⟨#[]⟩, .int .i64 0, .int .i64 0, .string ⟨#[]⟩, .slice none 0 0] : Array Value)[n]!.oneCell' = true := by
  match n, h with
  | 0, _ => rfl
  | 1, _ => rfl
  | 2, _ => rfl
  | 3, _ => rfl
  | 4, _ => rfl
  | 5, _ => rfl
theorem DelW.clear (h : DelW w b off n0 S W) {k : Nat} (hk : k < n0) (c : Nat) : ∃ vs, (Builtin.clear_ #[26] 0 #[.slice (some ⟨b, off + k * 6, none⟩) (n0 - k) c]).run Tryz.prog W = .ok (.tuple #[]) (W.setCells b (off + k * 6) vs) := by
  have hz : ∀ W, (zeroValue 52).run Tryz.prog W = .ok (.agg #[.string ⟨#[]⟩, .string ⟨#[]⟩, .int .i64 0, .int .i64 0, .string ⟨#[]⟩, .slice none 0 0]) W := fun W => by
    obtain ⟨i0, hi, hz0, hz1, hz2⟩ := info_parts (P := Tryz.prog) (e := 52) (z := .agg #[.string ⟨#[]⟩, .string ⟨#[]⟩, .int .i64 0, .int .i64 0, .string ⟨#[]⟩, .slice none 0 0]) (size := 6) (bytes := 88) (by kernel_rfl)
    simp only [zeroValue, run_typeInfo W hi, hz0, Sem.run_bind, Result.andThen_ok]
    rfl
  obtain ⟨m, hm⟩ : ∃ m, n0 - k = m + 1 := ⟨n0 - k - 1, by omega⟩
  refine ⟨(Builtin.zeroCells #[.string ⟨#[]⟩, .string ⟨#[]⟩, .int .i64 0, .int .i64 0, .string ⟨#[]⟩, .slice none 0 0] (n0 - k)).toList, ?_⟩
  have hl : (Builtin.zeroCells #[.string ⟨#[]⟩, .string ⟨#[]⟩, .int .i64 0, .int .i64 0, .string ⟨#[]⟩, .slice none 0 0] (n0 - k)).toList.length = (n0 - k) * 6 := by
    simp [Builtin.zeroCells]
  have hst := run_storeCells_cells (P := Tryz.prog) b (off + k * 6) (Builtin.zeroCells #[.string ⟨#[]⟩, .string ⟨#[]⟩, .int .i64 0, .int .i64 0, .string ⟨#[]⟩, .slice none 0 0] (n0 - k)).toList 0 W (fun j hj => by
      rw [hl] at hj
      obtain ⟨q, _, hq⟩ := h.rows (k + j / 6) (by omega)
      have hj6 : j % 6 < 6 := Nat.mod_lt _ (by decide)
      have := hq (j % 6) _ (List.getElem?_eq_getElem (show j % 6 < q.2.enc.length by rw [EvV.len]; exact hj6))
      rw [show off + k * 6 + 0 + j = off + (k + j / 6) * 6 + j % 6 by omega, this]
      rfl) (fun j hj => h.frz _) (fun v hv => by
      simp only [Builtin.zeroCells, Array.toList_map, List.mem_map] at hv
      obtain ⟨i, _, rfl⟩ := hv
      exact zero_one _ (Nat.mod_lt _ (by decide)))
  rw [Nat.add_zero] at hst
  rw [hm] at hst ⊢
  simp [Builtin.clear_, run_underlying Tryz.underlying26, hz, Value.cells, hst]
end
theorem box_at {W : World} {n : Nat} {a b c d e f : Value} {T : TypeId} (h : W.heap[n]? = some (.cells #[a, b, c, d, e, f] T (0, 0))) : W.cell? ⟨n, 0, none⟩ = some a ∧ W.cell? ⟨n, 1, none⟩ = some b ∧ W.cell? ⟨n, 2, none⟩ = some c ∧ W.cell? ⟨n, 3, none⟩ = some d ∧ W.cell? ⟨n, 4, none⟩ = some e ∧ W.cell? ⟨n, 5, none⟩ = some f := by
  refine ⟨?_, ?_, ?_, ?_, ?_, ?_⟩ <;> rw [Lib.cell_of_heap h] <;> rfl
def ivD : Value → Int
  | .int _ n => n
  | _ => 0
set_option maxHeartbeats 4000000 in
set_option maxRecDepth 100000 in
theorem idx_walk {w : World} {b off cap n0 g : Nat} {S : TEvent × EvV → Prop} (hb : b < w.heap.size) (hn : n0 ≤ 1048576) (h0 : DelW w b off n0 S w) (eg : ∀ args w, (callFunc g args).run Tryz.prog w = .ok (.enter g args) w)
    (hp : ∀ p, S p → ∀ W, DelW w b off n0 S W → Calls Tryz.prog g #[.agg p.2.enc.toArray] W fun e W' => ∃ q : Bool, e = .returned (.bool q) ∧ RowKit.Below W.heap.size W W') :
    Calls Tryz.prog 87 #[.slice (some ⟨b, off, none⟩) n0 cap, .func (.func g) #[] #[]] w fun e W => ∃ i : Int, e = .returned (.int .i64 i) ∧ (i = -1 ∨ 0 ≤ i ∧ i < n0) ∧ DelW w b off n0 S W := by
  go_enter Tryz.func87, Tryz.ntmps87
  go_wp2
  go_loopw [8] (fun i wr => ∃ k : Nat, k ≤ n0 ∧ i = .int .i64 (k : Int) ∧ DelW w b off n0 S wr) (fun i _ => n0 - (ivD i).toNat)
  case atStart => exact ⟨0, Nat.zero_le _, rfl, h0⟩
  case round =>
    obtain ⟨k, hk, rfl, hd⟩ := hrel
    by_cases hlt : k < n0
    · obtain ⟨p, hp1, c0, c1, c2, c3, c4, c5⟩ := hd.at_ hlt
      have hcall := hp p hp1 wr hd
      rw [show p.2.enc.toArray = #[.string p.2.id, .string p.2.name, .int .i64 p.2.at_, .int .i64 p.2.kind, .string p.2.text, .slice p.2.A p.2.n p.2.c] from rfl] at hcall
      go_wp2_with (go_at_fn g; refine hcall.mono ?_; rintro e w' ⟨q, rfl, hbl⟩; cases q)
      · go_roundw
        case rel => exact ⟨k + 1, by omega, by simp, hd.below hb hbl⟩
        case measure => simp [ivD] <;> omega
      · go_ret
        exact ⟨k, rfl, .inr ⟨by omega, by omega⟩, hd.below hb hbl⟩
    · obtain rfl : k = n0 := by omega
      go_wp2
      go_ret
      exact ⟨-1, rfl, .inl rfl, hd⟩
set_option maxHeartbeats 8000000 in
set_option maxRecDepth 100000 in
theorem del_walk {w : World} {b off cap n0 g : Nat} {S : TEvent × EvV → Prop} (hb : b < w.heap.size) (hn : n0 ≤ 1048576) (hcap : n0 ≤ cap) (h0 : DelW w b off n0 S w) (eg : ∀ args w, (callFunc g args).run Tryz.prog w = .ok (.enter g args) w)
    (hp : ∀ p, S p → ∀ W, DelW w b off n0 S W → Calls Tryz.prog g #[.agg p.2.enc.toArray] W fun e W' => ∃ q : Bool, e = .returned (.bool q) ∧ RowKit.Below W.heap.size W W') :
    Calls Tryz.prog 37 #[.slice (some ⟨b, off, none⟩) n0 cap, .func (.func g) #[] #[]] w fun e W => ∃ i : Nat, i ≤ n0 ∧ e = .returned (.slice (some ⟨b, off, none⟩) i cap) ∧ DelW w b off i S W := by
  go_enter Tryz.func37, Tryz.ntmps37
  go_wp2_with (go_at_call 87; refine (idx_walk (cap := cap) hb hn h0 eg hp).mono ?_; rintro e w1 ⟨i0, rfl, hi0 | ⟨hi0, hi1⟩, hd1⟩)
  · subst hi0
    go_wp2
    go_ret
    exact ⟨n0, Nat.le_refl _, rfl, hd1⟩
  · obtain ⟨k0, rfl⟩ : ∃ k : Nat, i0 = k := ⟨i0.toNat, by omega⟩
    go_wp2
    go_loopw [5, 6] (fun i j wr => ∃ k m : Nat, k < m ∧ m ≤ n0 ∧ i = .int .i64 (k : Int) ∧ j = .int .i64 (m : Int) ∧ DelW w b off n0 S wr) (fun i j _ => n0 - (ivD j).toNat)
    case atStart => exact ⟨k0, k0 + 1, by omega, by omega, rfl, by simp, hd1⟩
    case round =>
      obtain ⟨k, m, hk, hm, rfl, rfl, hd⟩ := hrel
      by_cases hlt : m < n0
      · obtain ⟨p, hp1, c0, c1, c2, c3, c4, c5⟩ := hd.at_ hlt
        have hcall := fun W hW => hp p hp1 W hW
        rw [show p.2.enc.toArray = #[.string p.2.id, .string p.2.name, .int .i64 p.2.at_, .int .i64 p.2.kind, .string p.2.text, .slice p.2.A p.2.n p.2.c] from rfl] at hcall
        have hA := (RowKit.Below.refl wr.heap.size wr).alloc (Nat.le_refl _) (Obj.cells #[.string p.2.id, .string p.2.name, .int .i64 p.2.at_, .int .i64 p.2.kind, .string p.2.text, .slice p.2.A p.2.n p.2.c] 52)
        have hdA := hd.below hb hA
        have hB := heap_alloc_new wr (Obj.cells #[.string p.2.id, .string p.2.name, .int .i64 p.2.at_, .int .i64 p.2.kind, .string p.2.text, .slice p.2.A p.2.n p.2.c] 52)
        have hsz : wr.heap.size < (wr.alloc (Obj.cells #[.string p.2.id, .string p.2.name, .int .i64 p.2.at_, .int .i64 p.2.kind, .string p.2.text, .slice p.2.A p.2.n p.2.c] 52)).heap.size := by simp
        go_wp2_with (go_at_fn g; refine (hcall _ hdA).mono ?_; rintro e w' ⟨q, rfl, hbl⟩; have hd2 := hdA.below hb hbl; obtain ⟨p', hp', d0, d1, d2, d3, d4, d5⟩ := hd2.at_ (j := k) (by omega); have f0 := hd2.frz (off + k * 6); have f1 := hd2.frz (off + k * 6 + 1); have f2 := hd2.frz (off + k * 6 + 2); have f3 := hd2.frz (off + k * 6 + 3); have f4 := hd2.frz (off + k * 6 + 4); have f5 := hd2.frz (off + k * 6 + 5); have hB' := (hbl.block _ hsz).trans hB; clear hcall hp hA hB hbl; obtain ⟨e0, e1, e2, e3, e4, e5⟩ := box_at hB'; cases q)
        · refine ⟨⟨_, _, _, _, _, _, _, _, _, _, _, _, _, _, _, _, _, _, _, _, _, _, _, ⟨k + 1, m + 1, by omega, by omega, ?_, ?_, ?_⟩, rfl⟩, ?_⟩
          · simp
          · simp
          · exact hd2.store (show k < n0 by omega) hp1
          · simp [ivD] <;> omega
        · refine ⟨⟨_, _, _, _, _, _, _, _, _, _, _, _, _, _, _, _, _, _, _, _, _, _, _, ⟨k, m + 1, by omega, by omega, ?_, ?_, ?_⟩, rfl⟩, ?_⟩
          · simp
          · simp
          · exact hd2
          · simp [ivD] <;> omega
      · obtain rfl : m = n0 := by omega
        obtain ⟨vs, hcl⟩ := hd.clear hk (cap - k)
        have hkc : ¬ cap < k := by omega
        have hkc' : k ≤ cap := by omega
        go_wp2
        go_ret
        exact ⟨k, by omega, rfl, hd.cut (by omega) vs⟩
end Go.Avc

namespace Go.Avc
open Go Go.Proofs

/-- The first place at which p says yes; -1: there is none. -/
def idxB {α : Type} (p : α → Bool) (l : List α) : Int := match l.findIdx? p with
  | some i => i
  | none => -1
theorem idxB_at {α : Type} {p : α → Bool} {l : List α} {d : α} {i : Int} (h0 : 0 ≤ i) (h1 : i < l.length) (h2 : ∀ j : Nat, (j : Int) < i → p (l.getD j d) = false) (h3 : p (l.getD i.toNat d) = true) : idxB p l = i := by
  obtain ⟨n, rfl⟩ : ∃ n : Nat, i = n := ⟨i.toNat, by omega⟩
  rw [Int.toNat_natCast] at h3
  have hn : n < l.length := by omega
  unfold idxB
  rw [List.findIdx?_eq_some_of_exists ⟨l[n], List.getElem_mem _, by rwa [List.getD_eq_getElem?_getD, List.getElem?_eq_getElem hn] at h3⟩]
  have : l.findIdx p = n := by
    rw [List.findIdx_eq hn]
    refine ⟨by rwa [List.getD_eq_getElem?_getD, List.getElem?_eq_getElem hn] at h3, fun j hj => ?_⟩
    have := h2 j (by omega)
    rwa [List.getD_eq_getElem?_getD, List.getElem?_eq_getElem (by omega)] at this
  simp only [this]
theorem idxB_no {α : Type} {p : α → Bool} {l : List α} {d : α} (h : ∀ j : Nat, (j : Int) < l.length → p (l.getD j d) = false) : idxB p l = -1 := by
  unfold idxB
  rw [List.findIdx?_eq_none_iff.2]
  intro x hx
  obtain ⟨j, hj, rfl⟩ := List.mem_iff_getElem.1 hx
  have := h j (by omega)
  rwa [List.getD_eq_getElem?_getD, List.getElem?_eq_getElem hj] at this
theorem idxB_ge {α : Type} (p : α → Bool) (l : List α) : decide (0 ≤ idxB p l) = l.any p := by
  unfold idxB
  cases h : l.findIdx? p with
  | none =>
    rw [List.findIdx?_eq_none_iff] at h
    have : l.any p = false := by
      rw [List.any_eq_false]
      intro x hx; simp [h x hx]
    rw [this]; decide
  | some i =>
    have : l.any p = true := by
      rw [List.findIdx?_eq_some_iff_getElem] at h
      obtain ⟨hi, hp, _⟩ := h
      rw [List.any_eq_true]; exact ⟨_, List.getElem_mem hi, hp⟩
    rw [this]; simp
theorem idx_leaf {α : Type} {rows : List α} {p : α → Bool} {zr : α} {i : Int} (j1 : 0 ≤ i) (j2 : i ≤ rows.length) (j3 : ∀ j : Nat, (j : Int) < i → p (rows.getD j zr) = false) (hl : rows.length ≤ 4611686018427387904) :
    (i < rows.length → 0 ≤ i ∧ i < rows.length ∧ (p (rows.getD i.toNat zr) = true → i = idxB p rows) ∧ (p (rows.getD i.toNat zr) = false → 0 ≤ IntKind.i64.wrap (i + 1) ∧ IntKind.i64.wrap (i + 1) ≤ rows.length ∧ (∀ j : Nat, (j : Int) < IntKind.i64.wrap (i + 1) → p (rows.getD j zr) = false) ∧ ((rows.length : Int) - IntKind.i64.wrap (i + 1)).toNat < ((rows.length : Int) - i).toNat)) ∧ (¬ i < rows.length → -1 = idxB p rows) := by
  refine ⟨fun c => ⟨j1, c, fun ht => (idxB_at j1 c j3 ht).symm, fun hf => ?_⟩, fun c => (idxB_no (d := zr) fun j hj => j3 j (by omega)).symm⟩
  rw [i64w (by omega) (by omega)]
  refine ⟨by omega, by omega, fun j hj => ?_, by omega⟩
  by_cases e : (j : Int) = i
  · rw [← e, Int.toNat_natCast] at hf; exact hf
  · exact j3 j (by omega)
open Classical in
/-- The first place at which x stands; -1: nowhere. -/
noncomputable def idxE {α : Type} (x : α) (l : List α) : Int := idxB (fun y => decide (x = y)) l
open Classical in
noncomputable def conE {α : Type} (x : α) (l : List α) : Bool := l.any fun y => decide (x = y)
theorem conE_iff {α : Type} (x : α) (l : List α) : (conE x l = true) = (x ∈ l) := by
  unfold conE
  simp
theorem idx_leafT {α : Type} {rows : List α} {x zr : α} {i : Int} (j1 : 0 ≤ i) (j2 : i ≤ rows.length) (j3 : ∀ j : Nat, (j : Int) < i → ¬ x = rows.getD j zr) (hl : rows.length ≤ 4611686018427387904) :
    (i < rows.length → 0 ≤ i ∧ i < rows.length ∧ (x = rows.getD i.toNat zr → i = idxE x rows) ∧ (¬ x = rows.getD i.toNat zr → 0 ≤ IntKind.i64.wrap (i + 1) ∧ IntKind.i64.wrap (i + 1) ≤ rows.length ∧ (∀ j : Nat, (j : Int) < IntKind.i64.wrap (i + 1) → ¬ x = rows.getD j zr) ∧ ((rows.length : Int) - IntKind.i64.wrap (i + 1)).toNat < ((rows.length : Int) - i).toNat)) ∧ (¬ i < rows.length → -1 = idxE x rows) := by
  classical
  have := idx_leaf (p := fun y => decide (x = y)) (zr := zr) j1 j2 (fun j hj => by simp only [decide_eq_false_iff_not]; exact j3 j hj) hl
  simp only [decide_eq_true_eq, decide_eq_false_iff_not] at this
  unfold idxE
  refine ⟨fun c => ?_, fun c => ?_⟩
  · obtain ⟨a, b, d, e⟩ := this.1 c
    exact ⟨a, b, fun h => by rw [d h], e⟩
  · rw [this.2 c]
theorem conE_ge {α : Type} (x : α) (l : List α) : decide (0 ≤ idxE x l) = conE x l := by
  unfold idxE conE
  exact idxB_ge _ _
end Go.Avc

namespace Go.Avc
open Go
def byteOk (c : UInt8) : Bool := decide (32 ≤ c.toNat) && decide (c.toNat ≠ 127)
def badPt (p : Int) : Bool := decide (p < 32) || (p == 127)
def ptL (l : List UInt8) : Int := if (Lib.decodeL l).1 = 65533 ∧ (Lib.decodeL l).2 = 1 then -1 - ((l.getD 0 0).toNat : Int) else ((Lib.decodeL l).1 : Int)
def ptsF : Nat → List UInt8 → List Int
  | 0, _ => []
  | k + 1, l => if l = [] then [] else ptL l :: ptsF k (l.drop (Lib.decodeL l).2)
theorem dec_hi (n b0 b1 b2 b3 : Nat) (hb : 128 ≤ b0) (h : ¬ ((Lib.decodeN n b0 b1 b2 b3).1 = 65533 ∧ (Lib.decodeN n b0 b1 b2 b3).2 = 1)) :
    128 ≤ (Lib.decodeN n b0 b1 b2 b3).1 ∧ (Lib.decodeN n b0 b1 b2 b3).2 ≤ 4 ∧ (2 ≤ (Lib.decodeN n b0 b1 b2 b3).2 → 128 ≤ b1) ∧ (3 ≤ (Lib.decodeN n b0 b1 b2 b3).2 → 128 ≤ b2) ∧ (4 ≤ (Lib.decodeN n b0 b1 b2 b3).2 → 128 ≤ b3) := by
  unfold Lib.decodeN at h ⊢
  repeat' split
  all_goals first
    | (exfalso; omega)
    | (refine ⟨?_, ?_, ?_, ?_, ?_⟩ <;> simp only <;> omega)
    | (exfalso; simp_all)
theorem byteOk_hi {c : UInt8} (h : 128 ≤ c.toNat) : byteOk c = true := by
  unfold byteOk
  simp only [Bool.and_eq_true, decide_eq_true_eq]
  omega
theorem head_ok (l : List UInt8) (hne : l ≠ []) (h : ¬ ((Lib.decodeL l).1 = 65533 ∧ (Lib.decodeL l).2 = 1)) : (l.take (Lib.decodeL l).2).all byteOk = !badPt ((Lib.decodeL l).1 : Int) := by
  obtain ⟨b, t, rfl⟩ : ∃ b t, l = b :: t := by cases l with | nil => exact absurd rfl hne | cons b t => exact ⟨b, t, rfl⟩
  by_cases hb : b.toNat < 128
  · rw [Lib.decodeL_ascii b t hb]
    show ([b].all byteOk) = _
    unfold badPt byteOk
    simp only [List.all_cons, List.all_nil, Bool.and_true]
    rw [Bool.eq_iff_iff]
    simp
    omega
  · rw [Lib.decodeL_N] at h ⊢
    have h0 : ((b :: t).getD 0 0).toNat = b.toNat := rfl
    rw [h0] at h ⊢
    obtain ⟨h1, h2, h3, h4, h5⟩ := dec_hi _ b.toNat _ _ _ (by omega) h
    have hbad : badPt ((Lib.decodeN (b :: t).length b.toNat ((b :: t).getD 1 0).toNat ((b :: t).getD 2 0).toNat ((b :: t).getD 3 0).toNat).1 : Int) = false := by
      unfold badPt
      simp only [Bool.or_eq_false_iff, decide_eq_false_iff_not, beq_eq_false_iff_ne]
      omega
    rw [hbad]
    rw [Bool.not_false, List.all_eq_true]
    intro x hx
    obtain ⟨j, hj, rfl⟩ := List.mem_iff_getElem.1 hx
    rw [List.length_take] at hj
    rw [List.getElem_take]
    refine byteOk_hi ?_
    have hd : ∀ k : Nat, ∀ hk : k < (b :: t).length, (b :: t)[k] = (b :: t).getD k 0 := fun k hk => by rw [List.getD_eq_getElem?_getD, List.getElem?_eq_getElem hk]; rfl
    rw [hd j (by omega)]
    match j with
    | 0 => show 128 ≤ b.toNat; omega
    | 1 => exact h3 (by omega)
    | 2 => exact h4 (by omega)
    | 3 => exact h5 (by omega)
    | j + 4 => omega
theorem text_law : ∀ (k : Nat) (l : List UInt8), l.length ≤ k → (Lib.validD l && l.all byteOk) = !(ptsF k l).any badPt
  | 0, l, h => by
    have : l = [] := List.eq_nil_of_length_eq_zero (by omega)
    subst this
    rfl
  | k + 1, l, h => by
    by_cases hne : l = []
    · subst hne; rfl
    · rw [Lib.validD_step l hne]
      unfold ptsF
      rw [if_neg hne]
      by_cases hd : (Lib.decodeL l).1 = 65533 ∧ (Lib.decodeL l).2 = 1
      · rw [if_pos hd, List.any_cons]
        have : badPt (ptL l) = true := by
          unfold ptL badPt
          rw [if_pos hd]
          simp only [Bool.or_eq_true, decide_eq_true_eq]
          omega
        rw [this]; rfl
      · rw [if_neg hd, List.any_cons]
        have hp : badPt (ptL l) = badPt ((Lib.decodeL l).1 : Int) := by unfold ptL; rw [if_neg hd]
        have hw := Lib.decodeL_width l
        have ih := text_law k (l.drop (Lib.decodeL l).2) (by rw [List.length_drop]; have : 0 < l.length := List.length_pos_iff.2 hne; omega)
        have hs : l.all byteOk = ((l.take (Lib.decodeL l).2).all byteOk && (l.drop (Lib.decodeL l).2).all byteOk) := by rw [← List.all_append, List.take_append_drop]
        rw [hs, hp, head_ok l hne hd]
        rw [Bool.not_or, ← ih]
        cases badPt ((Lib.decodeL l).1 : Int) <;> cases Lib.validD (l.drop (Lib.decodeL l).2) <;> simp
theorem ptsL_F : ∀ (k : Nat) (s : ByteArray), ptsL k s = ptsF k s.data.toList
  | 0, s => rfl
  | k + 1, s => by
    unfold ptsL ptsF
    have hsz : (s.size = 0) = (s.data.toList = []) := by
      apply propext
      rw [← List.length_eq_zero_iff, Array.length_toList]
      exact Iff.rfl
    by_cases h : s.size = 0
    · rw [if_pos h, if_pos (hsz ▸ h)]
    · rw [if_neg h, if_neg (hsz ▸ h)]
      have hd : Lib.decodeL s.data.toList = Lib.decodeGo s := by
        unfold Lib.decodeL Lib.decodeGo
        rw [if_neg h]
      rw [ptsL_F k]
      have hx : (s.extract (wid s) s.size).data.toList = s.data.toList.drop (Lib.decodeL s.data.toList).2 := by
        rw [ByteArray.data_extract, Array.toList_extract, hd, List.extract_eq_take_drop]
        show (s.data.toList.drop (wid s)).take (s.size - wid s) = s.data.toList.drop (wid s)
        rw [List.take_of_length_le]
        rw [List.length_drop, Array.length_toList]
        exact Nat.le_refl _
      rw [hx]
      congr 1
      unfold ptOf ptL
      rw [hd]
      by_cases c : (Lib.decodeGo s).1 = 65533 ∧ (Lib.decodeGo s).2 = 1
      · rw [if_pos (by omega), if_pos c]
        rfl
      · rw [if_neg (by omega), if_neg c]
/-- What ValidString and a look at the bytes say is what the code points say. -/
theorem text_pts (s : ByteArray) : (Lib.validD s.data.toList && s.data.toList.all byteOk) = !(pts s).any badPt := by
  unfold pts
  rw [ptsL_F, text_law s.size s.data.toList (by rw [Array.length_toList]; exact Nat.le_refl _)]
end Go.Avc

namespace Go.Avc
open Go Go.Proofs

def asciiB (c : ByteArray) : Bool := c.data.toList.all fun b => decide (b.toNat < 128)
def trimF (s c : ByteArray) : ByteArray := ⟨(Lib.trimS s.data.toList c.data.toList).toArray⟩
def trimSp  : Spec where
  pre xs := ∃ (s : ByteArray) (c : ByteArray), xs = [.str s, .str c] ∧ (s.size ≤ 4611686018427387904 ∧ c.size ≤ 1000000 ∧ asciiB c = true)
  post xs y := ∃ (s : ByteArray) (c : ByteArray), xs = [.str s, .str c] ∧ y = .str (trimF s c)
  cost _ := 0
  fresh := true
theorem trimSp_c  (xs : List AV) : (trimSp).cost xs = 0 := nr rfl
theorem trimSp_f  : (trimSp).fresh = true := nr rfl
theorem trimSp_q  (s : ByteArray) (c : ByteArray) : (trimSp).pre [.str s, .str c] = (s.size ≤ 4611686018427387904 ∧ c.size ≤ 1000000 ∧ asciiB c = true) := propext ⟨fun h => by
  have h' : ∃ (s' : ByteArray) (c' : ByteArray), ([.str s, .str c] : List AV) = [.str s', .str c'] ∧ (s'.size ≤ 4611686018427387904 ∧ c'.size ≤ 1000000 ∧ asciiB c' = true) := h
  obtain ⟨s', c', e, h⟩ := h'
  simp only [List.cons.injEq, AV.dv.injEq, AV.dp.injEq, AV.fv.injEq, DV.d.injEq, DV.ag.injEq, D.int.injEq, D.str.injEq, D.bool.injEq, D.sl.injEq, true_and, and_true, intsDi_inj, rowsT_inj, rowsKi_inj] at e
  obtain ⟨rfl, rfl⟩ := e
  exact h, fun h => ⟨s, c, rfl, h⟩⟩
theorem trimSp_p  (s : ByteArray) (c : ByteArray) : (trimSp).post [.str s, .str c] = fun y => y = .str (trimF s c) := funext fun y => propext ⟨fun h => by
  have h' : ∃ (s' : ByteArray) (c' : ByteArray), ([.str s, .str c] : List AV) = [.str s', .str c'] ∧ y = .str (trimF s' c') := h
  obtain ⟨s', c', e, h⟩ := h'
  simp only [List.cons.injEq, AV.dv.injEq, AV.dp.injEq, AV.fv.injEq, DV.d.injEq, DV.ag.injEq, D.int.injEq, D.str.injEq, D.bool.injEq, D.sl.injEq, true_and, and_true, intsDi_inj, rowsT_inj, rowsKi_inj] at e
  obtain ⟨rfl, rfl⟩ := e
  exact h, fun h => ⟨s, c, rfl, h⟩⟩
theorem trim_ctr {cx : Cx} (h : Seat cx) : Ctr cx 83 trimSp := by
  refine ctr_flat (by rw [h.hP]; exact ⟨_, Tryz.func83, by kernel_rfl, by kernel_rfl⟩) (fun _ => rfl) ?_
  rintro xs ⟨s, c, rfl, h1, h2, h3⟩
  refine ⟨_, _, _, rfl, ⟨s, c, rfl, rfl⟩, rfl, fun w hw => ?_⟩
  rw [h.hP]
  exact Tryz.strings_Trim_ascii s c w (by omega) (by omega) (ascii_of_all h3)
def onlyB (s c : ByteArray) : Bool := s.data.toList.all fun b => c.data.toList.contains b
theorem drop_nil_of {α : Type} {p : α → Bool} : ∀ {l : List α}, l.dropWhile p = [] ↔ l.all p = true
  | [] => by simp
  | x :: l => by
    cases h : p x with
    | true => rw [List.dropWhile_cons_of_pos h, List.all_cons, h, Bool.true_and]; exact drop_nil_of
    | false => rw [List.dropWhile_cons_of_neg (by simp [h]), List.all_cons, h]; simp
theorem drop_head {α : Type} {p : α → Bool} : ∀ {l : List α} {x : α} {r : List α}, l.dropWhile p = x :: r → p x = false
  | [], x, r, h => by simp at h
  | y :: l, x, r, h => by
    cases hy : p y with
    | true => rw [List.dropWhile_cons_of_pos hy] at h; exact drop_head h
    | false => rw [List.dropWhile_cons_of_neg (by simp [hy])] at h; cases h; exact hy
theorem trim_nil (s c : ByteArray) : ((trimF s c).size = 0) = (onlyB s c = true) := by
  apply propext
  unfold trimF onlyB Lib.trimS Lib.trimLeftS Lib.trimRightS
  show (List.toArray _).size = 0 ↔ _
  rw [List.size_toArray, List.length_eq_zero_iff, drop_nil_of, List.all_reverse]
  generalize hp : (fun b : UInt8 => c.data.toList.contains b) = p
  constructor
  · intro h
    have : s.data.toList.reverse.dropWhile p = [] := by
      cases e : s.data.toList.reverse.dropWhile p with
      | nil => rfl
      | cons x r =>
        have h1 := drop_head e
        rw [e] at h
        rw [List.all_cons, h1] at h
        cases h
    rw [drop_nil_of, List.all_reverse] at this
    exact this
  · intro h
    have : s.data.toList.reverse.dropWhile p = [] := by rw [drop_nil_of, List.all_reverse]; exact h
    rw [this]; rfl
def onlyS  : Spec where
  pre xs := ∃ (s : ByteArray) (c : ByteArray), xs = [.str s, .str c] ∧ (s.size ≤ 4611686018427387904 ∧ c.size ≤ 1000000 ∧ asciiB c = true)
  post xs y := ∃ (s : ByteArray) (c : ByteArray), xs = [.str s, .str c] ∧ y = .b (onlyB s c)
  cost _ := 0
  fresh := true
theorem onlyS_c  (xs : List AV) : (onlyS).cost xs = 0 := nr rfl
theorem onlyS_f  : (onlyS).fresh = true := nr rfl
theorem onlyS_q  (s : ByteArray) (c : ByteArray) : (onlyS).pre [.str s, .str c] = (s.size ≤ 4611686018427387904 ∧ c.size ≤ 1000000 ∧ asciiB c = true) := propext ⟨fun h => by
  have h' : ∃ (s' : ByteArray) (c' : ByteArray), ([.str s, .str c] : List AV) = [.str s', .str c'] ∧ (s'.size ≤ 4611686018427387904 ∧ c'.size ≤ 1000000 ∧ asciiB c' = true) := h
  obtain ⟨s', c', e, h⟩ := h'
  simp only [List.cons.injEq, AV.dv.injEq, AV.dp.injEq, AV.fv.injEq, DV.d.injEq, DV.ag.injEq, D.int.injEq, D.str.injEq, D.bool.injEq, D.sl.injEq, true_and, and_true, intsDi_inj, rowsT_inj, rowsKi_inj] at e
  obtain ⟨rfl, rfl⟩ := e
  exact h, fun h => ⟨s, c, rfl, h⟩⟩
theorem onlyS_p  (s : ByteArray) (c : ByteArray) : (onlyS).post [.str s, .str c] = fun y => y = .b (onlyB s c) := funext fun y => propext ⟨fun h => by
  have h' : ∃ (s' : ByteArray) (c' : ByteArray), ([.str s, .str c] : List AV) = [.str s', .str c'] ∧ y = .b (onlyB s' c') := h
  obtain ⟨s', c', e, h⟩ := h'
  simp only [List.cons.injEq, AV.dv.injEq, AV.dp.injEq, AV.fv.injEq, DV.d.injEq, DV.ag.injEq, D.int.injEq, D.str.injEq, D.bool.injEq, D.sl.injEq, true_and, and_true, intsDi_inj, rowsT_inj, rowsKi_inj] at e
  obtain ⟨rfl, rfl⟩ := e
  exact h, fun h => ⟨s, c, rfl, h⟩⟩
theorem only_ctr {cx : Cx} (h : Seat cx) : Ctr cx 82 onlyS := by
  refine ctr_of (fn := Tryz.f82) (l := [.tmp 4]) (envL [(83, trimSp)]) [0, 1, 4] [] [] (envL_cons (trim_ctr h) (env0 h.hP)) ?_ (by rw [h.hP]; exact Tryz.func82) rfl (by kernel_rfl) rfl ?_ ?_
  · rw [h.hP]; exact ⟨_, Tryz.func82, by kernel_rfl, by kernel_rfl⟩
  · rintro xs ⟨s, c, rfl, h1, h2, h3⟩; exact ⟨_, s, c, rfl, rfl⟩
  · rintro xs ⟨s, c, rfl, h1, h2, h3⟩
    refine ⟨by rw [Tryz.ntmps82]; simp, ?_⟩
    simp only [go_sem, h.hP, List.cons_append, List.nil_append, Meets_e, Below_e, Prod.exists, exists_eq, exists_eq_left, exists_eq_left', exists_eq_right, exists_eq_right', exists_and_left, exists_and_right, Ob.arr.injEq, AV.own.injEq, AV.fv.injEq, onlyS_q, onlyS_p, onlyS_c, onlyS_f, trimSp_q, trimSp_p, trimSp_c, trimSp_f, str_nil, trim_nil, Tryz.ntmps82, Nat.reduceEqDiff, reduceCtorEq, Nat.reduceMul, Nat.reduceAdd, Nat.reduceSub, Nat.reduceDiv, Nat.reduceMod, Nat.reduceLeDiff, Nat.reduceLT, Nat.reduceBNe, Nat.reduceBEq, reduceIte, Int.reduceLE, Int.reduceLT, Int.reduceToNat, Int.reduceNeg, Int.reduceAdd, Int.reduceSub, Int.reduceMul, Int.reduceEq]
    exact ⟨h1, h2, h3, by cases onlyB s c <;> rfl⟩
theorem u8_all {p : UInt8 → Bool} (h : ((List.range 256).all fun n => p (UInt8.ofNat n)) = true) (c : UInt8) : p c = true := by
  rw [List.all_eq_true] at h
  have := h c.toNat (List.mem_range.2 (UInt8.toNat_lt c))
  rwa [UInt8.ofNat_toNat] at this
theorem u8_same {p q : UInt8 → Bool} (h : ((List.range 256).all fun n => p (UInt8.ofNat n) == q (UInt8.ofNat n)) = true) (c : UInt8) : p c = q c := by
  have := u8_all (p := fun c => p c == q c) h c
  simpa using this
theorem bl_all (s : ByteArray) (p : Int → Bool) : (bl s).all p = s.data.toList.all fun c => p (c.toNat : Int) := by
  unfold bl
  rw [List.all_map]; rfl
theorem only_all {c : ByteArray} {p : Int → Bool} (h : ((List.range 256).all fun n => c.data.toList.contains (UInt8.ofNat n) == p (((UInt8.ofNat n).toNat : Nat) : Int)) = true) (s : ByteArray) : onlyB s c = (bl s).all p := by
  rw [bl_all]
  unfold onlyB
  rw [funext (u8_same (p := fun b => c.data.toList.contains b) (q := fun b => p (b.toNat : Int)) h)]
theorem Key_ctr {cx : Cx} (h : Seat cx) : Ctr cx 65 (strB keyB) := by
  refine ctr_of (fn := Tryz.f65) (l := [.tmp 2]) (envL [(57, inS), (82, onlyS)]) [0, 2] [] [] (envL_cons (in_ctr h) (envL_cons (only_ctr h) (env0 h.hP))) ?_ (by rw [h.hP]; exact Tryz.func65) rfl (by kernel_rfl) rfl ?_ ?_
  · rw [h.hP]; exact ⟨_, Tryz.func65, by kernel_rfl, by kernel_rfl⟩
  · rintro xs ⟨s, rfl, hs⟩; exact ⟨_, s, rfl, rfl⟩
  · rintro xs ⟨s, rfl, hs⟩
    refine ⟨by rw [Tryz.ntmps65]; simp, ?_⟩
    simp only [go_sem, h.hP, List.cons_append, List.nil_append, Meets_e, Below_e, Prod.exists, exists_eq, exists_eq_left, exists_eq_left', exists_eq_right, exists_eq_right', exists_and_left, exists_and_right, Ob.arr.injEq, AV.own.injEq, AV.fv.injEq, strB_q, strB_p, strB_c, strB_f, inS_q, inS_p, inS_c, inS_f, onlyS_q, onlyS_p, onlyS_c, onlyS_f, Tryz.ntmps65, Nat.reduceEqDiff, reduceCtorEq, Nat.reduceMul, Nat.reduceAdd, Nat.reduceSub, Nat.reduceDiv, Nat.reduceMod, Nat.reduceLeDiff, Nat.reduceLT, Nat.reduceBNe, Nat.reduceBEq, reduceIte, Int.reduceLE, Int.reduceLT, Int.reduceToNat, Int.reduceNeg, Int.reduceAdd, Int.reduceSub, Int.reduceMul, Int.reduceEq]
    have e1 := only_all (c := ⟨#[97, 98, 99, 100, 101, 102, 103, 104, 105, 106, 107, 108, 109, 110, 111, 112, 113, 114, 115, 116, 117, 118, 119, 120, 121, 122]⟩) (p := smallC) (by decide +kernel) (s.extract 0 1)
    have e2 := only_all (c := ⟨#[97, 98, 99, 100, 101, 102, 103, 104, 105, 106, 107, 108, 109, 110, 111, 112, 113, 114, 115, 116, 117, 118, 119, 120, 121, 122, 48, 49, 50, 51, 52, 53, 54, 55, 56, 57, 45, 95]⟩) (p := keyC) (by decide +kernel) s
    have hx : (s.extract 0 1).size ≤ s.size := by rw [ByteArray.size_extract]; omega
    have e3 : 1 ≤ s.size → (bl (s.extract 0 1)).all smallC = smallC (bt s 0) := fun h1 => by
      have : bl (s.extract 0 1) = [bt s 0] := by
        have h2 : s.data.toList ≠ [] := fun e => by rw [← bl_length] at h1; unfold bl at h1; rw [e] at h1; simp at h1
        cases hd : s.data.toList with
        | nil => exact absurd hd h2
        | cons x r =>
          unfold bl bt
          rw [ByteArray.data_extract, Array.toList_extract, hd]
          simp
      rw [this]; simp
    rw [e1, e2]
    unfold keyB
    refine ⟨fun c1 => ?_, fun c1 => by rw [c1]; rfl⟩
    have h1 : 1 ≤ s.size := by unfold inB at c1; rw [decide_eq_true_eq] at c1; omega
    rw [c1, e3 h1]
    refine ⟨by omega, by omega, by decide +kernel, fun c2 => ⟨hs, by decide +kernel, by rw [c2]; rfl⟩, fun c2 => by rw [c2]; rfl⟩
end Go.Avc

namespace Go.Avc
open Go Go.Proofs

/-- The first of some errors. -/
def firstI (n : Nat) (f : Nat → Int) : Int := match (List.range n).find? (fun i => decide (f i ≠ 0)) with
  | some i => f i
  | none => 0
theorem firstI_no {n : Nat} {f : Nat → Int} {i : Int} (h : ∀ j : Nat, (j : Int) < i → f j = 0) (hi : n ≤ i) : firstI n f = 0 := by
  unfold firstI
  rw [List.find?_eq_none.2]
  intro x hx
  simp [h x (by have := List.mem_range.1 hx; omega)]
theorem firstI_at {n : Nat} {f : Nat → Int} {i : Int} (h0 : 0 ≤ i) (h1 : i < n) (h : ∀ j : Nat, (j : Int) < i → f j = 0) (hf : f i.toNat ≠ 0) : firstI n f = f i.toNat := by
  unfold firstI
  obtain ⟨k, rfl⟩ : ∃ k : Nat, i = k := ⟨i.toNat, by omega⟩
  rw [Int.toNat_natCast] at hf ⊢
  have : (List.range n).find? (fun i => decide (f i ≠ 0)) = some k := by
    rw [List.find?_range_eq_some]
    refine ⟨by simpa using hf, List.mem_range.2 (by omega), fun j hj => by simp [h j (by omega)]⟩
  rw [this]
/-- The rounds of a loop that looks for the first error. -/
def Rounds (n : Nat) (f : Nat → Int) (i : Int) : Prop := 0 ≤ i ∧ i ≤ n ∧ ∀ j : Nat, (j : Int) < i → f j = 0
theorem Rounds.start {n : Nat} {f : Nat → Int} : Rounds n f 0 := ⟨by decide, Int.natCast_nonneg _, fun j hj => by omega⟩
theorem Rounds.use {n : Nat} {f : Nat → Int} {i : Int} (h : Rounds n f i) (hn : n ≤ 4611686018427387904) :
    0 ≤ i ∧ (i < n → f i.toNat = 0 → Rounds n f (IntKind.i64.wrap (i + 1))) ∧ (i < n → ((n : Int) - IntKind.i64.wrap (i + 1)).toNat < ((n : Int) - i).toNat) ∧
    (∀ e, i < n → f i.toNat = e → e ≠ 0 → firstI n f = e) ∧ (¬ i < n → firstI n f = 0) := by
  obtain ⟨j1, j2, j3⟩ := h
  refine ⟨j1, fun c hf => ?_, fun c => by rw [i64w (by omega) (by omega)]; omega, fun e c hf he => by subst hf; exact firstI_at j1 c j3 he, fun c => firstI_no j3 (by omega)⟩
  rw [i64w (by omega) (by omega)]
  refine ⟨by omega, by omega, fun j hj => ?_⟩
  by_cases e : (j : Int) = i
  · rw [← e, Int.toNat_natCast] at hf; exact hf
  · exact j3 j (by omega)
theorem any_first {α : Type} (l : List α) (d : α) (q : α → Bool) {e : Int} (he : e ≠ 0) : firstI l.length (fun i => if q (l.getD i d) = true then e else 0) = if l.any q = true then e else 0 := by
  by_cases h : l.any q = true
  · rw [if_pos h]
    have hne : ∃ i, i < l.length ∧ q (l.getD i d) = true := by
      obtain ⟨x, hx, hq⟩ := List.any_eq_true.1 h
      obtain ⟨i, hi, rfl⟩ := List.mem_iff_getElem.1 hx
      exact ⟨i, hi, by rw [List.getD_eq_getElem?_getD, List.getElem?_eq_getElem hi]; exact hq⟩
    unfold firstI
    cases hf : (List.range l.length).find? (fun i => decide ((if q (l.getD i d) = true then e else 0) ≠ 0)) with
    | none =>
      obtain ⟨i, hi, hq⟩ := hne
      have := List.find?_eq_none.1 hf i (List.mem_range.2 hi)
      simp only [decide_eq_true_eq] at this
      rw [if_pos hq] at this
      exact absurd he this
    | some i =>
      have := List.find?_some hf
      simp only [decide_eq_true_eq] at this
      split at this
      · rename_i hq; simp only [hq, if_true]
      · exact absurd rfl this
  · rw [if_neg h]
    refine firstI_no (i := l.length) (fun j hj => ?_) (by omega)
    rw [if_neg]
    intro hq
    have hj' : j < l.length := by omega
    rw [List.getD_eq_getElem?_getD, List.getElem?_eq_getElem hj'] at hq
    exact h (List.any_eq_true.2 ⟨_, List.getElem_mem hj', hq⟩)
theorem inB_iff {n lo hi : Int} : inB n lo hi = true ↔ lo ≤ n ∧ n ≤ hi := by unfold inB; exact decide_eq_true_iff
theorem okL_get {α : Type} {p : α → Prop} {l : List α} {d : α} (h : okL p l) (hd : p d) (i : Nat) : p (l.getD i d) := by
  rw [List.getD_eq_getElem?_getD]
  cases e : l[i]? with
  | none => exact hd
  | some x => exact h.2 x (List.mem_of_getElem? e)
theorem ne_ft {b : Bool} (h : b = true) : ¬ b = false := fun e => by rw [h] at e; cases e
theorem ne_tf {b : Bool} (h : b = false) : ¬ b = true := fun e => by rw [h] at e; cases e
def orE (a b : Int) : Int := if a ≠ 0 then a else b
theorem orE_l {a b : Int} (h : a ≠ 0) : orE a b = a := if_pos h
theorem orE_r {a b : Int} (h : a = 0) : orE a b = b := if_neg (fun e => e h)
theorem firstI_zero {n : Nat} {f : Nat → Int} (h : firstI n f = 0) (i : Nat) (hi : i < n) : f i = 0 := by
  unfold firstI at h
  cases hf : (List.range n).find? (fun i => decide (f i ≠ 0)) with
  | none =>
    have := List.find?_eq_none.1 hf i (List.mem_range.2 hi)
    simpa using this
  | some k =>
    rw [hf] at h
    have := List.find?_some hf
    simp only [decide_eq_true_eq] at this
    exact absurd h this
theorem isIn_le {x : Int} {l : List Int} (h : isIn x l) {b : Int} (hb : l.all (fun y => decide (-b ≤ y ∧ y ≤ b)) = true) : -b ≤ x ∧ x ≤ b := by
  have := List.all_eq_true.1 hb x h
  simpa using this
theorem isOf_ok {x : ByteArray} {l : List ByteArray} (h : isOf x l) (hb : l.all (fun y => decide (y.size ≤ 1000)) = true) : x.size ≤ 1000 := by
  have := List.all_eq_true.1 hb x h
  simpa using this
theorem isIn_ok {x : Int} {l : List Int} (h : isIn x l) (hb : l.all (fun y => decide (-1125899906842624 ≤ y ∧ y ≤ 1125899906842624)) = true) : okI x := isIn_le h hb
theorem okL_app {α : Type} {p : α → Prop} {l : List α} {x : α} (h : ∀ y ∈ l, p y) (hx : p x) : ∀ y ∈ l ++ [x], p y := fun y hy => by
  rcases List.mem_append.1 hy with hy | hy
  · exact h y hy
  · rw [List.mem_singleton] at hy; rw [hy]; exact hx
theorem okL_mem {α : Type} {p : α → Prop} {l : List α} {x y : α} (hm : y ∈ l ++ [x]) (h : ∀ y ∈ l, p y) (hx : p x) : p y := okL_app h hx y hm
theorem okL_one {α : Type} {p : α → Prop} {x : α} (hx : p x) : okL p [x] := ⟨by simp, fun y hy => by rw [List.mem_singleton] at hy; rw [hy]; exact hx⟩
theorem okS_of {s : ByteArray} (h : s.size ≤ 1000) : okS s := by unfold okS; omega
theorem odd_ok {q : Int} (h1 : -1099511627776 ≤ q) (h2 : q ≤ 1099511627776) : okI q := ⟨by omega, by omega⟩
theorem all_get {α : Type} {p : α → Prop} {l : List α} {d : α} (h : ∀ x ∈ l, p x) (hd : p d) (i : Nat) : p (l.getD i d) := by
  rw [List.getD_eq_getElem?_getD]
  cases e : l[i]? with
  | none => exact hd
  | some x => exact h x (List.mem_of_getElem? e)
end Go.Avc

namespace Go.Avc
open Go Go.Proofs
def ptsS (k : IntKind) : Spec where
  pre xs := ∃ s : ByteArray, xs = [.str s] ∧ s.size ≤ 1073741824
  post xs r := ∃ s : ByteArray, xs = [.str s] ∧ r = .sl (rowsK k (pts s))
  cost _ := 0
  fresh := true
def ptsJ (s : ByteArray) (p : ByteArray × List Int × Nat) : Prop := p.2.1.length + p.1.size ≤ s.size ∧ p.1.size ≤ p.2.2 ∧ p.2.1 ++ ptsL p.2.2 p.1 = pts s
def rptsSf (p : ByteArray × List Int × Nat) : Sh := ⟨[(0, .str p.1), (3, .own 3)], [(3, .arr 3 1 (rowsK .i64 p.2.1))], 0⟩
theorem rpts_ctr {cx : Cx} (h : Seat cx) (hU : Utf8 cx) : Ctr cx 199 (ptsS .i64) := by
  refine ctr_of (fn := Tryz.f199) (l := [.tmp 2]) (envL [(180, decS)]) [0, 2, 3, 4, 5, 7, 18] [] [] (envL_cons (dec_ctr h hU) (env0 h.hP)) ?_ (by rw [h.hP]; exact Tryz.func199) rfl (by kernel_rfl) rfl ?_ ?_
  · rw [h.hP]; exact ⟨_, Tryz.func199, by kernel_rfl, by kernel_rfl⟩
  · rintro xs ⟨s, rfl, hs⟩; exact ⟨_, s, rfl, rfl⟩
  · rintro xs ⟨s, rfl, hs⟩
    refine ⟨by rw [Tryz.ntmps199]; simp, ?_⟩
    simp only [go_sem, h.hP, ptsS, decS, Tryz.ntmps199, Nat.reduceEqDiff, reduceCtorEq, Nat.reduceMul, Nat.reduceAdd, Nat.reduceSub, Nat.reduceDiv, Nat.reduceMod, Nat.reduceLeDiff, Nat.reduceLT, Nat.reduceBNe, Nat.reduceBEq, reduceIte, Int.reduceLE, Int.reduceLT, Int.reduceToNat, Int.reduceNeg, Int.reduceAdd, Int.reduceSub, Int.reduceMul, Int.reduceEq]
    refine vc_loop _ rptsSf (ptsJ s) (fun p => p.1.size) [(3, 3, 1)] ?_ ?_
    · refine meets_mk _ (s, [], s.size) ⟨by show 0 + s.size ≤ s.size; omega, Nat.le_refl _, rfl⟩ ?_
      simp only [go_sem, h.hP, rptsSf, Tryz.ntmps199, Nat.reduceEqDiff, reduceCtorEq, Nat.reduceMul, Nat.reduceAdd, Nat.reduceSub, Nat.reduceDiv, Nat.reduceMod, Nat.reduceLeDiff, Nat.reduceLT, Nat.reduceBNe, Nat.reduceBEq, reduceIte, Int.reduceLE, Int.reduceLT, Int.reduceToNat, Int.reduceNeg, Int.reduceAdd, Int.reduceSub, Int.reduceMul, Int.reduceEq]
      rfl
    · rintro ⟨t, acc, k⟩ ⟨j1, j2, j3⟩
      simp only at j1 j2 j3
      simp only [go_sem, h.hP, rptsSf, ptsS, decS, str_nil, Tryz.ntmps199, Nat.reduceEqDiff, reduceCtorEq, Nat.reduceMul, Nat.reduceAdd, Nat.reduceSub, Nat.reduceDiv, Nat.reduceMod, Nat.reduceLeDiff, Nat.reduceLT, Nat.reduceBNe, Nat.reduceBEq, reduceIte, Int.reduceLE, Int.reduceLT, Int.reduceToNat, Int.reduceNeg, Int.reduceAdd, Int.reduceSub, Int.reduceMul, Int.reduceEq]
      simp only [rowsK_flat, rowsK_len, rowsK_one, Bool.true_eq_false, if_false, D.sl.injEq, AV.dv.injEq, DV.d.injEq]
      have hr := bt_range t 0
      have hw : t.size ≠ 0 → 1 ≤ wid t ∧ wid t ≤ t.size ∧ (Lib.decodeGo t).1 ≤ 1114111 := wid_ge
      have hx : (t.extract (wid t) t.size).size = t.size - wid t := by rw [ByteArray.size_extract]; omega
      have hb : IntKind.i64.wrap (-1 - IntKind.i64.wrap (bt t 0)) = -1 - bt t 0 := by rw [i64w (n := bt t 0) (by omega) (by omega), i64w (by omega) (by omega)]
      have hd : t.size ≠ 0 → IntKind.i64.wrap ((Lib.decodeGo t).1 : Int) = ((Lib.decodeGo t).1 : Int) := fun hne => i64w (by omega) (by have := hw hne; omega)
      have key : t.size ≠ 0 → ∃ k', k = k' + 1 ∧ (acc ++ [ptOf t]) ++ ptsL k' (t.extract (wid t) t.size) = pts s := fun hne => by
        obtain ⟨k', rfl, hst⟩ := ptsL_step hne j2
        rw [hst] at j3
        exact ⟨k', rfl, by rw [List.append_assoc]; exact j3⟩
      have leaf : ∀ c : Int, t.size ≠ 0 → c = ptOf t → ∀ σ, At 35 [(3, 3, 1)] (rptsSf (t.extract (wid t) t.size, acc ++ [c], k - 1)) σ → Below 35 [(3, 3, 1)] rptsSf (ptsJ s) (fun p => p.1.size) t.size σ := fun c hne hc σ hσ => by
        obtain ⟨k', rfl, hk⟩ := key hne
        have h1 := hw hne
        refine below_mk _ _ ⟨?_, ?_, ?_⟩ ?_ hσ
        · show (acc ++ [c]).length + (t.extract (wid t) t.size).size ≤ s.size
          rw [List.length_append, List.length_singleton]; omega
        · show (t.extract (wid t) t.size).size ≤ k' + 1 - 1; omega
        · show (acc ++ [c]) ++ ptsL k' _ = _
          rw [hc]; exact hk
        · show (t.extract (wid t) t.size).size < t.size; omega
      have hwd : (Lib.decodeGo t).2 = wid t := rfl
      rw [hb, hwd]
      clear key
      refine ⟨fun hne => ?_, fun he => ?_⟩
      · have h1 := hw hne
        rw [hd hne]
        clear hd
        refine ⟨fun c1 => ⟨fun c2 => ?_, fun c2 => ?_⟩, fun c1 => ?_⟩
        · refine ⟨by omega, by omega, by omega, by omega, by omega, by omega, leaf (-1 - bt t 0) hne ?_ _ ?_⟩
          · unfold ptOf; rw [if_pos ⟨c1, c2⟩]
          · simp only [go_sem, h.hP, rptsSf, Tryz.ntmps199, Nat.reduceEqDiff, reduceCtorEq, Nat.reduceMul, Nat.reduceAdd, Nat.reduceSub, Nat.reduceDiv, Nat.reduceMod, Nat.reduceLeDiff, Nat.reduceLT, Nat.reduceBNe, Nat.reduceBEq, reduceIte, Int.reduceLE, Int.reduceLT, Int.reduceToNat, Int.reduceNeg, Int.reduceAdd, Int.reduceSub, Int.reduceMul, Int.reduceEq]
            rw [rowsK_app]
        · refine ⟨by omega, by omega, by omega, by omega, by omega, leaf _ hne (?_ : ((Lib.decodeGo t).1 : Int) = _) _ ?_⟩
          · unfold ptOf; rw [if_neg (fun e => c2 e.2)]
          · simp only [go_sem, h.hP, rptsSf, Tryz.ntmps199, Nat.reduceEqDiff, reduceCtorEq, Nat.reduceMul, Nat.reduceAdd, Nat.reduceSub, Nat.reduceDiv, Nat.reduceMod, Nat.reduceLeDiff, Nat.reduceLT, Nat.reduceBNe, Nat.reduceBEq, reduceIte, Int.reduceLE, Int.reduceLT, Int.reduceToNat, Int.reduceNeg, Int.reduceAdd, Int.reduceSub, Int.reduceMul, Int.reduceEq]
            rw [rowsK_app]
        · refine ⟨by omega, by omega, by omega, by omega, by omega, leaf _ hne (?_ : ((Lib.decodeGo t).1 : Int) = _) _ ?_⟩
          · unfold ptOf; rw [if_neg (fun e => c1 e.1)]
          · simp only [go_sem, h.hP, rptsSf, Tryz.ntmps199, Nat.reduceEqDiff, reduceCtorEq, Nat.reduceMul, Nat.reduceAdd, Nat.reduceSub, Nat.reduceDiv, Nat.reduceMod, Nat.reduceLeDiff, Nat.reduceLT, Nat.reduceBNe, Nat.reduceBEq, reduceIte, Int.reduceLE, Int.reduceLT, Int.reduceToNat, Int.reduceNeg, Int.reduceAdd, Int.reduceSub, Int.reduceMul, Int.reduceEq]
            rw [rowsK_app]
      · rw [ptsL_nil he, List.append_nil] at j3
        rw [j3]
end Go.Avc

namespace Go.Avc
open Go Go.RowKit Go.Proofs

abbrev EvP := TEvent × EvV
def EvP.z : EvP := (TEvent.z, EvV.z)
/-- A world behind w in which the row at block b holds q, and all else (but the stream) is as it was. -/
structure DelX (cx : Cx) (N : Nat) (w : World) (b cap : Nat) (q : List EvP) (W : World) : Prop where
  os : W.os = w.os
  tape : W.tape = w.tape
  out : W.output = w.output
  size : w.heap.size ≤ W.heap.size
  keep : ∀ k, k < w.heap.size → k ≠ b → cx.g ≠ some k → W.heap[k]? = w.heap[k]?
  st : StAt cx N W
  blk : ∃ cur, W.heap[b]? = some (.cells cur 52 (0, 0)) ∧ cur.size = cap * 6
  rows : ∀ j, j < q.length → ∀ c v, (q.getD j EvP.z).2.enc[c]? = some v → W.cell? ⟨b, j * 6 + c, none⟩ = some v
section
variable {cx : Cx} {N : Nat} {w W W' : World} {b cap : Nat} {q : List EvP}
theorem DelX.later (h : DelX cx N w b cap q W) (hb : b < w.heap.size) (hgb : cx.g ≠ some b) (hg : Gr cx.g W W') (hst : StAt cx N W') : DelX cx N w b cap q W' where
  os := hg.os.trans h.os
  tape := hg.tape.trans h.tape
  out := hg.output.trans h.out
  size := Nat.le_trans h.size hg.size
  keep := fun k hk hne hgk => (hg.block k (Nat.lt_of_lt_of_le hk h.size) hgk).trans (h.keep k hk hne hgk)
  st := hst
  blk := by
    obtain ⟨cur, h1, h2⟩ := h.blk
    exact ⟨cur, (hg.block b (Nat.lt_of_lt_of_le hb h.size) hgb).trans h1, h2⟩
  rows := fun j hj c v hv => (cell_congr (a := ⟨b, j * 6 + c, none⟩) (hg.block b (Nat.lt_of_lt_of_le hb h.size) hgb)).trans (h.rows j hj c v hv)
theorem DelX.alloc (h : DelX cx N w b cap q W) (hb : b < w.heap.size) (hgb : cx.g ≠ some b) (o : Obj) : DelX cx N w b cap q (W.alloc o) :=
  h.later hb hgb (Gr.alloc cx.g W o) (h.st.keep (Gr.alloc cx.g W o).size fun k hk => (Gr.alloc none W o).block k hk (by simp))
theorem DelX.at_ (h : DelX cx N w b cap q W) {j : Nat} (hj : j < q.length) {p : EvP} (hp : q.getD j EvP.z = p) : W.cell? ⟨b, j * 6, none⟩ = some (.string p.2.id) ∧ W.cell? ⟨b, j * 6 + 1, none⟩ = some (.string p.2.name) ∧ W.cell? ⟨b, j * 6 + 2, none⟩ = some (.int .i64 p.2.at_) ∧
    W.cell? ⟨b, j * 6 + 3, none⟩ = some (.int .i64 p.2.kind) ∧ W.cell? ⟨b, j * 6 + 4, none⟩ = some (.string p.2.text) ∧ W.cell? ⟨b, j * 6 + 5, none⟩ = some (.slice p.2.A p.2.n p.2.c) := by
  subst hp
  have hc := h.rows j hj
  exact ⟨hc 0 _ rfl, hc 1 _ rfl, hc 2 _ rfl, hc 3 _ rfl, hc 4 _ rfl, hc 5 _ rfl⟩
theorem DelX.frz (h : DelX cx N w b cap q W) (o : Nat) : W.frozen? ⟨b, o, none⟩ = false := by
  obtain ⟨cur, h1, _⟩ := h.blk
  exact frozen_of_row W b o cur _ h1
theorem shape_setC (b : Nat) (t : TypeId) : ∀ (vs : List Value) (o : Nat) (W : World) (cur : Array Value), W.heap[b]? = some (.cells cur t (0, 0)) → ∃ cur', (W.setCells b o vs).heap[b]? = some (.cells cur' t (0, 0)) ∧ cur'.size = cur.size
  | [], _, _, cur, h => ⟨cur, h, rfl⟩
  | v :: r, o, W, cur, h => by
    obtain ⟨cur', h1, h2⟩ := shape_setC b t r (o + 1) (W.setCell ⟨b, o, none⟩ v) _ (heap_setCell_same W b o cur t v h)
    exact ⟨cur', h1, by rw [h2]; simp⟩
theorem DelX.wrote (h : DelX cx N w b cap q W) (hgb : ∀ g, cx.g = some g → g < b) (o : Nat) (vs : List Value) {q' : List EvP} (hr : ∀ j, j < q'.length → ∀ c v, (q'.getD j EvP.z).2.enc[c]? = some v → (W.setCells b o vs).cell? ⟨b, j * 6 + c, none⟩ = some v) : DelX cx N w b cap q' (W.setCells b o vs) := by
  obtain ⟨h1, h2, h3, h4, h5⟩ := setCells_keep b vs o W
  obtain ⟨cur, e1, e2⟩ := h.blk
  obtain ⟨cur', e3, e4⟩ := shape_setC b _ vs o W cur e1
  exact ⟨h1.trans h.os, h2.trans h.tape, h3.trans h.out, h4.symm ▸ h.size, fun j hj hne hg => (h5 j hne).trans (h.keep j hj hne hg), h.st.keep2 (Nat.le_of_eq h4.symm) (fun g b' hg hle => h5 b' (by have := hgb g hg; omega)), ⟨cur', e3, e4.trans e2⟩, hr⟩
theorem DelX.cut (h : DelX cx N w b cap q W) (hgb : ∀ g, cx.g = some g → g < b) {k : Nat} (hk : k ≤ q.length) (vs : List Value) : DelX cx N w b cap (q.take k) (W.setCells b (k * 6) vs) := by
  refine h.wrote hgb _ _ fun j hj c v hv => ?_
  rw [List.length_take] at hj
  have hc : c < 6 := (List.getElem?_eq_some_iff.1 hv).1
  rw [World.cell?_setCells_out b _ _ _ _ (fun _ _ => .inl (by show j * 6 + c < k * 6; omega))]
  refine h.rows j (by omega) c v ?_
  rwa [List.getD_eq_getElem?_getD, List.getElem?_take_of_lt (by omega), ← List.getD_eq_getElem?_getD] at hv
theorem DelX.store (h : DelX cx N w b cap q W) (hgb : ∀ g, cx.g = some g → g < b) {i : Nat} (hi : i < q.length) (p : EvP) : DelX cx N w b cap (q.set i p) (W.setCells b (i * 6) p.2.enc) := by
  refine h.wrote hgb _ _ fun j hj c v hv => ?_
  rw [List.length_set] at hj
  have hc : c < 6 := (List.getElem?_eq_some_iff.1 hv).1
  by_cases e : i = j
  · subst e
    rw [List.getD_eq_getElem?_getD, List.getElem?_set_self hi] at hv
    refine in_at (fun c hc => ?_) hv
    have hc : c < 6 := hc
    rw [h.rows i hi c _ (List.getElem?_eq_getElem (show c < (q.getD i EvP.z).2.enc.length from hc))]
    rfl
  · rw [List.getD_eq_getElem?_getD, List.getElem?_set_ne e, ← List.getD_eq_getElem?_getD] at hv
    rw [World.cell?_setCells_out b _ _ _ _ (fun _ _ => by show j * 6 + c < i * 6 ∨ i * 6 + 6 ≤ j * 6 + c; omega)]
    exact h.rows j hj c v hv
theorem DelX.clear (h : DelX cx N w b cap q W) {k : Nat} (hk : k < q.length) (c : Nat) : ∃ vs, (Builtin.clear_ #[26] 0 #[.slice (some ⟨b, k * 6, none⟩) (q.length - k) c]).run Tryz.prog W = .ok (.tuple #[]) (W.setCells b (k * 6) vs) := by
  have hz : ∀ W, (zeroValue 52).run Tryz.prog W = .ok (.agg #[.string ⟨#[]⟩, .string ⟨#[]⟩, .int .i64 0, .int .i64 0, .string ⟨#[]⟩, .slice none 0 0]) W := fun W => by
    obtain ⟨i0, hi, hz0, hz1, hz2⟩ := info_parts (P := Tryz.prog) (e := 52) (z := .agg #[.string ⟨#[]⟩, .string ⟨#[]⟩, .int .i64 0, .int .i64 0, .string ⟨#[]⟩, .slice none 0 0]) (size := 6) (bytes := 88) (by kernel_rfl)
    simp only [zeroValue, run_typeInfo W hi, hz0, Sem.run_bind, Result.andThen_ok]
    rfl
  obtain ⟨m, hm⟩ : ∃ m, q.length - k = m + 1 := ⟨q.length - k - 1, by omega⟩
  refine ⟨(Builtin.zeroCells #[.string ⟨#[]⟩, .string ⟨#[]⟩, .int .i64 0, .int .i64 0, .string ⟨#[]⟩, .slice none 0 0] (q.length - k)).toList, ?_⟩
  have hl : (Builtin.zeroCells #[.string ⟨#[]⟩, .string ⟨#[]⟩, .int .i64 0, .int .i64 0, .string ⟨#[]⟩, .slice none 0 0] (q.length - k)).toList.length = (q.length - k) * 6 := by
    simp [Builtin.zeroCells]
  have hst := run_storeCells_cells (P := Tryz.prog) b (k * 6) (Builtin.zeroCells #[.string ⟨#[]⟩, .string ⟨#[]⟩, .int .i64 0, .int .i64 0, .string ⟨#[]⟩, .slice none 0 0] (q.length - k)).toList 0 W (fun j hj => by
      rw [hl] at hj
      have hj6 : j % 6 < 6 := Nat.mod_lt _ (by decide)
      have := h.rows (k + j / 6) (by omega) (j % 6) _ (List.getElem?_eq_getElem (show j % 6 < (q.getD (k + j / 6) EvP.z).2.enc.length from hj6))
      rw [show k * 6 + 0 + j = (k + j / 6) * 6 + j % 6 by omega, this]
      rfl) (fun j hj => h.frz _) (fun v hv => by
      simp only [Builtin.zeroCells, Array.toList_map, List.mem_map] at hv
      obtain ⟨i, _, rfl⟩ := hv
      exact zero_one _ (Nat.mod_lt _ (by decide)))
  rw [Nat.add_zero] at hst
  rw [hm] at hst ⊢
  simp [Builtin.clear_, run_underlying Tryz.underlying26, hz, Value.cells, hst]
end
/-- What is asked of the predicate: it answers P, in every world of the walk. -/
def PredX (cx : Cx) (N : Nat) (w : World) (b cap g : Nat) (caps : Array Value) (ps : List EvP) (P : EvP → Bool) : Prop :=
  ∀ p ∈ ps, ∀ (q : List EvP) (W : World), DelX cx N w b cap q W → Calls Tryz.prog g (#[.agg p.2.enc.toArray] ++ caps) W fun e W' => e = .returned (.bool (P p)) ∧ Gr cx.g W W' ∧ StAt cx N W'
set_option maxHeartbeats 4000000 in
theorem idxX_walk {cx : Cx} {N : Nat} {w : World} {b cap g : Nat} {caps : Array Value} {ps : List EvP} {P : EvP → Bool} (hb : b < w.heap.size) (hgb : cx.g ≠ some b) (hn : ps.length ≤ 1048576) (h0 : DelX cx N w b cap ps w) (eg : ∀ args w, (callFunc g args).run Tryz.prog w = .ok (.enter g args) w)
    (hp : PredX cx N w b cap g caps ps P) :
    Calls Tryz.prog 87 #[.slice (some ⟨b, 0, none⟩) ps.length cap, .func (.func g) #[] caps] w fun e W => ∃ i : Int, e = .returned (.int .i64 i) ∧ ((i = -1 ∧ ∀ j, j < ps.length → P (ps.getD j EvP.z) = false) ∨ (0 ≤ i ∧ i < ps.length ∧ P (ps.getD i.toNat EvP.z) = true ∧ ∀ j : Nat, (j : Int) < i → P (ps.getD j EvP.z) = false)) ∧ DelX cx N w b cap ps W := by
  go_enter Tryz.func87, Tryz.ntmps87
  go_wp2
  go_loopw [8] (fun i wr => ∃ k : Nat, k ≤ ps.length ∧ i = .int .i64 (k : Int) ∧ DelX cx N w b cap ps wr ∧ ∀ j, j < k → P (ps.getD j EvP.z) = false) (fun i _ => ps.length - (ivD i).toNat)
  case atStart => exact ⟨0, Nat.zero_le _, rfl, h0, fun j hj => by omega⟩
  case round =>
    obtain ⟨k, hk, rfl, hd, hall⟩ := hrel
    by_cases hlt : k < ps.length
    · have hm : ps.getD k EvP.z ∈ ps := by
        rw [List.getD_eq_getElem?_getD, List.getElem?_eq_getElem hlt]
        exact List.getElem_mem hlt
      obtain ⟨c0, c1, c2, c3, c4, c5⟩ := hd.at_ hlt rfl
      have hcall := hp _ hm ps wr hd
      generalize hpp : ps.getD k EvP.z = p at c0 c1 c2 c3 c4 c5 hcall
      have A : Aside (ps.getD k EvP.z = p ∧ ∀ j, j < k → P (ps.getD j EvP.z) = false) := ⟨hpp, hall⟩
      clear hpp hall
      rw [show p.2.enc.toArray = #[.string p.2.id, .string p.2.name, .int .i64 p.2.at_, .int .i64 p.2.kind, .string p.2.text, .slice p.2.A p.2.n p.2.c] from rfl] at hcall
      go_wp2_with (go_at_fn g; refine hcall.mono ?_; rintro e w' ⟨rfl, hg, hst⟩; cases hq : P p)
      · go_roundw
        case rel =>
          refine ⟨k + 1, by omega, by simp, hd.later hb hgb hg hst, fun j hj => ?_⟩
          by_cases e : j = k
          · rw [e, A.out.1]; exact hq
          · exact A.out.2 j (by omega)
        case measure => simp [ivD] <;> omega
      · go_ret
        exact ⟨k, rfl, .inr ⟨by omega, by omega, by rw [Int.toNat_natCast, A.out.1]; exact hq, fun j hj => A.out.2 j (by omega)⟩, hd.later hb hgb hg hst⟩
    · obtain rfl : k = ps.length := by omega
      go_wp2
      go_ret
      exact ⟨-1, rfl, .inl ⟨rfl, hall⟩, hd⟩
theorem ftake {f : EvP → Bool} {ps : List EvP} {m : Nat} (hm : m < ps.length) : (ps.take (m + 1)).filter f = (ps.take m).filter f ++ if f (ps.getD m EvP.z) = true then [ps.getD m EvP.z] else [] := by
  rw [List.take_add_one, List.getElem?_eq_getElem hm, List.getD_eq_getElem?_getD, List.getElem?_eq_getElem hm, List.filter_append]
  show _ ++ List.filter f [ps[m]] = _ ++ if f ps[m] = true then [ps[m]] else []
  cases h : f ps[m]
  · rw [List.filter_cons_of_neg (by rw [h]; decide)]; rfl
  · rw [List.filter_cons_of_pos h]; rfl
set_option maxHeartbeats 8000000 in
theorem delX_walk {cx : Cx} {N : Nat} {w : World} {b cap g : Nat} {caps : Array Value} {ps : List EvP} {P : EvP → Bool} (hb : b < w.heap.size) (hgb : ∀ g', cx.g = some g' → g' < b) (hn : ps.length ≤ 1048576) (hcap : ps.length ≤ cap) (h0 : DelX cx N w b cap ps w) (eg : ∀ args w, (callFunc g args).run Tryz.prog w = .ok (.enter g args) w)
    (hp : PredX cx N w b cap g caps ps P) :
    Calls Tryz.prog 37 #[.slice (some ⟨b, 0, none⟩) ps.length cap, .func (.func g) #[] caps] w fun e W => e = .returned (.slice (some ⟨b, 0, none⟩) (ps.filter fun p => !P p).length cap) ∧ DelX cx N w b cap (ps.filter fun p => !P p) W := by
  have hgb1 : cx.g ≠ some b := fun e => by have := hgb b e; omega
  go_enter Tryz.func37, Tryz.ntmps37
  go_wp2_with (go_at_call 87; refine (idxX_walk (cap := cap) hb hgb1 hn h0 eg hp).mono ?_; rintro e w1 ⟨i0, rfl, ⟨hi0, hall⟩ | ⟨hi0, hi1, hit, hbf⟩, hd1⟩)
  · subst hi0
    have hf : ps.filter (fun p => !P p) = ps := by
      rw [List.filter_eq_self]
      intro p hp
      obtain ⟨j, hj, rfl⟩ := List.mem_iff_getElem.1 hp
      have := hall j hj
      rw [List.getD_eq_getElem?_getD, List.getElem?_eq_getElem hj] at this
      simpa using this
    have A : Aside (ps.filter (fun p => !P p) = ps) := hf
    clear hf hall hp
    go_wp2
    go_ret
    rw [show ps.filter (fun p => !P p) = ps from A]
    exact ⟨rfl, hd1⟩
  · obtain ⟨k0, rfl⟩ : ∃ k : Nat, i0 = k := ⟨i0.toNat, by omega⟩
    have hst : (ps.take (k0 + 1)).filter (fun p => !P p) = ps.take k0 := by
      rw [ftake (by omega), Int.toNat_natCast] at *
      rw [hit, if_neg (by decide), List.append_nil, List.filter_eq_self]
      intro p hp
      obtain ⟨j, hj, rfl⟩ := List.mem_iff_getElem.1 hp
      rw [List.length_take] at hj
      have := hbf j (by omega)
      rw [List.getD_eq_getElem?_getD, List.getElem?_eq_getElem (by omega)] at this
      rw [List.getElem_take]
      simpa using this
    have A : Aside ((ps.take (k0 + 1)).filter (fun p => !P p) = ps.take k0) := hst
    clear hst hbf hit
    go_wp2
    go_loopw [5, 6] (fun i j wr => ∃ (k m : Nat) (q : List EvP), k < m ∧ m ≤ ps.length ∧ i = .int .i64 (k : Int) ∧ j = .int .i64 (m : Int) ∧ DelX cx N w b cap q wr ∧ q.length = ps.length ∧ ((ps.take m).filter fun p => !P p).length = k ∧ q.take k = (ps.take m).filter (fun p => !P p) ∧ ∀ j, m ≤ j → q.getD j EvP.z = ps.getD j EvP.z) (fun i j _ => ps.length - (ivD j).toNat)
    case atStart => exact ⟨k0, k0 + 1, ps, by omega, by omega, rfl, by simp, hd1, rfl, by rw [show (ps.take (k0 + 1)).filter (fun p => !P p) = ps.take k0 from A, List.length_take]; omega, (show (ps.take (k0 + 1)).filter (fun p => !P p) = ps.take k0 from A).symm, fun _ _ => rfl⟩
    case round =>
      obtain ⟨k, m, q, hk, hm, rfl, rfl, hd, hql, hfl, hft, hge⟩ := hrel
      by_cases hlt : m < ps.length
      · have hmem : ps.getD m EvP.z ∈ ps := by
          rw [List.getD_eq_getElem?_getD, List.getElem?_eq_getElem hlt]
          exact List.getElem_mem hlt
        obtain ⟨c0, c1, c2, c3, c4, c5⟩ := hd.at_ (j := m) (by omega) (hge m (Nat.le_refl _))
        have hcall := fun q W hW => hp _ hmem q W hW
        have hstep := ftake (f := fun p => !P p) hlt
        generalize hpp : ps.getD m EvP.z = p at c0 c1 c2 c3 c4 c5 hcall hstep
        have B : Aside (q.length = ps.length ∧ ((ps.take m).filter fun p => !P p).length = k ∧ q.take k = (ps.take m).filter (fun p => !P p) ∧ (∀ j, m ≤ j → q.getD j EvP.z = ps.getD j EvP.z) ∧ (ps.take (m + 1)).filter (fun p => !P p) = (ps.take m).filter (fun p => !P p) ++ if (!P p) = true then [p] else []) := ⟨hql, hfl, hft, hge, hstep⟩
        rw [show p.2.enc.toArray = #[.string p.2.id, .string p.2.name, .int .i64 p.2.at_, .int .i64 p.2.kind, .string p.2.text, .slice p.2.A p.2.n p.2.c] from rfl] at hcall
        have hdA := hd.alloc hb hgb1 (Obj.cells #[.string p.2.id, .string p.2.name, .int .i64 p.2.at_, .int .i64 p.2.kind, .string p.2.text, .slice p.2.A p.2.n p.2.c] 52)
        have hB := heap_alloc_new wr (Obj.cells #[.string p.2.id, .string p.2.name, .int .i64 p.2.at_, .int .i64 p.2.kind, .string p.2.text, .slice p.2.A p.2.n p.2.c] 52)
        have hsz : wr.heap.size < (wr.alloc (Obj.cells #[.string p.2.id, .string p.2.name, .int .i64 p.2.at_, .int .i64 p.2.kind, .string p.2.text, .slice p.2.A p.2.n p.2.c] 52)).heap.size := by simp
        have hgs : cx.g ≠ some wr.heap.size := fun e => by have := hd.st.lt e; omega
        have hkn : k < q.length := by omega
        clear hql hfl hft hge hstep hpp hmem
        go_wp2_with (go_at_fn g; refine (hcall q _ hdA).mono ?_; rintro e w' ⟨rfl, hgr, hst2⟩; have hd2 := hdA.later hb hgb1 hgr hst2; obtain ⟨d0, d1, d2, d3, d4, d5⟩ := hd2.at_ (j := k) hkn rfl; have f0 := hd2.frz (k * 6); have f1 := hd2.frz (k * 6 + 1); have f2 := hd2.frz (k * 6 + 2); have f3 := hd2.frz (k * 6 + 3); have f4 := hd2.frz (k * 6 + 4); have f5 := hd2.frz (k * 6 + 5); have hB' := (hgr.block _ hsz hgs).trans hB; generalize q.getD k EvP.z = old at d0 d1 d2 d3 d4 d5; clear hcall hp hdA hB hgr hst2 hd; obtain ⟨e0, e1, e2, e3, e4, e5⟩ := box_at hB'; cases hq : P p)
        · refine ⟨⟨_, _, _, _, _, _, _, _, _, _, _, _, _, _, _, _, _, _, _, _, _, _, _, ⟨k + 1, m + 1, q.set k p, by omega, by omega, by simp, by simp, ?_, ?_, ?_, ?_, ?_⟩, rfl⟩, ?_⟩
          · exact hd2.store hgb hkn p
          · rw [List.length_set]; exact B.out.1
          · rw [B.out.2.2.2.2, hq, if_pos (by decide), List.length_append, B.out.2.1]; rfl
          · rw [B.out.2.2.2.2, hq, if_pos (by decide), ← B.out.2.2.1, List.take_add_one, List.take_set, List.set_eq_of_length_le (by rw [List.length_take]; omega), List.getElem?_set_self hkn]
            rfl
          · intro j hj
            rw [List.getD_eq_getElem?_getD, List.getElem?_set_ne (by omega), ← List.getD_eq_getElem?_getD]
            exact B.out.2.2.2.1 j (by omega)
          · simp [ivD] <;> omega
        · refine ⟨⟨_, _, _, _, _, _, _, _, _, _, _, _, _, _, _, _, _, _, _, _, _, _, _, ⟨k, m + 1, q, by omega, by omega, rfl, by simp, hd2, B.out.1, ?_, ?_, fun j hj => B.out.2.2.2.1 j (by omega)⟩, rfl⟩, ?_⟩
          · rw [B.out.2.2.2.2, hq, if_neg (by decide), List.append_nil]; exact B.out.2.1
          · rw [B.out.2.2.2.2, hq, if_neg (by decide), List.append_nil]; exact B.out.2.2.1
          · simp [ivD] <;> omega
      · obtain rfl : m = ps.length := by omega
        rw [List.take_length] at hfl hft
        obtain ⟨vs, hcl⟩ := hd.clear (k := k) (by omega) (cap - k)
        rw [hql] at hcl
        have hkc : ¬ cap < k := by omega
        have hkc' : k ≤ cap := by omega
        have C : Aside ((ps.filter fun p => !P p).length = k ∧ DelX cx N w b cap (ps.filter fun p => !P p) (wr.setCells b (k * 6) vs)) := ⟨hfl, by rw [← hft]; exact hd.cut hgb (by omega) vs⟩
        clear hfl hft hge hp hd
        go_wp2
        go_ret
        rw [C.out.1]
        exact ⟨rfl, C.out.2⟩
end Go.Avc

namespace Go.Avc
open Go Go.Proofs

theorem ewithin_ctr {cx : Cx} (h : Seat cx) : Ctr cx 56 inS := by
  refine ctr_of (fn := Tryz.f56) (l := [.tmp 6]) (envL []) [0, 1, 2, 6] [] [] (env0 h.hP) ?_ (by rw [h.hP]; exact Tryz.func56) rfl (by kernel_rfl) rfl ?_ ?_
  · rw [h.hP]; exact ⟨_, Tryz.func56, by kernel_rfl, by kernel_rfl⟩
  · rintro xs ⟨n, a, b, rfl⟩; exact ⟨_, n, a, b, rfl, rfl⟩
  · rintro xs ⟨n, a, b, rfl⟩
    refine ⟨by rw [Tryz.ntmps56]; simp, ?_⟩
    simp only [go_sem, h.hP, List.cons_append, List.nil_append, Meets_e, Below_e, Prod.exists, exists_eq, exists_eq_left, exists_eq_left', exists_eq_right, exists_eq_right', exists_and_left, exists_and_right, Ob.arr.injEq, AV.own.injEq, AV.fv.injEq, inS_q, inS_p, inS_c, inS_f, Tryz.ntmps56, Nat.reduceEqDiff, reduceCtorEq, Nat.reduceMul, Nat.reduceAdd, Nat.reduceSub, Nat.reduceDiv, Nat.reduceMod, Nat.reduceLeDiff, Nat.reduceLT, Nat.reduceBNe, Nat.reduceBEq, reduceIte, Int.reduceLE, Int.reduceLT, Int.reduceToNat, Int.reduceNeg, Int.reduceAdd, Int.reduceSub, Int.reduceMul, Int.reduceEq]
    grind [inB]
end Go.Avc

namespace Go.Avc
open Go Go.Proofs

/-! ### Functions that ask of one or two variables -/
def c1S {α : Type} (row : α → List D) (ok : α → Prop) (F : α → Int) : Spec where
  pre xs := ∃ a, xs = [.dp (row a)] ∧ ok a
  post xs r := ∃ a, xs = [.dp (row a)] ∧ r = .i (F a)
  cost _ := 0
  fresh := true
def c1Φ {α : Type} (row : α → List D) (ok : α → Prop) (F : α → Int) (caps : List (List D)) : FSpec where
  pre xs := ∃ a, caps = [row a] ∧ xs = [] ∧ ok a
  post xs r := ∃ a, caps = [row a] ∧ xs = [] ∧ r = .d (.int .i64 (F a))
section
variable {α : Type} {row : α → List D} {ok : α → Prop} {F : α → Int}
theorem c1_of (inj : ∀ {a b}, row a = row b → a = b) {cx : Cx} {fn : FuncId} (h : Ctr cx fn (c1S row ok F)) (caps : List (List D)) : Ctr cx fn (clo (c1Φ row ok F) caps) := by
  refine h.weaken (fun xs hx => ?_) (fun xs r hx hr => ?_) (fun _ => Nat.le_refl _) rfl
  · obtain ⟨ys, rfl, a, rfl, rfl, h1⟩ := hx
    exact ⟨a, rfl, h1⟩
  · obtain ⟨ys, rfl, a, rfl, rfl, h1⟩ := hx
    obtain ⟨b, q, rfl⟩ := hr
    simp only [List.map_cons, List.map_nil, List.nil_append, List.cons.injEq, AV.dp.injEq, and_true] at q
    obtain rfl := inj q
    exact ⟨_, _, rfl, rfl, a, rfl, rfl, rfl⟩
theorem c1_pre (inj : ∀ {a b}, row a = row b → a = b) (a : α) : (c1Φ row ok F [row a]).pre [] = ok a := propext ⟨fun ⟨b, q, _, h⟩ => by
  simp only [List.cons.injEq, and_true] at q
  obtain rfl := inj q
  exact h, fun h => ⟨a, rfl, rfl, h⟩⟩
theorem c1_post (inj : ∀ {a b}, row a = row b → a = b) (a : α) (y : DV) : (c1Φ row ok F [row a]).post [] y = (y = .d (.int .i64 (F a))) := propext ⟨fun ⟨b, q, _, h⟩ => by
  simp only [List.cons.injEq, and_true] at q
  obtain rfl := inj q
  exact h, fun h => ⟨a, rfl, rfl, h⟩⟩
theorem c1S_c (xs : List AV) : (c1S row ok F).cost xs = 0 := nr rfl
theorem c1S_f : (c1S row ok F).fresh = true := nr rfl
end
end Go.Avc

namespace Go.Avc
open Go Go.Proofs

theorem enc_le (n : Int) : (Utf8.encode n).size ≤ 4 := by
  unfold Utf8.encode
  simp only
  generalize (if Utf8.valid n = true then n.toNat else Utf8.runeError) = c
  split
  · exact (by decide : (1 : Nat) ≤ 4)
  · split
    · exact (by decide : (2 : Nat) ≤ 4)
    · split
      · exact (by decide : (3 : Nat) ≤ 4)
      · exact (by decide : (4 : Nat) ≤ 4)
def changedS : Spec where
  pre xs := ∃ t u : ByteArray, xs = [.st, .str t, .str u] ∧ t.size ≤ 1073741824 ∧ u.size ≤ 1073741824
  post xs r := ∃ t u v : ByteArray, xs = [.st, .str t, .str u] ∧ v.size ≤ t.size + u.size + 4 ∧ r = .str v
  cost _ := 3
  fresh := true
theorem changed_ctr {cx : Cx} (h : Seat cx) : Ctr cx 126 changedS := by
  refine ctr_of (fn := Tryz.f126) (l := [.tmp 6]) (envL [(55, nextS)]) [0, 1, 2, 6, 7, 8, 14, 27, 28, 42] [] [] (envL_cons (next_ctr cx h.hP h.hS) (env0 h.hP)) ?_ (by rw [h.hP]; exact Tryz.func126) rfl (by kernel_rfl) rfl ?_ ?_
  · rw [h.hP]; exact ⟨_, Tryz.func126, by kernel_rfl, by kernel_rfl⟩
  · rintro xs ⟨t, u, rfl, h1, h2⟩; exact ⟨_, t, u, ⟨#[]⟩, rfl, Nat.zero_le _, rfl⟩
  · rintro xs ⟨t, u, rfl, h1, h2⟩
    refine ⟨by rw [Tryz.ntmps126]; simp, ?_⟩
    simp only [go_sem, h.hP, changedS, nextS, str_nil, Tryz.ntmps126, Nat.reduceEqDiff, reduceCtorEq, Nat.reduceMul, Nat.reduceAdd, Nat.reduceSub, Nat.reduceDiv, Nat.reduceMod, Nat.reduceLeDiff, Nat.reduceLT, Nat.reduceBNe, Nat.reduceBEq, reduceIte, Int.reduceLE, Int.reduceLT, Int.reduceToNat, Int.reduceNeg, Int.reduceAdd, Int.reduceSub, Int.reduceMul, Int.reduceEq]
    refine ⟨fun c1 => ⟨fun c2 => by omega, fun c2 => ⟨by omega, fun a h3 h4 => ⟨by omega, fun b h5 h6 => ⟨by omega, by omega, fun q h7 h8 => ?_⟩⟩⟩⟩, fun c1 => by omega⟩
    obtain ⟨ha0, ha1⟩ := h3 (by omega)
    have he := enc_le (IntKind.i32.wrap (bt u b))
    rw [i64w (n := a + 1) (by omega) (by omega)]
    simp only [ByteArray.size_extract]
    clear h3 h4 h5 h6
    (repeat' (first | with_reducible apply And.intro | with_reducible intro)) <;> omega
end Go.Avc

namespace Go.Avc
open Go Go.Proofs

def wrongS  : Spec where
  pre xs := ∃ (l : List Int), xs = [.sl (intsD l)] ∧ (l.length ≤ 1048576)
  post xs y := ∃ (l : List Int), xs = [.sl (intsD l)] ∧ y = .i (firstI l.length fun i => l.getD i 0)
  cost _ := 0
  fresh := true
theorem wrongS_c  (xs : List AV) : (wrongS).cost xs = 0 := nr rfl
theorem wrongS_f  : (wrongS).fresh = true := nr rfl
theorem wrongS_q  (l : List Int) : (wrongS).pre [.sl (intsD l)] = (l.length ≤ 1048576) := propext ⟨fun h => by
  have h' : ∃ (l' : List Int), ([.sl (intsD l)] : List AV) = [.sl (intsD l')] ∧ (l'.length ≤ 1048576) := h
  obtain ⟨l', e, h⟩ := h'
  simp only [List.cons.injEq, AV.dv.injEq, AV.dp.injEq, AV.fv.injEq, DV.d.injEq, DV.ag.injEq, D.int.injEq, D.str.injEq, D.bool.injEq, D.sl.injEq, true_and, and_true, intsDi_inj, rowsT_inj, rowsKi_inj] at e
  obtain rfl := e
  exact h, fun h => ⟨l, rfl, h⟩⟩
theorem wrongS_p  (l : List Int) : (wrongS).post [.sl (intsD l)] = fun y => y = .i (firstI l.length fun i => l.getD i 0) := funext fun y => propext ⟨fun h => by
  have h' : ∃ (l' : List Int), ([.sl (intsD l)] : List AV) = [.sl (intsD l')] ∧ y = .i (firstI l'.length fun i => l'.getD i 0) := h
  obtain ⟨l', e, h⟩ := h'
  simp only [List.cons.injEq, AV.dv.injEq, AV.dp.injEq, AV.fv.injEq, DV.d.injEq, DV.ag.injEq, D.int.injEq, D.str.injEq, D.bool.injEq, D.sl.injEq, true_and, and_true, intsDi_inj, rowsT_inj, rowsKi_inj] at e
  obtain rfl := e
  exact h, fun h => ⟨l, rfl, h⟩⟩
theorem wrongOr_ctr {cx : Cx} (h : Seat cx) : Ctr cx 21 wrongS := by
  refine ctr_of (fn := Tryz.f21) (l := [.tmp 2]) (envL []) [0, 2, 4, 5, 6, 7, 8, 12] [] [] (env0 h.hP) ?_ (by rw [h.hP]; exact Tryz.func21) rfl (by kernel_rfl) rfl ?_ ?_
  · rw [h.hP]; exact ⟨_, Tryz.func21, by kernel_rfl, by kernel_rfl⟩
  · rintro xs ⟨l, rfl, h1⟩; exact ⟨_, l, rfl, rfl⟩
  · rintro xs ⟨l, rfl, h1⟩
    refine ⟨by rw [Tryz.ntmps21]; simp, ?_⟩
    simp only [go_sem, h.hP, List.cons_append, List.nil_append, Meets_e, Below_e, Prod.exists, exists_eq, exists_eq_left, exists_eq_left', exists_eq_right, exists_eq_right', exists_and_left, exists_and_right, Ob.arr.injEq, AV.own.injEq, AV.fv.injEq, wrongS_q, wrongS_p, wrongS_c, wrongS_f, intsD_len, Tryz.ntmps21, Nat.reduceEqDiff, reduceCtorEq, Nat.reduceMul, Nat.reduceAdd, Nat.reduceSub, Nat.reduceDiv, Nat.reduceMod, Nat.reduceLeDiff, Nat.reduceLT, Nat.reduceBNe, Nat.reduceBEq, reduceIte, Int.reduceLE, Int.reduceLT, Int.reduceToNat, Int.reduceNeg, Int.reduceAdd, Int.reduceSub, Int.reduceMul, Int.reduceEq]
    refine vc_loopS (Int) (fun (i : Int) => [(7, .i i)]) [] (fun (i : Int) => []) (fun (i : Int) => []) (fun (i : Int) => 0) (fun (i : Int) => Rounds l.length (fun i => l.getD i 0) i) (fun (i : Int) => (l.length - i).toNat) [] ?_ ?_
    · simp only [go_sem, h.hP, List.cons_append, List.nil_append, Meets_e, Below_e, Prod.exists, exists_eq, exists_eq_left, exists_eq_left', exists_eq_right, exists_eq_right', exists_and_left, exists_and_right, Ob.arr.injEq, AV.own.injEq, AV.fv.injEq, Tryz.ntmps21, Nat.reduceEqDiff, reduceCtorEq, Nat.reduceMul, Nat.reduceAdd, Nat.reduceSub, Nat.reduceDiv, Nat.reduceMod, Nat.reduceLeDiff, Nat.reduceLT, Nat.reduceBNe, Nat.reduceBEq, reduceIte, Int.reduceLE, Int.reduceLT, Int.reduceToNat, Int.reduceNeg, Int.reduceAdd, Int.reduceSub, Int.reduceMul, Int.reduceEq]
      exact Rounds.start
    · rintro i hr
      obtain ⟨hi, hS, hM, hE, hN⟩ := hr.use (by omega)
      simp only [go_sem, h.hP, List.cons_append, List.nil_append, Meets_e, Below_e, Prod.exists, exists_eq, exists_eq_left, exists_eq_left', exists_eq_right, exists_eq_right', exists_and_left, exists_and_right, Ob.arr.injEq, AV.own.injEq, AV.fv.injEq, wrongS_q, wrongS_p, wrongS_c, wrongS_f, intsD_len, intsD_get, Tryz.ntmps21, Nat.reduceEqDiff, reduceCtorEq, Nat.reduceMul, Nat.reduceAdd, Nat.reduceSub, Nat.reduceDiv, Nat.reduceMod, Nat.reduceLeDiff, Nat.reduceLT, Nat.reduceBNe, Nat.reduceBEq, reduceIte, Int.reduceLE, Int.reduceLT, Int.reduceToNat, Int.reduceNeg, Int.reduceAdd, Int.reduceSub, Int.reduceMul, Int.reduceEq]
      refine ⟨fun c => ⟨hi, c, fun d => (hE _ c rfl d).symm, fun d => ⟨hS c d, hM c⟩⟩, fun c => (hN c).symm⟩
theorem wrong_two (a b : Int) : (firstI 2 fun i => [a, b].getD i 0) = orE a b := by
  unfold orE
  by_cases h : a ≠ 0
  · rw [if_pos h]
    exact firstI_at (n := 2) (f := fun i => [a, b].getD i 0) (i := 0) (by decide) (by decide) (fun j hj => by omega) h
  · rw [if_neg h]
    have h0 : ∀ j : Nat, (j : Int) < 1 → [a, b].getD j 0 = 0 := fun j hj => by
      obtain rfl : j = 0 := by omega
      exact Decidable.not_not.1 h
    by_cases h2 : b ≠ 0
    · exact firstI_at (n := 2) (f := fun i => [a, b].getD i 0) (i := 1) (by decide) (by decide) h0 h2
    · rw [firstI_no (n := 2) (f := fun i => [a, b].getD i 0) (i := 2) (fun j hj => ?_) (by decide), Decidable.not_not.1 h2]
      by_cases hj1 : (j : Int) < 1
      · exact h0 j hj1
      · obtain rfl : j = 1 := by omega
        exact Decidable.not_not.1 h2
end Go.Avc

namespace Go.Avc
open Go Go.Proofs

def repL (s : ByteArray) (c : Int) : ByteArray := ⟨(Lib.repeatL s.data.toList c.toNat).toArray⟩
theorem repL_size (s : ByteArray) {c : Int} (h : 0 ≤ c) : ((repL s c).size : Int) = c * s.size := by
  show (((Lib.repeatL s.data.toList c.toNat).toArray.size : Nat) : Int) = _
  rw [List.size_toArray, Lib.repeatL_length, Array.length_toList, Int.natCast_mul, Int.toNat_of_nonneg h]
  rfl
def rep2S  : Spec where
  pre xs := ∃ (s : ByteArray) (c : Int), xs = [.str s, .i c] ∧ (0 ≤ c ∧ c ≤ 1000 ∧ s.size ≤ 1000000)
  post xs y := ∃ (s : ByteArray) (c : Int), xs = [.str s, .i c] ∧ y = .str (repL s c)
  cost _ := 0
  fresh := true
theorem rep2S_c  (xs : List AV) : (rep2S).cost xs = 0 := nr rfl
theorem rep2S_f  : (rep2S).fresh = true := nr rfl
theorem rep2S_q  (s : ByteArray) (c : Int) : (rep2S).pre [.str s, .i c] = (0 ≤ c ∧ c ≤ 1000 ∧ s.size ≤ 1000000) := propext ⟨fun h => by
  have h' : ∃ (s' : ByteArray) (c' : Int), ([.str s, .i c] : List AV) = [.str s', .i c'] ∧ (0 ≤ c' ∧ c' ≤ 1000 ∧ s'.size ≤ 1000000) := h
  obtain ⟨s', c', e, h⟩ := h'
  simp only [List.cons.injEq, AV.dv.injEq, AV.dp.injEq, AV.fv.injEq, DV.d.injEq, DV.ag.injEq, D.int.injEq, D.str.injEq, D.bool.injEq, D.sl.injEq, true_and, and_true, intsDi_inj, rowsT_inj, rowsKi_inj] at e
  obtain ⟨rfl, rfl⟩ := e
  exact h, fun h => ⟨s, c, rfl, h⟩⟩
theorem rep2S_p  (s : ByteArray) (c : Int) : (rep2S).post [.str s, .i c] = fun y => y = .str (repL s c) := funext fun y => propext ⟨fun h => by
  have h' : ∃ (s' : ByteArray) (c' : Int), ([.str s, .i c] : List AV) = [.str s', .i c'] ∧ y = .str (repL s' c') := h
  obtain ⟨s', c', e, h⟩ := h'
  simp only [List.cons.injEq, AV.dv.injEq, AV.dp.injEq, AV.fv.injEq, DV.d.injEq, DV.ag.injEq, D.int.injEq, D.str.injEq, D.bool.injEq, D.sl.injEq, true_and, and_true, intsDi_inj, rowsT_inj, rowsKi_inj] at e
  obtain ⟨rfl, rfl⟩ := e
  exact h, fun h => ⟨s, c, rfl, h⟩⟩
theorem rep2_ctr {cx : Cx} (h : Seat cx) : Ctr cx 125 rep2S := by
  refine ctr_flat (by rw [h.hP]; exact ⟨_, Tryz.func125, by kernel_rfl, by kernel_rfl⟩) (fun _ => rfl) ?_
  rintro xs ⟨s, c, rfl, h1, h2, h3⟩
  obtain ⟨n, rfl⟩ : ∃ n : Nat, c = n := ⟨c.toNat, by omega⟩
  refine ⟨_, .str (repL s n), _, rfl, ⟨s, n, rfl, rfl⟩, rfl, fun w hw => ?_⟩
  rw [h.hP]
  exact Tryz.strings_Repeat s n w (by omega) (Nat.le_trans (Nat.mul_le_mul h3 (show n ≤ 1000 by omega)) (by decide))
theorem exV {k n : Int} {s : ByteArray} (h1 : okI k) (h2 : okS s) (h3 : okI n) : ∃ v : TValue, v.ok ∧ [D.int .i64 k, D.str s, D.int .i64 n] = v.row := ⟨⟨k, s, n⟩, ⟨h1, h2, h3⟩, rfl⟩
def valueG : Spec where
  pre xs := xs = [.st]
  post xs y := ∃ v : TValue, v.ok ∧ y = .dv (.ag v.row)
  cost _ := 6
  fresh := false
set_option maxHeartbeats 8000000 in
theorem Value_ctr {cx : Cx} (h : Seat cx) : Ctr cx 160 valueG := by
  refine ctr_of (fn := Tryz.f160) (l := [.cell 2 97]) (envL [(55, nextS), (12, pickS), (26, flipS), (61, oneS), (125, rep2S)]) [0, 2, 3, 9, 14, 20, 26, 32, 34, 41, 47] [] [] (envL_cons (next_ctr cx h.hP h.hS) (envL_cons (pick_ctr cx h.hP h.hS) (envL_cons (flip_ctr cx h.hP h.hS) (envL_cons (one_ctr h) (envL_cons (rep2_ctr h) (env0 h.hP)))))) ?_ (by rw [h.hP]; exact Tryz.func160) rfl (by kernel_rfl) rfl ?_ ?_
  · rw [h.hP]; exact ⟨_, Tryz.func160, by kernel_rfl, by kernel_rfl⟩
  · rintro xs rfl; exact ⟨_, TValue.z, TValue.z_ok, rfl⟩
  · rintro xs rfl
    refine ⟨by rw [Tryz.ntmps160]; simp, ?_⟩
    simp only [go_sem, h.hP, List.cons_append, List.nil_append, Meets_e, Below_e, Prod.exists, exists_eq, exists_eq_left, exists_eq_left', exists_eq_right, exists_eq_right', exists_and_left, exists_and_right, Ob.arr.injEq, AV.own.injEq, AV.fv.injEq, valueG, nextS_q, nextS_p, nextS_c, nextS_f, pickS_q, pickS_p, pickS_c, pickS_f, flipS_q, flipS_p, flipS_c, flipS_f, oneS_q, oneS_p, oneS_c, oneS_f, rep2S_q, rep2S_p, rep2S_c, rep2S_f, ints1, intsc, strs1, strsc, Tryz.ntmps160, Nat.reduceEqDiff, reduceCtorEq, Nat.reduceMul, Nat.reduceAdd, Nat.reduceSub, Nat.reduceDiv, Nat.reduceMod, Nat.reduceLeDiff, Nat.reduceLT, Nat.reduceBNe, Nat.reduceBEq, reduceIte, Int.reduceLE, Int.reduceLT, Int.reduceToNat, Int.reduceNeg, Int.reduceAdd, Int.reduceSub, Int.reduceMul, Int.reduceEq]
    ((repeat' (first | with_reducible apply And.intro | with_reducible intro)) <;> refine exV ?_ ?_ ?_ <;> first | exact isIn_ok (by assumption) (by decide) | exact okS_z | exact okS_of (isOf_ok (by assumption) (by decide +kernel)) | exact ⟨by omega, by omega⟩)
def namesL : List ByteArray := [⟨#[97, 103, 101]⟩, ⟨#[99, 105, 116, 121]⟩, ⟨#[106, 111, 105, 110, 101, 100]⟩, ⟨#[110, 97, 109, 101]⟩, ⟨#[112, 108, 97, 110]⟩, ⟨#[118, 105, 112]⟩]
def namesD : List D := namesL.map D.str
theorem namesD_len : namesD.length = 6 := rfl
theorem namesD_take : namesD.take 6 = namesD := rfl
theorem namesD_get (n : Nat) : namesD.getD n (.str ⟨#[]⟩) = .str (namesL.getD n ⟨#[]⟩) := by
  unfold namesD
  rw [List.getD_eq_getElem?_getD, List.getD_eq_getElem?_getD, List.getElem?_map]
  cases namesL[n]? <;> rfl
theorem names_ok (n : Nat) : okS (namesL.getD n ⟨#[]⟩) := okS_of (all_get (p := fun s : ByteArray => s.size ≤ 1000) (fun x hx => by simpa using List.all_eq_true.1 (show namesL.all (fun y => decide (y.size ≤ 1000)) = true by decide) x hx) (by decide) n)
def fieldsG : Spec where
  pre xs := ∃ m : Int, xs = [.st, .i m]
  post xs y := ∃ (m : Int) (l : List TField), xs = [.st, .i m] ∧ l.length ≤ 7 ∧ (∀ x ∈ l, x.ok) ∧ y = .sl (TField.rows l)
  cost _ := 60
  fresh := false
set_option maxHeartbeats 8000000 in
theorem Fields_own {cx : Cx} (h : Seat cx) (hN : cx.glob 2 = some namesD) : CtrO cx 116 fieldsG 118 4 := by
  refine ctrO_of (fn := Tryz.f116) (t := 4) (envL [(160, valueG), (26, flipS), (61, oneS), (125, rep2S)]) [0, 1, 4, 5, 7, 8, 9, 10, 19, 29] [] [] (envL_cons (Value_ctr h) (envL_cons (flip_ctr cx h.hP h.hS) (envL_cons (one_ctr h) (envL_cons (rep2_ctr h) (env0 h.hP))))) ?_ (by rw [h.hP]; exact Tryz.func116) rfl (by kernel_rfl) rfl ?_ (by decide)
  · rw [h.hP]; exact ⟨_, Tryz.func116, by kernel_rfl, by kernel_rfl⟩
  · rintro xs ⟨m, rfl⟩
    refine ⟨by rw [Tryz.ntmps116]; simp, ?_⟩
    simp only [go_sem, h.hP, List.cons_append, List.nil_append, Meets_e, Below_e, Prod.exists, exists_eq, exists_eq_left, exists_eq_left', exists_eq_right, exists_eq_right', exists_and_left, exists_and_right, Ob.arr.injEq, AV.own.injEq, AV.fv.injEq, fieldsG, flipS_q, flipS_p, flipS_c, flipS_f, hN, Tryz.ntmps116, Nat.reduceEqDiff, reduceCtorEq, Nat.reduceMul, Nat.reduceAdd, Nat.reduceSub, Nat.reduceDiv, Nat.reduceMod, Nat.reduceLeDiff, Nat.reduceLT, Nat.reduceBNe, Nat.reduceBEq, reduceIte, Int.reduceLE, Int.reduceLT, Int.reduceToNat, Int.reduceNeg, Int.reduceAdd, Int.reduceSub, Int.reduceMul, Int.reduceEq]
    refine ⟨by rw [namesD_len]; decide, ?_⟩
    refine vc_loopS (Int × List TField) (fun (x : Int × List TField) => match x with | (i, l) => [(5, .own 5), (9, .i i)]) [] (fun (x : Int × List TField) => match x with | (i, l) => []) (fun (x : Int × List TField) => match x with | (i, l) => [(5, .arr 118 4 (TField.rows l))]) (fun (x : Int × List TField) => match x with | (i, l) => 7 * i.toNat) (fun (x : Int × List TField) => match x with | (i, l) => 0 ≤ i ∧ i ≤ 6 ∧ (l.length : Int) ≤ i ∧ ∀ c ∈ l, c.ok) (fun (x : Int × List TField) => match x with | (i, l) => (6 - i).toNat) [(5, 118, 4)] ?_ ?_
    · simp only [go_sem, h.hP, List.cons_append, List.nil_append, Meets_e, Below_e, Prod.exists, exists_eq, exists_eq_left, exists_eq_left', exists_eq_right, exists_eq_right', exists_and_left, exists_and_right, Ob.arr.injEq, AV.own.injEq, AV.fv.injEq, TField.nil2, Tryz.ntmps116, Nat.reduceEqDiff, reduceCtorEq, Nat.reduceMul, Nat.reduceAdd, Nat.reduceSub, Nat.reduceDiv, Nat.reduceMod, Nat.reduceLeDiff, Nat.reduceLT, Nat.reduceBNe, Nat.reduceBEq, reduceIte, Int.reduceLE, Int.reduceLT, Int.reduceToNat, Int.reduceNeg, Int.reduceAdd, Int.reduceSub, Int.reduceMul, Int.reduceEq]
      exact Int.le_refl _
    · rintro ⟨i, l⟩ ⟨j1, j2, j3, j4⟩
      have hw : IntKind.i64.wrap (i + 1) = i + 1 := i64w (by omega) (by omega)
      simp only [go_sem, h.hP, List.cons_append, List.nil_append, Meets_e, Below_e, Prod.exists, exists_eq, exists_eq_left, exists_eq_left', exists_eq_right, exists_eq_right', exists_and_left, exists_and_right, Ob.arr.injEq, AV.own.injEq, AV.fv.injEq, fieldsG, flipS_q, flipS_p, flipS_c, flipS_f, oneS_q, oneS_p, oneS_c, oneS_f, rep2S_q, rep2S_p, rep2S_c, rep2S_f, valueG, strs1, strsc, TValue.row, TField.fold1, TField.app', TField.rows_inj, TField.zlT, TField.len, TField.flat, List.length_append, List.length_singleton, namesD_len, namesD_take, namesD_get, hw, Tryz.ntmps116, Nat.reduceEqDiff, reduceCtorEq, Nat.reduceMul, Nat.reduceAdd, Nat.reduceSub, Nat.reduceDiv, Nat.reduceMod, Nat.reduceLeDiff, Nat.reduceLT, Nat.reduceBNe, Nat.reduceBEq, reduceIte, Int.reduceLE, Int.reduceLT, Int.reduceToNat, Int.reduceNeg, Int.reduceAdd, Int.reduceSub, Int.reduceMul, Int.reduceEq]
      have fin : ∀ {n : ByteArray} {v : TValue}, okS n → v.ok → i ≤ 6 → ∃ x : List TField, x.length ≤ 7 ∧ (∀ c ∈ x, c.ok) ∧ l ++ [⟨n, ⟨v.kind, v.text, v.number⟩⟩] = x := fun h1 h2 _ => ⟨_, by rw [List.length_append, List.length_singleton]; omega, okL_app j4 ⟨h1, h2⟩, rfl⟩
      clear hw
      ((repeat' (first | with_reducible apply And.intro | with_reducible intro)) <;> try first | omega | assumption | exact okL_mem (by assumption) j4 ⟨names_ok _, by assumption⟩ | exact fin (okS_of (isOf_ok (by assumption) (by decide +kernel))) (by assumption) j2 | exact ⟨l, by omega, j4, rfl⟩ | exact j4 _ (by assumption))
/-- What is handed over may be read as data. -/
theorem ctr_ofO {cx : Cx} {f : FuncId} {sp : Spec} {e : TypeId} {z : Nat} (hz : z < 1000) (hne : ∀ xs, sp.pre xs → ∃ r, sp.post xs r) (h : CtrO cx f sp e z) : Ctr cx f sp := by
  refine ⟨h.1, hne, fun F xs vals hcx hF hst hgl hc hl ha hp => (h.2.1 (by omega) F xs vals hcx hF hst hgl hc hl ha hp).mono ?_⟩
  rintro e' w' ⟨v, r, rfl, hg, hst2, hpo, hh⟩
  rcases hh with ⟨l, xs, _, rfl, hown, hzl, hR⟩ | ⟨_, _, _, _, _, h1, _⟩
  · refine ⟨v, _, rfl, hg, hst2, hpo, rfl, ?_⟩
    show Rd (resOk F sp.fresh) w' (.sl l) v
    rcases hown.2 with ⟨h1, hn⟩ | ⟨g, cap, cur, hv, hb, hg', _, hcap, _⟩
    · have : l = [] := List.eq_nil_of_length_eq_zero hn
      subst this
      rw [h1]
      exact Rd.nil _ _
    · rw [hv]
      have hlt : g < w'.heap.size := (Array.getElem?_eq_some_iff.1 hg').1
      exact Rd.of_flat hzl (hR.mono (Nat.le_refl _) (fun b hb _ => hb.1) (fun _ _ _ => rfl)) (ownsRow_cells hown hv) (.inr hb) hlt (by assumption)
  · omega
theorem Fields_ctr {cx : Cx} (h : Seat cx) (hN : cx.glob 2 = some namesD) : Ctr cx 116 fieldsG :=
  ctr_ofO (by decide) (fun xs ⟨m, hm⟩ => ⟨.sl (TField.rows []), m, [], hm, Nat.zero_le _, (fun x hx => by cases hx), rfl⟩) (Fields_own h hN)
end Go.Avc

namespace Go.Avc
open Go Go.Proofs

def acceptL : List Int := (List.range 16).flatMap fun i => [(Lib.accLo i : Int), (Lib.accHi i : Int)]
def globU : Nat → Option (List D)
  | 4 => some (Lib.firstTab.map (D.int .u8))
  | 5 => some (acceptL.map (D.int .u8))
  | _ => none
theorem glob_first {cs : List Value} {ok : Nat → Prop} {w : World} {l : List Int} (h : RdL ok w (l.map (D.int .u8)) cs) (i : Nat) (hi : i < l.length) : cs[i]? = some (.int .u8 (l.getD i 0)) := by
  obtain ⟨v, hv, hr⟩ := h.get (j := i) (x := D.int .u8 (l.getD i 0)) (by rw [List.getElem?_map, List.getD_eq_getElem?_getD, List.getElem?_eq_getElem hi]; rfl)
  rw [hv]
  cases hr
  rfl
theorem rdL_ints {ok : Nat → Prop} {w : World} (l : List Int) : RdL ok w (l.map (D.int .u8)) (l.map (Value.int .u8)) := ⟨by rw [List.length_map, List.length_map], fun j x v hx hv => by
  rw [List.getElem?_map] at hx hv
  obtain ⟨n, hn, rfl⟩ := Option.map_eq_some_iff.1 hx
  rw [hn] at hv
  cases hv
  exact .int _ _⟩
theorem accept_at : ∀ i, i < 16 → acceptL.getD (2 * i) 0 = Lib.accLo i ∧ acceptL.getD (2 * i + 1) 0 = Lib.accHi i := by decide +kernel
theorem utf8_of_glob {cx : Cx} {W0 : Cx} (hW : W0.glob = globU) (h : ∀ w, GlAt cx w → GlAt W0 w) : Utf8 cx := by
  intro w hw
  have hg := h w hw
  obtain ⟨_, _, cs, hc, hr⟩ := hg 4 _ (by rw [hW]; rfl)
  obtain ⟨_, _, cs', hc', hr'⟩ := hg 5 _ (by rw [hW]; rfl)
  have hl : Lib.firstTab.length = 256 := by unfold Lib.firstTab; rw [List.length_map, List.length_range]
  have hl' : acceptL.length = 32 := by decide +kernel
  refine ⟨fun c hc0 => ?_, fun i hi => ?_⟩
  · have := hc c _ (glob_first hr c (by omega))
    rw [this]
    unfold Lib.firstTab
    rw [List.getD_eq_getElem?_getD, List.getElem?_map, List.getElem?_range hc0]
    rfl
  · obtain ⟨e1, e2⟩ := accept_at i hi
    have h1 := hc' (2 * i) _ (glob_first hr' (2 * i) (by omega))
    have h2 := hc' (2 * i + 1) _ (glob_first hr' (2 * i + 1) (by omega))
    rw [e1] at h1
    rw [e2] at h2
    exact ⟨h1, h2⟩
theorem glAt_of_tabs {W : World} {L : List Int} {ST : TypeId} (h : Lib.Utf8Tabs 4 5 W) : GlAt ⟨Tryz.prog, none, L, ST, 6, globU⟩ W := by
  obtain ⟨h1, h2⟩ := h
  have hin : ∀ (b o : Nat) (v : Value), W.cell? ⟨b, o, none⟩ = some v → b < W.heap.size := fun b o v hv => by
    by_cases hb : b < W.heap.size
    · exact hb
    · unfold World.cell? at hv
      rw [Array.getElem?_eq_none (show W.heap.size ≤ b by omega)] at hv
      cases hv
  intro k l hk
  have hk' : globU k = some l := hk
  have hl' : acceptL.length = 32 := by decide +kernel
  match k, hk' with
  | 4, hk' =>
    cases hk'
    refine ⟨Nat.lt_of_sub_eq_succ rfl, hin _ _ _ (h1 0 (by decide)), Lib.firstTab.map (Value.int .u8), fun j u hj => ?_, rdL_ints _⟩
    rw [List.getElem?_map] at hj
    obtain ⟨n, hn, rfl⟩ := Option.map_eq_some_iff.1 hj
    unfold Lib.firstTab at hn
    rw [List.getElem?_map] at hn
    obtain ⟨c, hc, rfl⟩ := Option.map_eq_some_iff.1 hn
    have hc1 := (List.getElem?_eq_some_iff.1 hc).1
    rw [List.length_range] at hc1
    rw [List.getElem?_range hc1] at hc
    cases hc
    exact h1 _ hc1
  | 5, hk' =>
    cases hk'
    refine ⟨Nat.lt_of_sub_eq_succ rfl, hin _ _ _ (h2 0 (by decide)).1, acceptL.map (Value.int .u8), fun j u hj => ?_, rdL_ints _⟩
    rw [List.getElem?_map] at hj
    obtain ⟨n, hn, rfl⟩ := Option.map_eq_some_iff.1 hj
    have hj1 := (List.getElem?_eq_some_iff.1 hn).1
    have hn' : acceptL.getD j 0 = n := by rw [List.getD_eq_getElem?_getD, hn]; rfl
    obtain ⟨e1, e2⟩ := accept_at (j / 2) (by omega)
    obtain ⟨g1, g2⟩ := h2 (j / 2) (by omega)
    rcases Nat.mod_two_eq_zero_or_one j with hm | hm
    · have hj2 : 2 * (j / 2) = j := by omega
      rw [hj2] at e1 g1
      rw [← hn', e1]
      exact g1
    · have hj2 : 2 * (j / 2) + 1 = j := by omega
      rw [hj2] at e2 g2
      rw [← hn', e2]
      exact g2
theorem u8Extra : U8Extra Tryz.prog Tryz.lays260_ren := ⟨by kernel_rfl, by kernel_rfl, by kernel_rfl, by kernel_rfl, by kernel_rfl, by kernel_rfl, by kernel_rfl⟩
theorem first_eq : YtkkcjnimbejalaaGreatDoor.Rows.laid_unicode_utf8_first = Lib.firstData := by kernel_rfl
theorem accept_eq : (YtkkcjnimbejalaaGreatDoor.Rows.laid_unicode_utf8_acceptRanges : DataW Unit) = Lib.acceptData := by kernel_rfl
/-- The package-level variables are there. -/
theorem ng_of_shaped {W : World} (h : W.ShapedOpen Tryz.prog) : 6 ≤ W.heap.size := by
  have h0 : (((begin Tryz.prog (fun _ _ => 0) default).world.heap[5]?).bind Obj.row?).isSome = true := by kernel_rfl
  obtain ⟨⟨zero, t⟩, hz⟩ := Option.isSome_iff_exists.1 h0
  obtain ⟨cs, hc, _⟩ := h.1 5 zero t (of_decide_eq_true (by kernel_rfl)) hz
  have := (Array.getElem?_eq_some_iff.1 hc).1
  omega
/-- A world for a witness: the two tables hold what the program lays. -/
noncomputable def laidWorld (os : Os) : World :=
  { World.holding Tryz.prog os ⟨#[], #[], []⟩ with heap := (((World.holding Tryz.prog os ⟨#[], #[], []⟩).heap.modify 4 (fun o => match o with
      | .cells _ t frozen => .cells (Lib.firstTab.map (Value.int .u8)).toArray t frozen
      | o => o)).modify 5 (fun o => match o with
      | .cells _ t frozen => .cells (acceptL.map (Value.int .u8)).toArray t frozen
      | o => o)) }
end Go.Avc

namespace Go.Avc
open Go Go.Proofs

def cutL (s p : ByteArray) : ByteArray := ⟨(Lib.cut s.data.toList p.data.toList).1.toArray⟩
def cutR (s p : ByteArray) : ByteArray := ⟨(Lib.cut s.data.toList p.data.toList).2.1.toArray⟩
def cutB (s p : ByteArray) : Bool := (Lib.cut s.data.toList p.data.toList).2.2
theorem size_list (l : List UInt8) : (⟨l.toArray⟩ : ByteArray).size = l.length := rfl
theorem len_size (s : ByteArray) : s.data.toList.length = s.size := Array.length_toList
theorem cutL_size (s p : ByteArray) : (cutL s p).size ≤ s.size := by
  unfold cutL
  rw [size_list, ← len_size s]
  unfold Lib.cut
  split
  · show (List.take _ _).length ≤ _
    rw [List.length_take]; omega
  · exact Nat.le_refl _
theorem cutR_size (s p : ByteArray) : (cutR s p).size ≤ s.size := by
  unfold cutR
  rw [size_list, ← len_size s]
  unfold Lib.cut
  split
  · show (List.drop _ _).length ≤ _
    rw [List.length_drop]; omega
  · exact Nat.zero_le _
def splitS (s p : ByteArray) : List ByteArray := Lib.splitB p 0 (Lib.countB s p) s
theorem splitB_size (p : ByteArray) : ∀ (k : Nat) (s x : ByteArray), x ∈ Lib.splitB p 0 k s → x.size ≤ s.size
  | 0, s, x, h => by
    rw [Lib.splitB_zero, List.mem_singleton] at h
    rw [h]; exact Nat.le_refl _
  | k + 1, s, x, h => by
    unfold Lib.splitB at h
    split at h
    · rw [List.mem_singleton] at h
      rw [h]; exact Nat.le_refl _
    · rcases List.mem_cons.1 h with e | e
      · rw [e, ByteArray.size_extract]; omega
      · have := splitB_size p k _ x e
        rw [ByteArray.size_extract] at this
        omega
theorem splitS_size {s p x : ByteArray} (h : x ∈ splitS s p) : x.size ≤ s.size := splitB_size p _ s x h
theorem splitS_get (s p : ByteArray) (i : Nat) : ((splitS s p).getD i ⟨#[]⟩).size ≤ s.size := by
  rw [List.getD_eq_getElem?_getD]
  cases e : (splitS s p)[i]? with
  | none => exact Nat.zero_le _
  | some x => exact splitS_size (List.mem_of_getElem? e)
theorem splitS_len {s p : ByteArray} (h : 1 ≤ p.size) : (splitS s p).length = Lib.countB s p + 1 := Lib.splitB_all p h 0 _ s rfl
theorem splitS_le {s p : ByteArray} (h : 1 ≤ p.size) : (splitS s p).length ≤ s.size + 1 := by
  rw [splitS_len h]
  have := Lib.countB_le p h s.size s (Nat.le_refl _)
  omega
def conS (s p : ByteArray) : Bool := Lib.contains s.data.toList p.data.toList
def preS (s p : ByteArray) : Bool := Lib.hasPrefix s.data.toList p.data.toList
/-- Trim at one byte leaves a string as it is: it neither begins nor ends with the byte. -/
theorem drop_same {α : Type} {p : α → Bool} : ∀ {l : List α}, l.dropWhile p = l ↔ ∀ x, l.head? = some x → p x = false
  | [] => by simp
  | x :: l => by
    cases h : p x with
    | true =>
      rw [List.dropWhile_cons_of_pos h]
      constructor
      · intro e
        have := congrArg List.length e
        have h2 : (l.dropWhile p).length ≤ l.length := (List.dropWhile_sublist p).length_le
        simp at this
        omega
      · intro e
        have := e x rfl
        rw [h] at this
        cases this
    | false =>
      rw [List.dropWhile_cons_of_neg (by simp [h])]
      simp [h]
theorem trim_same (l : List UInt8) (c : UInt8) : Lib.trimS l [c] = l ↔ l.head? ≠ some c ∧ l.getLast? ≠ some c := by
  have hp : ∀ x : UInt8, [c].contains x = false ↔ x ≠ c := fun x => by simp
  have hR : Lib.trimRightS l [c] = l ↔ l.getLast? ≠ some c := by
    unfold Lib.trimRightS
    rw [List.reverse_eq_iff, drop_same]
    rw [List.head?_reverse]
    constructor
    · intro h e
      have := h c e
      rw [hp] at this
      exact this rfl
    · intro h x hx
      rw [hp]
      intro e
      rw [e] at hx
      exact h hx
  have hL : ∀ m : List UInt8, Lib.trimLeftS m [c] = m ↔ m.head? ≠ some c := fun m => by
    unfold Lib.trimLeftS
    rw [drop_same]
    constructor
    · intro h e
      have := h c e
      rw [hp] at this
      exact this rfl
    · intro h x hx
      rw [hp]
      intro e
      rw [e] at hx
      exact h hx
  have hlR : (Lib.trimRightS l [c]).length ≤ l.length := by
    unfold Lib.trimRightS
    rw [List.length_reverse]
    have := (List.dropWhile_sublist (l := l.reverse) fun x => [c].contains x).length_le
    rwa [List.length_reverse] at this
  unfold Lib.trimS
  constructor
  · intro h
    have h1 : (Lib.trimLeftS (Lib.trimRightS l [c]) [c]).length ≤ (Lib.trimRightS l [c]).length := (List.dropWhile_sublist _).length_le
    rw [h] at h1
    have h2 : Lib.trimRightS l [c] = l := by
      have hs : (Lib.trimRightS l [c]).Sublist l := by
        unfold Lib.trimRightS
        have := (List.dropWhile_sublist (l := l.reverse) fun x => [c].contains x).reverse
        rwa [List.reverse_reverse] at this
      exact hs.eq_of_length (by omega)
    rw [h2] at h
    exact ⟨(hL l).1 h, hR.1 h2⟩
  · rintro ⟨h1, h2⟩
    rw [hR.2 h2, (hL l).2 h1]
theorem bt_head {s : ByteArray} (h : 1 ≤ s.size) (c : UInt8) : s.data.toList.head? ≠ some c ↔ bt s 0 ≠ (c.toNat : Int) := by
  cases hd : s.data.toList with
  | nil => rw [← len_size, hd] at h; cases h
  | cons x r =>
    have : bt s 0 = (x.toNat : Int) := by unfold bt; rw [hd]; rfl
    rw [this]
    simp only [List.head?_cons, ne_eq, Option.some.injEq, Int.natCast_inj]
    exact ⟨fun h e => h (UInt8.toNat_inj.1 e), fun h e => h (by rw [e])⟩
theorem bt_last {s : ByteArray} (h : 1 ≤ s.size) (c : UInt8) : s.data.toList.getLast? ≠ some c ↔ bt s ((s.size : Int) - 1) ≠ (c.toNat : Int) := by
  have hl := len_size s
  have e1 : ((s.size : Int) - 1).toNat = s.size - 1 := by omega
  have hlt : s.size - 1 < s.data.toList.length := by omega
  have : bt s ((s.size : Int) - 1) = ((s.data.toList[s.size - 1]'hlt).toNat : Int) := by
    unfold bt
    rw [e1, List.getD_eq_getElem?_getD, List.getElem?_eq_getElem hlt]; rfl
  rw [this, List.getLast?_eq_getElem?, hl, List.getElem?_eq_getElem hlt]
  simp only [ne_eq, Option.some.injEq, Int.natCast_inj]
  exact ⟨fun h e => h (UInt8.toNat_inj.1 e), fun h e => h (by rw [e])⟩
theorem ba_eq {s t : ByteArray} : s = t ↔ s.data.toList = t.data.toList := ⟨fun h => by rw [h], fun h => ByteArray.ext (Array.ext' h)⟩
theorem trim_one {s : ByteArray} (h : 1 ≤ s.size) (c : UInt8) : trimF s ⟨#[c]⟩ = s ↔ bt s 0 ≠ (c.toNat : Int) ∧ bt s ((s.size : Int) - 1) ≠ (c.toNat : Int) := by
  rw [ba_eq]
  unfold trimF
  show Lib.trimS s.data.toList [c] = _ ↔ _
  rw [trim_same, bt_head h, bt_last h]
theorem all_no {α : Type} {l : List α} {p : α → Bool} {i : Nat} {d : α} (hi : i < l.length) (h : p (l.getD i d) = false) : l.all p = false := by
  cases e : l.all p with
  | false => rfl
  | true =>
    rw [List.all_eq_true] at e
    have := e _ (List.getElem_mem hi)
    rw [List.getD_eq_getElem?_getD, List.getElem?_eq_getElem hi, Option.getD_some] at h
    rw [h] at this
    cases this
theorem all_yes {α : Type} {l : List α} {p : α → Bool} (d : α) (h : ∀ j : Nat, j < l.length → p (l.getD j d) = true) : l.all p = true := by
  rw [List.all_eq_true]
  intro x hx
  obtain ⟨k, hk, rfl⟩ := List.mem_iff_getElem.1 hx
  have := h k hk
  rwa [List.getD_eq_getElem?_getD, List.getElem?_eq_getElem hk] at this
/-! ### The forms -/
def labC (c : Int) : Bool := smallC c || digitC c || (c == 45)
def locC (c : Int) : Bool := smallC c || digitC c || (c == 46) || (c == 45) || (c == 95)
def memC (c : Int) : Bool := digitC c || capitalC c
def hexC (c : Int) : Bool := digitC c || decide (97 ≤ c ∧ c ≤ 102)
def labelB (s : ByteArray) : Bool := inB s.size 1 30 && decide (bt s 0 ≠ 45) && decide (bt s ((s.size : Int) - 1) ≠ 45) && (bl s).all labC
def atS : ByteArray := ⟨#[64]⟩
def dotS : ByteArray := ⟨#[46]⟩
def dotsS : ByteArray := ⟨#[46, 46]⟩
def plusS : ByteArray := ⟨#[43]⟩
def localB (s : ByteArray) : Bool := inB s.size 1 64 && decide (bt s 0 ≠ 46) && decide (bt s ((s.size : Int) - 1) ≠ 46) && !conS s dotsS && (bl s).all locC
def mailB (s : ByteArray) : Bool := cutB s atS && decide ((s.size : Int) ≤ 80) && localB (cutL s atS) && (splitS (cutR s atS) dotS).all labelB && decide (2 ≤ (splitS (cutR s atS) dotS).length)
def phoneB (s : ByteArray) : Bool := preS s plusS && inB s.size 8 16 && (bl (s.extract 1 s.size)).all digitC && decide (bt s 1 ≠ 48)
def memberB (s : ByteArray) : Bool := inB s.size 4 20 && (bl s).all memC
def deviceB (s : ByteArray) : Bool := decide ((s.size : Int) = 32) && (bl s).all hexC
/-- the check sign -/
def idxC (c : Int) : Int := if digitC c = true then c - 48 else c - 55
def termS (s : ByteArray) (i : Nat) : Int := let p := if (s.size - i) % 2 = 1 then 2 * idxC (bt s i) else idxC (bt s i); p / 36 + p % 36
def sumUp (s : ByteArray) : Nat → Int
  | 0 => 0
  | n + 1 => sumUp s n + termS s n
def signN (s : ByteArray) : Int := (36 - sumUp s s.size % 36) % 36
def signsB : ByteArray := ⟨#[48, 49, 50, 51, 52, 53, 54, 55, 56, 57, 65, 66, 67, 68, 69, 70, 71, 72, 73, 74, 75, 76, 77, 78, 79, 80, 81, 82, 83, 84, 85, 86, 87, 88, 89, 90]⟩
theorem idxC_in {c : Int} (h : memC c = true) : 0 ≤ idxC c ∧ idxC c ≤ 35 := by
  unfold memC digitC capitalC at h
  unfold idxC digitC
  simp only [Bool.or_eq_true, decide_eq_true_eq] at h
  split <;> rename_i c1 <;> simp only [decide_eq_true_eq] at c1 <;> omega
theorem idx_signs : ∀ c : UInt8, memC (c.toNat : Int) = true → Lib.indexByte signsB.data.toList c = idxC (c.toNat : Int) := by
  have h := u8_all (p := fun c => !memC (c.toNat : Int) || (Lib.indexByte signsB.data.toList c == idxC (c.toNat : Int))) (by decide +kernel)
  intro c hc
  have := h c
  rw [hc] at this
  simpa using this
theorem bt_u8 (s : ByteArray) (i : Int) : (bt s i).toNat.toUInt8 = s.data.toList.getD i.toNat 0 := by
  unfold bt
  rw [Int.toNat_natCast]
  exact UInt8.ofNat_toNat
theorem idx_bt {s : ByteArray} {i : Int} (h : memC (bt s i) = true) : Lib.indexByte signsB.data.toList (bt s i).toNat.toUInt8 = idxC (bt s i) := by
  rw [bt_u8]
  exact idx_signs _ h
theorem all_at {s : ByteArray} {p : Int → Bool} (h : (bl s).all p = true) {i : Int} (h0 : 0 ≤ i) (h1 : i < s.size) : p (bt s i) = true := by
  rw [all_bt] at h
  have := h i.toNat (by omega)
  rwa [Int.toNat_of_nonneg h0] at this
theorem term_in {s : ByteArray} (h : (bl s).all memC = true) {i : Nat} (hi : i < s.size) : 0 ≤ termS s i ∧ termS s i ≤ 36 := by
  have := idxC_in (all_at h (i := i) (by omega) (by omega))
  unfold termS
  simp only
  split <;> omega
theorem sumUp_in {s : ByteArray} (h : (bl s).all memC = true) : ∀ n, n ≤ s.size → 0 ≤ sumUp s n ∧ sumUp s n ≤ 36 * n
  | 0, _ => ⟨Int.le_refl _, Int.le_refl _⟩
  | n + 1, hn => by
    have h1 := sumUp_in h n (by omega)
    have h2 := term_in h (i := n) (by omega)
    unfold sumUp
    omega
theorem signN_in (s : ByteArray) : 0 ≤ signN s ∧ signN s < 36 := by
  unfold signN
  omega
/-- What is wrong with an id. -/
def initS (s : ByteArray) : ByteArray := s.extract 0 (s.size - 1)
def idF (x : TId) : Int := if x.kind = 1 then (if mailB x.text = true then 0 else 3) else if x.kind = 2 then (if phoneB x.text = true then 0 else 3) else
  if x.kind = 3 then (if memberB x.text = true then (if bt signsB (signN (initS x.text)) ≠ bt x.text ((x.text.size : Int) - 1) then 15 else 0) else 3) else
  if x.kind = 4 then (if deviceB x.text = true then 0 else 3) else 4
/-- Their order. -/
def cmpI (a b : Int) : Int := if a < b then -1 else if a > b then 1 else 0
def lessS (s t : ByteArray) : Bool := Op.bytesLess s.toList t.toList
def cmpT (s t : ByteArray) : Int := if lessS s t = true then -1 else if s = t then 0 else 1
end Go.Avc
