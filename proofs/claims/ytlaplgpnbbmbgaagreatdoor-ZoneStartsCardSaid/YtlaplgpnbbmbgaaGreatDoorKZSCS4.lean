/- The program's types: cells, bytes, zero values. No condition. -/
import Derived.Test.YtlaplgpnbbmbgaaGreatDoorChecked
import Derived.Lib.Builder
import Derived.Lib.AppendStr
import Derived.Lib.Strings
import Derived.Lib.Slices
import Derived.Lib.Walk
import Derived.WalkKit
import Derived.Laws.Externs
import Derived.Laws.AppendOwn
import Derived.Maps.AppendAt
import Derived.KernelRfl
import Derived.Lib.UnsafeStr
import Derived.Shelf.RegionOpenPlain
import Derived.Test.YtlaplgpnbbmbgaaGreatDoorKZSCS1
import Derived.Test.YtlaplgpnbbmbgaaGreatDoorKZSCS2
import Derived.Test.YtlaplgpnbbmbgaaGreatDoorKZSCS3
/- The program's types: cells, bytes, zero values. No condition. -/
set_option maxRecDepth 100000
namespace Go.Avc.F
open Go Go.Avc Go.Proofs
theorem c0 : Program.cellsOf Tryz.prog 0 = 1 := by kernel_rfl
theorem b0 : Program.bytesOf Tryz.prog 0 = 0 := by kernel_rfl
theorem k0 : Tk Tryz.prog 0 = some false := by kernel_rfl
theorem c1 : Program.cellsOf Tryz.prog 1 = 1 := by kernel_rfl
theorem b1 : Program.bytesOf Tryz.prog 1 = 8 := by kernel_rfl
theorem k1 : Tk Tryz.prog 1 = some false := by kernel_rfl
theorem c2 : Program.cellsOf Tryz.prog 2 = 1 := by kernel_rfl
theorem b2 : Program.bytesOf Tryz.prog 2 = 8 := by kernel_rfl
theorem k2 : Tk Tryz.prog 2 = some false := by kernel_rfl
theorem z2 : Tzero Tryz.prog 2 = some [.int .i64 0] := by kernel_rfl
theorem a2 : TzeroA Tryz.prog 2 = some [.dv (.d (.int .i64 0))] := by kernel_rfl
theorem o2 : Tone Tryz.prog 2 = some (.int .i64 0, 8) := by kernel_rfl
theorem c3 : Program.cellsOf Tryz.prog 3 = 1 := by kernel_rfl
theorem b3 : Program.bytesOf Tryz.prog 3 = 8 := by kernel_rfl
theorem k3 : Tk Tryz.prog 3 = some false := by kernel_rfl
theorem z3 : Tzero Tryz.prog 3 = some [.int .i64 0] := by kernel_rfl
theorem a3 : TzeroA Tryz.prog 3 = some [.dv (.d (.int .i64 0))] := by kernel_rfl
theorem o3 : Tone Tryz.prog 3 = some (.int .i64 0, 8) := by kernel_rfl
theorem c4 : Program.cellsOf Tryz.prog 4 = 1 := by kernel_rfl
theorem b4 : Program.bytesOf Tryz.prog 4 = 1 := by kernel_rfl
theorem k4 : Tk Tryz.prog 4 = some false := by kernel_rfl
theorem z4 : Tzero Tryz.prog 4 = some [.bool false] := by kernel_rfl
theorem a4 : TzeroA Tryz.prog 4 = some [.dv (.d (.bool false))] := by kernel_rfl
theorem o4 : Tone Tryz.prog 4 = some (.bool false, 1) := by kernel_rfl
theorem c5 : Program.cellsOf Tryz.prog 5 = 1 := by kernel_rfl
theorem b5 : Program.bytesOf Tryz.prog 5 = 1 := by kernel_rfl
theorem k5 : Tk Tryz.prog 5 = some false := by kernel_rfl
theorem z5 : Tzero Tryz.prog 5 = some [.int .u8 0] := by kernel_rfl
theorem a5 : TzeroA Tryz.prog 5 = some [.dv (.d (.int .u8 0))] := by kernel_rfl
theorem o5 : Tone Tryz.prog 5 = some (.int .u8 0, 1) := by kernel_rfl
theorem c6 : Program.cellsOf Tryz.prog 6 = 1 := by kernel_rfl
theorem b6 : Program.bytesOf Tryz.prog 6 = 1 := by kernel_rfl
theorem k6 : Tk Tryz.prog 6 = some false := by kernel_rfl
theorem z6 : Tzero Tryz.prog 6 = some [.int .u8 0] := by kernel_rfl
theorem a6 : TzeroA Tryz.prog 6 = some [.dv (.d (.int .u8 0))] := by kernel_rfl
theorem o6 : Tone Tryz.prog 6 = some (.int .u8 0, 1) := by kernel_rfl
theorem c7 : Program.cellsOf Tryz.prog 7 = 4 := by kernel_rfl
theorem b7 : Program.bytesOf Tryz.prog 7 = 24 := by kernel_rfl
theorem k7 : Tk Tryz.prog 7 = some true := by kernel_rfl
theorem z7 : Tzero Tryz.prog 7 = some [.int .i64 0, .int .i64 0, .bool false, .int .u8 0] := by kernel_rfl
theorem a7 : TzeroA Tryz.prog 7 = some [.dv (.d (.int .i64 0)), .dv (.d (.int .i64 0)), .dv (.d (.bool false)), .dv (.d (.int .u8 0))] := by kernel_rfl
theorem e7 : eqT Tryz.prog 7 = some [.i .i64, .i .i64, .b, .i .u8] := by kernel_rfl
theorem f7_0 : Tfld Tryz.prog 7 0 = some (0, 2) := by kernel_rfl
theorem f7_1 : Tfld Tryz.prog 7 1 = some (1, 3) := by kernel_rfl
theorem f7_2 : Tfld Tryz.prog 7 2 = some (2, 4) := by kernel_rfl
theorem f7_3 : Tfld Tryz.prog 7 3 = some (3, 6) := by kernel_rfl
theorem p7 : Tplc Tryz.prog 7 = some [(0, 1), (1, 1), (2, 1), (3, 1)] := by kernel_rfl
theorem c8 : Program.cellsOf Tryz.prog 8 = 4 := by kernel_rfl
theorem b8 : Program.bytesOf Tryz.prog 8 = 24 := by kernel_rfl
theorem k8 : Tk Tryz.prog 8 = some true := by kernel_rfl
theorem z8 : Tzero Tryz.prog 8 = some [.int .i64 0, .int .i64 0, .bool false, .int .u8 0] := by kernel_rfl
theorem a8 : TzeroA Tryz.prog 8 = some [.dv (.d (.int .i64 0)), .dv (.d (.int .i64 0)), .dv (.d (.bool false)), .dv (.d (.int .u8 0))] := by kernel_rfl
theorem e8 : eqT Tryz.prog 8 = some [.i .i64, .i .i64, .b, .i .u8] := by kernel_rfl
theorem f8_0 : Tfld Tryz.prog 8 0 = some (0, 2) := by kernel_rfl
theorem f8_1 : Tfld Tryz.prog 8 1 = some (1, 3) := by kernel_rfl
theorem f8_2 : Tfld Tryz.prog 8 2 = some (2, 4) := by kernel_rfl
theorem f8_3 : Tfld Tryz.prog 8 3 = some (3, 6) := by kernel_rfl
theorem p8 : Tplc Tryz.prog 8 = some [(0, 1), (1, 1), (2, 1), (3, 1)] := by kernel_rfl
theorem c9 : Program.cellsOf Tryz.prog 9 = 1 := by kernel_rfl
theorem b9 : Program.bytesOf Tryz.prog 9 = 16 := by kernel_rfl
theorem k9 : Tk Tryz.prog 9 = some false := by kernel_rfl
theorem z9 : Tzero Tryz.prog 9 = some [.str ⟨#[]⟩] := by kernel_rfl
theorem a9 : TzeroA Tryz.prog 9 = some [.dv (.d (.str ⟨#[]⟩))] := by kernel_rfl
theorem o9 : Tone Tryz.prog 9 = some (.str ⟨#[]⟩, 16) := by kernel_rfl
theorem c10 : Program.cellsOf Tryz.prog 10 = 1 := by kernel_rfl
theorem b10 : Program.bytesOf Tryz.prog 10 = 16 := by kernel_rfl
theorem k10 : Tk Tryz.prog 10 = some false := by kernel_rfl
theorem z10 : Tzero Tryz.prog 10 = some [.str ⟨#[]⟩] := by kernel_rfl
theorem a10 : TzeroA Tryz.prog 10 = some [.dv (.d (.str ⟨#[]⟩))] := by kernel_rfl
theorem o10 : Tone Tryz.prog 10 = some (.str ⟨#[]⟩, 16) := by kernel_rfl
theorem c11 : Program.cellsOf Tryz.prog 11 = 1 := by kernel_rfl
theorem b11 : Program.bytesOf Tryz.prog 11 = 16 := by kernel_rfl
theorem k11 : Tk Tryz.prog 11 = some false := by kernel_rfl
theorem z11 : Tzero Tryz.prog 11 = some [.str ⟨#[]⟩] := by kernel_rfl
theorem a11 : TzeroA Tryz.prog 11 = some [.dv (.d (.str ⟨#[]⟩))] := by kernel_rfl
theorem o11 : Tone Tryz.prog 11 = some (.str ⟨#[]⟩, 16) := by kernel_rfl
theorem c12 : Program.cellsOf Tryz.prog 12 = 1 := by kernel_rfl
theorem b12 : Program.bytesOf Tryz.prog 12 = 8 := by kernel_rfl
theorem k12 : Tk Tryz.prog 12 = some false := by kernel_rfl
theorem z12 : Tzero Tryz.prog 12 = some [.int .u64 0] := by kernel_rfl
theorem a12 : TzeroA Tryz.prog 12 = some [.dv (.d (.int .u64 0))] := by kernel_rfl
theorem o12 : Tone Tryz.prog 12 = some (.int .u64 0, 8) := by kernel_rfl
theorem c13 : Program.cellsOf Tryz.prog 13 = 2 := by kernel_rfl
theorem b13 : Program.bytesOf Tryz.prog 13 = 24 := by kernel_rfl
theorem k13 : Tk Tryz.prog 13 = some true := by kernel_rfl
theorem z13 : Tzero Tryz.prog 13 = some [.str ⟨#[]⟩, .int .u64 0] := by kernel_rfl
theorem a13 : TzeroA Tryz.prog 13 = some [.dv (.d (.str ⟨#[]⟩)), .dv (.d (.int .u64 0))] := by kernel_rfl
theorem f13_0 : Tfld Tryz.prog 13 0 = some (0, 9) := by kernel_rfl
theorem f13_1 : Tfld Tryz.prog 13 1 = some (1, 12) := by kernel_rfl
theorem p13 : Tplc Tryz.prog 13 = some [(0, 1), (1, 1)] := by kernel_rfl
theorem c14 : Program.cellsOf Tryz.prog 14 = 2 := by kernel_rfl
theorem b14 : Program.bytesOf Tryz.prog 14 = 24 := by kernel_rfl
theorem k14 : Tk Tryz.prog 14 = some true := by kernel_rfl
theorem z14 : Tzero Tryz.prog 14 = some [.str ⟨#[]⟩, .int .u64 0] := by kernel_rfl
theorem a14 : TzeroA Tryz.prog 14 = some [.dv (.d (.str ⟨#[]⟩)), .dv (.d (.int .u64 0))] := by kernel_rfl
theorem f14_0 : Tfld Tryz.prog 14 0 = some (0, 9) := by kernel_rfl
theorem f14_1 : Tfld Tryz.prog 14 1 = some (1, 12) := by kernel_rfl
theorem p14 : Tplc Tryz.prog 14 = some [(0, 1), (1, 1)] := by kernel_rfl
theorem c15 : Program.cellsOf Tryz.prog 15 = 1 := by kernel_rfl
theorem b15 : Program.bytesOf Tryz.prog 15 = 8 := by kernel_rfl
theorem k15 : Tk Tryz.prog 15 = some false := by kernel_rfl
theorem c16 : Program.cellsOf Tryz.prog 16 = 1 := by kernel_rfl
theorem b16 : Program.bytesOf Tryz.prog 16 = 8 := by kernel_rfl
theorem k16 : Tk Tryz.prog 16 = some false := by kernel_rfl
theorem c17 : Program.cellsOf Tryz.prog 17 = 1 := by kernel_rfl
theorem b17 : Program.bytesOf Tryz.prog 17 = 8 := by kernel_rfl
theorem k17 : Tk Tryz.prog 17 = some false := by kernel_rfl
theorem c18 : Program.cellsOf Tryz.prog 18 = 1 := by kernel_rfl
theorem b18 : Program.bytesOf Tryz.prog 18 = 8 := by kernel_rfl
theorem k18 : Tk Tryz.prog 18 = some true := by kernel_rfl
theorem f18_0 : Tfld Tryz.prog 18 0 = some (0, 17) := by kernel_rfl
theorem p18 : Tplc Tryz.prog 18 = some [(0, 1)] := by kernel_rfl
theorem c19 : Program.cellsOf Tryz.prog 19 = 1 := by kernel_rfl
theorem b19 : Program.bytesOf Tryz.prog 19 = 8 := by kernel_rfl
theorem k19 : Tk Tryz.prog 19 = some true := by kernel_rfl
theorem f19_0 : Tfld Tryz.prog 19 0 = some (0, 17) := by kernel_rfl
theorem p19 : Tplc Tryz.prog 19 = some [(0, 1)] := by kernel_rfl
theorem c20 : Program.cellsOf Tryz.prog 20 = 1 := by kernel_rfl
theorem b20 : Program.bytesOf Tryz.prog 20 = 16 := by kernel_rfl
theorem k20 : Tk Tryz.prog 20 = some false := by kernel_rfl
theorem c21 : Program.cellsOf Tryz.prog 21 = 1 := by kernel_rfl
theorem b21 : Program.bytesOf Tryz.prog 21 = 4 := by kernel_rfl
theorem k21 : Tk Tryz.prog 21 = some false := by kernel_rfl
theorem z21 : Tzero Tryz.prog 21 = some [.int .i32 0] := by kernel_rfl
theorem a21 : TzeroA Tryz.prog 21 = some [.dv (.d (.int .i32 0))] := by kernel_rfl
theorem o21 : Tone Tryz.prog 21 = some (.int .i32 0, 4) := by kernel_rfl
theorem c22 : Program.cellsOf Tryz.prog 22 = 1 := by kernel_rfl
theorem b22 : Program.bytesOf Tryz.prog 22 = 24 := by kernel_rfl
theorem k22 : Tk Tryz.prog 22 = some false := by kernel_rfl
theorem z22 : Tzero Tryz.prog 22 = some [.sl []] := by kernel_rfl
theorem a22 : TzeroA Tryz.prog 22 = some [.nil] := by kernel_rfl
theorem o22 : Tone Tryz.prog 22 = some (.sl [], 24) := by kernel_rfl
theorem c23 : Program.cellsOf Tryz.prog 23 = 1 := by kernel_rfl
theorem b23 : Program.bytesOf Tryz.prog 23 = 8 := by kernel_rfl
theorem k23 : Tk Tryz.prog 23 = some false := by kernel_rfl
theorem c24 : Program.cellsOf Tryz.prog 24 = 2 := by kernel_rfl
theorem b24 : Program.bytesOf Tryz.prog 24 = 32 := by kernel_rfl
theorem k24 : Tk Tryz.prog 24 = some true := by kernel_rfl
theorem z24 : Tzero Tryz.prog 24 = some [.sl [], .int .i64 0] := by kernel_rfl
theorem a24 : TzeroA Tryz.prog 24 = some [.nil, .dv (.d (.int .i64 0))] := by kernel_rfl
theorem f24_0 : Tfld Tryz.prog 24 0 = some (0, 22) := by kernel_rfl
theorem f24_1 : Tfld Tryz.prog 24 1 = some (1, 3) := by kernel_rfl
theorem p24 : Tplc Tryz.prog 24 = some [(0, 1), (1, 1)] := by kernel_rfl
theorem c25 : Program.cellsOf Tryz.prog 25 = 2 := by kernel_rfl
theorem b25 : Program.bytesOf Tryz.prog 25 = 32 := by kernel_rfl
theorem k25 : Tk Tryz.prog 25 = some true := by kernel_rfl
theorem z25 : Tzero Tryz.prog 25 = some [.sl [], .int .i64 0] := by kernel_rfl
theorem a25 : TzeroA Tryz.prog 25 = some [.nil, .dv (.d (.int .i64 0))] := by kernel_rfl
theorem f25_0 : Tfld Tryz.prog 25 0 = some (0, 22) := by kernel_rfl
theorem f25_1 : Tfld Tryz.prog 25 1 = some (1, 3) := by kernel_rfl
theorem p25 : Tplc Tryz.prog 25 = some [(0, 1), (1, 1)] := by kernel_rfl
theorem c26 : Program.cellsOf Tryz.prog 26 = 1 := by kernel_rfl
theorem b26 : Program.bytesOf Tryz.prog 26 = 24 := by kernel_rfl
theorem k26 : Tk Tryz.prog 26 = some false := by kernel_rfl
theorem z26 : Tzero Tryz.prog 26 = some [.sl []] := by kernel_rfl
theorem a26 : TzeroA Tryz.prog 26 = some [.nil] := by kernel_rfl
theorem o26 : Tone Tryz.prog 26 = some (.sl [], 24) := by kernel_rfl
theorem c27 : Program.cellsOf Tryz.prog 27 = 2 := by kernel_rfl
theorem b27 : Program.bytesOf Tryz.prog 27 = 40 := by kernel_rfl
theorem k27 : Tk Tryz.prog 27 = some true := by kernel_rfl
theorem z27 : Tzero Tryz.prog 27 = some [.str ⟨#[]⟩, .sl []] := by kernel_rfl
theorem a27 : TzeroA Tryz.prog 27 = some [.dv (.d (.str ⟨#[]⟩)), .nil] := by kernel_rfl
theorem f27_0 : Tfld Tryz.prog 27 0 = some (0, 9) := by kernel_rfl
theorem f27_1 : Tfld Tryz.prog 27 1 = some (1, 26) := by kernel_rfl
theorem p27 : Tplc Tryz.prog 27 = some [(0, 1), (1, 1)] := by kernel_rfl
theorem c28 : Program.cellsOf Tryz.prog 28 = 2 := by kernel_rfl
theorem b28 : Program.bytesOf Tryz.prog 28 = 40 := by kernel_rfl
theorem k28 : Tk Tryz.prog 28 = some true := by kernel_rfl
theorem z28 : Tzero Tryz.prog 28 = some [.str ⟨#[]⟩, .sl []] := by kernel_rfl
theorem a28 : TzeroA Tryz.prog 28 = some [.dv (.d (.str ⟨#[]⟩)), .nil] := by kernel_rfl
theorem f28_0 : Tfld Tryz.prog 28 0 = some (0, 9) := by kernel_rfl
theorem f28_1 : Tfld Tryz.prog 28 1 = some (1, 26) := by kernel_rfl
theorem p28 : Tplc Tryz.prog 28 = some [(0, 1), (1, 1)] := by kernel_rfl
theorem c29 : Program.cellsOf Tryz.prog 29 = 1 := by kernel_rfl
theorem b29 : Program.bytesOf Tryz.prog 29 = 8 := by kernel_rfl
theorem k29 : Tk Tryz.prog 29 = some false := by kernel_rfl
theorem c30 : Program.cellsOf Tryz.prog 30 = 1 := by kernel_rfl
theorem b30 : Program.bytesOf Tryz.prog 30 = 8 := by kernel_rfl
theorem k30 : Tk Tryz.prog 30 = some false := by kernel_rfl
theorem c31 : Program.cellsOf Tryz.prog 31 = 1 := by kernel_rfl
theorem b31 : Program.bytesOf Tryz.prog 31 = 8 := by kernel_rfl
theorem k31 : Tk Tryz.prog 31 = some false := by kernel_rfl
theorem c32 : Program.cellsOf Tryz.prog 32 = 1 := by kernel_rfl
theorem b32 : Program.bytesOf Tryz.prog 32 = 8 := by kernel_rfl
theorem k32 : Tk Tryz.prog 32 = some false := by kernel_rfl
theorem z32 : Tzero Tryz.prog 32 = some [.int .i64 0] := by kernel_rfl
theorem a32 : TzeroA Tryz.prog 32 = some [.dv (.d (.int .i64 0))] := by kernel_rfl
theorem o32 : Tone Tryz.prog 32 = some (.int .i64 0, 8) := by kernel_rfl
theorem c33 : Program.cellsOf Tryz.prog 33 = 1 := by kernel_rfl
theorem b33 : Program.bytesOf Tryz.prog 33 = 0 := by kernel_rfl
theorem k33 : Tk Tryz.prog 33 = some false := by kernel_rfl
theorem c34 : Program.cellsOf Tryz.prog 34 = 1 := by kernel_rfl
theorem b34 : Program.bytesOf Tryz.prog 34 = 8 := by kernel_rfl
theorem k34 : Tk Tryz.prog 34 = some false := by kernel_rfl
theorem c35 : Program.cellsOf Tryz.prog 35 = 1 := by kernel_rfl
theorem b35 : Program.bytesOf Tryz.prog 35 = 8 := by kernel_rfl
theorem k35 : Tk Tryz.prog 35 = some false := by kernel_rfl
theorem c36 : Program.cellsOf Tryz.prog 36 = 1 := by kernel_rfl
theorem b36 : Program.bytesOf Tryz.prog 36 = 8 := by kernel_rfl
theorem k36 : Tk Tryz.prog 36 = some false := by kernel_rfl
theorem c37 : Program.cellsOf Tryz.prog 37 = 1 := by kernel_rfl
theorem b37 : Program.bytesOf Tryz.prog 37 = 8 := by kernel_rfl
theorem k37 : Tk Tryz.prog 37 = some false := by kernel_rfl
theorem c38 : Program.cellsOf Tryz.prog 38 = 1 := by kernel_rfl
theorem b38 : Program.bytesOf Tryz.prog 38 = 8 := by kernel_rfl
theorem k38 : Tk Tryz.prog 38 = some false := by kernel_rfl
theorem c39 : Program.cellsOf Tryz.prog 39 = 1 := by kernel_rfl
theorem b39 : Program.bytesOf Tryz.prog 39 = 8 := by kernel_rfl
theorem k39 : Tk Tryz.prog 39 = some false := by kernel_rfl
theorem c40 : Program.cellsOf Tryz.prog 40 = 1 := by kernel_rfl
theorem b40 : Program.bytesOf Tryz.prog 40 = 0 := by kernel_rfl
theorem k40 : Tk Tryz.prog 40 = some false := by kernel_rfl
theorem c41 : Program.cellsOf Tryz.prog 41 = 1 := by kernel_rfl
theorem b41 : Program.bytesOf Tryz.prog 41 = 8 := by kernel_rfl
theorem k41 : Tk Tryz.prog 41 = some false := by kernel_rfl
theorem c42 : Program.cellsOf Tryz.prog 42 = 1 := by kernel_rfl
theorem b42 : Program.bytesOf Tryz.prog 42 = 8 := by kernel_rfl
theorem k42 : Tk Tryz.prog 42 = some false := by kernel_rfl
theorem c43 : Program.cellsOf Tryz.prog 43 = 1 := by kernel_rfl
theorem b43 : Program.bytesOf Tryz.prog 43 = 24 := by kernel_rfl
theorem k43 : Tk Tryz.prog 43 = some false := by kernel_rfl
theorem z43 : Tzero Tryz.prog 43 = some [.sl []] := by kernel_rfl
theorem a43 : TzeroA Tryz.prog 43 = some [.nil] := by kernel_rfl
theorem o43 : Tone Tryz.prog 43 = some (.sl [], 24) := by kernel_rfl
theorem c44 : Program.cellsOf Tryz.prog 44 = 1 := by kernel_rfl
theorem b44 : Program.bytesOf Tryz.prog 44 = 8 := by kernel_rfl
theorem k44 : Tk Tryz.prog 44 = some false := by kernel_rfl
theorem c45 : Program.cellsOf Tryz.prog 45 = 2 := by kernel_rfl
theorem b45 : Program.bytesOf Tryz.prog 45 = 24 := by kernel_rfl
theorem k45 : Tk Tryz.prog 45 = some true := by kernel_rfl
theorem z45 : Tzero Tryz.prog 45 = some [.int .i64 0, .str ⟨#[]⟩] := by kernel_rfl
theorem a45 : TzeroA Tryz.prog 45 = some [.dv (.d (.int .i64 0)), .dv (.d (.str ⟨#[]⟩))] := by kernel_rfl
theorem e45 : eqT Tryz.prog 45 = some [.i .i64, .s] := by kernel_rfl
theorem f45_0 : Tfld Tryz.prog 45 0 = some (0, 3) := by kernel_rfl
theorem f45_1 : Tfld Tryz.prog 45 1 = some (1, 9) := by kernel_rfl
theorem p45 : Tplc Tryz.prog 45 = some [(0, 1), (1, 1)] := by kernel_rfl
theorem c46 : Program.cellsOf Tryz.prog 46 = 2 := by kernel_rfl
theorem b46 : Program.bytesOf Tryz.prog 46 = 24 := by kernel_rfl
theorem k46 : Tk Tryz.prog 46 = some true := by kernel_rfl
theorem z46 : Tzero Tryz.prog 46 = some [.int .i64 0, .str ⟨#[]⟩] := by kernel_rfl
theorem a46 : TzeroA Tryz.prog 46 = some [.dv (.d (.int .i64 0)), .dv (.d (.str ⟨#[]⟩))] := by kernel_rfl
theorem e46 : eqT Tryz.prog 46 = some [.i .i64, .s] := by kernel_rfl
theorem f46_0 : Tfld Tryz.prog 46 0 = some (0, 3) := by kernel_rfl
theorem f46_1 : Tfld Tryz.prog 46 1 = some (1, 9) := by kernel_rfl
theorem p46 : Tplc Tryz.prog 46 = some [(0, 1), (1, 1)] := by kernel_rfl
theorem c47 : Program.cellsOf Tryz.prog 47 = 1 := by kernel_rfl
theorem b47 : Program.bytesOf Tryz.prog 47 = 24 := by kernel_rfl
theorem k47 : Tk Tryz.prog 47 = some false := by kernel_rfl
theorem z47 : Tzero Tryz.prog 47 = some [.sl []] := by kernel_rfl
theorem a47 : TzeroA Tryz.prog 47 = some [.nil] := by kernel_rfl
theorem o47 : Tone Tryz.prog 47 = some (.sl [], 24) := by kernel_rfl
theorem c48 : Program.cellsOf Tryz.prog 48 = 6 := by kernel_rfl
theorem b48 : Program.bytesOf Tryz.prog 48 = 88 := by kernel_rfl
theorem k48 : Tk Tryz.prog 48 = some true := by kernel_rfl
theorem z48 : Tzero Tryz.prog 48 = some [.str ⟨#[]⟩, .str ⟨#[]⟩, .int .i64 0, .int .i64 0, .str ⟨#[]⟩, .sl []] := by kernel_rfl
theorem a48 : TzeroA Tryz.prog 48 = some [.dv (.d (.str ⟨#[]⟩)), .dv (.d (.str ⟨#[]⟩)), .dv (.d (.int .i64 0)), .dv (.d (.int .i64 0)), .dv (.d (.str ⟨#[]⟩)), .nil] := by kernel_rfl
theorem f48_0 : Tfld Tryz.prog 48 0 = some (0, 9) := by kernel_rfl
theorem f48_1 : Tfld Tryz.prog 48 1 = some (1, 9) := by kernel_rfl
theorem f48_2 : Tfld Tryz.prog 48 2 = some (2, 3) := by kernel_rfl
theorem f48_3 : Tfld Tryz.prog 48 3 = some (3, 46) := by kernel_rfl
theorem f48_4 : Tfld Tryz.prog 48 4 = some (5, 47) := by kernel_rfl
theorem p48 : Tplc Tryz.prog 48 = some [(0, 1), (1, 1), (2, 1), (3, 2), (5, 1)] := by kernel_rfl
theorem c49 : Program.cellsOf Tryz.prog 49 = 6 := by kernel_rfl
theorem b49 : Program.bytesOf Tryz.prog 49 = 88 := by kernel_rfl
theorem k49 : Tk Tryz.prog 49 = some true := by kernel_rfl
theorem z49 : Tzero Tryz.prog 49 = some [.str ⟨#[]⟩, .str ⟨#[]⟩, .int .i64 0, .int .i64 0, .str ⟨#[]⟩, .sl []] := by kernel_rfl
theorem a49 : TzeroA Tryz.prog 49 = some [.dv (.d (.str ⟨#[]⟩)), .dv (.d (.str ⟨#[]⟩)), .dv (.d (.int .i64 0)), .dv (.d (.int .i64 0)), .dv (.d (.str ⟨#[]⟩)), .nil] := by kernel_rfl
theorem f49_0 : Tfld Tryz.prog 49 0 = some (0, 9) := by kernel_rfl
theorem f49_1 : Tfld Tryz.prog 49 1 = some (1, 9) := by kernel_rfl
theorem f49_2 : Tfld Tryz.prog 49 2 = some (2, 3) := by kernel_rfl
theorem f49_3 : Tfld Tryz.prog 49 3 = some (3, 46) := by kernel_rfl
theorem f49_4 : Tfld Tryz.prog 49 4 = some (5, 47) := by kernel_rfl
theorem p49 : Tplc Tryz.prog 49 = some [(0, 1), (1, 1), (2, 1), (3, 2), (5, 1)] := by kernel_rfl
theorem c50 : Program.cellsOf Tryz.prog 50 = 1 := by kernel_rfl
theorem b50 : Program.bytesOf Tryz.prog 50 = 8 := by kernel_rfl
theorem k50 : Tk Tryz.prog 50 = some false := by kernel_rfl
theorem c51 : Program.cellsOf Tryz.prog 51 = 1 := by kernel_rfl
theorem b51 : Program.bytesOf Tryz.prog 51 = 8 := by kernel_rfl
theorem k51 : Tk Tryz.prog 51 = some false := by kernel_rfl
theorem c52 : Program.cellsOf Tryz.prog 52 = 1 := by kernel_rfl
theorem b52 : Program.bytesOf Tryz.prog 52 = 8 := by kernel_rfl
theorem k52 : Tk Tryz.prog 52 = some false := by kernel_rfl
theorem c53 : Program.cellsOf Tryz.prog 53 = 1 := by kernel_rfl
theorem b53 : Program.bytesOf Tryz.prog 53 = 8 := by kernel_rfl
theorem k53 : Tk Tryz.prog 53 = some false := by kernel_rfl
theorem c54 : Program.cellsOf Tryz.prog 54 = 1 := by kernel_rfl
theorem b54 : Program.bytesOf Tryz.prog 54 = 24 := by kernel_rfl
theorem k54 : Tk Tryz.prog 54 = some false := by kernel_rfl
theorem z54 : Tzero Tryz.prog 54 = some [.sl []] := by kernel_rfl
theorem a54 : TzeroA Tryz.prog 54 = some [.nil] := by kernel_rfl
theorem o54 : Tone Tryz.prog 54 = some (.sl [], 24) := by kernel_rfl
theorem c55 : Program.cellsOf Tryz.prog 55 = 1 := by kernel_rfl
theorem b55 : Program.bytesOf Tryz.prog 55 = 8 := by kernel_rfl
theorem k55 : Tk Tryz.prog 55 = some false := by kernel_rfl
theorem c56 : Program.cellsOf Tryz.prog 56 = 1 := by kernel_rfl
theorem b56 : Program.bytesOf Tryz.prog 56 = 24 := by kernel_rfl
theorem k56 : Tk Tryz.prog 56 = some false := by kernel_rfl
theorem z56 : Tzero Tryz.prog 56 = some [.sl []] := by kernel_rfl
theorem a56 : TzeroA Tryz.prog 56 = some [.nil] := by kernel_rfl
theorem o56 : Tone Tryz.prog 56 = some (.sl [], 24) := by kernel_rfl
theorem c57 : Program.cellsOf Tryz.prog 57 = 1 := by kernel_rfl
theorem b57 : Program.bytesOf Tryz.prog 57 = 8 := by kernel_rfl
theorem k57 : Tk Tryz.prog 57 = some false := by kernel_rfl
theorem c58 : Program.cellsOf Tryz.prog 58 = 1 := by kernel_rfl
theorem b58 : Program.bytesOf Tryz.prog 58 = 8 := by kernel_rfl
theorem k58 : Tk Tryz.prog 58 = some false := by kernel_rfl
theorem c59 : Program.cellsOf Tryz.prog 59 = 6 := by kernel_rfl
theorem b59 : Program.bytesOf Tryz.prog 59 = 72 := by kernel_rfl
theorem k59 : Tk Tryz.prog 59 = some true := by kernel_rfl
theorem z59 : Tzero Tryz.prog 59 = some [.int .i64 0, .str ⟨#[]⟩, .str ⟨#[]⟩, .str ⟨#[]⟩, .int .i64 0, .int .i64 0] := by kernel_rfl
theorem a59 : TzeroA Tryz.prog 59 = some [.dv (.d (.int .i64 0)), .dv (.d (.str ⟨#[]⟩)), .dv (.d (.str ⟨#[]⟩)), .dv (.d (.str ⟨#[]⟩)), .dv (.d (.int .i64 0)), .dv (.d (.int .i64 0))] := by kernel_rfl
theorem e59 : eqT Tryz.prog 59 = some [.i .i64, .s, .s, .s, .i .i64, .i .i64] := by kernel_rfl
theorem f59_0 : Tfld Tryz.prog 59 0 = some (0, 46) := by kernel_rfl
theorem f59_1 : Tfld Tryz.prog 59 1 = some (2, 9) := by kernel_rfl
theorem f59_2 : Tfld Tryz.prog 59 2 = some (3, 9) := by kernel_rfl
theorem f59_3 : Tfld Tryz.prog 59 3 = some (4, 3) := by kernel_rfl
theorem f59_4 : Tfld Tryz.prog 59 4 = some (5, 3) := by kernel_rfl
theorem p59 : Tplc Tryz.prog 59 = some [(0, 2), (2, 1), (3, 1), (4, 1), (5, 1)] := by kernel_rfl
theorem c60 : Program.cellsOf Tryz.prog 60 = 6 := by kernel_rfl
theorem b60 : Program.bytesOf Tryz.prog 60 = 72 := by kernel_rfl
theorem k60 : Tk Tryz.prog 60 = some true := by kernel_rfl
theorem z60 : Tzero Tryz.prog 60 = some [.int .i64 0, .str ⟨#[]⟩, .str ⟨#[]⟩, .str ⟨#[]⟩, .int .i64 0, .int .i64 0] := by kernel_rfl
theorem a60 : TzeroA Tryz.prog 60 = some [.dv (.d (.int .i64 0)), .dv (.d (.str ⟨#[]⟩)), .dv (.d (.str ⟨#[]⟩)), .dv (.d (.str ⟨#[]⟩)), .dv (.d (.int .i64 0)), .dv (.d (.int .i64 0))] := by kernel_rfl
theorem e60 : eqT Tryz.prog 60 = some [.i .i64, .s, .s, .s, .i .i64, .i .i64] := by kernel_rfl
theorem f60_0 : Tfld Tryz.prog 60 0 = some (0, 46) := by kernel_rfl
theorem f60_1 : Tfld Tryz.prog 60 1 = some (2, 9) := by kernel_rfl
theorem f60_2 : Tfld Tryz.prog 60 2 = some (3, 9) := by kernel_rfl
theorem f60_3 : Tfld Tryz.prog 60 3 = some (4, 3) := by kernel_rfl
theorem f60_4 : Tfld Tryz.prog 60 4 = some (5, 3) := by kernel_rfl
theorem p60 : Tplc Tryz.prog 60 = some [(0, 2), (2, 1), (3, 1), (4, 1), (5, 1)] := by kernel_rfl
theorem c61 : Program.cellsOf Tryz.prog 61 = 1 := by kernel_rfl
theorem b61 : Program.bytesOf Tryz.prog 61 = 0 := by kernel_rfl
theorem k61 : Tk Tryz.prog 61 = some false := by kernel_rfl
theorem c62 : Program.cellsOf Tryz.prog 62 = 1 := by kernel_rfl
theorem b62 : Program.bytesOf Tryz.prog 62 = 8 := by kernel_rfl
theorem k62 : Tk Tryz.prog 62 = some false := by kernel_rfl
theorem c63 : Program.cellsOf Tryz.prog 63 = 3 := by kernel_rfl
theorem b63 : Program.bytesOf Tryz.prog 63 = 24 := by kernel_rfl
theorem k63 : Tk Tryz.prog 63 = some true := by kernel_rfl
theorem z63 : Tzero Tryz.prog 63 = some [.bool false, .int .i64 0, .int .i64 0] := by kernel_rfl
theorem a63 : TzeroA Tryz.prog 63 = some [.dv (.d (.bool false)), .dv (.d (.int .i64 0)), .dv (.d (.int .i64 0))] := by kernel_rfl
theorem e63 : eqT Tryz.prog 63 = some [.b, .i .i64, .i .i64] := by kernel_rfl
theorem f63_0 : Tfld Tryz.prog 63 0 = some (0, 4) := by kernel_rfl
theorem f63_1 : Tfld Tryz.prog 63 1 = some (1, 3) := by kernel_rfl
theorem f63_2 : Tfld Tryz.prog 63 2 = some (2, 3) := by kernel_rfl
theorem p63 : Tplc Tryz.prog 63 = some [(0, 1), (1, 1), (2, 1)] := by kernel_rfl
theorem c64 : Program.cellsOf Tryz.prog 64 = 3 := by kernel_rfl
theorem b64 : Program.bytesOf Tryz.prog 64 = 24 := by kernel_rfl
theorem k64 : Tk Tryz.prog 64 = some true := by kernel_rfl
theorem z64 : Tzero Tryz.prog 64 = some [.bool false, .int .i64 0, .int .i64 0] := by kernel_rfl
theorem a64 : TzeroA Tryz.prog 64 = some [.dv (.d (.bool false)), .dv (.d (.int .i64 0)), .dv (.d (.int .i64 0))] := by kernel_rfl
theorem e64 : eqT Tryz.prog 64 = some [.b, .i .i64, .i .i64] := by kernel_rfl
theorem f64_0 : Tfld Tryz.prog 64 0 = some (0, 4) := by kernel_rfl
theorem f64_1 : Tfld Tryz.prog 64 1 = some (1, 3) := by kernel_rfl
theorem f64_2 : Tfld Tryz.prog 64 2 = some (2, 3) := by kernel_rfl
theorem p64 : Tplc Tryz.prog 64 = some [(0, 1), (1, 1), (2, 1)] := by kernel_rfl
theorem c65 : Program.cellsOf Tryz.prog 65 = 1 := by kernel_rfl
theorem b65 : Program.bytesOf Tryz.prog 65 = 0 := by kernel_rfl
theorem k65 : Tk Tryz.prog 65 = some false := by kernel_rfl
theorem c66 : Program.cellsOf Tryz.prog 66 = 1 := by kernel_rfl
theorem b66 : Program.bytesOf Tryz.prog 66 = 8 := by kernel_rfl
theorem k66 : Tk Tryz.prog 66 = some false := by kernel_rfl
theorem c67 : Program.cellsOf Tryz.prog 67 = 1 := by kernel_rfl
theorem b67 : Program.bytesOf Tryz.prog 67 = 8 := by kernel_rfl
theorem k67 : Tk Tryz.prog 67 = some false := by kernel_rfl
theorem c68 : Program.cellsOf Tryz.prog 68 = 1 := by kernel_rfl
theorem b68 : Program.bytesOf Tryz.prog 68 = 8 := by kernel_rfl
theorem k68 : Tk Tryz.prog 68 = some false := by kernel_rfl
theorem c69 : Program.cellsOf Tryz.prog 69 = 1 := by kernel_rfl
theorem b69 : Program.bytesOf Tryz.prog 69 = 8 := by kernel_rfl
theorem k69 : Tk Tryz.prog 69 = some false := by kernel_rfl
theorem c70 : Program.cellsOf Tryz.prog 70 = 5 := by kernel_rfl
theorem b70 : Program.bytesOf Tryz.prog 70 = 48 := by kernel_rfl
theorem k70 : Tk Tryz.prog 70 = some true := by kernel_rfl
theorem z70 : Tzero Tryz.prog 70 = some [.str ⟨#[]⟩, .int .i64 0, .bool false, .int .i64 0, .int .i64 0] := by kernel_rfl
theorem a70 : TzeroA Tryz.prog 70 = some [.dv (.d (.str ⟨#[]⟩)), .dv (.d (.int .i64 0)), .dv (.d (.bool false)), .dv (.d (.int .i64 0)), .dv (.d (.int .i64 0))] := by kernel_rfl
theorem e70 : eqT Tryz.prog 70 = some [.s, .i .i64, .b, .i .i64, .i .i64] := by kernel_rfl
theorem f70_0 : Tfld Tryz.prog 70 0 = some (0, 9) := by kernel_rfl
theorem f70_1 : Tfld Tryz.prog 70 1 = some (1, 3) := by kernel_rfl
theorem f70_2 : Tfld Tryz.prog 70 2 = some (2, 4) := by kernel_rfl
theorem f70_3 : Tfld Tryz.prog 70 3 = some (3, 3) := by kernel_rfl
theorem f70_4 : Tfld Tryz.prog 70 4 = some (4, 3) := by kernel_rfl
theorem p70 : Tplc Tryz.prog 70 = some [(0, 1), (1, 1), (2, 1), (3, 1), (4, 1)] := by kernel_rfl
theorem c71 : Program.cellsOf Tryz.prog 71 = 5 := by kernel_rfl
theorem b71 : Program.bytesOf Tryz.prog 71 = 48 := by kernel_rfl
theorem k71 : Tk Tryz.prog 71 = some true := by kernel_rfl
theorem z71 : Tzero Tryz.prog 71 = some [.str ⟨#[]⟩, .int .i64 0, .bool false, .int .i64 0, .int .i64 0] := by kernel_rfl
theorem a71 : TzeroA Tryz.prog 71 = some [.dv (.d (.str ⟨#[]⟩)), .dv (.d (.int .i64 0)), .dv (.d (.bool false)), .dv (.d (.int .i64 0)), .dv (.d (.int .i64 0))] := by kernel_rfl
theorem e71 : eqT Tryz.prog 71 = some [.s, .i .i64, .b, .i .i64, .i .i64] := by kernel_rfl
theorem f71_0 : Tfld Tryz.prog 71 0 = some (0, 9) := by kernel_rfl
theorem f71_1 : Tfld Tryz.prog 71 1 = some (1, 3) := by kernel_rfl
theorem f71_2 : Tfld Tryz.prog 71 2 = some (2, 4) := by kernel_rfl
theorem f71_3 : Tfld Tryz.prog 71 3 = some (3, 3) := by kernel_rfl
theorem f71_4 : Tfld Tryz.prog 71 4 = some (4, 3) := by kernel_rfl
theorem p71 : Tplc Tryz.prog 71 = some [(0, 1), (1, 1), (2, 1), (3, 1), (4, 1)] := by kernel_rfl
theorem c72 : Program.cellsOf Tryz.prog 72 = 1 := by kernel_rfl
theorem b72 : Program.bytesOf Tryz.prog 72 = 0 := by kernel_rfl
theorem k72 : Tk Tryz.prog 72 = some false := by kernel_rfl
theorem c73 : Program.cellsOf Tryz.prog 73 = 1 := by kernel_rfl
theorem b73 : Program.bytesOf Tryz.prog 73 = 8 := by kernel_rfl
theorem k73 : Tk Tryz.prog 73 = some false := by kernel_rfl
theorem c74 : Program.cellsOf Tryz.prog 74 = 1 := by kernel_rfl
theorem b74 : Program.bytesOf Tryz.prog 74 = 8 := by kernel_rfl
theorem k74 : Tk Tryz.prog 74 = some false := by kernel_rfl
theorem c75 : Program.cellsOf Tryz.prog 75 = 1 := by kernel_rfl
theorem b75 : Program.bytesOf Tryz.prog 75 = 8 := by kernel_rfl
theorem k75 : Tk Tryz.prog 75 = some false := by kernel_rfl
theorem c76 : Program.cellsOf Tryz.prog 76 = 1 := by kernel_rfl
theorem b76 : Program.bytesOf Tryz.prog 76 = 8 := by kernel_rfl
theorem k76 : Tk Tryz.prog 76 = some false := by kernel_rfl
theorem c77 : Program.cellsOf Tryz.prog 77 = 2 := by kernel_rfl
theorem b77 : Program.bytesOf Tryz.prog 77 = 16 := by kernel_rfl
theorem k77 : Tk Tryz.prog 77 = some true := by kernel_rfl
theorem z77 : Tzero Tryz.prog 77 = some [.int .i64 0, .int .i64 0] := by kernel_rfl
theorem a77 : TzeroA Tryz.prog 77 = some [.dv (.d (.int .i64 0)), .dv (.d (.int .i64 0))] := by kernel_rfl
theorem e77 : eqT Tryz.prog 77 = some [.i .i64, .i .i64] := by kernel_rfl
theorem f77_0 : Tfld Tryz.prog 77 0 = some (0, 3) := by kernel_rfl
theorem f77_1 : Tfld Tryz.prog 77 1 = some (1, 3) := by kernel_rfl
theorem p77 : Tplc Tryz.prog 77 = some [(0, 1), (1, 1)] := by kernel_rfl
theorem c78 : Program.cellsOf Tryz.prog 78 = 2 := by kernel_rfl
theorem b78 : Program.bytesOf Tryz.prog 78 = 16 := by kernel_rfl
theorem k78 : Tk Tryz.prog 78 = some true := by kernel_rfl
theorem z78 : Tzero Tryz.prog 78 = some [.int .i64 0, .int .i64 0] := by kernel_rfl
theorem a78 : TzeroA Tryz.prog 78 = some [.dv (.d (.int .i64 0)), .dv (.d (.int .i64 0))] := by kernel_rfl
theorem e78 : eqT Tryz.prog 78 = some [.i .i64, .i .i64] := by kernel_rfl
theorem f78_0 : Tfld Tryz.prog 78 0 = some (0, 3) := by kernel_rfl
theorem f78_1 : Tfld Tryz.prog 78 1 = some (1, 3) := by kernel_rfl
theorem p78 : Tplc Tryz.prog 78 = some [(0, 1), (1, 1)] := by kernel_rfl
theorem c79 : Program.cellsOf Tryz.prog 79 = 1 := by kernel_rfl
theorem b79 : Program.bytesOf Tryz.prog 79 = 8 := by kernel_rfl
theorem k79 : Tk Tryz.prog 79 = some false := by kernel_rfl
theorem c80 : Program.cellsOf Tryz.prog 80 = 1 := by kernel_rfl
theorem b80 : Program.bytesOf Tryz.prog 80 = 8 := by kernel_rfl
theorem k80 : Tk Tryz.prog 80 = some false := by kernel_rfl
theorem c81 : Program.cellsOf Tryz.prog 81 = 1 := by kernel_rfl
theorem b81 : Program.bytesOf Tryz.prog 81 = 0 := by kernel_rfl
theorem k81 : Tk Tryz.prog 81 = some false := by kernel_rfl
theorem c82 : Program.cellsOf Tryz.prog 82 = 1 := by kernel_rfl
theorem b82 : Program.bytesOf Tryz.prog 82 = 8 := by kernel_rfl
theorem k82 : Tk Tryz.prog 82 = some false := by kernel_rfl
theorem c83 : Program.cellsOf Tryz.prog 83 = 1 := by kernel_rfl
theorem b83 : Program.bytesOf Tryz.prog 83 = 8 := by kernel_rfl
theorem k83 : Tk Tryz.prog 83 = some false := by kernel_rfl
theorem c84 : Program.cellsOf Tryz.prog 84 = 1 := by kernel_rfl
theorem b84 : Program.bytesOf Tryz.prog 84 = 8 := by kernel_rfl
theorem k84 : Tk Tryz.prog 84 = some false := by kernel_rfl
theorem c85 : Program.cellsOf Tryz.prog 85 = 1 := by kernel_rfl
theorem b85 : Program.bytesOf Tryz.prog 85 = 8 := by kernel_rfl
theorem k85 : Tk Tryz.prog 85 = some false := by kernel_rfl
theorem c86 : Program.cellsOf Tryz.prog 86 = 4 := by kernel_rfl
theorem b86 : Program.bytesOf Tryz.prog 86 = 64 := by kernel_rfl
theorem k86 : Tk Tryz.prog 86 = some true := by kernel_rfl
theorem z86 : Tzero Tryz.prog 86 = some [.str ⟨#[]⟩, .str ⟨#[]⟩, .str ⟨#[]⟩, .str ⟨#[]⟩] := by kernel_rfl
theorem a86 : TzeroA Tryz.prog 86 = some [.dv (.d (.str ⟨#[]⟩)), .dv (.d (.str ⟨#[]⟩)), .dv (.d (.str ⟨#[]⟩)), .dv (.d (.str ⟨#[]⟩))] := by kernel_rfl
theorem p86 : Tplc Tryz.prog 86 = some [(0, 1), (1, 1), (2, 1), (3, 1)] := by kernel_rfl
theorem c87 : Program.cellsOf Tryz.prog 87 = 1 := by kernel_rfl
theorem b87 : Program.bytesOf Tryz.prog 87 = 24 := by kernel_rfl
theorem k87 : Tk Tryz.prog 87 = some false := by kernel_rfl
theorem z87 : Tzero Tryz.prog 87 = some [.sl []] := by kernel_rfl
theorem a87 : TzeroA Tryz.prog 87 = some [.nil] := by kernel_rfl
theorem o87 : Tone Tryz.prog 87 = some (.sl [], 24) := by kernel_rfl
theorem c88 : Program.cellsOf Tryz.prog 88 = 2 := by kernel_rfl
theorem b88 : Program.bytesOf Tryz.prog 88 = 40 := by kernel_rfl
theorem k88 : Tk Tryz.prog 88 = some true := by kernel_rfl
theorem z88 : Tzero Tryz.prog 88 = some [.str ⟨#[]⟩, .sl []] := by kernel_rfl
theorem a88 : TzeroA Tryz.prog 88 = some [.dv (.d (.str ⟨#[]⟩)), .nil] := by kernel_rfl
theorem f88_0 : Tfld Tryz.prog 88 0 = some (0, 9) := by kernel_rfl
theorem f88_1 : Tfld Tryz.prog 88 1 = some (1, 87) := by kernel_rfl
theorem p88 : Tplc Tryz.prog 88 = some [(0, 1), (1, 1)] := by kernel_rfl
theorem c89 : Program.cellsOf Tryz.prog 89 = 2 := by kernel_rfl
theorem b89 : Program.bytesOf Tryz.prog 89 = 40 := by kernel_rfl
theorem k89 : Tk Tryz.prog 89 = some true := by kernel_rfl
theorem z89 : Tzero Tryz.prog 89 = some [.str ⟨#[]⟩, .sl []] := by kernel_rfl
theorem a89 : TzeroA Tryz.prog 89 = some [.dv (.d (.str ⟨#[]⟩)), .nil] := by kernel_rfl
theorem f89_0 : Tfld Tryz.prog 89 0 = some (0, 9) := by kernel_rfl
theorem f89_1 : Tfld Tryz.prog 89 1 = some (1, 87) := by kernel_rfl
theorem p89 : Tplc Tryz.prog 89 = some [(0, 1), (1, 1)] := by kernel_rfl
theorem c90 : Program.cellsOf Tryz.prog 90 = 6 := by kernel_rfl
theorem b90 : Program.bytesOf Tryz.prog 90 = 96 := by kernel_rfl
theorem k90 : Tk Tryz.prog 90 = some true := by kernel_rfl
theorem z90 : Tzero Tryz.prog 90 = some [.str ⟨#[]⟩, .str ⟨#[]⟩, .str ⟨#[]⟩, .str ⟨#[]⟩, .str ⟨#[]⟩, .str ⟨#[]⟩] := by kernel_rfl
theorem a90 : TzeroA Tryz.prog 90 = some [.dv (.d (.str ⟨#[]⟩)), .dv (.d (.str ⟨#[]⟩)), .dv (.d (.str ⟨#[]⟩)), .dv (.d (.str ⟨#[]⟩)), .dv (.d (.str ⟨#[]⟩)), .dv (.d (.str ⟨#[]⟩))] := by kernel_rfl
theorem p90 : Tplc Tryz.prog 90 = some [(0, 1), (1, 1), (2, 1), (3, 1), (4, 1), (5, 1)] := by kernel_rfl
theorem c91 : Program.cellsOf Tryz.prog 91 = 3 := by kernel_rfl
theorem b91 : Program.bytesOf Tryz.prog 91 = 32 := by kernel_rfl
theorem k91 : Tk Tryz.prog 91 = some true := by kernel_rfl
theorem z91 : Tzero Tryz.prog 91 = some [.str ⟨#[]⟩, .int .i64 0, .bool false] := by kernel_rfl
theorem a91 : TzeroA Tryz.prog 91 = some [.dv (.d (.str ⟨#[]⟩)), .dv (.d (.int .i64 0)), .dv (.d (.bool false))] := by kernel_rfl
theorem e91 : eqT Tryz.prog 91 = some [.s, .i .i64, .b] := by kernel_rfl
theorem f91_0 : Tfld Tryz.prog 91 0 = some (0, 9) := by kernel_rfl
theorem f91_1 : Tfld Tryz.prog 91 1 = some (1, 3) := by kernel_rfl
theorem f91_2 : Tfld Tryz.prog 91 2 = some (2, 4) := by kernel_rfl
theorem p91 : Tplc Tryz.prog 91 = some [(0, 1), (1, 1), (2, 1)] := by kernel_rfl
theorem c92 : Program.cellsOf Tryz.prog 92 = 3 := by kernel_rfl
theorem b92 : Program.bytesOf Tryz.prog 92 = 32 := by kernel_rfl
theorem k92 : Tk Tryz.prog 92 = some true := by kernel_rfl
theorem z92 : Tzero Tryz.prog 92 = some [.str ⟨#[]⟩, .int .i64 0, .bool false] := by kernel_rfl
theorem a92 : TzeroA Tryz.prog 92 = some [.dv (.d (.str ⟨#[]⟩)), .dv (.d (.int .i64 0)), .dv (.d (.bool false))] := by kernel_rfl
theorem e92 : eqT Tryz.prog 92 = some [.s, .i .i64, .b] := by kernel_rfl
theorem f92_0 : Tfld Tryz.prog 92 0 = some (0, 9) := by kernel_rfl
theorem f92_1 : Tfld Tryz.prog 92 1 = some (1, 3) := by kernel_rfl
theorem f92_2 : Tfld Tryz.prog 92 2 = some (2, 4) := by kernel_rfl
theorem p92 : Tplc Tryz.prog 92 = some [(0, 1), (1, 1), (2, 1)] := by kernel_rfl
theorem c93 : Program.cellsOf Tryz.prog 93 = 1 := by kernel_rfl
theorem b93 : Program.bytesOf Tryz.prog 93 = 8 := by kernel_rfl
theorem k93 : Tk Tryz.prog 93 = some false := by kernel_rfl
theorem c94 : Program.cellsOf Tryz.prog 94 = 3 := by kernel_rfl
theorem b94 : Program.bytesOf Tryz.prog 94 = 32 := by kernel_rfl
theorem k94 : Tk Tryz.prog 94 = some true := by kernel_rfl
theorem z94 : Tzero Tryz.prog 94 = some [.int .i64 0, .str ⟨#[]⟩, .int .i64 0] := by kernel_rfl
theorem a94 : TzeroA Tryz.prog 94 = some [.dv (.d (.int .i64 0)), .dv (.d (.str ⟨#[]⟩)), .dv (.d (.int .i64 0))] := by kernel_rfl
theorem e94 : eqT Tryz.prog 94 = some [.i .i64, .s, .i .i64] := by kernel_rfl
theorem f94_0 : Tfld Tryz.prog 94 0 = some (0, 3) := by kernel_rfl
theorem f94_1 : Tfld Tryz.prog 94 1 = some (1, 9) := by kernel_rfl
theorem f94_2 : Tfld Tryz.prog 94 2 = some (2, 3) := by kernel_rfl
theorem p94 : Tplc Tryz.prog 94 = some [(0, 1), (1, 1), (2, 1)] := by kernel_rfl
theorem c95 : Program.cellsOf Tryz.prog 95 = 3 := by kernel_rfl
theorem b95 : Program.bytesOf Tryz.prog 95 = 32 := by kernel_rfl
theorem k95 : Tk Tryz.prog 95 = some true := by kernel_rfl
theorem z95 : Tzero Tryz.prog 95 = some [.int .i64 0, .str ⟨#[]⟩, .int .i64 0] := by kernel_rfl
theorem a95 : TzeroA Tryz.prog 95 = some [.dv (.d (.int .i64 0)), .dv (.d (.str ⟨#[]⟩)), .dv (.d (.int .i64 0))] := by kernel_rfl
theorem e95 : eqT Tryz.prog 95 = some [.i .i64, .s, .i .i64] := by kernel_rfl
theorem f95_0 : Tfld Tryz.prog 95 0 = some (0, 3) := by kernel_rfl
theorem f95_1 : Tfld Tryz.prog 95 1 = some (1, 9) := by kernel_rfl
theorem f95_2 : Tfld Tryz.prog 95 2 = some (2, 3) := by kernel_rfl
theorem p95 : Tplc Tryz.prog 95 = some [(0, 1), (1, 1), (2, 1)] := by kernel_rfl
theorem c96 : Program.cellsOf Tryz.prog 96 = 1 := by kernel_rfl
theorem b96 : Program.bytesOf Tryz.prog 96 = 8 := by kernel_rfl
theorem k96 : Tk Tryz.prog 96 = some false := by kernel_rfl
theorem c97 : Program.cellsOf Tryz.prog 97 = 4 := by kernel_rfl
theorem b97 : Program.bytesOf Tryz.prog 97 = 48 := by kernel_rfl
theorem k97 : Tk Tryz.prog 97 = some true := by kernel_rfl
theorem z97 : Tzero Tryz.prog 97 = some [.str ⟨#[]⟩, .int .i64 0, .str ⟨#[]⟩, .int .i64 0] := by kernel_rfl
theorem a97 : TzeroA Tryz.prog 97 = some [.dv (.d (.str ⟨#[]⟩)), .dv (.d (.int .i64 0)), .dv (.d (.str ⟨#[]⟩)), .dv (.d (.int .i64 0))] := by kernel_rfl
theorem e97 : eqT Tryz.prog 97 = some [.s, .i .i64, .s, .i .i64] := by kernel_rfl
theorem f97_0 : Tfld Tryz.prog 97 0 = some (0, 9) := by kernel_rfl
theorem f97_1 : Tfld Tryz.prog 97 1 = some (1, 95) := by kernel_rfl
theorem p97 : Tplc Tryz.prog 97 = some [(0, 1), (1, 3)] := by kernel_rfl
theorem c98 : Program.cellsOf Tryz.prog 98 = 4 := by kernel_rfl
theorem b98 : Program.bytesOf Tryz.prog 98 = 48 := by kernel_rfl
theorem k98 : Tk Tryz.prog 98 = some true := by kernel_rfl
theorem z98 : Tzero Tryz.prog 98 = some [.str ⟨#[]⟩, .int .i64 0, .str ⟨#[]⟩, .int .i64 0] := by kernel_rfl
theorem a98 : TzeroA Tryz.prog 98 = some [.dv (.d (.str ⟨#[]⟩)), .dv (.d (.int .i64 0)), .dv (.d (.str ⟨#[]⟩)), .dv (.d (.int .i64 0))] := by kernel_rfl
theorem e98 : eqT Tryz.prog 98 = some [.s, .i .i64, .s, .i .i64] := by kernel_rfl
theorem f98_0 : Tfld Tryz.prog 98 0 = some (0, 9) := by kernel_rfl
theorem f98_1 : Tfld Tryz.prog 98 1 = some (1, 95) := by kernel_rfl
theorem p98 : Tplc Tryz.prog 98 = some [(0, 1), (1, 3)] := by kernel_rfl
theorem c99 : Program.cellsOf Tryz.prog 99 = 1 := by kernel_rfl
theorem b99 : Program.bytesOf Tryz.prog 99 = 8 := by kernel_rfl
theorem k99 : Tk Tryz.prog 99 = some false := by kernel_rfl
theorem c100 : Program.cellsOf Tryz.prog 100 = 1 := by kernel_rfl
theorem b100 : Program.bytesOf Tryz.prog 100 = 8 := by kernel_rfl
theorem k100 : Tk Tryz.prog 100 = some false := by kernel_rfl
theorem c101 : Program.cellsOf Tryz.prog 101 = 1 := by kernel_rfl
theorem b101 : Program.bytesOf Tryz.prog 101 = 8 := by kernel_rfl
theorem k101 : Tk Tryz.prog 101 = some false := by kernel_rfl
theorem c102 : Program.cellsOf Tryz.prog 102 = 1 := by kernel_rfl
theorem b102 : Program.bytesOf Tryz.prog 102 = 8 := by kernel_rfl
theorem k102 : Tk Tryz.prog 102 = some false := by kernel_rfl
theorem c103 : Program.cellsOf Tryz.prog 103 = 1 := by kernel_rfl
theorem b103 : Program.bytesOf Tryz.prog 103 = 8 := by kernel_rfl
theorem k103 : Tk Tryz.prog 103 = some false := by kernel_rfl
theorem c104 : Program.cellsOf Tryz.prog 104 = 1 := by kernel_rfl
theorem b104 : Program.bytesOf Tryz.prog 104 = 24 := by kernel_rfl
theorem k104 : Tk Tryz.prog 104 = some false := by kernel_rfl
theorem z104 : Tzero Tryz.prog 104 = some [.sl []] := by kernel_rfl
theorem a104 : TzeroA Tryz.prog 104 = some [.nil] := by kernel_rfl
theorem o104 : Tone Tryz.prog 104 = some (.sl [], 24) := by kernel_rfl
theorem c105 : Program.cellsOf Tryz.prog 105 = 2 := by kernel_rfl
theorem b105 : Program.bytesOf Tryz.prog 105 = 40 := by kernel_rfl
theorem k105 : Tk Tryz.prog 105 = some true := by kernel_rfl
theorem z105 : Tzero Tryz.prog 105 = some [.str ⟨#[]⟩, .sl []] := by kernel_rfl
theorem a105 : TzeroA Tryz.prog 105 = some [.dv (.d (.str ⟨#[]⟩)), .nil] := by kernel_rfl
theorem f105_0 : Tfld Tryz.prog 105 0 = some (0, 9) := by kernel_rfl
theorem f105_1 : Tfld Tryz.prog 105 1 = some (1, 104) := by kernel_rfl
theorem p105 : Tplc Tryz.prog 105 = some [(0, 1), (1, 1)] := by kernel_rfl
theorem c106 : Program.cellsOf Tryz.prog 106 = 2 := by kernel_rfl
theorem b106 : Program.bytesOf Tryz.prog 106 = 40 := by kernel_rfl
theorem k106 : Tk Tryz.prog 106 = some true := by kernel_rfl
theorem z106 : Tzero Tryz.prog 106 = some [.str ⟨#[]⟩, .sl []] := by kernel_rfl
theorem a106 : TzeroA Tryz.prog 106 = some [.dv (.d (.str ⟨#[]⟩)), .nil] := by kernel_rfl
theorem f106_0 : Tfld Tryz.prog 106 0 = some (0, 9) := by kernel_rfl
theorem f106_1 : Tfld Tryz.prog 106 1 = some (1, 104) := by kernel_rfl
theorem p106 : Tplc Tryz.prog 106 = some [(0, 1), (1, 1)] := by kernel_rfl
theorem c107 : Program.cellsOf Tryz.prog 107 = 1 := by kernel_rfl
theorem b107 : Program.bytesOf Tryz.prog 107 = 8 := by kernel_rfl
theorem k107 : Tk Tryz.prog 107 = some false := by kernel_rfl
theorem c108 : Program.cellsOf Tryz.prog 108 = 1 := by kernel_rfl
theorem b108 : Program.bytesOf Tryz.prog 108 = 8 := by kernel_rfl
theorem k108 : Tk Tryz.prog 108 = some false := by kernel_rfl
theorem c109 : Program.cellsOf Tryz.prog 109 = 8 := by kernel_rfl
theorem b109 : Program.bytesOf Tryz.prog 109 = 88 := by kernel_rfl
theorem k109 : Tk Tryz.prog 109 = some true := by kernel_rfl
theorem z109 : Tzero Tryz.prog 109 = some [.int .i64 0, .int .i64 0, .int .i64 0, .str ⟨#[]⟩, .str ⟨#[]⟩, .str ⟨#[]⟩, .int .i64 0, .int .i64 0] := by kernel_rfl
theorem a109 : TzeroA Tryz.prog 109 = some [.dv (.d (.int .i64 0)), .dv (.d (.int .i64 0)), .dv (.d (.int .i64 0)), .dv (.d (.str ⟨#[]⟩)), .dv (.d (.str ⟨#[]⟩)), .dv (.d (.str ⟨#[]⟩)), .dv (.d (.int .i64 0)), .dv (.d (.int .i64 0))] := by kernel_rfl
theorem e109 : eqT Tryz.prog 109 = some [.i .i64, .i .i64, .i .i64, .s, .s, .s, .i .i64, .i .i64] := by kernel_rfl
theorem f109_0 : Tfld Tryz.prog 109 0 = some (0, 3) := by kernel_rfl
theorem f109_1 : Tfld Tryz.prog 109 1 = some (1, 3) := by kernel_rfl
theorem f109_2 : Tfld Tryz.prog 109 2 = some (2, 46) := by kernel_rfl
theorem f109_3 : Tfld Tryz.prog 109 3 = some (4, 9) := by kernel_rfl
theorem f109_4 : Tfld Tryz.prog 109 4 = some (5, 9) := by kernel_rfl
theorem f109_5 : Tfld Tryz.prog 109 5 = some (6, 3) := by kernel_rfl
theorem f109_6 : Tfld Tryz.prog 109 6 = some (7, 3) := by kernel_rfl
theorem p109 : Tplc Tryz.prog 109 = some [(0, 1), (1, 1), (2, 2), (4, 1), (5, 1), (6, 1), (7, 1)] := by kernel_rfl
theorem c110 : Program.cellsOf Tryz.prog 110 = 8 := by kernel_rfl
theorem b110 : Program.bytesOf Tryz.prog 110 = 88 := by kernel_rfl
theorem k110 : Tk Tryz.prog 110 = some true := by kernel_rfl
theorem z110 : Tzero Tryz.prog 110 = some [.int .i64 0, .int .i64 0, .int .i64 0, .str ⟨#[]⟩, .str ⟨#[]⟩, .str ⟨#[]⟩, .int .i64 0, .int .i64 0] := by kernel_rfl
theorem a110 : TzeroA Tryz.prog 110 = some [.dv (.d (.int .i64 0)), .dv (.d (.int .i64 0)), .dv (.d (.int .i64 0)), .dv (.d (.str ⟨#[]⟩)), .dv (.d (.str ⟨#[]⟩)), .dv (.d (.str ⟨#[]⟩)), .dv (.d (.int .i64 0)), .dv (.d (.int .i64 0))] := by kernel_rfl
theorem e110 : eqT Tryz.prog 110 = some [.i .i64, .i .i64, .i .i64, .s, .s, .s, .i .i64, .i .i64] := by kernel_rfl
theorem f110_0 : Tfld Tryz.prog 110 0 = some (0, 3) := by kernel_rfl
theorem f110_1 : Tfld Tryz.prog 110 1 = some (1, 3) := by kernel_rfl
theorem f110_2 : Tfld Tryz.prog 110 2 = some (2, 46) := by kernel_rfl
theorem f110_3 : Tfld Tryz.prog 110 3 = some (4, 9) := by kernel_rfl
theorem f110_4 : Tfld Tryz.prog 110 4 = some (5, 9) := by kernel_rfl
theorem f110_5 : Tfld Tryz.prog 110 5 = some (6, 3) := by kernel_rfl
theorem f110_6 : Tfld Tryz.prog 110 6 = some (7, 3) := by kernel_rfl
theorem p110 : Tplc Tryz.prog 110 = some [(0, 1), (1, 1), (2, 2), (4, 1), (5, 1), (6, 1), (7, 1)] := by kernel_rfl
theorem c111 : Program.cellsOf Tryz.prog 111 = 1 := by kernel_rfl
theorem b111 : Program.bytesOf Tryz.prog 111 = 8 := by kernel_rfl
theorem k111 : Tk Tryz.prog 111 = some false := by kernel_rfl
theorem c112 : Program.cellsOf Tryz.prog 112 = 1 := by kernel_rfl
theorem b112 : Program.bytesOf Tryz.prog 112 = 8 := by kernel_rfl
theorem k112 : Tk Tryz.prog 112 = some false := by kernel_rfl
theorem c113 : Program.cellsOf Tryz.prog 113 = 1 := by kernel_rfl
theorem b113 : Program.bytesOf Tryz.prog 113 = 0 := by kernel_rfl
theorem k113 : Tk Tryz.prog 113 = some false := by kernel_rfl
theorem c114 : Program.cellsOf Tryz.prog 114 = 1 := by kernel_rfl
theorem b114 : Program.bytesOf Tryz.prog 114 = 8 := by kernel_rfl
theorem k114 : Tk Tryz.prog 114 = some false := by kernel_rfl
theorem c115 : Program.cellsOf Tryz.prog 115 = 1 := by kernel_rfl
theorem b115 : Program.bytesOf Tryz.prog 115 = 8 := by kernel_rfl
theorem k115 : Tk Tryz.prog 115 = some false := by kernel_rfl
theorem c116 : Program.cellsOf Tryz.prog 116 = 1 := by kernel_rfl
theorem b116 : Program.bytesOf Tryz.prog 116 = 8 := by kernel_rfl
theorem k116 : Tk Tryz.prog 116 = some false := by kernel_rfl
theorem c117 : Program.cellsOf Tryz.prog 117 = 5 := by kernel_rfl
theorem b117 : Program.bytesOf Tryz.prog 117 = 72 := by kernel_rfl
theorem k117 : Tk Tryz.prog 117 = some true := by kernel_rfl
theorem z117 : Tzero Tryz.prog 117 = some [.sl [], .str ⟨#[]⟩, .str ⟨#[]⟩, .int .i64 0, .int .i64 0] := by kernel_rfl
theorem a117 : TzeroA Tryz.prog 117 = some [.nil, .dv (.d (.str ⟨#[]⟩)), .dv (.d (.str ⟨#[]⟩)), .dv (.d (.int .i64 0)), .dv (.d (.int .i64 0))] := by kernel_rfl
theorem f117_0 : Tfld Tryz.prog 117 0 = some (0, 54) := by kernel_rfl
theorem f117_1 : Tfld Tryz.prog 117 1 = some (1, 9) := by kernel_rfl
theorem f117_2 : Tfld Tryz.prog 117 2 = some (2, 9) := by kernel_rfl
theorem f117_3 : Tfld Tryz.prog 117 3 = some (3, 3) := by kernel_rfl
theorem f117_4 : Tfld Tryz.prog 117 4 = some (4, 3) := by kernel_rfl
theorem p117 : Tplc Tryz.prog 117 = some [(0, 1), (1, 1), (2, 1), (3, 1), (4, 1)] := by kernel_rfl
theorem c118 : Program.cellsOf Tryz.prog 118 = 5 := by kernel_rfl
theorem b118 : Program.bytesOf Tryz.prog 118 = 72 := by kernel_rfl
theorem k118 : Tk Tryz.prog 118 = some true := by kernel_rfl
theorem z118 : Tzero Tryz.prog 118 = some [.sl [], .str ⟨#[]⟩, .str ⟨#[]⟩, .int .i64 0, .int .i64 0] := by kernel_rfl
theorem a118 : TzeroA Tryz.prog 118 = some [.nil, .dv (.d (.str ⟨#[]⟩)), .dv (.d (.str ⟨#[]⟩)), .dv (.d (.int .i64 0)), .dv (.d (.int .i64 0))] := by kernel_rfl
theorem f118_0 : Tfld Tryz.prog 118 0 = some (0, 54) := by kernel_rfl
theorem f118_1 : Tfld Tryz.prog 118 1 = some (1, 9) := by kernel_rfl
theorem f118_2 : Tfld Tryz.prog 118 2 = some (2, 9) := by kernel_rfl
theorem f118_3 : Tfld Tryz.prog 118 3 = some (3, 3) := by kernel_rfl
theorem f118_4 : Tfld Tryz.prog 118 4 = some (4, 3) := by kernel_rfl
theorem p118 : Tplc Tryz.prog 118 = some [(0, 1), (1, 1), (2, 1), (3, 1), (4, 1)] := by kernel_rfl
theorem c119 : Program.cellsOf Tryz.prog 119 = 1 := by kernel_rfl
theorem b119 : Program.bytesOf Tryz.prog 119 = 8 := by kernel_rfl
theorem k119 : Tk Tryz.prog 119 = some false := by kernel_rfl
theorem c120 : Program.cellsOf Tryz.prog 120 = 1 := by kernel_rfl
theorem b120 : Program.bytesOf Tryz.prog 120 = 24 := by kernel_rfl
theorem k120 : Tk Tryz.prog 120 = some false := by kernel_rfl
theorem z120 : Tzero Tryz.prog 120 = some [.sl []] := by kernel_rfl
theorem a120 : TzeroA Tryz.prog 120 = some [.nil] := by kernel_rfl
theorem o120 : Tone Tryz.prog 120 = some (.sl [], 24) := by kernel_rfl
theorem c121 : Program.cellsOf Tryz.prog 121 = 8 := by kernel_rfl
theorem b121 : Program.bytesOf Tryz.prog 121 = 96 := by kernel_rfl
theorem k121 : Tk Tryz.prog 121 = some true := by kernel_rfl
theorem z121 : Tzero Tryz.prog 121 = some [.str ⟨#[]⟩, .int .i64 0, .bool false, .int .i64 0, .int .i64 0, .bool false, .str ⟨#[]⟩, .sl []] := by kernel_rfl
theorem a121 : TzeroA Tryz.prog 121 = some [.dv (.d (.str ⟨#[]⟩)), .dv (.d (.int .i64 0)), .dv (.d (.bool false)), .dv (.d (.int .i64 0)), .dv (.d (.int .i64 0)), .dv (.d (.bool false)), .dv (.d (.str ⟨#[]⟩)), .nil] := by kernel_rfl
theorem f121_0 : Tfld Tryz.prog 121 0 = some (0, 71) := by kernel_rfl
theorem f121_1 : Tfld Tryz.prog 121 1 = some (5, 4) := by kernel_rfl
theorem f121_2 : Tfld Tryz.prog 121 2 = some (6, 9) := by kernel_rfl
theorem f121_3 : Tfld Tryz.prog 121 3 = some (7, 120) := by kernel_rfl
theorem p121 : Tplc Tryz.prog 121 = some [(0, 5), (5, 1), (6, 1), (7, 1)] := by kernel_rfl
theorem c122 : Program.cellsOf Tryz.prog 122 = 8 := by kernel_rfl
theorem b122 : Program.bytesOf Tryz.prog 122 = 96 := by kernel_rfl
theorem k122 : Tk Tryz.prog 122 = some true := by kernel_rfl
theorem z122 : Tzero Tryz.prog 122 = some [.str ⟨#[]⟩, .int .i64 0, .bool false, .int .i64 0, .int .i64 0, .bool false, .str ⟨#[]⟩, .sl []] := by kernel_rfl
theorem a122 : TzeroA Tryz.prog 122 = some [.dv (.d (.str ⟨#[]⟩)), .dv (.d (.int .i64 0)), .dv (.d (.bool false)), .dv (.d (.int .i64 0)), .dv (.d (.int .i64 0)), .dv (.d (.bool false)), .dv (.d (.str ⟨#[]⟩)), .nil] := by kernel_rfl
theorem f122_0 : Tfld Tryz.prog 122 0 = some (0, 71) := by kernel_rfl
theorem f122_1 : Tfld Tryz.prog 122 1 = some (5, 4) := by kernel_rfl
theorem f122_2 : Tfld Tryz.prog 122 2 = some (6, 9) := by kernel_rfl
theorem f122_3 : Tfld Tryz.prog 122 3 = some (7, 120) := by kernel_rfl
theorem p122 : Tplc Tryz.prog 122 = some [(0, 5), (5, 1), (6, 1), (7, 1)] := by kernel_rfl
theorem c123 : Program.cellsOf Tryz.prog 123 = 1 := by kernel_rfl
theorem b123 : Program.bytesOf Tryz.prog 123 = 8 := by kernel_rfl
theorem k123 : Tk Tryz.prog 123 = some false := by kernel_rfl
theorem c124 : Program.cellsOf Tryz.prog 124 = 1 := by kernel_rfl
theorem b124 : Program.bytesOf Tryz.prog 124 = 8 := by kernel_rfl
theorem k124 : Tk Tryz.prog 124 = some false := by kernel_rfl
theorem c125 : Program.cellsOf Tryz.prog 125 = 1 := by kernel_rfl
theorem b125 : Program.bytesOf Tryz.prog 125 = 8 := by kernel_rfl
theorem k125 : Tk Tryz.prog 125 = some false := by kernel_rfl
theorem c126 : Program.cellsOf Tryz.prog 126 = 1 := by kernel_rfl
theorem b126 : Program.bytesOf Tryz.prog 126 = 8 := by kernel_rfl
theorem k126 : Tk Tryz.prog 126 = some false := by kernel_rfl
theorem c127 : Program.cellsOf Tryz.prog 127 = 1 := by kernel_rfl
theorem b127 : Program.bytesOf Tryz.prog 127 = 0 := by kernel_rfl
theorem k127 : Tk Tryz.prog 127 = some false := by kernel_rfl
theorem c128 : Program.cellsOf Tryz.prog 128 = 1 := by kernel_rfl
theorem b128 : Program.bytesOf Tryz.prog 128 = 8 := by kernel_rfl
theorem k128 : Tk Tryz.prog 128 = some false := by kernel_rfl
theorem c129 : Program.cellsOf Tryz.prog 129 = 1 := by kernel_rfl
theorem b129 : Program.bytesOf Tryz.prog 129 = 0 := by kernel_rfl
theorem k129 : Tk Tryz.prog 129 = some false := by kernel_rfl
theorem c130 : Program.cellsOf Tryz.prog 130 = 1 := by kernel_rfl
theorem b130 : Program.bytesOf Tryz.prog 130 = 8 := by kernel_rfl
theorem k130 : Tk Tryz.prog 130 = some false := by kernel_rfl
theorem c131 : Program.cellsOf Tryz.prog 131 = 1 := by kernel_rfl
theorem b131 : Program.bytesOf Tryz.prog 131 = 8 := by kernel_rfl
theorem k131 : Tk Tryz.prog 131 = some false := by kernel_rfl
theorem c132 : Program.cellsOf Tryz.prog 132 = 1 := by kernel_rfl
theorem b132 : Program.bytesOf Tryz.prog 132 = 8 := by kernel_rfl
theorem k132 : Tk Tryz.prog 132 = some false := by kernel_rfl
theorem c133 : Program.cellsOf Tryz.prog 133 = 1 := by kernel_rfl
theorem b133 : Program.bytesOf Tryz.prog 133 = 8 := by kernel_rfl
theorem k133 : Tk Tryz.prog 133 = some false := by kernel_rfl
theorem c134 : Program.cellsOf Tryz.prog 134 = 1 := by kernel_rfl
theorem b134 : Program.bytesOf Tryz.prog 134 = 24 := by kernel_rfl
theorem k134 : Tk Tryz.prog 134 = some false := by kernel_rfl
theorem z134 : Tzero Tryz.prog 134 = some [.sl []] := by kernel_rfl
theorem a134 : TzeroA Tryz.prog 134 = some [.nil] := by kernel_rfl
theorem o134 : Tone Tryz.prog 134 = some (.sl [], 24) := by kernel_rfl
theorem c135 : Program.cellsOf Tryz.prog 135 = 1 := by kernel_rfl
theorem b135 : Program.bytesOf Tryz.prog 135 = 8 := by kernel_rfl
theorem k135 : Tk Tryz.prog 135 = some false := by kernel_rfl
theorem c136 : Program.cellsOf Tryz.prog 136 = 1 := by kernel_rfl
theorem b136 : Program.bytesOf Tryz.prog 136 = 8 := by kernel_rfl
theorem k136 : Tk Tryz.prog 136 = some false := by kernel_rfl
theorem c137 : Program.cellsOf Tryz.prog 137 = 1 := by kernel_rfl
theorem b137 : Program.bytesOf Tryz.prog 137 = 8 := by kernel_rfl
theorem k137 : Tk Tryz.prog 137 = some false := by kernel_rfl
theorem c138 : Program.cellsOf Tryz.prog 138 = 1 := by kernel_rfl
theorem b138 : Program.bytesOf Tryz.prog 138 = 8 := by kernel_rfl
theorem k138 : Tk Tryz.prog 138 = some false := by kernel_rfl
theorem c139 : Program.cellsOf Tryz.prog 139 = 1 := by kernel_rfl
theorem b139 : Program.bytesOf Tryz.prog 139 = 24 := by kernel_rfl
theorem k139 : Tk Tryz.prog 139 = some false := by kernel_rfl
theorem z139 : Tzero Tryz.prog 139 = some [.sl []] := by kernel_rfl
theorem a139 : TzeroA Tryz.prog 139 = some [.nil] := by kernel_rfl
theorem o139 : Tone Tryz.prog 139 = some (.sl [], 24) := by kernel_rfl
theorem c140 : Program.cellsOf Tryz.prog 140 = 1 := by kernel_rfl
theorem b140 : Program.bytesOf Tryz.prog 140 = 8 := by kernel_rfl
theorem k140 : Tk Tryz.prog 140 = some false := by kernel_rfl
theorem c141 : Program.cellsOf Tryz.prog 141 = 1 := by kernel_rfl
theorem b141 : Program.bytesOf Tryz.prog 141 = 8 := by kernel_rfl
theorem k141 : Tk Tryz.prog 141 = some false := by kernel_rfl
theorem c142 : Program.cellsOf Tryz.prog 142 = 1 := by kernel_rfl
theorem b142 : Program.bytesOf Tryz.prog 142 = 8 := by kernel_rfl
theorem k142 : Tk Tryz.prog 142 = some false := by kernel_rfl
theorem c143 : Program.cellsOf Tryz.prog 143 = 1 := by kernel_rfl
theorem b143 : Program.bytesOf Tryz.prog 143 = 24 := by kernel_rfl
theorem k143 : Tk Tryz.prog 143 = some false := by kernel_rfl
theorem z143 : Tzero Tryz.prog 143 = some [.sl []] := by kernel_rfl
theorem a143 : TzeroA Tryz.prog 143 = some [.nil] := by kernel_rfl
theorem o143 : Tone Tryz.prog 143 = some (.sl [], 24) := by kernel_rfl
theorem c144 : Program.cellsOf Tryz.prog 144 = 2 := by kernel_rfl
theorem b144 : Program.bytesOf Tryz.prog 144 = 32 := by kernel_rfl
theorem k144 : Tk Tryz.prog 144 = some true := by kernel_rfl
theorem f144_0 : Tfld Tryz.prog 144 0 = some (0, 143) := by kernel_rfl
theorem f144_1 : Tfld Tryz.prog 144 1 = some (1, 142) := by kernel_rfl
theorem p144 : Tplc Tryz.prog 144 = some [(0, 1), (1, 1)] := by kernel_rfl
theorem c145 : Program.cellsOf Tryz.prog 145 = 2 := by kernel_rfl
theorem b145 : Program.bytesOf Tryz.prog 145 = 32 := by kernel_rfl
theorem k145 : Tk Tryz.prog 145 = some true := by kernel_rfl
theorem f145_0 : Tfld Tryz.prog 145 0 = some (0, 143) := by kernel_rfl
theorem f145_1 : Tfld Tryz.prog 145 1 = some (1, 142) := by kernel_rfl
theorem p145 : Tplc Tryz.prog 145 = some [(0, 1), (1, 1)] := by kernel_rfl
theorem c146 : Program.cellsOf Tryz.prog 146 = 1 := by kernel_rfl
theorem b146 : Program.bytesOf Tryz.prog 146 = 8 := by kernel_rfl
theorem k146 : Tk Tryz.prog 146 = some false := by kernel_rfl
theorem c147 : Program.cellsOf Tryz.prog 147 = 1 := by kernel_rfl
theorem b147 : Program.bytesOf Tryz.prog 147 = 8 := by kernel_rfl
theorem k147 : Tk Tryz.prog 147 = some false := by kernel_rfl
theorem c148 : Program.cellsOf Tryz.prog 148 = 1 := by kernel_rfl
theorem b148 : Program.bytesOf Tryz.prog 148 = 8 := by kernel_rfl
theorem k148 : Tk Tryz.prog 148 = some false := by kernel_rfl
theorem c149 : Program.cellsOf Tryz.prog 149 = 20 := by kernel_rfl
theorem b149 : Program.bytesOf Tryz.prog 149 = 240 := by kernel_rfl
theorem k149 : Tk Tryz.prog 149 = some true := by kernel_rfl
theorem z149 : Tzero Tryz.prog 149 = some [.int .i64 0, .str ⟨#[]⟩, .int .i64 0, .str ⟨#[]⟩, .int .i64 0, .str ⟨#[]⟩, .int .i64 0, .str ⟨#[]⟩, .int .i64 0, .str ⟨#[]⟩, .int .i64 0, .str ⟨#[]⟩, .int .i64 0, .str ⟨#[]⟩, .int .i64 0, .str ⟨#[]⟩, .int .i64 0, .str ⟨#[]⟩, .int .i64 0, .str ⟨#[]⟩] := by kernel_rfl
theorem a149 : TzeroA Tryz.prog 149 = some [.dv (.d (.int .i64 0)), .dv (.d (.str ⟨#[]⟩)), .dv (.d (.int .i64 0)), .dv (.d (.str ⟨#[]⟩)), .dv (.d (.int .i64 0)), .dv (.d (.str ⟨#[]⟩)), .dv (.d (.int .i64 0)), .dv (.d (.str ⟨#[]⟩)), .dv (.d (.int .i64 0)), .dv (.d (.str ⟨#[]⟩)), .dv (.d (.int .i64 0)), .dv (.d (.str ⟨#[]⟩)), .dv (.d (.int .i64 0)), .dv (.d (.str ⟨#[]⟩)), .dv (.d (.int .i64 0)), .dv (.d (.str ⟨#[]⟩)), .dv (.d (.int .i64 0)), .dv (.d (.str ⟨#[]⟩)), .dv (.d (.int .i64 0)), .dv (.d (.str ⟨#[]⟩))] := by kernel_rfl
theorem p149 : Tplc Tryz.prog 149 = some [(0, 2), (2, 2), (4, 2), (6, 2), (8, 2), (10, 2), (12, 2), (14, 2), (16, 2), (18, 2)] := by kernel_rfl
theorem c150 : Program.cellsOf Tryz.prog 150 = 1 := by kernel_rfl
theorem b150 : Program.bytesOf Tryz.prog 150 = 8 := by kernel_rfl
theorem k150 : Tk Tryz.prog 150 = some false := by kernel_rfl
theorem c151 : Program.cellsOf Tryz.prog 151 = 1 := by kernel_rfl
theorem b151 : Program.bytesOf Tryz.prog 151 = 8 := by kernel_rfl
theorem k151 : Tk Tryz.prog 151 = some false := by kernel_rfl
theorem c152 : Program.cellsOf Tryz.prog 152 = 1 := by kernel_rfl
theorem b152 : Program.bytesOf Tryz.prog 152 = 8 := by kernel_rfl
theorem k152 : Tk Tryz.prog 152 = some false := by kernel_rfl
theorem c153 : Program.cellsOf Tryz.prog 153 = 1 := by kernel_rfl
theorem b153 : Program.bytesOf Tryz.prog 153 = 8 := by kernel_rfl
theorem k153 : Tk Tryz.prog 153 = some false := by kernel_rfl
theorem c154 : Program.cellsOf Tryz.prog 154 = 1 := by kernel_rfl
theorem b154 : Program.bytesOf Tryz.prog 154 = 8 := by kernel_rfl
theorem k154 : Tk Tryz.prog 154 = some false := by kernel_rfl
theorem c155 : Program.cellsOf Tryz.prog 155 = 1 := by kernel_rfl
theorem b155 : Program.bytesOf Tryz.prog 155 = 8 := by kernel_rfl
theorem k155 : Tk Tryz.prog 155 = some false := by kernel_rfl
theorem c156 : Program.cellsOf Tryz.prog 156 = 1 := by kernel_rfl
theorem b156 : Program.bytesOf Tryz.prog 156 = 8 := by kernel_rfl
theorem k156 : Tk Tryz.prog 156 = some false := by kernel_rfl
theorem c157 : Program.cellsOf Tryz.prog 157 = 1 := by kernel_rfl
theorem b157 : Program.bytesOf Tryz.prog 157 = 0 := by kernel_rfl
theorem k157 : Tk Tryz.prog 157 = some false := by kernel_rfl
theorem c158 : Program.cellsOf Tryz.prog 158 = 1 := by kernel_rfl
theorem b158 : Program.bytesOf Tryz.prog 158 = 8 := by kernel_rfl
theorem k158 : Tk Tryz.prog 158 = some false := by kernel_rfl
theorem c159 : Program.cellsOf Tryz.prog 159 = 1 := by kernel_rfl
theorem b159 : Program.bytesOf Tryz.prog 159 = 24 := by kernel_rfl
theorem k159 : Tk Tryz.prog 159 = some false := by kernel_rfl
theorem z159 : Tzero Tryz.prog 159 = some [.sl []] := by kernel_rfl
theorem a159 : TzeroA Tryz.prog 159 = some [.nil] := by kernel_rfl
theorem o159 : Tone Tryz.prog 159 = some (.sl [], 24) := by kernel_rfl
theorem c160 : Program.cellsOf Tryz.prog 160 = 1 := by kernel_rfl
theorem b160 : Program.bytesOf Tryz.prog 160 = 8 := by kernel_rfl
theorem k160 : Tk Tryz.prog 160 = some false := by kernel_rfl
theorem c161 : Program.cellsOf Tryz.prog 161 = 1 := by kernel_rfl
theorem b161 : Program.bytesOf Tryz.prog 161 = 8 := by kernel_rfl
theorem k161 : Tk Tryz.prog 161 = some false := by kernel_rfl
theorem c162 : Program.cellsOf Tryz.prog 162 = 1 := by kernel_rfl
theorem b162 : Program.bytesOf Tryz.prog 162 = 8 := by kernel_rfl
theorem k162 : Tk Tryz.prog 162 = some false := by kernel_rfl
theorem c163 : Program.cellsOf Tryz.prog 163 = 1 := by kernel_rfl
theorem b163 : Program.bytesOf Tryz.prog 163 = 8 := by kernel_rfl
theorem k163 : Tk Tryz.prog 163 = some false := by kernel_rfl
theorem c164 : Program.cellsOf Tryz.prog 164 = 1 := by kernel_rfl
theorem b164 : Program.bytesOf Tryz.prog 164 = 0 := by kernel_rfl
theorem k164 : Tk Tryz.prog 164 = some false := by kernel_rfl
theorem c165 : Program.cellsOf Tryz.prog 165 = 1 := by kernel_rfl
theorem b165 : Program.bytesOf Tryz.prog 165 = 8 := by kernel_rfl
theorem k165 : Tk Tryz.prog 165 = some false := by kernel_rfl
theorem c166 : Program.cellsOf Tryz.prog 166 = 1 := by kernel_rfl
theorem b166 : Program.bytesOf Tryz.prog 166 = 8 := by kernel_rfl
theorem k166 : Tk Tryz.prog 166 = some false := by kernel_rfl
theorem c167 : Program.cellsOf Tryz.prog 167 = 1 := by kernel_rfl
theorem b167 : Program.bytesOf Tryz.prog 167 = 8 := by kernel_rfl
theorem k167 : Tk Tryz.prog 167 = some false := by kernel_rfl
theorem c168 : Program.cellsOf Tryz.prog 168 = 1 := by kernel_rfl
theorem b168 : Program.bytesOf Tryz.prog 168 = 8 := by kernel_rfl
theorem k168 : Tk Tryz.prog 168 = some false := by kernel_rfl
theorem c169 : Program.cellsOf Tryz.prog 169 = 1 := by kernel_rfl
theorem b169 : Program.bytesOf Tryz.prog 169 = 8 := by kernel_rfl
theorem k169 : Tk Tryz.prog 169 = some false := by kernel_rfl
theorem c170 : Program.cellsOf Tryz.prog 170 = 1 := by kernel_rfl
theorem b170 : Program.bytesOf Tryz.prog 170 = 8 := by kernel_rfl
theorem k170 : Tk Tryz.prog 170 = some false := by kernel_rfl
theorem c171 : Program.cellsOf Tryz.prog 171 = 1 := by kernel_rfl
theorem b171 : Program.bytesOf Tryz.prog 171 = 0 := by kernel_rfl
theorem k171 : Tk Tryz.prog 171 = some false := by kernel_rfl
theorem c172 : Program.cellsOf Tryz.prog 172 = 1 := by kernel_rfl
theorem b172 : Program.bytesOf Tryz.prog 172 = 8 := by kernel_rfl
theorem k172 : Tk Tryz.prog 172 = some false := by kernel_rfl
theorem c173 : Program.cellsOf Tryz.prog 173 = 1 := by kernel_rfl
theorem b173 : Program.bytesOf Tryz.prog 173 = 8 := by kernel_rfl
theorem k173 : Tk Tryz.prog 173 = some false := by kernel_rfl
theorem c174 : Program.cellsOf Tryz.prog 174 = 1 := by kernel_rfl
theorem b174 : Program.bytesOf Tryz.prog 174 = 0 := by kernel_rfl
theorem k174 : Tk Tryz.prog 174 = some false := by kernel_rfl
theorem c175 : Program.cellsOf Tryz.prog 175 = 1 := by kernel_rfl
theorem b175 : Program.bytesOf Tryz.prog 175 = 8 := by kernel_rfl
theorem k175 : Tk Tryz.prog 175 = some false := by kernel_rfl
theorem c176 : Program.cellsOf Tryz.prog 176 = 1 := by kernel_rfl
theorem b176 : Program.bytesOf Tryz.prog 176 = 8 := by kernel_rfl
theorem k176 : Tk Tryz.prog 176 = some false := by kernel_rfl
theorem c177 : Program.cellsOf Tryz.prog 177 = 1 := by kernel_rfl
theorem b177 : Program.bytesOf Tryz.prog 177 = 8 := by kernel_rfl
theorem k177 : Tk Tryz.prog 177 = some false := by kernel_rfl
theorem c178 : Program.cellsOf Tryz.prog 178 = 1 := by kernel_rfl
theorem b178 : Program.bytesOf Tryz.prog 178 = 8 := by kernel_rfl
theorem k178 : Tk Tryz.prog 178 = some false := by kernel_rfl
theorem c179 : Program.cellsOf Tryz.prog 179 = 1 := by kernel_rfl
theorem b179 : Program.bytesOf Tryz.prog 179 = 4 := by kernel_rfl
theorem k179 : Tk Tryz.prog 179 = some false := by kernel_rfl
theorem z179 : Tzero Tryz.prog 179 = some [.int .u32 0] := by kernel_rfl
theorem a179 : TzeroA Tryz.prog 179 = some [.dv (.d (.int .u32 0))] := by kernel_rfl
theorem o179 : Tone Tryz.prog 179 = some (.int .u32 0, 4) := by kernel_rfl
theorem c180 : Program.cellsOf Tryz.prog 180 = 1 := by kernel_rfl
theorem b180 : Program.bytesOf Tryz.prog 180 = 8 := by kernel_rfl
theorem k180 : Tk Tryz.prog 180 = some false := by kernel_rfl
theorem c181 : Program.cellsOf Tryz.prog 181 = 1 := by kernel_rfl
theorem b181 : Program.bytesOf Tryz.prog 181 = 24 := by kernel_rfl
theorem k181 : Tk Tryz.prog 181 = some false := by kernel_rfl
theorem z181 : Tzero Tryz.prog 181 = some [.sl []] := by kernel_rfl
theorem a181 : TzeroA Tryz.prog 181 = some [.nil] := by kernel_rfl
theorem o181 : Tone Tryz.prog 181 = some (.sl [], 24) := by kernel_rfl
theorem c182 : Program.cellsOf Tryz.prog 182 = 1 := by kernel_rfl
theorem b182 : Program.bytesOf Tryz.prog 182 = 8 := by kernel_rfl
theorem k182 : Tk Tryz.prog 182 = some false := by kernel_rfl
theorem c183 : Program.cellsOf Tryz.prog 183 = 1 := by kernel_rfl
theorem b183 : Program.bytesOf Tryz.prog 183 = 8 := by kernel_rfl
theorem k183 : Tk Tryz.prog 183 = some false := by kernel_rfl
theorem c184 : Program.cellsOf Tryz.prog 184 = 1 := by kernel_rfl
theorem b184 : Program.bytesOf Tryz.prog 184 = 8 := by kernel_rfl
theorem k184 : Tk Tryz.prog 184 = some false := by kernel_rfl
theorem c185 : Program.cellsOf Tryz.prog 185 = 1 := by kernel_rfl
theorem b185 : Program.bytesOf Tryz.prog 185 = 8 := by kernel_rfl
theorem k185 : Tk Tryz.prog 185 = some false := by kernel_rfl
theorem c186 : Program.cellsOf Tryz.prog 186 = 1 := by kernel_rfl
theorem b186 : Program.bytesOf Tryz.prog 186 = 8 := by kernel_rfl
theorem k186 : Tk Tryz.prog 186 = some false := by kernel_rfl
theorem c187 : Program.cellsOf Tryz.prog 187 = 1 := by kernel_rfl
theorem b187 : Program.bytesOf Tryz.prog 187 = 24 := by kernel_rfl
theorem k187 : Tk Tryz.prog 187 = some false := by kernel_rfl
theorem z187 : Tzero Tryz.prog 187 = some [.sl []] := by kernel_rfl
theorem a187 : TzeroA Tryz.prog 187 = some [.nil] := by kernel_rfl
theorem o187 : Tone Tryz.prog 187 = some (.sl [], 24) := by kernel_rfl
theorem c188 : Program.cellsOf Tryz.prog 188 = 1 := by kernel_rfl
theorem b188 : Program.bytesOf Tryz.prog 188 = 8 := by kernel_rfl
theorem k188 : Tk Tryz.prog 188 = some false := by kernel_rfl
theorem c189 : Program.cellsOf Tryz.prog 189 = 1 := by kernel_rfl
theorem b189 : Program.bytesOf Tryz.prog 189 = 8 := by kernel_rfl
theorem k189 : Tk Tryz.prog 189 = some false := by kernel_rfl
theorem c190 : Program.cellsOf Tryz.prog 190 = 1 := by kernel_rfl
theorem b190 : Program.bytesOf Tryz.prog 190 = 8 := by kernel_rfl
theorem k190 : Tk Tryz.prog 190 = some false := by kernel_rfl
theorem z190 : Tzero Tryz.prog 190 = some [.int .u64 0] := by kernel_rfl
theorem a190 : TzeroA Tryz.prog 190 = some [.dv (.d (.int .u64 0))] := by kernel_rfl
theorem o190 : Tone Tryz.prog 190 = some (.int .u64 0, 8) := by kernel_rfl
theorem c191 : Program.cellsOf Tryz.prog 191 = 1 := by kernel_rfl
theorem b191 : Program.bytesOf Tryz.prog 191 = 8 := by kernel_rfl
theorem k191 : Tk Tryz.prog 191 = some false := by kernel_rfl
theorem c192 : Program.cellsOf Tryz.prog 192 = 1 := by kernel_rfl
theorem b192 : Program.bytesOf Tryz.prog 192 = 8 := by kernel_rfl
theorem k192 : Tk Tryz.prog 192 = some false := by kernel_rfl
theorem c193 : Program.cellsOf Tryz.prog 193 = 1 := by kernel_rfl
theorem b193 : Program.bytesOf Tryz.prog 193 = 0 := by kernel_rfl
theorem k193 : Tk Tryz.prog 193 = some false := by kernel_rfl
theorem c194 : Program.cellsOf Tryz.prog 194 = 1 := by kernel_rfl
theorem b194 : Program.bytesOf Tryz.prog 194 = 8 := by kernel_rfl
theorem k194 : Tk Tryz.prog 194 = some false := by kernel_rfl
theorem c195 : Program.cellsOf Tryz.prog 195 = 1 := by kernel_rfl
theorem b195 : Program.bytesOf Tryz.prog 195 = 8 := by kernel_rfl
theorem k195 : Tk Tryz.prog 195 = some false := by kernel_rfl
theorem c196 : Program.cellsOf Tryz.prog 196 = 2 := by kernel_rfl
theorem b196 : Program.bytesOf Tryz.prog 196 = 32 := by kernel_rfl
theorem k196 : Tk Tryz.prog 196 = some true := by kernel_rfl
theorem f196_0 : Tfld Tryz.prog 196 0 = some (0, 195) := by kernel_rfl
theorem f196_1 : Tfld Tryz.prog 196 1 = some (1, 143) := by kernel_rfl
theorem p196 : Tplc Tryz.prog 196 = some [(0, 1), (1, 1)] := by kernel_rfl
theorem c197 : Program.cellsOf Tryz.prog 197 = 2 := by kernel_rfl
theorem b197 : Program.bytesOf Tryz.prog 197 = 32 := by kernel_rfl
theorem k197 : Tk Tryz.prog 197 = some true := by kernel_rfl
theorem f197_0 : Tfld Tryz.prog 197 0 = some (0, 195) := by kernel_rfl
theorem f197_1 : Tfld Tryz.prog 197 1 = some (1, 143) := by kernel_rfl
theorem p197 : Tplc Tryz.prog 197 = some [(0, 1), (1, 1)] := by kernel_rfl
theorem c198 : Program.cellsOf Tryz.prog 198 = 1 := by kernel_rfl
theorem b198 : Program.bytesOf Tryz.prog 198 = 16 := by kernel_rfl
theorem k198 : Tk Tryz.prog 198 = some false := by kernel_rfl
theorem c199 : Program.cellsOf Tryz.prog 199 = 1 := by kernel_rfl
theorem b199 : Program.bytesOf Tryz.prog 199 = 16 := by kernel_rfl
theorem k199 : Tk Tryz.prog 199 = some false := by kernel_rfl
theorem c200 : Program.cellsOf Tryz.prog 200 = 1 := by kernel_rfl
theorem b200 : Program.bytesOf Tryz.prog 200 = 0 := by kernel_rfl
theorem k200 : Tk Tryz.prog 200 = some false := by kernel_rfl
theorem c201 : Program.cellsOf Tryz.prog 201 = 1 := by kernel_rfl
theorem b201 : Program.bytesOf Tryz.prog 201 = 8 := by kernel_rfl
theorem k201 : Tk Tryz.prog 201 = some false := by kernel_rfl
theorem c202 : Program.cellsOf Tryz.prog 202 = 1 := by kernel_rfl
theorem b202 : Program.bytesOf Tryz.prog 202 = 8 := by kernel_rfl
theorem k202 : Tk Tryz.prog 202 = some false := by kernel_rfl
theorem c203 : Program.cellsOf Tryz.prog 203 = 1 := by kernel_rfl
theorem b203 : Program.bytesOf Tryz.prog 203 = 8 := by kernel_rfl
theorem k203 : Tk Tryz.prog 203 = some false := by kernel_rfl
theorem c204 : Program.cellsOf Tryz.prog 204 = 1 := by kernel_rfl
theorem b204 : Program.bytesOf Tryz.prog 204 = 8 := by kernel_rfl
theorem k204 : Tk Tryz.prog 204 = some false := by kernel_rfl
theorem c205 : Program.cellsOf Tryz.prog 205 = 1 := by kernel_rfl
theorem b205 : Program.bytesOf Tryz.prog 205 = 8 := by kernel_rfl
theorem k205 : Tk Tryz.prog 205 = some false := by kernel_rfl
theorem c206 : Program.cellsOf Tryz.prog 206 = 1 := by kernel_rfl
theorem b206 : Program.bytesOf Tryz.prog 206 = 8 := by kernel_rfl
theorem k206 : Tk Tryz.prog 206 = some false := by kernel_rfl
theorem c207 : Program.cellsOf Tryz.prog 207 = 1 := by kernel_rfl
theorem b207 : Program.bytesOf Tryz.prog 207 = 8 := by kernel_rfl
theorem k207 : Tk Tryz.prog 207 = some false := by kernel_rfl
theorem c208 : Program.cellsOf Tryz.prog 208 = 1 := by kernel_rfl
theorem b208 : Program.bytesOf Tryz.prog 208 = 8 := by kernel_rfl
theorem k208 : Tk Tryz.prog 208 = some false := by kernel_rfl
theorem c209 : Program.cellsOf Tryz.prog 209 = 1 := by kernel_rfl
theorem b209 : Program.bytesOf Tryz.prog 209 = 8 := by kernel_rfl
theorem k209 : Tk Tryz.prog 209 = some false := by kernel_rfl
theorem c210 : Program.cellsOf Tryz.prog 210 = 1 := by kernel_rfl
theorem b210 : Program.bytesOf Tryz.prog 210 = 8 := by kernel_rfl
theorem k210 : Tk Tryz.prog 210 = some false := by kernel_rfl
theorem c211 : Program.cellsOf Tryz.prog 211 = 256 := by kernel_rfl
theorem b211 : Program.bytesOf Tryz.prog 211 = 256 := by kernel_rfl
theorem k211 : Tk Tryz.prog 211 = some true := by kernel_rfl
theorem z211 : Tzero Tryz.prog 211 = some [.bool false, .bool false, .bool false, .bool false, .bool false, .bool false, .bool false, .bool false, .bool false, .bool false, .bool false, .bool false, .bool false, .bool false, .bool false, .bool false, .bool false, .bool false, .bool false, .bool false, .bool false, .bool false, .bool false, .bool false, .bool false, .bool false, .bool false, .bool false, .bool false, .bool false, .bool false, .bool false, .bool false, .bool false, .bool false, .bool false, .bool false, .bool false, .bool false, .bool false, .bool false, .bool false, .bool false, .bool false, .bool false, .bool false, .bool false, .bool false, .bool false, .bool false, .bool false, .bool false, .bool false, .bool false, .bool false, .bool false, .bool false, .bool false, .bool false, .bool false, .bool false, .bool false, .bool false, .bool false, .bool false, .bool false, .bool false, .bool false, .bool false, .bool false, .bool false, .bool false, .bool false, .bool false, .bool false, .bool false, .bool false, .bool false, .bool false, .bool false, .bool false, .bool false, .bool false, .bool false, .bool false, .bool false, .bool false, .bool false, .bool false, .bool false, .bool false, .bool false, .bool false, .bool false, .bool false, .bool false, .bool false, .bool false, .bool false, .bool false, .bool false, .bool false, .bool false, .bool false, .bool false, .bool false, .bool false, .bool false, .bool false, .bool false, .bool false, .bool false, .bool false, .bool false, .bool false, .bool false, .bool false, .bool false, .bool false, .bool false, .bool false, .bool false, .bool false, .bool false, .bool false, .bool false, .bool false, .bool false, .bool false, .bool false, .bool false, .bool false, .bool false, .bool false, .bool false, .bool false, .bool false, .bool false, .bool false, .bool false, .bool false, .bool false, .bool false, .bool false, .bool false, .bool false, .bool false, .bool false, .bool false, .bool false, .bool false, .bool false, .bool false, .bool false, .bool false, .bool false, .bool false, .bool false, .bool false, .bool false, .bool false, .bool false, .bool false, .bool false, .bool false, .bool false, .bool false, .bool false, .bool false, .bool false, .bool false, .bool false, .bool false, .bool false, .bool false, .bool false, .bool false, .bool false, .bool false, .bool false, .bool false, .bool false, .bool false, .bool false, .bool false, .bool false, .bool false, .bool false, .bool false, .bool false, .bool false, .bool false, .bool false, .bool false, .bool false, .bool false, .bool false, .bool false, .bool false, .bool false, .bool false, .bool false, .bool false, .bool false, .bool false, .bool false, .bool false, .bool false, .bool false, .bool false, .bool false, .bool false, .bool false, .bool false, .bool false, .bool false, .bool false, .bool false, .bool false, .bool false, .bool false, .bool false, .bool false, .bool false, .bool false, .bool false, .bool false, .bool false, .bool false, .bool false, .bool false, .bool false, .bool false, .bool false, .bool false, .bool false, .bool false, .bool false, .bool false, .bool false, .bool false, .bool false, .bool false, .bool false, .bool false, .bool false, .bool false, .bool false, .bool false, .bool false, .bool false, .bool false, .bool false, .bool false, .bool false, .bool false] := by kernel_rfl
theorem a211 : TzeroA Tryz.prog 211 = some [.dv (.d (.bool false)), .dv (.d (.bool false)), .dv (.d (.bool false)), .dv (.d (.bool false)), .dv (.d (.bool false)), .dv (.d (.bool false)), .dv (.d (.bool false)), .dv (.d (.bool false)), .dv (.d (.bool false)), .dv (.d (.bool false)), .dv (.d (.bool false)), .dv (.d (.bool false)), .dv (.d (.bool false)), .dv (.d (.bool false)), .dv (.d (.bool false)), .dv (.d (.bool false)), .dv (.d (.bool false)), .dv (.d (.bool false)), .dv (.d (.bool false)), .dv (.d (.bool false)), .dv (.d (.bool false)), .dv (.d (.bool false)), .dv (.d (.bool false)), .dv (.d (.bool false)), .dv (.d (.bool false)), .dv (.d (.bool false)), .dv (.d (.bool false)), .dv (.d (.bool false)), .dv (.d (.bool false)), .dv (.d (.bool false)), .dv (.d (.bool false)), .dv (.d (.bool false)), .dv (.d (.bool false)), .dv (.d (.bool false)), .dv (.d (.bool false)), .dv (.d (.bool false)), .dv (.d (.bool false)), .dv (.d (.bool false)), .dv (.d (.bool false)), .dv (.d (.bool false)), .dv (.d (.bool false)), .dv (.d (.bool false)), .dv (.d (.bool false)), .dv (.d (.bool false)), .dv (.d (.bool false)), .dv (.d (.bool false)), .dv (.d (.bool false)), .dv (.d (.bool false)), .dv (.d (.bool false)), .dv (.d (.bool false)), .dv (.d (.bool false)), .dv (.d (.bool false)), .dv (.d (.bool false)), .dv (.d (.bool false)), .dv (.d (.bool false)), .dv (.d (.bool false)), .dv (.d (.bool false)), .dv (.d (.bool false)), .dv (.d (.bool false)), .dv (.d (.bool false)), .dv (.d (.bool false)), .dv (.d (.bool false)), .dv (.d (.bool false)), .dv (.d (.bool false)), .dv (.d (.bool false)), .dv (.d (.bool false)), .dv (.d (.bool false)), .dv (.d (.bool false)), .dv (.d (.bool false)), .dv (.d (.bool false)), .dv (.d (.bool false)), .dv (.d (.bool false)), .dv (.d (.bool false)), .dv (.d (.bool false)), .dv (.d (.bool false)), .dv (.d (.bool false)), .dv (.d (.bool false)), .dv (.d (.bool false)), .dv (.d (.bool false)), .dv (.d (.bool false)), .dv (.d (.bool false)), .dv (.d (.bool false)), .dv (.d (.bool false)), .dv (.d (.bool false)), .dv (.d (.bool false)), .dv (.d (.bool false)), .dv (.d (.bool false)), .dv (.d (.bool false)), .dv (.d (.bool false)), .dv (.d (.bool false)), .dv (.d (.bool false)), .dv (.d (.bool false)), .dv (.d (.bool false)), .dv (.d (.bool false)), .dv (.d (.bool false)), .dv (.d (.bool false)), .dv (.d (.bool false)), .dv (.d (.bool false)), .dv (.d (.bool false)), .dv (.d (.bool false)), .dv (.d (.bool false)), .dv (.d (.bool false)), .dv (.d (.bool false)), .dv (.d (.bool false)), .dv (.d (.bool false)), .dv (.d (.bool false)), .dv (.d (.bool false)), .dv (.d (.bool false)), .dv (.d (.bool false)), .dv (.d (.bool false)), .dv (.d (.bool false)), .dv (.d (.bool false)), .dv (.d (.bool false)), .dv (.d (.bool false)), .dv (.d (.bool false)), .dv (.d (.bool false)), .dv (.d (.bool false)), .dv (.d (.bool false)), .dv (.d (.bool false)), .dv (.d (.bool false)), .dv (.d (.bool false)), .dv (.d (.bool false)), .dv (.d (.bool false)), .dv (.d (.bool false)), .dv (.d (.bool false)), .dv (.d (.bool false)), .dv (.d (.bool false)), .dv (.d (.bool false)), .dv (.d (.bool false)), .dv (.d (.bool false)), .dv (.d (.bool false)), .dv (.d (.bool false)), .dv (.d (.bool false)), .dv (.d (.bool false)), .dv (.d (.bool false)), .dv (.d (.bool false)), .dv (.d (.bool false)), .dv (.d (.bool false)), .dv (.d (.bool false)), .dv (.d (.bool false)), .dv (.d (.bool false)), .dv (.d (.bool false)), .dv (.d (.bool false)), .dv (.d (.bool false)), .dv (.d (.bool false)), .dv (.d (.bool false)), .dv (.d (.bool false)), .dv (.d (.bool false)), .dv (.d (.bool false)), .dv (.d (.bool false)), .dv (.d (.bool false)), .dv (.d (.bool false)), .dv (.d (.bool false)), .dv (.d (.bool false)), .dv (.d (.bool false)), .dv (.d (.bool false)), .dv (.d (.bool false)), .dv (.d (.bool false)), .dv (.d (.bool false)), .dv (.d (.bool false)), .dv (.d (.bool false)), .dv (.d (.bool false)), .dv (.d (.bool false)), .dv (.d (.bool false)), .dv (.d (.bool false)), .dv (.d (.bool false)), .dv (.d (.bool false)), .dv (.d (.bool false)), .dv (.d (.bool false)), .dv (.d (.bool false)), .dv (.d (.bool false)), .dv (.d (.bool false)), .dv (.d (.bool false)), .dv (.d (.bool false)), .dv (.d (.bool false)), .dv (.d (.bool false)), .dv (.d (.bool false)), .dv (.d (.bool false)), .dv (.d (.bool false)), .dv (.d (.bool false)), .dv (.d (.bool false)), .dv (.d (.bool false)), .dv (.d (.bool false)), .dv (.d (.bool false)), .dv (.d (.bool false)), .dv (.d (.bool false)), .dv (.d (.bool false)), .dv (.d (.bool false)), .dv (.d (.bool false)), .dv (.d (.bool false)), .dv (.d (.bool false)), .dv (.d (.bool false)), .dv (.d (.bool false)), .dv (.d (.bool false)), .dv (.d (.bool false)), .dv (.d (.bool false)), .dv (.d (.bool false)), .dv (.d (.bool false)), .dv (.d (.bool false)), .dv (.d (.bool false)), .dv (.d (.bool false)), .dv (.d (.bool false)), .dv (.d (.bool false)), .dv (.d (.bool false)), .dv (.d (.bool false)), .dv (.d (.bool false)), .dv (.d (.bool false)), .dv (.d (.bool false)), .dv (.d (.bool false)), .dv (.d (.bool false)), .dv (.d (.bool false)), .dv (.d (.bool false)), .dv (.d (.bool false)), .dv (.d (.bool false)), .dv (.d (.bool false)), .dv (.d (.bool false)), .dv (.d (.bool false)), .dv (.d (.bool false)), .dv (.d (.bool false)), .dv (.d (.bool false)), .dv (.d (.bool false)), .dv (.d (.bool false)), .dv (.d (.bool false)), .dv (.d (.bool false)), .dv (.d (.bool false)), .dv (.d (.bool false)), .dv (.d (.bool false)), .dv (.d (.bool false)), .dv (.d (.bool false)), .dv (.d (.bool false)), .dv (.d (.bool false)), .dv (.d (.bool false)), .dv (.d (.bool false)), .dv (.d (.bool false)), .dv (.d (.bool false)), .dv (.d (.bool false)), .dv (.d (.bool false)), .dv (.d (.bool false)), .dv (.d (.bool false)), .dv (.d (.bool false)), .dv (.d (.bool false)), .dv (.d (.bool false)), .dv (.d (.bool false)), .dv (.d (.bool false)), .dv (.d (.bool false)), .dv (.d (.bool false)), .dv (.d (.bool false)), .dv (.d (.bool false)), .dv (.d (.bool false)), .dv (.d (.bool false)), .dv (.d (.bool false)), .dv (.d (.bool false)), .dv (.d (.bool false)), .dv (.d (.bool false)), .dv (.d (.bool false)), .dv (.d (.bool false))] := by kernel_rfl
theorem p211 : Tplc Tryz.prog 211 = some [(0, 1), (1, 1), (2, 1), (3, 1), (4, 1), (5, 1), (6, 1), (7, 1), (8, 1), (9, 1), (10, 1), (11, 1), (12, 1), (13, 1), (14, 1), (15, 1), (16, 1), (17, 1), (18, 1), (19, 1), (20, 1), (21, 1), (22, 1), (23, 1), (24, 1), (25, 1), (26, 1), (27, 1), (28, 1), (29, 1), (30, 1), (31, 1), (32, 1), (33, 1), (34, 1), (35, 1), (36, 1), (37, 1), (38, 1), (39, 1), (40, 1), (41, 1), (42, 1), (43, 1), (44, 1), (45, 1), (46, 1), (47, 1), (48, 1), (49, 1), (50, 1), (51, 1), (52, 1), (53, 1), (54, 1), (55, 1), (56, 1), (57, 1), (58, 1), (59, 1), (60, 1), (61, 1), (62, 1), (63, 1), (64, 1), (65, 1), (66, 1), (67, 1), (68, 1), (69, 1), (70, 1), (71, 1), (72, 1), (73, 1), (74, 1), (75, 1), (76, 1), (77, 1), (78, 1), (79, 1), (80, 1), (81, 1), (82, 1), (83, 1), (84, 1), (85, 1), (86, 1), (87, 1), (88, 1), (89, 1), (90, 1), (91, 1), (92, 1), (93, 1), (94, 1), (95, 1), (96, 1), (97, 1), (98, 1), (99, 1), (100, 1), (101, 1), (102, 1), (103, 1), (104, 1), (105, 1), (106, 1), (107, 1), (108, 1), (109, 1), (110, 1), (111, 1), (112, 1), (113, 1), (114, 1), (115, 1), (116, 1), (117, 1), (118, 1), (119, 1), (120, 1), (121, 1), (122, 1), (123, 1), (124, 1), (125, 1), (126, 1), (127, 1), (128, 1), (129, 1), (130, 1), (131, 1), (132, 1), (133, 1), (134, 1), (135, 1), (136, 1), (137, 1), (138, 1), (139, 1), (140, 1), (141, 1), (142, 1), (143, 1), (144, 1), (145, 1), (146, 1), (147, 1), (148, 1), (149, 1), (150, 1), (151, 1), (152, 1), (153, 1), (154, 1), (155, 1), (156, 1), (157, 1), (158, 1), (159, 1), (160, 1), (161, 1), (162, 1), (163, 1), (164, 1), (165, 1), (166, 1), (167, 1), (168, 1), (169, 1), (170, 1), (171, 1), (172, 1), (173, 1), (174, 1), (175, 1), (176, 1), (177, 1), (178, 1), (179, 1), (180, 1), (181, 1), (182, 1), (183, 1), (184, 1), (185, 1), (186, 1), (187, 1), (188, 1), (189, 1), (190, 1), (191, 1), (192, 1), (193, 1), (194, 1), (195, 1), (196, 1), (197, 1), (198, 1), (199, 1), (200, 1), (201, 1), (202, 1), (203, 1), (204, 1), (205, 1), (206, 1), (207, 1), (208, 1), (209, 1), (210, 1), (211, 1), (212, 1), (213, 1), (214, 1), (215, 1), (216, 1), (217, 1), (218, 1), (219, 1), (220, 1), (221, 1), (222, 1), (223, 1), (224, 1), (225, 1), (226, 1), (227, 1), (228, 1), (229, 1), (230, 1), (231, 1), (232, 1), (233, 1), (234, 1), (235, 1), (236, 1), (237, 1), (238, 1), (239, 1), (240, 1), (241, 1), (242, 1), (243, 1), (244, 1), (245, 1), (246, 1), (247, 1), (248, 1), (249, 1), (250, 1), (251, 1), (252, 1), (253, 1), (254, 1), (255, 1)] := by kernel_rfl
theorem c212 : Program.cellsOf Tryz.prog 212 = 256 := by kernel_rfl
theorem b212 : Program.bytesOf Tryz.prog 212 = 256 := by kernel_rfl
theorem k212 : Tk Tryz.prog 212 = some true := by kernel_rfl
theorem z212 : Tzero Tryz.prog 212 = some [.bool false, .bool false, .bool false, .bool false, .bool false, .bool false, .bool false, .bool false, .bool false, .bool false, .bool false, .bool false, .bool false, .bool false, .bool false, .bool false, .bool false, .bool false, .bool false, .bool false, .bool false, .bool false, .bool false, .bool false, .bool false, .bool false, .bool false, .bool false, .bool false, .bool false, .bool false, .bool false, .bool false, .bool false, .bool false, .bool false, .bool false, .bool false, .bool false, .bool false, .bool false, .bool false, .bool false, .bool false, .bool false, .bool false, .bool false, .bool false, .bool false, .bool false, .bool false, .bool false, .bool false, .bool false, .bool false, .bool false, .bool false, .bool false, .bool false, .bool false, .bool false, .bool false, .bool false, .bool false, .bool false, .bool false, .bool false, .bool false, .bool false, .bool false, .bool false, .bool false, .bool false, .bool false, .bool false, .bool false, .bool false, .bool false, .bool false, .bool false, .bool false, .bool false, .bool false, .bool false, .bool false, .bool false, .bool false, .bool false, .bool false, .bool false, .bool false, .bool false, .bool false, .bool false, .bool false, .bool false, .bool false, .bool false, .bool false, .bool false, .bool false, .bool false, .bool false, .bool false, .bool false, .bool false, .bool false, .bool false, .bool false, .bool false, .bool false, .bool false, .bool false, .bool false, .bool false, .bool false, .bool false, .bool false, .bool false, .bool false, .bool false, .bool false, .bool false, .bool false, .bool false, .bool false, .bool false, .bool false, .bool false, .bool false, .bool false, .bool false, .bool false, .bool false, .bool false, .bool false, .bool false, .bool false, .bool false, .bool false, .bool false, .bool false, .bool false, .bool false, .bool false, .bool false, .bool false, .bool false, .bool false, .bool false, .bool false, .bool false, .bool false, .bool false, .bool false, .bool false, .bool false, .bool false, .bool false, .bool false, .bool false, .bool false, .bool false, .bool false, .bool false, .bool false, .bool false, .bool false, .bool false, .bool false, .bool false, .bool false, .bool false, .bool false, .bool false, .bool false, .bool false, .bool false, .bool false, .bool false, .bool false, .bool false, .bool false, .bool false, .bool false, .bool false, .bool false, .bool false, .bool false, .bool false, .bool false, .bool false, .bool false, .bool false, .bool false, .bool false, .bool false, .bool false, .bool false, .bool false, .bool false, .bool false, .bool false, .bool false, .bool false, .bool false, .bool false, .bool false, .bool false, .bool false, .bool false, .bool false, .bool false, .bool false, .bool false, .bool false, .bool false, .bool false, .bool false, .bool false, .bool false, .bool false, .bool false, .bool false, .bool false, .bool false, .bool false, .bool false, .bool false, .bool false, .bool false, .bool false, .bool false, .bool false, .bool false, .bool false, .bool false, .bool false, .bool false, .bool false, .bool false, .bool false, .bool false, .bool false, .bool false, .bool false, .bool false, .bool false, .bool false, .bool false, .bool false, .bool false, .bool false, .bool false, .bool false, .bool false] := by kernel_rfl
theorem a212 : TzeroA Tryz.prog 212 = some [.dv (.d (.bool false)), .dv (.d (.bool false)), .dv (.d (.bool false)), .dv (.d (.bool false)), .dv (.d (.bool false)), .dv (.d (.bool false)), .dv (.d (.bool false)), .dv (.d (.bool false)), .dv (.d (.bool false)), .dv (.d (.bool false)), .dv (.d (.bool false)), .dv (.d (.bool false)), .dv (.d (.bool false)), .dv (.d (.bool false)), .dv (.d (.bool false)), .dv (.d (.bool false)), .dv (.d (.bool false)), .dv (.d (.bool false)), .dv (.d (.bool false)), .dv (.d (.bool false)), .dv (.d (.bool false)), .dv (.d (.bool false)), .dv (.d (.bool false)), .dv (.d (.bool false)), .dv (.d (.bool false)), .dv (.d (.bool false)), .dv (.d (.bool false)), .dv (.d (.bool false)), .dv (.d (.bool false)), .dv (.d (.bool false)), .dv (.d (.bool false)), .dv (.d (.bool false)), .dv (.d (.bool false)), .dv (.d (.bool false)), .dv (.d (.bool false)), .dv (.d (.bool false)), .dv (.d (.bool false)), .dv (.d (.bool false)), .dv (.d (.bool false)), .dv (.d (.bool false)), .dv (.d (.bool false)), .dv (.d (.bool false)), .dv (.d (.bool false)), .dv (.d (.bool false)), .dv (.d (.bool false)), .dv (.d (.bool false)), .dv (.d (.bool false)), .dv (.d (.bool false)), .dv (.d (.bool false)), .dv (.d (.bool false)), .dv (.d (.bool false)), .dv (.d (.bool false)), .dv (.d (.bool false)), .dv (.d (.bool false)), .dv (.d (.bool false)), .dv (.d (.bool false)), .dv (.d (.bool false)), .dv (.d (.bool false)), .dv (.d (.bool false)), .dv (.d (.bool false)), .dv (.d (.bool false)), .dv (.d (.bool false)), .dv (.d (.bool false)), .dv (.d (.bool false)), .dv (.d (.bool false)), .dv (.d (.bool false)), .dv (.d (.bool false)), .dv (.d (.bool false)), .dv (.d (.bool false)), .dv (.d (.bool false)), .dv (.d (.bool false)), .dv (.d (.bool false)), .dv (.d (.bool false)), .dv (.d (.bool false)), .dv (.d (.bool false)), .dv (.d (.bool false)), .dv (.d (.bool false)), .dv (.d (.bool false)), .dv (.d (.bool false)), .dv (.d (.bool false)), .dv (.d (.bool false)), .dv (.d (.bool false)), .dv (.d (.bool false)), .dv (.d (.bool false)), .dv (.d (.bool false)), .dv (.d (.bool false)), .dv (.d (.bool false)), .dv (.d (.bool false)), .dv (.d (.bool false)), .dv (.d (.bool false)), .dv (.d (.bool false)), .dv (.d (.bool false)), .dv (.d (.bool false)), .dv (.d (.bool false)), .dv (.d (.bool false)), .dv (.d (.bool false)), .dv (.d (.bool false)), .dv (.d (.bool false)), .dv (.d (.bool false)), .dv (.d (.bool false)), .dv (.d (.bool false)), .dv (.d (.bool false)), .dv (.d (.bool false)), .dv (.d (.bool false)), .dv (.d (.bool false)), .dv (.d (.bool false)), .dv (.d (.bool false)), .dv (.d (.bool false)), .dv (.d (.bool false)), .dv (.d (.bool false)), .dv (.d (.bool false)), .dv (.d (.bool false)), .dv (.d (.bool false)), .dv (.d (.bool false)), .dv (.d (.bool false)), .dv (.d (.bool false)), .dv (.d (.bool false)), .dv (.d (.bool false)), .dv (.d (.bool false)), .dv (.d (.bool false)), .dv (.d (.bool false)), .dv (.d (.bool false)), .dv (.d (.bool false)), .dv (.d (.bool false)), .dv (.d (.bool false)), .dv (.d (.bool false)), .dv (.d (.bool false)), .dv (.d (.bool false)), .dv (.d (.bool false)), .dv (.d (.bool false)), .dv (.d (.bool false)), .dv (.d (.bool false)), .dv (.d (.bool false)), .dv (.d (.bool false)), .dv (.d (.bool false)), .dv (.d (.bool false)), .dv (.d (.bool false)), .dv (.d (.bool false)), .dv (.d (.bool false)), .dv (.d (.bool false)), .dv (.d (.bool false)), .dv (.d (.bool false)), .dv (.d (.bool false)), .dv (.d (.bool false)), .dv (.d (.bool false)), .dv (.d (.bool false)), .dv (.d (.bool false)), .dv (.d (.bool false)), .dv (.d (.bool false)), .dv (.d (.bool false)), .dv (.d (.bool false)), .dv (.d (.bool false)), .dv (.d (.bool false)), .dv (.d (.bool false)), .dv (.d (.bool false)), .dv (.d (.bool false)), .dv (.d (.bool false)), .dv (.d (.bool false)), .dv (.d (.bool false)), .dv (.d (.bool false)), .dv (.d (.bool false)), .dv (.d (.bool false)), .dv (.d (.bool false)), .dv (.d (.bool false)), .dv (.d (.bool false)), .dv (.d (.bool false)), .dv (.d (.bool false)), .dv (.d (.bool false)), .dv (.d (.bool false)), .dv (.d (.bool false)), .dv (.d (.bool false)), .dv (.d (.bool false)), .dv (.d (.bool false)), .dv (.d (.bool false)), .dv (.d (.bool false)), .dv (.d (.bool false)), .dv (.d (.bool false)), .dv (.d (.bool false)), .dv (.d (.bool false)), .dv (.d (.bool false)), .dv (.d (.bool false)), .dv (.d (.bool false)), .dv (.d (.bool false)), .dv (.d (.bool false)), .dv (.d (.bool false)), .dv (.d (.bool false)), .dv (.d (.bool false)), .dv (.d (.bool false)), .dv (.d (.bool false)), .dv (.d (.bool false)), .dv (.d (.bool false)), .dv (.d (.bool false)), .dv (.d (.bool false)), .dv (.d (.bool false)), .dv (.d (.bool false)), .dv (.d (.bool false)), .dv (.d (.bool false)), .dv (.d (.bool false)), .dv (.d (.bool false)), .dv (.d (.bool false)), .dv (.d (.bool false)), .dv (.d (.bool false)), .dv (.d (.bool false)), .dv (.d (.bool false)), .dv (.d (.bool false)), .dv (.d (.bool false)), .dv (.d (.bool false)), .dv (.d (.bool false)), .dv (.d (.bool false)), .dv (.d (.bool false)), .dv (.d (.bool false)), .dv (.d (.bool false)), .dv (.d (.bool false)), .dv (.d (.bool false)), .dv (.d (.bool false)), .dv (.d (.bool false)), .dv (.d (.bool false)), .dv (.d (.bool false)), .dv (.d (.bool false)), .dv (.d (.bool false)), .dv (.d (.bool false)), .dv (.d (.bool false)), .dv (.d (.bool false)), .dv (.d (.bool false)), .dv (.d (.bool false)), .dv (.d (.bool false)), .dv (.d (.bool false)), .dv (.d (.bool false)), .dv (.d (.bool false)), .dv (.d (.bool false)), .dv (.d (.bool false)), .dv (.d (.bool false)), .dv (.d (.bool false)), .dv (.d (.bool false)), .dv (.d (.bool false)), .dv (.d (.bool false)), .dv (.d (.bool false)), .dv (.d (.bool false)), .dv (.d (.bool false)), .dv (.d (.bool false)), .dv (.d (.bool false)), .dv (.d (.bool false)), .dv (.d (.bool false)), .dv (.d (.bool false)), .dv (.d (.bool false)), .dv (.d (.bool false)), .dv (.d (.bool false)), .dv (.d (.bool false)), .dv (.d (.bool false)), .dv (.d (.bool false)), .dv (.d (.bool false)), .dv (.d (.bool false)), .dv (.d (.bool false)), .dv (.d (.bool false)), .dv (.d (.bool false)), .dv (.d (.bool false))] := by kernel_rfl
theorem p212 : Tplc Tryz.prog 212 = some [(0, 1), (1, 1), (2, 1), (3, 1), (4, 1), (5, 1), (6, 1), (7, 1), (8, 1), (9, 1), (10, 1), (11, 1), (12, 1), (13, 1), (14, 1), (15, 1), (16, 1), (17, 1), (18, 1), (19, 1), (20, 1), (21, 1), (22, 1), (23, 1), (24, 1), (25, 1), (26, 1), (27, 1), (28, 1), (29, 1), (30, 1), (31, 1), (32, 1), (33, 1), (34, 1), (35, 1), (36, 1), (37, 1), (38, 1), (39, 1), (40, 1), (41, 1), (42, 1), (43, 1), (44, 1), (45, 1), (46, 1), (47, 1), (48, 1), (49, 1), (50, 1), (51, 1), (52, 1), (53, 1), (54, 1), (55, 1), (56, 1), (57, 1), (58, 1), (59, 1), (60, 1), (61, 1), (62, 1), (63, 1), (64, 1), (65, 1), (66, 1), (67, 1), (68, 1), (69, 1), (70, 1), (71, 1), (72, 1), (73, 1), (74, 1), (75, 1), (76, 1), (77, 1), (78, 1), (79, 1), (80, 1), (81, 1), (82, 1), (83, 1), (84, 1), (85, 1), (86, 1), (87, 1), (88, 1), (89, 1), (90, 1), (91, 1), (92, 1), (93, 1), (94, 1), (95, 1), (96, 1), (97, 1), (98, 1), (99, 1), (100, 1), (101, 1), (102, 1), (103, 1), (104, 1), (105, 1), (106, 1), (107, 1), (108, 1), (109, 1), (110, 1), (111, 1), (112, 1), (113, 1), (114, 1), (115, 1), (116, 1), (117, 1), (118, 1), (119, 1), (120, 1), (121, 1), (122, 1), (123, 1), (124, 1), (125, 1), (126, 1), (127, 1), (128, 1), (129, 1), (130, 1), (131, 1), (132, 1), (133, 1), (134, 1), (135, 1), (136, 1), (137, 1), (138, 1), (139, 1), (140, 1), (141, 1), (142, 1), (143, 1), (144, 1), (145, 1), (146, 1), (147, 1), (148, 1), (149, 1), (150, 1), (151, 1), (152, 1), (153, 1), (154, 1), (155, 1), (156, 1), (157, 1), (158, 1), (159, 1), (160, 1), (161, 1), (162, 1), (163, 1), (164, 1), (165, 1), (166, 1), (167, 1), (168, 1), (169, 1), (170, 1), (171, 1), (172, 1), (173, 1), (174, 1), (175, 1), (176, 1), (177, 1), (178, 1), (179, 1), (180, 1), (181, 1), (182, 1), (183, 1), (184, 1), (185, 1), (186, 1), (187, 1), (188, 1), (189, 1), (190, 1), (191, 1), (192, 1), (193, 1), (194, 1), (195, 1), (196, 1), (197, 1), (198, 1), (199, 1), (200, 1), (201, 1), (202, 1), (203, 1), (204, 1), (205, 1), (206, 1), (207, 1), (208, 1), (209, 1), (210, 1), (211, 1), (212, 1), (213, 1), (214, 1), (215, 1), (216, 1), (217, 1), (218, 1), (219, 1), (220, 1), (221, 1), (222, 1), (223, 1), (224, 1), (225, 1), (226, 1), (227, 1), (228, 1), (229, 1), (230, 1), (231, 1), (232, 1), (233, 1), (234, 1), (235, 1), (236, 1), (237, 1), (238, 1), (239, 1), (240, 1), (241, 1), (242, 1), (243, 1), (244, 1), (245, 1), (246, 1), (247, 1), (248, 1), (249, 1), (250, 1), (251, 1), (252, 1), (253, 1), (254, 1), (255, 1)] := by kernel_rfl
theorem c213 : Program.cellsOf Tryz.prog 213 = 1 := by kernel_rfl
theorem b213 : Program.bytesOf Tryz.prog 213 = 0 := by kernel_rfl
theorem k213 : Tk Tryz.prog 213 = some false := by kernel_rfl
theorem c214 : Program.cellsOf Tryz.prog 214 = 1 := by kernel_rfl
theorem b214 : Program.bytesOf Tryz.prog 214 = 8 := by kernel_rfl
theorem k214 : Tk Tryz.prog 214 = some false := by kernel_rfl
theorem c215 : Program.cellsOf Tryz.prog 215 = 1 := by kernel_rfl
theorem b215 : Program.bytesOf Tryz.prog 215 = 8 := by kernel_rfl
theorem k215 : Tk Tryz.prog 215 = some false := by kernel_rfl
theorem c216 : Program.cellsOf Tryz.prog 216 = 1 := by kernel_rfl
theorem b216 : Program.bytesOf Tryz.prog 216 = 8 := by kernel_rfl
theorem k216 : Tk Tryz.prog 216 = some false := by kernel_rfl
theorem c217 : Program.cellsOf Tryz.prog 217 = 1 := by kernel_rfl
theorem b217 : Program.bytesOf Tryz.prog 217 = 8 := by kernel_rfl
theorem k217 : Tk Tryz.prog 217 = some false := by kernel_rfl
theorem c218 : Program.cellsOf Tryz.prog 218 = 1 := by kernel_rfl
theorem b218 : Program.bytesOf Tryz.prog 218 = 8 := by kernel_rfl
theorem k218 : Tk Tryz.prog 218 = some false := by kernel_rfl
theorem c219 : Program.cellsOf Tryz.prog 219 = 1 := by kernel_rfl
theorem b219 : Program.bytesOf Tryz.prog 219 = 8 := by kernel_rfl
theorem k219 : Tk Tryz.prog 219 = some false := by kernel_rfl
theorem c220 : Program.cellsOf Tryz.prog 220 = 1 := by kernel_rfl
theorem b220 : Program.bytesOf Tryz.prog 220 = 8 := by kernel_rfl
theorem k220 : Tk Tryz.prog 220 = some false := by kernel_rfl
theorem c221 : Program.cellsOf Tryz.prog 221 = 1 := by kernel_rfl
theorem b221 : Program.bytesOf Tryz.prog 221 = 8 := by kernel_rfl
theorem k221 : Tk Tryz.prog 221 = some false := by kernel_rfl
theorem c222 : Program.cellsOf Tryz.prog 222 = 1 := by kernel_rfl
theorem b222 : Program.bytesOf Tryz.prog 222 = 8 := by kernel_rfl
theorem k222 : Tk Tryz.prog 222 = some false := by kernel_rfl
theorem c223 : Program.cellsOf Tryz.prog 223 = 1 := by kernel_rfl
theorem b223 : Program.bytesOf Tryz.prog 223 = 0 := by kernel_rfl
theorem k223 : Tk Tryz.prog 223 = some false := by kernel_rfl
theorem c224 : Program.cellsOf Tryz.prog 224 = 1 := by kernel_rfl
theorem b224 : Program.bytesOf Tryz.prog 224 = 8 := by kernel_rfl
theorem k224 : Tk Tryz.prog 224 = some false := by kernel_rfl
theorem c225 : Program.cellsOf Tryz.prog 225 = 1 := by kernel_rfl
theorem b225 : Program.bytesOf Tryz.prog 225 = 8 := by kernel_rfl
theorem k225 : Tk Tryz.prog 225 = some false := by kernel_rfl
theorem c226 : Program.cellsOf Tryz.prog 226 = 1 := by kernel_rfl
theorem b226 : Program.bytesOf Tryz.prog 226 = 0 := by kernel_rfl
theorem k226 : Tk Tryz.prog 226 = some false := by kernel_rfl
theorem c227 : Program.cellsOf Tryz.prog 227 = 1 := by kernel_rfl
theorem b227 : Program.bytesOf Tryz.prog 227 = 8 := by kernel_rfl
theorem k227 : Tk Tryz.prog 227 = some false := by kernel_rfl
theorem c228 : Program.cellsOf Tryz.prog 228 = 1 := by kernel_rfl
theorem b228 : Program.bytesOf Tryz.prog 228 = 8 := by kernel_rfl
theorem k228 : Tk Tryz.prog 228 = some false := by kernel_rfl
theorem z228 : Tzero Tryz.prog 228 = some [.int .u64 0] := by kernel_rfl
theorem a228 : TzeroA Tryz.prog 228 = some [.dv (.d (.int .u64 0))] := by kernel_rfl
theorem o228 : Tone Tryz.prog 228 = some (.int .u64 0, 8) := by kernel_rfl
theorem c229 : Program.cellsOf Tryz.prog 229 = 1 := by kernel_rfl
theorem b229 : Program.bytesOf Tryz.prog 229 = 0 := by kernel_rfl
theorem k229 : Tk Tryz.prog 229 = some false := by kernel_rfl
theorem c230 : Program.cellsOf Tryz.prog 230 = 1 := by kernel_rfl
theorem b230 : Program.bytesOf Tryz.prog 230 = 8 := by kernel_rfl
theorem k230 : Tk Tryz.prog 230 = some false := by kernel_rfl
theorem c231 : Program.cellsOf Tryz.prog 231 = 1 := by kernel_rfl
theorem b231 : Program.bytesOf Tryz.prog 231 = 8 := by kernel_rfl
theorem k231 : Tk Tryz.prog 231 = some false := by kernel_rfl
theorem c232 : Program.cellsOf Tryz.prog 232 = 1 := by kernel_rfl
theorem b232 : Program.bytesOf Tryz.prog 232 = 8 := by kernel_rfl
theorem k232 : Tk Tryz.prog 232 = some false := by kernel_rfl
theorem c233 : Program.cellsOf Tryz.prog 233 = 5 := by kernel_rfl
theorem b233 : Program.bytesOf Tryz.prog 233 = 40 := by kernel_rfl
theorem k233 : Tk Tryz.prog 233 = some true := by kernel_rfl
theorem z233 : Tzero Tryz.prog 233 = some [.int .i64 0, .int .i64 0, .int .i64 0, .int .i64 0, .int .i64 0] := by kernel_rfl
theorem a233 : TzeroA Tryz.prog 233 = some [.dv (.d (.int .i64 0)), .dv (.d (.int .i64 0)), .dv (.d (.int .i64 0)), .dv (.d (.int .i64 0)), .dv (.d (.int .i64 0))] := by kernel_rfl
theorem p233 : Tplc Tryz.prog 233 = some [(0, 1), (1, 1), (2, 1), (3, 1), (4, 1)] := by kernel_rfl
theorem c234 : Program.cellsOf Tryz.prog 234 = 1 := by kernel_rfl
theorem b234 : Program.bytesOf Tryz.prog 234 = 8 := by kernel_rfl
theorem k234 : Tk Tryz.prog 234 = some false := by kernel_rfl
theorem c235 : Program.cellsOf Tryz.prog 235 = 1 := by kernel_rfl
theorem b235 : Program.bytesOf Tryz.prog 235 = 0 := by kernel_rfl
theorem k235 : Tk Tryz.prog 235 = some false := by kernel_rfl
theorem c236 : Program.cellsOf Tryz.prog 236 = 1 := by kernel_rfl
theorem b236 : Program.bytesOf Tryz.prog 236 = 8 := by kernel_rfl
theorem k236 : Tk Tryz.prog 236 = some false := by kernel_rfl
theorem c237 : Program.cellsOf Tryz.prog 237 = 1 := by kernel_rfl
theorem b237 : Program.bytesOf Tryz.prog 237 = 8 := by kernel_rfl
theorem k237 : Tk Tryz.prog 237 = some false := by kernel_rfl
theorem c238 : Program.cellsOf Tryz.prog 238 = 1 := by kernel_rfl
theorem b238 : Program.bytesOf Tryz.prog 238 = 8 := by kernel_rfl
theorem k238 : Tk Tryz.prog 238 = some false := by kernel_rfl
theorem c239 : Program.cellsOf Tryz.prog 239 = 1 := by kernel_rfl
theorem b239 : Program.bytesOf Tryz.prog 239 = 0 := by kernel_rfl
theorem k239 : Tk Tryz.prog 239 = some false := by kernel_rfl
theorem c240 : Program.cellsOf Tryz.prog 240 = 1 := by kernel_rfl
theorem b240 : Program.bytesOf Tryz.prog 240 = 8 := by kernel_rfl
theorem k240 : Tk Tryz.prog 240 = some false := by kernel_rfl
theorem c241 : Program.cellsOf Tryz.prog 241 = 1 := by kernel_rfl
theorem b241 : Program.bytesOf Tryz.prog 241 = 8 := by kernel_rfl
theorem k241 : Tk Tryz.prog 241 = some false := by kernel_rfl
theorem c242 : Program.cellsOf Tryz.prog 242 = 1 := by kernel_rfl
theorem b242 : Program.bytesOf Tryz.prog 242 = 8 := by kernel_rfl
theorem k242 : Tk Tryz.prog 242 = some false := by kernel_rfl
theorem c243 : Program.cellsOf Tryz.prog 243 = 1 := by kernel_rfl
theorem b243 : Program.bytesOf Tryz.prog 243 = 8 := by kernel_rfl
theorem k243 : Tk Tryz.prog 243 = some false := by kernel_rfl
theorem c244 : Program.cellsOf Tryz.prog 244 = 1 := by kernel_rfl
theorem b244 : Program.bytesOf Tryz.prog 244 = 8 := by kernel_rfl
theorem k244 : Tk Tryz.prog 244 = some false := by kernel_rfl
theorem c245 : Program.cellsOf Tryz.prog 245 = 1 := by kernel_rfl
theorem b245 : Program.bytesOf Tryz.prog 245 = 8 := by kernel_rfl
theorem k245 : Tk Tryz.prog 245 = some false := by kernel_rfl
theorem c246 : Program.cellsOf Tryz.prog 246 = 1 := by kernel_rfl
theorem b246 : Program.bytesOf Tryz.prog 246 = 8 := by kernel_rfl
theorem k246 : Tk Tryz.prog 246 = some false := by kernel_rfl
theorem c247 : Program.cellsOf Tryz.prog 247 = 1 := by kernel_rfl
theorem b247 : Program.bytesOf Tryz.prog 247 = 8 := by kernel_rfl
theorem k247 : Tk Tryz.prog 247 = some false := by kernel_rfl
theorem c248 : Program.cellsOf Tryz.prog 248 = 1 := by kernel_rfl
theorem b248 : Program.bytesOf Tryz.prog 248 = 8 := by kernel_rfl
theorem k248 : Tk Tryz.prog 248 = some false := by kernel_rfl
theorem c249 : Program.cellsOf Tryz.prog 249 = 1 := by kernel_rfl
theorem b249 : Program.bytesOf Tryz.prog 249 = 8 := by kernel_rfl
theorem k249 : Tk Tryz.prog 249 = some false := by kernel_rfl
theorem c250 : Program.cellsOf Tryz.prog 250 = 256 := by kernel_rfl
theorem b250 : Program.bytesOf Tryz.prog 250 = 256 := by kernel_rfl
theorem k250 : Tk Tryz.prog 250 = some true := by kernel_rfl
theorem z250 : Tzero Tryz.prog 250 = some [.int .u8 0, .int .u8 0, .int .u8 0, .int .u8 0, .int .u8 0, .int .u8 0, .int .u8 0, .int .u8 0, .int .u8 0, .int .u8 0, .int .u8 0, .int .u8 0, .int .u8 0, .int .u8 0, .int .u8 0, .int .u8 0, .int .u8 0, .int .u8 0, .int .u8 0, .int .u8 0, .int .u8 0, .int .u8 0, .int .u8 0, .int .u8 0, .int .u8 0, .int .u8 0, .int .u8 0, .int .u8 0, .int .u8 0, .int .u8 0, .int .u8 0, .int .u8 0, .int .u8 0, .int .u8 0, .int .u8 0, .int .u8 0, .int .u8 0, .int .u8 0, .int .u8 0, .int .u8 0, .int .u8 0, .int .u8 0, .int .u8 0, .int .u8 0, .int .u8 0, .int .u8 0, .int .u8 0, .int .u8 0, .int .u8 0, .int .u8 0, .int .u8 0, .int .u8 0, .int .u8 0, .int .u8 0, .int .u8 0, .int .u8 0, .int .u8 0, .int .u8 0, .int .u8 0, .int .u8 0, .int .u8 0, .int .u8 0, .int .u8 0, .int .u8 0, .int .u8 0, .int .u8 0, .int .u8 0, .int .u8 0, .int .u8 0, .int .u8 0, .int .u8 0, .int .u8 0, .int .u8 0, .int .u8 0, .int .u8 0, .int .u8 0, .int .u8 0, .int .u8 0, .int .u8 0, .int .u8 0, .int .u8 0, .int .u8 0, .int .u8 0, .int .u8 0, .int .u8 0, .int .u8 0, .int .u8 0, .int .u8 0, .int .u8 0, .int .u8 0, .int .u8 0, .int .u8 0, .int .u8 0, .int .u8 0, .int .u8 0, .int .u8 0, .int .u8 0, .int .u8 0, .int .u8 0, .int .u8 0, .int .u8 0, .int .u8 0, .int .u8 0, .int .u8 0, .int .u8 0, .int .u8 0, .int .u8 0, .int .u8 0, .int .u8 0, .int .u8 0, .int .u8 0, .int .u8 0, .int .u8 0, .int .u8 0, .int .u8 0, .int .u8 0, .int .u8 0, .int .u8 0, .int .u8 0, .int .u8 0, .int .u8 0, .int .u8 0, .int .u8 0, .int .u8 0, .int .u8 0, .int .u8 0, .int .u8 0, .int .u8 0, .int .u8 0, .int .u8 0, .int .u8 0, .int .u8 0, .int .u8 0, .int .u8 0, .int .u8 0, .int .u8 0, .int .u8 0, .int .u8 0, .int .u8 0, .int .u8 0, .int .u8 0, .int .u8 0, .int .u8 0, .int .u8 0, .int .u8 0, .int .u8 0, .int .u8 0, .int .u8 0, .int .u8 0, .int .u8 0, .int .u8 0, .int .u8 0, .int .u8 0, .int .u8 0, .int .u8 0, .int .u8 0, .int .u8 0, .int .u8 0, .int .u8 0, .int .u8 0, .int .u8 0, .int .u8 0, .int .u8 0, .int .u8 0, .int .u8 0, .int .u8 0, .int .u8 0, .int .u8 0, .int .u8 0, .int .u8 0, .int .u8 0, .int .u8 0, .int .u8 0, .int .u8 0, .int .u8 0, .int .u8 0, .int .u8 0, .int .u8 0, .int .u8 0, .int .u8 0, .int .u8 0, .int .u8 0, .int .u8 0, .int .u8 0, .int .u8 0, .int .u8 0, .int .u8 0, .int .u8 0, .int .u8 0, .int .u8 0, .int .u8 0, .int .u8 0, .int .u8 0, .int .u8 0, .int .u8 0, .int .u8 0, .int .u8 0, .int .u8 0, .int .u8 0, .int .u8 0, .int .u8 0, .int .u8 0, .int .u8 0, .int .u8 0, .int .u8 0, .int .u8 0, .int .u8 0, .int .u8 0, .int .u8 0, .int .u8 0, .int .u8 0, .int .u8 0, .int .u8 0, .int .u8 0, .int .u8 0, .int .u8 0, .int .u8 0, .int .u8 0, .int .u8 0, .int .u8 0, .int .u8 0, .int .u8 0, .int .u8 0, .int .u8 0, .int .u8 0, .int .u8 0, .int .u8 0, .int .u8 0, .int .u8 0, .int .u8 0, .int .u8 0, .int .u8 0, .int .u8 0, .int .u8 0, .int .u8 0, .int .u8 0, .int .u8 0, .int .u8 0, .int .u8 0, .int .u8 0, .int .u8 0, .int .u8 0, .int .u8 0, .int .u8 0, .int .u8 0, .int .u8 0, .int .u8 0, .int .u8 0, .int .u8 0, .int .u8 0, .int .u8 0, .int .u8 0, .int .u8 0, .int .u8 0, .int .u8 0, .int .u8 0] := by kernel_rfl
theorem a250 : TzeroA Tryz.prog 250 = some [.dv (.d (.int .u8 0)), .dv (.d (.int .u8 0)), .dv (.d (.int .u8 0)), .dv (.d (.int .u8 0)), .dv (.d (.int .u8 0)), .dv (.d (.int .u8 0)), .dv (.d (.int .u8 0)), .dv (.d (.int .u8 0)), .dv (.d (.int .u8 0)), .dv (.d (.int .u8 0)), .dv (.d (.int .u8 0)), .dv (.d (.int .u8 0)), .dv (.d (.int .u8 0)), .dv (.d (.int .u8 0)), .dv (.d (.int .u8 0)), .dv (.d (.int .u8 0)), .dv (.d (.int .u8 0)), .dv (.d (.int .u8 0)), .dv (.d (.int .u8 0)), .dv (.d (.int .u8 0)), .dv (.d (.int .u8 0)), .dv (.d (.int .u8 0)), .dv (.d (.int .u8 0)), .dv (.d (.int .u8 0)), .dv (.d (.int .u8 0)), .dv (.d (.int .u8 0)), .dv (.d (.int .u8 0)), .dv (.d (.int .u8 0)), .dv (.d (.int .u8 0)), .dv (.d (.int .u8 0)), .dv (.d (.int .u8 0)), .dv (.d (.int .u8 0)), .dv (.d (.int .u8 0)), .dv (.d (.int .u8 0)), .dv (.d (.int .u8 0)), .dv (.d (.int .u8 0)), .dv (.d (.int .u8 0)), .dv (.d (.int .u8 0)), .dv (.d (.int .u8 0)), .dv (.d (.int .u8 0)), .dv (.d (.int .u8 0)), .dv (.d (.int .u8 0)), .dv (.d (.int .u8 0)), .dv (.d (.int .u8 0)), .dv (.d (.int .u8 0)), .dv (.d (.int .u8 0)), .dv (.d (.int .u8 0)), .dv (.d (.int .u8 0)), .dv (.d (.int .u8 0)), .dv (.d (.int .u8 0)), .dv (.d (.int .u8 0)), .dv (.d (.int .u8 0)), .dv (.d (.int .u8 0)), .dv (.d (.int .u8 0)), .dv (.d (.int .u8 0)), .dv (.d (.int .u8 0)), .dv (.d (.int .u8 0)), .dv (.d (.int .u8 0)), .dv (.d (.int .u8 0)), .dv (.d (.int .u8 0)), .dv (.d (.int .u8 0)), .dv (.d (.int .u8 0)), .dv (.d (.int .u8 0)), .dv (.d (.int .u8 0)), .dv (.d (.int .u8 0)), .dv (.d (.int .u8 0)), .dv (.d (.int .u8 0)), .dv (.d (.int .u8 0)), .dv (.d (.int .u8 0)), .dv (.d (.int .u8 0)), .dv (.d (.int .u8 0)), .dv (.d (.int .u8 0)), .dv (.d (.int .u8 0)), .dv (.d (.int .u8 0)), .dv (.d (.int .u8 0)), .dv (.d (.int .u8 0)), .dv (.d (.int .u8 0)), .dv (.d (.int .u8 0)), .dv (.d (.int .u8 0)), .dv (.d (.int .u8 0)), .dv (.d (.int .u8 0)), .dv (.d (.int .u8 0)), .dv (.d (.int .u8 0)), .dv (.d (.int .u8 0)), .dv (.d (.int .u8 0)), .dv (.d (.int .u8 0)), .dv (.d (.int .u8 0)), .dv (.d (.int .u8 0)), .dv (.d (.int .u8 0)), .dv (.d (.int .u8 0)), .dv (.d (.int .u8 0)), .dv (.d (.int .u8 0)), .dv (.d (.int .u8 0)), .dv (.d (.int .u8 0)), .dv (.d (.int .u8 0)), .dv (.d (.int .u8 0)), .dv (.d (.int .u8 0)), .dv (.d (.int .u8 0)), .dv (.d (.int .u8 0)), .dv (.d (.int .u8 0)), .dv (.d (.int .u8 0)), .dv (.d (.int .u8 0)), .dv (.d (.int .u8 0)), .dv (.d (.int .u8 0)), .dv (.d (.int .u8 0)), .dv (.d (.int .u8 0)), .dv (.d (.int .u8 0)), .dv (.d (.int .u8 0)), .dv (.d (.int .u8 0)), .dv (.d (.int .u8 0)), .dv (.d (.int .u8 0)), .dv (.d (.int .u8 0)), .dv (.d (.int .u8 0)), .dv (.d (.int .u8 0)), .dv (.d (.int .u8 0)), .dv (.d (.int .u8 0)), .dv (.d (.int .u8 0)), .dv (.d (.int .u8 0)), .dv (.d (.int .u8 0)), .dv (.d (.int .u8 0)), .dv (.d (.int .u8 0)), .dv (.d (.int .u8 0)), .dv (.d (.int .u8 0)), .dv (.d (.int .u8 0)), .dv (.d (.int .u8 0)), .dv (.d (.int .u8 0)), .dv (.d (.int .u8 0)), .dv (.d (.int .u8 0)), .dv (.d (.int .u8 0)), .dv (.d (.int .u8 0)), .dv (.d (.int .u8 0)), .dv (.d (.int .u8 0)), .dv (.d (.int .u8 0)), .dv (.d (.int .u8 0)), .dv (.d (.int .u8 0)), .dv (.d (.int .u8 0)), .dv (.d (.int .u8 0)), .dv (.d (.int .u8 0)), .dv (.d (.int .u8 0)), .dv (.d (.int .u8 0)), .dv (.d (.int .u8 0)), .dv (.d (.int .u8 0)), .dv (.d (.int .u8 0)), .dv (.d (.int .u8 0)), .dv (.d (.int .u8 0)), .dv (.d (.int .u8 0)), .dv (.d (.int .u8 0)), .dv (.d (.int .u8 0)), .dv (.d (.int .u8 0)), .dv (.d (.int .u8 0)), .dv (.d (.int .u8 0)), .dv (.d (.int .u8 0)), .dv (.d (.int .u8 0)), .dv (.d (.int .u8 0)), .dv (.d (.int .u8 0)), .dv (.d (.int .u8 0)), .dv (.d (.int .u8 0)), .dv (.d (.int .u8 0)), .dv (.d (.int .u8 0)), .dv (.d (.int .u8 0)), .dv (.d (.int .u8 0)), .dv (.d (.int .u8 0)), .dv (.d (.int .u8 0)), .dv (.d (.int .u8 0)), .dv (.d (.int .u8 0)), .dv (.d (.int .u8 0)), .dv (.d (.int .u8 0)), .dv (.d (.int .u8 0)), .dv (.d (.int .u8 0)), .dv (.d (.int .u8 0)), .dv (.d (.int .u8 0)), .dv (.d (.int .u8 0)), .dv (.d (.int .u8 0)), .dv (.d (.int .u8 0)), .dv (.d (.int .u8 0)), .dv (.d (.int .u8 0)), .dv (.d (.int .u8 0)), .dv (.d (.int .u8 0)), .dv (.d (.int .u8 0)), .dv (.d (.int .u8 0)), .dv (.d (.int .u8 0)), .dv (.d (.int .u8 0)), .dv (.d (.int .u8 0)), .dv (.d (.int .u8 0)), .dv (.d (.int .u8 0)), .dv (.d (.int .u8 0)), .dv (.d (.int .u8 0)), .dv (.d (.int .u8 0)), .dv (.d (.int .u8 0)), .dv (.d (.int .u8 0)), .dv (.d (.int .u8 0)), .dv (.d (.int .u8 0)), .dv (.d (.int .u8 0)), .dv (.d (.int .u8 0)), .dv (.d (.int .u8 0)), .dv (.d (.int .u8 0)), .dv (.d (.int .u8 0)), .dv (.d (.int .u8 0)), .dv (.d (.int .u8 0)), .dv (.d (.int .u8 0)), .dv (.d (.int .u8 0)), .dv (.d (.int .u8 0)), .dv (.d (.int .u8 0)), .dv (.d (.int .u8 0)), .dv (.d (.int .u8 0)), .dv (.d (.int .u8 0)), .dv (.d (.int .u8 0)), .dv (.d (.int .u8 0)), .dv (.d (.int .u8 0)), .dv (.d (.int .u8 0)), .dv (.d (.int .u8 0)), .dv (.d (.int .u8 0)), .dv (.d (.int .u8 0)), .dv (.d (.int .u8 0)), .dv (.d (.int .u8 0)), .dv (.d (.int .u8 0)), .dv (.d (.int .u8 0)), .dv (.d (.int .u8 0)), .dv (.d (.int .u8 0)), .dv (.d (.int .u8 0)), .dv (.d (.int .u8 0)), .dv (.d (.int .u8 0)), .dv (.d (.int .u8 0)), .dv (.d (.int .u8 0)), .dv (.d (.int .u8 0)), .dv (.d (.int .u8 0)), .dv (.d (.int .u8 0)), .dv (.d (.int .u8 0)), .dv (.d (.int .u8 0)), .dv (.d (.int .u8 0)), .dv (.d (.int .u8 0)), .dv (.d (.int .u8 0)), .dv (.d (.int .u8 0)), .dv (.d (.int .u8 0)), .dv (.d (.int .u8 0)), .dv (.d (.int .u8 0)), .dv (.d (.int .u8 0)), .dv (.d (.int .u8 0)), .dv (.d (.int .u8 0)), .dv (.d (.int .u8 0)), .dv (.d (.int .u8 0)), .dv (.d (.int .u8 0)), .dv (.d (.int .u8 0)), .dv (.d (.int .u8 0)), .dv (.d (.int .u8 0)), .dv (.d (.int .u8 0)), .dv (.d (.int .u8 0)), .dv (.d (.int .u8 0)), .dv (.d (.int .u8 0)), .dv (.d (.int .u8 0)), .dv (.d (.int .u8 0)), .dv (.d (.int .u8 0)), .dv (.d (.int .u8 0)), .dv (.d (.int .u8 0)), .dv (.d (.int .u8 0)), .dv (.d (.int .u8 0))] := by kernel_rfl
theorem p250 : Tplc Tryz.prog 250 = some [(0, 1), (1, 1), (2, 1), (3, 1), (4, 1), (5, 1), (6, 1), (7, 1), (8, 1), (9, 1), (10, 1), (11, 1), (12, 1), (13, 1), (14, 1), (15, 1), (16, 1), (17, 1), (18, 1), (19, 1), (20, 1), (21, 1), (22, 1), (23, 1), (24, 1), (25, 1), (26, 1), (27, 1), (28, 1), (29, 1), (30, 1), (31, 1), (32, 1), (33, 1), (34, 1), (35, 1), (36, 1), (37, 1), (38, 1), (39, 1), (40, 1), (41, 1), (42, 1), (43, 1), (44, 1), (45, 1), (46, 1), (47, 1), (48, 1), (49, 1), (50, 1), (51, 1), (52, 1), (53, 1), (54, 1), (55, 1), (56, 1), (57, 1), (58, 1), (59, 1), (60, 1), (61, 1), (62, 1), (63, 1), (64, 1), (65, 1), (66, 1), (67, 1), (68, 1), (69, 1), (70, 1), (71, 1), (72, 1), (73, 1), (74, 1), (75, 1), (76, 1), (77, 1), (78, 1), (79, 1), (80, 1), (81, 1), (82, 1), (83, 1), (84, 1), (85, 1), (86, 1), (87, 1), (88, 1), (89, 1), (90, 1), (91, 1), (92, 1), (93, 1), (94, 1), (95, 1), (96, 1), (97, 1), (98, 1), (99, 1), (100, 1), (101, 1), (102, 1), (103, 1), (104, 1), (105, 1), (106, 1), (107, 1), (108, 1), (109, 1), (110, 1), (111, 1), (112, 1), (113, 1), (114, 1), (115, 1), (116, 1), (117, 1), (118, 1), (119, 1), (120, 1), (121, 1), (122, 1), (123, 1), (124, 1), (125, 1), (126, 1), (127, 1), (128, 1), (129, 1), (130, 1), (131, 1), (132, 1), (133, 1), (134, 1), (135, 1), (136, 1), (137, 1), (138, 1), (139, 1), (140, 1), (141, 1), (142, 1), (143, 1), (144, 1), (145, 1), (146, 1), (147, 1), (148, 1), (149, 1), (150, 1), (151, 1), (152, 1), (153, 1), (154, 1), (155, 1), (156, 1), (157, 1), (158, 1), (159, 1), (160, 1), (161, 1), (162, 1), (163, 1), (164, 1), (165, 1), (166, 1), (167, 1), (168, 1), (169, 1), (170, 1), (171, 1), (172, 1), (173, 1), (174, 1), (175, 1), (176, 1), (177, 1), (178, 1), (179, 1), (180, 1), (181, 1), (182, 1), (183, 1), (184, 1), (185, 1), (186, 1), (187, 1), (188, 1), (189, 1), (190, 1), (191, 1), (192, 1), (193, 1), (194, 1), (195, 1), (196, 1), (197, 1), (198, 1), (199, 1), (200, 1), (201, 1), (202, 1), (203, 1), (204, 1), (205, 1), (206, 1), (207, 1), (208, 1), (209, 1), (210, 1), (211, 1), (212, 1), (213, 1), (214, 1), (215, 1), (216, 1), (217, 1), (218, 1), (219, 1), (220, 1), (221, 1), (222, 1), (223, 1), (224, 1), (225, 1), (226, 1), (227, 1), (228, 1), (229, 1), (230, 1), (231, 1), (232, 1), (233, 1), (234, 1), (235, 1), (236, 1), (237, 1), (238, 1), (239, 1), (240, 1), (241, 1), (242, 1), (243, 1), (244, 1), (245, 1), (246, 1), (247, 1), (248, 1), (249, 1), (250, 1), (251, 1), (252, 1), (253, 1), (254, 1), (255, 1)] := by kernel_rfl
theorem c251 : Program.cellsOf Tryz.prog 251 = 2 := by kernel_rfl
theorem b251 : Program.bytesOf Tryz.prog 251 = 2 := by kernel_rfl
theorem k251 : Tk Tryz.prog 251 = some true := by kernel_rfl
theorem z251 : Tzero Tryz.prog 251 = some [.int .u8 0, .int .u8 0] := by kernel_rfl
theorem a251 : TzeroA Tryz.prog 251 = some [.dv (.d (.int .u8 0)), .dv (.d (.int .u8 0))] := by kernel_rfl
theorem e251 : eqT Tryz.prog 251 = some [.i .u8, .i .u8] := by kernel_rfl
theorem f251_0 : Tfld Tryz.prog 251 0 = some (0, 5) := by kernel_rfl
theorem f251_1 : Tfld Tryz.prog 251 1 = some (1, 5) := by kernel_rfl
theorem p251 : Tplc Tryz.prog 251 = some [(0, 1), (1, 1)] := by kernel_rfl
theorem c252 : Program.cellsOf Tryz.prog 252 = 2 := by kernel_rfl
theorem b252 : Program.bytesOf Tryz.prog 252 = 2 := by kernel_rfl
theorem k252 : Tk Tryz.prog 252 = some true := by kernel_rfl
theorem z252 : Tzero Tryz.prog 252 = some [.int .u8 0, .int .u8 0] := by kernel_rfl
theorem a252 : TzeroA Tryz.prog 252 = some [.dv (.d (.int .u8 0)), .dv (.d (.int .u8 0))] := by kernel_rfl
theorem e252 : eqT Tryz.prog 252 = some [.i .u8, .i .u8] := by kernel_rfl
theorem f252_0 : Tfld Tryz.prog 252 0 = some (0, 5) := by kernel_rfl
theorem f252_1 : Tfld Tryz.prog 252 1 = some (1, 5) := by kernel_rfl
theorem p252 : Tplc Tryz.prog 252 = some [(0, 1), (1, 1)] := by kernel_rfl
theorem c253 : Program.cellsOf Tryz.prog 253 = 32 := by kernel_rfl
theorem b253 : Program.bytesOf Tryz.prog 253 = 32 := by kernel_rfl
theorem k253 : Tk Tryz.prog 253 = some true := by kernel_rfl
theorem z253 : Tzero Tryz.prog 253 = some [.int .u8 0, .int .u8 0, .int .u8 0, .int .u8 0, .int .u8 0, .int .u8 0, .int .u8 0, .int .u8 0, .int .u8 0, .int .u8 0, .int .u8 0, .int .u8 0, .int .u8 0, .int .u8 0, .int .u8 0, .int .u8 0, .int .u8 0, .int .u8 0, .int .u8 0, .int .u8 0, .int .u8 0, .int .u8 0, .int .u8 0, .int .u8 0, .int .u8 0, .int .u8 0, .int .u8 0, .int .u8 0, .int .u8 0, .int .u8 0, .int .u8 0, .int .u8 0] := by kernel_rfl
theorem a253 : TzeroA Tryz.prog 253 = some [.dv (.d (.int .u8 0)), .dv (.d (.int .u8 0)), .dv (.d (.int .u8 0)), .dv (.d (.int .u8 0)), .dv (.d (.int .u8 0)), .dv (.d (.int .u8 0)), .dv (.d (.int .u8 0)), .dv (.d (.int .u8 0)), .dv (.d (.int .u8 0)), .dv (.d (.int .u8 0)), .dv (.d (.int .u8 0)), .dv (.d (.int .u8 0)), .dv (.d (.int .u8 0)), .dv (.d (.int .u8 0)), .dv (.d (.int .u8 0)), .dv (.d (.int .u8 0)), .dv (.d (.int .u8 0)), .dv (.d (.int .u8 0)), .dv (.d (.int .u8 0)), .dv (.d (.int .u8 0)), .dv (.d (.int .u8 0)), .dv (.d (.int .u8 0)), .dv (.d (.int .u8 0)), .dv (.d (.int .u8 0)), .dv (.d (.int .u8 0)), .dv (.d (.int .u8 0)), .dv (.d (.int .u8 0)), .dv (.d (.int .u8 0)), .dv (.d (.int .u8 0)), .dv (.d (.int .u8 0)), .dv (.d (.int .u8 0)), .dv (.d (.int .u8 0))] := by kernel_rfl
theorem p253 : Tplc Tryz.prog 253 = some [(0, 2), (2, 2), (4, 2), (6, 2), (8, 2), (10, 2), (12, 2), (14, 2), (16, 2), (18, 2), (20, 2), (22, 2), (24, 2), (26, 2), (28, 2), (30, 2)] := by kernel_rfl
theorem c254 : Program.cellsOf Tryz.prog 254 = 1 := by kernel_rfl
theorem b254 : Program.bytesOf Tryz.prog 254 = 8 := by kernel_rfl
theorem k254 : Tk Tryz.prog 254 = some false := by kernel_rfl
theorem c255 : Program.cellsOf Tryz.prog 255 = 1 := by kernel_rfl
theorem b255 : Program.bytesOf Tryz.prog 255 = 8 := by kernel_rfl
theorem k255 : Tk Tryz.prog 255 = some false := by kernel_rfl
theorem c256 : Program.cellsOf Tryz.prog 256 = 4 := by kernel_rfl
theorem b256 : Program.bytesOf Tryz.prog 256 = 40 := by kernel_rfl
theorem k256 : Tk Tryz.prog 256 = some true := by kernel_rfl
theorem f256_0 : Tfld Tryz.prog 256 0 = some (0, 17) := by kernel_rfl
theorem f256_1 : Tfld Tryz.prog 256 1 = some (1, 17) := by kernel_rfl
theorem f256_2 : Tfld Tryz.prog 256 2 = some (2, 17) := by kernel_rfl
theorem f256_3 : Tfld Tryz.prog 256 3 = some (3, 9) := by kernel_rfl
theorem p256 : Tplc Tryz.prog 256 = some [(0, 1), (1, 1), (2, 1), (3, 1)] := by kernel_rfl
theorem c257 : Program.cellsOf Tryz.prog 257 = 4 := by kernel_rfl
theorem b257 : Program.bytesOf Tryz.prog 257 = 40 := by kernel_rfl
theorem k257 : Tk Tryz.prog 257 = some true := by kernel_rfl
theorem f257_0 : Tfld Tryz.prog 257 0 = some (0, 17) := by kernel_rfl
theorem f257_1 : Tfld Tryz.prog 257 1 = some (1, 17) := by kernel_rfl
theorem f257_2 : Tfld Tryz.prog 257 2 = some (2, 17) := by kernel_rfl
theorem f257_3 : Tfld Tryz.prog 257 3 = some (3, 9) := by kernel_rfl
theorem p257 : Tplc Tryz.prog 257 = some [(0, 1), (1, 1), (2, 1), (3, 1)] := by kernel_rfl
theorem c258 : Program.cellsOf Tryz.prog 258 = 0 := by kernel_rfl
theorem b258 : Program.bytesOf Tryz.prog 258 = 0 := by kernel_rfl
theorem k258 : Tk Tryz.prog 258 = some true := by kernel_rfl
theorem z258 : Tzero Tryz.prog 258 = some [] := by kernel_rfl
theorem a258 : TzeroA Tryz.prog 258 = some [] := by kernel_rfl
theorem p258 : Tplc Tryz.prog 258 = some [] := by kernel_rfl
theorem c259 : Program.cellsOf Tryz.prog 259 = 0 := by kernel_rfl
theorem b259 : Program.bytesOf Tryz.prog 259 = 0 := by kernel_rfl
theorem k259 : Tk Tryz.prog 259 = some true := by kernel_rfl
theorem z259 : Tzero Tryz.prog 259 = some [] := by kernel_rfl
theorem a259 : TzeroA Tryz.prog 259 = some [] := by kernel_rfl
theorem f259_0 : Tfld Tryz.prog 259 0 = some (0, 258) := by kernel_rfl
theorem p259 : Tplc Tryz.prog 259 = some [(0, 0)] := by kernel_rfl
theorem c260 : Program.cellsOf Tryz.prog 260 = 0 := by kernel_rfl
theorem b260 : Program.bytesOf Tryz.prog 260 = 0 := by kernel_rfl
theorem k260 : Tk Tryz.prog 260 = some true := by kernel_rfl
theorem z260 : Tzero Tryz.prog 260 = some [] := by kernel_rfl
theorem a260 : TzeroA Tryz.prog 260 = some [] := by kernel_rfl
theorem f260_0 : Tfld Tryz.prog 260 0 = some (0, 258) := by kernel_rfl
theorem p260 : Tplc Tryz.prog 260 = some [(0, 0)] := by kernel_rfl
theorem c261 : Program.cellsOf Tryz.prog 261 = 1 := by kernel_rfl
theorem b261 : Program.bytesOf Tryz.prog 261 = 1 := by kernel_rfl
theorem k261 : Tk Tryz.prog 261 = some false := by kernel_rfl
theorem z261 : Tzero Tryz.prog 261 = some [.int .u8 0] := by kernel_rfl
theorem a261 : TzeroA Tryz.prog 261 = some [.dv (.d (.int .u8 0))] := by kernel_rfl
theorem o261 : Tone Tryz.prog 261 = some (.int .u8 0, 1) := by kernel_rfl
theorem c262 : Program.cellsOf Tryz.prog 262 = 1 := by kernel_rfl
theorem b262 : Program.bytesOf Tryz.prog 262 = 1 := by kernel_rfl
theorem k262 : Tk Tryz.prog 262 = some false := by kernel_rfl
theorem z262 : Tzero Tryz.prog 262 = some [.int .u8 0] := by kernel_rfl
theorem a262 : TzeroA Tryz.prog 262 = some [.dv (.d (.int .u8 0))] := by kernel_rfl
theorem o262 : Tone Tryz.prog 262 = some (.int .u8 0, 1) := by kernel_rfl
theorem c263 : Program.cellsOf Tryz.prog 263 = 1 := by kernel_rfl
theorem b263 : Program.bytesOf Tryz.prog 263 = 8 := by kernel_rfl
theorem k263 : Tk Tryz.prog 263 = some false := by kernel_rfl
theorem c264 : Program.cellsOf Tryz.prog 264 = 1 := by kernel_rfl
theorem b264 : Program.bytesOf Tryz.prog 264 = 4 := by kernel_rfl
theorem k264 : Tk Tryz.prog 264 = some false := by kernel_rfl
theorem z264 : Tzero Tryz.prog 264 = some [.int .i32 0] := by kernel_rfl
theorem a264 : TzeroA Tryz.prog 264 = some [.dv (.d (.int .i32 0))] := by kernel_rfl
theorem o264 : Tone Tryz.prog 264 = some (.int .i32 0, 4) := by kernel_rfl
theorem c265 : Program.cellsOf Tryz.prog 265 = 1 := by kernel_rfl
theorem b265 : Program.bytesOf Tryz.prog 265 = 4 := by kernel_rfl
theorem k265 : Tk Tryz.prog 265 = some false := by kernel_rfl
theorem z265 : Tzero Tryz.prog 265 = some [.int .i32 0] := by kernel_rfl
theorem a265 : TzeroA Tryz.prog 265 = some [.dv (.d (.int .i32 0))] := by kernel_rfl
theorem o265 : Tone Tryz.prog 265 = some (.int .i32 0, 4) := by kernel_rfl
theorem c266 : Program.cellsOf Tryz.prog 266 = 11 := by kernel_rfl
theorem b266 : Program.bytesOf Tryz.prog 266 = 48 := by kernel_rfl
theorem k266 : Tk Tryz.prog 266 = some true := by kernel_rfl
theorem f266_0 : Tfld Tryz.prog 266 0 = some (0, 12) := by kernel_rfl
theorem f266_1 : Tfld Tryz.prog 266 1 = some (1, 12) := by kernel_rfl
theorem f266_2 : Tfld Tryz.prog 266 2 = some (2, 179) := by kernel_rfl
theorem f266_3 : Tfld Tryz.prog 266 3 = some (3, 261) := by kernel_rfl
theorem f266_4 : Tfld Tryz.prog 266 4 = some (4, 5) := by kernel_rfl
theorem f266_5 : Tfld Tryz.prog 266 5 = some (5, 5) := by kernel_rfl
theorem f266_6 : Tfld Tryz.prog 266 6 = some (6, 262) := by kernel_rfl
theorem f266_7 : Tfld Tryz.prog 266 7 = some (7, 263) := by kernel_rfl
theorem f266_8 : Tfld Tryz.prog 266 8 = some (8, 231) := by kernel_rfl
theorem f266_9 : Tfld Tryz.prog 266 9 = some (9, 264) := by kernel_rfl
theorem f266_10 : Tfld Tryz.prog 266 10 = some (10, 265) := by kernel_rfl
theorem p266 : Tplc Tryz.prog 266 = some [(0, 1), (1, 1), (2, 1), (3, 1), (4, 1), (5, 1), (6, 1), (7, 1), (8, 1), (9, 1), (10, 1)] := by kernel_rfl
theorem c267 : Program.cellsOf Tryz.prog 267 = 11 := by kernel_rfl
theorem b267 : Program.bytesOf Tryz.prog 267 = 48 := by kernel_rfl
theorem k267 : Tk Tryz.prog 267 = some true := by kernel_rfl
theorem f267_0 : Tfld Tryz.prog 267 0 = some (0, 12) := by kernel_rfl
theorem f267_1 : Tfld Tryz.prog 267 1 = some (1, 12) := by kernel_rfl
theorem f267_2 : Tfld Tryz.prog 267 2 = some (2, 179) := by kernel_rfl
theorem f267_3 : Tfld Tryz.prog 267 3 = some (3, 261) := by kernel_rfl
theorem f267_4 : Tfld Tryz.prog 267 4 = some (4, 5) := by kernel_rfl
theorem f267_5 : Tfld Tryz.prog 267 5 = some (5, 5) := by kernel_rfl
theorem f267_6 : Tfld Tryz.prog 267 6 = some (6, 262) := by kernel_rfl
theorem f267_7 : Tfld Tryz.prog 267 7 = some (7, 263) := by kernel_rfl
theorem f267_8 : Tfld Tryz.prog 267 8 = some (8, 231) := by kernel_rfl
theorem f267_9 : Tfld Tryz.prog 267 9 = some (9, 264) := by kernel_rfl
theorem f267_10 : Tfld Tryz.prog 267 10 = some (10, 265) := by kernel_rfl
theorem p267 : Tplc Tryz.prog 267 = some [(0, 1), (1, 1), (2, 1), (3, 1), (4, 1), (5, 1), (6, 1), (7, 1), (8, 1), (9, 1), (10, 1)] := by kernel_rfl
theorem c268 : Program.cellsOf Tryz.prog 268 = 1 := by kernel_rfl
theorem b268 : Program.bytesOf Tryz.prog 268 = 8 := by kernel_rfl
theorem k268 : Tk Tryz.prog 268 = some false := by kernel_rfl
theorem zv2 : zeroAV Tryz.prog 2 = [.dv (.d (.int .i64 0))] := Go.Avc.Eq.zeroAV_e a2
theorem zv3 : zeroAV Tryz.prog 3 = [.dv (.d (.int .i64 0))] := Go.Avc.Eq.zeroAV_e a3
theorem zv4 : zeroAV Tryz.prog 4 = [.dv (.d (.bool false))] := Go.Avc.Eq.zeroAV_e a4
theorem zv5 : zeroAV Tryz.prog 5 = [.dv (.d (.int .u8 0))] := Go.Avc.Eq.zeroAV_e a5
theorem zv6 : zeroAV Tryz.prog 6 = [.dv (.d (.int .u8 0))] := Go.Avc.Eq.zeroAV_e a6
theorem zv7 : zeroAV Tryz.prog 7 = [.dv (.d (.int .i64 0)), .dv (.d (.int .i64 0)), .dv (.d (.bool false)), .dv (.d (.int .u8 0))] := Go.Avc.Eq.zeroAV_e a7
theorem zv8 : zeroAV Tryz.prog 8 = [.dv (.d (.int .i64 0)), .dv (.d (.int .i64 0)), .dv (.d (.bool false)), .dv (.d (.int .u8 0))] := Go.Avc.Eq.zeroAV_e a8
theorem zv9 : zeroAV Tryz.prog 9 = [.dv (.d (.str ⟨#[]⟩))] := Go.Avc.Eq.zeroAV_e a9
theorem zv10 : zeroAV Tryz.prog 10 = [.dv (.d (.str ⟨#[]⟩))] := Go.Avc.Eq.zeroAV_e a10
theorem zv11 : zeroAV Tryz.prog 11 = [.dv (.d (.str ⟨#[]⟩))] := Go.Avc.Eq.zeroAV_e a11
theorem zv12 : zeroAV Tryz.prog 12 = [.dv (.d (.int .u64 0))] := Go.Avc.Eq.zeroAV_e a12
theorem zv13 : zeroAV Tryz.prog 13 = [.dv (.d (.str ⟨#[]⟩)), .dv (.d (.int .u64 0))] := Go.Avc.Eq.zeroAV_e a13
theorem zv14 : zeroAV Tryz.prog 14 = [.dv (.d (.str ⟨#[]⟩)), .dv (.d (.int .u64 0))] := Go.Avc.Eq.zeroAV_e a14
theorem zv21 : zeroAV Tryz.prog 21 = [.dv (.d (.int .i32 0))] := Go.Avc.Eq.zeroAV_e a21
theorem zv22 : zeroAV Tryz.prog 22 = [.nil] := Go.Avc.Eq.zeroAV_e a22
theorem zv24 : zeroAV Tryz.prog 24 = [.nil, .dv (.d (.int .i64 0))] := Go.Avc.Eq.zeroAV_e a24
theorem zv25 : zeroAV Tryz.prog 25 = [.nil, .dv (.d (.int .i64 0))] := Go.Avc.Eq.zeroAV_e a25
theorem zv26 : zeroAV Tryz.prog 26 = [.nil] := Go.Avc.Eq.zeroAV_e a26
theorem zv27 : zeroAV Tryz.prog 27 = [.dv (.d (.str ⟨#[]⟩)), .nil] := Go.Avc.Eq.zeroAV_e a27
theorem zv28 : zeroAV Tryz.prog 28 = [.dv (.d (.str ⟨#[]⟩)), .nil] := Go.Avc.Eq.zeroAV_e a28
theorem zv32 : zeroAV Tryz.prog 32 = [.dv (.d (.int .i64 0))] := Go.Avc.Eq.zeroAV_e a32
theorem zv43 : zeroAV Tryz.prog 43 = [.nil] := Go.Avc.Eq.zeroAV_e a43
theorem zv45 : zeroAV Tryz.prog 45 = [.dv (.d (.int .i64 0)), .dv (.d (.str ⟨#[]⟩))] := Go.Avc.Eq.zeroAV_e a45
theorem zv46 : zeroAV Tryz.prog 46 = [.dv (.d (.int .i64 0)), .dv (.d (.str ⟨#[]⟩))] := Go.Avc.Eq.zeroAV_e a46
theorem zv47 : zeroAV Tryz.prog 47 = [.nil] := Go.Avc.Eq.zeroAV_e a47
theorem zv48 : zeroAV Tryz.prog 48 = [.dv (.d (.str ⟨#[]⟩)), .dv (.d (.str ⟨#[]⟩)), .dv (.d (.int .i64 0)), .dv (.d (.int .i64 0)), .dv (.d (.str ⟨#[]⟩)), .nil] := Go.Avc.Eq.zeroAV_e a48
theorem zv49 : zeroAV Tryz.prog 49 = [.dv (.d (.str ⟨#[]⟩)), .dv (.d (.str ⟨#[]⟩)), .dv (.d (.int .i64 0)), .dv (.d (.int .i64 0)), .dv (.d (.str ⟨#[]⟩)), .nil] := Go.Avc.Eq.zeroAV_e a49
theorem zv54 : zeroAV Tryz.prog 54 = [.nil] := Go.Avc.Eq.zeroAV_e a54
theorem zv56 : zeroAV Tryz.prog 56 = [.nil] := Go.Avc.Eq.zeroAV_e a56
theorem zv59 : zeroAV Tryz.prog 59 = [.dv (.d (.int .i64 0)), .dv (.d (.str ⟨#[]⟩)), .dv (.d (.str ⟨#[]⟩)), .dv (.d (.str ⟨#[]⟩)), .dv (.d (.int .i64 0)), .dv (.d (.int .i64 0))] := Go.Avc.Eq.zeroAV_e a59
theorem zv60 : zeroAV Tryz.prog 60 = [.dv (.d (.int .i64 0)), .dv (.d (.str ⟨#[]⟩)), .dv (.d (.str ⟨#[]⟩)), .dv (.d (.str ⟨#[]⟩)), .dv (.d (.int .i64 0)), .dv (.d (.int .i64 0))] := Go.Avc.Eq.zeroAV_e a60
theorem zv63 : zeroAV Tryz.prog 63 = [.dv (.d (.bool false)), .dv (.d (.int .i64 0)), .dv (.d (.int .i64 0))] := Go.Avc.Eq.zeroAV_e a63
theorem zv64 : zeroAV Tryz.prog 64 = [.dv (.d (.bool false)), .dv (.d (.int .i64 0)), .dv (.d (.int .i64 0))] := Go.Avc.Eq.zeroAV_e a64
theorem zv70 : zeroAV Tryz.prog 70 = [.dv (.d (.str ⟨#[]⟩)), .dv (.d (.int .i64 0)), .dv (.d (.bool false)), .dv (.d (.int .i64 0)), .dv (.d (.int .i64 0))] := Go.Avc.Eq.zeroAV_e a70
theorem zv71 : zeroAV Tryz.prog 71 = [.dv (.d (.str ⟨#[]⟩)), .dv (.d (.int .i64 0)), .dv (.d (.bool false)), .dv (.d (.int .i64 0)), .dv (.d (.int .i64 0))] := Go.Avc.Eq.zeroAV_e a71
theorem zv77 : zeroAV Tryz.prog 77 = [.dv (.d (.int .i64 0)), .dv (.d (.int .i64 0))] := Go.Avc.Eq.zeroAV_e a77
theorem zv78 : zeroAV Tryz.prog 78 = [.dv (.d (.int .i64 0)), .dv (.d (.int .i64 0))] := Go.Avc.Eq.zeroAV_e a78
theorem zv86 : zeroAV Tryz.prog 86 = [.dv (.d (.str ⟨#[]⟩)), .dv (.d (.str ⟨#[]⟩)), .dv (.d (.str ⟨#[]⟩)), .dv (.d (.str ⟨#[]⟩))] := Go.Avc.Eq.zeroAV_e a86
theorem zv87 : zeroAV Tryz.prog 87 = [.nil] := Go.Avc.Eq.zeroAV_e a87
theorem zv88 : zeroAV Tryz.prog 88 = [.dv (.d (.str ⟨#[]⟩)), .nil] := Go.Avc.Eq.zeroAV_e a88
theorem zv89 : zeroAV Tryz.prog 89 = [.dv (.d (.str ⟨#[]⟩)), .nil] := Go.Avc.Eq.zeroAV_e a89
theorem zv90 : zeroAV Tryz.prog 90 = [.dv (.d (.str ⟨#[]⟩)), .dv (.d (.str ⟨#[]⟩)), .dv (.d (.str ⟨#[]⟩)), .dv (.d (.str ⟨#[]⟩)), .dv (.d (.str ⟨#[]⟩)), .dv (.d (.str ⟨#[]⟩))] := Go.Avc.Eq.zeroAV_e a90
theorem zv91 : zeroAV Tryz.prog 91 = [.dv (.d (.str ⟨#[]⟩)), .dv (.d (.int .i64 0)), .dv (.d (.bool false))] := Go.Avc.Eq.zeroAV_e a91
theorem zv92 : zeroAV Tryz.prog 92 = [.dv (.d (.str ⟨#[]⟩)), .dv (.d (.int .i64 0)), .dv (.d (.bool false))] := Go.Avc.Eq.zeroAV_e a92
theorem zv94 : zeroAV Tryz.prog 94 = [.dv (.d (.int .i64 0)), .dv (.d (.str ⟨#[]⟩)), .dv (.d (.int .i64 0))] := Go.Avc.Eq.zeroAV_e a94
theorem zv95 : zeroAV Tryz.prog 95 = [.dv (.d (.int .i64 0)), .dv (.d (.str ⟨#[]⟩)), .dv (.d (.int .i64 0))] := Go.Avc.Eq.zeroAV_e a95
theorem zv97 : zeroAV Tryz.prog 97 = [.dv (.d (.str ⟨#[]⟩)), .dv (.d (.int .i64 0)), .dv (.d (.str ⟨#[]⟩)), .dv (.d (.int .i64 0))] := Go.Avc.Eq.zeroAV_e a97
theorem zv98 : zeroAV Tryz.prog 98 = [.dv (.d (.str ⟨#[]⟩)), .dv (.d (.int .i64 0)), .dv (.d (.str ⟨#[]⟩)), .dv (.d (.int .i64 0))] := Go.Avc.Eq.zeroAV_e a98
theorem zv104 : zeroAV Tryz.prog 104 = [.nil] := Go.Avc.Eq.zeroAV_e a104
theorem zv105 : zeroAV Tryz.prog 105 = [.dv (.d (.str ⟨#[]⟩)), .nil] := Go.Avc.Eq.zeroAV_e a105
theorem zv106 : zeroAV Tryz.prog 106 = [.dv (.d (.str ⟨#[]⟩)), .nil] := Go.Avc.Eq.zeroAV_e a106
theorem zv109 : zeroAV Tryz.prog 109 = [.dv (.d (.int .i64 0)), .dv (.d (.int .i64 0)), .dv (.d (.int .i64 0)), .dv (.d (.str ⟨#[]⟩)), .dv (.d (.str ⟨#[]⟩)), .dv (.d (.str ⟨#[]⟩)), .dv (.d (.int .i64 0)), .dv (.d (.int .i64 0))] := Go.Avc.Eq.zeroAV_e a109
theorem zv110 : zeroAV Tryz.prog 110 = [.dv (.d (.int .i64 0)), .dv (.d (.int .i64 0)), .dv (.d (.int .i64 0)), .dv (.d (.str ⟨#[]⟩)), .dv (.d (.str ⟨#[]⟩)), .dv (.d (.str ⟨#[]⟩)), .dv (.d (.int .i64 0)), .dv (.d (.int .i64 0))] := Go.Avc.Eq.zeroAV_e a110
theorem zv117 : zeroAV Tryz.prog 117 = [.nil, .dv (.d (.str ⟨#[]⟩)), .dv (.d (.str ⟨#[]⟩)), .dv (.d (.int .i64 0)), .dv (.d (.int .i64 0))] := Go.Avc.Eq.zeroAV_e a117
theorem zv118 : zeroAV Tryz.prog 118 = [.nil, .dv (.d (.str ⟨#[]⟩)), .dv (.d (.str ⟨#[]⟩)), .dv (.d (.int .i64 0)), .dv (.d (.int .i64 0))] := Go.Avc.Eq.zeroAV_e a118
theorem zv120 : zeroAV Tryz.prog 120 = [.nil] := Go.Avc.Eq.zeroAV_e a120
theorem zv121 : zeroAV Tryz.prog 121 = [.dv (.d (.str ⟨#[]⟩)), .dv (.d (.int .i64 0)), .dv (.d (.bool false)), .dv (.d (.int .i64 0)), .dv (.d (.int .i64 0)), .dv (.d (.bool false)), .dv (.d (.str ⟨#[]⟩)), .nil] := Go.Avc.Eq.zeroAV_e a121
theorem zv122 : zeroAV Tryz.prog 122 = [.dv (.d (.str ⟨#[]⟩)), .dv (.d (.int .i64 0)), .dv (.d (.bool false)), .dv (.d (.int .i64 0)), .dv (.d (.int .i64 0)), .dv (.d (.bool false)), .dv (.d (.str ⟨#[]⟩)), .nil] := Go.Avc.Eq.zeroAV_e a122
theorem zv134 : zeroAV Tryz.prog 134 = [.nil] := Go.Avc.Eq.zeroAV_e a134
theorem zv139 : zeroAV Tryz.prog 139 = [.nil] := Go.Avc.Eq.zeroAV_e a139
theorem zv143 : zeroAV Tryz.prog 143 = [.nil] := Go.Avc.Eq.zeroAV_e a143
theorem zv149 : zeroAV Tryz.prog 149 = [.dv (.d (.int .i64 0)), .dv (.d (.str ⟨#[]⟩)), .dv (.d (.int .i64 0)), .dv (.d (.str ⟨#[]⟩)), .dv (.d (.int .i64 0)), .dv (.d (.str ⟨#[]⟩)), .dv (.d (.int .i64 0)), .dv (.d (.str ⟨#[]⟩)), .dv (.d (.int .i64 0)), .dv (.d (.str ⟨#[]⟩)), .dv (.d (.int .i64 0)), .dv (.d (.str ⟨#[]⟩)), .dv (.d (.int .i64 0)), .dv (.d (.str ⟨#[]⟩)), .dv (.d (.int .i64 0)), .dv (.d (.str ⟨#[]⟩)), .dv (.d (.int .i64 0)), .dv (.d (.str ⟨#[]⟩)), .dv (.d (.int .i64 0)), .dv (.d (.str ⟨#[]⟩))] := Go.Avc.Eq.zeroAV_e a149
theorem zv159 : zeroAV Tryz.prog 159 = [.nil] := Go.Avc.Eq.zeroAV_e a159
theorem zv179 : zeroAV Tryz.prog 179 = [.dv (.d (.int .u32 0))] := Go.Avc.Eq.zeroAV_e a179
theorem zv181 : zeroAV Tryz.prog 181 = [.nil] := Go.Avc.Eq.zeroAV_e a181
theorem zv187 : zeroAV Tryz.prog 187 = [.nil] := Go.Avc.Eq.zeroAV_e a187
theorem zv190 : zeroAV Tryz.prog 190 = [.dv (.d (.int .u64 0))] := Go.Avc.Eq.zeroAV_e a190
theorem zv211 : zeroAV Tryz.prog 211 = [.dv (.d (.bool false)), .dv (.d (.bool false)), .dv (.d (.bool false)), .dv (.d (.bool false)), .dv (.d (.bool false)), .dv (.d (.bool false)), .dv (.d (.bool false)), .dv (.d (.bool false)), .dv (.d (.bool false)), .dv (.d (.bool false)), .dv (.d (.bool false)), .dv (.d (.bool false)), .dv (.d (.bool false)), .dv (.d (.bool false)), .dv (.d (.bool false)), .dv (.d (.bool false)), .dv (.d (.bool false)), .dv (.d (.bool false)), .dv (.d (.bool false)), .dv (.d (.bool false)), .dv (.d (.bool false)), .dv (.d (.bool false)), .dv (.d (.bool false)), .dv (.d (.bool false)), .dv (.d (.bool false)), .dv (.d (.bool false)), .dv (.d (.bool false)), .dv (.d (.bool false)), .dv (.d (.bool false)), .dv (.d (.bool false)), .dv (.d (.bool false)), .dv (.d (.bool false)), .dv (.d (.bool false)), .dv (.d (.bool false)), .dv (.d (.bool false)), .dv (.d (.bool false)), .dv (.d (.bool false)), .dv (.d (.bool false)), .dv (.d (.bool false)), .dv (.d (.bool false)), .dv (.d (.bool false)), .dv (.d (.bool false)), .dv (.d (.bool false)), .dv (.d (.bool false)), .dv (.d (.bool false)), .dv (.d (.bool false)), .dv (.d (.bool false)), .dv (.d (.bool false)), .dv (.d (.bool false)), .dv (.d (.bool false)), .dv (.d (.bool false)), .dv (.d (.bool false)), .dv (.d (.bool false)), .dv (.d (.bool false)), .dv (.d (.bool false)), .dv (.d (.bool false)), .dv (.d (.bool false)), .dv (.d (.bool false)), .dv (.d (.bool false)), .dv (.d (.bool false)), .dv (.d (.bool false)), .dv (.d (.bool false)), .dv (.d (.bool false)), .dv (.d (.bool false)), .dv (.d (.bool false)), .dv (.d (.bool false)), .dv (.d (.bool false)), .dv (.d (.bool false)), .dv (.d (.bool false)), .dv (.d (.bool false)), .dv (.d (.bool false)), .dv (.d (.bool false)), .dv (.d (.bool false)), .dv (.d (.bool false)), .dv (.d (.bool false)), .dv (.d (.bool false)), .dv (.d (.bool false)), .dv (.d (.bool false)), .dv (.d (.bool false)), .dv (.d (.bool false)), .dv (.d (.bool false)), .dv (.d (.bool false)), .dv (.d (.bool false)), .dv (.d (.bool false)), .dv (.d (.bool false)), .dv (.d (.bool false)), .dv (.d (.bool false)), .dv (.d (.bool false)), .dv (.d (.bool false)), .dv (.d (.bool false)), .dv (.d (.bool false)), .dv (.d (.bool false)), .dv (.d (.bool false)), .dv (.d (.bool false)), .dv (.d (.bool false)), .dv (.d (.bool false)), .dv (.d (.bool false)), .dv (.d (.bool false)), .dv (.d (.bool false)), .dv (.d (.bool false)), .dv (.d (.bool false)), .dv (.d (.bool false)), .dv (.d (.bool false)), .dv (.d (.bool false)), .dv (.d (.bool false)), .dv (.d (.bool false)), .dv (.d (.bool false)), .dv (.d (.bool false)), .dv (.d (.bool false)), .dv (.d (.bool false)), .dv (.d (.bool false)), .dv (.d (.bool false)), .dv (.d (.bool false)), .dv (.d (.bool false)), .dv (.d (.bool false)), .dv (.d (.bool false)), .dv (.d (.bool false)), .dv (.d (.bool false)), .dv (.d (.bool false)), .dv (.d (.bool false)), .dv (.d (.bool false)), .dv (.d (.bool false)), .dv (.d (.bool false)), .dv (.d (.bool false)), .dv (.d (.bool false)), .dv (.d (.bool false)), .dv (.d (.bool false)), .dv (.d (.bool false)), .dv (.d (.bool false)), .dv (.d (.bool false)), .dv (.d (.bool false)), .dv (.d (.bool false)), .dv (.d (.bool false)), .dv (.d (.bool false)), .dv (.d (.bool false)), .dv (.d (.bool false)), .dv (.d (.bool false)), .dv (.d (.bool false)), .dv (.d (.bool false)), .dv (.d (.bool false)), .dv (.d (.bool false)), .dv (.d (.bool false)), .dv (.d (.bool false)), .dv (.d (.bool false)), .dv (.d (.bool false)), .dv (.d (.bool false)), .dv (.d (.bool false)), .dv (.d (.bool false)), .dv (.d (.bool false)), .dv (.d (.bool false)), .dv (.d (.bool false)), .dv (.d (.bool false)), .dv (.d (.bool false)), .dv (.d (.bool false)), .dv (.d (.bool false)), .dv (.d (.bool false)), .dv (.d (.bool false)), .dv (.d (.bool false)), .dv (.d (.bool false)), .dv (.d (.bool false)), .dv (.d (.bool false)), .dv (.d (.bool false)), .dv (.d (.bool false)), .dv (.d (.bool false)), .dv (.d (.bool false)), .dv (.d (.bool false)), .dv (.d (.bool false)), .dv (.d (.bool false)), .dv (.d (.bool false)), .dv (.d (.bool false)), .dv (.d (.bool false)), .dv (.d (.bool false)), .dv (.d (.bool false)), .dv (.d (.bool false)), .dv (.d (.bool false)), .dv (.d (.bool false)), .dv (.d (.bool false)), .dv (.d (.bool false)), .dv (.d (.bool false)), .dv (.d (.bool false)), .dv (.d (.bool false)), .dv (.d (.bool false)), .dv (.d (.bool false)), .dv (.d (.bool false)), .dv (.d (.bool false)), .dv (.d (.bool false)), .dv (.d (.bool false)), .dv (.d (.bool false)), .dv (.d (.bool false)), .dv (.d (.bool false)), .dv (.d (.bool false)), .dv (.d (.bool false)), .dv (.d (.bool false)), .dv (.d (.bool false)), .dv (.d (.bool false)), .dv (.d (.bool false)), .dv (.d (.bool false)), .dv (.d (.bool false)), .dv (.d (.bool false)), .dv (.d (.bool false)), .dv (.d (.bool false)), .dv (.d (.bool false)), .dv (.d (.bool false)), .dv (.d (.bool false)), .dv (.d (.bool false)), .dv (.d (.bool false)), .dv (.d (.bool false)), .dv (.d (.bool false)), .dv (.d (.bool false)), .dv (.d (.bool false)), .dv (.d (.bool false)), .dv (.d (.bool false)), .dv (.d (.bool false)), .dv (.d (.bool false)), .dv (.d (.bool false)), .dv (.d (.bool false)), .dv (.d (.bool false)), .dv (.d (.bool false)), .dv (.d (.bool false)), .dv (.d (.bool false)), .dv (.d (.bool false)), .dv (.d (.bool false)), .dv (.d (.bool false)), .dv (.d (.bool false)), .dv (.d (.bool false)), .dv (.d (.bool false)), .dv (.d (.bool false)), .dv (.d (.bool false)), .dv (.d (.bool false)), .dv (.d (.bool false)), .dv (.d (.bool false)), .dv (.d (.bool false)), .dv (.d (.bool false)), .dv (.d (.bool false)), .dv (.d (.bool false)), .dv (.d (.bool false)), .dv (.d (.bool false)), .dv (.d (.bool false)), .dv (.d (.bool false)), .dv (.d (.bool false)), .dv (.d (.bool false)), .dv (.d (.bool false)), .dv (.d (.bool false)), .dv (.d (.bool false)), .dv (.d (.bool false)), .dv (.d (.bool false)), .dv (.d (.bool false)), .dv (.d (.bool false)), .dv (.d (.bool false)), .dv (.d (.bool false)), .dv (.d (.bool false)), .dv (.d (.bool false)), .dv (.d (.bool false)), .dv (.d (.bool false)), .dv (.d (.bool false)), .dv (.d (.bool false))] := Go.Avc.Eq.zeroAV_e a211
theorem zv212 : zeroAV Tryz.prog 212 = [.dv (.d (.bool false)), .dv (.d (.bool false)), .dv (.d (.bool false)), .dv (.d (.bool false)), .dv (.d (.bool false)), .dv (.d (.bool false)), .dv (.d (.bool false)), .dv (.d (.bool false)), .dv (.d (.bool false)), .dv (.d (.bool false)), .dv (.d (.bool false)), .dv (.d (.bool false)), .dv (.d (.bool false)), .dv (.d (.bool false)), .dv (.d (.bool false)), .dv (.d (.bool false)), .dv (.d (.bool false)), .dv (.d (.bool false)), .dv (.d (.bool false)), .dv (.d (.bool false)), .dv (.d (.bool false)), .dv (.d (.bool false)), .dv (.d (.bool false)), .dv (.d (.bool false)), .dv (.d (.bool false)), .dv (.d (.bool false)), .dv (.d (.bool false)), .dv (.d (.bool false)), .dv (.d (.bool false)), .dv (.d (.bool false)), .dv (.d (.bool false)), .dv (.d (.bool false)), .dv (.d (.bool false)), .dv (.d (.bool false)), .dv (.d (.bool false)), .dv (.d (.bool false)), .dv (.d (.bool false)), .dv (.d (.bool false)), .dv (.d (.bool false)), .dv (.d (.bool false)), .dv (.d (.bool false)), .dv (.d (.bool false)), .dv (.d (.bool false)), .dv (.d (.bool false)), .dv (.d (.bool false)), .dv (.d (.bool false)), .dv (.d (.bool false)), .dv (.d (.bool false)), .dv (.d (.bool false)), .dv (.d (.bool false)), .dv (.d (.bool false)), .dv (.d (.bool false)), .dv (.d (.bool false)), .dv (.d (.bool false)), .dv (.d (.bool false)), .dv (.d (.bool false)), .dv (.d (.bool false)), .dv (.d (.bool false)), .dv (.d (.bool false)), .dv (.d (.bool false)), .dv (.d (.bool false)), .dv (.d (.bool false)), .dv (.d (.bool false)), .dv (.d (.bool false)), .dv (.d (.bool false)), .dv (.d (.bool false)), .dv (.d (.bool false)), .dv (.d (.bool false)), .dv (.d (.bool false)), .dv (.d (.bool false)), .dv (.d (.bool false)), .dv (.d (.bool false)), .dv (.d (.bool false)), .dv (.d (.bool false)), .dv (.d (.bool false)), .dv (.d (.bool false)), .dv (.d (.bool false)), .dv (.d (.bool false)), .dv (.d (.bool false)), .dv (.d (.bool false)), .dv (.d (.bool false)), .dv (.d (.bool false)), .dv (.d (.bool false)), .dv (.d (.bool false)), .dv (.d (.bool false)), .dv (.d (.bool false)), .dv (.d (.bool false)), .dv (.d (.bool false)), .dv (.d (.bool false)), .dv (.d (.bool false)), .dv (.d (.bool false)), .dv (.d (.bool false)), .dv (.d (.bool false)), .dv (.d (.bool false)), .dv (.d (.bool false)), .dv (.d (.bool false)), .dv (.d (.bool false)), .dv (.d (.bool false)), .dv (.d (.bool false)), .dv (.d (.bool false)), .dv (.d (.bool false)), .dv (.d (.bool false)), .dv (.d (.bool false)), .dv (.d (.bool false)), .dv (.d (.bool false)), .dv (.d (.bool false)), .dv (.d (.bool false)), .dv (.d (.bool false)), .dv (.d (.bool false)), .dv (.d (.bool false)), .dv (.d (.bool false)), .dv (.d (.bool false)), .dv (.d (.bool false)), .dv (.d (.bool false)), .dv (.d (.bool false)), .dv (.d (.bool false)), .dv (.d (.bool false)), .dv (.d (.bool false)), .dv (.d (.bool false)), .dv (.d (.bool false)), .dv (.d (.bool false)), .dv (.d (.bool false)), .dv (.d (.bool false)), .dv (.d (.bool false)), .dv (.d (.bool false)), .dv (.d (.bool false)), .dv (.d (.bool false)), .dv (.d (.bool false)), .dv (.d (.bool false)), .dv (.d (.bool false)), .dv (.d (.bool false)), .dv (.d (.bool false)), .dv (.d (.bool false)), .dv (.d (.bool false)), .dv (.d (.bool false)), .dv (.d (.bool false)), .dv (.d (.bool false)), .dv (.d (.bool false)), .dv (.d (.bool false)), .dv (.d (.bool false)), .dv (.d (.bool false)), .dv (.d (.bool false)), .dv (.d (.bool false)), .dv (.d (.bool false)), .dv (.d (.bool false)), .dv (.d (.bool false)), .dv (.d (.bool false)), .dv (.d (.bool false)), .dv (.d (.bool false)), .dv (.d (.bool false)), .dv (.d (.bool false)), .dv (.d (.bool false)), .dv (.d (.bool false)), .dv (.d (.bool false)), .dv (.d (.bool false)), .dv (.d (.bool false)), .dv (.d (.bool false)), .dv (.d (.bool false)), .dv (.d (.bool false)), .dv (.d (.bool false)), .dv (.d (.bool false)), .dv (.d (.bool false)), .dv (.d (.bool false)), .dv (.d (.bool false)), .dv (.d (.bool false)), .dv (.d (.bool false)), .dv (.d (.bool false)), .dv (.d (.bool false)), .dv (.d (.bool false)), .dv (.d (.bool false)), .dv (.d (.bool false)), .dv (.d (.bool false)), .dv (.d (.bool false)), .dv (.d (.bool false)), .dv (.d (.bool false)), .dv (.d (.bool false)), .dv (.d (.bool false)), .dv (.d (.bool false)), .dv (.d (.bool false)), .dv (.d (.bool false)), .dv (.d (.bool false)), .dv (.d (.bool false)), .dv (.d (.bool false)), .dv (.d (.bool false)), .dv (.d (.bool false)), .dv (.d (.bool false)), .dv (.d (.bool false)), .dv (.d (.bool false)), .dv (.d (.bool false)), .dv (.d (.bool false)), .dv (.d (.bool false)), .dv (.d (.bool false)), .dv (.d (.bool false)), .dv (.d (.bool false)), .dv (.d (.bool false)), .dv (.d (.bool false)), .dv (.d (.bool false)), .dv (.d (.bool false)), .dv (.d (.bool false)), .dv (.d (.bool false)), .dv (.d (.bool false)), .dv (.d (.bool false)), .dv (.d (.bool false)), .dv (.d (.bool false)), .dv (.d (.bool false)), .dv (.d (.bool false)), .dv (.d (.bool false)), .dv (.d (.bool false)), .dv (.d (.bool false)), .dv (.d (.bool false)), .dv (.d (.bool false)), .dv (.d (.bool false)), .dv (.d (.bool false)), .dv (.d (.bool false)), .dv (.d (.bool false)), .dv (.d (.bool false)), .dv (.d (.bool false)), .dv (.d (.bool false)), .dv (.d (.bool false)), .dv (.d (.bool false)), .dv (.d (.bool false)), .dv (.d (.bool false)), .dv (.d (.bool false)), .dv (.d (.bool false)), .dv (.d (.bool false)), .dv (.d (.bool false)), .dv (.d (.bool false)), .dv (.d (.bool false)), .dv (.d (.bool false)), .dv (.d (.bool false)), .dv (.d (.bool false)), .dv (.d (.bool false)), .dv (.d (.bool false)), .dv (.d (.bool false)), .dv (.d (.bool false)), .dv (.d (.bool false)), .dv (.d (.bool false)), .dv (.d (.bool false)), .dv (.d (.bool false)), .dv (.d (.bool false)), .dv (.d (.bool false)), .dv (.d (.bool false)), .dv (.d (.bool false)), .dv (.d (.bool false)), .dv (.d (.bool false)), .dv (.d (.bool false)), .dv (.d (.bool false)), .dv (.d (.bool false)), .dv (.d (.bool false)), .dv (.d (.bool false)), .dv (.d (.bool false)), .dv (.d (.bool false)), .dv (.d (.bool false)), .dv (.d (.bool false)), .dv (.d (.bool false)), .dv (.d (.bool false))] := Go.Avc.Eq.zeroAV_e a212
theorem zv228 : zeroAV Tryz.prog 228 = [.dv (.d (.int .u64 0))] := Go.Avc.Eq.zeroAV_e a228
theorem zv233 : zeroAV Tryz.prog 233 = [.dv (.d (.int .i64 0)), .dv (.d (.int .i64 0)), .dv (.d (.int .i64 0)), .dv (.d (.int .i64 0)), .dv (.d (.int .i64 0))] := Go.Avc.Eq.zeroAV_e a233
theorem zv250 : zeroAV Tryz.prog 250 = [.dv (.d (.int .u8 0)), .dv (.d (.int .u8 0)), .dv (.d (.int .u8 0)), .dv (.d (.int .u8 0)), .dv (.d (.int .u8 0)), .dv (.d (.int .u8 0)), .dv (.d (.int .u8 0)), .dv (.d (.int .u8 0)), .dv (.d (.int .u8 0)), .dv (.d (.int .u8 0)), .dv (.d (.int .u8 0)), .dv (.d (.int .u8 0)), .dv (.d (.int .u8 0)), .dv (.d (.int .u8 0)), .dv (.d (.int .u8 0)), .dv (.d (.int .u8 0)), .dv (.d (.int .u8 0)), .dv (.d (.int .u8 0)), .dv (.d (.int .u8 0)), .dv (.d (.int .u8 0)), .dv (.d (.int .u8 0)), .dv (.d (.int .u8 0)), .dv (.d (.int .u8 0)), .dv (.d (.int .u8 0)), .dv (.d (.int .u8 0)), .dv (.d (.int .u8 0)), .dv (.d (.int .u8 0)), .dv (.d (.int .u8 0)), .dv (.d (.int .u8 0)), .dv (.d (.int .u8 0)), .dv (.d (.int .u8 0)), .dv (.d (.int .u8 0)), .dv (.d (.int .u8 0)), .dv (.d (.int .u8 0)), .dv (.d (.int .u8 0)), .dv (.d (.int .u8 0)), .dv (.d (.int .u8 0)), .dv (.d (.int .u8 0)), .dv (.d (.int .u8 0)), .dv (.d (.int .u8 0)), .dv (.d (.int .u8 0)), .dv (.d (.int .u8 0)), .dv (.d (.int .u8 0)), .dv (.d (.int .u8 0)), .dv (.d (.int .u8 0)), .dv (.d (.int .u8 0)), .dv (.d (.int .u8 0)), .dv (.d (.int .u8 0)), .dv (.d (.int .u8 0)), .dv (.d (.int .u8 0)), .dv (.d (.int .u8 0)), .dv (.d (.int .u8 0)), .dv (.d (.int .u8 0)), .dv (.d (.int .u8 0)), .dv (.d (.int .u8 0)), .dv (.d (.int .u8 0)), .dv (.d (.int .u8 0)), .dv (.d (.int .u8 0)), .dv (.d (.int .u8 0)), .dv (.d (.int .u8 0)), .dv (.d (.int .u8 0)), .dv (.d (.int .u8 0)), .dv (.d (.int .u8 0)), .dv (.d (.int .u8 0)), .dv (.d (.int .u8 0)), .dv (.d (.int .u8 0)), .dv (.d (.int .u8 0)), .dv (.d (.int .u8 0)), .dv (.d (.int .u8 0)), .dv (.d (.int .u8 0)), .dv (.d (.int .u8 0)), .dv (.d (.int .u8 0)), .dv (.d (.int .u8 0)), .dv (.d (.int .u8 0)), .dv (.d (.int .u8 0)), .dv (.d (.int .u8 0)), .dv (.d (.int .u8 0)), .dv (.d (.int .u8 0)), .dv (.d (.int .u8 0)), .dv (.d (.int .u8 0)), .dv (.d (.int .u8 0)), .dv (.d (.int .u8 0)), .dv (.d (.int .u8 0)), .dv (.d (.int .u8 0)), .dv (.d (.int .u8 0)), .dv (.d (.int .u8 0)), .dv (.d (.int .u8 0)), .dv (.d (.int .u8 0)), .dv (.d (.int .u8 0)), .dv (.d (.int .u8 0)), .dv (.d (.int .u8 0)), .dv (.d (.int .u8 0)), .dv (.d (.int .u8 0)), .dv (.d (.int .u8 0)), .dv (.d (.int .u8 0)), .dv (.d (.int .u8 0)), .dv (.d (.int .u8 0)), .dv (.d (.int .u8 0)), .dv (.d (.int .u8 0)), .dv (.d (.int .u8 0)), .dv (.d (.int .u8 0)), .dv (.d (.int .u8 0)), .dv (.d (.int .u8 0)), .dv (.d (.int .u8 0)), .dv (.d (.int .u8 0)), .dv (.d (.int .u8 0)), .dv (.d (.int .u8 0)), .dv (.d (.int .u8 0)), .dv (.d (.int .u8 0)), .dv (.d (.int .u8 0)), .dv (.d (.int .u8 0)), .dv (.d (.int .u8 0)), .dv (.d (.int .u8 0)), .dv (.d (.int .u8 0)), .dv (.d (.int .u8 0)), .dv (.d (.int .u8 0)), .dv (.d (.int .u8 0)), .dv (.d (.int .u8 0)), .dv (.d (.int .u8 0)), .dv (.d (.int .u8 0)), .dv (.d (.int .u8 0)), .dv (.d (.int .u8 0)), .dv (.d (.int .u8 0)), .dv (.d (.int .u8 0)), .dv (.d (.int .u8 0)), .dv (.d (.int .u8 0)), .dv (.d (.int .u8 0)), .dv (.d (.int .u8 0)), .dv (.d (.int .u8 0)), .dv (.d (.int .u8 0)), .dv (.d (.int .u8 0)), .dv (.d (.int .u8 0)), .dv (.d (.int .u8 0)), .dv (.d (.int .u8 0)), .dv (.d (.int .u8 0)), .dv (.d (.int .u8 0)), .dv (.d (.int .u8 0)), .dv (.d (.int .u8 0)), .dv (.d (.int .u8 0)), .dv (.d (.int .u8 0)), .dv (.d (.int .u8 0)), .dv (.d (.int .u8 0)), .dv (.d (.int .u8 0)), .dv (.d (.int .u8 0)), .dv (.d (.int .u8 0)), .dv (.d (.int .u8 0)), .dv (.d (.int .u8 0)), .dv (.d (.int .u8 0)), .dv (.d (.int .u8 0)), .dv (.d (.int .u8 0)), .dv (.d (.int .u8 0)), .dv (.d (.int .u8 0)), .dv (.d (.int .u8 0)), .dv (.d (.int .u8 0)), .dv (.d (.int .u8 0)), .dv (.d (.int .u8 0)), .dv (.d (.int .u8 0)), .dv (.d (.int .u8 0)), .dv (.d (.int .u8 0)), .dv (.d (.int .u8 0)), .dv (.d (.int .u8 0)), .dv (.d (.int .u8 0)), .dv (.d (.int .u8 0)), .dv (.d (.int .u8 0)), .dv (.d (.int .u8 0)), .dv (.d (.int .u8 0)), .dv (.d (.int .u8 0)), .dv (.d (.int .u8 0)), .dv (.d (.int .u8 0)), .dv (.d (.int .u8 0)), .dv (.d (.int .u8 0)), .dv (.d (.int .u8 0)), .dv (.d (.int .u8 0)), .dv (.d (.int .u8 0)), .dv (.d (.int .u8 0)), .dv (.d (.int .u8 0)), .dv (.d (.int .u8 0)), .dv (.d (.int .u8 0)), .dv (.d (.int .u8 0)), .dv (.d (.int .u8 0)), .dv (.d (.int .u8 0)), .dv (.d (.int .u8 0)), .dv (.d (.int .u8 0)), .dv (.d (.int .u8 0)), .dv (.d (.int .u8 0)), .dv (.d (.int .u8 0)), .dv (.d (.int .u8 0)), .dv (.d (.int .u8 0)), .dv (.d (.int .u8 0)), .dv (.d (.int .u8 0)), .dv (.d (.int .u8 0)), .dv (.d (.int .u8 0)), .dv (.d (.int .u8 0)), .dv (.d (.int .u8 0)), .dv (.d (.int .u8 0)), .dv (.d (.int .u8 0)), .dv (.d (.int .u8 0)), .dv (.d (.int .u8 0)), .dv (.d (.int .u8 0)), .dv (.d (.int .u8 0)), .dv (.d (.int .u8 0)), .dv (.d (.int .u8 0)), .dv (.d (.int .u8 0)), .dv (.d (.int .u8 0)), .dv (.d (.int .u8 0)), .dv (.d (.int .u8 0)), .dv (.d (.int .u8 0)), .dv (.d (.int .u8 0)), .dv (.d (.int .u8 0)), .dv (.d (.int .u8 0)), .dv (.d (.int .u8 0)), .dv (.d (.int .u8 0)), .dv (.d (.int .u8 0)), .dv (.d (.int .u8 0)), .dv (.d (.int .u8 0)), .dv (.d (.int .u8 0)), .dv (.d (.int .u8 0)), .dv (.d (.int .u8 0)), .dv (.d (.int .u8 0)), .dv (.d (.int .u8 0)), .dv (.d (.int .u8 0)), .dv (.d (.int .u8 0)), .dv (.d (.int .u8 0)), .dv (.d (.int .u8 0)), .dv (.d (.int .u8 0)), .dv (.d (.int .u8 0)), .dv (.d (.int .u8 0)), .dv (.d (.int .u8 0)), .dv (.d (.int .u8 0)), .dv (.d (.int .u8 0)), .dv (.d (.int .u8 0)), .dv (.d (.int .u8 0)), .dv (.d (.int .u8 0)), .dv (.d (.int .u8 0)), .dv (.d (.int .u8 0)), .dv (.d (.int .u8 0)), .dv (.d (.int .u8 0)), .dv (.d (.int .u8 0)), .dv (.d (.int .u8 0)), .dv (.d (.int .u8 0)), .dv (.d (.int .u8 0)), .dv (.d (.int .u8 0)), .dv (.d (.int .u8 0)), .dv (.d (.int .u8 0)), .dv (.d (.int .u8 0)), .dv (.d (.int .u8 0)), .dv (.d (.int .u8 0)), .dv (.d (.int .u8 0)), .dv (.d (.int .u8 0)), .dv (.d (.int .u8 0)), .dv (.d (.int .u8 0)), .dv (.d (.int .u8 0)), .dv (.d (.int .u8 0)), .dv (.d (.int .u8 0)), .dv (.d (.int .u8 0)), .dv (.d (.int .u8 0))] := Go.Avc.Eq.zeroAV_e a250
theorem zv251 : zeroAV Tryz.prog 251 = [.dv (.d (.int .u8 0)), .dv (.d (.int .u8 0))] := Go.Avc.Eq.zeroAV_e a251
theorem zv252 : zeroAV Tryz.prog 252 = [.dv (.d (.int .u8 0)), .dv (.d (.int .u8 0))] := Go.Avc.Eq.zeroAV_e a252
theorem zv253 : zeroAV Tryz.prog 253 = [.dv (.d (.int .u8 0)), .dv (.d (.int .u8 0)), .dv (.d (.int .u8 0)), .dv (.d (.int .u8 0)), .dv (.d (.int .u8 0)), .dv (.d (.int .u8 0)), .dv (.d (.int .u8 0)), .dv (.d (.int .u8 0)), .dv (.d (.int .u8 0)), .dv (.d (.int .u8 0)), .dv (.d (.int .u8 0)), .dv (.d (.int .u8 0)), .dv (.d (.int .u8 0)), .dv (.d (.int .u8 0)), .dv (.d (.int .u8 0)), .dv (.d (.int .u8 0)), .dv (.d (.int .u8 0)), .dv (.d (.int .u8 0)), .dv (.d (.int .u8 0)), .dv (.d (.int .u8 0)), .dv (.d (.int .u8 0)), .dv (.d (.int .u8 0)), .dv (.d (.int .u8 0)), .dv (.d (.int .u8 0)), .dv (.d (.int .u8 0)), .dv (.d (.int .u8 0)), .dv (.d (.int .u8 0)), .dv (.d (.int .u8 0)), .dv (.d (.int .u8 0)), .dv (.d (.int .u8 0)), .dv (.d (.int .u8 0)), .dv (.d (.int .u8 0))] := Go.Avc.Eq.zeroAV_e a253
theorem zv258 : zeroAV Tryz.prog 258 = [] := Go.Avc.Eq.zeroAV_e a258
theorem zv259 : zeroAV Tryz.prog 259 = [] := Go.Avc.Eq.zeroAV_e a259
theorem zv260 : zeroAV Tryz.prog 260 = [] := Go.Avc.Eq.zeroAV_e a260
theorem zv261 : zeroAV Tryz.prog 261 = [.dv (.d (.int .u8 0))] := Go.Avc.Eq.zeroAV_e a261
theorem zv262 : zeroAV Tryz.prog 262 = [.dv (.d (.int .u8 0))] := Go.Avc.Eq.zeroAV_e a262
theorem zv264 : zeroAV Tryz.prog 264 = [.dv (.d (.int .i32 0))] := Go.Avc.Eq.zeroAV_e a264
theorem zv265 : zeroAV Tryz.prog 265 = [.dv (.d (.int .i32 0))] := Go.Avc.Eq.zeroAV_e a265
attribute [go_sem] c0 b0 k0 Tryz.underlying0 c1 b1 k1 Tryz.underlying1 c2 b2 k2 z2 zv2 a2 o2 Tryz.underlying2 c3 b3 k3 z3 zv3 a3 o3 Tryz.underlying3 c4 b4 k4 z4 zv4 a4 o4 Tryz.underlying4 c5 b5 k5 z5 zv5 a5 o5 Tryz.underlying5
attribute [go_sem] c6 b6 k6 z6 zv6 a6 o6 Tryz.underlying6 c7 b7 k7 z7 zv7 a7 e7 f7_0 f7_1 f7_2 f7_3 p7 Tryz.underlying7 c8 b8 k8 z8 zv8 a8 e8 f8_0 f8_1 f8_2 f8_3 p8 Tryz.underlying8 c9 b9 k9 z9 zv9 a9
attribute [go_sem] o9 Tryz.underlying9 c10 b10 k10 z10 zv10 a10 o10 Tryz.underlying10 c11 b11 k11 z11 zv11 a11 o11 Tryz.underlying11 c12 b12 k12 z12 zv12 a12 o12 Tryz.underlying12 c13 b13 k13 z13 zv13 a13 f13_0 f13_1 p13 Tryz.underlying13 c14 b14 k14 z14
attribute [go_sem] zv14 a14 f14_0 f14_1 p14 Tryz.underlying14 c15 b15 k15 Tryz.underlying15 c16 b16 k16 Tryz.underlying16 c17 b17 k17 Tryz.underlying17 c18 b18 k18 f18_0 p18 Tryz.underlying18 c19 b19 k19 f19_0 p19 Tryz.underlying19 c20 b20 k20 Tryz.underlying20 c21 b21 k21 z21 zv21 a21
attribute [go_sem] o21 Tryz.underlying21 c22 b22 k22 z22 zv22 a22 o22 Tryz.underlying22 c23 b23 k23 Tryz.underlying23 c24 b24 k24 z24 zv24 a24 f24_0 f24_1 p24 Tryz.underlying24 c25 b25 k25 z25 zv25 a25 f25_0 f25_1 p25 Tryz.underlying25 c26 b26 k26 z26 zv26 a26
attribute [go_sem] o26 Tryz.underlying26 c27 b27 k27 z27 zv27 a27 f27_0 f27_1 p27 Tryz.underlying27 c28 b28 k28 z28 zv28 a28 f28_0 f28_1 p28 Tryz.underlying28 c29 b29 k29 Tryz.underlying29 c30 b30 k30 Tryz.underlying30 c31 b31 k31 Tryz.underlying31 c32 b32 k32 z32 zv32 a32
attribute [go_sem] o32 Tryz.underlying32 c33 b33 k33 Tryz.underlying33 c34 b34 k34 Tryz.underlying34 c35 b35 k35 Tryz.underlying35 c36 b36 k36 Tryz.underlying36 c37 b37 k37 Tryz.underlying37 c38 b38 k38 Tryz.underlying38 c39 b39 k39 Tryz.underlying39 c40 b40 k40 Tryz.underlying40 c41 b41 k41 Tryz.underlying41 c42 b42
attribute [go_sem] k42 Tryz.underlying42 c43 b43 k43 z43 zv43 a43 o43 Tryz.underlying43 c44 b44 k44 Tryz.underlying44 c45 b45 k45 z45 zv45 a45 e45 f45_0 f45_1 p45 Tryz.underlying45 c46 b46 k46 z46 zv46 a46 e46 f46_0 f46_1 p46 Tryz.underlying46 c47 b47 k47 z47
attribute [go_sem] zv47 a47 o47 Tryz.underlying47 c48 b48 k48 z48 zv48 a48 f48_0 f48_1 f48_2 f48_3 f48_4 p48 Tryz.underlying48 c49 b49 k49 z49 zv49 a49 f49_0 f49_1 f49_2 f49_3 f49_4 p49 Tryz.underlying49 c50 b50 k50 Tryz.underlying50 c51 b51 k51 Tryz.underlying51 c52 b52
attribute [go_sem] k52 Tryz.underlying52 c53 b53 k53 Tryz.underlying53 c54 b54 k54 z54 zv54 a54 o54 Tryz.underlying54 c55 b55 k55 Tryz.underlying55 c56 b56 k56 z56 zv56 a56 o56 Tryz.underlying56 c57 b57 k57 Tryz.underlying57 c58 b58 k58 Tryz.underlying58 c59 b59 k59 z59 zv59 a59
attribute [go_sem] e59 f59_0 f59_1 f59_2 f59_3 f59_4 p59 Tryz.underlying59 c60 b60 k60 z60 zv60 a60 e60 f60_0 f60_1 f60_2 f60_3 f60_4 p60 Tryz.underlying60 c61 b61 k61 Tryz.underlying61 c62 b62 k62 Tryz.underlying62 c63 b63 k63 z63 zv63 a63 e63 f63_0 f63_1 f63_2
attribute [go_sem] p63 Tryz.underlying63 c64 b64 k64 z64 zv64 a64 e64 f64_0 f64_1 f64_2 p64 Tryz.underlying64 c65 b65 k65 Tryz.underlying65 c66 b66 k66 Tryz.underlying66 c67 b67 k67 Tryz.underlying67 c68 b68 k68 Tryz.underlying68 c69 b69 k69 Tryz.underlying69 c70 b70 k70 z70 zv70 a70
attribute [go_sem] e70 f70_0 f70_1 f70_2 f70_3 f70_4 p70 Tryz.underlying70 c71 b71 k71 z71 zv71 a71 e71 f71_0 f71_1 f71_2 f71_3 f71_4 p71 Tryz.underlying71 c72 b72 k72 Tryz.underlying72 c73 b73 k73 Tryz.underlying73 c74 b74 k74 Tryz.underlying74 c75 b75 k75 Tryz.underlying75 c76 b76
attribute [go_sem] k76 Tryz.underlying76 c77 b77 k77 z77 zv77 a77 e77 f77_0 f77_1 p77 Tryz.underlying77 c78 b78 k78 z78 zv78 a78 e78 f78_0 f78_1 p78 Tryz.underlying78 c79 b79 k79 Tryz.underlying79 c80 b80 k80 Tryz.underlying80 c81 b81 k81 Tryz.underlying81 c82 b82 k82 Tryz.underlying82
attribute [go_sem] c83 b83 k83 Tryz.underlying83 c84 b84 k84 Tryz.underlying84 c85 b85 k85 Tryz.underlying85 c86 b86 k86 z86 zv86 a86 p86 Tryz.underlying86 c87 b87 k87 z87 zv87 a87 o87 Tryz.underlying87 c88 b88 k88 z88 zv88 a88 f88_0 f88_1 p88 Tryz.underlying88 c89 b89
attribute [go_sem] k89 z89 zv89 a89 f89_0 f89_1 p89 Tryz.underlying89 c90 b90 k90 z90 zv90 a90 p90 Tryz.underlying90 c91 b91 k91 z91 zv91 a91 e91 f91_0 f91_1 f91_2 p91 Tryz.underlying91 c92 b92 k92 z92 zv92 a92 e92 f92_0 f92_1 f92_2 p92 Tryz.underlying92
attribute [go_sem] c93 b93 k93 Tryz.underlying93 c94 b94 k94 z94 zv94 a94 e94 f94_0 f94_1 f94_2 p94 Tryz.underlying94 c95 b95 k95 z95 zv95 a95 e95 f95_0 f95_1 f95_2 p95 Tryz.underlying95 c96 b96 k96 Tryz.underlying96 c97 b97 k97 z97 zv97 a97 e97 f97_0
attribute [go_sem] f97_1 p97 Tryz.underlying97 c98 b98 k98 z98 zv98 a98 e98 f98_0 f98_1 p98 Tryz.underlying98 c99 b99 k99 Tryz.underlying99 c100 b100 k100 Tryz.underlying100 c101 b101 k101 Tryz.underlying101 c102 b102 k102 Tryz.underlying102 c103 b103 k103 Tryz.underlying103 c104 b104 k104 z104 zv104 a104
attribute [go_sem] o104 Tryz.underlying104 c105 b105 k105 z105 zv105 a105 f105_0 f105_1 p105 Tryz.underlying105 c106 b106 k106 z106 zv106 a106 f106_0 f106_1 p106 Tryz.underlying106 c107 b107 k107 Tryz.underlying107 c108 b108 k108 Tryz.underlying108 c109 b109 k109 z109 zv109 a109 e109 f109_0 f109_1 f109_2
attribute [go_sem] f109_3 f109_4 f109_5 f109_6 p109 Tryz.underlying109 c110 b110 k110 z110 zv110 a110 e110 f110_0 f110_1 f110_2 f110_3 f110_4 f110_5 f110_6 p110 Tryz.underlying110 c111 b111 k111 Tryz.underlying111 c112 b112 k112 Tryz.underlying112 c113 b113 k113 Tryz.underlying113 c114 b114 k114 Tryz.underlying114 c115 b115
attribute [go_sem] k115 Tryz.underlying115 c116 b116 k116 Tryz.underlying116 c117 b117 k117 z117 zv117 a117 f117_0 f117_1 f117_2 f117_3 f117_4 p117 Tryz.underlying117 c118 b118 k118 z118 zv118 a118 f118_0 f118_1 f118_2 f118_3 f118_4 p118 Tryz.underlying118 c119 b119 k119 Tryz.underlying119 c120 b120 k120 z120
attribute [go_sem] zv120 a120 o120 Tryz.underlying120 c121 b121 k121 z121 zv121 a121 f121_0 f121_1 f121_2 f121_3 p121 Tryz.underlying121 c122 b122 k122 z122 zv122 a122 f122_0 f122_1 f122_2 f122_3 p122 Tryz.underlying122 c123 b123 k123 Tryz.underlying123 c124 b124 k124 Tryz.underlying124 c125 b125 k125 Tryz.underlying125
attribute [go_sem] c126 b126 k126 Tryz.underlying126 c127 b127 k127 Tryz.underlying127 c128 b128 k128 Tryz.underlying128 c129 b129 k129 Tryz.underlying129 c130 b130 k130 Tryz.underlying130 c131 b131 k131 Tryz.underlying131 c132 b132 k132 Tryz.underlying132 c133 b133 k133 Tryz.underlying133 c134 b134 k134 z134 zv134 a134 o134 Tryz.underlying134
attribute [go_sem] c135 b135 k135 Tryz.underlying135 c136 b136 k136 Tryz.underlying136 c137 b137 k137 Tryz.underlying137 c138 b138 k138 Tryz.underlying138 c139 b139 k139 z139 zv139 a139 o139 Tryz.underlying139 c140 b140 k140 Tryz.underlying140 c141 b141 k141 Tryz.underlying141 c142 b142 k142 Tryz.underlying142 c143 b143 k143 z143
attribute [go_sem] zv143 a143 o143 Tryz.underlying143 c144 b144 k144 f144_0 f144_1 p144 Tryz.underlying144 c145 b145 k145 f145_0 f145_1 p145 Tryz.underlying145 c146 b146 k146 Tryz.underlying146 c147 b147 k147 Tryz.underlying147 c148 b148 k148 Tryz.underlying148 c149 b149 k149 z149 zv149 a149 p149 Tryz.underlying149 c150 b150
attribute [go_sem] k150 Tryz.underlying150 c151 b151 k151 Tryz.underlying151 c152 b152 k152 Tryz.underlying152 c153 b153 k153 Tryz.underlying153 c154 b154 k154 Tryz.underlying154 c155 b155 k155 Tryz.underlying155 c156 b156 k156 Tryz.underlying156 c157 b157 k157 Tryz.underlying157 c158 b158 k158 Tryz.underlying158 c159 b159 k159 z159 zv159 a159
attribute [go_sem] o159 Tryz.underlying159 c160 b160 k160 Tryz.underlying160 c161 b161 k161 Tryz.underlying161 c162 b162 k162 Tryz.underlying162 c163 b163 k163 Tryz.underlying163 c164 b164 k164 Tryz.underlying164 c165 b165 k165 Tryz.underlying165 c166 b166 k166 Tryz.underlying166 c167 b167 k167 Tryz.underlying167 c168 b168 k168 Tryz.underlying168 c169 b169
attribute [go_sem] k169 Tryz.underlying169 c170 b170 k170 Tryz.underlying170 c171 b171 k171 Tryz.underlying171 c172 b172 k172 Tryz.underlying172 c173 b173 k173 Tryz.underlying173 c174 b174 k174 Tryz.underlying174 c175 b175 k175 Tryz.underlying175 c176 b176 k176 Tryz.underlying176 c177 b177 k177 Tryz.underlying177 c178 b178 k178 Tryz.underlying178 c179 b179
attribute [go_sem] k179 z179 zv179 a179 o179 Tryz.underlying179 c180 b180 k180 Tryz.underlying180 c181 b181 k181 z181 zv181 a181 o181 Tryz.underlying181 c182 b182 k182 Tryz.underlying182 c183 b183 k183 Tryz.underlying183 c184 b184 k184 Tryz.underlying184 c185 b185 k185 Tryz.underlying185 c186 b186 k186 Tryz.underlying186 c187 b187
attribute [go_sem] k187 z187 zv187 a187 o187 Tryz.underlying187 c188 b188 k188 Tryz.underlying188 c189 b189 k189 Tryz.underlying189 c190 b190 k190 z190 zv190 a190 o190 Tryz.underlying190 c191 b191 k191 Tryz.underlying191 c192 b192 k192 Tryz.underlying192 c193 b193 k193 Tryz.underlying193 c194 b194 k194 Tryz.underlying194 c195 b195
attribute [go_sem] k195 Tryz.underlying195 c196 b196 k196 f196_0 f196_1 p196 Tryz.underlying196 c197 b197 k197 f197_0 f197_1 p197 Tryz.underlying197 c198 b198 k198 Tryz.underlying198 c199 b199 k199 Tryz.underlying199 c200 b200 k200 Tryz.underlying200 c201 b201 k201 Tryz.underlying201 c202 b202 k202 Tryz.underlying202 c203 b203 k203 Tryz.underlying203
attribute [go_sem] c204 b204 k204 Tryz.underlying204 c205 b205 k205 Tryz.underlying205 c206 b206 k206 Tryz.underlying206 c207 b207 k207 Tryz.underlying207 c208 b208 k208 Tryz.underlying208 c209 b209 k209 Tryz.underlying209 c210 b210 k210 Tryz.underlying210 c211 b211 k211 z211 zv211 a211 p211 Tryz.underlying211 c212 b212 k212 z212
attribute [go_sem] zv212 a212 p212 Tryz.underlying212 c213 b213 k213 Tryz.underlying213 c214 b214 k214 Tryz.underlying214 c215 b215 k215 Tryz.underlying215 c216 b216 k216 Tryz.underlying216 c217 b217 k217 Tryz.underlying217 c218 b218 k218 Tryz.underlying218 c219 b219 k219 Tryz.underlying219 c220 b220 k220 Tryz.underlying220 c221 b221 k221 Tryz.underlying221
attribute [go_sem] c222 b222 k222 Tryz.underlying222 c223 b223 k223 Tryz.underlying223 c224 b224 k224 Tryz.underlying224 c225 b225 k225 Tryz.underlying225 c226 b226 k226 Tryz.underlying226 c227 b227 k227 Tryz.underlying227 c228 b228 k228 z228 zv228 a228 o228 Tryz.underlying228 c229 b229 k229 Tryz.underlying229 c230 b230 k230 Tryz.underlying230
attribute [go_sem] c231 b231 k231 Tryz.underlying231 c232 b232 k232 Tryz.underlying232 c233 b233 k233 z233 zv233 a233 p233 Tryz.underlying233 c234 b234 k234 Tryz.underlying234 c235 b235 k235 Tryz.underlying235 c236 b236 k236 Tryz.underlying236 c237 b237 k237 Tryz.underlying237 c238 b238 k238 Tryz.underlying238 c239 b239 k239 Tryz.underlying239
attribute [go_sem] c240 b240 k240 Tryz.underlying240 c241 b241 k241 Tryz.underlying241 c242 b242 k242 Tryz.underlying242 c243 b243 k243 Tryz.underlying243 c244 b244 k244 Tryz.underlying244 c245 b245 k245 Tryz.underlying245 c246 b246 k246 Tryz.underlying246 c247 b247 k247 Tryz.underlying247 c248 b248 k248 Tryz.underlying248 c249 b249 k249 Tryz.underlying249
attribute [go_sem] c250 b250 k250 z250 zv250 a250 p250 Tryz.underlying250 c251 b251 k251 z251 zv251 a251 e251 f251_0 f251_1 p251 Tryz.underlying251 c252 b252 k252 z252 zv252 a252 e252 f252_0 f252_1 p252 Tryz.underlying252 c253 b253 k253 z253 zv253 a253 p253 Tryz.underlying253 c254 b254
attribute [go_sem] k254 Tryz.underlying254 c255 b255 k255 Tryz.underlying255 c256 b256 k256 f256_0 f256_1 f256_2 f256_3 p256 Tryz.underlying256 c257 b257 k257 f257_0 f257_1 f257_2 f257_3 p257 Tryz.underlying257 c258 b258 k258 z258 zv258 a258 p258 Tryz.underlying258 c259 b259 k259 z259 zv259 a259 f259_0 p259
attribute [go_sem] Tryz.underlying259 c260 b260 k260 z260 zv260 a260 f260_0 p260 Tryz.underlying260 c261 b261 k261 z261 zv261 a261 o261 Tryz.underlying261 c262 b262 k262 z262 zv262 a262 o262 Tryz.underlying262 c263 b263 k263 Tryz.underlying263 c264 b264 k264 z264 zv264 a264 o264 Tryz.underlying264 c265 b265
attribute [go_sem] k265 z265 zv265 a265 o265 Tryz.underlying265 c266 b266 k266 f266_0 f266_1 f266_2 f266_3 f266_4 f266_5 f266_6 f266_7 f266_8 f266_9 f266_10 p266 Tryz.underlying266 c267 b267 k267 f267_0 f267_1 f267_2 f267_3 f267_4 f267_5 f267_6 f267_7 f267_8 f267_9 f267_10 p267 Tryz.underlying267 c268 b268
attribute [go_sem] k268 Tryz.underlying268
end Go.Avc.F

/- The contracts of Below and of the stream's Next. No condition. -/
set_option linter.unusedVariables false
set_option linter.unusedSimpArgs false
namespace Go.Avc
open Go Go.Proofs

theorem drewN_gr (g : Option Nat) (w : World) (k : Nat) : Gr g w (w.drewN k) := ⟨rfl, rfl, rfl, Nat.le_refl _, fun _ _ _ => rfl⟩
theorem rel_int {cx : Cx} {w0 : World} {ok : Nat → Prop} {ρ : Nat → Value} {w : World} {k : IntKind} {n : Int} {v : Value} (h : rel0 cx w0 ok ρ w (.dv (.d (.int k n))) v) : v = .int k n := by
  have h' : Rd ok w (.int k n) v := h
  cases h'
  rfl

def belowS : Spec where
  pre xs := ∃ x n : Int, xs = [.i x, .i n]
  post xs r := ∃ x n : Int, xs = [.i x, .i n] ∧ r = .i (belowF x n)
  cost _ := 0
  fresh := true
theorem below_ctr (cx : Cx) (hP : cx.P = Tryz.prog) : Ctr cx 48 belowS := by
  refine ⟨by rw [hP]; exact ⟨_, Tryz.func48, by kernel_rfl, by kernel_rfl⟩, fun xs ⟨x, n, e⟩ => ⟨_, x, n, e, rfl⟩, ?_⟩
  rintro F xs vals rfl hF hst hgl hc hlen hargs ⟨x, n, rfl⟩
  match vals, hlen with
  | [u, v], _ =>
    have h0 := rel_int (hargs 0 _ u rfl rfl)
    have h1 := rel_int (hargs 1 _ v rfl rfl)
    subst h0
    subst h1
    rw [hP]
    refine (below_calls x n F.w0).mono ?_
    rintro e w' ⟨rfl, k, rfl⟩
    exact ⟨_, .i (belowF x n), rfl, drewN_gr _ _ _, hst.keep2 (Nat.le_refl _) (fun _ _ _ _ => rfl), ⟨x, n, rfl, rfl⟩, rfl, Rd.int _ _⟩

theorem belowF_range {x m : Int} (hm : m ≤ 9223372036854775807) : (1 ≤ m → 0 ≤ belowF x m ∧ belowF x m < m) ∧ (m < 1 → belowF x m = 0) := by
  unfold belowF
  refine ⟨fun h => ?_, fun h => by rw [if_pos h]⟩
  rw [if_neg (by omega)]
  have h1 : x.tmod m < m := Int.tmod_lt_of_pos x (by omega)
  have h2 : -m < x.tmod m := Int.lt_tmod_of_pos x (by omega)
  split
  · rw [IntWalk.i64_in _ (by omega)]
    omega
  · omega

def nextS : Spec where
  pre xs := ∃ m : Int, xs = [.st, .i m] ∧ m ≤ 9223372036854775807
  post xs r := ∃ m q : Int, xs = [.st, .i m] ∧ (1 ≤ m → 0 ≤ q ∧ q < m) ∧ (m < 1 → q = 0) ∧ r = .i q
  cost _ := 1
  fresh := true
theorem next_ctr (cx : Cx) (hP : cx.P = Tryz.prog) (hS : cx.ST = 25) : Ctr cx 11 nextS := by
  refine ⟨by rw [hP]; exact ⟨_, Tryz.func11, by kernel_rfl, by kernel_rfl⟩, fun xs ⟨m, e, hm⟩ => ⟨.i (belowF 0 m), m, belowF 0 m, e, (belowF_range hm).1, (belowF_range hm).2, rfl⟩, ?_⟩
  rintro F xs vals rfl hF hst hgl hc hlen hargs ⟨m, rfl, hm⟩
  match vals, hlen with
  | [u, v], _ =>
    have h1 := rel_int (hargs 1 _ v rfl rfl)
    subst h1
    obtain ⟨b, hb, hu⟩ := hargs 0 _ u rfl rfl
    subst hu
    obtain ⟨hng, A, c, n, hh, hn0, hnN, hrd⟩ := hst b hb
    have hN := hF.nb
    have hc1 : 1 ≤ F.B := hc
    rw [hP]
    have hsz : b < F.w0.heap.size := (Array.getElem?_eq_some_iff.1 hh).1
    refine (next_calls F.w0 b A F.cx.L.length c n m (by rw [← hS]; exact hh) hn0 (by omega) (fun j hj => ?_)).mono ?_
    · generalize hl : (F.cx.L.map fun x => [D.int .i64 x]) = l at hrd
      have hll : F.cx.L.length = l.length := by rw [← hl, List.length_map]
      rw [hll] at hrd hj
      cases hrd with
      | nil A c => exact absurd hj (by simp)
      | sl l z b' o c u hc' hb' hlt hz hu' hr =>
        have hx : l[j]? = some [D.int .i64 (F.cx.L.getD j 0)] := by
          rw [← hl, List.getElem?_map, List.getD_eq_getElem?_getD, List.getElem?_eq_getElem (by omega)]
          rfl
        have hz1 : z = 1 := (hz j _ hx).symm
        subst hz1
        have h2 := hu' j _ hx 0 _ rfl
        have h3 := hr j _ hx 0 _ rfl
        generalize u j 0 = v at h2 h3
        cases h3
        refine ⟨⟨b', o, none⟩, F.cx.L.getD j 0, rfl, ?_, ?_⟩
        · rw [Addr.add_lit]; show b' ≠ b; omega
        · rw [Addr.add_lit]
          simpa using h2
    · rintro e w' ⟨r, k, rfl, rfl⟩
      have hg : Gr F.cx.g F.w0 ((F.w0.setCell ⟨b, 1, none⟩ (.int .i64 (n + 1))).drewN k) := ⟨rfl, rfl, rfl, by show _ ≤ (F.w0.setCell _ _).heap.size; simp [World.setCell], fun b' hb' hne => heap_setCell_other _ _ _ _ (fun e => hne (by rw [hb, e]))⟩
      refine ⟨_, .i (belowF r m), rfl, hg, ?_, ⟨m, belowF r m, rfl, (belowF_range hm).1, (belowF_range hm).2, rfl⟩, rfl, Rd.int _ _⟩
      intro b' hb'
      rw [hb] at hb'
      cases hb'
      refine ⟨hng, A, c, n + 1, ?_, by omega, by show n + 1 ≤ ((F.N + 1 : Nat) : Int); omega, hrd.mono hg.size (fun _ h _ => h) (fun k' hk' hlt => hg.block k' hlt (fun e => ?_))⟩
      · show (F.w0.setCell ⟨b, 1, none⟩ (.int .i64 (n + 1))).heap[b]? = _
        simp [World.setCell, Array.getElem?_modify, hh]
      · rw [hb] at e
        cases e
        omega
end Go.Avc

/- strings.Builder's WriteByte and WriteString, walked: what they leave. No condition. -/
set_option linter.unusedVariables false
set_option linter.unusedSimpArgs false
namespace Go.Avc
open Go Go.RowKit Go.Proofs

set_option maxHeartbeats 1000000 in
set_option maxRecDepth 100000 in
theorem check_used (b : Nat) (w : World) (h0 : w.cell? ⟨b, 0, none⟩ = some (.pointer (some ⟨b, 0, none⟩))) :
    Calls Tryz.prog 191 #[.pointer (some ⟨b, 0, none⟩)] w fun e w' => e = .returned (.tuple #[]) ∧ w' = w := by
  have hj : ∃ j, Tryz.prog.info? 197 = some j := ⟨Tryz.t197, by kernel_rfl⟩
  obtain ⟨j, hj⟩ := hj
  go_enter Tryz.func191, Tryz.ntmps191
  go_wp2
  rw [Lib.run_neq_ptr_same w _ Tryz.underlying195 hj]
  go_wp2
  go_end0
  exact ⟨rfl, rfl⟩

set_option maxHeartbeats 1000000 in
set_option maxRecDepth 100000 in
theorem check_fresh (b : Nat) (w : World) (h0 : w.cell? ⟨b, 0, none⟩ = some (.pointer none)) (hsh : w.shape? b = some (197, 2)) (hfz : w.frozen? ⟨b, 0, none⟩ = false) :
    Calls Tryz.prog 191 #[.pointer (some ⟨b, 0, none⟩)] w fun e w' => e = .returned (.tuple #[]) ∧ w' = w.setCell ⟨b, 0, none⟩ (.pointer (some ⟨b, 0, none⟩)) := by
  obtain ⟨j, hj, hjs⟩ : ∃ j, Tryz.prog.info? 197 = some j ∧ j.size = 2 := ⟨Tryz.t197, by kernel_rfl, by kernel_rfl⟩
  go_enter Tryz.func191, Tryz.ntmps191
  go_wp2
  rw [Lib.run_to_unsafe w ⟨b, 0, none⟩ Tryz.underlying195 Tryz.underlying242 hj (by rw [hjs]; decide) hsh (Nat.zero_lt_succ 1)]
  simp only [Result.andThen]
  rw [Oper.upon_value]
  go_wp2
  rw [run_callFunc_extern Tryz.func208 (by kernel_rfl) (by kernel_rfl) (by kernel_rfl) (e := Extern.AbiNoEscape.same) (by kernel_rfl)]
  rw [Lib.run_noEscape]
  simp only [Result.andThen]
  rw [Oper.upon_value]
  go_wp2
  rw [Lib.run_from_unsafe w ⟨b, 0, none⟩ Tryz.underlying242 Tryz.underlying195 hj hsh (by kernel_rfl)]
  simp only [Result.andThen]
  rw [Oper.upon_value]
  go_wp2
  go_end0
  exact ⟨rfl, rfl⟩

theorem check_calls (b : Nat) (w : World) (v : Value) (h : Bld w b v) : Calls Tryz.prog 191 #[.pointer (some ⟨b, 0, none⟩)] w fun e w' => e = .returned (.tuple #[]) ∧ w'.heap[b]? = some (.cells #[.pointer (some ⟨b, 0, none⟩), v] 197 (0, 0)) ∧
    w'.os = w.os ∧ w'.tape = w.tape ∧ w'.output = w.output ∧ w'.heap.size = w.heap.size ∧ ∀ k, k ≠ b → w'.heap[k]? = w.heap[k]? := by
  obtain ⟨p, hp, hb⟩ := h
  have hc := Lib.cell_of_heap hb 0
  rcases hp with rfl | rfl
  · refine (check_fresh b w (hc.trans rfl) (by simp [World.shape?, hb]) (Lib.frozen_of_heap hb 0)).mono ?_
    rintro e w' ⟨rfl, rfl⟩
    exact ⟨rfl, by simp [World.setCell, Array.getElem?_modify, hb], rfl, rfl, rfl, by simp [World.setCell], fun k hk => heap_setCell_other _ _ _ _ hk⟩
  · refine (check_used b w (hc.trans rfl)).mono ?_
    rintro e w' ⟨rfl, rfl⟩
    exact ⟨rfl, hb, rfl, rfl, rfl, rfl, fun _ _ => rfl⟩

theorem wpList_app_str {P : Program} {w : World} {ops : Array Oper} {rest : List Oper} {o : Oper} {a : Act} {Q : Exit → Act → World → Prop} (hgd : o.guard = none) (sl x : Operand) (t u : TypeId) (ho : o.op = .call { callee := .builtin .append, args := #[sl, x], argTypes := #[t, u] })
    {base : Nat} {e : TypeId} {i : TypeInfo} (ht : P.underlying t = some (.slice e)) (hu : P.underlying u = some .string) (hi : P.info? e = some i) (hz : i.zero = some (.int .u8 0)) (hsize : i.size = 1) (hby : i.bytes = 1)
    {v : Value} {n : Nat} {xs : List Value} (hs : a.eval sl = v) (hown : w.ownsRow base e 1 v n xs) (s : ByteArray) (hx : a.eval x = .string s) (hb : n + s.size ≤ 140737488355328) (hbase : base ≤ w.heap.size)
    (h : ∀ v' w', w'.ownsRow base e 1 v' (n + s.size) (xs ++ Lib.strCells s) → w.grownBy w' v.ownBlock → (v'.ownBlock = none ∨ v'.ownBlock = v.ownBlock ∨ v'.ownBlock = some w.heap.size) → wpList P ops Q rest (a.put o.dst v') w') : wpList P ops Q (o :: rest) a w := by
  refine wpList_plain hgd fun K hK => ?_
  obtain ⟨v', w', hr, h2, h3, h4⟩ := app_str_run (P := P) (ty := o.type) (w := w) ht hu hi hz hsize hby hown s hb hbase
  unfold Oper.wp execOp
  simp only [ho, resolve, invoke, builtin, Sem.run_bind, Sem.run_pure, Result.andThen_ok, List.map_toArray, List.map_cons, List.map_nil, hs, hx, hr]
  exact hK _ _ (h v' w' h2 h3 h4)

set_option maxHeartbeats 4000000 in
set_option maxRecDepth 100000 in
theorem writeString_calls (B b : Nat) (bs : List Value) (s : ByteArray) (w : World) (v : Value) (h : Bld w b v) (hown : w.ownsRow B bE 1 v bs.length bs) (hlen : bs.length + s.size ≤ 140737488355328) (hBw : B ≤ w.heap.size) :
    Calls Tryz.prog 151 #[.pointer (some ⟨b, 0, none⟩), .string s] w fun e w' => e = .returned (.tuple #[.int .i64 s.size, .nilIface]) ∧ Wrote B b w v (bs ++ Lib.strCells s) w' := by
  have hne : v.ownBlock ≠ some b := by
    obtain ⟨p, _, hb⟩ := h
    exact Lib.ownBlock_ne hown hb (by decide)
  have hlt : b < w.heap.size := by
    obtain ⟨p, _, hb⟩ := h
    exact (Array.getElem?_eq_some_iff.1 hb).1
  go_enter Tryz.func151, Tryz.ntmps151
  go_wp2_with (go_at_call 191; refine (check_calls b _ v h).mono ?_)
  rintro e w1 ⟨rfl, hb1, ho1, ht1, hu1, hs1, hk1⟩
  have hown1 : w1.ownsRow B bE 1 v bs.length bs := hown.kept (row := some b) ⟨ho1, ht1, hu1, by omega, fun k hk hn => hk1 k (fun e => hn (by rw [e]))⟩ (.inr hne)
  have hs2 : w.heap.size ≤ w1.heap.size ∧ w1.heap.size ≤ w.heap.size := by omega
  clear hs1
  have c0 : w1.cell? ⟨b, 0, none⟩ = some (.pointer (some ⟨b, 0, none⟩)) := by rw [Lib.cell_of_heap hb1]; rfl
  have c1 : w1.cell? ⟨b, 1, none⟩ = some v := by rw [Lib.cell_of_heap hb1]; rfl
  have hi : Tryz.prog.info? 5 = some Tryz.t5 := by kernel_rfl
  have hz0 : Tryz.t5.zero = some (.int .u8 0) := by kernel_rfl
  have hz1 : Tryz.t5.size = 1 := by kernel_rfl
  have hz2 : Tryz.t5.bytes = 1 := by kernel_rfl
  go_wp2_with (at_builtin; refine wpList_app_str rfl _ _ 143 9 rfl Tryz.underlying143 Tryz.underlying9 hi hz0 hz1 hz2 rfl hown1 s rfl hlen ?c5 ?_)
  case c5 => omega
  intro v' w2 hown' hgrow hat
  have hb2 : w2.heap[b]? = some (.cells #[.pointer (some ⟨b, 0, none⟩), v] 197 (0, 0)) := by
    rw [hgrow.block b (by omega) (fun e => hne e.symm)]
    exact hb1
  have d0 : w2.cell? ⟨b, 0, none⟩ = some (.pointer (some ⟨b, 0, none⟩)) := by rw [Lib.cell_of_heap hb2]; rfl
  have d1 : w2.cell? ⟨b, 1, none⟩ = some v := by rw [Lib.cell_of_heap hb2]; rfl
  have f1 : w2.frozen? ⟨b, 1, none⟩ = false := Lib.frozen_of_heap hb2 1
  obtain ⟨A', m', c', rfl⟩ : ∃ A m c, v' = .slice A m c := by
    rcases hown'.2 with ⟨rfl, _⟩ | ⟨g, cap, cur, rfl, _⟩
    · exact ⟨_, _, _, rfl⟩
    · exact ⟨_, _, _, rfl⟩
  have hnb : (Value.slice A' m' c').ownBlock ≠ some b := Lib.ownBlock_ne hown' hb2 (by decide)
  go_wp2
  go_ret2
  refine ⟨rfl, .slice A' m' c', ?_, ?_, ?_, ?_⟩
  · simp [World.setCell, Array.getElem?_modify, hb2]
  · rw [List.length_append, Lib.strCells_length]
    exact hown'.kept (row := some b) ⟨rfl, rfl, rfl, by simp [World.setCell], fun k _ hk => heap_setCell_other _ _ _ _ (fun e => hk (by rw [e]))⟩ (.inr hnb)
  · rcases hat with e | e | e
    · exact .inl e
    · exact .inr (.inl e)
    · refine .inr (.inr ⟨w1.heap.size, e, by omega, ?_⟩)
      have := (hown'.lt _ e).2
      simpa [World.setCell] using this
  · refine ⟨hgrow.os.trans ho1, hgrow.tape.trans ht1, hgrow.output.trans hu1, ?_, fun k hk hkb hkv => ?_⟩
    · have := hgrow.size
      simp [World.setCell]
      omega
    · rw [heap_setCell_other _ _ _ _ (by exact hkb), hgrow.block k (by omega) (fun e => hkv e.symm)]
      exact hk1 k hkb

section
variable (B b : Nat) (p v : Value) (l : List UInt8) (w : World)
theorem cells_byte : Tryz.prog.cellsOf 5 = 1 := by kernel_rfl
theorem else_drew : Else w v.ownBlock w.drew := ⟨rfl, rfl, rfl, Nat.le_refl _, fun _ _ _ => rfl⟩
set_option maxHeartbeats 2000000 in
set_option maxRecDepth 100000 in
theorem string_some (h0 : l ≠ []) (hbk : w.heap[b]? = some (.cells #[p, v] bT (0, 0))) (hown : w.ownsRow B bE 1 v l.length (l.map fun x => .int .u8 x.toNat)) :
    Calls Tryz.prog fSt #[.pointer (some ⟨b, 0, none⟩)] w fun e w' => e = .returned (.string ⟨l.toArray⟩) ∧ Else w v.ownBlock w' := by
  have hl0 : l.length ≠ 0 := by simpa using h0
  obtain ⟨g, cap, cur, rfl, hbg, hg, hnc, hcm, hcs, htake⟩ : ∃ g cap cur, v = .slice (some ⟨g, 0, none⟩) l.length cap ∧ B ≤ g ∧ w.heap[g]? = some (.cells cur bE (0, 0)) ∧ l.length ≤ cap ∧ cap ≤ maxLen ∧ cur.size = cap * 1 ∧ cur.toList.take (l.length * 1) = l.map fun x => .int .u8 x.toNat := by
    rcases hown.2 with ⟨_, hz⟩ | ⟨g, cap, cur, hv, r⟩
    · exact absurd hz hl0
    · exact ⟨g, cap, cur, hv, r⟩
  have c1 : w.drew.cell? ⟨b, 1, none⟩ = some (.slice (some ⟨g, 0, none⟩) l.length cap) := by
    have : w.drew.heap[b]? = some (.cells #[p, .slice (some ⟨g, 0, none⟩) l.length cap] bT (0, 0)) := hbk
    rw [Lib.cell_of_heap this]; rfl
  have hSD : (Builtin.unsafeSliceData_ #[143] 231 #[.slice (some ⟨g, 0, none⟩) l.length cap]).run Tryz.prog w.drew = .ok (.pointer (some ⟨g, 0, none⟩)) w.drew :=
    Lib.run_unsafeSliceData_row _ _ _ _ _ _ (by omega)
  have hUS : (Builtin.unsafeString_ #[231, 3] 9 #[.pointer (some ⟨g, 0, none⟩), .int .i64 l.length]).run Tryz.prog w.drew = .ok (.string ⟨l.toArray⟩) (w.drew.freeze ⟨g, 0, none⟩ l.length) := by
    refine Lib.run_unsafeString_row w.drew 231 3 9 5 Tryz.underlying231 cells_byte g cur.size (by have hg' : w.drew.heap[g]? = some (.cells cur bE (0, 0)) := hg; simp [World.shape?, hg']) l h0 (by omega) (by unfold maxLen at hcm; omega) ?_
    intro j x hx
    exact hown.cells (g := g) rfl j (.int .u8 x.toNat) (by simp [hx])
  have hfin : Else w (Value.slice (some ⟨g, 0, none⟩) l.length cap).ownBlock (w.drew.freeze ⟨g, 0, none⟩ l.length) := by
    have hgk : ∀ k, some g ≠ some k → g ≠ k := fun k h e => h (by rw [e])
    unfold World.freeze
    rw [if_neg hl0]
    refine ⟨rfl, rfl, rfl, by simp, fun k hk hne => ?_⟩
    rw [Array.getElem?_modify, if_neg (hgk k hne)]
    rfl
  have mixed : Tryz.prog.follows Departure.mixedOrders = true := by kernel_rfl
  go_enter Tryz.func153, Tryz.ntmps153
  go_wp2
  go_region_o
  all_goals (go_wp2; go_ret; exact ⟨rfl, hfin⟩)
theorem us_none (W : World) (q : Option Addr) : (Builtin.unsafeString_ #[231, 3] 9 #[.pointer q, .int .i64 0]).run Tryz.prog W = .ok (.string .empty) W :=
  Lib.run_unsafeString_none W _ _ _ q
set_option maxHeartbeats 2000000 in
set_option maxRecDepth 100000 in
theorem string_nil (hbk : w.heap[b]? = some (.cells #[p, .slice none 0 0] bT (0, 0))) :
    Calls Tryz.prog fSt #[.pointer (some ⟨b, 0, none⟩)] w fun e w' => e = .returned (.string ⟨#[]⟩) ∧ w' = w.drew := by
  have hUS := us_none
  have c1 : w.drew.cell? ⟨b, 1, none⟩ = some (.slice none 0 0) := by
    have : w.drew.heap[b]? = some (.cells #[p, .slice none 0 0] bT (0, 0)) := hbk
    rw [Lib.cell_of_heap this]; rfl
  have hSD : (Builtin.unsafeSliceData_ #[143] 231 #[.slice none 0 0]).run Tryz.prog w.drew = .ok (.pointer none) w.drew := rfl
  have mixed : Tryz.prog.follows Departure.mixedOrders = true := by kernel_rfl
  go_enter Tryz.func153, Tryz.ntmps153
  go_wp2
  go_region_o
  all_goals (go_wp2; go_ret; exact ⟨rfl, rfl⟩)
set_option maxHeartbeats 2000000 in
set_option maxRecDepth 100000 in
theorem string_noroom (g : Nat) (cur : Array Value) (hbk : w.heap[b]? = some (.cells #[p, .slice (some ⟨g, 0, none⟩) 0 0] bT (0, 0))) (hg : w.heap[g]? = some (.cells cur bE (0, 0))) :
    Calls Tryz.prog fSt #[.pointer (some ⟨b, 0, none⟩)] w fun e w' => e = .returned (.string ⟨#[]⟩) ∧ Else w none w' := by
  have hUS := us_none
  have hlt : b < w.heap.size := (Array.getElem?_eq_some_iff.1 hbk).1
  have c1 : w.drew.cell? ⟨b, 1, none⟩ = some (.slice (some ⟨g, 0, none⟩) 0 0) := by
    have : w.drew.heap[b]? = some (.cells #[p, .slice (some ⟨g, 0, none⟩) 0 0] bT (0, 0)) := hbk
    rw [Lib.cell_of_heap this]; rfl
  have hSD : (Builtin.unsafeSliceData_ #[143] 231 #[.slice (some ⟨g, 0, none⟩) 0 0]).run Tryz.prog w.drew = .ok (.pointer (some ⟨w.drew.heap.size, 0, none⟩)) (w.drew.alloc (.view ⟨g, 0, none⟩ 5)) :=
    Lib.run_unsafeSliceData_zero w.drew _ _ 5 Tryz.underlying231 ⟨g, 0, none⟩ 0 (5, cur.size) (by have hg' : w.drew.heap[g]? = some (.cells cur bE (0, 0)) := hg; simp [World.shape?, hg'])
  have c2 : (w.drew.alloc (.view ⟨g, 0, none⟩ 5)).cell? ⟨b, 1, none⟩ = some (.slice (some ⟨g, 0, none⟩) 0 0) := by
    have : (w.drew.alloc (.view ⟨g, 0, none⟩ 5)).heap[b]? = _ := (Lib.alloc_old w.drew _ b hlt).trans hbk
    rw [Lib.cell_of_heap this]; rfl
  have c3 : (w.alloc (.view ⟨g, 0, none⟩ 5)).drew.cell? ⟨b, 1, none⟩ = some (.slice (some ⟨g, 0, none⟩) 0 0) := c2
  have c0 : w.cell? ⟨b, 1, none⟩ = some (.slice (some ⟨g, 0, none⟩) 0 0) := c1
  have hfin : ∀ o, Else w none (w.drew.alloc o) := fun o => ⟨rfl, rfl, rfl, by simp, fun k hk _ => Lib.alloc_old w.drew _ k hk⟩
  have mixed : Tryz.prog.follows Departure.mixedOrders = true := by kernel_rfl
  go_enter Tryz.func153, Tryz.ntmps153
  go_wp2
  go_region_o
  all_goals (go_wp2; go_ret; exact ⟨rfl, hfin _⟩)
set_option maxHeartbeats 2000000 in
set_option maxRecDepth 100000 in
theorem string_room (g cap : Nat) (hc0 : cap ≠ 0) (hbk : w.heap[b]? = some (.cells #[p, .slice (some ⟨g, 0, none⟩) 0 cap] bT (0, 0))) :
    Calls Tryz.prog fSt #[.pointer (some ⟨b, 0, none⟩)] w fun e w' => e = .returned (.string ⟨#[]⟩) ∧ w' = w.drew := by
  have hUS := us_none
  have c1 : w.drew.cell? ⟨b, 1, none⟩ = some (.slice (some ⟨g, 0, none⟩) 0 cap) := by
    have : w.drew.heap[b]? = some (.cells #[p, .slice (some ⟨g, 0, none⟩) 0 cap] bT (0, 0)) := hbk
    rw [Lib.cell_of_heap this]; rfl
  have hSD : (Builtin.unsafeSliceData_ #[143] 231 #[.slice (some ⟨g, 0, none⟩) 0 cap]).run Tryz.prog w.drew = .ok (.pointer (some ⟨g, 0, none⟩)) w.drew :=
    Lib.run_unsafeSliceData_row _ _ _ _ _ _ hc0
  clear hc0
  have mixed : Tryz.prog.follows Departure.mixedOrders = true := by kernel_rfl
  go_enter Tryz.func153, Tryz.ntmps153
  go_wp2
  go_region_o
  all_goals (go_wp2; go_ret; exact ⟨rfl, rfl⟩)
theorem string_calls (h : Bld w b v) (hown : w.ownsRow B bE 1 v l.length (l.map fun x => .int .u8 x.toNat)) :
    Calls Tryz.prog fSt #[.pointer (some ⟨b, 0, none⟩)] w fun e w' => e = .returned (.string ⟨l.toArray⟩) ∧ Else w v.ownBlock w' := by
  obtain ⟨p, hp, hbk⟩ := h
  cases l with
  | cons x r => exact string_some B b p v (x :: r) w (by simp) hbk hown
  | nil =>
    rcases hown.2 with ⟨rfl, _⟩ | ⟨g, cap, cur, rfl, hbg, hg, _, _, _, _⟩
    · exact (string_nil b p w hbk).mono fun e w' ⟨h1, h2⟩ => ⟨h1, h2 ▸ else_drew _ w⟩
    · by_cases hc0 : cap = 0
      · subst hc0
        exact (string_noroom b p w g cur hbk hg).mono fun e w' ⟨h1, h2⟩ => ⟨h1, h2.1, h2.2.1, h2.2.2.1, h2.2.2.2.1, fun k hk _ => h2.2.2.2.2 k hk (by simp)⟩
      · exact (string_room b p w g cap hc0 hbk).mono fun e w' ⟨h1, h2⟩ => ⟨h1, h2 ▸ else_drew _ w⟩
set_option maxHeartbeats 2000000 in
theorem len_calls (n : Nat) (A : Option Addr) (c : Nat) (hbk : w.heap[b]? = some (.cells #[p, .slice A n c] bT (0, 0))) : Calls Tryz.prog 152 #[.pointer (some ⟨b, 0, none⟩)] w fun e w' => e = .returned (.int .i64 n) ∧ w' = w := by
  have c1 : w.cell? ⟨b, 1, none⟩ = some (.slice A n c) := by rw [Lib.cell_of_heap hbk]; rfl
  go_enter Tryz.func152, Tryz.ntmps152
  go_wp2
  go_ret
  exact ⟨rfl, rfl⟩
end
theorem bldOk : BldOk Tryz.prog where
  mix := by kernel_rfl
  eb := .inl rfl
  es := ⟨_, Tryz.func151, by kernel_rfl, by kernel_rfl⟩
  et := ⟨_, Tryz.func153, by kernel_rfl, by kernel_rfl⟩
  el := .inr ⟨_, Tryz.func152, by kernel_rfl, by kernel_rfl⟩
  al := ⟨Tryz.t197, by kernel_rfl, by kernel_rfl⟩
  wb := .inl rfl
  ws := writeString_calls
  st := fun B b l w v h hown _ => string_calls B b v l w h hown
  ln := .inr fun B b bs w v h hown => by
    obtain ⟨p, _, hbk⟩ := h
    rcases hown.2 with ⟨rfl, h0⟩ | ⟨g, cap, cur, rfl, _⟩
    · rw [h0]; exact len_calls b p w 0 none 0 hbk
    · exact len_calls b p w _ _ _ hbk
theorem env0 {cx : Cx} (hP : cx.P = Tryz.prog) : EnvOk cx (envL []) := envL_nil cx (hP ▸ bldOk)
end Go.Avc

/- The stream's Range, Flip and Pick: their contracts. No condition. -/
set_option linter.unusedVariables false
set_option linter.unusedSimpArgs false
set_option maxRecDepth 100000
namespace Go.Avc
open Go Go.Proofs

def rangeS : Spec where
  pre xs := ∃ lo hi : Int, xs = [.st, .i lo, .i hi] ∧ -1073741824 ≤ lo ∧ lo ≤ 1073741824 ∧ -1073741824 ≤ hi ∧ hi ≤ 1073741824
  post xs r := ∃ lo hi q : Int, xs = [.st, .i lo, .i hi] ∧ lo ≤ q ∧ (lo ≤ hi → q ≤ hi) ∧ (hi < lo → q = lo) ∧ r = .i q
  cost _ := 1
  fresh := true

theorem range_ctr (cx : Cx) (hP : cx.P = Tryz.prog) (hS : cx.ST = 25) : Ctr cx 25 rangeS := by
  refine ctr_of (fn := Tryz.f25) (l := [.tmp 6]) (envL [(11, nextS)]) [0, 1, 2, 6, 9] [] [] (envL_cons (next_ctr cx hP hS) (env0 hP)) ?_ (by rw [hP]; exact Tryz.func25) rfl (by kernel_rfl) rfl ?_ ?_
  · rw [hP]; exact ⟨_, Tryz.func25, by kernel_rfl, by kernel_rfl⟩
  · rintro xs ⟨lo, hi, rfl, h1, h2, h3, h4⟩
    exact ⟨.i lo, lo, hi, lo, rfl, by omega, by omega, by omega, rfl⟩
  · rintro xs ⟨lo, hi, rfl, h1, h2, h3, h4⟩
    refine ⟨by rw [Tryz.ntmps25]; simp, ?_⟩
    simp only [go_sem, hP, Tryz.ntmps25, rangeS, nextS, Nat.reduceEqDiff, reduceCtorEq, Nat.reduceMul, Nat.reduceAdd, Nat.reduceLeDiff, Nat.reduceLT, Nat.reduceBNe, Nat.reduceBEq, reduceIte]
    have w1 : IntKind.i64.wrap (hi - lo) = hi - lo := IntWalk.i64_in _ (by omega)
    have w2 : IntKind.i64.wrap (hi - lo + 1) = hi - lo + 1 := IntWalk.i64_in _ (by omega)
    simp [w1, w2]
    refine ⟨fun c => ⟨lo, hi, ⟨rfl, rfl⟩, lo, by omega⟩, fun c => ⟨by omega, fun a q e h5 h6 => ⟨lo, hi, ⟨rfl, rfl⟩, lo + q, by omega, by omega, by omega, IntWalk.i64_in _ (by omega)⟩⟩⟩

def flipS : Spec where
  pre xs := ∃ m : Int, xs = [.st, .i m] ∧ m ≤ 9223372036854775807
  post xs r := ∃ (m : Int) (b : Bool), xs = [.st, .i m] ∧ r = .b b
  cost _ := 1
  fresh := true

theorem flip_ctr (cx : Cx) (hP : cx.P = Tryz.prog) (hS : cx.ST = 25) : Ctr cx 45 flipS := by
  refine ctr_of (fn := Tryz.f45) (l := [.tmp 4]) (envL [(11, nextS)]) [0, 1, 4] [] [] (envL_cons (next_ctr cx hP hS) (env0 hP)) ?_ (by rw [hP]; exact Tryz.func45) rfl (by kernel_rfl) rfl ?_ ?_
  · rw [hP]; exact ⟨_, Tryz.func45, by kernel_rfl, by kernel_rfl⟩
  · rintro xs ⟨m, rfl, h1⟩
    exact ⟨.b true, m, true, rfl, rfl⟩
  · rintro xs ⟨m, rfl, h1⟩
    refine ⟨by rw [Tryz.ntmps45]; simp, ?_⟩
    simp only [go_sem, hP, Tryz.ntmps45, flipS, nextS, Nat.reduceEqDiff, reduceCtorEq, Nat.reduceMul, Nat.reduceAdd, Nat.reduceLeDiff, Nat.reduceLT, Nat.reduceBNe, Nat.reduceBEq, reduceIte]
    simp [and_assoc, h1]

def intsD (l : List Int) : List (List D) := l.map fun x => [D.int .i64 x]
def isIn (x : Int) (l : List Int) : Prop := x ∈ l
def pickS : Spec where
  pre xs := ∃ l : List Int, xs = [.st, .sl (intsD l)] ∧ l ≠ [] ∧ l.length ≤ 1073741824
  post xs r := ∃ (l : List Int) (x : Int), xs = [.st, .sl (intsD l)] ∧ isIn x l ∧ r = .i x
  cost _ := 1
  fresh := true

theorem pick_ctr (cx : Cx) (hP : cx.P = Tryz.prog) (hS : cx.ST = 25) : Ctr cx 10 pickS := by
  refine ctr_of (fn := Tryz.f10) (l := [.tmp 4]) (envL [(11, nextS)]) [0, 1, 4] [] [] (envL_cons (next_ctr cx hP hS) (env0 hP)) ?_ (by rw [hP]; exact Tryz.func10) rfl (by kernel_rfl) rfl ?_ ?_
  · rw [hP]; exact ⟨_, Tryz.func10, by kernel_rfl, by kernel_rfl⟩
  · rintro xs ⟨l, rfl, h1, h2⟩
    exact (match l, h1 with | x :: t, _ => ⟨.i x, x :: t, x, rfl, List.mem_cons_self, rfl⟩)
  · rintro xs ⟨l, rfl, h1, h2⟩
    refine ⟨by rw [Tryz.ntmps10]; simp, ?_⟩
    simp only [go_sem, hP, Tryz.ntmps10, pickS, nextS, Nat.reduceEqDiff, reduceCtorEq, Nat.reduceMul, Nat.reduceAdd, Nat.reduceLeDiff, Nat.reduceLT, Nat.reduceBNe, Nat.reduceBEq, reduceIte]
    refine ⟨⟨⟨_, rfl, by rw [intsD, List.length_map]; omega⟩, fun h => h.elim⟩, fun a q e h3 h4 => ?_⟩
    have hq : 0 ≤ q ∧ q < (l.length : Int) := by
      simp only [List.cons.injEq, AV.dv.injEq, DV.d.injEq, D.int.injEq, true_and, and_true, intsD, List.length_map] at e
      have := List.length_pos_iff.2 h1
      omega
    have hg : (intsD l).getD q.toNat [D.int .i64 0] = [D.int .i64 (l.getD q.toNat 0)] := by
      rw [List.getD_eq_getElem?_getD, intsD, List.getElem?_map, List.getD_eq_getElem?_getD, List.getElem?_eq_getElem (by omega)]
      rfl
    have hm : l.getD q.toNat 0 ∈ l := by
      rw [List.getD_eq_getElem?_getD, List.getElem?_eq_getElem (by omega)]
      exact List.getElem_mem _
    simp only [hg, go_sem, reduceCtorEq, reduceIte]
    exact ⟨⟨hq.1, by rw [intsD, List.length_map]; exact hq.2⟩, l, _, rfl, hm, rfl⟩
end Go.Avc

/- What a context must be for this seat's contracts. No condition. -/
set_option linter.unusedVariables false
set_option linter.unusedSimpArgs false
namespace Go.Avc
open Go Go.Proofs
structure Seat (cx : Cx) : Prop where
  hP : cx.P = Tryz.prog
  hS : cx.ST = 25
attribute [go_sem] List.cons.injEq AV.dv.injEq DV.d.injEq DV.ag.injEq D.int.injEq D.str.injEq D.bool.injEq D.sl.injEq AV.dp.injEq exists_eq_left' exists_and_left exists_const and_assoc AV.tcons.injEq Int.toNat_natCast Int.toNat_zero implies_true decide_eq_true_eq decide_eq_false_iff_not beq_iff_eq beq_eq_false_iff_ne bne_iff_ne bne_eq_false_iff_eq Bool.and_eq_true Bool.or_eq_true Bool.not_eq_true' Bool.not_eq_false' str_beq false_implies true_implies ge_iff_le gt_iff_lt exists_eq' List.size_toArray exists_eq_right' exists_eq_right
theorem str_beq_nil (s : ByteArray) : (s = ⟨#[]⟩) = (bl s = []) := by rw [← bl_inj]; rfl
theorem str_nil (s : ByteArray) : (s = ⟨#[]⟩) = (s.size = 0) := by
  apply propext
  rw [← bl_inj, ← bl_length, List.length_eq_zero_iff]; rfl
theorem ex_two {p : Prop} : (∃ (_ : Int) (_ : Int), p) ↔ p := ⟨fun ⟨_, _, h⟩ => h, fun h => ⟨0, 0, h⟩⟩
theorem i64w {n : Int} (h1 : -9223372036854775808 ≤ n) (h2 : n ≤ 9223372036854775807) : IntKind.i64.wrap n = n := IntWalk.i64_in _ (by omega)
theorem u8w {n : Int} (h1 : 0 ≤ n) (h2 : n ≤ 255) : IntKind.u8.wrap n = n := by rw [IntKind.wrap_u8]; omega
theorem bt_at {s : ByteArray} {i : Nat} : bt s (i : Int) = (bl s).getD i 0 := bt_bl s i
theorem bt_range (s : ByteArray) (i : Int) : 0 ≤ bt s i ∧ bt s i ≤ 255 := by
  unfold bt
  have := (s.data.toList.getD i.toNat 0).toNat_lt
  omega
theorem bt_tdiv16 (s : ByteArray) (i : Int) : IntKind.u8.wrap ((bt s i).tdiv 16) = bt s i / 16 := by
  have := bt_range s i
  rw [Int.tdiv_eq_ediv_of_nonneg this.1]
  exact u8w (by omega) (by omega)
theorem bt_tmod16 (s : ByteArray) (i : Int) : (bt s i).tmod 16 = bt s i % 16 := Int.tmod_eq_emod_of_nonneg (bt_range s i).1
def rowsB (l : List Int) : List (List D) := l.map fun c => [.int .u8 c]
theorem rowsB_len (l : List Int) : (rowsB l).length = l.length := List.length_map ..
theorem rowsB_app (l m : List Int) : rowsB (l ++ m) = rowsB l ++ rowsB m := List.map_append ..
theorem rowsB_nil : rowsB [] = [] := rfl
theorem rowsB_cons (c : Int) (l : List Int) : rowsB (c :: l) = [.int .u8 c] :: rowsB l := rfl
theorem numsOf_rowsB (l : List Int) : numsOf (rowsB l) = l := by
  unfold numsOf rowsB
  rw [List.map_map]
  induction l with
  | nil => rfl
  | cons x r ih => simp [ih]
theorem strRows_rowsB (b : ByteArray) : strRows b = rowsB (bl b) := by
  unfold strRows rowsB bl
  rw [List.map_map]; rfl
theorem rows1 (c : Int) : [[D.int .u8 c]] = rowsB [c] := rfl
theorem i64s {n : Nat} (h : n < 9223372036854775807) : IntKind.i64.wrap ((n : Int) + 1) = ((n + 1 : Nat) : Int) := by rw [i64w (by omega) (by omega)]; rfl
theorem rowsB_ok {l : List Int} (h : isBs l) : ∀ x ∈ rowsB l, ∃ n : Int, x = [D.int .u8 n] ∧ 0 ≤ n ∧ n ≤ 255 := by
  intro x hx
  obtain ⟨n, hn, rfl⟩ := List.mem_map.1 hx
  exact ⟨n, rfl, h n hn⟩
theorem rowsB_u8 (l : List Int) : ∀ x ∈ rowsB l, ∃ n : Int, x = [D.int .u8 n] := by
  intro x hx
  obtain ⟨n, hn, rfl⟩ := List.mem_map.1 hx
  exact ⟨n, rfl⟩

/-! ### A contract of plain values -/
def flatV1 : AV → Option Value
  | .dv (.d (.int k n)) => some (.int k n)
  | .dv (.d (.bool b)) => some (.bool b)
  | .dv (.d (.str s)) => some (.string s)
  | _ => none
def flatT : AV → Option (List Value)
  | .tnil => some []
  | .tcons a t => match flatV1 a, flatT t with
    | some v, some r => some (v :: r)
    | _, _ => none
  | _ => none
def flatR : AV → Option Value
  | .tcons a t => (flatT (.tcons a t)).map fun l => .tuple l.toArray
  | a => flatV1 a
theorem flatV1_val {cx : Cx} {w0 : World} {ok : Nat → Prop} {ρ : Nat → Value} {w : World} {a : AV} {v u : Value} (h : flatV1 a = some v) (hr : rel0 cx w0 ok ρ w a u) : u = v := by
  unfold flatV1 at h
  split at h
  · cases h; exact Rd.int_inv hr
  · cases h; cases (show Rd _ _ (.bool _) u from hr); rfl
  · cases h; exact Rd.str_inv hr
  · cases h
theorem flatV1_mk {cx : Cx} {w0 : World} {ok : Nat → Prop} {ρ : Nat → Value} {w : World} {a : AV} {v : Value} (h : flatV1 a = some v) : rel0 cx w0 ok ρ w a v ∧ a.plain = true := by
  unfold flatV1 at h
  split at h
  · cases h; exact ⟨Rd.int _ _, rfl⟩
  · cases h; exact ⟨Rd.bool _, rfl⟩
  · cases h; exact ⟨Rd.str _, rfl⟩
  · cases h
theorem flatT_mk {cx : Cx} {w0 : World} {ok : Nat → Prop} {ρ : Nat → Value} {w : World} : ∀ {a : AV} {l : List Value}, flatT a = some l → relT cx w0 ok ρ w a l ∧ a.plain = true
  | .tnil, l, h => by cases h; exact ⟨rfl, rfl⟩
  | .tcons a t, l, h => by
    unfold flatT at h
    split at h
    · rename_i v r h1 h2
      cases h
      have h3 := flatV1_mk (cx := cx) (w0 := w0) (ok := ok) (ρ := ρ) (w := w) h1
      have h4 := flatT_mk (cx := cx) (w0 := w0) (ok := ok) (ρ := ρ) (w := w) h2
      exact ⟨⟨v, r, rfl, h3.1, h4.1⟩, by simp [AV.plain, h3.2, h4.2]⟩
    · cases h
  | .dv _, l, h => by cases h
  | .own _, l, h => by cases h
  | .ptr _ _, l, h => by cases h
  | .eptr _ _ _ _, l, h => by cases h
  | .dp _, l, h => by cases h
  | .st, l, h => by cases h
  | .fn _ _, l, h => by cases h
  | .fv _, l, h => by cases h
  | .nil, l, h => by cases h
  | .lit _ _, l, h => by cases h
  | .sv _ _ _, l, h => by cases h
  | .agz _ _, l, h => by cases h
  | .ago _ _ _, l, h => by cases h
  | .un, l, h => by cases h
theorem flatR_mk {cx : Cx} {w0 : World} {ok : Nat → Prop} {ρ : Nat → Value} {w : World} {a : AV} {v : Value} (h : flatR a = some v) : relA cx w0 ok ρ w a v ∧ a.plain = true := by
  have k : flatV1 a = some v → relA cx w0 ok ρ w a v ∧ a.plain = true := fun h => ⟨relA_of0 (flatV1_mk h).1, (flatV1_mk (cx := cx) (w0 := w0) (ok := ok) (ρ := ρ) (w := w) h).2⟩
  unfold flatR at h
  split at h
  · rename_i a t
    rw [Option.map_eq_some_iff] at h
    obtain ⟨l, hl, rfl⟩ := h
    have := flatT_mk (cx := cx) (w0 := w0) (ok := ok) (ρ := ρ) (w := w) hl
    exact ⟨⟨l, rfl, this.1⟩, this.2⟩
  · exact k h
theorem vals_of {cx : Cx} {w0 : World} {ok : Nat → Prop} {ρ : Nat → Value} {w : World} : ∀ {xs : List AV} {vs us : List Value}, xs.mapM flatV1 = some vs → xs.length = us.length → (∀ (i : Nat) (a : AV) (u : Value), xs[i]? = some a → us[i]? = some u → rel0 cx w0 ok ρ w a u) → us = vs
  | [], vs, us, h, hl, _ => by
    simp only [List.mapM_nil, Option.pure_def, Option.some.injEq] at h
    subst h
    cases us with
    | nil => rfl
    | cons x r => cases hl
  | a :: xs, vs, us, h, hl, hr => by
    simp only [List.mapM_cons, Option.bind_eq_bind, Option.bind_eq_some_iff, Option.pure_def, Option.some.injEq] at h
    obtain ⟨v, h1, r, h2, rfl⟩ := h
    cases us with
    | nil => cases hl
    | cons u us =>
      rw [flatV1_val h1 (hr 0 a u rfl rfl), vals_of h2 (by simpa using hl) fun i b x hb hx => hr (i + 1) b x hb hx]
/-- A contract of a function of plain values that leaves all memory as it was. -/
theorem ctr_flat {cx : Cx} {f : FuncId} {sp : Spec} (hen : Enters cx.P f) (hc : ∀ xs, sp.cost xs = 0)
    (h : ∀ xs, sp.pre xs → ∃ vals r v, xs.mapM flatV1 = some vals ∧ sp.post xs r ∧ flatR r = some v ∧ ∀ w, GlAt cx w → Calls cx.P f vals.toArray w fun e w' => e = .returned v ∧ Go.RowKit.Below w.heap.size w w') : Ctr cx f sp := by
  refine ⟨hen, fun xs hp => ?_, ?_⟩
  · obtain ⟨vals, r, v, _, h2, _⟩ := h xs hp
    exact ⟨r, h2⟩
  · intro F xs us hcx hF hst hgl hco hlen hargs hp
    obtain ⟨vals, r, v, h1, h2, h3, h4⟩ := h xs hp
    obtain rfl := vals_of h1 hlen hargs
    refine (h4 F.w0 hgl).mono ?_
    rintro e w' ⟨rfl, hb⟩
    have hm := flatR_mk (cx := cx) (w0 := F.w0) (ok := resOk F sp.fresh) (ρ := fun _ => undef) (w := w') h3
    exact ⟨v, r, rfl, ⟨hb.os, hb.tape, hb.output, hb.size, fun b hlt _ => hb.block b hlt⟩, by rw [hc]; exact hst.keep hb.size (fun b hlt => hb.block b hlt), h2, hm.2, hm.1⟩
end Go.Avc

/- The program's structs as Lean structures, and how they lie in rows of cells. No condition. -/
set_option linter.unusedVariables false
set_option linter.unusedSimpArgs false
set_option maxRecDepth 100000
namespace Go.Avc
open Go Go.Proofs

def rowsK (k : IntKind) (l : List Int) : List (List D) := l.map fun c => [.int k c]
theorem rowsK_len (k : IntKind) (l : List Int) : (rowsK k l).length = l.length := List.length_map ..
theorem rowsK_app (k : IntKind) (l m : List Int) : rowsK k (l ++ m) = rowsK k l ++ rowsK k m := List.map_append ..
theorem rowsK_one (k : IntKind) (c : Int) : [[D.int k c]] = rowsK k [c] := rfl
theorem rowsK_get (k : IntKind) (l : List Int) (i : Nat) : (rowsK k l).getD i [.int k 0] = [.int k (l.getD i 0)] := by
  unfold rowsK
  rw [List.getD_eq_getElem?_getD, List.getElem?_map, List.getD_eq_getElem?_getD]
  cases l[i]? <;> rfl
theorem rowsK_set (k : IntKind) (l : List Int) (i : Nat) (c : Int) : (rowsK k l).set i [.int k c] = rowsK k (l.set i c) := by
  unfold rowsK
  rw [List.map_set]
theorem rowsK_z (k : IntKind) (l : List Int) : ∀ x ∈ rowsK k l, x.length = 1 := by
  intro x hx
  obtain ⟨c, _, rfl⟩ := List.mem_map.1 hx
  rfl
theorem rowsK_flat (k : IntKind) (l : List Int) : ((rowsK k l).all fun x => x.all D.flat) = true := by
  rw [List.all_eq_true]
  intro x hx
  obtain ⟨c, _, rfl⟩ := List.mem_map.1 hx
  rfl
/-- strings as a slice -/
def rowsT (l : List ByteArray) : List (List D) := l.map fun s => [.str s]
theorem rowsT_len (l : List ByteArray) : (rowsT l).length = l.length := List.length_map ..
theorem rowsT_get (l : List ByteArray) (i : Nat) : (rowsT l).getD i [.str ⟨#[]⟩] = [.str (l.getD i ⟨#[]⟩)] := by
  unfold rowsT
  rw [List.getD_eq_getElem?_getD, List.getElem?_map, List.getD_eq_getElem?_getD]
  cases l[i]? <;> rfl
theorem map_inj_of {α β : Type} {f : α → β} (h : ∀ a b, f a = f b → a = b) : ∀ {l m : List α}, (l.map f = m.map f) = (l = m)
  | [], [] => by simp
  | [], b :: m => by simp
  | a :: l, [] => by simp
  | a :: l, b :: m => by
    rw [List.map_cons, List.map_cons, List.cons.injEq, List.cons.injEq, map_inj_of h]
    exact propext ⟨fun ⟨x, y⟩ => ⟨h _ _ x, y⟩, fun ⟨x, y⟩ => ⟨x ▸ rfl, y⟩⟩
theorem rowsT_inj {l m : List ByteArray} : (rowsT l = rowsT m) = (l = m) := map_inj_of fun a b h => by
  simp only [List.cons.injEq, D.str.injEq, and_true] at h; exact h
theorem rowsKi_inj {k : IntKind} {l m : List Int} : (rowsK k l = rowsK k m) = (l = m) := map_inj_of fun a b h => by
  simp only [List.cons.injEq, D.int.injEq, and_true, true_and] at h; exact h
theorem intsDi_inj {l m : List Int} : (intsD l = intsD m) = (l = m) := rowsKi_inj (k := .i64)
theorem intsD_K (l : List Int) : intsD l = rowsK .i64 l := rfl
theorem intsD_app (l m : List Int) : intsD (l ++ m) = intsD l ++ intsD m := List.map_append ..
theorem intsD_nil : intsD [] = [] := rfl
theorem intsD_cons (c : Int) (l : List Int) : intsD (c :: l) = [.int .i64 c] :: intsD l := rfl
theorem rowsT_nil : rowsT [] = [] := rfl
theorem rowsT_cons (c : ByteArray) (l : List ByteArray) : rowsT (c :: l) = [.str c] :: rowsT l := rfl
theorem rowsT_app (l m : List ByteArray) : rowsT (l ++ m) = rowsT l ++ rowsT m := List.map_append ..
theorem rowsT_take (l : List ByteArray) (n : Nat) : (rowsT l).take n = rowsT (l.take n) := List.map_take.symm
theorem rowsT_drop (l : List ByteArray) (n : Nat) : (rowsT l).drop n = rowsT (l.drop n) := List.map_drop.symm
theorem intsD_take (l : List Int) (n : Nat) : (intsD l).take n = intsD (l.take n) := List.map_take.symm
theorem intsD_drop (l : List Int) (n : Nat) : (intsD l).drop n = intsD (l.drop n) := List.map_drop.symm
/-- Bounds of what is drawn. -/
def okI (n : Int) : Prop := -1125899906842624 ≤ n ∧ n ≤ 1125899906842624
def okS (s : ByteArray) : Prop := s.size ≤ 1073741824
def okL {α : Type} (p : α → Prop) (l : List α) : Prop := l.length ≤ 1048576 ∧ ∀ x ∈ l, p x
theorem okI_z : okI 0 := ⟨by decide, by decide⟩
theorem okS_z : okS ⟨#[]⟩ := by unfold okS; decide
theorem okL_z {α : Type} (p : α → Prop) : okL p [] := ⟨Nat.zero_le _, fun _ h => by cases h⟩
theorem map_get {α : Type} (f : α → List D) (l : List α) (i : Nat) (z : α) : (l.map f).getD i (f z) = f (l.getD i z) := by
  rw [List.getD_eq_getElem?_getD, List.getElem?_map, List.getD_eq_getElem?_getD]
  cases l[i]? <;> rfl
theorem ints1 (a : Int) : [[D.int .i64 a]] = intsD [a] := rfl
theorem intsc (a : Int) (l : List Int) : [D.int .i64 a] :: intsD l = intsD (a :: l) := rfl
theorem intsD_app' (l m : List Int) : intsD l ++ intsD m = intsD (l ++ m) := (List.map_append ..).symm
theorem ints_nil1 (l : List Int) : (intsD l = []) = (l = []) := propext List.map_eq_nil_iff
theorem ints_nil2 (l : List Int) : ([] = intsD l) = (l = []) := propext ⟨fun h => List.map_eq_nil_iff.1 h.symm, fun h => h ▸ rfl⟩
theorem intsD_len (l : List Int) : (intsD l).length = l.length := List.length_map ..
theorem intsD_get (l : List Int) (i : Nat) : (intsD l).getD i [.int .i64 0] = [.int .i64 (l.getD i 0)] := rowsK_get .i64 l i
theorem intsD_any (l : List Int) (p : List D → Bool) : (intsD l).any p = l.any fun a => p [.int .i64 a] := List.any_map
theorem rowsT_any (l : List ByteArray) (p : List D → Bool) : (rowsT l).any p = l.any fun a => p [.str a] := List.any_map
theorem intsD_zlT (l : List Int) : (∀ y ∈ intsD l, y.length = 1) = True := eq_true (rowsK_z .i64 l)
theorem rowsT_zlT (l : List ByteArray) : (∀ y ∈ rowsT l, y.length = 1) = True := eq_true fun y hy => by obtain ⟨x, _, rfl⟩ := List.mem_map.1 hy; rfl
theorem strs1 (a : ByteArray) : [[D.str a]] = rowsT [a] := rfl
theorem strsc (a : ByteArray) (l : List ByteArray) : [D.str a] :: rowsT l = rowsT (a :: l) := rfl
theorem rowsT_app' (l m : List ByteArray) : rowsT l ++ rowsT m = rowsT (l ++ m) := (List.map_append ..).symm
theorem strs_nil1 (l : List ByteArray) : (rowsT l = []) = (l = []) := propext List.map_eq_nil_iff
theorem strs_nil2 (l : List ByteArray) : ([] = rowsT l) = (l = []) := propext ⟨fun h => List.map_eq_nil_iff.1 h.symm, fun h => h ▸ rfl⟩
/-- slices of slices of numbers, of strings -/
def rowsLI (l : List (List Int)) : List (List D) := l.map fun q => [.sl (intsD q)]
theorem rowsLI_len (l : List (List Int)) : (rowsLI l).length = l.length := List.length_map ..
theorem rowsLI_get (l : List (List Int)) (i : Nat) : (rowsLI l).getD i [.sl []] = [.sl (intsD (l.getD i []))] := map_get (fun q : List Int => [.sl (intsD q)]) l i []
theorem LI_1 (q : List Int) : [[D.sl (intsD q)]] = rowsLI [q] := rfl
theorem LI_c (q : List Int) (l : List (List Int)) : [D.sl (intsD q)] :: rowsLI l = rowsLI (q :: l) := rfl
theorem LI_n (l : List (List Int)) : [D.sl []] :: rowsLI l = rowsLI ([] :: l) := rfl
def rowsLT (l : List (List ByteArray)) : List (List D) := l.map fun q => [.sl (rowsT q)]
theorem LT_1 (q : List ByteArray) : [[D.sl (rowsT q)]] = rowsLT [q] := rfl
theorem LT_c (q : List ByteArray) (l : List (List ByteArray)) : [D.sl (rowsT q)] :: rowsLT l = rowsLT (q :: l) := rfl
theorem LT_n (l : List (List ByteArray)) : [D.sl []] :: rowsLT l = rowsLT ([] :: l) := rfl
theorem rowsLT_len (l : List (List ByteArray)) : (rowsLT l).length = l.length := List.length_map ..
theorem rowsLT_get (l : List (List ByteArray)) (i : Nat) : (rowsLT l).getD i [.sl []] = [.sl (rowsT (l.getD i []))] := map_get (fun q : List ByteArray => [.sl (rowsT q)]) l i []

structure TId where
  kind : Int
  text : ByteArray
def TId.z : TId := ⟨0, ⟨#[]⟩⟩
instance : Inhabited TId := ⟨TId.z⟩
def TId.row (x : TId) : List D := [.int .i64 x.kind, .str x.text]
def TId.rows (l : List TId) : List (List D) := l.map TId.row
theorem TId.inj {x y : TId} (h : x.row = y.row) : x = y := by
  obtain ⟨_, _⟩ := x; obtain ⟨_, _⟩ := y
  simp only [TId.row, List.cons.injEq, D.int.injEq, D.str.injEq, D.bool.injEq, D.sl.injEq, true_and, and_true] at h
  obtain ⟨rfl, rfl⟩ := h; rfl
theorem TId.row_inj {x y : TId} : (x.row = y.row) = (x = y) := propext ⟨TId.inj, fun h => h ▸ rfl⟩
theorem TId.rows_inj {l m : List TId} : (TId.rows l = TId.rows m) = (l = m) := map_inj_of fun _ _ => TId.inj
theorem TId.len (l : List TId) : (TId.rows l).length = l.length := List.length_map ..
theorem TId.app (l m : List TId) : TId.rows (l ++ m) = TId.rows l ++ TId.rows m := List.map_append ..
theorem TId.nil : TId.rows [] = [] := rfl
theorem TId.cons (x : TId) (l : List TId) : TId.rows (x :: l) = x.row :: TId.rows l := rfl
theorem TId.rtake (l : List TId) (n : Nat) : (TId.rows l).take n = TId.rows (l.take n) := List.map_take.symm
theorem TId.rdrop (l : List TId) (n : Nat) : (TId.rows l).drop n = TId.rows (l.drop n) := List.map_drop.symm
theorem TId.rset (l : List TId) (n : Nat) (x : TId) : (TId.rows l).set n x.row = TId.rows (l.set n x) := by simp only [TId.rows, List.map_set]
theorem TId.get (l : List TId) (i : Nat) : (TId.rows l).getD i [.int .i64 0, .str ⟨#[]⟩] = [.int .i64 (l.getD i TId.z).kind, .str (l.getD i TId.z).text] := map_get TId.row l i TId.z
theorem TId.z_len (l : List TId) : ∀ y ∈ TId.rows l, y.length = 2 := fun y hy => by obtain ⟨x, _, rfl⟩ := List.mem_map.1 hy; rfl
theorem TId.zlT (l : List TId) : (∀ y ∈ TId.rows l, y.length = 2) = True := eq_true (TId.z_len l)
theorem TId.any (l : List TId) (p : List D → Bool) : (TId.rows l).any p = l.any fun a => p a.row := List.any_map
theorem TId.ex {p : TId → Prop} : (∃ x, p x) = ∃ a0 a1, p ⟨a0, a1⟩ := propext ⟨fun ⟨⟨a0, a1⟩, h⟩ => ⟨a0, a1, h⟩, fun ⟨a0, a1, h⟩ => ⟨⟨a0, a1⟩, h⟩⟩
theorem TId.nil1 (l : List TId) : (TId.rows l = []) = (l = []) := propext List.map_eq_nil_iff
theorem TId.nil2 (l : List TId) : ([] = TId.rows l) = (l = []) := propext ⟨fun h => List.map_eq_nil_iff.1 h.symm, fun h => h ▸ rfl⟩
theorem TId.fold1 (b1 : Int) (b2 : ByteArray) : [[D.int .i64 b1, D.str b2]] = TId.rows [⟨b1, b2⟩] := rfl
theorem TId.foldc (b1 : Int) (b2 : ByteArray) (l : List TId) : [D.int .i64 b1, D.str b2] :: TId.rows l = TId.rows (⟨b1, b2⟩ :: l) := rfl
theorem TId.foldr (b1 : Int) (b2 : ByteArray) (x : TId) : ([D.int .i64 b1, D.str b2] = x.row) = (x = ⟨b1, b2⟩) := propext ⟨fun h => TId.inj (x := x) (y := ⟨b1, b2⟩) h.symm, fun h => h ▸ rfl⟩
theorem TId.app' (l m : List TId) : TId.rows l ++ TId.rows m = TId.rows (l ++ m) := (List.map_append ..).symm
def TId.ok (x : TId) : Prop := okI x.kind ∧ okS x.text
theorem TId.z_ok : TId.z.ok := ⟨okI_z, okS_z⟩
theorem TId.flat (l : List TId) : ((TId.rows l).all fun x => x.all D.flat) = true := by
  rw [List.all_eq_true]; intro y hy; obtain ⟨x, _, rfl⟩ := List.mem_map.1 hy; rfl
structure TValue where
  kind : Int
  text : ByteArray
  number : Int
def TValue.z : TValue := ⟨0, ⟨#[]⟩, 0⟩
instance : Inhabited TValue := ⟨TValue.z⟩
def TValue.row (x : TValue) : List D := [.int .i64 x.kind, .str x.text, .int .i64 x.number]
def TValue.rows (l : List TValue) : List (List D) := l.map TValue.row
theorem TValue.inj {x y : TValue} (h : x.row = y.row) : x = y := by
  obtain ⟨_, _, _⟩ := x; obtain ⟨_, _, _⟩ := y
  simp only [TValue.row, List.cons.injEq, D.int.injEq, D.str.injEq, D.bool.injEq, D.sl.injEq, true_and, and_true] at h
  obtain ⟨rfl, rfl, rfl⟩ := h; rfl
theorem TValue.row_inj {x y : TValue} : (x.row = y.row) = (x = y) := propext ⟨TValue.inj, fun h => h ▸ rfl⟩
theorem TValue.rows_inj {l m : List TValue} : (TValue.rows l = TValue.rows m) = (l = m) := map_inj_of fun _ _ => TValue.inj
theorem TValue.len (l : List TValue) : (TValue.rows l).length = l.length := List.length_map ..
theorem TValue.app (l m : List TValue) : TValue.rows (l ++ m) = TValue.rows l ++ TValue.rows m := List.map_append ..
theorem TValue.nil : TValue.rows [] = [] := rfl
theorem TValue.cons (x : TValue) (l : List TValue) : TValue.rows (x :: l) = x.row :: TValue.rows l := rfl
theorem TValue.rtake (l : List TValue) (n : Nat) : (TValue.rows l).take n = TValue.rows (l.take n) := List.map_take.symm
theorem TValue.rdrop (l : List TValue) (n : Nat) : (TValue.rows l).drop n = TValue.rows (l.drop n) := List.map_drop.symm
theorem TValue.rset (l : List TValue) (n : Nat) (x : TValue) : (TValue.rows l).set n x.row = TValue.rows (l.set n x) := by simp only [TValue.rows, List.map_set]
theorem TValue.get (l : List TValue) (i : Nat) : (TValue.rows l).getD i [.int .i64 0, .str ⟨#[]⟩, .int .i64 0] = [.int .i64 (l.getD i TValue.z).kind, .str (l.getD i TValue.z).text, .int .i64 (l.getD i TValue.z).number] := map_get TValue.row l i TValue.z
theorem TValue.z_len (l : List TValue) : ∀ y ∈ TValue.rows l, y.length = 3 := fun y hy => by obtain ⟨x, _, rfl⟩ := List.mem_map.1 hy; rfl
theorem TValue.zlT (l : List TValue) : (∀ y ∈ TValue.rows l, y.length = 3) = True := eq_true (TValue.z_len l)
theorem TValue.any (l : List TValue) (p : List D → Bool) : (TValue.rows l).any p = l.any fun a => p a.row := List.any_map
theorem TValue.ex {p : TValue → Prop} : (∃ x, p x) = ∃ a0 a1 a2, p ⟨a0, a1, a2⟩ := propext ⟨fun ⟨⟨a0, a1, a2⟩, h⟩ => ⟨a0, a1, a2, h⟩, fun ⟨a0, a1, a2, h⟩ => ⟨⟨a0, a1, a2⟩, h⟩⟩
theorem TValue.nil1 (l : List TValue) : (TValue.rows l = []) = (l = []) := propext List.map_eq_nil_iff
theorem TValue.nil2 (l : List TValue) : ([] = TValue.rows l) = (l = []) := propext ⟨fun h => List.map_eq_nil_iff.1 h.symm, fun h => h ▸ rfl⟩
theorem TValue.fold1 (b1 : Int) (b2 : ByteArray) (b3 : Int) : [[D.int .i64 b1, D.str b2, D.int .i64 b3]] = TValue.rows [⟨b1, b2, b3⟩] := rfl
theorem TValue.foldc (b1 : Int) (b2 : ByteArray) (b3 : Int) (l : List TValue) : [D.int .i64 b1, D.str b2, D.int .i64 b3] :: TValue.rows l = TValue.rows (⟨b1, b2, b3⟩ :: l) := rfl
theorem TValue.foldr (b1 : Int) (b2 : ByteArray) (b3 : Int) (x : TValue) : ([D.int .i64 b1, D.str b2, D.int .i64 b3] = x.row) = (x = ⟨b1, b2, b3⟩) := propext ⟨fun h => TValue.inj (x := x) (y := ⟨b1, b2, b3⟩) h.symm, fun h => h ▸ rfl⟩
theorem TValue.app' (l m : List TValue) : TValue.rows l ++ TValue.rows m = TValue.rows (l ++ m) := (List.map_append ..).symm
def TValue.ok (x : TValue) : Prop := okI x.kind ∧ okS x.text ∧ okI x.number
theorem TValue.z_ok : TValue.z.ok := ⟨okI_z, okS_z, okI_z⟩
theorem TValue.flat (l : List TValue) : ((TValue.rows l).all fun x => x.all D.flat) = true := by
  rw [List.all_eq_true]; intro y hy; obtain ⟨x, _, rfl⟩ := List.mem_map.1 hy; rfl
structure TField where
  name : ByteArray
  value : TValue
def TField.z : TField := ⟨⟨#[]⟩, ⟨0, ⟨#[]⟩, 0⟩⟩
instance : Inhabited TField := ⟨TField.z⟩
def TField.row (x : TField) : List D := [.str x.name, .int .i64 x.value.kind, .str x.value.text, .int .i64 x.value.number]
def TField.rows (l : List TField) : List (List D) := l.map TField.row
theorem TField.inj {x y : TField} (h : x.row = y.row) : x = y := by
  obtain ⟨_, ⟨_, _, _⟩⟩ := x; obtain ⟨_, ⟨_, _, _⟩⟩ := y
  simp only [TField.row, List.cons.injEq, D.int.injEq, D.str.injEq, D.bool.injEq, D.sl.injEq, true_and, and_true] at h
  obtain ⟨rfl, rfl, rfl, rfl⟩ := h; rfl
theorem TField.row_inj {x y : TField} : (x.row = y.row) = (x = y) := propext ⟨TField.inj, fun h => h ▸ rfl⟩
theorem TField.rows_inj {l m : List TField} : (TField.rows l = TField.rows m) = (l = m) := map_inj_of fun _ _ => TField.inj
theorem TField.len (l : List TField) : (TField.rows l).length = l.length := List.length_map ..
theorem TField.app (l m : List TField) : TField.rows (l ++ m) = TField.rows l ++ TField.rows m := List.map_append ..
theorem TField.nil : TField.rows [] = [] := rfl
theorem TField.cons (x : TField) (l : List TField) : TField.rows (x :: l) = x.row :: TField.rows l := rfl
theorem TField.rtake (l : List TField) (n : Nat) : (TField.rows l).take n = TField.rows (l.take n) := List.map_take.symm
theorem TField.rdrop (l : List TField) (n : Nat) : (TField.rows l).drop n = TField.rows (l.drop n) := List.map_drop.symm
theorem TField.rset (l : List TField) (n : Nat) (x : TField) : (TField.rows l).set n x.row = TField.rows (l.set n x) := by simp only [TField.rows, List.map_set]
theorem TField.get (l : List TField) (i : Nat) : (TField.rows l).getD i [.str ⟨#[]⟩, .int .i64 0, .str ⟨#[]⟩, .int .i64 0] = [.str (l.getD i TField.z).name, .int .i64 (l.getD i TField.z).value.kind, .str (l.getD i TField.z).value.text, .int .i64 (l.getD i TField.z).value.number] := map_get TField.row l i TField.z
theorem TField.z_len (l : List TField) : ∀ y ∈ TField.rows l, y.length = 4 := fun y hy => by obtain ⟨x, _, rfl⟩ := List.mem_map.1 hy; rfl
theorem TField.zlT (l : List TField) : (∀ y ∈ TField.rows l, y.length = 4) = True := eq_true (TField.z_len l)
theorem TField.any (l : List TField) (p : List D → Bool) : (TField.rows l).any p = l.any fun a => p a.row := List.any_map
theorem TField.ex {p : TField → Prop} : (∃ x, p x) = ∃ a0 a1, p ⟨a0, a1⟩ := propext ⟨fun ⟨⟨a0, a1⟩, h⟩ => ⟨a0, a1, h⟩, fun ⟨a0, a1, h⟩ => ⟨⟨a0, a1⟩, h⟩⟩
theorem TField.nil1 (l : List TField) : (TField.rows l = []) = (l = []) := propext List.map_eq_nil_iff
theorem TField.nil2 (l : List TField) : ([] = TField.rows l) = (l = []) := propext ⟨fun h => List.map_eq_nil_iff.1 h.symm, fun h => h ▸ rfl⟩
theorem TField.fold1 (b1 : ByteArray) (b2 : Int) (b3 : ByteArray) (b4 : Int) : [[D.str b1, D.int .i64 b2, D.str b3, D.int .i64 b4]] = TField.rows [⟨b1, ⟨b2, b3, b4⟩⟩] := rfl
theorem TField.foldc (b1 : ByteArray) (b2 : Int) (b3 : ByteArray) (b4 : Int) (l : List TField) : [D.str b1, D.int .i64 b2, D.str b3, D.int .i64 b4] :: TField.rows l = TField.rows (⟨b1, ⟨b2, b3, b4⟩⟩ :: l) := rfl
theorem TField.foldr (b1 : ByteArray) (b2 : Int) (b3 : ByteArray) (b4 : Int) (x : TField) : ([D.str b1, D.int .i64 b2, D.str b3, D.int .i64 b4] = x.row) = (x = ⟨b1, ⟨b2, b3, b4⟩⟩) := propext ⟨fun h => TField.inj (x := x) (y := ⟨b1, ⟨b2, b3, b4⟩⟩) h.symm, fun h => h ▸ rfl⟩
theorem TField.app' (l m : List TField) : TField.rows l ++ TField.rows m = TField.rows (l ++ m) := (List.map_append ..).symm
def TField.ok (x : TField) : Prop := okS x.name ∧ TValue.ok x.value
theorem TField.z_ok : TField.z.ok := ⟨okS_z, TValue.z_ok⟩
theorem TField.flat (l : List TField) : ((TField.rows l).all fun x => x.all D.flat) = true := by
  rw [List.all_eq_true]; intro y hy; obtain ⟨x, _, rfl⟩ := List.mem_map.1 hy; rfl
structure TShift where
  at_ : Int
  offset : Int
def TShift.z : TShift := ⟨0, 0⟩
instance : Inhabited TShift := ⟨TShift.z⟩
def TShift.row (x : TShift) : List D := [.int .i64 x.at_, .int .i64 x.offset]
def TShift.rows (l : List TShift) : List (List D) := l.map TShift.row
theorem TShift.inj {x y : TShift} (h : x.row = y.row) : x = y := by
  obtain ⟨_, _⟩ := x; obtain ⟨_, _⟩ := y
  simp only [TShift.row, List.cons.injEq, D.int.injEq, D.str.injEq, D.bool.injEq, D.sl.injEq, true_and, and_true] at h
  obtain ⟨rfl, rfl⟩ := h; rfl
theorem TShift.row_inj {x y : TShift} : (x.row = y.row) = (x = y) := propext ⟨TShift.inj, fun h => h ▸ rfl⟩
theorem TShift.rows_inj {l m : List TShift} : (TShift.rows l = TShift.rows m) = (l = m) := map_inj_of fun _ _ => TShift.inj
theorem TShift.len (l : List TShift) : (TShift.rows l).length = l.length := List.length_map ..
theorem TShift.app (l m : List TShift) : TShift.rows (l ++ m) = TShift.rows l ++ TShift.rows m := List.map_append ..
theorem TShift.nil : TShift.rows [] = [] := rfl
theorem TShift.cons (x : TShift) (l : List TShift) : TShift.rows (x :: l) = x.row :: TShift.rows l := rfl
theorem TShift.rtake (l : List TShift) (n : Nat) : (TShift.rows l).take n = TShift.rows (l.take n) := List.map_take.symm
theorem TShift.rdrop (l : List TShift) (n : Nat) : (TShift.rows l).drop n = TShift.rows (l.drop n) := List.map_drop.symm
theorem TShift.rset (l : List TShift) (n : Nat) (x : TShift) : (TShift.rows l).set n x.row = TShift.rows (l.set n x) := by simp only [TShift.rows, List.map_set]
theorem TShift.get (l : List TShift) (i : Nat) : (TShift.rows l).getD i [.int .i64 0, .int .i64 0] = [.int .i64 (l.getD i TShift.z).at_, .int .i64 (l.getD i TShift.z).offset] := map_get TShift.row l i TShift.z
theorem TShift.z_len (l : List TShift) : ∀ y ∈ TShift.rows l, y.length = 2 := fun y hy => by obtain ⟨x, _, rfl⟩ := List.mem_map.1 hy; rfl
theorem TShift.zlT (l : List TShift) : (∀ y ∈ TShift.rows l, y.length = 2) = True := eq_true (TShift.z_len l)
theorem TShift.any (l : List TShift) (p : List D → Bool) : (TShift.rows l).any p = l.any fun a => p a.row := List.any_map
theorem TShift.ex {p : TShift → Prop} : (∃ x, p x) = ∃ a0 a1, p ⟨a0, a1⟩ := propext ⟨fun ⟨⟨a0, a1⟩, h⟩ => ⟨a0, a1, h⟩, fun ⟨a0, a1, h⟩ => ⟨⟨a0, a1⟩, h⟩⟩
theorem TShift.nil1 (l : List TShift) : (TShift.rows l = []) = (l = []) := propext List.map_eq_nil_iff
theorem TShift.nil2 (l : List TShift) : ([] = TShift.rows l) = (l = []) := propext ⟨fun h => List.map_eq_nil_iff.1 h.symm, fun h => h ▸ rfl⟩
theorem TShift.fold1 (b1 : Int) (b2 : Int) : [[D.int .i64 b1, D.int .i64 b2]] = TShift.rows [⟨b1, b2⟩] := rfl
theorem TShift.foldc (b1 : Int) (b2 : Int) (l : List TShift) : [D.int .i64 b1, D.int .i64 b2] :: TShift.rows l = TShift.rows (⟨b1, b2⟩ :: l) := rfl
theorem TShift.foldr (b1 : Int) (b2 : Int) (x : TShift) : ([D.int .i64 b1, D.int .i64 b2] = x.row) = (x = ⟨b1, b2⟩) := propext ⟨fun h => TShift.inj (x := x) (y := ⟨b1, b2⟩) h.symm, fun h => h ▸ rfl⟩
theorem TShift.app' (l m : List TShift) : TShift.rows l ++ TShift.rows m = TShift.rows (l ++ m) := (List.map_append ..).symm
def TShift.ok (x : TShift) : Prop := okI x.at_ ∧ okI x.offset
theorem TShift.z_ok : TShift.z.ok := ⟨okI_z, okI_z⟩
theorem TShift.flat (l : List TShift) : ((TShift.rows l).all fun x => x.all D.flat) = true := by
  rw [List.all_eq_true]; intro y hy; obtain ⟨x, _, rfl⟩ := List.mem_map.1 hy; rfl
structure TZone where
  name : ByteArray
  shifts : List TShift
def TZone.z : TZone := ⟨⟨#[]⟩, []⟩
instance : Inhabited TZone := ⟨TZone.z⟩
def TZone.row (x : TZone) : List D := [.str x.name, .sl (TShift.rows x.shifts)]
def TZone.rows (l : List TZone) : List (List D) := l.map TZone.row
theorem TZone.inj {x y : TZone} (h : x.row = y.row) : x = y := by
  obtain ⟨_, _⟩ := x; obtain ⟨_, _⟩ := y
  simp only [TZone.row, List.cons.injEq, D.int.injEq, D.str.injEq, D.bool.injEq, D.sl.injEq, true_and, and_true, TShift.rows_inj] at h
  obtain ⟨rfl, rfl⟩ := h; rfl
theorem TZone.row_inj {x y : TZone} : (x.row = y.row) = (x = y) := propext ⟨TZone.inj, fun h => h ▸ rfl⟩
theorem TZone.rows_inj {l m : List TZone} : (TZone.rows l = TZone.rows m) = (l = m) := map_inj_of fun _ _ => TZone.inj
theorem TZone.len (l : List TZone) : (TZone.rows l).length = l.length := List.length_map ..
theorem TZone.app (l m : List TZone) : TZone.rows (l ++ m) = TZone.rows l ++ TZone.rows m := List.map_append ..
theorem TZone.nil : TZone.rows [] = [] := rfl
theorem TZone.cons (x : TZone) (l : List TZone) : TZone.rows (x :: l) = x.row :: TZone.rows l := rfl
theorem TZone.rtake (l : List TZone) (n : Nat) : (TZone.rows l).take n = TZone.rows (l.take n) := List.map_take.symm
theorem TZone.rdrop (l : List TZone) (n : Nat) : (TZone.rows l).drop n = TZone.rows (l.drop n) := List.map_drop.symm
theorem TZone.rset (l : List TZone) (n : Nat) (x : TZone) : (TZone.rows l).set n x.row = TZone.rows (l.set n x) := by simp only [TZone.rows, List.map_set]
theorem TZone.get (l : List TZone) (i : Nat) : (TZone.rows l).getD i [.str ⟨#[]⟩, .sl []] = [.str (l.getD i TZone.z).name, .sl (TShift.rows (l.getD i TZone.z).shifts)] := map_get TZone.row l i TZone.z
theorem TZone.z_len (l : List TZone) : ∀ y ∈ TZone.rows l, y.length = 2 := fun y hy => by obtain ⟨x, _, rfl⟩ := List.mem_map.1 hy; rfl
theorem TZone.zlT (l : List TZone) : (∀ y ∈ TZone.rows l, y.length = 2) = True := eq_true (TZone.z_len l)
theorem TZone.any (l : List TZone) (p : List D → Bool) : (TZone.rows l).any p = l.any fun a => p a.row := List.any_map
theorem TZone.ex {p : TZone → Prop} : (∃ x, p x) = ∃ a0 a1, p ⟨a0, a1⟩ := propext ⟨fun ⟨⟨a0, a1⟩, h⟩ => ⟨a0, a1, h⟩, fun ⟨a0, a1, h⟩ => ⟨⟨a0, a1⟩, h⟩⟩
theorem TZone.nil1 (l : List TZone) : (TZone.rows l = []) = (l = []) := propext List.map_eq_nil_iff
theorem TZone.nil2 (l : List TZone) : ([] = TZone.rows l) = (l = []) := propext ⟨fun h => List.map_eq_nil_iff.1 h.symm, fun h => h ▸ rfl⟩
theorem TZone.fold1 (b1 : ByteArray) (b2 : List TShift) : [[D.str b1, D.sl (TShift.rows b2)]] = TZone.rows [⟨b1, b2⟩] := rfl
theorem TZone.foldc (b1 : ByteArray) (b2 : List TShift) (l : List TZone) : [D.str b1, D.sl (TShift.rows b2)] :: TZone.rows l = TZone.rows (⟨b1, b2⟩ :: l) := rfl
theorem TZone.foldr (b1 : ByteArray) (b2 : List TShift) (x : TZone) : ([D.str b1, D.sl (TShift.rows b2)] = x.row) = (x = ⟨b1, b2⟩) := propext ⟨fun h => TZone.inj (x := x) (y := ⟨b1, b2⟩) h.symm, fun h => h ▸ rfl⟩
theorem TZone.app' (l m : List TZone) : TZone.rows l ++ TZone.rows m = TZone.rows (l ++ m) := (List.map_append ..).symm
def TZone.ok (x : TZone) : Prop := okS x.name ∧ okL TShift.ok x.shifts
theorem TZone.z_ok : TZone.z.ok := ⟨okS_z, okL_z _⟩
structure TWindow where
  from_ : Int
  to_ : Int
def TWindow.z : TWindow := ⟨0, 0⟩
instance : Inhabited TWindow := ⟨TWindow.z⟩
def TWindow.row (x : TWindow) : List D := [.int .i64 x.from_, .int .i64 x.to_]
def TWindow.rows (l : List TWindow) : List (List D) := l.map TWindow.row
theorem TWindow.inj {x y : TWindow} (h : x.row = y.row) : x = y := by
  obtain ⟨_, _⟩ := x; obtain ⟨_, _⟩ := y
  simp only [TWindow.row, List.cons.injEq, D.int.injEq, D.str.injEq, D.bool.injEq, D.sl.injEq, true_and, and_true] at h
  obtain ⟨rfl, rfl⟩ := h; rfl
theorem TWindow.row_inj {x y : TWindow} : (x.row = y.row) = (x = y) := propext ⟨TWindow.inj, fun h => h ▸ rfl⟩
theorem TWindow.rows_inj {l m : List TWindow} : (TWindow.rows l = TWindow.rows m) = (l = m) := map_inj_of fun _ _ => TWindow.inj
theorem TWindow.len (l : List TWindow) : (TWindow.rows l).length = l.length := List.length_map ..
theorem TWindow.app (l m : List TWindow) : TWindow.rows (l ++ m) = TWindow.rows l ++ TWindow.rows m := List.map_append ..
theorem TWindow.nil : TWindow.rows [] = [] := rfl
theorem TWindow.cons (x : TWindow) (l : List TWindow) : TWindow.rows (x :: l) = x.row :: TWindow.rows l := rfl
theorem TWindow.rtake (l : List TWindow) (n : Nat) : (TWindow.rows l).take n = TWindow.rows (l.take n) := List.map_take.symm
theorem TWindow.rdrop (l : List TWindow) (n : Nat) : (TWindow.rows l).drop n = TWindow.rows (l.drop n) := List.map_drop.symm
theorem TWindow.rset (l : List TWindow) (n : Nat) (x : TWindow) : (TWindow.rows l).set n x.row = TWindow.rows (l.set n x) := by simp only [TWindow.rows, List.map_set]
theorem TWindow.get (l : List TWindow) (i : Nat) : (TWindow.rows l).getD i [.int .i64 0, .int .i64 0] = [.int .i64 (l.getD i TWindow.z).from_, .int .i64 (l.getD i TWindow.z).to_] := map_get TWindow.row l i TWindow.z
theorem TWindow.z_len (l : List TWindow) : ∀ y ∈ TWindow.rows l, y.length = 2 := fun y hy => by obtain ⟨x, _, rfl⟩ := List.mem_map.1 hy; rfl
theorem TWindow.zlT (l : List TWindow) : (∀ y ∈ TWindow.rows l, y.length = 2) = True := eq_true (TWindow.z_len l)
theorem TWindow.any (l : List TWindow) (p : List D → Bool) : (TWindow.rows l).any p = l.any fun a => p a.row := List.any_map
theorem TWindow.ex {p : TWindow → Prop} : (∃ x, p x) = ∃ a0 a1, p ⟨a0, a1⟩ := propext ⟨fun ⟨⟨a0, a1⟩, h⟩ => ⟨a0, a1, h⟩, fun ⟨a0, a1, h⟩ => ⟨⟨a0, a1⟩, h⟩⟩
theorem TWindow.nil1 (l : List TWindow) : (TWindow.rows l = []) = (l = []) := propext List.map_eq_nil_iff
theorem TWindow.nil2 (l : List TWindow) : ([] = TWindow.rows l) = (l = []) := propext ⟨fun h => List.map_eq_nil_iff.1 h.symm, fun h => h ▸ rfl⟩
theorem TWindow.fold1 (b1 : Int) (b2 : Int) : [[D.int .i64 b1, D.int .i64 b2]] = TWindow.rows [⟨b1, b2⟩] := rfl
theorem TWindow.foldc (b1 : Int) (b2 : Int) (l : List TWindow) : [D.int .i64 b1, D.int .i64 b2] :: TWindow.rows l = TWindow.rows (⟨b1, b2⟩ :: l) := rfl
theorem TWindow.foldr (b1 : Int) (b2 : Int) (x : TWindow) : ([D.int .i64 b1, D.int .i64 b2] = x.row) = (x = ⟨b1, b2⟩) := propext ⟨fun h => TWindow.inj (x := x) (y := ⟨b1, b2⟩) h.symm, fun h => h ▸ rfl⟩
theorem TWindow.app' (l m : List TWindow) : TWindow.rows l ++ TWindow.rows m = TWindow.rows (l ++ m) := (List.map_append ..).symm
def TWindow.ok (x : TWindow) : Prop := okI x.from_ ∧ okI x.to_
theorem TWindow.z_ok : TWindow.z.ok := ⟨okI_z, okI_z⟩
theorem TWindow.flat (l : List TWindow) : ((TWindow.rows l).all fun x => x.all D.flat) = true := by
  rw [List.all_eq_true]; intro y hy; obtain ⟨x, _, rfl⟩ := List.mem_map.1 hy; rfl
structure TCap where
  channel : Int
  purpose : ByteArray
  many : Int
  within : Int
def TCap.z : TCap := ⟨0, ⟨#[]⟩, 0, 0⟩
instance : Inhabited TCap := ⟨TCap.z⟩
def TCap.row (x : TCap) : List D := [.int .i64 x.channel, .str x.purpose, .int .i64 x.many, .int .i64 x.within]
def TCap.rows (l : List TCap) : List (List D) := l.map TCap.row
theorem TCap.inj {x y : TCap} (h : x.row = y.row) : x = y := by
  obtain ⟨_, _, _, _⟩ := x; obtain ⟨_, _, _, _⟩ := y
  simp only [TCap.row, List.cons.injEq, D.int.injEq, D.str.injEq, D.bool.injEq, D.sl.injEq, true_and, and_true] at h
  obtain ⟨rfl, rfl, rfl, rfl⟩ := h; rfl
theorem TCap.row_inj {x y : TCap} : (x.row = y.row) = (x = y) := propext ⟨TCap.inj, fun h => h ▸ rfl⟩
theorem TCap.rows_inj {l m : List TCap} : (TCap.rows l = TCap.rows m) = (l = m) := map_inj_of fun _ _ => TCap.inj
theorem TCap.len (l : List TCap) : (TCap.rows l).length = l.length := List.length_map ..
theorem TCap.app (l m : List TCap) : TCap.rows (l ++ m) = TCap.rows l ++ TCap.rows m := List.map_append ..
theorem TCap.nil : TCap.rows [] = [] := rfl
theorem TCap.cons (x : TCap) (l : List TCap) : TCap.rows (x :: l) = x.row :: TCap.rows l := rfl
theorem TCap.rtake (l : List TCap) (n : Nat) : (TCap.rows l).take n = TCap.rows (l.take n) := List.map_take.symm
theorem TCap.rdrop (l : List TCap) (n : Nat) : (TCap.rows l).drop n = TCap.rows (l.drop n) := List.map_drop.symm
theorem TCap.rset (l : List TCap) (n : Nat) (x : TCap) : (TCap.rows l).set n x.row = TCap.rows (l.set n x) := by simp only [TCap.rows, List.map_set]
theorem TCap.get (l : List TCap) (i : Nat) : (TCap.rows l).getD i [.int .i64 0, .str ⟨#[]⟩, .int .i64 0, .int .i64 0] = [.int .i64 (l.getD i TCap.z).channel, .str (l.getD i TCap.z).purpose, .int .i64 (l.getD i TCap.z).many, .int .i64 (l.getD i TCap.z).within] := map_get TCap.row l i TCap.z
theorem TCap.z_len (l : List TCap) : ∀ y ∈ TCap.rows l, y.length = 4 := fun y hy => by obtain ⟨x, _, rfl⟩ := List.mem_map.1 hy; rfl
theorem TCap.zlT (l : List TCap) : (∀ y ∈ TCap.rows l, y.length = 4) = True := eq_true (TCap.z_len l)
theorem TCap.any (l : List TCap) (p : List D → Bool) : (TCap.rows l).any p = l.any fun a => p a.row := List.any_map
theorem TCap.ex {p : TCap → Prop} : (∃ x, p x) = ∃ a0 a1 a2 a3, p ⟨a0, a1, a2, a3⟩ := propext ⟨fun ⟨⟨a0, a1, a2, a3⟩, h⟩ => ⟨a0, a1, a2, a3, h⟩, fun ⟨a0, a1, a2, a3, h⟩ => ⟨⟨a0, a1, a2, a3⟩, h⟩⟩
theorem TCap.nil1 (l : List TCap) : (TCap.rows l = []) = (l = []) := propext List.map_eq_nil_iff
theorem TCap.nil2 (l : List TCap) : ([] = TCap.rows l) = (l = []) := propext ⟨fun h => List.map_eq_nil_iff.1 h.symm, fun h => h ▸ rfl⟩
theorem TCap.fold1 (b1 : Int) (b2 : ByteArray) (b3 : Int) (b4 : Int) : [[D.int .i64 b1, D.str b2, D.int .i64 b3, D.int .i64 b4]] = TCap.rows [⟨b1, b2, b3, b4⟩] := rfl
theorem TCap.foldc (b1 : Int) (b2 : ByteArray) (b3 : Int) (b4 : Int) (l : List TCap) : [D.int .i64 b1, D.str b2, D.int .i64 b3, D.int .i64 b4] :: TCap.rows l = TCap.rows (⟨b1, b2, b3, b4⟩ :: l) := rfl
theorem TCap.foldr (b1 : Int) (b2 : ByteArray) (b3 : Int) (b4 : Int) (x : TCap) : ([D.int .i64 b1, D.str b2, D.int .i64 b3, D.int .i64 b4] = x.row) = (x = ⟨b1, b2, b3, b4⟩) := propext ⟨fun h => TCap.inj (x := x) (y := ⟨b1, b2, b3, b4⟩) h.symm, fun h => h ▸ rfl⟩
theorem TCap.app' (l m : List TCap) : TCap.rows l ++ TCap.rows m = TCap.rows (l ++ m) := (List.map_append ..).symm
def TCap.ok (x : TCap) : Prop := okI x.channel ∧ okS x.purpose ∧ okI x.many ∧ okI x.within
theorem TCap.z_ok : TCap.z.ok := ⟨okI_z, okS_z, okI_z, okI_z⟩
theorem TCap.flat (l : List TCap) : ((TCap.rows l).all fun x => x.all D.flat) = true := by
  rw [List.all_eq_true]; intro y hy; obtain ⟨x, _, rfl⟩ := List.mem_map.1 hy; rfl
structure TPool where
  name : ByteArray
  channel : Int
  perMinute : Int
  first : Int
  warm : List Int
def TPool.z : TPool := ⟨⟨#[]⟩, 0, 0, 0, []⟩
instance : Inhabited TPool := ⟨TPool.z⟩
def TPool.row (x : TPool) : List D := [.str x.name, .int .i64 x.channel, .int .i64 x.perMinute, .int .i64 x.first, .sl (intsD x.warm)]
def TPool.rows (l : List TPool) : List (List D) := l.map TPool.row
theorem TPool.inj {x y : TPool} (h : x.row = y.row) : x = y := by
  obtain ⟨_, _, _, _, _⟩ := x; obtain ⟨_, _, _, _, _⟩ := y
  simp only [TPool.row, List.cons.injEq, D.int.injEq, D.str.injEq, D.bool.injEq, D.sl.injEq, true_and, and_true, intsDi_inj] at h
  obtain ⟨rfl, rfl, rfl, rfl, rfl⟩ := h; rfl
theorem TPool.row_inj {x y : TPool} : (x.row = y.row) = (x = y) := propext ⟨TPool.inj, fun h => h ▸ rfl⟩
theorem TPool.rows_inj {l m : List TPool} : (TPool.rows l = TPool.rows m) = (l = m) := map_inj_of fun _ _ => TPool.inj
theorem TPool.len (l : List TPool) : (TPool.rows l).length = l.length := List.length_map ..
theorem TPool.app (l m : List TPool) : TPool.rows (l ++ m) = TPool.rows l ++ TPool.rows m := List.map_append ..
theorem TPool.nil : TPool.rows [] = [] := rfl
theorem TPool.cons (x : TPool) (l : List TPool) : TPool.rows (x :: l) = x.row :: TPool.rows l := rfl
theorem TPool.rtake (l : List TPool) (n : Nat) : (TPool.rows l).take n = TPool.rows (l.take n) := List.map_take.symm
theorem TPool.rdrop (l : List TPool) (n : Nat) : (TPool.rows l).drop n = TPool.rows (l.drop n) := List.map_drop.symm
theorem TPool.rset (l : List TPool) (n : Nat) (x : TPool) : (TPool.rows l).set n x.row = TPool.rows (l.set n x) := by simp only [TPool.rows, List.map_set]
theorem TPool.get (l : List TPool) (i : Nat) : (TPool.rows l).getD i [.str ⟨#[]⟩, .int .i64 0, .int .i64 0, .int .i64 0, .sl []] = [.str (l.getD i TPool.z).name, .int .i64 (l.getD i TPool.z).channel, .int .i64 (l.getD i TPool.z).perMinute, .int .i64 (l.getD i TPool.z).first, .sl (intsD (l.getD i TPool.z).warm)] := map_get TPool.row l i TPool.z
theorem TPool.z_len (l : List TPool) : ∀ y ∈ TPool.rows l, y.length = 5 := fun y hy => by obtain ⟨x, _, rfl⟩ := List.mem_map.1 hy; rfl
theorem TPool.zlT (l : List TPool) : (∀ y ∈ TPool.rows l, y.length = 5) = True := eq_true (TPool.z_len l)
theorem TPool.any (l : List TPool) (p : List D → Bool) : (TPool.rows l).any p = l.any fun a => p a.row := List.any_map
theorem TPool.ex {p : TPool → Prop} : (∃ x, p x) = ∃ a0 a1 a2 a3 a4, p ⟨a0, a1, a2, a3, a4⟩ := propext ⟨fun ⟨⟨a0, a1, a2, a3, a4⟩, h⟩ => ⟨a0, a1, a2, a3, a4, h⟩, fun ⟨a0, a1, a2, a3, a4, h⟩ => ⟨⟨a0, a1, a2, a3, a4⟩, h⟩⟩
theorem TPool.nil1 (l : List TPool) : (TPool.rows l = []) = (l = []) := propext List.map_eq_nil_iff
theorem TPool.nil2 (l : List TPool) : ([] = TPool.rows l) = (l = []) := propext ⟨fun h => List.map_eq_nil_iff.1 h.symm, fun h => h ▸ rfl⟩
theorem TPool.fold1 (b1 : ByteArray) (b2 : Int) (b3 : Int) (b4 : Int) (b5 : List Int) : [[D.str b1, D.int .i64 b2, D.int .i64 b3, D.int .i64 b4, D.sl (intsD b5)]] = TPool.rows [⟨b1, b2, b3, b4, b5⟩] := rfl
theorem TPool.foldc (b1 : ByteArray) (b2 : Int) (b3 : Int) (b4 : Int) (b5 : List Int) (l : List TPool) : [D.str b1, D.int .i64 b2, D.int .i64 b3, D.int .i64 b4, D.sl (intsD b5)] :: TPool.rows l = TPool.rows (⟨b1, b2, b3, b4, b5⟩ :: l) := rfl
theorem TPool.foldr (b1 : ByteArray) (b2 : Int) (b3 : Int) (b4 : Int) (b5 : List Int) (x : TPool) : ([D.str b1, D.int .i64 b2, D.int .i64 b3, D.int .i64 b4, D.sl (intsD b5)] = x.row) = (x = ⟨b1, b2, b3, b4, b5⟩) := propext ⟨fun h => TPool.inj (x := x) (y := ⟨b1, b2, b3, b4, b5⟩) h.symm, fun h => h ▸ rfl⟩
theorem TPool.app' (l m : List TPool) : TPool.rows l ++ TPool.rows m = TPool.rows (l ++ m) := (List.map_append ..).symm
def TPool.ok (x : TPool) : Prop := okS x.name ∧ okI x.channel ∧ okI x.perMinute ∧ okI x.first ∧ okL okI x.warm
theorem TPool.z_ok : TPool.z.ok := ⟨okS_z, okI_z, okI_z, okI_z, okL_z _⟩
structure TSendRules where
  quiet : List Int
  quietFrom : Int
  quietTo : Int
  ranks : List ByteArray
  caps : List TCap
  pools : List TPool
  delays : List Int
def TSendRules.z : TSendRules := ⟨[], 0, 0, [], [], [], []⟩
instance : Inhabited TSendRules := ⟨TSendRules.z⟩
def TSendRules.row (x : TSendRules) : List D := [.sl (intsD x.quiet), .int .i64 x.quietFrom, .int .i64 x.quietTo, .sl (rowsT x.ranks), .sl (TCap.rows x.caps), .sl (TPool.rows x.pools), .sl (intsD x.delays)]
def TSendRules.rows (l : List TSendRules) : List (List D) := l.map TSendRules.row
theorem TSendRules.inj {x y : TSendRules} (h : x.row = y.row) : x = y := by
  obtain ⟨_, _, _, _, _, _, _⟩ := x; obtain ⟨_, _, _, _, _, _, _⟩ := y
  simp only [TSendRules.row, List.cons.injEq, D.int.injEq, D.str.injEq, D.bool.injEq, D.sl.injEq, true_and, and_true, TCap.rows_inj, TPool.rows_inj, intsDi_inj, rowsT_inj] at h
  obtain ⟨rfl, rfl, rfl, rfl, rfl, rfl, rfl⟩ := h; rfl
theorem TSendRules.row_inj {x y : TSendRules} : (x.row = y.row) = (x = y) := propext ⟨TSendRules.inj, fun h => h ▸ rfl⟩
theorem TSendRules.rows_inj {l m : List TSendRules} : (TSendRules.rows l = TSendRules.rows m) = (l = m) := map_inj_of fun _ _ => TSendRules.inj
theorem TSendRules.len (l : List TSendRules) : (TSendRules.rows l).length = l.length := List.length_map ..
theorem TSendRules.app (l m : List TSendRules) : TSendRules.rows (l ++ m) = TSendRules.rows l ++ TSendRules.rows m := List.map_append ..
theorem TSendRules.nil : TSendRules.rows [] = [] := rfl
theorem TSendRules.cons (x : TSendRules) (l : List TSendRules) : TSendRules.rows (x :: l) = x.row :: TSendRules.rows l := rfl
theorem TSendRules.rtake (l : List TSendRules) (n : Nat) : (TSendRules.rows l).take n = TSendRules.rows (l.take n) := List.map_take.symm
theorem TSendRules.rdrop (l : List TSendRules) (n : Nat) : (TSendRules.rows l).drop n = TSendRules.rows (l.drop n) := List.map_drop.symm
theorem TSendRules.rset (l : List TSendRules) (n : Nat) (x : TSendRules) : (TSendRules.rows l).set n x.row = TSendRules.rows (l.set n x) := by simp only [TSendRules.rows, List.map_set]
theorem TSendRules.get (l : List TSendRules) (i : Nat) : (TSendRules.rows l).getD i [.sl [], .int .i64 0, .int .i64 0, .sl [], .sl [], .sl [], .sl []] = [.sl (intsD (l.getD i TSendRules.z).quiet), .int .i64 (l.getD i TSendRules.z).quietFrom, .int .i64 (l.getD i TSendRules.z).quietTo, .sl (rowsT (l.getD i TSendRules.z).ranks), .sl (TCap.rows (l.getD i TSendRules.z).caps), .sl (TPool.rows (l.getD i TSendRules.z).pools), .sl (intsD (l.getD i TSendRules.z).delays)] := map_get TSendRules.row l i TSendRules.z
theorem TSendRules.z_len (l : List TSendRules) : ∀ y ∈ TSendRules.rows l, y.length = 7 := fun y hy => by obtain ⟨x, _, rfl⟩ := List.mem_map.1 hy; rfl
theorem TSendRules.zlT (l : List TSendRules) : (∀ y ∈ TSendRules.rows l, y.length = 7) = True := eq_true (TSendRules.z_len l)
theorem TSendRules.any (l : List TSendRules) (p : List D → Bool) : (TSendRules.rows l).any p = l.any fun a => p a.row := List.any_map
theorem TSendRules.ex {p : TSendRules → Prop} : (∃ x, p x) = ∃ a0 a1 a2 a3 a4 a5 a6, p ⟨a0, a1, a2, a3, a4, a5, a6⟩ := propext ⟨fun ⟨⟨a0, a1, a2, a3, a4, a5, a6⟩, h⟩ => ⟨a0, a1, a2, a3, a4, a5, a6, h⟩, fun ⟨a0, a1, a2, a3, a4, a5, a6, h⟩ => ⟨⟨a0, a1, a2, a3, a4, a5, a6⟩, h⟩⟩
theorem TSendRules.nil1 (l : List TSendRules) : (TSendRules.rows l = []) = (l = []) := propext List.map_eq_nil_iff
theorem TSendRules.nil2 (l : List TSendRules) : ([] = TSendRules.rows l) = (l = []) := propext ⟨fun h => List.map_eq_nil_iff.1 h.symm, fun h => h ▸ rfl⟩
theorem TSendRules.fold1 (b1 : List Int) (b2 : Int) (b3 : Int) (b4 : List ByteArray) (b5 : List TCap) (b6 : List TPool) (b7 : List Int) : [[D.sl (intsD b1), D.int .i64 b2, D.int .i64 b3, D.sl (rowsT b4), D.sl (TCap.rows b5), D.sl (TPool.rows b6), D.sl (intsD b7)]] = TSendRules.rows [⟨b1, b2, b3, b4, b5, b6, b7⟩] := rfl
theorem TSendRules.foldc (b1 : List Int) (b2 : Int) (b3 : Int) (b4 : List ByteArray) (b5 : List TCap) (b6 : List TPool) (b7 : List Int) (l : List TSendRules) : [D.sl (intsD b1), D.int .i64 b2, D.int .i64 b3, D.sl (rowsT b4), D.sl (TCap.rows b5), D.sl (TPool.rows b6), D.sl (intsD b7)] :: TSendRules.rows l = TSendRules.rows (⟨b1, b2, b3, b4, b5, b6, b7⟩ :: l) := rfl
theorem TSendRules.foldr (b1 : List Int) (b2 : Int) (b3 : Int) (b4 : List ByteArray) (b5 : List TCap) (b6 : List TPool) (b7 : List Int) (x : TSendRules) : ([D.sl (intsD b1), D.int .i64 b2, D.int .i64 b3, D.sl (rowsT b4), D.sl (TCap.rows b5), D.sl (TPool.rows b6), D.sl (intsD b7)] = x.row) = (x = ⟨b1, b2, b3, b4, b5, b6, b7⟩) := propext ⟨fun h => TSendRules.inj (x := x) (y := ⟨b1, b2, b3, b4, b5, b6, b7⟩) h.symm, fun h => h ▸ rfl⟩
theorem TSendRules.app' (l m : List TSendRules) : TSendRules.rows l ++ TSendRules.rows m = TSendRules.rows (l ++ m) := (List.map_append ..).symm
def TSendRules.ok (x : TSendRules) : Prop := okL okI x.quiet ∧ okI x.quietFrom ∧ okI x.quietTo ∧ okL okS x.ranks ∧ okL TCap.ok x.caps ∧ okL TPool.ok x.pools ∧ okL okI x.delays
theorem TSendRules.z_ok : TSendRules.z.ok := ⟨okL_z _, okI_z, okI_z, okL_z _, okL_z _, okL_z _, okL_z _⟩
structure TMeasure where
  name : ByteArray
  how : Int
  far : Int
  points : Int
def TMeasure.z : TMeasure := ⟨⟨#[]⟩, 0, 0, 0⟩
instance : Inhabited TMeasure := ⟨TMeasure.z⟩
def TMeasure.row (x : TMeasure) : List D := [.str x.name, .int .i64 x.how, .int .i64 x.far, .int .i64 x.points]
def TMeasure.rows (l : List TMeasure) : List (List D) := l.map TMeasure.row
theorem TMeasure.inj {x y : TMeasure} (h : x.row = y.row) : x = y := by
  obtain ⟨_, _, _, _⟩ := x; obtain ⟨_, _, _, _⟩ := y
  simp only [TMeasure.row, List.cons.injEq, D.int.injEq, D.str.injEq, D.bool.injEq, D.sl.injEq, true_and, and_true] at h
  obtain ⟨rfl, rfl, rfl, rfl⟩ := h; rfl
theorem TMeasure.row_inj {x y : TMeasure} : (x.row = y.row) = (x = y) := propext ⟨TMeasure.inj, fun h => h ▸ rfl⟩
theorem TMeasure.rows_inj {l m : List TMeasure} : (TMeasure.rows l = TMeasure.rows m) = (l = m) := map_inj_of fun _ _ => TMeasure.inj
theorem TMeasure.len (l : List TMeasure) : (TMeasure.rows l).length = l.length := List.length_map ..
theorem TMeasure.app (l m : List TMeasure) : TMeasure.rows (l ++ m) = TMeasure.rows l ++ TMeasure.rows m := List.map_append ..
theorem TMeasure.nil : TMeasure.rows [] = [] := rfl
theorem TMeasure.cons (x : TMeasure) (l : List TMeasure) : TMeasure.rows (x :: l) = x.row :: TMeasure.rows l := rfl
theorem TMeasure.rtake (l : List TMeasure) (n : Nat) : (TMeasure.rows l).take n = TMeasure.rows (l.take n) := List.map_take.symm
theorem TMeasure.rdrop (l : List TMeasure) (n : Nat) : (TMeasure.rows l).drop n = TMeasure.rows (l.drop n) := List.map_drop.symm
theorem TMeasure.rset (l : List TMeasure) (n : Nat) (x : TMeasure) : (TMeasure.rows l).set n x.row = TMeasure.rows (l.set n x) := by simp only [TMeasure.rows, List.map_set]
theorem TMeasure.get (l : List TMeasure) (i : Nat) : (TMeasure.rows l).getD i [.str ⟨#[]⟩, .int .i64 0, .int .i64 0, .int .i64 0] = [.str (l.getD i TMeasure.z).name, .int .i64 (l.getD i TMeasure.z).how, .int .i64 (l.getD i TMeasure.z).far, .int .i64 (l.getD i TMeasure.z).points] := map_get TMeasure.row l i TMeasure.z
theorem TMeasure.z_len (l : List TMeasure) : ∀ y ∈ TMeasure.rows l, y.length = 4 := fun y hy => by obtain ⟨x, _, rfl⟩ := List.mem_map.1 hy; rfl
theorem TMeasure.zlT (l : List TMeasure) : (∀ y ∈ TMeasure.rows l, y.length = 4) = True := eq_true (TMeasure.z_len l)
theorem TMeasure.any (l : List TMeasure) (p : List D → Bool) : (TMeasure.rows l).any p = l.any fun a => p a.row := List.any_map
theorem TMeasure.ex {p : TMeasure → Prop} : (∃ x, p x) = ∃ a0 a1 a2 a3, p ⟨a0, a1, a2, a3⟩ := propext ⟨fun ⟨⟨a0, a1, a2, a3⟩, h⟩ => ⟨a0, a1, a2, a3, h⟩, fun ⟨a0, a1, a2, a3, h⟩ => ⟨⟨a0, a1, a2, a3⟩, h⟩⟩
theorem TMeasure.nil1 (l : List TMeasure) : (TMeasure.rows l = []) = (l = []) := propext List.map_eq_nil_iff
theorem TMeasure.nil2 (l : List TMeasure) : ([] = TMeasure.rows l) = (l = []) := propext ⟨fun h => List.map_eq_nil_iff.1 h.symm, fun h => h ▸ rfl⟩
theorem TMeasure.fold1 (b1 : ByteArray) (b2 : Int) (b3 : Int) (b4 : Int) : [[D.str b1, D.int .i64 b2, D.int .i64 b3, D.int .i64 b4]] = TMeasure.rows [⟨b1, b2, b3, b4⟩] := rfl
theorem TMeasure.foldc (b1 : ByteArray) (b2 : Int) (b3 : Int) (b4 : Int) (l : List TMeasure) : [D.str b1, D.int .i64 b2, D.int .i64 b3, D.int .i64 b4] :: TMeasure.rows l = TMeasure.rows (⟨b1, b2, b3, b4⟩ :: l) := rfl
theorem TMeasure.foldr (b1 : ByteArray) (b2 : Int) (b3 : Int) (b4 : Int) (x : TMeasure) : ([D.str b1, D.int .i64 b2, D.int .i64 b3, D.int .i64 b4] = x.row) = (x = ⟨b1, b2, b3, b4⟩) := propext ⟨fun h => TMeasure.inj (x := x) (y := ⟨b1, b2, b3, b4⟩) h.symm, fun h => h ▸ rfl⟩
theorem TMeasure.app' (l m : List TMeasure) : TMeasure.rows l ++ TMeasure.rows m = TMeasure.rows (l ++ m) := (List.map_append ..).symm
def TMeasure.ok (x : TMeasure) : Prop := okS x.name ∧ okI x.how ∧ okI x.far ∧ okI x.points
theorem TMeasure.z_ok : TMeasure.z.ok := ⟨okS_z, okI_z, okI_z, okI_z⟩
theorem TMeasure.flat (l : List TMeasure) : ((TMeasure.rows l).all fun x => x.all D.flat) = true := by
  rw [List.all_eq_true]; intro y hy; obtain ⟨x, _, rfl⟩ := List.mem_map.1 hy; rfl
structure TNeed where
  name : ByteArray
  kind : Int
  must : Bool
def TNeed.z : TNeed := ⟨⟨#[]⟩, 0, false⟩
instance : Inhabited TNeed := ⟨TNeed.z⟩
def TNeed.row (x : TNeed) : List D := [.str x.name, .int .i64 x.kind, .bool x.must]
def TNeed.rows (l : List TNeed) : List (List D) := l.map TNeed.row
theorem TNeed.inj {x y : TNeed} (h : x.row = y.row) : x = y := by
  obtain ⟨_, _, _⟩ := x; obtain ⟨_, _, _⟩ := y
  simp only [TNeed.row, List.cons.injEq, D.int.injEq, D.str.injEq, D.bool.injEq, D.sl.injEq, true_and, and_true] at h
  obtain ⟨rfl, rfl, rfl⟩ := h; rfl
theorem TNeed.row_inj {x y : TNeed} : (x.row = y.row) = (x = y) := propext ⟨TNeed.inj, fun h => h ▸ rfl⟩
theorem TNeed.rows_inj {l m : List TNeed} : (TNeed.rows l = TNeed.rows m) = (l = m) := map_inj_of fun _ _ => TNeed.inj
theorem TNeed.len (l : List TNeed) : (TNeed.rows l).length = l.length := List.length_map ..
theorem TNeed.app (l m : List TNeed) : TNeed.rows (l ++ m) = TNeed.rows l ++ TNeed.rows m := List.map_append ..
theorem TNeed.nil : TNeed.rows [] = [] := rfl
theorem TNeed.cons (x : TNeed) (l : List TNeed) : TNeed.rows (x :: l) = x.row :: TNeed.rows l := rfl
theorem TNeed.rtake (l : List TNeed) (n : Nat) : (TNeed.rows l).take n = TNeed.rows (l.take n) := List.map_take.symm
theorem TNeed.rdrop (l : List TNeed) (n : Nat) : (TNeed.rows l).drop n = TNeed.rows (l.drop n) := List.map_drop.symm
theorem TNeed.rset (l : List TNeed) (n : Nat) (x : TNeed) : (TNeed.rows l).set n x.row = TNeed.rows (l.set n x) := by simp only [TNeed.rows, List.map_set]
theorem TNeed.get (l : List TNeed) (i : Nat) : (TNeed.rows l).getD i [.str ⟨#[]⟩, .int .i64 0, .bool false] = [.str (l.getD i TNeed.z).name, .int .i64 (l.getD i TNeed.z).kind, .bool (l.getD i TNeed.z).must] := map_get TNeed.row l i TNeed.z
theorem TNeed.z_len (l : List TNeed) : ∀ y ∈ TNeed.rows l, y.length = 3 := fun y hy => by obtain ⟨x, _, rfl⟩ := List.mem_map.1 hy; rfl
theorem TNeed.zlT (l : List TNeed) : (∀ y ∈ TNeed.rows l, y.length = 3) = True := eq_true (TNeed.z_len l)
theorem TNeed.any (l : List TNeed) (p : List D → Bool) : (TNeed.rows l).any p = l.any fun a => p a.row := List.any_map
theorem TNeed.ex {p : TNeed → Prop} : (∃ x, p x) = ∃ a0 a1 a2, p ⟨a0, a1, a2⟩ := propext ⟨fun ⟨⟨a0, a1, a2⟩, h⟩ => ⟨a0, a1, a2, h⟩, fun ⟨a0, a1, a2, h⟩ => ⟨⟨a0, a1, a2⟩, h⟩⟩
theorem TNeed.nil1 (l : List TNeed) : (TNeed.rows l = []) = (l = []) := propext List.map_eq_nil_iff
theorem TNeed.nil2 (l : List TNeed) : ([] = TNeed.rows l) = (l = []) := propext ⟨fun h => List.map_eq_nil_iff.1 h.symm, fun h => h ▸ rfl⟩
theorem TNeed.fold1 (b1 : ByteArray) (b2 : Int) (b3 : Bool) : [[D.str b1, D.int .i64 b2, D.bool b3]] = TNeed.rows [⟨b1, b2, b3⟩] := rfl
theorem TNeed.foldc (b1 : ByteArray) (b2 : Int) (b3 : Bool) (l : List TNeed) : [D.str b1, D.int .i64 b2, D.bool b3] :: TNeed.rows l = TNeed.rows (⟨b1, b2, b3⟩ :: l) := rfl
theorem TNeed.foldr (b1 : ByteArray) (b2 : Int) (b3 : Bool) (x : TNeed) : ([D.str b1, D.int .i64 b2, D.bool b3] = x.row) = (x = ⟨b1, b2, b3⟩) := propext ⟨fun h => TNeed.inj (x := x) (y := ⟨b1, b2, b3⟩) h.symm, fun h => h ▸ rfl⟩
theorem TNeed.app' (l m : List TNeed) : TNeed.rows l ++ TNeed.rows m = TNeed.rows (l ++ m) := (List.map_append ..).symm
def TNeed.ok (x : TNeed) : Prop := okS x.name ∧ okI x.kind
theorem TNeed.z_ok : TNeed.z.ok := ⟨okS_z, okI_z⟩
theorem TNeed.flat (l : List TNeed) : ((TNeed.rows l).all fun x => x.all D.flat) = true := by
  rw [List.all_eq_true]; intro y hy; obtain ⟨x, _, rfl⟩ := List.mem_map.1 hy; rfl
structure TSchema where
  name : ByteArray
  needs : List TNeed
def TSchema.z : TSchema := ⟨⟨#[]⟩, []⟩
instance : Inhabited TSchema := ⟨TSchema.z⟩
def TSchema.row (x : TSchema) : List D := [.str x.name, .sl (TNeed.rows x.needs)]
def TSchema.rows (l : List TSchema) : List (List D) := l.map TSchema.row
theorem TSchema.inj {x y : TSchema} (h : x.row = y.row) : x = y := by
  obtain ⟨_, _⟩ := x; obtain ⟨_, _⟩ := y
  simp only [TSchema.row, List.cons.injEq, D.int.injEq, D.str.injEq, D.bool.injEq, D.sl.injEq, true_and, and_true, TNeed.rows_inj] at h
  obtain ⟨rfl, rfl⟩ := h; rfl
theorem TSchema.row_inj {x y : TSchema} : (x.row = y.row) = (x = y) := propext ⟨TSchema.inj, fun h => h ▸ rfl⟩
theorem TSchema.rows_inj {l m : List TSchema} : (TSchema.rows l = TSchema.rows m) = (l = m) := map_inj_of fun _ _ => TSchema.inj
theorem TSchema.len (l : List TSchema) : (TSchema.rows l).length = l.length := List.length_map ..
theorem TSchema.app (l m : List TSchema) : TSchema.rows (l ++ m) = TSchema.rows l ++ TSchema.rows m := List.map_append ..
theorem TSchema.nil : TSchema.rows [] = [] := rfl
theorem TSchema.cons (x : TSchema) (l : List TSchema) : TSchema.rows (x :: l) = x.row :: TSchema.rows l := rfl
theorem TSchema.rtake (l : List TSchema) (n : Nat) : (TSchema.rows l).take n = TSchema.rows (l.take n) := List.map_take.symm
theorem TSchema.rdrop (l : List TSchema) (n : Nat) : (TSchema.rows l).drop n = TSchema.rows (l.drop n) := List.map_drop.symm
theorem TSchema.rset (l : List TSchema) (n : Nat) (x : TSchema) : (TSchema.rows l).set n x.row = TSchema.rows (l.set n x) := by simp only [TSchema.rows, List.map_set]
theorem TSchema.get (l : List TSchema) (i : Nat) : (TSchema.rows l).getD i [.str ⟨#[]⟩, .sl []] = [.str (l.getD i TSchema.z).name, .sl (TNeed.rows (l.getD i TSchema.z).needs)] := map_get TSchema.row l i TSchema.z
theorem TSchema.z_len (l : List TSchema) : ∀ y ∈ TSchema.rows l, y.length = 2 := fun y hy => by obtain ⟨x, _, rfl⟩ := List.mem_map.1 hy; rfl
theorem TSchema.zlT (l : List TSchema) : (∀ y ∈ TSchema.rows l, y.length = 2) = True := eq_true (TSchema.z_len l)
theorem TSchema.any (l : List TSchema) (p : List D → Bool) : (TSchema.rows l).any p = l.any fun a => p a.row := List.any_map
theorem TSchema.ex {p : TSchema → Prop} : (∃ x, p x) = ∃ a0 a1, p ⟨a0, a1⟩ := propext ⟨fun ⟨⟨a0, a1⟩, h⟩ => ⟨a0, a1, h⟩, fun ⟨a0, a1, h⟩ => ⟨⟨a0, a1⟩, h⟩⟩
theorem TSchema.nil1 (l : List TSchema) : (TSchema.rows l = []) = (l = []) := propext List.map_eq_nil_iff
theorem TSchema.nil2 (l : List TSchema) : ([] = TSchema.rows l) = (l = []) := propext ⟨fun h => List.map_eq_nil_iff.1 h.symm, fun h => h ▸ rfl⟩
theorem TSchema.fold1 (b1 : ByteArray) (b2 : List TNeed) : [[D.str b1, D.sl (TNeed.rows b2)]] = TSchema.rows [⟨b1, b2⟩] := rfl
theorem TSchema.foldc (b1 : ByteArray) (b2 : List TNeed) (l : List TSchema) : [D.str b1, D.sl (TNeed.rows b2)] :: TSchema.rows l = TSchema.rows (⟨b1, b2⟩ :: l) := rfl
theorem TSchema.foldr (b1 : ByteArray) (b2 : List TNeed) (x : TSchema) : ([D.str b1, D.sl (TNeed.rows b2)] = x.row) = (x = ⟨b1, b2⟩) := propext ⟨fun h => TSchema.inj (x := x) (y := ⟨b1, b2⟩) h.symm, fun h => h ▸ rfl⟩
theorem TSchema.app' (l m : List TSchema) : TSchema.rows l ++ TSchema.rows m = TSchema.rows (l ++ m) := (List.map_append ..).symm
def TSchema.ok (x : TSchema) : Prop := okS x.name ∧ okL TNeed.ok x.needs
theorem TSchema.z_ok : TSchema.z.ok := ⟨okS_z, okL_z _⟩
structure TEvent where
  id : ByteArray
  name : ByteArray
  at_ : Int
  who : TId
  fields : List TField
def TEvent.z : TEvent := ⟨⟨#[]⟩, ⟨#[]⟩, 0, ⟨0, ⟨#[]⟩⟩, []⟩
instance : Inhabited TEvent := ⟨TEvent.z⟩
def TEvent.row (x : TEvent) : List D := [.str x.id, .str x.name, .int .i64 x.at_, .int .i64 x.who.kind, .str x.who.text, .sl (TField.rows x.fields)]
def TEvent.rows (l : List TEvent) : List (List D) := l.map TEvent.row
theorem TEvent.inj {x y : TEvent} (h : x.row = y.row) : x = y := by
  obtain ⟨_, _, _, ⟨_, _⟩, _⟩ := x; obtain ⟨_, _, _, ⟨_, _⟩, _⟩ := y
  simp only [TEvent.row, List.cons.injEq, D.int.injEq, D.str.injEq, D.bool.injEq, D.sl.injEq, true_and, and_true, TField.rows_inj] at h
  obtain ⟨rfl, rfl, rfl, rfl, rfl, rfl⟩ := h; rfl
theorem TEvent.row_inj {x y : TEvent} : (x.row = y.row) = (x = y) := propext ⟨TEvent.inj, fun h => h ▸ rfl⟩
theorem TEvent.rows_inj {l m : List TEvent} : (TEvent.rows l = TEvent.rows m) = (l = m) := map_inj_of fun _ _ => TEvent.inj
theorem TEvent.len (l : List TEvent) : (TEvent.rows l).length = l.length := List.length_map ..
theorem TEvent.app (l m : List TEvent) : TEvent.rows (l ++ m) = TEvent.rows l ++ TEvent.rows m := List.map_append ..
theorem TEvent.nil : TEvent.rows [] = [] := rfl
theorem TEvent.cons (x : TEvent) (l : List TEvent) : TEvent.rows (x :: l) = x.row :: TEvent.rows l := rfl
theorem TEvent.rtake (l : List TEvent) (n : Nat) : (TEvent.rows l).take n = TEvent.rows (l.take n) := List.map_take.symm
theorem TEvent.rdrop (l : List TEvent) (n : Nat) : (TEvent.rows l).drop n = TEvent.rows (l.drop n) := List.map_drop.symm
theorem TEvent.rset (l : List TEvent) (n : Nat) (x : TEvent) : (TEvent.rows l).set n x.row = TEvent.rows (l.set n x) := by simp only [TEvent.rows, List.map_set]
theorem TEvent.get (l : List TEvent) (i : Nat) : (TEvent.rows l).getD i [.str ⟨#[]⟩, .str ⟨#[]⟩, .int .i64 0, .int .i64 0, .str ⟨#[]⟩, .sl []] = [.str (l.getD i TEvent.z).id, .str (l.getD i TEvent.z).name, .int .i64 (l.getD i TEvent.z).at_, .int .i64 (l.getD i TEvent.z).who.kind, .str (l.getD i TEvent.z).who.text, .sl (TField.rows (l.getD i TEvent.z).fields)] := map_get TEvent.row l i TEvent.z
theorem TEvent.z_len (l : List TEvent) : ∀ y ∈ TEvent.rows l, y.length = 6 := fun y hy => by obtain ⟨x, _, rfl⟩ := List.mem_map.1 hy; rfl
theorem TEvent.zlT (l : List TEvent) : (∀ y ∈ TEvent.rows l, y.length = 6) = True := eq_true (TEvent.z_len l)
theorem TEvent.any (l : List TEvent) (p : List D → Bool) : (TEvent.rows l).any p = l.any fun a => p a.row := List.any_map
theorem TEvent.ex {p : TEvent → Prop} : (∃ x, p x) = ∃ a0 a1 a2 a3 a4, p ⟨a0, a1, a2, a3, a4⟩ := propext ⟨fun ⟨⟨a0, a1, a2, a3, a4⟩, h⟩ => ⟨a0, a1, a2, a3, a4, h⟩, fun ⟨a0, a1, a2, a3, a4, h⟩ => ⟨⟨a0, a1, a2, a3, a4⟩, h⟩⟩
theorem TEvent.nil1 (l : List TEvent) : (TEvent.rows l = []) = (l = []) := propext List.map_eq_nil_iff
theorem TEvent.nil2 (l : List TEvent) : ([] = TEvent.rows l) = (l = []) := propext ⟨fun h => List.map_eq_nil_iff.1 h.symm, fun h => h ▸ rfl⟩
theorem TEvent.fold1 (b1 : ByteArray) (b2 : ByteArray) (b3 : Int) (b4 : Int) (b5 : ByteArray) (b6 : List TField) : [[D.str b1, D.str b2, D.int .i64 b3, D.int .i64 b4, D.str b5, D.sl (TField.rows b6)]] = TEvent.rows [⟨b1, b2, b3, ⟨b4, b5⟩, b6⟩] := rfl
theorem TEvent.foldc (b1 : ByteArray) (b2 : ByteArray) (b3 : Int) (b4 : Int) (b5 : ByteArray) (b6 : List TField) (l : List TEvent) : [D.str b1, D.str b2, D.int .i64 b3, D.int .i64 b4, D.str b5, D.sl (TField.rows b6)] :: TEvent.rows l = TEvent.rows (⟨b1, b2, b3, ⟨b4, b5⟩, b6⟩ :: l) := rfl
theorem TEvent.foldr (b1 : ByteArray) (b2 : ByteArray) (b3 : Int) (b4 : Int) (b5 : ByteArray) (b6 : List TField) (x : TEvent) : ([D.str b1, D.str b2, D.int .i64 b3, D.int .i64 b4, D.str b5, D.sl (TField.rows b6)] = x.row) = (x = ⟨b1, b2, b3, ⟨b4, b5⟩, b6⟩) := propext ⟨fun h => TEvent.inj (x := x) (y := ⟨b1, b2, b3, ⟨b4, b5⟩, b6⟩) h.symm, fun h => h ▸ rfl⟩
theorem TEvent.app' (l m : List TEvent) : TEvent.rows l ++ TEvent.rows m = TEvent.rows (l ++ m) := (List.map_append ..).symm
def TEvent.ok (x : TEvent) : Prop := okS x.id ∧ okS x.name ∧ okI x.at_ ∧ TId.ok x.who ∧ okL TField.ok x.fields
theorem TEvent.z_ok : TEvent.z.ok := ⟨okS_z, okS_z, okI_z, TId.z_ok, okL_z _⟩
structure TTerm where
  region : ByteArray
  channel : Int
  free : Bool
  days : Int
  wait : Int
def TTerm.z : TTerm := ⟨⟨#[]⟩, 0, false, 0, 0⟩
instance : Inhabited TTerm := ⟨TTerm.z⟩
def TTerm.row (x : TTerm) : List D := [.str x.region, .int .i64 x.channel, .bool x.free, .int .i64 x.days, .int .i64 x.wait]
def TTerm.rows (l : List TTerm) : List (List D) := l.map TTerm.row
theorem TTerm.inj {x y : TTerm} (h : x.row = y.row) : x = y := by
  obtain ⟨_, _, _, _, _⟩ := x; obtain ⟨_, _, _, _, _⟩ := y
  simp only [TTerm.row, List.cons.injEq, D.int.injEq, D.str.injEq, D.bool.injEq, D.sl.injEq, true_and, and_true] at h
  obtain ⟨rfl, rfl, rfl, rfl, rfl⟩ := h; rfl
theorem TTerm.row_inj {x y : TTerm} : (x.row = y.row) = (x = y) := propext ⟨TTerm.inj, fun h => h ▸ rfl⟩
theorem TTerm.rows_inj {l m : List TTerm} : (TTerm.rows l = TTerm.rows m) = (l = m) := map_inj_of fun _ _ => TTerm.inj
theorem TTerm.len (l : List TTerm) : (TTerm.rows l).length = l.length := List.length_map ..
theorem TTerm.app (l m : List TTerm) : TTerm.rows (l ++ m) = TTerm.rows l ++ TTerm.rows m := List.map_append ..
theorem TTerm.nil : TTerm.rows [] = [] := rfl
theorem TTerm.cons (x : TTerm) (l : List TTerm) : TTerm.rows (x :: l) = x.row :: TTerm.rows l := rfl
theorem TTerm.rtake (l : List TTerm) (n : Nat) : (TTerm.rows l).take n = TTerm.rows (l.take n) := List.map_take.symm
theorem TTerm.rdrop (l : List TTerm) (n : Nat) : (TTerm.rows l).drop n = TTerm.rows (l.drop n) := List.map_drop.symm
theorem TTerm.rset (l : List TTerm) (n : Nat) (x : TTerm) : (TTerm.rows l).set n x.row = TTerm.rows (l.set n x) := by simp only [TTerm.rows, List.map_set]
theorem TTerm.get (l : List TTerm) (i : Nat) : (TTerm.rows l).getD i [.str ⟨#[]⟩, .int .i64 0, .bool false, .int .i64 0, .int .i64 0] = [.str (l.getD i TTerm.z).region, .int .i64 (l.getD i TTerm.z).channel, .bool (l.getD i TTerm.z).free, .int .i64 (l.getD i TTerm.z).days, .int .i64 (l.getD i TTerm.z).wait] := map_get TTerm.row l i TTerm.z
theorem TTerm.z_len (l : List TTerm) : ∀ y ∈ TTerm.rows l, y.length = 5 := fun y hy => by obtain ⟨x, _, rfl⟩ := List.mem_map.1 hy; rfl
theorem TTerm.zlT (l : List TTerm) : (∀ y ∈ TTerm.rows l, y.length = 5) = True := eq_true (TTerm.z_len l)
theorem TTerm.any (l : List TTerm) (p : List D → Bool) : (TTerm.rows l).any p = l.any fun a => p a.row := List.any_map
theorem TTerm.ex {p : TTerm → Prop} : (∃ x, p x) = ∃ a0 a1 a2 a3 a4, p ⟨a0, a1, a2, a3, a4⟩ := propext ⟨fun ⟨⟨a0, a1, a2, a3, a4⟩, h⟩ => ⟨a0, a1, a2, a3, a4, h⟩, fun ⟨a0, a1, a2, a3, a4, h⟩ => ⟨⟨a0, a1, a2, a3, a4⟩, h⟩⟩
theorem TTerm.nil1 (l : List TTerm) : (TTerm.rows l = []) = (l = []) := propext List.map_eq_nil_iff
theorem TTerm.nil2 (l : List TTerm) : ([] = TTerm.rows l) = (l = []) := propext ⟨fun h => List.map_eq_nil_iff.1 h.symm, fun h => h ▸ rfl⟩
theorem TTerm.fold1 (b1 : ByteArray) (b2 : Int) (b3 : Bool) (b4 : Int) (b5 : Int) : [[D.str b1, D.int .i64 b2, D.bool b3, D.int .i64 b4, D.int .i64 b5]] = TTerm.rows [⟨b1, b2, b3, b4, b5⟩] := rfl
theorem TTerm.foldc (b1 : ByteArray) (b2 : Int) (b3 : Bool) (b4 : Int) (b5 : Int) (l : List TTerm) : [D.str b1, D.int .i64 b2, D.bool b3, D.int .i64 b4, D.int .i64 b5] :: TTerm.rows l = TTerm.rows (⟨b1, b2, b3, b4, b5⟩ :: l) := rfl
theorem TTerm.foldr (b1 : ByteArray) (b2 : Int) (b3 : Bool) (b4 : Int) (b5 : Int) (x : TTerm) : ([D.str b1, D.int .i64 b2, D.bool b3, D.int .i64 b4, D.int .i64 b5] = x.row) = (x = ⟨b1, b2, b3, b4, b5⟩) := propext ⟨fun h => TTerm.inj (x := x) (y := ⟨b1, b2, b3, b4, b5⟩) h.symm, fun h => h ▸ rfl⟩
theorem TTerm.app' (l m : List TTerm) : TTerm.rows l ++ TTerm.rows m = TTerm.rows (l ++ m) := (List.map_append ..).symm
def TTerm.ok (x : TTerm) : Prop := okS x.region ∧ okI x.channel ∧ okI x.days ∧ okI x.wait
theorem TTerm.z_ok : TTerm.z.ok := ⟨okS_z, okI_z, okI_z, okI_z⟩
theorem TTerm.flat (l : List TTerm) : ((TTerm.rows l).all fun x => x.all D.flat) = true := by
  rw [List.all_eq_true]; intro y hy; obtain ⟨x, _, rfl⟩ := List.mem_map.1 hy; rfl
structure TPurpose where
  name : ByteArray
  terms : List TTerm
def TPurpose.z : TPurpose := ⟨⟨#[]⟩, []⟩
instance : Inhabited TPurpose := ⟨TPurpose.z⟩
def TPurpose.row (x : TPurpose) : List D := [.str x.name, .sl (TTerm.rows x.terms)]
def TPurpose.rows (l : List TPurpose) : List (List D) := l.map TPurpose.row
theorem TPurpose.inj {x y : TPurpose} (h : x.row = y.row) : x = y := by
  obtain ⟨_, _⟩ := x; obtain ⟨_, _⟩ := y
  simp only [TPurpose.row, List.cons.injEq, D.int.injEq, D.str.injEq, D.bool.injEq, D.sl.injEq, true_and, and_true, TTerm.rows_inj] at h
  obtain ⟨rfl, rfl⟩ := h; rfl
theorem TPurpose.row_inj {x y : TPurpose} : (x.row = y.row) = (x = y) := propext ⟨TPurpose.inj, fun h => h ▸ rfl⟩
theorem TPurpose.rows_inj {l m : List TPurpose} : (TPurpose.rows l = TPurpose.rows m) = (l = m) := map_inj_of fun _ _ => TPurpose.inj
theorem TPurpose.len (l : List TPurpose) : (TPurpose.rows l).length = l.length := List.length_map ..
theorem TPurpose.app (l m : List TPurpose) : TPurpose.rows (l ++ m) = TPurpose.rows l ++ TPurpose.rows m := List.map_append ..
theorem TPurpose.nil : TPurpose.rows [] = [] := rfl
theorem TPurpose.cons (x : TPurpose) (l : List TPurpose) : TPurpose.rows (x :: l) = x.row :: TPurpose.rows l := rfl
theorem TPurpose.rtake (l : List TPurpose) (n : Nat) : (TPurpose.rows l).take n = TPurpose.rows (l.take n) := List.map_take.symm
theorem TPurpose.rdrop (l : List TPurpose) (n : Nat) : (TPurpose.rows l).drop n = TPurpose.rows (l.drop n) := List.map_drop.symm
theorem TPurpose.rset (l : List TPurpose) (n : Nat) (x : TPurpose) : (TPurpose.rows l).set n x.row = TPurpose.rows (l.set n x) := by simp only [TPurpose.rows, List.map_set]
theorem TPurpose.get (l : List TPurpose) (i : Nat) : (TPurpose.rows l).getD i [.str ⟨#[]⟩, .sl []] = [.str (l.getD i TPurpose.z).name, .sl (TTerm.rows (l.getD i TPurpose.z).terms)] := map_get TPurpose.row l i TPurpose.z
theorem TPurpose.z_len (l : List TPurpose) : ∀ y ∈ TPurpose.rows l, y.length = 2 := fun y hy => by obtain ⟨x, _, rfl⟩ := List.mem_map.1 hy; rfl
theorem TPurpose.zlT (l : List TPurpose) : (∀ y ∈ TPurpose.rows l, y.length = 2) = True := eq_true (TPurpose.z_len l)
theorem TPurpose.any (l : List TPurpose) (p : List D → Bool) : (TPurpose.rows l).any p = l.any fun a => p a.row := List.any_map
theorem TPurpose.ex {p : TPurpose → Prop} : (∃ x, p x) = ∃ a0 a1, p ⟨a0, a1⟩ := propext ⟨fun ⟨⟨a0, a1⟩, h⟩ => ⟨a0, a1, h⟩, fun ⟨a0, a1, h⟩ => ⟨⟨a0, a1⟩, h⟩⟩
theorem TPurpose.nil1 (l : List TPurpose) : (TPurpose.rows l = []) = (l = []) := propext List.map_eq_nil_iff
theorem TPurpose.nil2 (l : List TPurpose) : ([] = TPurpose.rows l) = (l = []) := propext ⟨fun h => List.map_eq_nil_iff.1 h.symm, fun h => h ▸ rfl⟩
theorem TPurpose.fold1 (b1 : ByteArray) (b2 : List TTerm) : [[D.str b1, D.sl (TTerm.rows b2)]] = TPurpose.rows [⟨b1, b2⟩] := rfl
theorem TPurpose.foldc (b1 : ByteArray) (b2 : List TTerm) (l : List TPurpose) : [D.str b1, D.sl (TTerm.rows b2)] :: TPurpose.rows l = TPurpose.rows (⟨b1, b2⟩ :: l) := rfl
theorem TPurpose.foldr (b1 : ByteArray) (b2 : List TTerm) (x : TPurpose) : ([D.str b1, D.sl (TTerm.rows b2)] = x.row) = (x = ⟨b1, b2⟩) := propext ⟨fun h => TPurpose.inj (x := x) (y := ⟨b1, b2⟩) h.symm, fun h => h ▸ rfl⟩
theorem TPurpose.app' (l m : List TPurpose) : TPurpose.rows l ++ TPurpose.rows m = TPurpose.rows (l ++ m) := (List.map_append ..).symm
def TPurpose.ok (x : TPurpose) : Prop := okS x.name ∧ okL TTerm.ok x.terms
theorem TPurpose.z_ok : TPurpose.z.ok := ⟨okS_z, okL_z _⟩
structure TStatement where
  no : Int
  at_ : Int
  id : TId
  purpose : ByteArray
  region : ByteArray
  channel : Int
  what : Int
def TStatement.z : TStatement := ⟨0, 0, ⟨0, ⟨#[]⟩⟩, ⟨#[]⟩, ⟨#[]⟩, 0, 0⟩
instance : Inhabited TStatement := ⟨TStatement.z⟩
def TStatement.row (x : TStatement) : List D := [.int .i64 x.no, .int .i64 x.at_, .int .i64 x.id.kind, .str x.id.text, .str x.purpose, .str x.region, .int .i64 x.channel, .int .i64 x.what]
def TStatement.rows (l : List TStatement) : List (List D) := l.map TStatement.row
theorem TStatement.inj {x y : TStatement} (h : x.row = y.row) : x = y := by
  obtain ⟨_, _, ⟨_, _⟩, _, _, _, _⟩ := x; obtain ⟨_, _, ⟨_, _⟩, _, _, _, _⟩ := y
  simp only [TStatement.row, List.cons.injEq, D.int.injEq, D.str.injEq, D.bool.injEq, D.sl.injEq, true_and, and_true] at h
  obtain ⟨rfl, rfl, rfl, rfl, rfl, rfl, rfl, rfl⟩ := h; rfl
theorem TStatement.row_inj {x y : TStatement} : (x.row = y.row) = (x = y) := propext ⟨TStatement.inj, fun h => h ▸ rfl⟩
theorem TStatement.rows_inj {l m : List TStatement} : (TStatement.rows l = TStatement.rows m) = (l = m) := map_inj_of fun _ _ => TStatement.inj
theorem TStatement.len (l : List TStatement) : (TStatement.rows l).length = l.length := List.length_map ..
theorem TStatement.app (l m : List TStatement) : TStatement.rows (l ++ m) = TStatement.rows l ++ TStatement.rows m := List.map_append ..
theorem TStatement.nil : TStatement.rows [] = [] := rfl
theorem TStatement.cons (x : TStatement) (l : List TStatement) : TStatement.rows (x :: l) = x.row :: TStatement.rows l := rfl
theorem TStatement.rtake (l : List TStatement) (n : Nat) : (TStatement.rows l).take n = TStatement.rows (l.take n) := List.map_take.symm
theorem TStatement.rdrop (l : List TStatement) (n : Nat) : (TStatement.rows l).drop n = TStatement.rows (l.drop n) := List.map_drop.symm
theorem TStatement.rset (l : List TStatement) (n : Nat) (x : TStatement) : (TStatement.rows l).set n x.row = TStatement.rows (l.set n x) := by simp only [TStatement.rows, List.map_set]
theorem TStatement.get (l : List TStatement) (i : Nat) : (TStatement.rows l).getD i [.int .i64 0, .int .i64 0, .int .i64 0, .str ⟨#[]⟩, .str ⟨#[]⟩, .str ⟨#[]⟩, .int .i64 0, .int .i64 0] = [.int .i64 (l.getD i TStatement.z).no, .int .i64 (l.getD i TStatement.z).at_, .int .i64 (l.getD i TStatement.z).id.kind, .str (l.getD i TStatement.z).id.text, .str (l.getD i TStatement.z).purpose, .str (l.getD i TStatement.z).region, .int .i64 (l.getD i TStatement.z).channel, .int .i64 (l.getD i TStatement.z).what] := map_get TStatement.row l i TStatement.z
theorem TStatement.z_len (l : List TStatement) : ∀ y ∈ TStatement.rows l, y.length = 8 := fun y hy => by obtain ⟨x, _, rfl⟩ := List.mem_map.1 hy; rfl
theorem TStatement.zlT (l : List TStatement) : (∀ y ∈ TStatement.rows l, y.length = 8) = True := eq_true (TStatement.z_len l)
theorem TStatement.any (l : List TStatement) (p : List D → Bool) : (TStatement.rows l).any p = l.any fun a => p a.row := List.any_map
theorem TStatement.ex {p : TStatement → Prop} : (∃ x, p x) = ∃ a0 a1 a2 a3 a4 a5 a6, p ⟨a0, a1, a2, a3, a4, a5, a6⟩ := propext ⟨fun ⟨⟨a0, a1, a2, a3, a4, a5, a6⟩, h⟩ => ⟨a0, a1, a2, a3, a4, a5, a6, h⟩, fun ⟨a0, a1, a2, a3, a4, a5, a6, h⟩ => ⟨⟨a0, a1, a2, a3, a4, a5, a6⟩, h⟩⟩
theorem TStatement.nil1 (l : List TStatement) : (TStatement.rows l = []) = (l = []) := propext List.map_eq_nil_iff
theorem TStatement.nil2 (l : List TStatement) : ([] = TStatement.rows l) = (l = []) := propext ⟨fun h => List.map_eq_nil_iff.1 h.symm, fun h => h ▸ rfl⟩
theorem TStatement.fold1 (b1 : Int) (b2 : Int) (b3 : Int) (b4 : ByteArray) (b5 : ByteArray) (b6 : ByteArray) (b7 : Int) (b8 : Int) : [[D.int .i64 b1, D.int .i64 b2, D.int .i64 b3, D.str b4, D.str b5, D.str b6, D.int .i64 b7, D.int .i64 b8]] = TStatement.rows [⟨b1, b2, ⟨b3, b4⟩, b5, b6, b7, b8⟩] := rfl
theorem TStatement.foldc (b1 : Int) (b2 : Int) (b3 : Int) (b4 : ByteArray) (b5 : ByteArray) (b6 : ByteArray) (b7 : Int) (b8 : Int) (l : List TStatement) : [D.int .i64 b1, D.int .i64 b2, D.int .i64 b3, D.str b4, D.str b5, D.str b6, D.int .i64 b7, D.int .i64 b8] :: TStatement.rows l = TStatement.rows (⟨b1, b2, ⟨b3, b4⟩, b5, b6, b7, b8⟩ :: l) := rfl
theorem TStatement.foldr (b1 : Int) (b2 : Int) (b3 : Int) (b4 : ByteArray) (b5 : ByteArray) (b6 : ByteArray) (b7 : Int) (b8 : Int) (x : TStatement) : ([D.int .i64 b1, D.int .i64 b2, D.int .i64 b3, D.str b4, D.str b5, D.str b6, D.int .i64 b7, D.int .i64 b8] = x.row) = (x = ⟨b1, b2, ⟨b3, b4⟩, b5, b6, b7, b8⟩) := propext ⟨fun h => TStatement.inj (x := x) (y := ⟨b1, b2, ⟨b3, b4⟩, b5, b6, b7, b8⟩) h.symm, fun h => h ▸ rfl⟩
theorem TStatement.app' (l m : List TStatement) : TStatement.rows l ++ TStatement.rows m = TStatement.rows (l ++ m) := (List.map_append ..).symm
def TStatement.ok (x : TStatement) : Prop := okI x.no ∧ okI x.at_ ∧ TId.ok x.id ∧ okS x.purpose ∧ okS x.region ∧ okI x.channel ∧ okI x.what
theorem TStatement.z_ok : TStatement.z.ok := ⟨okI_z, okI_z, TId.z_ok, okS_z, okS_z, okI_z, okI_z⟩
theorem TStatement.flat (l : List TStatement) : ((TStatement.rows l).all fun x => x.all D.flat) = true := by
  rw [List.all_eq_true]; intro y hy; obtain ⟨x, _, rfl⟩ := List.mem_map.1 hy; rfl
end Go.Avc
