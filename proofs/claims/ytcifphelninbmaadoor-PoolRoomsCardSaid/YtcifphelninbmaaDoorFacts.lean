/- The program's types: cells, bytes, zero values. No condition. -/
import Derived.Test.YtcifphelninbmaaDoorChecked
import Derived.Test.YtcifphelninbmaaDoorAvc21
set_option maxRecDepth 100000
namespace Go.Avc.F
open Go Go.Avc Go.Proofs
theorem c0 : Program.cellsOf Tryd.prog 0 = 1 := by kernel_rfl
theorem b0 : Program.bytesOf Tryd.prog 0 = 0 := by kernel_rfl
theorem k0 : Tk Tryd.prog 0 = some false := by kernel_rfl
theorem c1 : Program.cellsOf Tryd.prog 1 = 1 := by kernel_rfl
theorem b1 : Program.bytesOf Tryd.prog 1 = 8 := by kernel_rfl
theorem k1 : Tk Tryd.prog 1 = some false := by kernel_rfl
theorem c2 : Program.cellsOf Tryd.prog 2 = 1 := by kernel_rfl
theorem b2 : Program.bytesOf Tryd.prog 2 = 8 := by kernel_rfl
theorem k2 : Tk Tryd.prog 2 = some false := by kernel_rfl
theorem z2 : Tzero Tryd.prog 2 = some [.int .i64 0] := by kernel_rfl
theorem a2 : TzeroA Tryd.prog 2 = some [.dv (.d (.int .i64 0))] := by kernel_rfl
theorem o2 : Tone Tryd.prog 2 = some (.int .i64 0, 8) := by kernel_rfl
theorem c3 : Program.cellsOf Tryd.prog 3 = 1 := by kernel_rfl
theorem b3 : Program.bytesOf Tryd.prog 3 = 8 := by kernel_rfl
theorem k3 : Tk Tryd.prog 3 = some false := by kernel_rfl
theorem z3 : Tzero Tryd.prog 3 = some [.int .i64 0] := by kernel_rfl
theorem a3 : TzeroA Tryd.prog 3 = some [.dv (.d (.int .i64 0))] := by kernel_rfl
theorem o3 : Tone Tryd.prog 3 = some (.int .i64 0, 8) := by kernel_rfl
theorem c4 : Program.cellsOf Tryd.prog 4 = 1 := by kernel_rfl
theorem b4 : Program.bytesOf Tryd.prog 4 = 1 := by kernel_rfl
theorem k4 : Tk Tryd.prog 4 = some false := by kernel_rfl
theorem z4 : Tzero Tryd.prog 4 = some [.bool false] := by kernel_rfl
theorem a4 : TzeroA Tryd.prog 4 = some [.dv (.d (.bool false))] := by kernel_rfl
theorem o4 : Tone Tryd.prog 4 = some (.bool false, 1) := by kernel_rfl
theorem c5 : Program.cellsOf Tryd.prog 5 = 1 := by kernel_rfl
theorem b5 : Program.bytesOf Tryd.prog 5 = 1 := by kernel_rfl
theorem k5 : Tk Tryd.prog 5 = some false := by kernel_rfl
theorem z5 : Tzero Tryd.prog 5 = some [.int .u8 0] := by kernel_rfl
theorem a5 : TzeroA Tryd.prog 5 = some [.dv (.d (.int .u8 0))] := by kernel_rfl
theorem o5 : Tone Tryd.prog 5 = some (.int .u8 0, 1) := by kernel_rfl
theorem c6 : Program.cellsOf Tryd.prog 6 = 1 := by kernel_rfl
theorem b6 : Program.bytesOf Tryd.prog 6 = 1 := by kernel_rfl
theorem k6 : Tk Tryd.prog 6 = some false := by kernel_rfl
theorem z6 : Tzero Tryd.prog 6 = some [.int .u8 0] := by kernel_rfl
theorem a6 : TzeroA Tryd.prog 6 = some [.dv (.d (.int .u8 0))] := by kernel_rfl
theorem o6 : Tone Tryd.prog 6 = some (.int .u8 0, 1) := by kernel_rfl
theorem c7 : Program.cellsOf Tryd.prog 7 = 4 := by kernel_rfl
theorem b7 : Program.bytesOf Tryd.prog 7 = 24 := by kernel_rfl
theorem k7 : Tk Tryd.prog 7 = some true := by kernel_rfl
theorem z7 : Tzero Tryd.prog 7 = some [.int .i64 0, .int .i64 0, .bool false, .int .u8 0] := by kernel_rfl
theorem a7 : TzeroA Tryd.prog 7 = some [.dv (.d (.int .i64 0)), .dv (.d (.int .i64 0)), .dv (.d (.bool false)), .dv (.d (.int .u8 0))] := by kernel_rfl
theorem f7_0 : Tfld Tryd.prog 7 0 = some (0, 2) := by kernel_rfl
theorem f7_1 : Tfld Tryd.prog 7 1 = some (1, 3) := by kernel_rfl
theorem f7_2 : Tfld Tryd.prog 7 2 = some (2, 4) := by kernel_rfl
theorem f7_3 : Tfld Tryd.prog 7 3 = some (3, 6) := by kernel_rfl
theorem p7 : Tplc Tryd.prog 7 = some [(0, 1), (1, 1), (2, 1), (3, 1)] := by kernel_rfl
theorem c8 : Program.cellsOf Tryd.prog 8 = 4 := by kernel_rfl
theorem b8 : Program.bytesOf Tryd.prog 8 = 24 := by kernel_rfl
theorem k8 : Tk Tryd.prog 8 = some true := by kernel_rfl
theorem z8 : Tzero Tryd.prog 8 = some [.int .i64 0, .int .i64 0, .bool false, .int .u8 0] := by kernel_rfl
theorem a8 : TzeroA Tryd.prog 8 = some [.dv (.d (.int .i64 0)), .dv (.d (.int .i64 0)), .dv (.d (.bool false)), .dv (.d (.int .u8 0))] := by kernel_rfl
theorem f8_0 : Tfld Tryd.prog 8 0 = some (0, 2) := by kernel_rfl
theorem f8_1 : Tfld Tryd.prog 8 1 = some (1, 3) := by kernel_rfl
theorem f8_2 : Tfld Tryd.prog 8 2 = some (2, 4) := by kernel_rfl
theorem f8_3 : Tfld Tryd.prog 8 3 = some (3, 6) := by kernel_rfl
theorem p8 : Tplc Tryd.prog 8 = some [(0, 1), (1, 1), (2, 1), (3, 1)] := by kernel_rfl
theorem c9 : Program.cellsOf Tryd.prog 9 = 1 := by kernel_rfl
theorem b9 : Program.bytesOf Tryd.prog 9 = 16 := by kernel_rfl
theorem k9 : Tk Tryd.prog 9 = some false := by kernel_rfl
theorem z9 : Tzero Tryd.prog 9 = some [.str ⟨#[]⟩] := by kernel_rfl
theorem a9 : TzeroA Tryd.prog 9 = some [.dv (.d (.str ⟨#[]⟩))] := by kernel_rfl
theorem o9 : Tone Tryd.prog 9 = some (.str ⟨#[]⟩, 16) := by kernel_rfl
theorem c10 : Program.cellsOf Tryd.prog 10 = 1 := by kernel_rfl
theorem b10 : Program.bytesOf Tryd.prog 10 = 16 := by kernel_rfl
theorem k10 : Tk Tryd.prog 10 = some false := by kernel_rfl
theorem z10 : Tzero Tryd.prog 10 = some [.str ⟨#[]⟩] := by kernel_rfl
theorem a10 : TzeroA Tryd.prog 10 = some [.dv (.d (.str ⟨#[]⟩))] := by kernel_rfl
theorem o10 : Tone Tryd.prog 10 = some (.str ⟨#[]⟩, 16) := by kernel_rfl
theorem c11 : Program.cellsOf Tryd.prog 11 = 1 := by kernel_rfl
theorem b11 : Program.bytesOf Tryd.prog 11 = 16 := by kernel_rfl
theorem k11 : Tk Tryd.prog 11 = some false := by kernel_rfl
theorem z11 : Tzero Tryd.prog 11 = some [.str ⟨#[]⟩] := by kernel_rfl
theorem a11 : TzeroA Tryd.prog 11 = some [.dv (.d (.str ⟨#[]⟩))] := by kernel_rfl
theorem o11 : Tone Tryd.prog 11 = some (.str ⟨#[]⟩, 16) := by kernel_rfl
theorem c12 : Program.cellsOf Tryd.prog 12 = 1 := by kernel_rfl
theorem b12 : Program.bytesOf Tryd.prog 12 = 8 := by kernel_rfl
theorem k12 : Tk Tryd.prog 12 = some false := by kernel_rfl
theorem z12 : Tzero Tryd.prog 12 = some [.int .u64 0] := by kernel_rfl
theorem a12 : TzeroA Tryd.prog 12 = some [.dv (.d (.int .u64 0))] := by kernel_rfl
theorem o12 : Tone Tryd.prog 12 = some (.int .u64 0, 8) := by kernel_rfl
theorem c13 : Program.cellsOf Tryd.prog 13 = 2 := by kernel_rfl
theorem b13 : Program.bytesOf Tryd.prog 13 = 24 := by kernel_rfl
theorem k13 : Tk Tryd.prog 13 = some true := by kernel_rfl
theorem z13 : Tzero Tryd.prog 13 = some [.str ⟨#[]⟩, .int .u64 0] := by kernel_rfl
theorem a13 : TzeroA Tryd.prog 13 = some [.dv (.d (.str ⟨#[]⟩)), .dv (.d (.int .u64 0))] := by kernel_rfl
theorem f13_0 : Tfld Tryd.prog 13 0 = some (0, 9) := by kernel_rfl
theorem f13_1 : Tfld Tryd.prog 13 1 = some (1, 12) := by kernel_rfl
theorem p13 : Tplc Tryd.prog 13 = some [(0, 1), (1, 1)] := by kernel_rfl
theorem c14 : Program.cellsOf Tryd.prog 14 = 2 := by kernel_rfl
theorem b14 : Program.bytesOf Tryd.prog 14 = 24 := by kernel_rfl
theorem k14 : Tk Tryd.prog 14 = some true := by kernel_rfl
theorem z14 : Tzero Tryd.prog 14 = some [.str ⟨#[]⟩, .int .u64 0] := by kernel_rfl
theorem a14 : TzeroA Tryd.prog 14 = some [.dv (.d (.str ⟨#[]⟩)), .dv (.d (.int .u64 0))] := by kernel_rfl
theorem f14_0 : Tfld Tryd.prog 14 0 = some (0, 9) := by kernel_rfl
theorem f14_1 : Tfld Tryd.prog 14 1 = some (1, 12) := by kernel_rfl
theorem p14 : Tplc Tryd.prog 14 = some [(0, 1), (1, 1)] := by kernel_rfl
theorem c15 : Program.cellsOf Tryd.prog 15 = 1 := by kernel_rfl
theorem b15 : Program.bytesOf Tryd.prog 15 = 8 := by kernel_rfl
theorem k15 : Tk Tryd.prog 15 = some false := by kernel_rfl
theorem c16 : Program.cellsOf Tryd.prog 16 = 1 := by kernel_rfl
theorem b16 : Program.bytesOf Tryd.prog 16 = 8 := by kernel_rfl
theorem k16 : Tk Tryd.prog 16 = some false := by kernel_rfl
theorem c17 : Program.cellsOf Tryd.prog 17 = 1 := by kernel_rfl
theorem b17 : Program.bytesOf Tryd.prog 17 = 8 := by kernel_rfl
theorem k17 : Tk Tryd.prog 17 = some false := by kernel_rfl
theorem c18 : Program.cellsOf Tryd.prog 18 = 1 := by kernel_rfl
theorem b18 : Program.bytesOf Tryd.prog 18 = 8 := by kernel_rfl
theorem k18 : Tk Tryd.prog 18 = some true := by kernel_rfl
theorem f18_0 : Tfld Tryd.prog 18 0 = some (0, 17) := by kernel_rfl
theorem p18 : Tplc Tryd.prog 18 = some [(0, 1)] := by kernel_rfl
theorem c19 : Program.cellsOf Tryd.prog 19 = 1 := by kernel_rfl
theorem b19 : Program.bytesOf Tryd.prog 19 = 8 := by kernel_rfl
theorem k19 : Tk Tryd.prog 19 = some true := by kernel_rfl
theorem f19_0 : Tfld Tryd.prog 19 0 = some (0, 17) := by kernel_rfl
theorem p19 : Tplc Tryd.prog 19 = some [(0, 1)] := by kernel_rfl
theorem c20 : Program.cellsOf Tryd.prog 20 = 1 := by kernel_rfl
theorem b20 : Program.bytesOf Tryd.prog 20 = 16 := by kernel_rfl
theorem k20 : Tk Tryd.prog 20 = some false := by kernel_rfl
theorem c21 : Program.cellsOf Tryd.prog 21 = 1 := by kernel_rfl
theorem b21 : Program.bytesOf Tryd.prog 21 = 4 := by kernel_rfl
theorem k21 : Tk Tryd.prog 21 = some false := by kernel_rfl
theorem z21 : Tzero Tryd.prog 21 = some [.int .i32 0] := by kernel_rfl
theorem a21 : TzeroA Tryd.prog 21 = some [.dv (.d (.int .i32 0))] := by kernel_rfl
theorem o21 : Tone Tryd.prog 21 = some (.int .i32 0, 4) := by kernel_rfl
theorem c22 : Program.cellsOf Tryd.prog 22 = 1 := by kernel_rfl
theorem b22 : Program.bytesOf Tryd.prog 22 = 24 := by kernel_rfl
theorem k22 : Tk Tryd.prog 22 = some false := by kernel_rfl
theorem z22 : Tzero Tryd.prog 22 = some [.sl []] := by kernel_rfl
theorem a22 : TzeroA Tryd.prog 22 = some [.nil] := by kernel_rfl
theorem o22 : Tone Tryd.prog 22 = some (.sl [], 24) := by kernel_rfl
theorem c23 : Program.cellsOf Tryd.prog 23 = 1 := by kernel_rfl
theorem b23 : Program.bytesOf Tryd.prog 23 = 8 := by kernel_rfl
theorem k23 : Tk Tryd.prog 23 = some false := by kernel_rfl
theorem c24 : Program.cellsOf Tryd.prog 24 = 2 := by kernel_rfl
theorem b24 : Program.bytesOf Tryd.prog 24 = 32 := by kernel_rfl
theorem k24 : Tk Tryd.prog 24 = some true := by kernel_rfl
theorem z24 : Tzero Tryd.prog 24 = some [.sl [], .int .i64 0] := by kernel_rfl
theorem a24 : TzeroA Tryd.prog 24 = some [.nil, .dv (.d (.int .i64 0))] := by kernel_rfl
theorem f24_0 : Tfld Tryd.prog 24 0 = some (0, 22) := by kernel_rfl
theorem f24_1 : Tfld Tryd.prog 24 1 = some (1, 3) := by kernel_rfl
theorem p24 : Tplc Tryd.prog 24 = some [(0, 1), (1, 1)] := by kernel_rfl
theorem c25 : Program.cellsOf Tryd.prog 25 = 2 := by kernel_rfl
theorem b25 : Program.bytesOf Tryd.prog 25 = 32 := by kernel_rfl
theorem k25 : Tk Tryd.prog 25 = some true := by kernel_rfl
theorem z25 : Tzero Tryd.prog 25 = some [.sl [], .int .i64 0] := by kernel_rfl
theorem a25 : TzeroA Tryd.prog 25 = some [.nil, .dv (.d (.int .i64 0))] := by kernel_rfl
theorem f25_0 : Tfld Tryd.prog 25 0 = some (0, 22) := by kernel_rfl
theorem f25_1 : Tfld Tryd.prog 25 1 = some (1, 3) := by kernel_rfl
theorem p25 : Tplc Tryd.prog 25 = some [(0, 1), (1, 1)] := by kernel_rfl
theorem c26 : Program.cellsOf Tryd.prog 26 = 1 := by kernel_rfl
theorem b26 : Program.bytesOf Tryd.prog 26 = 8 := by kernel_rfl
theorem k26 : Tk Tryd.prog 26 = some false := by kernel_rfl
theorem c27 : Program.cellsOf Tryd.prog 27 = 1 := by kernel_rfl
theorem b27 : Program.bytesOf Tryd.prog 27 = 8 := by kernel_rfl
theorem k27 : Tk Tryd.prog 27 = some false := by kernel_rfl
theorem c28 : Program.cellsOf Tryd.prog 28 = 1 := by kernel_rfl
theorem b28 : Program.bytesOf Tryd.prog 28 = 8 := by kernel_rfl
theorem k28 : Tk Tryd.prog 28 = some false := by kernel_rfl
theorem c29 : Program.cellsOf Tryd.prog 29 = 1 := by kernel_rfl
theorem b29 : Program.bytesOf Tryd.prog 29 = 8 := by kernel_rfl
theorem k29 : Tk Tryd.prog 29 = some false := by kernel_rfl
theorem c30 : Program.cellsOf Tryd.prog 30 = 1 := by kernel_rfl
theorem b30 : Program.bytesOf Tryd.prog 30 = 24 := by kernel_rfl
theorem k30 : Tk Tryd.prog 30 = some false := by kernel_rfl
theorem z30 : Tzero Tryd.prog 30 = some [.sl []] := by kernel_rfl
theorem a30 : TzeroA Tryd.prog 30 = some [.nil] := by kernel_rfl
theorem o30 : Tone Tryd.prog 30 = some (.sl [], 24) := by kernel_rfl
theorem c31 : Program.cellsOf Tryd.prog 31 = 1 := by kernel_rfl
theorem b31 : Program.bytesOf Tryd.prog 31 = 8 := by kernel_rfl
theorem k31 : Tk Tryd.prog 31 = some false := by kernel_rfl
theorem z31 : Tzero Tryd.prog 31 = some [.int .i64 0] := by kernel_rfl
theorem a31 : TzeroA Tryd.prog 31 = some [.dv (.d (.int .i64 0))] := by kernel_rfl
theorem o31 : Tone Tryd.prog 31 = some (.int .i64 0, 8) := by kernel_rfl
theorem c32 : Program.cellsOf Tryd.prog 32 = 1 := by kernel_rfl
theorem b32 : Program.bytesOf Tryd.prog 32 = 0 := by kernel_rfl
theorem k32 : Tk Tryd.prog 32 = some false := by kernel_rfl
theorem c33 : Program.cellsOf Tryd.prog 33 = 1 := by kernel_rfl
theorem b33 : Program.bytesOf Tryd.prog 33 = 8 := by kernel_rfl
theorem k33 : Tk Tryd.prog 33 = some false := by kernel_rfl
theorem c34 : Program.cellsOf Tryd.prog 34 = 1 := by kernel_rfl
theorem b34 : Program.bytesOf Tryd.prog 34 = 0 := by kernel_rfl
theorem k34 : Tk Tryd.prog 34 = some false := by kernel_rfl
theorem c35 : Program.cellsOf Tryd.prog 35 = 1 := by kernel_rfl
theorem b35 : Program.bytesOf Tryd.prog 35 = 8 := by kernel_rfl
theorem k35 : Tk Tryd.prog 35 = some false := by kernel_rfl
theorem c36 : Program.cellsOf Tryd.prog 36 = 1 := by kernel_rfl
theorem b36 : Program.bytesOf Tryd.prog 36 = 8 := by kernel_rfl
theorem k36 : Tk Tryd.prog 36 = some false := by kernel_rfl
theorem c37 : Program.cellsOf Tryd.prog 37 = 1 := by kernel_rfl
theorem b37 : Program.bytesOf Tryd.prog 37 = 8 := by kernel_rfl
theorem k37 : Tk Tryd.prog 37 = some false := by kernel_rfl
theorem c38 : Program.cellsOf Tryd.prog 38 = 1 := by kernel_rfl
theorem b38 : Program.bytesOf Tryd.prog 38 = 8 := by kernel_rfl
theorem k38 : Tk Tryd.prog 38 = some false := by kernel_rfl
theorem c39 : Program.cellsOf Tryd.prog 39 = 1 := by kernel_rfl
theorem b39 : Program.bytesOf Tryd.prog 39 = 8 := by kernel_rfl
theorem k39 : Tk Tryd.prog 39 = some false := by kernel_rfl
theorem c40 : Program.cellsOf Tryd.prog 40 = 1 := by kernel_rfl
theorem b40 : Program.bytesOf Tryd.prog 40 = 0 := by kernel_rfl
theorem k40 : Tk Tryd.prog 40 = some false := by kernel_rfl
theorem c41 : Program.cellsOf Tryd.prog 41 = 1 := by kernel_rfl
theorem b41 : Program.bytesOf Tryd.prog 41 = 8 := by kernel_rfl
theorem k41 : Tk Tryd.prog 41 = some false := by kernel_rfl
theorem c42 : Program.cellsOf Tryd.prog 42 = 1 := by kernel_rfl
theorem b42 : Program.bytesOf Tryd.prog 42 = 8 := by kernel_rfl
theorem k42 : Tk Tryd.prog 42 = some false := by kernel_rfl
theorem c43 : Program.cellsOf Tryd.prog 43 = 1 := by kernel_rfl
theorem b43 : Program.bytesOf Tryd.prog 43 = 8 := by kernel_rfl
theorem k43 : Tk Tryd.prog 43 = some false := by kernel_rfl
theorem c44 : Program.cellsOf Tryd.prog 44 = 1 := by kernel_rfl
theorem b44 : Program.bytesOf Tryd.prog 44 = 24 := by kernel_rfl
theorem k44 : Tk Tryd.prog 44 = some false := by kernel_rfl
theorem z44 : Tzero Tryd.prog 44 = some [.sl []] := by kernel_rfl
theorem a44 : TzeroA Tryd.prog 44 = some [.nil] := by kernel_rfl
theorem o44 : Tone Tryd.prog 44 = some (.sl [], 24) := by kernel_rfl
theorem c45 : Program.cellsOf Tryd.prog 45 = 1 := by kernel_rfl
theorem b45 : Program.bytesOf Tryd.prog 45 = 24 := by kernel_rfl
theorem k45 : Tk Tryd.prog 45 = some false := by kernel_rfl
theorem z45 : Tzero Tryd.prog 45 = some [.sl []] := by kernel_rfl
theorem a45 : TzeroA Tryd.prog 45 = some [.nil] := by kernel_rfl
theorem o45 : Tone Tryd.prog 45 = some (.sl [], 24) := by kernel_rfl
theorem c46 : Program.cellsOf Tryd.prog 46 = 7 := by kernel_rfl
theorem b46 : Program.bytesOf Tryd.prog 46 = 136 := by kernel_rfl
theorem k46 : Tk Tryd.prog 46 = some true := by kernel_rfl
theorem z46 : Tzero Tryd.prog 46 = some [.sl [], .int .i64 0, .int .i64 0, .sl [], .sl [], .sl [], .sl []] := by kernel_rfl
theorem a46 : TzeroA Tryd.prog 46 = some [.nil, .dv (.d (.int .i64 0)), .dv (.d (.int .i64 0)), .nil, .nil, .nil, .nil] := by kernel_rfl
theorem f46_0 : Tfld Tryd.prog 46 0 = some (0, 22) := by kernel_rfl
theorem f46_1 : Tfld Tryd.prog 46 1 = some (1, 3) := by kernel_rfl
theorem f46_2 : Tfld Tryd.prog 46 2 = some (2, 3) := by kernel_rfl
theorem f46_3 : Tfld Tryd.prog 46 3 = some (3, 30) := by kernel_rfl
theorem f46_4 : Tfld Tryd.prog 46 4 = some (4, 44) := by kernel_rfl
theorem f46_5 : Tfld Tryd.prog 46 5 = some (5, 45) := by kernel_rfl
theorem f46_6 : Tfld Tryd.prog 46 6 = some (6, 22) := by kernel_rfl
theorem p46 : Tplc Tryd.prog 46 = some [(0, 1), (1, 1), (2, 1), (3, 1), (4, 1), (5, 1), (6, 1)] := by kernel_rfl
theorem c47 : Program.cellsOf Tryd.prog 47 = 7 := by kernel_rfl
theorem b47 : Program.bytesOf Tryd.prog 47 = 136 := by kernel_rfl
theorem k47 : Tk Tryd.prog 47 = some true := by kernel_rfl
theorem z47 : Tzero Tryd.prog 47 = some [.sl [], .int .i64 0, .int .i64 0, .sl [], .sl [], .sl [], .sl []] := by kernel_rfl
theorem a47 : TzeroA Tryd.prog 47 = some [.nil, .dv (.d (.int .i64 0)), .dv (.d (.int .i64 0)), .nil, .nil, .nil, .nil] := by kernel_rfl
theorem f47_0 : Tfld Tryd.prog 47 0 = some (0, 22) := by kernel_rfl
theorem f47_1 : Tfld Tryd.prog 47 1 = some (1, 3) := by kernel_rfl
theorem f47_2 : Tfld Tryd.prog 47 2 = some (2, 3) := by kernel_rfl
theorem f47_3 : Tfld Tryd.prog 47 3 = some (3, 30) := by kernel_rfl
theorem f47_4 : Tfld Tryd.prog 47 4 = some (4, 44) := by kernel_rfl
theorem f47_5 : Tfld Tryd.prog 47 5 = some (5, 45) := by kernel_rfl
theorem f47_6 : Tfld Tryd.prog 47 6 = some (6, 22) := by kernel_rfl
theorem p47 : Tplc Tryd.prog 47 = some [(0, 1), (1, 1), (2, 1), (3, 1), (4, 1), (5, 1), (6, 1)] := by kernel_rfl
theorem c48 : Program.cellsOf Tryd.prog 48 = 1 := by kernel_rfl
theorem b48 : Program.bytesOf Tryd.prog 48 = 8 := by kernel_rfl
theorem k48 : Tk Tryd.prog 48 = some false := by kernel_rfl
theorem c49 : Program.cellsOf Tryd.prog 49 = 1 := by kernel_rfl
theorem b49 : Program.bytesOf Tryd.prog 49 = 8 := by kernel_rfl
theorem k49 : Tk Tryd.prog 49 = some false := by kernel_rfl
theorem c50 : Program.cellsOf Tryd.prog 50 = 5 := by kernel_rfl
theorem b50 : Program.bytesOf Tryd.prog 50 = 64 := by kernel_rfl
theorem k50 : Tk Tryd.prog 50 = some true := by kernel_rfl
theorem z50 : Tzero Tryd.prog 50 = some [.str ⟨#[]⟩, .int .i64 0, .int .i64 0, .int .i64 0, .sl []] := by kernel_rfl
theorem a50 : TzeroA Tryd.prog 50 = some [.dv (.d (.str ⟨#[]⟩)), .dv (.d (.int .i64 0)), .dv (.d (.int .i64 0)), .dv (.d (.int .i64 0)), .nil] := by kernel_rfl
theorem f50_0 : Tfld Tryd.prog 50 0 = some (0, 9) := by kernel_rfl
theorem f50_1 : Tfld Tryd.prog 50 1 = some (1, 3) := by kernel_rfl
theorem f50_2 : Tfld Tryd.prog 50 2 = some (2, 3) := by kernel_rfl
theorem f50_3 : Tfld Tryd.prog 50 3 = some (3, 3) := by kernel_rfl
theorem f50_4 : Tfld Tryd.prog 50 4 = some (4, 22) := by kernel_rfl
theorem p50 : Tplc Tryd.prog 50 = some [(0, 1), (1, 1), (2, 1), (3, 1), (4, 1)] := by kernel_rfl
theorem c51 : Program.cellsOf Tryd.prog 51 = 5 := by kernel_rfl
theorem b51 : Program.bytesOf Tryd.prog 51 = 64 := by kernel_rfl
theorem k51 : Tk Tryd.prog 51 = some true := by kernel_rfl
theorem z51 : Tzero Tryd.prog 51 = some [.str ⟨#[]⟩, .int .i64 0, .int .i64 0, .int .i64 0, .sl []] := by kernel_rfl
theorem a51 : TzeroA Tryd.prog 51 = some [.dv (.d (.str ⟨#[]⟩)), .dv (.d (.int .i64 0)), .dv (.d (.int .i64 0)), .dv (.d (.int .i64 0)), .nil] := by kernel_rfl
theorem f51_0 : Tfld Tryd.prog 51 0 = some (0, 9) := by kernel_rfl
theorem f51_1 : Tfld Tryd.prog 51 1 = some (1, 3) := by kernel_rfl
theorem f51_2 : Tfld Tryd.prog 51 2 = some (2, 3) := by kernel_rfl
theorem f51_3 : Tfld Tryd.prog 51 3 = some (3, 3) := by kernel_rfl
theorem f51_4 : Tfld Tryd.prog 51 4 = some (4, 22) := by kernel_rfl
theorem p51 : Tplc Tryd.prog 51 = some [(0, 1), (1, 1), (2, 1), (3, 1), (4, 1)] := by kernel_rfl
theorem c52 : Program.cellsOf Tryd.prog 52 = 1 := by kernel_rfl
theorem b52 : Program.bytesOf Tryd.prog 52 = 8 := by kernel_rfl
theorem k52 : Tk Tryd.prog 52 = some false := by kernel_rfl
theorem c53 : Program.cellsOf Tryd.prog 53 = 1 := by kernel_rfl
theorem b53 : Program.bytesOf Tryd.prog 53 = 8 := by kernel_rfl
theorem k53 : Tk Tryd.prog 53 = some false := by kernel_rfl
theorem c54 : Program.cellsOf Tryd.prog 54 = 1 := by kernel_rfl
theorem b54 : Program.bytesOf Tryd.prog 54 = 8 := by kernel_rfl
theorem k54 : Tk Tryd.prog 54 = some false := by kernel_rfl
theorem c55 : Program.cellsOf Tryd.prog 55 = 5 := by kernel_rfl
theorem b55 : Program.bytesOf Tryd.prog 55 = 40 := by kernel_rfl
theorem k55 : Tk Tryd.prog 55 = some true := by kernel_rfl
theorem z55 : Tzero Tryd.prog 55 = some [.int .i64 0, .int .i64 0, .int .i64 0, .int .i64 0, .int .i64 0] := by kernel_rfl
theorem a55 : TzeroA Tryd.prog 55 = some [.dv (.d (.int .i64 0)), .dv (.d (.int .i64 0)), .dv (.d (.int .i64 0)), .dv (.d (.int .i64 0)), .dv (.d (.int .i64 0))] := by kernel_rfl
theorem p55 : Tplc Tryd.prog 55 = some [(0, 1), (1, 1), (2, 1), (3, 1), (4, 1)] := by kernel_rfl
theorem c56 : Program.cellsOf Tryd.prog 56 = 1 := by kernel_rfl
theorem b56 : Program.bytesOf Tryd.prog 56 = 8 := by kernel_rfl
theorem k56 : Tk Tryd.prog 56 = some false := by kernel_rfl
theorem c57 : Program.cellsOf Tryd.prog 57 = 1 := by kernel_rfl
theorem b57 : Program.bytesOf Tryd.prog 57 = 8 := by kernel_rfl
theorem k57 : Tk Tryd.prog 57 = some false := by kernel_rfl
theorem c58 : Program.cellsOf Tryd.prog 58 = 1 := by kernel_rfl
theorem b58 : Program.bytesOf Tryd.prog 58 = 8 := by kernel_rfl
theorem k58 : Tk Tryd.prog 58 = some false := by kernel_rfl
theorem c59 : Program.cellsOf Tryd.prog 59 = 1 := by kernel_rfl
theorem b59 : Program.bytesOf Tryd.prog 59 = 8 := by kernel_rfl
theorem k59 : Tk Tryd.prog 59 = some false := by kernel_rfl
theorem c60 : Program.cellsOf Tryd.prog 60 = 1 := by kernel_rfl
theorem b60 : Program.bytesOf Tryd.prog 60 = 24 := by kernel_rfl
theorem k60 : Tk Tryd.prog 60 = some false := by kernel_rfl
theorem z60 : Tzero Tryd.prog 60 = some [.sl []] := by kernel_rfl
theorem a60 : TzeroA Tryd.prog 60 = some [.nil] := by kernel_rfl
theorem o60 : Tone Tryd.prog 60 = some (.sl [], 24) := by kernel_rfl
theorem c61 : Program.cellsOf Tryd.prog 61 = 2 := by kernel_rfl
theorem b61 : Program.bytesOf Tryd.prog 61 = 40 := by kernel_rfl
theorem k61 : Tk Tryd.prog 61 = some true := by kernel_rfl
theorem z61 : Tzero Tryd.prog 61 = some [.str ⟨#[]⟩, .sl []] := by kernel_rfl
theorem a61 : TzeroA Tryd.prog 61 = some [.dv (.d (.str ⟨#[]⟩)), .nil] := by kernel_rfl
theorem f61_0 : Tfld Tryd.prog 61 0 = some (0, 9) := by kernel_rfl
theorem f61_1 : Tfld Tryd.prog 61 1 = some (1, 60) := by kernel_rfl
theorem p61 : Tplc Tryd.prog 61 = some [(0, 1), (1, 1)] := by kernel_rfl
theorem c62 : Program.cellsOf Tryd.prog 62 = 2 := by kernel_rfl
theorem b62 : Program.bytesOf Tryd.prog 62 = 40 := by kernel_rfl
theorem k62 : Tk Tryd.prog 62 = some true := by kernel_rfl
theorem z62 : Tzero Tryd.prog 62 = some [.str ⟨#[]⟩, .sl []] := by kernel_rfl
theorem a62 : TzeroA Tryd.prog 62 = some [.dv (.d (.str ⟨#[]⟩)), .nil] := by kernel_rfl
theorem f62_0 : Tfld Tryd.prog 62 0 = some (0, 9) := by kernel_rfl
theorem f62_1 : Tfld Tryd.prog 62 1 = some (1, 60) := by kernel_rfl
theorem p62 : Tplc Tryd.prog 62 = some [(0, 1), (1, 1)] := by kernel_rfl
theorem c63 : Program.cellsOf Tryd.prog 63 = 1 := by kernel_rfl
theorem b63 : Program.bytesOf Tryd.prog 63 = 8 := by kernel_rfl
theorem k63 : Tk Tryd.prog 63 = some false := by kernel_rfl
theorem c64 : Program.cellsOf Tryd.prog 64 = 1 := by kernel_rfl
theorem b64 : Program.bytesOf Tryd.prog 64 = 0 := by kernel_rfl
theorem k64 : Tk Tryd.prog 64 = some false := by kernel_rfl
theorem c65 : Program.cellsOf Tryd.prog 65 = 1 := by kernel_rfl
theorem b65 : Program.bytesOf Tryd.prog 65 = 8 := by kernel_rfl
theorem k65 : Tk Tryd.prog 65 = some false := by kernel_rfl
theorem c66 : Program.cellsOf Tryd.prog 66 = 1 := by kernel_rfl
theorem b66 : Program.bytesOf Tryd.prog 66 = 8 := by kernel_rfl
theorem k66 : Tk Tryd.prog 66 = some false := by kernel_rfl
theorem c67 : Program.cellsOf Tryd.prog 67 = 1 := by kernel_rfl
theorem b67 : Program.bytesOf Tryd.prog 67 = 8 := by kernel_rfl
theorem k67 : Tk Tryd.prog 67 = some false := by kernel_rfl
theorem c68 : Program.cellsOf Tryd.prog 68 = 1 := by kernel_rfl
theorem b68 : Program.bytesOf Tryd.prog 68 = 8 := by kernel_rfl
theorem k68 : Tk Tryd.prog 68 = some false := by kernel_rfl
theorem c69 : Program.cellsOf Tryd.prog 69 = 1 := by kernel_rfl
theorem b69 : Program.bytesOf Tryd.prog 69 = 8 := by kernel_rfl
theorem k69 : Tk Tryd.prog 69 = some false := by kernel_rfl
theorem c70 : Program.cellsOf Tryd.prog 70 = 3 := by kernel_rfl
theorem b70 : Program.bytesOf Tryd.prog 70 = 32 := by kernel_rfl
theorem k70 : Tk Tryd.prog 70 = some true := by kernel_rfl
theorem z70 : Tzero Tryd.prog 70 = some [.int .i64 0, .str ⟨#[]⟩, .int .i64 0] := by kernel_rfl
theorem a70 : TzeroA Tryd.prog 70 = some [.dv (.d (.int .i64 0)), .dv (.d (.str ⟨#[]⟩)), .dv (.d (.int .i64 0))] := by kernel_rfl
theorem f70_0 : Tfld Tryd.prog 70 0 = some (0, 3) := by kernel_rfl
theorem f70_1 : Tfld Tryd.prog 70 1 = some (1, 9) := by kernel_rfl
theorem f70_2 : Tfld Tryd.prog 70 2 = some (2, 3) := by kernel_rfl
theorem p70 : Tplc Tryd.prog 70 = some [(0, 1), (1, 1), (2, 1)] := by kernel_rfl
theorem c71 : Program.cellsOf Tryd.prog 71 = 3 := by kernel_rfl
theorem b71 : Program.bytesOf Tryd.prog 71 = 32 := by kernel_rfl
theorem k71 : Tk Tryd.prog 71 = some true := by kernel_rfl
theorem z71 : Tzero Tryd.prog 71 = some [.int .i64 0, .str ⟨#[]⟩, .int .i64 0] := by kernel_rfl
theorem a71 : TzeroA Tryd.prog 71 = some [.dv (.d (.int .i64 0)), .dv (.d (.str ⟨#[]⟩)), .dv (.d (.int .i64 0))] := by kernel_rfl
theorem f71_0 : Tfld Tryd.prog 71 0 = some (0, 3) := by kernel_rfl
theorem f71_1 : Tfld Tryd.prog 71 1 = some (1, 9) := by kernel_rfl
theorem f71_2 : Tfld Tryd.prog 71 2 = some (2, 3) := by kernel_rfl
theorem p71 : Tplc Tryd.prog 71 = some [(0, 1), (1, 1), (2, 1)] := by kernel_rfl
theorem c72 : Program.cellsOf Tryd.prog 72 = 1 := by kernel_rfl
theorem b72 : Program.bytesOf Tryd.prog 72 = 8 := by kernel_rfl
theorem k72 : Tk Tryd.prog 72 = some false := by kernel_rfl
theorem c73 : Program.cellsOf Tryd.prog 73 = 1 := by kernel_rfl
theorem b73 : Program.bytesOf Tryd.prog 73 = 24 := by kernel_rfl
theorem k73 : Tk Tryd.prog 73 = some false := by kernel_rfl
theorem z73 : Tzero Tryd.prog 73 = some [.sl []] := by kernel_rfl
theorem a73 : TzeroA Tryd.prog 73 = some [.nil] := by kernel_rfl
theorem o73 : Tone Tryd.prog 73 = some (.sl [], 24) := by kernel_rfl
theorem c74 : Program.cellsOf Tryd.prog 74 = 1 := by kernel_rfl
theorem b74 : Program.bytesOf Tryd.prog 74 = 8 := by kernel_rfl
theorem k74 : Tk Tryd.prog 74 = some false := by kernel_rfl
theorem c75 : Program.cellsOf Tryd.prog 75 = 4 := by kernel_rfl
theorem b75 : Program.bytesOf Tryd.prog 75 = 48 := by kernel_rfl
theorem k75 : Tk Tryd.prog 75 = some true := by kernel_rfl
theorem z75 : Tzero Tryd.prog 75 = some [.str ⟨#[]⟩, .int .i64 0, .str ⟨#[]⟩, .int .i64 0] := by kernel_rfl
theorem a75 : TzeroA Tryd.prog 75 = some [.dv (.d (.str ⟨#[]⟩)), .dv (.d (.int .i64 0)), .dv (.d (.str ⟨#[]⟩)), .dv (.d (.int .i64 0))] := by kernel_rfl
theorem f75_0 : Tfld Tryd.prog 75 0 = some (0, 9) := by kernel_rfl
theorem f75_1 : Tfld Tryd.prog 75 1 = some (1, 71) := by kernel_rfl
theorem p75 : Tplc Tryd.prog 75 = some [(0, 1), (1, 3)] := by kernel_rfl
theorem c76 : Program.cellsOf Tryd.prog 76 = 4 := by kernel_rfl
theorem b76 : Program.bytesOf Tryd.prog 76 = 48 := by kernel_rfl
theorem k76 : Tk Tryd.prog 76 = some true := by kernel_rfl
theorem z76 : Tzero Tryd.prog 76 = some [.str ⟨#[]⟩, .int .i64 0, .str ⟨#[]⟩, .int .i64 0] := by kernel_rfl
theorem a76 : TzeroA Tryd.prog 76 = some [.dv (.d (.str ⟨#[]⟩)), .dv (.d (.int .i64 0)), .dv (.d (.str ⟨#[]⟩)), .dv (.d (.int .i64 0))] := by kernel_rfl
theorem f76_0 : Tfld Tryd.prog 76 0 = some (0, 9) := by kernel_rfl
theorem f76_1 : Tfld Tryd.prog 76 1 = some (1, 71) := by kernel_rfl
theorem p76 : Tplc Tryd.prog 76 = some [(0, 1), (1, 3)] := by kernel_rfl
theorem c77 : Program.cellsOf Tryd.prog 77 = 1 := by kernel_rfl
theorem b77 : Program.bytesOf Tryd.prog 77 = 8 := by kernel_rfl
theorem k77 : Tk Tryd.prog 77 = some false := by kernel_rfl
theorem c78 : Program.cellsOf Tryd.prog 78 = 1 := by kernel_rfl
theorem b78 : Program.bytesOf Tryd.prog 78 = 8 := by kernel_rfl
theorem k78 : Tk Tryd.prog 78 = some false := by kernel_rfl
theorem c79 : Program.cellsOf Tryd.prog 79 = 1 := by kernel_rfl
theorem b79 : Program.bytesOf Tryd.prog 79 = 24 := by kernel_rfl
theorem k79 : Tk Tryd.prog 79 = some false := by kernel_rfl
theorem z79 : Tzero Tryd.prog 79 = some [.sl []] := by kernel_rfl
theorem a79 : TzeroA Tryd.prog 79 = some [.nil] := by kernel_rfl
theorem o79 : Tone Tryd.prog 79 = some (.sl [], 24) := by kernel_rfl
theorem c80 : Program.cellsOf Tryd.prog 80 = 1 := by kernel_rfl
theorem b80 : Program.bytesOf Tryd.prog 80 = 8 := by kernel_rfl
theorem k80 : Tk Tryd.prog 80 = some false := by kernel_rfl
theorem c81 : Program.cellsOf Tryd.prog 81 = 1 := by kernel_rfl
theorem b81 : Program.bytesOf Tryd.prog 81 = 8 := by kernel_rfl
theorem k81 : Tk Tryd.prog 81 = some false := by kernel_rfl
theorem c82 : Program.cellsOf Tryd.prog 82 = 1 := by kernel_rfl
theorem b82 : Program.bytesOf Tryd.prog 82 = 8 := by kernel_rfl
theorem k82 : Tk Tryd.prog 82 = some false := by kernel_rfl
theorem c83 : Program.cellsOf Tryd.prog 83 = 1 := by kernel_rfl
theorem b83 : Program.bytesOf Tryd.prog 83 = 8 := by kernel_rfl
theorem k83 : Tk Tryd.prog 83 = some false := by kernel_rfl
theorem c84 : Program.cellsOf Tryd.prog 84 = 2 := by kernel_rfl
theorem b84 : Program.bytesOf Tryd.prog 84 = 24 := by kernel_rfl
theorem k84 : Tk Tryd.prog 84 = some true := by kernel_rfl
theorem z84 : Tzero Tryd.prog 84 = some [.int .i64 0, .str ⟨#[]⟩] := by kernel_rfl
theorem a84 : TzeroA Tryd.prog 84 = some [.dv (.d (.int .i64 0)), .dv (.d (.str ⟨#[]⟩))] := by kernel_rfl
theorem f84_0 : Tfld Tryd.prog 84 0 = some (0, 3) := by kernel_rfl
theorem f84_1 : Tfld Tryd.prog 84 1 = some (1, 9) := by kernel_rfl
theorem p84 : Tplc Tryd.prog 84 = some [(0, 1), (1, 1)] := by kernel_rfl
theorem c85 : Program.cellsOf Tryd.prog 85 = 2 := by kernel_rfl
theorem b85 : Program.bytesOf Tryd.prog 85 = 24 := by kernel_rfl
theorem k85 : Tk Tryd.prog 85 = some true := by kernel_rfl
theorem z85 : Tzero Tryd.prog 85 = some [.int .i64 0, .str ⟨#[]⟩] := by kernel_rfl
theorem a85 : TzeroA Tryd.prog 85 = some [.dv (.d (.int .i64 0)), .dv (.d (.str ⟨#[]⟩))] := by kernel_rfl
theorem f85_0 : Tfld Tryd.prog 85 0 = some (0, 3) := by kernel_rfl
theorem f85_1 : Tfld Tryd.prog 85 1 = some (1, 9) := by kernel_rfl
theorem p85 : Tplc Tryd.prog 85 = some [(0, 1), (1, 1)] := by kernel_rfl
theorem c86 : Program.cellsOf Tryd.prog 86 = 1 := by kernel_rfl
theorem b86 : Program.bytesOf Tryd.prog 86 = 8 := by kernel_rfl
theorem k86 : Tk Tryd.prog 86 = some false := by kernel_rfl
theorem c87 : Program.cellsOf Tryd.prog 87 = 1 := by kernel_rfl
theorem b87 : Program.bytesOf Tryd.prog 87 = 8 := by kernel_rfl
theorem k87 : Tk Tryd.prog 87 = some false := by kernel_rfl
theorem c88 : Program.cellsOf Tryd.prog 88 = 1 := by kernel_rfl
theorem b88 : Program.bytesOf Tryd.prog 88 = 8 := by kernel_rfl
theorem k88 : Tk Tryd.prog 88 = some false := by kernel_rfl
theorem c89 : Program.cellsOf Tryd.prog 89 = 1 := by kernel_rfl
theorem b89 : Program.bytesOf Tryd.prog 89 = 0 := by kernel_rfl
theorem k89 : Tk Tryd.prog 89 = some false := by kernel_rfl
theorem c90 : Program.cellsOf Tryd.prog 90 = 1 := by kernel_rfl
theorem b90 : Program.bytesOf Tryd.prog 90 = 8 := by kernel_rfl
theorem k90 : Tk Tryd.prog 90 = some false := by kernel_rfl
theorem c91 : Program.cellsOf Tryd.prog 91 = 1 := by kernel_rfl
theorem b91 : Program.bytesOf Tryd.prog 91 = 0 := by kernel_rfl
theorem k91 : Tk Tryd.prog 91 = some false := by kernel_rfl
theorem c92 : Program.cellsOf Tryd.prog 92 = 1 := by kernel_rfl
theorem b92 : Program.bytesOf Tryd.prog 92 = 8 := by kernel_rfl
theorem k92 : Tk Tryd.prog 92 = some false := by kernel_rfl
theorem c93 : Program.cellsOf Tryd.prog 93 = 1 := by kernel_rfl
theorem b93 : Program.bytesOf Tryd.prog 93 = 8 := by kernel_rfl
theorem k93 : Tk Tryd.prog 93 = some false := by kernel_rfl
theorem c94 : Program.cellsOf Tryd.prog 94 = 1 := by kernel_rfl
theorem b94 : Program.bytesOf Tryd.prog 94 = 24 := by kernel_rfl
theorem k94 : Tk Tryd.prog 94 = some false := by kernel_rfl
theorem z94 : Tzero Tryd.prog 94 = some [.sl []] := by kernel_rfl
theorem a94 : TzeroA Tryd.prog 94 = some [.nil] := by kernel_rfl
theorem o94 : Tone Tryd.prog 94 = some (.sl [], 24) := by kernel_rfl
theorem c95 : Program.cellsOf Tryd.prog 95 = 2 := by kernel_rfl
theorem b95 : Program.bytesOf Tryd.prog 95 = 32 := by kernel_rfl
theorem k95 : Tk Tryd.prog 95 = some true := by kernel_rfl
theorem f95_0 : Tfld Tryd.prog 95 0 = some (0, 93) := by kernel_rfl
theorem f95_1 : Tfld Tryd.prog 95 1 = some (1, 94) := by kernel_rfl
theorem p95 : Tplc Tryd.prog 95 = some [(0, 1), (1, 1)] := by kernel_rfl
theorem c96 : Program.cellsOf Tryd.prog 96 = 2 := by kernel_rfl
theorem b96 : Program.bytesOf Tryd.prog 96 = 32 := by kernel_rfl
theorem k96 : Tk Tryd.prog 96 = some true := by kernel_rfl
theorem f96_0 : Tfld Tryd.prog 96 0 = some (0, 93) := by kernel_rfl
theorem f96_1 : Tfld Tryd.prog 96 1 = some (1, 94) := by kernel_rfl
theorem p96 : Tplc Tryd.prog 96 = some [(0, 1), (1, 1)] := by kernel_rfl
theorem c97 : Program.cellsOf Tryd.prog 97 = 1 := by kernel_rfl
theorem b97 : Program.bytesOf Tryd.prog 97 = 16 := by kernel_rfl
theorem k97 : Tk Tryd.prog 97 = some false := by kernel_rfl
theorem c98 : Program.cellsOf Tryd.prog 98 = 1 := by kernel_rfl
theorem b98 : Program.bytesOf Tryd.prog 98 = 16 := by kernel_rfl
theorem k98 : Tk Tryd.prog 98 = some false := by kernel_rfl
theorem c99 : Program.cellsOf Tryd.prog 99 = 1 := by kernel_rfl
theorem b99 : Program.bytesOf Tryd.prog 99 = 8 := by kernel_rfl
theorem k99 : Tk Tryd.prog 99 = some false := by kernel_rfl
theorem c100 : Program.cellsOf Tryd.prog 100 = 1 := by kernel_rfl
theorem b100 : Program.bytesOf Tryd.prog 100 = 0 := by kernel_rfl
theorem k100 : Tk Tryd.prog 100 = some false := by kernel_rfl
theorem c101 : Program.cellsOf Tryd.prog 101 = 1 := by kernel_rfl
theorem b101 : Program.bytesOf Tryd.prog 101 = 8 := by kernel_rfl
theorem k101 : Tk Tryd.prog 101 = some false := by kernel_rfl
theorem c102 : Program.cellsOf Tryd.prog 102 = 1 := by kernel_rfl
theorem b102 : Program.bytesOf Tryd.prog 102 = 8 := by kernel_rfl
theorem k102 : Tk Tryd.prog 102 = some false := by kernel_rfl
theorem c103 : Program.cellsOf Tryd.prog 103 = 1 := by kernel_rfl
theorem b103 : Program.bytesOf Tryd.prog 103 = 8 := by kernel_rfl
theorem k103 : Tk Tryd.prog 103 = some false := by kernel_rfl
theorem c104 : Program.cellsOf Tryd.prog 104 = 1 := by kernel_rfl
theorem b104 : Program.bytesOf Tryd.prog 104 = 0 := by kernel_rfl
theorem k104 : Tk Tryd.prog 104 = some false := by kernel_rfl
theorem c105 : Program.cellsOf Tryd.prog 105 = 1 := by kernel_rfl
theorem b105 : Program.bytesOf Tryd.prog 105 = 8 := by kernel_rfl
theorem k105 : Tk Tryd.prog 105 = some false := by kernel_rfl
theorem c106 : Program.cellsOf Tryd.prog 106 = 1 := by kernel_rfl
theorem b106 : Program.bytesOf Tryd.prog 106 = 8 := by kernel_rfl
theorem k106 : Tk Tryd.prog 106 = some false := by kernel_rfl
theorem c107 : Program.cellsOf Tryd.prog 107 = 1 := by kernel_rfl
theorem b107 : Program.bytesOf Tryd.prog 107 = 8 := by kernel_rfl
theorem k107 : Tk Tryd.prog 107 = some false := by kernel_rfl
theorem z107 : Tzero Tryd.prog 107 = some [.int .u64 0] := by kernel_rfl
theorem a107 : TzeroA Tryd.prog 107 = some [.dv (.d (.int .u64 0))] := by kernel_rfl
theorem o107 : Tone Tryd.prog 107 = some (.int .u64 0, 8) := by kernel_rfl
theorem c108 : Program.cellsOf Tryd.prog 108 = 1 := by kernel_rfl
theorem b108 : Program.bytesOf Tryd.prog 108 = 0 := by kernel_rfl
theorem k108 : Tk Tryd.prog 108 = some false := by kernel_rfl
theorem c109 : Program.cellsOf Tryd.prog 109 = 1 := by kernel_rfl
theorem b109 : Program.bytesOf Tryd.prog 109 = 8 := by kernel_rfl
theorem k109 : Tk Tryd.prog 109 = some false := by kernel_rfl
theorem c110 : Program.cellsOf Tryd.prog 110 = 1 := by kernel_rfl
theorem b110 : Program.bytesOf Tryd.prog 110 = 8 := by kernel_rfl
theorem k110 : Tk Tryd.prog 110 = some false := by kernel_rfl
theorem c111 : Program.cellsOf Tryd.prog 111 = 1 := by kernel_rfl
theorem b111 : Program.bytesOf Tryd.prog 111 = 8 := by kernel_rfl
theorem k111 : Tk Tryd.prog 111 = some false := by kernel_rfl
theorem c112 : Program.cellsOf Tryd.prog 112 = 1 := by kernel_rfl
theorem b112 : Program.bytesOf Tryd.prog 112 = 8 := by kernel_rfl
theorem k112 : Tk Tryd.prog 112 = some false := by kernel_rfl
theorem c113 : Program.cellsOf Tryd.prog 113 = 1 := by kernel_rfl
theorem b113 : Program.bytesOf Tryd.prog 113 = 24 := by kernel_rfl
theorem k113 : Tk Tryd.prog 113 = some false := by kernel_rfl
theorem z113 : Tzero Tryd.prog 113 = some [.sl []] := by kernel_rfl
theorem a113 : TzeroA Tryd.prog 113 = some [.nil] := by kernel_rfl
theorem o113 : Tone Tryd.prog 113 = some (.sl [], 24) := by kernel_rfl
theorem c114 : Program.cellsOf Tryd.prog 114 = 1 := by kernel_rfl
theorem b114 : Program.bytesOf Tryd.prog 114 = 8 := by kernel_rfl
theorem k114 : Tk Tryd.prog 114 = some false := by kernel_rfl
theorem c115 : Program.cellsOf Tryd.prog 115 = 1 := by kernel_rfl
theorem b115 : Program.bytesOf Tryd.prog 115 = 8 := by kernel_rfl
theorem k115 : Tk Tryd.prog 115 = some false := by kernel_rfl
theorem c116 : Program.cellsOf Tryd.prog 116 = 1 := by kernel_rfl
theorem b116 : Program.bytesOf Tryd.prog 116 = 24 := by kernel_rfl
theorem k116 : Tk Tryd.prog 116 = some false := by kernel_rfl
theorem z116 : Tzero Tryd.prog 116 = some [.sl []] := by kernel_rfl
theorem a116 : TzeroA Tryd.prog 116 = some [.nil] := by kernel_rfl
theorem o116 : Tone Tryd.prog 116 = some (.sl [], 24) := by kernel_rfl
theorem c117 : Program.cellsOf Tryd.prog 117 = 1 := by kernel_rfl
theorem b117 : Program.bytesOf Tryd.prog 117 = 24 := by kernel_rfl
theorem k117 : Tk Tryd.prog 117 = some false := by kernel_rfl
theorem z117 : Tzero Tryd.prog 117 = some [.sl []] := by kernel_rfl
theorem a117 : TzeroA Tryd.prog 117 = some [.nil] := by kernel_rfl
theorem o117 : Tone Tryd.prog 117 = some (.sl [], 24) := by kernel_rfl
theorem c118 : Program.cellsOf Tryd.prog 118 = 1 := by kernel_rfl
theorem b118 : Program.bytesOf Tryd.prog 118 = 8 := by kernel_rfl
theorem k118 : Tk Tryd.prog 118 = some false := by kernel_rfl
theorem c119 : Program.cellsOf Tryd.prog 119 = 4 := by kernel_rfl
theorem b119 : Program.bytesOf Tryd.prog 119 = 40 := by kernel_rfl
theorem k119 : Tk Tryd.prog 119 = some true := by kernel_rfl
theorem z119 : Tzero Tryd.prog 119 = some [.int .i64 0, .str ⟨#[]⟩, .int .i64 0, .int .i64 0] := by kernel_rfl
theorem a119 : TzeroA Tryd.prog 119 = some [.dv (.d (.int .i64 0)), .dv (.d (.str ⟨#[]⟩)), .dv (.d (.int .i64 0)), .dv (.d (.int .i64 0))] := by kernel_rfl
theorem f119_0 : Tfld Tryd.prog 119 0 = some (0, 3) := by kernel_rfl
theorem f119_1 : Tfld Tryd.prog 119 1 = some (1, 9) := by kernel_rfl
theorem f119_2 : Tfld Tryd.prog 119 2 = some (2, 3) := by kernel_rfl
theorem f119_3 : Tfld Tryd.prog 119 3 = some (3, 3) := by kernel_rfl
theorem p119 : Tplc Tryd.prog 119 = some [(0, 1), (1, 1), (2, 1), (3, 1)] := by kernel_rfl
theorem c120 : Program.cellsOf Tryd.prog 120 = 4 := by kernel_rfl
theorem b120 : Program.bytesOf Tryd.prog 120 = 40 := by kernel_rfl
theorem k120 : Tk Tryd.prog 120 = some true := by kernel_rfl
theorem z120 : Tzero Tryd.prog 120 = some [.int .i64 0, .str ⟨#[]⟩, .int .i64 0, .int .i64 0] := by kernel_rfl
theorem a120 : TzeroA Tryd.prog 120 = some [.dv (.d (.int .i64 0)), .dv (.d (.str ⟨#[]⟩)), .dv (.d (.int .i64 0)), .dv (.d (.int .i64 0))] := by kernel_rfl
theorem f120_0 : Tfld Tryd.prog 120 0 = some (0, 3) := by kernel_rfl
theorem f120_1 : Tfld Tryd.prog 120 1 = some (1, 9) := by kernel_rfl
theorem f120_2 : Tfld Tryd.prog 120 2 = some (2, 3) := by kernel_rfl
theorem f120_3 : Tfld Tryd.prog 120 3 = some (3, 3) := by kernel_rfl
theorem p120 : Tplc Tryd.prog 120 = some [(0, 1), (1, 1), (2, 1), (3, 1)] := by kernel_rfl
theorem c121 : Program.cellsOf Tryd.prog 121 = 1 := by kernel_rfl
theorem b121 : Program.bytesOf Tryd.prog 121 = 8 := by kernel_rfl
theorem k121 : Tk Tryd.prog 121 = some false := by kernel_rfl
theorem c122 : Program.cellsOf Tryd.prog 122 = 1 := by kernel_rfl
theorem b122 : Program.bytesOf Tryd.prog 122 = 8 := by kernel_rfl
theorem k122 : Tk Tryd.prog 122 = some false := by kernel_rfl
theorem c123 : Program.cellsOf Tryd.prog 123 = 1 := by kernel_rfl
theorem b123 : Program.bytesOf Tryd.prog 123 = 8 := by kernel_rfl
theorem k123 : Tk Tryd.prog 123 = some false := by kernel_rfl
theorem c124 : Program.cellsOf Tryd.prog 124 = 1 := by kernel_rfl
theorem b124 : Program.bytesOf Tryd.prog 124 = 8 := by kernel_rfl
theorem k124 : Tk Tryd.prog 124 = some false := by kernel_rfl
theorem c125 : Program.cellsOf Tryd.prog 125 = 2 := by kernel_rfl
theorem b125 : Program.bytesOf Tryd.prog 125 = 16 := by kernel_rfl
theorem k125 : Tk Tryd.prog 125 = some true := by kernel_rfl
theorem z125 : Tzero Tryd.prog 125 = some [.int .i64 0, .int .i64 0] := by kernel_rfl
theorem a125 : TzeroA Tryd.prog 125 = some [.dv (.d (.int .i64 0)), .dv (.d (.int .i64 0))] := by kernel_rfl
theorem f125_0 : Tfld Tryd.prog 125 0 = some (0, 3) := by kernel_rfl
theorem f125_1 : Tfld Tryd.prog 125 1 = some (1, 3) := by kernel_rfl
theorem p125 : Tplc Tryd.prog 125 = some [(0, 1), (1, 1)] := by kernel_rfl
theorem c126 : Program.cellsOf Tryd.prog 126 = 2 := by kernel_rfl
theorem b126 : Program.bytesOf Tryd.prog 126 = 16 := by kernel_rfl
theorem k126 : Tk Tryd.prog 126 = some true := by kernel_rfl
theorem z126 : Tzero Tryd.prog 126 = some [.int .i64 0, .int .i64 0] := by kernel_rfl
theorem a126 : TzeroA Tryd.prog 126 = some [.dv (.d (.int .i64 0)), .dv (.d (.int .i64 0))] := by kernel_rfl
theorem f126_0 : Tfld Tryd.prog 126 0 = some (0, 3) := by kernel_rfl
theorem f126_1 : Tfld Tryd.prog 126 1 = some (1, 3) := by kernel_rfl
theorem p126 : Tplc Tryd.prog 126 = some [(0, 1), (1, 1)] := by kernel_rfl
theorem c127 : Program.cellsOf Tryd.prog 127 = 1 := by kernel_rfl
theorem b127 : Program.bytesOf Tryd.prog 127 = 8 := by kernel_rfl
theorem k127 : Tk Tryd.prog 127 = some false := by kernel_rfl
theorem c128 : Program.cellsOf Tryd.prog 128 = 1 := by kernel_rfl
theorem b128 : Program.bytesOf Tryd.prog 128 = 24 := by kernel_rfl
theorem k128 : Tk Tryd.prog 128 = some false := by kernel_rfl
theorem z128 : Tzero Tryd.prog 128 = some [.sl []] := by kernel_rfl
theorem a128 : TzeroA Tryd.prog 128 = some [.nil] := by kernel_rfl
theorem o128 : Tone Tryd.prog 128 = some (.sl [], 24) := by kernel_rfl
theorem c129 : Program.cellsOf Tryd.prog 129 = 1 := by kernel_rfl
theorem b129 : Program.bytesOf Tryd.prog 129 = 8 := by kernel_rfl
theorem k129 : Tk Tryd.prog 129 = some false := by kernel_rfl
theorem c130 : Program.cellsOf Tryd.prog 130 = 1 := by kernel_rfl
theorem b130 : Program.bytesOf Tryd.prog 130 = 8 := by kernel_rfl
theorem k130 : Tk Tryd.prog 130 = some false := by kernel_rfl
theorem c131 : Program.cellsOf Tryd.prog 131 = 6 := by kernel_rfl
theorem b131 : Program.bytesOf Tryd.prog 131 = 96 := by kernel_rfl
theorem k131 : Tk Tryd.prog 131 = some true := by kernel_rfl
theorem z131 : Tzero Tryd.prog 131 = some [.str ⟨#[]⟩, .str ⟨#[]⟩, .str ⟨#[]⟩, .str ⟨#[]⟩, .str ⟨#[]⟩, .str ⟨#[]⟩] := by kernel_rfl
theorem a131 : TzeroA Tryd.prog 131 = some [.dv (.d (.str ⟨#[]⟩)), .dv (.d (.str ⟨#[]⟩)), .dv (.d (.str ⟨#[]⟩)), .dv (.d (.str ⟨#[]⟩)), .dv (.d (.str ⟨#[]⟩)), .dv (.d (.str ⟨#[]⟩))] := by kernel_rfl
theorem p131 : Tplc Tryd.prog 131 = some [(0, 1), (1, 1), (2, 1), (3, 1), (4, 1), (5, 1)] := by kernel_rfl
theorem c132 : Program.cellsOf Tryd.prog 132 = 1 := by kernel_rfl
theorem b132 : Program.bytesOf Tryd.prog 132 = 8 := by kernel_rfl
theorem k132 : Tk Tryd.prog 132 = some false := by kernel_rfl
theorem c133 : Program.cellsOf Tryd.prog 133 = 4 := by kernel_rfl
theorem b133 : Program.bytesOf Tryd.prog 133 = 40 := by kernel_rfl
theorem k133 : Tk Tryd.prog 133 = some true := by kernel_rfl
theorem z133 : Tzero Tryd.prog 133 = some [.str ⟨#[]⟩, .int .i64 0, .int .i64 0, .int .i64 0] := by kernel_rfl
theorem a133 : TzeroA Tryd.prog 133 = some [.dv (.d (.str ⟨#[]⟩)), .dv (.d (.int .i64 0)), .dv (.d (.int .i64 0)), .dv (.d (.int .i64 0))] := by kernel_rfl
theorem f133_0 : Tfld Tryd.prog 133 0 = some (0, 9) := by kernel_rfl
theorem f133_1 : Tfld Tryd.prog 133 1 = some (1, 3) := by kernel_rfl
theorem f133_2 : Tfld Tryd.prog 133 2 = some (2, 3) := by kernel_rfl
theorem f133_3 : Tfld Tryd.prog 133 3 = some (3, 3) := by kernel_rfl
theorem p133 : Tplc Tryd.prog 133 = some [(0, 1), (1, 1), (2, 1), (3, 1)] := by kernel_rfl
theorem c134 : Program.cellsOf Tryd.prog 134 = 4 := by kernel_rfl
theorem b134 : Program.bytesOf Tryd.prog 134 = 40 := by kernel_rfl
theorem k134 : Tk Tryd.prog 134 = some true := by kernel_rfl
theorem z134 : Tzero Tryd.prog 134 = some [.str ⟨#[]⟩, .int .i64 0, .int .i64 0, .int .i64 0] := by kernel_rfl
theorem a134 : TzeroA Tryd.prog 134 = some [.dv (.d (.str ⟨#[]⟩)), .dv (.d (.int .i64 0)), .dv (.d (.int .i64 0)), .dv (.d (.int .i64 0))] := by kernel_rfl
theorem f134_0 : Tfld Tryd.prog 134 0 = some (0, 9) := by kernel_rfl
theorem f134_1 : Tfld Tryd.prog 134 1 = some (1, 3) := by kernel_rfl
theorem f134_2 : Tfld Tryd.prog 134 2 = some (2, 3) := by kernel_rfl
theorem f134_3 : Tfld Tryd.prog 134 3 = some (3, 3) := by kernel_rfl
theorem p134 : Tplc Tryd.prog 134 = some [(0, 1), (1, 1), (2, 1), (3, 1)] := by kernel_rfl
theorem c135 : Program.cellsOf Tryd.prog 135 = 1 := by kernel_rfl
theorem b135 : Program.bytesOf Tryd.prog 135 = 8 := by kernel_rfl
theorem k135 : Tk Tryd.prog 135 = some false := by kernel_rfl
theorem c136 : Program.cellsOf Tryd.prog 136 = 1 := by kernel_rfl
theorem b136 : Program.bytesOf Tryd.prog 136 = 24 := by kernel_rfl
theorem k136 : Tk Tryd.prog 136 = some false := by kernel_rfl
theorem z136 : Tzero Tryd.prog 136 = some [.sl []] := by kernel_rfl
theorem a136 : TzeroA Tryd.prog 136 = some [.nil] := by kernel_rfl
theorem o136 : Tone Tryd.prog 136 = some (.sl [], 24) := by kernel_rfl
theorem c137 : Program.cellsOf Tryd.prog 137 = 1 := by kernel_rfl
theorem b137 : Program.bytesOf Tryd.prog 137 = 8 := by kernel_rfl
theorem k137 : Tk Tryd.prog 137 = some false := by kernel_rfl
theorem c138 : Program.cellsOf Tryd.prog 138 = 20 := by kernel_rfl
theorem b138 : Program.bytesOf Tryd.prog 138 = 240 := by kernel_rfl
theorem k138 : Tk Tryd.prog 138 = some true := by kernel_rfl
theorem z138 : Tzero Tryd.prog 138 = some [.int .i64 0, .str ⟨#[]⟩, .int .i64 0, .str ⟨#[]⟩, .int .i64 0, .str ⟨#[]⟩, .int .i64 0, .str ⟨#[]⟩, .int .i64 0, .str ⟨#[]⟩, .int .i64 0, .str ⟨#[]⟩, .int .i64 0, .str ⟨#[]⟩, .int .i64 0, .str ⟨#[]⟩, .int .i64 0, .str ⟨#[]⟩, .int .i64 0, .str ⟨#[]⟩] := by kernel_rfl
theorem a138 : TzeroA Tryd.prog 138 = some [.dv (.d (.int .i64 0)), .dv (.d (.str ⟨#[]⟩)), .dv (.d (.int .i64 0)), .dv (.d (.str ⟨#[]⟩)), .dv (.d (.int .i64 0)), .dv (.d (.str ⟨#[]⟩)), .dv (.d (.int .i64 0)), .dv (.d (.str ⟨#[]⟩)), .dv (.d (.int .i64 0)), .dv (.d (.str ⟨#[]⟩)), .dv (.d (.int .i64 0)), .dv (.d (.str ⟨#[]⟩)), .dv (.d (.int .i64 0)), .dv (.d (.str ⟨#[]⟩)), .dv (.d (.int .i64 0)), .dv (.d (.str ⟨#[]⟩)), .dv (.d (.int .i64 0)), .dv (.d (.str ⟨#[]⟩)), .dv (.d (.int .i64 0)), .dv (.d (.str ⟨#[]⟩))] := by kernel_rfl
theorem p138 : Tplc Tryd.prog 138 = some [(0, 2), (2, 2), (4, 2), (6, 2), (8, 2), (10, 2), (12, 2), (14, 2), (16, 2), (18, 2)] := by kernel_rfl
theorem c139 : Program.cellsOf Tryd.prog 139 = 1 := by kernel_rfl
theorem b139 : Program.bytesOf Tryd.prog 139 = 8 := by kernel_rfl
theorem k139 : Tk Tryd.prog 139 = some false := by kernel_rfl
theorem c140 : Program.cellsOf Tryd.prog 140 = 1 := by kernel_rfl
theorem b140 : Program.bytesOf Tryd.prog 140 = 0 := by kernel_rfl
theorem k140 : Tk Tryd.prog 140 = some false := by kernel_rfl
theorem c141 : Program.cellsOf Tryd.prog 141 = 1 := by kernel_rfl
theorem b141 : Program.bytesOf Tryd.prog 141 = 8 := by kernel_rfl
theorem k141 : Tk Tryd.prog 141 = some false := by kernel_rfl
theorem c142 : Program.cellsOf Tryd.prog 142 = 1 := by kernel_rfl
theorem b142 : Program.bytesOf Tryd.prog 142 = 8 := by kernel_rfl
theorem k142 : Tk Tryd.prog 142 = some false := by kernel_rfl
theorem c143 : Program.cellsOf Tryd.prog 143 = 1 := by kernel_rfl
theorem b143 : Program.bytesOf Tryd.prog 143 = 0 := by kernel_rfl
theorem k143 : Tk Tryd.prog 143 = some false := by kernel_rfl
theorem c144 : Program.cellsOf Tryd.prog 144 = 1 := by kernel_rfl
theorem b144 : Program.bytesOf Tryd.prog 144 = 8 := by kernel_rfl
theorem k144 : Tk Tryd.prog 144 = some false := by kernel_rfl
theorem c145 : Program.cellsOf Tryd.prog 145 = 1 := by kernel_rfl
theorem b145 : Program.bytesOf Tryd.prog 145 = 8 := by kernel_rfl
theorem k145 : Tk Tryd.prog 145 = some false := by kernel_rfl
theorem c146 : Program.cellsOf Tryd.prog 146 = 1 := by kernel_rfl
theorem b146 : Program.bytesOf Tryd.prog 146 = 8 := by kernel_rfl
theorem k146 : Tk Tryd.prog 146 = some false := by kernel_rfl
theorem c147 : Program.cellsOf Tryd.prog 147 = 1 := by kernel_rfl
theorem b147 : Program.bytesOf Tryd.prog 147 = 8 := by kernel_rfl
theorem k147 : Tk Tryd.prog 147 = some false := by kernel_rfl
theorem c148 : Program.cellsOf Tryd.prog 148 = 1 := by kernel_rfl
theorem b148 : Program.bytesOf Tryd.prog 148 = 8 := by kernel_rfl
theorem k148 : Tk Tryd.prog 148 = some false := by kernel_rfl
theorem c149 : Program.cellsOf Tryd.prog 149 = 1 := by kernel_rfl
theorem b149 : Program.bytesOf Tryd.prog 149 = 4 := by kernel_rfl
theorem k149 : Tk Tryd.prog 149 = some false := by kernel_rfl
theorem z149 : Tzero Tryd.prog 149 = some [.int .u32 0] := by kernel_rfl
theorem a149 : TzeroA Tryd.prog 149 = some [.dv (.d (.int .u32 0))] := by kernel_rfl
theorem o149 : Tone Tryd.prog 149 = some (.int .u32 0, 4) := by kernel_rfl
theorem c150 : Program.cellsOf Tryd.prog 150 = 1 := by kernel_rfl
theorem b150 : Program.bytesOf Tryd.prog 150 = 0 := by kernel_rfl
theorem k150 : Tk Tryd.prog 150 = some false := by kernel_rfl
theorem c151 : Program.cellsOf Tryd.prog 151 = 1 := by kernel_rfl
theorem b151 : Program.bytesOf Tryd.prog 151 = 8 := by kernel_rfl
theorem k151 : Tk Tryd.prog 151 = some false := by kernel_rfl
theorem c152 : Program.cellsOf Tryd.prog 152 = 1 := by kernel_rfl
theorem b152 : Program.bytesOf Tryd.prog 152 = 8 := by kernel_rfl
theorem k152 : Tk Tryd.prog 152 = some false := by kernel_rfl
theorem z152 : Tzero Tryd.prog 152 = some [.int .u64 0] := by kernel_rfl
theorem a152 : TzeroA Tryd.prog 152 = some [.dv (.d (.int .u64 0))] := by kernel_rfl
theorem o152 : Tone Tryd.prog 152 = some (.int .u64 0, 8) := by kernel_rfl
theorem c153 : Program.cellsOf Tryd.prog 153 = 1 := by kernel_rfl
theorem b153 : Program.bytesOf Tryd.prog 153 = 0 := by kernel_rfl
theorem k153 : Tk Tryd.prog 153 = some false := by kernel_rfl
theorem c154 : Program.cellsOf Tryd.prog 154 = 1 := by kernel_rfl
theorem b154 : Program.bytesOf Tryd.prog 154 = 8 := by kernel_rfl
theorem k154 : Tk Tryd.prog 154 = some false := by kernel_rfl
theorem c155 : Program.cellsOf Tryd.prog 155 = 1 := by kernel_rfl
theorem b155 : Program.bytesOf Tryd.prog 155 = 0 := by kernel_rfl
theorem k155 : Tk Tryd.prog 155 = some false := by kernel_rfl
theorem c156 : Program.cellsOf Tryd.prog 156 = 1 := by kernel_rfl
theorem b156 : Program.bytesOf Tryd.prog 156 = 8 := by kernel_rfl
theorem k156 : Tk Tryd.prog 156 = some false := by kernel_rfl
theorem c157 : Program.cellsOf Tryd.prog 157 = 1 := by kernel_rfl
theorem b157 : Program.bytesOf Tryd.prog 157 = 8 := by kernel_rfl
theorem k157 : Tk Tryd.prog 157 = some false := by kernel_rfl
theorem c158 : Program.cellsOf Tryd.prog 158 = 1 := by kernel_rfl
theorem b158 : Program.bytesOf Tryd.prog 158 = 8 := by kernel_rfl
theorem k158 : Tk Tryd.prog 158 = some false := by kernel_rfl
theorem c159 : Program.cellsOf Tryd.prog 159 = 1 := by kernel_rfl
theorem b159 : Program.bytesOf Tryd.prog 159 = 8 := by kernel_rfl
theorem k159 : Tk Tryd.prog 159 = some false := by kernel_rfl
theorem c160 : Program.cellsOf Tryd.prog 160 = 1 := by kernel_rfl
theorem b160 : Program.bytesOf Tryd.prog 160 = 8 := by kernel_rfl
theorem k160 : Tk Tryd.prog 160 = some false := by kernel_rfl
theorem c161 : Program.cellsOf Tryd.prog 161 = 1 := by kernel_rfl
theorem b161 : Program.bytesOf Tryd.prog 161 = 8 := by kernel_rfl
theorem k161 : Tk Tryd.prog 161 = some false := by kernel_rfl
theorem c162 : Program.cellsOf Tryd.prog 162 = 1 := by kernel_rfl
theorem b162 : Program.bytesOf Tryd.prog 162 = 8 := by kernel_rfl
theorem k162 : Tk Tryd.prog 162 = some false := by kernel_rfl
theorem c163 : Program.cellsOf Tryd.prog 163 = 1 := by kernel_rfl
theorem b163 : Program.bytesOf Tryd.prog 163 = 8 := by kernel_rfl
theorem k163 : Tk Tryd.prog 163 = some false := by kernel_rfl
theorem c164 : Program.cellsOf Tryd.prog 164 = 1 := by kernel_rfl
theorem b164 : Program.bytesOf Tryd.prog 164 = 8 := by kernel_rfl
theorem k164 : Tk Tryd.prog 164 = some false := by kernel_rfl
theorem c165 : Program.cellsOf Tryd.prog 165 = 1 := by kernel_rfl
theorem b165 : Program.bytesOf Tryd.prog 165 = 8 := by kernel_rfl
theorem k165 : Tk Tryd.prog 165 = some false := by kernel_rfl
theorem c166 : Program.cellsOf Tryd.prog 166 = 1 := by kernel_rfl
theorem b166 : Program.bytesOf Tryd.prog 166 = 0 := by kernel_rfl
theorem k166 : Tk Tryd.prog 166 = some false := by kernel_rfl
theorem c167 : Program.cellsOf Tryd.prog 167 = 1 := by kernel_rfl
theorem b167 : Program.bytesOf Tryd.prog 167 = 8 := by kernel_rfl
theorem k167 : Tk Tryd.prog 167 = some false := by kernel_rfl
theorem c168 : Program.cellsOf Tryd.prog 168 = 1 := by kernel_rfl
theorem b168 : Program.bytesOf Tryd.prog 168 = 8 := by kernel_rfl
theorem k168 : Tk Tryd.prog 168 = some false := by kernel_rfl
theorem c169 : Program.cellsOf Tryd.prog 169 = 1 := by kernel_rfl
theorem b169 : Program.bytesOf Tryd.prog 169 = 8 := by kernel_rfl
theorem k169 : Tk Tryd.prog 169 = some false := by kernel_rfl
theorem c170 : Program.cellsOf Tryd.prog 170 = 1 := by kernel_rfl
theorem b170 : Program.bytesOf Tryd.prog 170 = 8 := by kernel_rfl
theorem k170 : Tk Tryd.prog 170 = some false := by kernel_rfl
theorem c171 : Program.cellsOf Tryd.prog 171 = 256 := by kernel_rfl
theorem b171 : Program.bytesOf Tryd.prog 171 = 256 := by kernel_rfl
theorem k171 : Tk Tryd.prog 171 = some true := by kernel_rfl
theorem z171 : Tzero Tryd.prog 171 = some [.bool false, .bool false, .bool false, .bool false, .bool false, .bool false, .bool false, .bool false, .bool false, .bool false, .bool false, .bool false, .bool false, .bool false, .bool false, .bool false, .bool false, .bool false, .bool false, .bool false, .bool false, .bool false, .bool false, .bool false, .bool false, .bool false, .bool false, .bool false, .bool false, .bool false, .bool false, .bool false, .bool false, .bool false, .bool false, .bool false, .bool false, .bool false, .bool false, .bool false, .bool false, .bool false, .bool false, .bool false, .bool false, .bool false, .bool false, .bool false, .bool false, .bool false, .bool false, .bool false, .bool false, .bool false, .bool false, .bool false, .bool false, .bool false, .bool false, .bool false, .bool false, .bool false, .bool false, .bool false, .bool false, .bool false, .bool false, .bool false, .bool false, .bool false, .bool false, .bool false, .bool false, .bool false, .bool false, .bool false, .bool false, .bool false, .bool false, .bool false, .bool false, .bool false, .bool false, .bool false, .bool false, .bool false, .bool false, .bool false, .bool false, .bool false, .bool false, .bool false, .bool false, .bool false, .bool false, .bool false, .bool false, .bool false, .bool false, .bool false, .bool false, .bool false, .bool false, .bool false, .bool false, .bool false, .bool false, .bool false, .bool false, .bool false, .bool false, .bool false, .bool false, .bool false, .bool false, .bool false, .bool false, .bool false, .bool false, .bool false, .bool false, .bool false, .bool false, .bool false, .bool false, .bool false, .bool false, .bool false, .bool false, .bool false, .bool false, .bool false, .bool false, .bool false, .bool false, .bool false, .bool false, .bool false, .bool false, .bool false, .bool false, .bool false, .bool false, .bool false, .bool false, .bool false, .bool false, .bool false, .bool false, .bool false, .bool false, .bool false, .bool false, .bool false, .bool false, .bool false, .bool false, .bool false, .bool false, .bool false, .bool false, .bool false, .bool false, .bool false, .bool false, .bool false, .bool false, .bool false, .bool false, .bool false, .bool false, .bool false, .bool false, .bool false, .bool false, .bool false, .bool false, .bool false, .bool false, .bool false, .bool false, .bool false, .bool false, .bool false, .bool false, .bool false, .bool false, .bool false, .bool false, .bool false, .bool false, .bool false, .bool false, .bool false, .bool false, .bool false, .bool false, .bool false, .bool false, .bool false, .bool false, .bool false, .bool false, .bool false, .bool false, .bool false, .bool false, .bool false, .bool false, .bool false, .bool false, .bool false, .bool false, .bool false, .bool false, .bool false, .bool false, .bool false, .bool false, .bool false, .bool false, .bool false, .bool false, .bool false, .bool false, .bool false, .bool false, .bool false, .bool false, .bool false, .bool false, .bool false, .bool false, .bool false, .bool false, .bool false, .bool false, .bool false, .bool false, .bool false, .bool false, .bool false, .bool false, .bool false, .bool false, .bool false, .bool false, .bool false, .bool false, .bool false, .bool false, .bool false, .bool false, .bool false, .bool false, .bool false] := by kernel_rfl
theorem a171 : TzeroA Tryd.prog 171 = some [.dv (.d (.bool false)), .dv (.d (.bool false)), .dv (.d (.bool false)), .dv (.d (.bool false)), .dv (.d (.bool false)), .dv (.d (.bool false)), .dv (.d (.bool false)), .dv (.d (.bool false)), .dv (.d (.bool false)), .dv (.d (.bool false)), .dv (.d (.bool false)), .dv (.d (.bool false)), .dv (.d (.bool false)), .dv (.d (.bool false)), .dv (.d (.bool false)), .dv (.d (.bool false)), .dv (.d (.bool false)), .dv (.d (.bool false)), .dv (.d (.bool false)), .dv (.d (.bool false)), .dv (.d (.bool false)), .dv (.d (.bool false)), .dv (.d (.bool false)), .dv (.d (.bool false)), .dv (.d (.bool false)), .dv (.d (.bool false)), .dv (.d (.bool false)), .dv (.d (.bool false)), .dv (.d (.bool false)), .dv (.d (.bool false)), .dv (.d (.bool false)), .dv (.d (.bool false)), .dv (.d (.bool false)), .dv (.d (.bool false)), .dv (.d (.bool false)), .dv (.d (.bool false)), .dv (.d (.bool false)), .dv (.d (.bool false)), .dv (.d (.bool false)), .dv (.d (.bool false)), .dv (.d (.bool false)), .dv (.d (.bool false)), .dv (.d (.bool false)), .dv (.d (.bool false)), .dv (.d (.bool false)), .dv (.d (.bool false)), .dv (.d (.bool false)), .dv (.d (.bool false)), .dv (.d (.bool false)), .dv (.d (.bool false)), .dv (.d (.bool false)), .dv (.d (.bool false)), .dv (.d (.bool false)), .dv (.d (.bool false)), .dv (.d (.bool false)), .dv (.d (.bool false)), .dv (.d (.bool false)), .dv (.d (.bool false)), .dv (.d (.bool false)), .dv (.d (.bool false)), .dv (.d (.bool false)), .dv (.d (.bool false)), .dv (.d (.bool false)), .dv (.d (.bool false)), .dv (.d (.bool false)), .dv (.d (.bool false)), .dv (.d (.bool false)), .dv (.d (.bool false)), .dv (.d (.bool false)), .dv (.d (.bool false)), .dv (.d (.bool false)), .dv (.d (.bool false)), .dv (.d (.bool false)), .dv (.d (.bool false)), .dv (.d (.bool false)), .dv (.d (.bool false)), .dv (.d (.bool false)), .dv (.d (.bool false)), .dv (.d (.bool false)), .dv (.d (.bool false)), .dv (.d (.bool false)), .dv (.d (.bool false)), .dv (.d (.bool false)), .dv (.d (.bool false)), .dv (.d (.bool false)), .dv (.d (.bool false)), .dv (.d (.bool false)), .dv (.d (.bool false)), .dv (.d (.bool false)), .dv (.d (.bool false)), .dv (.d (.bool false)), .dv (.d (.bool false)), .dv (.d (.bool false)), .dv (.d (.bool false)), .dv (.d (.bool false)), .dv (.d (.bool false)), .dv (.d (.bool false)), .dv (.d (.bool false)), .dv (.d (.bool false)), .dv (.d (.bool false)), .dv (.d (.bool false)), .dv (.d (.bool false)), .dv (.d (.bool false)), .dv (.d (.bool false)), .dv (.d (.bool false)), .dv (.d (.bool false)), .dv (.d (.bool false)), .dv (.d (.bool false)), .dv (.d (.bool false)), .dv (.d (.bool false)), .dv (.d (.bool false)), .dv (.d (.bool false)), .dv (.d (.bool false)), .dv (.d (.bool false)), .dv (.d (.bool false)), .dv (.d (.bool false)), .dv (.d (.bool false)), .dv (.d (.bool false)), .dv (.d (.bool false)), .dv (.d (.bool false)), .dv (.d (.bool false)), .dv (.d (.bool false)), .dv (.d (.bool false)), .dv (.d (.bool false)), .dv (.d (.bool false)), .dv (.d (.bool false)), .dv (.d (.bool false)), .dv (.d (.bool false)), .dv (.d (.bool false)), .dv (.d (.bool false)), .dv (.d (.bool false)), .dv (.d (.bool false)), .dv (.d (.bool false)), .dv (.d (.bool false)), .dv (.d (.bool false)), .dv (.d (.bool false)), .dv (.d (.bool false)), .dv (.d (.bool false)), .dv (.d (.bool false)), .dv (.d (.bool false)), .dv (.d (.bool false)), .dv (.d (.bool false)), .dv (.d (.bool false)), .dv (.d (.bool false)), .dv (.d (.bool false)), .dv (.d (.bool false)), .dv (.d (.bool false)), .dv (.d (.bool false)), .dv (.d (.bool false)), .dv (.d (.bool false)), .dv (.d (.bool false)), .dv (.d (.bool false)), .dv (.d (.bool false)), .dv (.d (.bool false)), .dv (.d (.bool false)), .dv (.d (.bool false)), .dv (.d (.bool false)), .dv (.d (.bool false)), .dv (.d (.bool false)), .dv (.d (.bool false)), .dv (.d (.bool false)), .dv (.d (.bool false)), .dv (.d (.bool false)), .dv (.d (.bool false)), .dv (.d (.bool false)), .dv (.d (.bool false)), .dv (.d (.bool false)), .dv (.d (.bool false)), .dv (.d (.bool false)), .dv (.d (.bool false)), .dv (.d (.bool false)), .dv (.d (.bool false)), .dv (.d (.bool false)), .dv (.d (.bool false)), .dv (.d (.bool false)), .dv (.d (.bool false)), .dv (.d (.bool false)), .dv (.d (.bool false)), .dv (.d (.bool false)), .dv (.d (.bool false)), .dv (.d (.bool false)), .dv (.d (.bool false)), .dv (.d (.bool false)), .dv (.d (.bool false)), .dv (.d (.bool false)), .dv (.d (.bool false)), .dv (.d (.bool false)), .dv (.d (.bool false)), .dv (.d (.bool false)), .dv (.d (.bool false)), .dv (.d (.bool false)), .dv (.d (.bool false)), .dv (.d (.bool false)), .dv (.d (.bool false)), .dv (.d (.bool false)), .dv (.d (.bool false)), .dv (.d (.bool false)), .dv (.d (.bool false)), .dv (.d (.bool false)), .dv (.d (.bool false)), .dv (.d (.bool false)), .dv (.d (.bool false)), .dv (.d (.bool false)), .dv (.d (.bool false)), .dv (.d (.bool false)), .dv (.d (.bool false)), .dv (.d (.bool false)), .dv (.d (.bool false)), .dv (.d (.bool false)), .dv (.d (.bool false)), .dv (.d (.bool false)), .dv (.d (.bool false)), .dv (.d (.bool false)), .dv (.d (.bool false)), .dv (.d (.bool false)), .dv (.d (.bool false)), .dv (.d (.bool false)), .dv (.d (.bool false)), .dv (.d (.bool false)), .dv (.d (.bool false)), .dv (.d (.bool false)), .dv (.d (.bool false)), .dv (.d (.bool false)), .dv (.d (.bool false)), .dv (.d (.bool false)), .dv (.d (.bool false)), .dv (.d (.bool false)), .dv (.d (.bool false)), .dv (.d (.bool false)), .dv (.d (.bool false)), .dv (.d (.bool false)), .dv (.d (.bool false)), .dv (.d (.bool false)), .dv (.d (.bool false)), .dv (.d (.bool false)), .dv (.d (.bool false)), .dv (.d (.bool false)), .dv (.d (.bool false)), .dv (.d (.bool false)), .dv (.d (.bool false)), .dv (.d (.bool false)), .dv (.d (.bool false)), .dv (.d (.bool false)), .dv (.d (.bool false)), .dv (.d (.bool false)), .dv (.d (.bool false)), .dv (.d (.bool false)), .dv (.d (.bool false)), .dv (.d (.bool false)), .dv (.d (.bool false)), .dv (.d (.bool false)), .dv (.d (.bool false)), .dv (.d (.bool false)), .dv (.d (.bool false)), .dv (.d (.bool false)), .dv (.d (.bool false))] := by kernel_rfl
theorem p171 : Tplc Tryd.prog 171 = some [(0, 1), (1, 1), (2, 1), (3, 1), (4, 1), (5, 1), (6, 1), (7, 1), (8, 1), (9, 1), (10, 1), (11, 1), (12, 1), (13, 1), (14, 1), (15, 1), (16, 1), (17, 1), (18, 1), (19, 1), (20, 1), (21, 1), (22, 1), (23, 1), (24, 1), (25, 1), (26, 1), (27, 1), (28, 1), (29, 1), (30, 1), (31, 1), (32, 1), (33, 1), (34, 1), (35, 1), (36, 1), (37, 1), (38, 1), (39, 1), (40, 1), (41, 1), (42, 1), (43, 1), (44, 1), (45, 1), (46, 1), (47, 1), (48, 1), (49, 1), (50, 1), (51, 1), (52, 1), (53, 1), (54, 1), (55, 1), (56, 1), (57, 1), (58, 1), (59, 1), (60, 1), (61, 1), (62, 1), (63, 1), (64, 1), (65, 1), (66, 1), (67, 1), (68, 1), (69, 1), (70, 1), (71, 1), (72, 1), (73, 1), (74, 1), (75, 1), (76, 1), (77, 1), (78, 1), (79, 1), (80, 1), (81, 1), (82, 1), (83, 1), (84, 1), (85, 1), (86, 1), (87, 1), (88, 1), (89, 1), (90, 1), (91, 1), (92, 1), (93, 1), (94, 1), (95, 1), (96, 1), (97, 1), (98, 1), (99, 1), (100, 1), (101, 1), (102, 1), (103, 1), (104, 1), (105, 1), (106, 1), (107, 1), (108, 1), (109, 1), (110, 1), (111, 1), (112, 1), (113, 1), (114, 1), (115, 1), (116, 1), (117, 1), (118, 1), (119, 1), (120, 1), (121, 1), (122, 1), (123, 1), (124, 1), (125, 1), (126, 1), (127, 1), (128, 1), (129, 1), (130, 1), (131, 1), (132, 1), (133, 1), (134, 1), (135, 1), (136, 1), (137, 1), (138, 1), (139, 1), (140, 1), (141, 1), (142, 1), (143, 1), (144, 1), (145, 1), (146, 1), (147, 1), (148, 1), (149, 1), (150, 1), (151, 1), (152, 1), (153, 1), (154, 1), (155, 1), (156, 1), (157, 1), (158, 1), (159, 1), (160, 1), (161, 1), (162, 1), (163, 1), (164, 1), (165, 1), (166, 1), (167, 1), (168, 1), (169, 1), (170, 1), (171, 1), (172, 1), (173, 1), (174, 1), (175, 1), (176, 1), (177, 1), (178, 1), (179, 1), (180, 1), (181, 1), (182, 1), (183, 1), (184, 1), (185, 1), (186, 1), (187, 1), (188, 1), (189, 1), (190, 1), (191, 1), (192, 1), (193, 1), (194, 1), (195, 1), (196, 1), (197, 1), (198, 1), (199, 1), (200, 1), (201, 1), (202, 1), (203, 1), (204, 1), (205, 1), (206, 1), (207, 1), (208, 1), (209, 1), (210, 1), (211, 1), (212, 1), (213, 1), (214, 1), (215, 1), (216, 1), (217, 1), (218, 1), (219, 1), (220, 1), (221, 1), (222, 1), (223, 1), (224, 1), (225, 1), (226, 1), (227, 1), (228, 1), (229, 1), (230, 1), (231, 1), (232, 1), (233, 1), (234, 1), (235, 1), (236, 1), (237, 1), (238, 1), (239, 1), (240, 1), (241, 1), (242, 1), (243, 1), (244, 1), (245, 1), (246, 1), (247, 1), (248, 1), (249, 1), (250, 1), (251, 1), (252, 1), (253, 1), (254, 1), (255, 1)] := by kernel_rfl
theorem c172 : Program.cellsOf Tryd.prog 172 = 256 := by kernel_rfl
theorem b172 : Program.bytesOf Tryd.prog 172 = 256 := by kernel_rfl
theorem k172 : Tk Tryd.prog 172 = some true := by kernel_rfl
theorem z172 : Tzero Tryd.prog 172 = some [.bool false, .bool false, .bool false, .bool false, .bool false, .bool false, .bool false, .bool false, .bool false, .bool false, .bool false, .bool false, .bool false, .bool false, .bool false, .bool false, .bool false, .bool false, .bool false, .bool false, .bool false, .bool false, .bool false, .bool false, .bool false, .bool false, .bool false, .bool false, .bool false, .bool false, .bool false, .bool false, .bool false, .bool false, .bool false, .bool false, .bool false, .bool false, .bool false, .bool false, .bool false, .bool false, .bool false, .bool false, .bool false, .bool false, .bool false, .bool false, .bool false, .bool false, .bool false, .bool false, .bool false, .bool false, .bool false, .bool false, .bool false, .bool false, .bool false, .bool false, .bool false, .bool false, .bool false, .bool false, .bool false, .bool false, .bool false, .bool false, .bool false, .bool false, .bool false, .bool false, .bool false, .bool false, .bool false, .bool false, .bool false, .bool false, .bool false, .bool false, .bool false, .bool false, .bool false, .bool false, .bool false, .bool false, .bool false, .bool false, .bool false, .bool false, .bool false, .bool false, .bool false, .bool false, .bool false, .bool false, .bool false, .bool false, .bool false, .bool false, .bool false, .bool false, .bool false, .bool false, .bool false, .bool false, .bool false, .bool false, .bool false, .bool false, .bool false, .bool false, .bool false, .bool false, .bool false, .bool false, .bool false, .bool false, .bool false, .bool false, .bool false, .bool false, .bool false, .bool false, .bool false, .bool false, .bool false, .bool false, .bool false, .bool false, .bool false, .bool false, .bool false, .bool false, .bool false, .bool false, .bool false, .bool false, .bool false, .bool false, .bool false, .bool false, .bool false, .bool false, .bool false, .bool false, .bool false, .bool false, .bool false, .bool false, .bool false, .bool false, .bool false, .bool false, .bool false, .bool false, .bool false, .bool false, .bool false, .bool false, .bool false, .bool false, .bool false, .bool false, .bool false, .bool false, .bool false, .bool false, .bool false, .bool false, .bool false, .bool false, .bool false, .bool false, .bool false, .bool false, .bool false, .bool false, .bool false, .bool false, .bool false, .bool false, .bool false, .bool false, .bool false, .bool false, .bool false, .bool false, .bool false, .bool false, .bool false, .bool false, .bool false, .bool false, .bool false, .bool false, .bool false, .bool false, .bool false, .bool false, .bool false, .bool false, .bool false, .bool false, .bool false, .bool false, .bool false, .bool false, .bool false, .bool false, .bool false, .bool false, .bool false, .bool false, .bool false, .bool false, .bool false, .bool false, .bool false, .bool false, .bool false, .bool false, .bool false, .bool false, .bool false, .bool false, .bool false, .bool false, .bool false, .bool false, .bool false, .bool false, .bool false, .bool false, .bool false, .bool false, .bool false, .bool false, .bool false, .bool false, .bool false, .bool false, .bool false, .bool false, .bool false, .bool false, .bool false, .bool false, .bool false, .bool false, .bool false, .bool false, .bool false, .bool false, .bool false, .bool false] := by kernel_rfl
theorem a172 : TzeroA Tryd.prog 172 = some [.dv (.d (.bool false)), .dv (.d (.bool false)), .dv (.d (.bool false)), .dv (.d (.bool false)), .dv (.d (.bool false)), .dv (.d (.bool false)), .dv (.d (.bool false)), .dv (.d (.bool false)), .dv (.d (.bool false)), .dv (.d (.bool false)), .dv (.d (.bool false)), .dv (.d (.bool false)), .dv (.d (.bool false)), .dv (.d (.bool false)), .dv (.d (.bool false)), .dv (.d (.bool false)), .dv (.d (.bool false)), .dv (.d (.bool false)), .dv (.d (.bool false)), .dv (.d (.bool false)), .dv (.d (.bool false)), .dv (.d (.bool false)), .dv (.d (.bool false)), .dv (.d (.bool false)), .dv (.d (.bool false)), .dv (.d (.bool false)), .dv (.d (.bool false)), .dv (.d (.bool false)), .dv (.d (.bool false)), .dv (.d (.bool false)), .dv (.d (.bool false)), .dv (.d (.bool false)), .dv (.d (.bool false)), .dv (.d (.bool false)), .dv (.d (.bool false)), .dv (.d (.bool false)), .dv (.d (.bool false)), .dv (.d (.bool false)), .dv (.d (.bool false)), .dv (.d (.bool false)), .dv (.d (.bool false)), .dv (.d (.bool false)), .dv (.d (.bool false)), .dv (.d (.bool false)), .dv (.d (.bool false)), .dv (.d (.bool false)), .dv (.d (.bool false)), .dv (.d (.bool false)), .dv (.d (.bool false)), .dv (.d (.bool false)), .dv (.d (.bool false)), .dv (.d (.bool false)), .dv (.d (.bool false)), .dv (.d (.bool false)), .dv (.d (.bool false)), .dv (.d (.bool false)), .dv (.d (.bool false)), .dv (.d (.bool false)), .dv (.d (.bool false)), .dv (.d (.bool false)), .dv (.d (.bool false)), .dv (.d (.bool false)), .dv (.d (.bool false)), .dv (.d (.bool false)), .dv (.d (.bool false)), .dv (.d (.bool false)), .dv (.d (.bool false)), .dv (.d (.bool false)), .dv (.d (.bool false)), .dv (.d (.bool false)), .dv (.d (.bool false)), .dv (.d (.bool false)), .dv (.d (.bool false)), .dv (.d (.bool false)), .dv (.d (.bool false)), .dv (.d (.bool false)), .dv (.d (.bool false)), .dv (.d (.bool false)), .dv (.d (.bool false)), .dv (.d (.bool false)), .dv (.d (.bool false)), .dv (.d (.bool false)), .dv (.d (.bool false)), .dv (.d (.bool false)), .dv (.d (.bool false)), .dv (.d (.bool false)), .dv (.d (.bool false)), .dv (.d (.bool false)), .dv (.d (.bool false)), .dv (.d (.bool false)), .dv (.d (.bool false)), .dv (.d (.bool false)), .dv (.d (.bool false)), .dv (.d (.bool false)), .dv (.d (.bool false)), .dv (.d (.bool false)), .dv (.d (.bool false)), .dv (.d (.bool false)), .dv (.d (.bool false)), .dv (.d (.bool false)), .dv (.d (.bool false)), .dv (.d (.bool false)), .dv (.d (.bool false)), .dv (.d (.bool false)), .dv (.d (.bool false)), .dv (.d (.bool false)), .dv (.d (.bool false)), .dv (.d (.bool false)), .dv (.d (.bool false)), .dv (.d (.bool false)), .dv (.d (.bool false)), .dv (.d (.bool false)), .dv (.d (.bool false)), .dv (.d (.bool false)), .dv (.d (.bool false)), .dv (.d (.bool false)), .dv (.d (.bool false)), .dv (.d (.bool false)), .dv (.d (.bool false)), .dv (.d (.bool false)), .dv (.d (.bool false)), .dv (.d (.bool false)), .dv (.d (.bool false)), .dv (.d (.bool false)), .dv (.d (.bool false)), .dv (.d (.bool false)), .dv (.d (.bool false)), .dv (.d (.bool false)), .dv (.d (.bool false)), .dv (.d (.bool false)), .dv (.d (.bool false)), .dv (.d (.bool false)), .dv (.d (.bool false)), .dv (.d (.bool false)), .dv (.d (.bool false)), .dv (.d (.bool false)), .dv (.d (.bool false)), .dv (.d (.bool false)), .dv (.d (.bool false)), .dv (.d (.bool false)), .dv (.d (.bool false)), .dv (.d (.bool false)), .dv (.d (.bool false)), .dv (.d (.bool false)), .dv (.d (.bool false)), .dv (.d (.bool false)), .dv (.d (.bool false)), .dv (.d (.bool false)), .dv (.d (.bool false)), .dv (.d (.bool false)), .dv (.d (.bool false)), .dv (.d (.bool false)), .dv (.d (.bool false)), .dv (.d (.bool false)), .dv (.d (.bool false)), .dv (.d (.bool false)), .dv (.d (.bool false)), .dv (.d (.bool false)), .dv (.d (.bool false)), .dv (.d (.bool false)), .dv (.d (.bool false)), .dv (.d (.bool false)), .dv (.d (.bool false)), .dv (.d (.bool false)), .dv (.d (.bool false)), .dv (.d (.bool false)), .dv (.d (.bool false)), .dv (.d (.bool false)), .dv (.d (.bool false)), .dv (.d (.bool false)), .dv (.d (.bool false)), .dv (.d (.bool false)), .dv (.d (.bool false)), .dv (.d (.bool false)), .dv (.d (.bool false)), .dv (.d (.bool false)), .dv (.d (.bool false)), .dv (.d (.bool false)), .dv (.d (.bool false)), .dv (.d (.bool false)), .dv (.d (.bool false)), .dv (.d (.bool false)), .dv (.d (.bool false)), .dv (.d (.bool false)), .dv (.d (.bool false)), .dv (.d (.bool false)), .dv (.d (.bool false)), .dv (.d (.bool false)), .dv (.d (.bool false)), .dv (.d (.bool false)), .dv (.d (.bool false)), .dv (.d (.bool false)), .dv (.d (.bool false)), .dv (.d (.bool false)), .dv (.d (.bool false)), .dv (.d (.bool false)), .dv (.d (.bool false)), .dv (.d (.bool false)), .dv (.d (.bool false)), .dv (.d (.bool false)), .dv (.d (.bool false)), .dv (.d (.bool false)), .dv (.d (.bool false)), .dv (.d (.bool false)), .dv (.d (.bool false)), .dv (.d (.bool false)), .dv (.d (.bool false)), .dv (.d (.bool false)), .dv (.d (.bool false)), .dv (.d (.bool false)), .dv (.d (.bool false)), .dv (.d (.bool false)), .dv (.d (.bool false)), .dv (.d (.bool false)), .dv (.d (.bool false)), .dv (.d (.bool false)), .dv (.d (.bool false)), .dv (.d (.bool false)), .dv (.d (.bool false)), .dv (.d (.bool false)), .dv (.d (.bool false)), .dv (.d (.bool false)), .dv (.d (.bool false)), .dv (.d (.bool false)), .dv (.d (.bool false)), .dv (.d (.bool false)), .dv (.d (.bool false)), .dv (.d (.bool false)), .dv (.d (.bool false)), .dv (.d (.bool false)), .dv (.d (.bool false)), .dv (.d (.bool false)), .dv (.d (.bool false)), .dv (.d (.bool false)), .dv (.d (.bool false)), .dv (.d (.bool false)), .dv (.d (.bool false)), .dv (.d (.bool false)), .dv (.d (.bool false)), .dv (.d (.bool false)), .dv (.d (.bool false)), .dv (.d (.bool false)), .dv (.d (.bool false)), .dv (.d (.bool false)), .dv (.d (.bool false)), .dv (.d (.bool false)), .dv (.d (.bool false)), .dv (.d (.bool false)), .dv (.d (.bool false)), .dv (.d (.bool false)), .dv (.d (.bool false)), .dv (.d (.bool false)), .dv (.d (.bool false)), .dv (.d (.bool false)), .dv (.d (.bool false)), .dv (.d (.bool false))] := by kernel_rfl
theorem p172 : Tplc Tryd.prog 172 = some [(0, 1), (1, 1), (2, 1), (3, 1), (4, 1), (5, 1), (6, 1), (7, 1), (8, 1), (9, 1), (10, 1), (11, 1), (12, 1), (13, 1), (14, 1), (15, 1), (16, 1), (17, 1), (18, 1), (19, 1), (20, 1), (21, 1), (22, 1), (23, 1), (24, 1), (25, 1), (26, 1), (27, 1), (28, 1), (29, 1), (30, 1), (31, 1), (32, 1), (33, 1), (34, 1), (35, 1), (36, 1), (37, 1), (38, 1), (39, 1), (40, 1), (41, 1), (42, 1), (43, 1), (44, 1), (45, 1), (46, 1), (47, 1), (48, 1), (49, 1), (50, 1), (51, 1), (52, 1), (53, 1), (54, 1), (55, 1), (56, 1), (57, 1), (58, 1), (59, 1), (60, 1), (61, 1), (62, 1), (63, 1), (64, 1), (65, 1), (66, 1), (67, 1), (68, 1), (69, 1), (70, 1), (71, 1), (72, 1), (73, 1), (74, 1), (75, 1), (76, 1), (77, 1), (78, 1), (79, 1), (80, 1), (81, 1), (82, 1), (83, 1), (84, 1), (85, 1), (86, 1), (87, 1), (88, 1), (89, 1), (90, 1), (91, 1), (92, 1), (93, 1), (94, 1), (95, 1), (96, 1), (97, 1), (98, 1), (99, 1), (100, 1), (101, 1), (102, 1), (103, 1), (104, 1), (105, 1), (106, 1), (107, 1), (108, 1), (109, 1), (110, 1), (111, 1), (112, 1), (113, 1), (114, 1), (115, 1), (116, 1), (117, 1), (118, 1), (119, 1), (120, 1), (121, 1), (122, 1), (123, 1), (124, 1), (125, 1), (126, 1), (127, 1), (128, 1), (129, 1), (130, 1), (131, 1), (132, 1), (133, 1), (134, 1), (135, 1), (136, 1), (137, 1), (138, 1), (139, 1), (140, 1), (141, 1), (142, 1), (143, 1), (144, 1), (145, 1), (146, 1), (147, 1), (148, 1), (149, 1), (150, 1), (151, 1), (152, 1), (153, 1), (154, 1), (155, 1), (156, 1), (157, 1), (158, 1), (159, 1), (160, 1), (161, 1), (162, 1), (163, 1), (164, 1), (165, 1), (166, 1), (167, 1), (168, 1), (169, 1), (170, 1), (171, 1), (172, 1), (173, 1), (174, 1), (175, 1), (176, 1), (177, 1), (178, 1), (179, 1), (180, 1), (181, 1), (182, 1), (183, 1), (184, 1), (185, 1), (186, 1), (187, 1), (188, 1), (189, 1), (190, 1), (191, 1), (192, 1), (193, 1), (194, 1), (195, 1), (196, 1), (197, 1), (198, 1), (199, 1), (200, 1), (201, 1), (202, 1), (203, 1), (204, 1), (205, 1), (206, 1), (207, 1), (208, 1), (209, 1), (210, 1), (211, 1), (212, 1), (213, 1), (214, 1), (215, 1), (216, 1), (217, 1), (218, 1), (219, 1), (220, 1), (221, 1), (222, 1), (223, 1), (224, 1), (225, 1), (226, 1), (227, 1), (228, 1), (229, 1), (230, 1), (231, 1), (232, 1), (233, 1), (234, 1), (235, 1), (236, 1), (237, 1), (238, 1), (239, 1), (240, 1), (241, 1), (242, 1), (243, 1), (244, 1), (245, 1), (246, 1), (247, 1), (248, 1), (249, 1), (250, 1), (251, 1), (252, 1), (253, 1), (254, 1), (255, 1)] := by kernel_rfl
theorem c173 : Program.cellsOf Tryd.prog 173 = 1 := by kernel_rfl
theorem b173 : Program.bytesOf Tryd.prog 173 = 0 := by kernel_rfl
theorem k173 : Tk Tryd.prog 173 = some false := by kernel_rfl
theorem c174 : Program.cellsOf Tryd.prog 174 = 1 := by kernel_rfl
theorem b174 : Program.bytesOf Tryd.prog 174 = 8 := by kernel_rfl
theorem k174 : Tk Tryd.prog 174 = some false := by kernel_rfl
theorem c175 : Program.cellsOf Tryd.prog 175 = 1 := by kernel_rfl
theorem b175 : Program.bytesOf Tryd.prog 175 = 8 := by kernel_rfl
theorem k175 : Tk Tryd.prog 175 = some false := by kernel_rfl
theorem c176 : Program.cellsOf Tryd.prog 176 = 1 := by kernel_rfl
theorem b176 : Program.bytesOf Tryd.prog 176 = 8 := by kernel_rfl
theorem k176 : Tk Tryd.prog 176 = some false := by kernel_rfl
theorem c177 : Program.cellsOf Tryd.prog 177 = 1 := by kernel_rfl
theorem b177 : Program.bytesOf Tryd.prog 177 = 8 := by kernel_rfl
theorem k177 : Tk Tryd.prog 177 = some false := by kernel_rfl
theorem c178 : Program.cellsOf Tryd.prog 178 = 1 := by kernel_rfl
theorem b178 : Program.bytesOf Tryd.prog 178 = 8 := by kernel_rfl
theorem k178 : Tk Tryd.prog 178 = some false := by kernel_rfl
theorem c179 : Program.cellsOf Tryd.prog 179 = 1 := by kernel_rfl
theorem b179 : Program.bytesOf Tryd.prog 179 = 8 := by kernel_rfl
theorem k179 : Tk Tryd.prog 179 = some false := by kernel_rfl
theorem c180 : Program.cellsOf Tryd.prog 180 = 1 := by kernel_rfl
theorem b180 : Program.bytesOf Tryd.prog 180 = 8 := by kernel_rfl
theorem k180 : Tk Tryd.prog 180 = some false := by kernel_rfl
theorem c181 : Program.cellsOf Tryd.prog 181 = 1 := by kernel_rfl
theorem b181 : Program.bytesOf Tryd.prog 181 = 8 := by kernel_rfl
theorem k181 : Tk Tryd.prog 181 = some false := by kernel_rfl
theorem c182 : Program.cellsOf Tryd.prog 182 = 1 := by kernel_rfl
theorem b182 : Program.bytesOf Tryd.prog 182 = 8 := by kernel_rfl
theorem k182 : Tk Tryd.prog 182 = some false := by kernel_rfl
theorem c183 : Program.cellsOf Tryd.prog 183 = 1 := by kernel_rfl
theorem b183 : Program.bytesOf Tryd.prog 183 = 8 := by kernel_rfl
theorem k183 : Tk Tryd.prog 183 = some false := by kernel_rfl
theorem c184 : Program.cellsOf Tryd.prog 184 = 1 := by kernel_rfl
theorem b184 : Program.bytesOf Tryd.prog 184 = 8 := by kernel_rfl
theorem k184 : Tk Tryd.prog 184 = some false := by kernel_rfl
theorem c185 : Program.cellsOf Tryd.prog 185 = 1 := by kernel_rfl
theorem b185 : Program.bytesOf Tryd.prog 185 = 8 := by kernel_rfl
theorem k185 : Tk Tryd.prog 185 = some false := by kernel_rfl
theorem c186 : Program.cellsOf Tryd.prog 186 = 1 := by kernel_rfl
theorem b186 : Program.bytesOf Tryd.prog 186 = 8 := by kernel_rfl
theorem k186 : Tk Tryd.prog 186 = some false := by kernel_rfl
theorem c187 : Program.cellsOf Tryd.prog 187 = 256 := by kernel_rfl
theorem b187 : Program.bytesOf Tryd.prog 187 = 256 := by kernel_rfl
theorem k187 : Tk Tryd.prog 187 = some true := by kernel_rfl
theorem z187 : Tzero Tryd.prog 187 = some [.int .u8 0, .int .u8 0, .int .u8 0, .int .u8 0, .int .u8 0, .int .u8 0, .int .u8 0, .int .u8 0, .int .u8 0, .int .u8 0, .int .u8 0, .int .u8 0, .int .u8 0, .int .u8 0, .int .u8 0, .int .u8 0, .int .u8 0, .int .u8 0, .int .u8 0, .int .u8 0, .int .u8 0, .int .u8 0, .int .u8 0, .int .u8 0, .int .u8 0, .int .u8 0, .int .u8 0, .int .u8 0, .int .u8 0, .int .u8 0, .int .u8 0, .int .u8 0, .int .u8 0, .int .u8 0, .int .u8 0, .int .u8 0, .int .u8 0, .int .u8 0, .int .u8 0, .int .u8 0, .int .u8 0, .int .u8 0, .int .u8 0, .int .u8 0, .int .u8 0, .int .u8 0, .int .u8 0, .int .u8 0, .int .u8 0, .int .u8 0, .int .u8 0, .int .u8 0, .int .u8 0, .int .u8 0, .int .u8 0, .int .u8 0, .int .u8 0, .int .u8 0, .int .u8 0, .int .u8 0, .int .u8 0, .int .u8 0, .int .u8 0, .int .u8 0, .int .u8 0, .int .u8 0, .int .u8 0, .int .u8 0, .int .u8 0, .int .u8 0, .int .u8 0, .int .u8 0, .int .u8 0, .int .u8 0, .int .u8 0, .int .u8 0, .int .u8 0, .int .u8 0, .int .u8 0, .int .u8 0, .int .u8 0, .int .u8 0, .int .u8 0, .int .u8 0, .int .u8 0, .int .u8 0, .int .u8 0, .int .u8 0, .int .u8 0, .int .u8 0, .int .u8 0, .int .u8 0, .int .u8 0, .int .u8 0, .int .u8 0, .int .u8 0, .int .u8 0, .int .u8 0, .int .u8 0, .int .u8 0, .int .u8 0, .int .u8 0, .int .u8 0, .int .u8 0, .int .u8 0, .int .u8 0, .int .u8 0, .int .u8 0, .int .u8 0, .int .u8 0, .int .u8 0, .int .u8 0, .int .u8 0, .int .u8 0, .int .u8 0, .int .u8 0, .int .u8 0, .int .u8 0, .int .u8 0, .int .u8 0, .int .u8 0, .int .u8 0, .int .u8 0, .int .u8 0, .int .u8 0, .int .u8 0, .int .u8 0, .int .u8 0, .int .u8 0, .int .u8 0, .int .u8 0, .int .u8 0, .int .u8 0, .int .u8 0, .int .u8 0, .int .u8 0, .int .u8 0, .int .u8 0, .int .u8 0, .int .u8 0, .int .u8 0, .int .u8 0, .int .u8 0, .int .u8 0, .int .u8 0, .int .u8 0, .int .u8 0, .int .u8 0, .int .u8 0, .int .u8 0, .int .u8 0, .int .u8 0, .int .u8 0, .int .u8 0, .int .u8 0, .int .u8 0, .int .u8 0, .int .u8 0, .int .u8 0, .int .u8 0, .int .u8 0, .int .u8 0, .int .u8 0, .int .u8 0, .int .u8 0, .int .u8 0, .int .u8 0, .int .u8 0, .int .u8 0, .int .u8 0, .int .u8 0, .int .u8 0, .int .u8 0, .int .u8 0, .int .u8 0, .int .u8 0, .int .u8 0, .int .u8 0, .int .u8 0, .int .u8 0, .int .u8 0, .int .u8 0, .int .u8 0, .int .u8 0, .int .u8 0, .int .u8 0, .int .u8 0, .int .u8 0, .int .u8 0, .int .u8 0, .int .u8 0, .int .u8 0, .int .u8 0, .int .u8 0, .int .u8 0, .int .u8 0, .int .u8 0, .int .u8 0, .int .u8 0, .int .u8 0, .int .u8 0, .int .u8 0, .int .u8 0, .int .u8 0, .int .u8 0, .int .u8 0, .int .u8 0, .int .u8 0, .int .u8 0, .int .u8 0, .int .u8 0, .int .u8 0, .int .u8 0, .int .u8 0, .int .u8 0, .int .u8 0, .int .u8 0, .int .u8 0, .int .u8 0, .int .u8 0, .int .u8 0, .int .u8 0, .int .u8 0, .int .u8 0, .int .u8 0, .int .u8 0, .int .u8 0, .int .u8 0, .int .u8 0, .int .u8 0, .int .u8 0, .int .u8 0, .int .u8 0, .int .u8 0, .int .u8 0, .int .u8 0, .int .u8 0, .int .u8 0, .int .u8 0, .int .u8 0, .int .u8 0, .int .u8 0, .int .u8 0, .int .u8 0, .int .u8 0, .int .u8 0, .int .u8 0, .int .u8 0, .int .u8 0, .int .u8 0, .int .u8 0, .int .u8 0, .int .u8 0, .int .u8 0, .int .u8 0, .int .u8 0] := by kernel_rfl
theorem a187 : TzeroA Tryd.prog 187 = some [.dv (.d (.int .u8 0)), .dv (.d (.int .u8 0)), .dv (.d (.int .u8 0)), .dv (.d (.int .u8 0)), .dv (.d (.int .u8 0)), .dv (.d (.int .u8 0)), .dv (.d (.int .u8 0)), .dv (.d (.int .u8 0)), .dv (.d (.int .u8 0)), .dv (.d (.int .u8 0)), .dv (.d (.int .u8 0)), .dv (.d (.int .u8 0)), .dv (.d (.int .u8 0)), .dv (.d (.int .u8 0)), .dv (.d (.int .u8 0)), .dv (.d (.int .u8 0)), .dv (.d (.int .u8 0)), .dv (.d (.int .u8 0)), .dv (.d (.int .u8 0)), .dv (.d (.int .u8 0)), .dv (.d (.int .u8 0)), .dv (.d (.int .u8 0)), .dv (.d (.int .u8 0)), .dv (.d (.int .u8 0)), .dv (.d (.int .u8 0)), .dv (.d (.int .u8 0)), .dv (.d (.int .u8 0)), .dv (.d (.int .u8 0)), .dv (.d (.int .u8 0)), .dv (.d (.int .u8 0)), .dv (.d (.int .u8 0)), .dv (.d (.int .u8 0)), .dv (.d (.int .u8 0)), .dv (.d (.int .u8 0)), .dv (.d (.int .u8 0)), .dv (.d (.int .u8 0)), .dv (.d (.int .u8 0)), .dv (.d (.int .u8 0)), .dv (.d (.int .u8 0)), .dv (.d (.int .u8 0)), .dv (.d (.int .u8 0)), .dv (.d (.int .u8 0)), .dv (.d (.int .u8 0)), .dv (.d (.int .u8 0)), .dv (.d (.int .u8 0)), .dv (.d (.int .u8 0)), .dv (.d (.int .u8 0)), .dv (.d (.int .u8 0)), .dv (.d (.int .u8 0)), .dv (.d (.int .u8 0)), .dv (.d (.int .u8 0)), .dv (.d (.int .u8 0)), .dv (.d (.int .u8 0)), .dv (.d (.int .u8 0)), .dv (.d (.int .u8 0)), .dv (.d (.int .u8 0)), .dv (.d (.int .u8 0)), .dv (.d (.int .u8 0)), .dv (.d (.int .u8 0)), .dv (.d (.int .u8 0)), .dv (.d (.int .u8 0)), .dv (.d (.int .u8 0)), .dv (.d (.int .u8 0)), .dv (.d (.int .u8 0)), .dv (.d (.int .u8 0)), .dv (.d (.int .u8 0)), .dv (.d (.int .u8 0)), .dv (.d (.int .u8 0)), .dv (.d (.int .u8 0)), .dv (.d (.int .u8 0)), .dv (.d (.int .u8 0)), .dv (.d (.int .u8 0)), .dv (.d (.int .u8 0)), .dv (.d (.int .u8 0)), .dv (.d (.int .u8 0)), .dv (.d (.int .u8 0)), .dv (.d (.int .u8 0)), .dv (.d (.int .u8 0)), .dv (.d (.int .u8 0)), .dv (.d (.int .u8 0)), .dv (.d (.int .u8 0)), .dv (.d (.int .u8 0)), .dv (.d (.int .u8 0)), .dv (.d (.int .u8 0)), .dv (.d (.int .u8 0)), .dv (.d (.int .u8 0)), .dv (.d (.int .u8 0)), .dv (.d (.int .u8 0)), .dv (.d (.int .u8 0)), .dv (.d (.int .u8 0)), .dv (.d (.int .u8 0)), .dv (.d (.int .u8 0)), .dv (.d (.int .u8 0)), .dv (.d (.int .u8 0)), .dv (.d (.int .u8 0)), .dv (.d (.int .u8 0)), .dv (.d (.int .u8 0)), .dv (.d (.int .u8 0)), .dv (.d (.int .u8 0)), .dv (.d (.int .u8 0)), .dv (.d (.int .u8 0)), .dv (.d (.int .u8 0)), .dv (.d (.int .u8 0)), .dv (.d (.int .u8 0)), .dv (.d (.int .u8 0)), .dv (.d (.int .u8 0)), .dv (.d (.int .u8 0)), .dv (.d (.int .u8 0)), .dv (.d (.int .u8 0)), .dv (.d (.int .u8 0)), .dv (.d (.int .u8 0)), .dv (.d (.int .u8 0)), .dv (.d (.int .u8 0)), .dv (.d (.int .u8 0)), .dv (.d (.int .u8 0)), .dv (.d (.int .u8 0)), .dv (.d (.int .u8 0)), .dv (.d (.int .u8 0)), .dv (.d (.int .u8 0)), .dv (.d (.int .u8 0)), .dv (.d (.int .u8 0)), .dv (.d (.int .u8 0)), .dv (.d (.int .u8 0)), .dv (.d (.int .u8 0)), .dv (.d (.int .u8 0)), .dv (.d (.int .u8 0)), .dv (.d (.int .u8 0)), .dv (.d (.int .u8 0)), .dv (.d (.int .u8 0)), .dv (.d (.int .u8 0)), .dv (.d (.int .u8 0)), .dv (.d (.int .u8 0)), .dv (.d (.int .u8 0)), .dv (.d (.int .u8 0)), .dv (.d (.int .u8 0)), .dv (.d (.int .u8 0)), .dv (.d (.int .u8 0)), .dv (.d (.int .u8 0)), .dv (.d (.int .u8 0)), .dv (.d (.int .u8 0)), .dv (.d (.int .u8 0)), .dv (.d (.int .u8 0)), .dv (.d (.int .u8 0)), .dv (.d (.int .u8 0)), .dv (.d (.int .u8 0)), .dv (.d (.int .u8 0)), .dv (.d (.int .u8 0)), .dv (.d (.int .u8 0)), .dv (.d (.int .u8 0)), .dv (.d (.int .u8 0)), .dv (.d (.int .u8 0)), .dv (.d (.int .u8 0)), .dv (.d (.int .u8 0)), .dv (.d (.int .u8 0)), .dv (.d (.int .u8 0)), .dv (.d (.int .u8 0)), .dv (.d (.int .u8 0)), .dv (.d (.int .u8 0)), .dv (.d (.int .u8 0)), .dv (.d (.int .u8 0)), .dv (.d (.int .u8 0)), .dv (.d (.int .u8 0)), .dv (.d (.int .u8 0)), .dv (.d (.int .u8 0)), .dv (.d (.int .u8 0)), .dv (.d (.int .u8 0)), .dv (.d (.int .u8 0)), .dv (.d (.int .u8 0)), .dv (.d (.int .u8 0)), .dv (.d (.int .u8 0)), .dv (.d (.int .u8 0)), .dv (.d (.int .u8 0)), .dv (.d (.int .u8 0)), .dv (.d (.int .u8 0)), .dv (.d (.int .u8 0)), .dv (.d (.int .u8 0)), .dv (.d (.int .u8 0)), .dv (.d (.int .u8 0)), .dv (.d (.int .u8 0)), .dv (.d (.int .u8 0)), .dv (.d (.int .u8 0)), .dv (.d (.int .u8 0)), .dv (.d (.int .u8 0)), .dv (.d (.int .u8 0)), .dv (.d (.int .u8 0)), .dv (.d (.int .u8 0)), .dv (.d (.int .u8 0)), .dv (.d (.int .u8 0)), .dv (.d (.int .u8 0)), .dv (.d (.int .u8 0)), .dv (.d (.int .u8 0)), .dv (.d (.int .u8 0)), .dv (.d (.int .u8 0)), .dv (.d (.int .u8 0)), .dv (.d (.int .u8 0)), .dv (.d (.int .u8 0)), .dv (.d (.int .u8 0)), .dv (.d (.int .u8 0)), .dv (.d (.int .u8 0)), .dv (.d (.int .u8 0)), .dv (.d (.int .u8 0)), .dv (.d (.int .u8 0)), .dv (.d (.int .u8 0)), .dv (.d (.int .u8 0)), .dv (.d (.int .u8 0)), .dv (.d (.int .u8 0)), .dv (.d (.int .u8 0)), .dv (.d (.int .u8 0)), .dv (.d (.int .u8 0)), .dv (.d (.int .u8 0)), .dv (.d (.int .u8 0)), .dv (.d (.int .u8 0)), .dv (.d (.int .u8 0)), .dv (.d (.int .u8 0)), .dv (.d (.int .u8 0)), .dv (.d (.int .u8 0)), .dv (.d (.int .u8 0)), .dv (.d (.int .u8 0)), .dv (.d (.int .u8 0)), .dv (.d (.int .u8 0)), .dv (.d (.int .u8 0)), .dv (.d (.int .u8 0)), .dv (.d (.int .u8 0)), .dv (.d (.int .u8 0)), .dv (.d (.int .u8 0)), .dv (.d (.int .u8 0)), .dv (.d (.int .u8 0)), .dv (.d (.int .u8 0)), .dv (.d (.int .u8 0)), .dv (.d (.int .u8 0)), .dv (.d (.int .u8 0)), .dv (.d (.int .u8 0)), .dv (.d (.int .u8 0)), .dv (.d (.int .u8 0)), .dv (.d (.int .u8 0)), .dv (.d (.int .u8 0)), .dv (.d (.int .u8 0)), .dv (.d (.int .u8 0)), .dv (.d (.int .u8 0)), .dv (.d (.int .u8 0)), .dv (.d (.int .u8 0)), .dv (.d (.int .u8 0)), .dv (.d (.int .u8 0)), .dv (.d (.int .u8 0)), .dv (.d (.int .u8 0)), .dv (.d (.int .u8 0)), .dv (.d (.int .u8 0)), .dv (.d (.int .u8 0)), .dv (.d (.int .u8 0)), .dv (.d (.int .u8 0)), .dv (.d (.int .u8 0)), .dv (.d (.int .u8 0)), .dv (.d (.int .u8 0)), .dv (.d (.int .u8 0)), .dv (.d (.int .u8 0)), .dv (.d (.int .u8 0))] := by kernel_rfl
theorem p187 : Tplc Tryd.prog 187 = some [(0, 1), (1, 1), (2, 1), (3, 1), (4, 1), (5, 1), (6, 1), (7, 1), (8, 1), (9, 1), (10, 1), (11, 1), (12, 1), (13, 1), (14, 1), (15, 1), (16, 1), (17, 1), (18, 1), (19, 1), (20, 1), (21, 1), (22, 1), (23, 1), (24, 1), (25, 1), (26, 1), (27, 1), (28, 1), (29, 1), (30, 1), (31, 1), (32, 1), (33, 1), (34, 1), (35, 1), (36, 1), (37, 1), (38, 1), (39, 1), (40, 1), (41, 1), (42, 1), (43, 1), (44, 1), (45, 1), (46, 1), (47, 1), (48, 1), (49, 1), (50, 1), (51, 1), (52, 1), (53, 1), (54, 1), (55, 1), (56, 1), (57, 1), (58, 1), (59, 1), (60, 1), (61, 1), (62, 1), (63, 1), (64, 1), (65, 1), (66, 1), (67, 1), (68, 1), (69, 1), (70, 1), (71, 1), (72, 1), (73, 1), (74, 1), (75, 1), (76, 1), (77, 1), (78, 1), (79, 1), (80, 1), (81, 1), (82, 1), (83, 1), (84, 1), (85, 1), (86, 1), (87, 1), (88, 1), (89, 1), (90, 1), (91, 1), (92, 1), (93, 1), (94, 1), (95, 1), (96, 1), (97, 1), (98, 1), (99, 1), (100, 1), (101, 1), (102, 1), (103, 1), (104, 1), (105, 1), (106, 1), (107, 1), (108, 1), (109, 1), (110, 1), (111, 1), (112, 1), (113, 1), (114, 1), (115, 1), (116, 1), (117, 1), (118, 1), (119, 1), (120, 1), (121, 1), (122, 1), (123, 1), (124, 1), (125, 1), (126, 1), (127, 1), (128, 1), (129, 1), (130, 1), (131, 1), (132, 1), (133, 1), (134, 1), (135, 1), (136, 1), (137, 1), (138, 1), (139, 1), (140, 1), (141, 1), (142, 1), (143, 1), (144, 1), (145, 1), (146, 1), (147, 1), (148, 1), (149, 1), (150, 1), (151, 1), (152, 1), (153, 1), (154, 1), (155, 1), (156, 1), (157, 1), (158, 1), (159, 1), (160, 1), (161, 1), (162, 1), (163, 1), (164, 1), (165, 1), (166, 1), (167, 1), (168, 1), (169, 1), (170, 1), (171, 1), (172, 1), (173, 1), (174, 1), (175, 1), (176, 1), (177, 1), (178, 1), (179, 1), (180, 1), (181, 1), (182, 1), (183, 1), (184, 1), (185, 1), (186, 1), (187, 1), (188, 1), (189, 1), (190, 1), (191, 1), (192, 1), (193, 1), (194, 1), (195, 1), (196, 1), (197, 1), (198, 1), (199, 1), (200, 1), (201, 1), (202, 1), (203, 1), (204, 1), (205, 1), (206, 1), (207, 1), (208, 1), (209, 1), (210, 1), (211, 1), (212, 1), (213, 1), (214, 1), (215, 1), (216, 1), (217, 1), (218, 1), (219, 1), (220, 1), (221, 1), (222, 1), (223, 1), (224, 1), (225, 1), (226, 1), (227, 1), (228, 1), (229, 1), (230, 1), (231, 1), (232, 1), (233, 1), (234, 1), (235, 1), (236, 1), (237, 1), (238, 1), (239, 1), (240, 1), (241, 1), (242, 1), (243, 1), (244, 1), (245, 1), (246, 1), (247, 1), (248, 1), (249, 1), (250, 1), (251, 1), (252, 1), (253, 1), (254, 1), (255, 1)] := by kernel_rfl
theorem c188 : Program.cellsOf Tryd.prog 188 = 2 := by kernel_rfl
theorem b188 : Program.bytesOf Tryd.prog 188 = 2 := by kernel_rfl
theorem k188 : Tk Tryd.prog 188 = some true := by kernel_rfl
theorem z188 : Tzero Tryd.prog 188 = some [.int .u8 0, .int .u8 0] := by kernel_rfl
theorem a188 : TzeroA Tryd.prog 188 = some [.dv (.d (.int .u8 0)), .dv (.d (.int .u8 0))] := by kernel_rfl
theorem f188_0 : Tfld Tryd.prog 188 0 = some (0, 5) := by kernel_rfl
theorem f188_1 : Tfld Tryd.prog 188 1 = some (1, 5) := by kernel_rfl
theorem p188 : Tplc Tryd.prog 188 = some [(0, 1), (1, 1)] := by kernel_rfl
theorem c189 : Program.cellsOf Tryd.prog 189 = 2 := by kernel_rfl
theorem b189 : Program.bytesOf Tryd.prog 189 = 2 := by kernel_rfl
theorem k189 : Tk Tryd.prog 189 = some true := by kernel_rfl
theorem z189 : Tzero Tryd.prog 189 = some [.int .u8 0, .int .u8 0] := by kernel_rfl
theorem a189 : TzeroA Tryd.prog 189 = some [.dv (.d (.int .u8 0)), .dv (.d (.int .u8 0))] := by kernel_rfl
theorem f189_0 : Tfld Tryd.prog 189 0 = some (0, 5) := by kernel_rfl
theorem f189_1 : Tfld Tryd.prog 189 1 = some (1, 5) := by kernel_rfl
theorem p189 : Tplc Tryd.prog 189 = some [(0, 1), (1, 1)] := by kernel_rfl
theorem c190 : Program.cellsOf Tryd.prog 190 = 32 := by kernel_rfl
theorem b190 : Program.bytesOf Tryd.prog 190 = 32 := by kernel_rfl
theorem k190 : Tk Tryd.prog 190 = some true := by kernel_rfl
theorem z190 : Tzero Tryd.prog 190 = some [.int .u8 0, .int .u8 0, .int .u8 0, .int .u8 0, .int .u8 0, .int .u8 0, .int .u8 0, .int .u8 0, .int .u8 0, .int .u8 0, .int .u8 0, .int .u8 0, .int .u8 0, .int .u8 0, .int .u8 0, .int .u8 0, .int .u8 0, .int .u8 0, .int .u8 0, .int .u8 0, .int .u8 0, .int .u8 0, .int .u8 0, .int .u8 0, .int .u8 0, .int .u8 0, .int .u8 0, .int .u8 0, .int .u8 0, .int .u8 0, .int .u8 0, .int .u8 0] := by kernel_rfl
theorem a190 : TzeroA Tryd.prog 190 = some [.dv (.d (.int .u8 0)), .dv (.d (.int .u8 0)), .dv (.d (.int .u8 0)), .dv (.d (.int .u8 0)), .dv (.d (.int .u8 0)), .dv (.d (.int .u8 0)), .dv (.d (.int .u8 0)), .dv (.d (.int .u8 0)), .dv (.d (.int .u8 0)), .dv (.d (.int .u8 0)), .dv (.d (.int .u8 0)), .dv (.d (.int .u8 0)), .dv (.d (.int .u8 0)), .dv (.d (.int .u8 0)), .dv (.d (.int .u8 0)), .dv (.d (.int .u8 0)), .dv (.d (.int .u8 0)), .dv (.d (.int .u8 0)), .dv (.d (.int .u8 0)), .dv (.d (.int .u8 0)), .dv (.d (.int .u8 0)), .dv (.d (.int .u8 0)), .dv (.d (.int .u8 0)), .dv (.d (.int .u8 0)), .dv (.d (.int .u8 0)), .dv (.d (.int .u8 0)), .dv (.d (.int .u8 0)), .dv (.d (.int .u8 0)), .dv (.d (.int .u8 0)), .dv (.d (.int .u8 0)), .dv (.d (.int .u8 0)), .dv (.d (.int .u8 0))] := by kernel_rfl
theorem p190 : Tplc Tryd.prog 190 = some [(0, 2), (2, 2), (4, 2), (6, 2), (8, 2), (10, 2), (12, 2), (14, 2), (16, 2), (18, 2), (20, 2), (22, 2), (24, 2), (26, 2), (28, 2), (30, 2)] := by kernel_rfl
theorem c191 : Program.cellsOf Tryd.prog 191 = 1 := by kernel_rfl
theorem b191 : Program.bytesOf Tryd.prog 191 = 0 := by kernel_rfl
theorem k191 : Tk Tryd.prog 191 = some false := by kernel_rfl
theorem c192 : Program.cellsOf Tryd.prog 192 = 1 := by kernel_rfl
theorem b192 : Program.bytesOf Tryd.prog 192 = 8 := by kernel_rfl
theorem k192 : Tk Tryd.prog 192 = some false := by kernel_rfl
theorem c193 : Program.cellsOf Tryd.prog 193 = 1 := by kernel_rfl
theorem b193 : Program.bytesOf Tryd.prog 193 = 8 := by kernel_rfl
theorem k193 : Tk Tryd.prog 193 = some false := by kernel_rfl
theorem c194 : Program.cellsOf Tryd.prog 194 = 1 := by kernel_rfl
theorem b194 : Program.bytesOf Tryd.prog 194 = 8 := by kernel_rfl
theorem k194 : Tk Tryd.prog 194 = some false := by kernel_rfl
theorem c195 : Program.cellsOf Tryd.prog 195 = 1 := by kernel_rfl
theorem b195 : Program.bytesOf Tryd.prog 195 = 8 := by kernel_rfl
theorem k195 : Tk Tryd.prog 195 = some false := by kernel_rfl
theorem c196 : Program.cellsOf Tryd.prog 196 = 1 := by kernel_rfl
theorem b196 : Program.bytesOf Tryd.prog 196 = 24 := by kernel_rfl
theorem k196 : Tk Tryd.prog 196 = some false := by kernel_rfl
theorem z196 : Tzero Tryd.prog 196 = some [.sl []] := by kernel_rfl
theorem a196 : TzeroA Tryd.prog 196 = some [.nil] := by kernel_rfl
theorem o196 : Tone Tryd.prog 196 = some (.sl [], 24) := by kernel_rfl
theorem c197 : Program.cellsOf Tryd.prog 197 = 2 := by kernel_rfl
theorem b197 : Program.bytesOf Tryd.prog 197 = 16 := by kernel_rfl
theorem k197 : Tk Tryd.prog 197 = some true := by kernel_rfl
theorem z197 : Tzero Tryd.prog 197 = some [.int .i64 0, .int .i64 0] := by kernel_rfl
theorem a197 : TzeroA Tryd.prog 197 = some [.dv (.d (.int .i64 0)), .dv (.d (.int .i64 0))] := by kernel_rfl
theorem f197_0 : Tfld Tryd.prog 197 0 = some (0, 3) := by kernel_rfl
theorem f197_1 : Tfld Tryd.prog 197 1 = some (1, 3) := by kernel_rfl
theorem p197 : Tplc Tryd.prog 197 = some [(0, 1), (1, 1)] := by kernel_rfl
theorem c198 : Program.cellsOf Tryd.prog 198 = 2 := by kernel_rfl
theorem b198 : Program.bytesOf Tryd.prog 198 = 16 := by kernel_rfl
theorem k198 : Tk Tryd.prog 198 = some true := by kernel_rfl
theorem z198 : Tzero Tryd.prog 198 = some [.int .i64 0, .int .i64 0] := by kernel_rfl
theorem a198 : TzeroA Tryd.prog 198 = some [.dv (.d (.int .i64 0)), .dv (.d (.int .i64 0))] := by kernel_rfl
theorem f198_0 : Tfld Tryd.prog 198 0 = some (0, 3) := by kernel_rfl
theorem f198_1 : Tfld Tryd.prog 198 1 = some (1, 3) := by kernel_rfl
theorem p198 : Tplc Tryd.prog 198 = some [(0, 1), (1, 1)] := by kernel_rfl
theorem c199 : Program.cellsOf Tryd.prog 199 = 1 := by kernel_rfl
theorem b199 : Program.bytesOf Tryd.prog 199 = 8 := by kernel_rfl
theorem k199 : Tk Tryd.prog 199 = some false := by kernel_rfl
theorem c200 : Program.cellsOf Tryd.prog 200 = 1 := by kernel_rfl
theorem b200 : Program.bytesOf Tryd.prog 200 = 8 := by kernel_rfl
theorem k200 : Tk Tryd.prog 200 = some false := by kernel_rfl
theorem c201 : Program.cellsOf Tryd.prog 201 = 1 := by kernel_rfl
theorem b201 : Program.bytesOf Tryd.prog 201 = 8 := by kernel_rfl
theorem k201 : Tk Tryd.prog 201 = some false := by kernel_rfl
theorem c202 : Program.cellsOf Tryd.prog 202 = 4 := by kernel_rfl
theorem b202 : Program.bytesOf Tryd.prog 202 = 40 := by kernel_rfl
theorem k202 : Tk Tryd.prog 202 = some true := by kernel_rfl
theorem f202_0 : Tfld Tryd.prog 202 0 = some (0, 17) := by kernel_rfl
theorem f202_1 : Tfld Tryd.prog 202 1 = some (1, 17) := by kernel_rfl
theorem f202_2 : Tfld Tryd.prog 202 2 = some (2, 17) := by kernel_rfl
theorem f202_3 : Tfld Tryd.prog 202 3 = some (3, 9) := by kernel_rfl
theorem p202 : Tplc Tryd.prog 202 = some [(0, 1), (1, 1), (2, 1), (3, 1)] := by kernel_rfl
theorem c203 : Program.cellsOf Tryd.prog 203 = 4 := by kernel_rfl
theorem b203 : Program.bytesOf Tryd.prog 203 = 40 := by kernel_rfl
theorem k203 : Tk Tryd.prog 203 = some true := by kernel_rfl
theorem f203_0 : Tfld Tryd.prog 203 0 = some (0, 17) := by kernel_rfl
theorem f203_1 : Tfld Tryd.prog 203 1 = some (1, 17) := by kernel_rfl
theorem f203_2 : Tfld Tryd.prog 203 2 = some (2, 17) := by kernel_rfl
theorem f203_3 : Tfld Tryd.prog 203 3 = some (3, 9) := by kernel_rfl
theorem p203 : Tplc Tryd.prog 203 = some [(0, 1), (1, 1), (2, 1), (3, 1)] := by kernel_rfl
theorem c204 : Program.cellsOf Tryd.prog 204 = 0 := by kernel_rfl
theorem b204 : Program.bytesOf Tryd.prog 204 = 0 := by kernel_rfl
theorem k204 : Tk Tryd.prog 204 = some true := by kernel_rfl
theorem z204 : Tzero Tryd.prog 204 = some [] := by kernel_rfl
theorem a204 : TzeroA Tryd.prog 204 = some [] := by kernel_rfl
theorem p204 : Tplc Tryd.prog 204 = some [] := by kernel_rfl
theorem c205 : Program.cellsOf Tryd.prog 205 = 0 := by kernel_rfl
theorem b205 : Program.bytesOf Tryd.prog 205 = 0 := by kernel_rfl
theorem k205 : Tk Tryd.prog 205 = some true := by kernel_rfl
theorem z205 : Tzero Tryd.prog 205 = some [] := by kernel_rfl
theorem a205 : TzeroA Tryd.prog 205 = some [] := by kernel_rfl
theorem f205_0 : Tfld Tryd.prog 205 0 = some (0, 204) := by kernel_rfl
theorem p205 : Tplc Tryd.prog 205 = some [(0, 0)] := by kernel_rfl
theorem c206 : Program.cellsOf Tryd.prog 206 = 0 := by kernel_rfl
theorem b206 : Program.bytesOf Tryd.prog 206 = 0 := by kernel_rfl
theorem k206 : Tk Tryd.prog 206 = some true := by kernel_rfl
theorem z206 : Tzero Tryd.prog 206 = some [] := by kernel_rfl
theorem a206 : TzeroA Tryd.prog 206 = some [] := by kernel_rfl
theorem f206_0 : Tfld Tryd.prog 206 0 = some (0, 204) := by kernel_rfl
theorem p206 : Tplc Tryd.prog 206 = some [(0, 0)] := by kernel_rfl
theorem c207 : Program.cellsOf Tryd.prog 207 = 1 := by kernel_rfl
theorem b207 : Program.bytesOf Tryd.prog 207 = 1 := by kernel_rfl
theorem k207 : Tk Tryd.prog 207 = some false := by kernel_rfl
theorem z207 : Tzero Tryd.prog 207 = some [.int .u8 0] := by kernel_rfl
theorem a207 : TzeroA Tryd.prog 207 = some [.dv (.d (.int .u8 0))] := by kernel_rfl
theorem o207 : Tone Tryd.prog 207 = some (.int .u8 0, 1) := by kernel_rfl
theorem c208 : Program.cellsOf Tryd.prog 208 = 1 := by kernel_rfl
theorem b208 : Program.bytesOf Tryd.prog 208 = 1 := by kernel_rfl
theorem k208 : Tk Tryd.prog 208 = some false := by kernel_rfl
theorem z208 : Tzero Tryd.prog 208 = some [.int .u8 0] := by kernel_rfl
theorem a208 : TzeroA Tryd.prog 208 = some [.dv (.d (.int .u8 0))] := by kernel_rfl
theorem o208 : Tone Tryd.prog 208 = some (.int .u8 0, 1) := by kernel_rfl
theorem c209 : Program.cellsOf Tryd.prog 209 = 1 := by kernel_rfl
theorem b209 : Program.bytesOf Tryd.prog 209 = 8 := by kernel_rfl
theorem k209 : Tk Tryd.prog 209 = some false := by kernel_rfl
theorem c210 : Program.cellsOf Tryd.prog 210 = 1 := by kernel_rfl
theorem b210 : Program.bytesOf Tryd.prog 210 = 4 := by kernel_rfl
theorem k210 : Tk Tryd.prog 210 = some false := by kernel_rfl
theorem z210 : Tzero Tryd.prog 210 = some [.int .i32 0] := by kernel_rfl
theorem a210 : TzeroA Tryd.prog 210 = some [.dv (.d (.int .i32 0))] := by kernel_rfl
theorem o210 : Tone Tryd.prog 210 = some (.int .i32 0, 4) := by kernel_rfl
theorem c211 : Program.cellsOf Tryd.prog 211 = 1 := by kernel_rfl
theorem b211 : Program.bytesOf Tryd.prog 211 = 4 := by kernel_rfl
theorem k211 : Tk Tryd.prog 211 = some false := by kernel_rfl
theorem z211 : Tzero Tryd.prog 211 = some [.int .i32 0] := by kernel_rfl
theorem a211 : TzeroA Tryd.prog 211 = some [.dv (.d (.int .i32 0))] := by kernel_rfl
theorem o211 : Tone Tryd.prog 211 = some (.int .i32 0, 4) := by kernel_rfl
theorem c212 : Program.cellsOf Tryd.prog 212 = 11 := by kernel_rfl
theorem b212 : Program.bytesOf Tryd.prog 212 = 48 := by kernel_rfl
theorem k212 : Tk Tryd.prog 212 = some true := by kernel_rfl
theorem f212_0 : Tfld Tryd.prog 212 0 = some (0, 12) := by kernel_rfl
theorem f212_1 : Tfld Tryd.prog 212 1 = some (1, 12) := by kernel_rfl
theorem f212_2 : Tfld Tryd.prog 212 2 = some (2, 149) := by kernel_rfl
theorem f212_3 : Tfld Tryd.prog 212 3 = some (3, 207) := by kernel_rfl
theorem f212_4 : Tfld Tryd.prog 212 4 = some (4, 5) := by kernel_rfl
theorem f212_5 : Tfld Tryd.prog 212 5 = some (5, 5) := by kernel_rfl
theorem f212_6 : Tfld Tryd.prog 212 6 = some (6, 208) := by kernel_rfl
theorem f212_7 : Tfld Tryd.prog 212 7 = some (7, 209) := by kernel_rfl
theorem f212_8 : Tfld Tryd.prog 212 8 = some (8, 148) := by kernel_rfl
theorem f212_9 : Tfld Tryd.prog 212 9 = some (9, 210) := by kernel_rfl
theorem f212_10 : Tfld Tryd.prog 212 10 = some (10, 211) := by kernel_rfl
theorem p212 : Tplc Tryd.prog 212 = some [(0, 1), (1, 1), (2, 1), (3, 1), (4, 1), (5, 1), (6, 1), (7, 1), (8, 1), (9, 1), (10, 1)] := by kernel_rfl
theorem c213 : Program.cellsOf Tryd.prog 213 = 11 := by kernel_rfl
theorem b213 : Program.bytesOf Tryd.prog 213 = 48 := by kernel_rfl
theorem k213 : Tk Tryd.prog 213 = some true := by kernel_rfl
theorem f213_0 : Tfld Tryd.prog 213 0 = some (0, 12) := by kernel_rfl
theorem f213_1 : Tfld Tryd.prog 213 1 = some (1, 12) := by kernel_rfl
theorem f213_2 : Tfld Tryd.prog 213 2 = some (2, 149) := by kernel_rfl
theorem f213_3 : Tfld Tryd.prog 213 3 = some (3, 207) := by kernel_rfl
theorem f213_4 : Tfld Tryd.prog 213 4 = some (4, 5) := by kernel_rfl
theorem f213_5 : Tfld Tryd.prog 213 5 = some (5, 5) := by kernel_rfl
theorem f213_6 : Tfld Tryd.prog 213 6 = some (6, 208) := by kernel_rfl
theorem f213_7 : Tfld Tryd.prog 213 7 = some (7, 209) := by kernel_rfl
theorem f213_8 : Tfld Tryd.prog 213 8 = some (8, 148) := by kernel_rfl
theorem f213_9 : Tfld Tryd.prog 213 9 = some (9, 210) := by kernel_rfl
theorem f213_10 : Tfld Tryd.prog 213 10 = some (10, 211) := by kernel_rfl
theorem p213 : Tplc Tryd.prog 213 = some [(0, 1), (1, 1), (2, 1), (3, 1), (4, 1), (5, 1), (6, 1), (7, 1), (8, 1), (9, 1), (10, 1)] := by kernel_rfl
theorem zv2 : zeroAV Tryd.prog 2 = [.dv (.d (.int .i64 0))] := Go.Avc.Eq.zeroAV_e a2
theorem zv3 : zeroAV Tryd.prog 3 = [.dv (.d (.int .i64 0))] := Go.Avc.Eq.zeroAV_e a3
theorem zv4 : zeroAV Tryd.prog 4 = [.dv (.d (.bool false))] := Go.Avc.Eq.zeroAV_e a4
theorem zv5 : zeroAV Tryd.prog 5 = [.dv (.d (.int .u8 0))] := Go.Avc.Eq.zeroAV_e a5
theorem zv6 : zeroAV Tryd.prog 6 = [.dv (.d (.int .u8 0))] := Go.Avc.Eq.zeroAV_e a6
theorem zv7 : zeroAV Tryd.prog 7 = [.dv (.d (.int .i64 0)), .dv (.d (.int .i64 0)), .dv (.d (.bool false)), .dv (.d (.int .u8 0))] := Go.Avc.Eq.zeroAV_e a7
theorem zv8 : zeroAV Tryd.prog 8 = [.dv (.d (.int .i64 0)), .dv (.d (.int .i64 0)), .dv (.d (.bool false)), .dv (.d (.int .u8 0))] := Go.Avc.Eq.zeroAV_e a8
theorem zv9 : zeroAV Tryd.prog 9 = [.dv (.d (.str ⟨#[]⟩))] := Go.Avc.Eq.zeroAV_e a9
theorem zv10 : zeroAV Tryd.prog 10 = [.dv (.d (.str ⟨#[]⟩))] := Go.Avc.Eq.zeroAV_e a10
theorem zv11 : zeroAV Tryd.prog 11 = [.dv (.d (.str ⟨#[]⟩))] := Go.Avc.Eq.zeroAV_e a11
theorem zv12 : zeroAV Tryd.prog 12 = [.dv (.d (.int .u64 0))] := Go.Avc.Eq.zeroAV_e a12
theorem zv13 : zeroAV Tryd.prog 13 = [.dv (.d (.str ⟨#[]⟩)), .dv (.d (.int .u64 0))] := Go.Avc.Eq.zeroAV_e a13
theorem zv14 : zeroAV Tryd.prog 14 = [.dv (.d (.str ⟨#[]⟩)), .dv (.d (.int .u64 0))] := Go.Avc.Eq.zeroAV_e a14
theorem zv21 : zeroAV Tryd.prog 21 = [.dv (.d (.int .i32 0))] := Go.Avc.Eq.zeroAV_e a21
theorem zv22 : zeroAV Tryd.prog 22 = [.nil] := Go.Avc.Eq.zeroAV_e a22
theorem zv24 : zeroAV Tryd.prog 24 = [.nil, .dv (.d (.int .i64 0))] := Go.Avc.Eq.zeroAV_e a24
theorem zv25 : zeroAV Tryd.prog 25 = [.nil, .dv (.d (.int .i64 0))] := Go.Avc.Eq.zeroAV_e a25
theorem zv30 : zeroAV Tryd.prog 30 = [.nil] := Go.Avc.Eq.zeroAV_e a30
theorem zv31 : zeroAV Tryd.prog 31 = [.dv (.d (.int .i64 0))] := Go.Avc.Eq.zeroAV_e a31
theorem zv44 : zeroAV Tryd.prog 44 = [.nil] := Go.Avc.Eq.zeroAV_e a44
theorem zv45 : zeroAV Tryd.prog 45 = [.nil] := Go.Avc.Eq.zeroAV_e a45
theorem zv46 : zeroAV Tryd.prog 46 = [.nil, .dv (.d (.int .i64 0)), .dv (.d (.int .i64 0)), .nil, .nil, .nil, .nil] := Go.Avc.Eq.zeroAV_e a46
theorem zv47 : zeroAV Tryd.prog 47 = [.nil, .dv (.d (.int .i64 0)), .dv (.d (.int .i64 0)), .nil, .nil, .nil, .nil] := Go.Avc.Eq.zeroAV_e a47
theorem zv50 : zeroAV Tryd.prog 50 = [.dv (.d (.str ⟨#[]⟩)), .dv (.d (.int .i64 0)), .dv (.d (.int .i64 0)), .dv (.d (.int .i64 0)), .nil] := Go.Avc.Eq.zeroAV_e a50
theorem zv51 : zeroAV Tryd.prog 51 = [.dv (.d (.str ⟨#[]⟩)), .dv (.d (.int .i64 0)), .dv (.d (.int .i64 0)), .dv (.d (.int .i64 0)), .nil] := Go.Avc.Eq.zeroAV_e a51
theorem zv55 : zeroAV Tryd.prog 55 = [.dv (.d (.int .i64 0)), .dv (.d (.int .i64 0)), .dv (.d (.int .i64 0)), .dv (.d (.int .i64 0)), .dv (.d (.int .i64 0))] := Go.Avc.Eq.zeroAV_e a55
theorem zv60 : zeroAV Tryd.prog 60 = [.nil] := Go.Avc.Eq.zeroAV_e a60
theorem zv61 : zeroAV Tryd.prog 61 = [.dv (.d (.str ⟨#[]⟩)), .nil] := Go.Avc.Eq.zeroAV_e a61
theorem zv62 : zeroAV Tryd.prog 62 = [.dv (.d (.str ⟨#[]⟩)), .nil] := Go.Avc.Eq.zeroAV_e a62
theorem zv70 : zeroAV Tryd.prog 70 = [.dv (.d (.int .i64 0)), .dv (.d (.str ⟨#[]⟩)), .dv (.d (.int .i64 0))] := Go.Avc.Eq.zeroAV_e a70
theorem zv71 : zeroAV Tryd.prog 71 = [.dv (.d (.int .i64 0)), .dv (.d (.str ⟨#[]⟩)), .dv (.d (.int .i64 0))] := Go.Avc.Eq.zeroAV_e a71
theorem zv73 : zeroAV Tryd.prog 73 = [.nil] := Go.Avc.Eq.zeroAV_e a73
theorem zv75 : zeroAV Tryd.prog 75 = [.dv (.d (.str ⟨#[]⟩)), .dv (.d (.int .i64 0)), .dv (.d (.str ⟨#[]⟩)), .dv (.d (.int .i64 0))] := Go.Avc.Eq.zeroAV_e a75
theorem zv76 : zeroAV Tryd.prog 76 = [.dv (.d (.str ⟨#[]⟩)), .dv (.d (.int .i64 0)), .dv (.d (.str ⟨#[]⟩)), .dv (.d (.int .i64 0))] := Go.Avc.Eq.zeroAV_e a76
theorem zv79 : zeroAV Tryd.prog 79 = [.nil] := Go.Avc.Eq.zeroAV_e a79
theorem zv84 : zeroAV Tryd.prog 84 = [.dv (.d (.int .i64 0)), .dv (.d (.str ⟨#[]⟩))] := Go.Avc.Eq.zeroAV_e a84
theorem zv85 : zeroAV Tryd.prog 85 = [.dv (.d (.int .i64 0)), .dv (.d (.str ⟨#[]⟩))] := Go.Avc.Eq.zeroAV_e a85
theorem zv94 : zeroAV Tryd.prog 94 = [.nil] := Go.Avc.Eq.zeroAV_e a94
theorem zv107 : zeroAV Tryd.prog 107 = [.dv (.d (.int .u64 0))] := Go.Avc.Eq.zeroAV_e a107
theorem zv113 : zeroAV Tryd.prog 113 = [.nil] := Go.Avc.Eq.zeroAV_e a113
theorem zv116 : zeroAV Tryd.prog 116 = [.nil] := Go.Avc.Eq.zeroAV_e a116
theorem zv117 : zeroAV Tryd.prog 117 = [.nil] := Go.Avc.Eq.zeroAV_e a117
theorem zv119 : zeroAV Tryd.prog 119 = [.dv (.d (.int .i64 0)), .dv (.d (.str ⟨#[]⟩)), .dv (.d (.int .i64 0)), .dv (.d (.int .i64 0))] := Go.Avc.Eq.zeroAV_e a119
theorem zv120 : zeroAV Tryd.prog 120 = [.dv (.d (.int .i64 0)), .dv (.d (.str ⟨#[]⟩)), .dv (.d (.int .i64 0)), .dv (.d (.int .i64 0))] := Go.Avc.Eq.zeroAV_e a120
theorem zv125 : zeroAV Tryd.prog 125 = [.dv (.d (.int .i64 0)), .dv (.d (.int .i64 0))] := Go.Avc.Eq.zeroAV_e a125
theorem zv126 : zeroAV Tryd.prog 126 = [.dv (.d (.int .i64 0)), .dv (.d (.int .i64 0))] := Go.Avc.Eq.zeroAV_e a126
theorem zv128 : zeroAV Tryd.prog 128 = [.nil] := Go.Avc.Eq.zeroAV_e a128
theorem zv131 : zeroAV Tryd.prog 131 = [.dv (.d (.str ⟨#[]⟩)), .dv (.d (.str ⟨#[]⟩)), .dv (.d (.str ⟨#[]⟩)), .dv (.d (.str ⟨#[]⟩)), .dv (.d (.str ⟨#[]⟩)), .dv (.d (.str ⟨#[]⟩))] := Go.Avc.Eq.zeroAV_e a131
theorem zv133 : zeroAV Tryd.prog 133 = [.dv (.d (.str ⟨#[]⟩)), .dv (.d (.int .i64 0)), .dv (.d (.int .i64 0)), .dv (.d (.int .i64 0))] := Go.Avc.Eq.zeroAV_e a133
theorem zv134 : zeroAV Tryd.prog 134 = [.dv (.d (.str ⟨#[]⟩)), .dv (.d (.int .i64 0)), .dv (.d (.int .i64 0)), .dv (.d (.int .i64 0))] := Go.Avc.Eq.zeroAV_e a134
theorem zv136 : zeroAV Tryd.prog 136 = [.nil] := Go.Avc.Eq.zeroAV_e a136
theorem zv138 : zeroAV Tryd.prog 138 = [.dv (.d (.int .i64 0)), .dv (.d (.str ⟨#[]⟩)), .dv (.d (.int .i64 0)), .dv (.d (.str ⟨#[]⟩)), .dv (.d (.int .i64 0)), .dv (.d (.str ⟨#[]⟩)), .dv (.d (.int .i64 0)), .dv (.d (.str ⟨#[]⟩)), .dv (.d (.int .i64 0)), .dv (.d (.str ⟨#[]⟩)), .dv (.d (.int .i64 0)), .dv (.d (.str ⟨#[]⟩)), .dv (.d (.int .i64 0)), .dv (.d (.str ⟨#[]⟩)), .dv (.d (.int .i64 0)), .dv (.d (.str ⟨#[]⟩)), .dv (.d (.int .i64 0)), .dv (.d (.str ⟨#[]⟩)), .dv (.d (.int .i64 0)), .dv (.d (.str ⟨#[]⟩))] := Go.Avc.Eq.zeroAV_e a138
theorem zv149 : zeroAV Tryd.prog 149 = [.dv (.d (.int .u32 0))] := Go.Avc.Eq.zeroAV_e a149
theorem zv152 : zeroAV Tryd.prog 152 = [.dv (.d (.int .u64 0))] := Go.Avc.Eq.zeroAV_e a152
theorem zv171 : zeroAV Tryd.prog 171 = [.dv (.d (.bool false)), .dv (.d (.bool false)), .dv (.d (.bool false)), .dv (.d (.bool false)), .dv (.d (.bool false)), .dv (.d (.bool false)), .dv (.d (.bool false)), .dv (.d (.bool false)), .dv (.d (.bool false)), .dv (.d (.bool false)), .dv (.d (.bool false)), .dv (.d (.bool false)), .dv (.d (.bool false)), .dv (.d (.bool false)), .dv (.d (.bool false)), .dv (.d (.bool false)), .dv (.d (.bool false)), .dv (.d (.bool false)), .dv (.d (.bool false)), .dv (.d (.bool false)), .dv (.d (.bool false)), .dv (.d (.bool false)), .dv (.d (.bool false)), .dv (.d (.bool false)), .dv (.d (.bool false)), .dv (.d (.bool false)), .dv (.d (.bool false)), .dv (.d (.bool false)), .dv (.d (.bool false)), .dv (.d (.bool false)), .dv (.d (.bool false)), .dv (.d (.bool false)), .dv (.d (.bool false)), .dv (.d (.bool false)), .dv (.d (.bool false)), .dv (.d (.bool false)), .dv (.d (.bool false)), .dv (.d (.bool false)), .dv (.d (.bool false)), .dv (.d (.bool false)), .dv (.d (.bool false)), .dv (.d (.bool false)), .dv (.d (.bool false)), .dv (.d (.bool false)), .dv (.d (.bool false)), .dv (.d (.bool false)), .dv (.d (.bool false)), .dv (.d (.bool false)), .dv (.d (.bool false)), .dv (.d (.bool false)), .dv (.d (.bool false)), .dv (.d (.bool false)), .dv (.d (.bool false)), .dv (.d (.bool false)), .dv (.d (.bool false)), .dv (.d (.bool false)), .dv (.d (.bool false)), .dv (.d (.bool false)), .dv (.d (.bool false)), .dv (.d (.bool false)), .dv (.d (.bool false)), .dv (.d (.bool false)), .dv (.d (.bool false)), .dv (.d (.bool false)), .dv (.d (.bool false)), .dv (.d (.bool false)), .dv (.d (.bool false)), .dv (.d (.bool false)), .dv (.d (.bool false)), .dv (.d (.bool false)), .dv (.d (.bool false)), .dv (.d (.bool false)), .dv (.d (.bool false)), .dv (.d (.bool false)), .dv (.d (.bool false)), .dv (.d (.bool false)), .dv (.d (.bool false)), .dv (.d (.bool false)), .dv (.d (.bool false)), .dv (.d (.bool false)), .dv (.d (.bool false)), .dv (.d (.bool false)), .dv (.d (.bool false)), .dv (.d (.bool false)), .dv (.d (.bool false)), .dv (.d (.bool false)), .dv (.d (.bool false)), .dv (.d (.bool false)), .dv (.d (.bool false)), .dv (.d (.bool false)), .dv (.d (.bool false)), .dv (.d (.bool false)), .dv (.d (.bool false)), .dv (.d (.bool false)), .dv (.d (.bool false)), .dv (.d (.bool false)), .dv (.d (.bool false)), .dv (.d (.bool false)), .dv (.d (.bool false)), .dv (.d (.bool false)), .dv (.d (.bool false)), .dv (.d (.bool false)), .dv (.d (.bool false)), .dv (.d (.bool false)), .dv (.d (.bool false)), .dv (.d (.bool false)), .dv (.d (.bool false)), .dv (.d (.bool false)), .dv (.d (.bool false)), .dv (.d (.bool false)), .dv (.d (.bool false)), .dv (.d (.bool false)), .dv (.d (.bool false)), .dv (.d (.bool false)), .dv (.d (.bool false)), .dv (.d (.bool false)), .dv (.d (.bool false)), .dv (.d (.bool false)), .dv (.d (.bool false)), .dv (.d (.bool false)), .dv (.d (.bool false)), .dv (.d (.bool false)), .dv (.d (.bool false)), .dv (.d (.bool false)), .dv (.d (.bool false)), .dv (.d (.bool false)), .dv (.d (.bool false)), .dv (.d (.bool false)), .dv (.d (.bool false)), .dv (.d (.bool false)), .dv (.d (.bool false)), .dv (.d (.bool false)), .dv (.d (.bool false)), .dv (.d (.bool false)), .dv (.d (.bool false)), .dv (.d (.bool false)), .dv (.d (.bool false)), .dv (.d (.bool false)), .dv (.d (.bool false)), .dv (.d (.bool false)), .dv (.d (.bool false)), .dv (.d (.bool false)), .dv (.d (.bool false)), .dv (.d (.bool false)), .dv (.d (.bool false)), .dv (.d (.bool false)), .dv (.d (.bool false)), .dv (.d (.bool false)), .dv (.d (.bool false)), .dv (.d (.bool false)), .dv (.d (.bool false)), .dv (.d (.bool false)), .dv (.d (.bool false)), .dv (.d (.bool false)), .dv (.d (.bool false)), .dv (.d (.bool false)), .dv (.d (.bool false)), .dv (.d (.bool false)), .dv (.d (.bool false)), .dv (.d (.bool false)), .dv (.d (.bool false)), .dv (.d (.bool false)), .dv (.d (.bool false)), .dv (.d (.bool false)), .dv (.d (.bool false)), .dv (.d (.bool false)), .dv (.d (.bool false)), .dv (.d (.bool false)), .dv (.d (.bool false)), .dv (.d (.bool false)), .dv (.d (.bool false)), .dv (.d (.bool false)), .dv (.d (.bool false)), .dv (.d (.bool false)), .dv (.d (.bool false)), .dv (.d (.bool false)), .dv (.d (.bool false)), .dv (.d (.bool false)), .dv (.d (.bool false)), .dv (.d (.bool false)), .dv (.d (.bool false)), .dv (.d (.bool false)), .dv (.d (.bool false)), .dv (.d (.bool false)), .dv (.d (.bool false)), .dv (.d (.bool false)), .dv (.d (.bool false)), .dv (.d (.bool false)), .dv (.d (.bool false)), .dv (.d (.bool false)), .dv (.d (.bool false)), .dv (.d (.bool false)), .dv (.d (.bool false)), .dv (.d (.bool false)), .dv (.d (.bool false)), .dv (.d (.bool false)), .dv (.d (.bool false)), .dv (.d (.bool false)), .dv (.d (.bool false)), .dv (.d (.bool false)), .dv (.d (.bool false)), .dv (.d (.bool false)), .dv (.d (.bool false)), .dv (.d (.bool false)), .dv (.d (.bool false)), .dv (.d (.bool false)), .dv (.d (.bool false)), .dv (.d (.bool false)), .dv (.d (.bool false)), .dv (.d (.bool false)), .dv (.d (.bool false)), .dv (.d (.bool false)), .dv (.d (.bool false)), .dv (.d (.bool false)), .dv (.d (.bool false)), .dv (.d (.bool false)), .dv (.d (.bool false)), .dv (.d (.bool false)), .dv (.d (.bool false)), .dv (.d (.bool false)), .dv (.d (.bool false)), .dv (.d (.bool false)), .dv (.d (.bool false)), .dv (.d (.bool false)), .dv (.d (.bool false)), .dv (.d (.bool false)), .dv (.d (.bool false)), .dv (.d (.bool false)), .dv (.d (.bool false)), .dv (.d (.bool false)), .dv (.d (.bool false)), .dv (.d (.bool false)), .dv (.d (.bool false)), .dv (.d (.bool false)), .dv (.d (.bool false)), .dv (.d (.bool false)), .dv (.d (.bool false)), .dv (.d (.bool false)), .dv (.d (.bool false)), .dv (.d (.bool false)), .dv (.d (.bool false)), .dv (.d (.bool false)), .dv (.d (.bool false)), .dv (.d (.bool false)), .dv (.d (.bool false)), .dv (.d (.bool false)), .dv (.d (.bool false)), .dv (.d (.bool false)), .dv (.d (.bool false)), .dv (.d (.bool false)), .dv (.d (.bool false)), .dv (.d (.bool false)), .dv (.d (.bool false)), .dv (.d (.bool false)), .dv (.d (.bool false)), .dv (.d (.bool false))] := Go.Avc.Eq.zeroAV_e a171
theorem zv172 : zeroAV Tryd.prog 172 = [.dv (.d (.bool false)), .dv (.d (.bool false)), .dv (.d (.bool false)), .dv (.d (.bool false)), .dv (.d (.bool false)), .dv (.d (.bool false)), .dv (.d (.bool false)), .dv (.d (.bool false)), .dv (.d (.bool false)), .dv (.d (.bool false)), .dv (.d (.bool false)), .dv (.d (.bool false)), .dv (.d (.bool false)), .dv (.d (.bool false)), .dv (.d (.bool false)), .dv (.d (.bool false)), .dv (.d (.bool false)), .dv (.d (.bool false)), .dv (.d (.bool false)), .dv (.d (.bool false)), .dv (.d (.bool false)), .dv (.d (.bool false)), .dv (.d (.bool false)), .dv (.d (.bool false)), .dv (.d (.bool false)), .dv (.d (.bool false)), .dv (.d (.bool false)), .dv (.d (.bool false)), .dv (.d (.bool false)), .dv (.d (.bool false)), .dv (.d (.bool false)), .dv (.d (.bool false)), .dv (.d (.bool false)), .dv (.d (.bool false)), .dv (.d (.bool false)), .dv (.d (.bool false)), .dv (.d (.bool false)), .dv (.d (.bool false)), .dv (.d (.bool false)), .dv (.d (.bool false)), .dv (.d (.bool false)), .dv (.d (.bool false)), .dv (.d (.bool false)), .dv (.d (.bool false)), .dv (.d (.bool false)), .dv (.d (.bool false)), .dv (.d (.bool false)), .dv (.d (.bool false)), .dv (.d (.bool false)), .dv (.d (.bool false)), .dv (.d (.bool false)), .dv (.d (.bool false)), .dv (.d (.bool false)), .dv (.d (.bool false)), .dv (.d (.bool false)), .dv (.d (.bool false)), .dv (.d (.bool false)), .dv (.d (.bool false)), .dv (.d (.bool false)), .dv (.d (.bool false)), .dv (.d (.bool false)), .dv (.d (.bool false)), .dv (.d (.bool false)), .dv (.d (.bool false)), .dv (.d (.bool false)), .dv (.d (.bool false)), .dv (.d (.bool false)), .dv (.d (.bool false)), .dv (.d (.bool false)), .dv (.d (.bool false)), .dv (.d (.bool false)), .dv (.d (.bool false)), .dv (.d (.bool false)), .dv (.d (.bool false)), .dv (.d (.bool false)), .dv (.d (.bool false)), .dv (.d (.bool false)), .dv (.d (.bool false)), .dv (.d (.bool false)), .dv (.d (.bool false)), .dv (.d (.bool false)), .dv (.d (.bool false)), .dv (.d (.bool false)), .dv (.d (.bool false)), .dv (.d (.bool false)), .dv (.d (.bool false)), .dv (.d (.bool false)), .dv (.d (.bool false)), .dv (.d (.bool false)), .dv (.d (.bool false)), .dv (.d (.bool false)), .dv (.d (.bool false)), .dv (.d (.bool false)), .dv (.d (.bool false)), .dv (.d (.bool false)), .dv (.d (.bool false)), .dv (.d (.bool false)), .dv (.d (.bool false)), .dv (.d (.bool false)), .dv (.d (.bool false)), .dv (.d (.bool false)), .dv (.d (.bool false)), .dv (.d (.bool false)), .dv (.d (.bool false)), .dv (.d (.bool false)), .dv (.d (.bool false)), .dv (.d (.bool false)), .dv (.d (.bool false)), .dv (.d (.bool false)), .dv (.d (.bool false)), .dv (.d (.bool false)), .dv (.d (.bool false)), .dv (.d (.bool false)), .dv (.d (.bool false)), .dv (.d (.bool false)), .dv (.d (.bool false)), .dv (.d (.bool false)), .dv (.d (.bool false)), .dv (.d (.bool false)), .dv (.d (.bool false)), .dv (.d (.bool false)), .dv (.d (.bool false)), .dv (.d (.bool false)), .dv (.d (.bool false)), .dv (.d (.bool false)), .dv (.d (.bool false)), .dv (.d (.bool false)), .dv (.d (.bool false)), .dv (.d (.bool false)), .dv (.d (.bool false)), .dv (.d (.bool false)), .dv (.d (.bool false)), .dv (.d (.bool false)), .dv (.d (.bool false)), .dv (.d (.bool false)), .dv (.d (.bool false)), .dv (.d (.bool false)), .dv (.d (.bool false)), .dv (.d (.bool false)), .dv (.d (.bool false)), .dv (.d (.bool false)), .dv (.d (.bool false)), .dv (.d (.bool false)), .dv (.d (.bool false)), .dv (.d (.bool false)), .dv (.d (.bool false)), .dv (.d (.bool false)), .dv (.d (.bool false)), .dv (.d (.bool false)), .dv (.d (.bool false)), .dv (.d (.bool false)), .dv (.d (.bool false)), .dv (.d (.bool false)), .dv (.d (.bool false)), .dv (.d (.bool false)), .dv (.d (.bool false)), .dv (.d (.bool false)), .dv (.d (.bool false)), .dv (.d (.bool false)), .dv (.d (.bool false)), .dv (.d (.bool false)), .dv (.d (.bool false)), .dv (.d (.bool false)), .dv (.d (.bool false)), .dv (.d (.bool false)), .dv (.d (.bool false)), .dv (.d (.bool false)), .dv (.d (.bool false)), .dv (.d (.bool false)), .dv (.d (.bool false)), .dv (.d (.bool false)), .dv (.d (.bool false)), .dv (.d (.bool false)), .dv (.d (.bool false)), .dv (.d (.bool false)), .dv (.d (.bool false)), .dv (.d (.bool false)), .dv (.d (.bool false)), .dv (.d (.bool false)), .dv (.d (.bool false)), .dv (.d (.bool false)), .dv (.d (.bool false)), .dv (.d (.bool false)), .dv (.d (.bool false)), .dv (.d (.bool false)), .dv (.d (.bool false)), .dv (.d (.bool false)), .dv (.d (.bool false)), .dv (.d (.bool false)), .dv (.d (.bool false)), .dv (.d (.bool false)), .dv (.d (.bool false)), .dv (.d (.bool false)), .dv (.d (.bool false)), .dv (.d (.bool false)), .dv (.d (.bool false)), .dv (.d (.bool false)), .dv (.d (.bool false)), .dv (.d (.bool false)), .dv (.d (.bool false)), .dv (.d (.bool false)), .dv (.d (.bool false)), .dv (.d (.bool false)), .dv (.d (.bool false)), .dv (.d (.bool false)), .dv (.d (.bool false)), .dv (.d (.bool false)), .dv (.d (.bool false)), .dv (.d (.bool false)), .dv (.d (.bool false)), .dv (.d (.bool false)), .dv (.d (.bool false)), .dv (.d (.bool false)), .dv (.d (.bool false)), .dv (.d (.bool false)), .dv (.d (.bool false)), .dv (.d (.bool false)), .dv (.d (.bool false)), .dv (.d (.bool false)), .dv (.d (.bool false)), .dv (.d (.bool false)), .dv (.d (.bool false)), .dv (.d (.bool false)), .dv (.d (.bool false)), .dv (.d (.bool false)), .dv (.d (.bool false)), .dv (.d (.bool false)), .dv (.d (.bool false)), .dv (.d (.bool false)), .dv (.d (.bool false)), .dv (.d (.bool false)), .dv (.d (.bool false)), .dv (.d (.bool false)), .dv (.d (.bool false)), .dv (.d (.bool false)), .dv (.d (.bool false)), .dv (.d (.bool false)), .dv (.d (.bool false)), .dv (.d (.bool false)), .dv (.d (.bool false)), .dv (.d (.bool false)), .dv (.d (.bool false)), .dv (.d (.bool false)), .dv (.d (.bool false)), .dv (.d (.bool false)), .dv (.d (.bool false)), .dv (.d (.bool false)), .dv (.d (.bool false)), .dv (.d (.bool false)), .dv (.d (.bool false)), .dv (.d (.bool false)), .dv (.d (.bool false)), .dv (.d (.bool false)), .dv (.d (.bool false)), .dv (.d (.bool false)), .dv (.d (.bool false))] := Go.Avc.Eq.zeroAV_e a172
theorem zv187 : zeroAV Tryd.prog 187 = [.dv (.d (.int .u8 0)), .dv (.d (.int .u8 0)), .dv (.d (.int .u8 0)), .dv (.d (.int .u8 0)), .dv (.d (.int .u8 0)), .dv (.d (.int .u8 0)), .dv (.d (.int .u8 0)), .dv (.d (.int .u8 0)), .dv (.d (.int .u8 0)), .dv (.d (.int .u8 0)), .dv (.d (.int .u8 0)), .dv (.d (.int .u8 0)), .dv (.d (.int .u8 0)), .dv (.d (.int .u8 0)), .dv (.d (.int .u8 0)), .dv (.d (.int .u8 0)), .dv (.d (.int .u8 0)), .dv (.d (.int .u8 0)), .dv (.d (.int .u8 0)), .dv (.d (.int .u8 0)), .dv (.d (.int .u8 0)), .dv (.d (.int .u8 0)), .dv (.d (.int .u8 0)), .dv (.d (.int .u8 0)), .dv (.d (.int .u8 0)), .dv (.d (.int .u8 0)), .dv (.d (.int .u8 0)), .dv (.d (.int .u8 0)), .dv (.d (.int .u8 0)), .dv (.d (.int .u8 0)), .dv (.d (.int .u8 0)), .dv (.d (.int .u8 0)), .dv (.d (.int .u8 0)), .dv (.d (.int .u8 0)), .dv (.d (.int .u8 0)), .dv (.d (.int .u8 0)), .dv (.d (.int .u8 0)), .dv (.d (.int .u8 0)), .dv (.d (.int .u8 0)), .dv (.d (.int .u8 0)), .dv (.d (.int .u8 0)), .dv (.d (.int .u8 0)), .dv (.d (.int .u8 0)), .dv (.d (.int .u8 0)), .dv (.d (.int .u8 0)), .dv (.d (.int .u8 0)), .dv (.d (.int .u8 0)), .dv (.d (.int .u8 0)), .dv (.d (.int .u8 0)), .dv (.d (.int .u8 0)), .dv (.d (.int .u8 0)), .dv (.d (.int .u8 0)), .dv (.d (.int .u8 0)), .dv (.d (.int .u8 0)), .dv (.d (.int .u8 0)), .dv (.d (.int .u8 0)), .dv (.d (.int .u8 0)), .dv (.d (.int .u8 0)), .dv (.d (.int .u8 0)), .dv (.d (.int .u8 0)), .dv (.d (.int .u8 0)), .dv (.d (.int .u8 0)), .dv (.d (.int .u8 0)), .dv (.d (.int .u8 0)), .dv (.d (.int .u8 0)), .dv (.d (.int .u8 0)), .dv (.d (.int .u8 0)), .dv (.d (.int .u8 0)), .dv (.d (.int .u8 0)), .dv (.d (.int .u8 0)), .dv (.d (.int .u8 0)), .dv (.d (.int .u8 0)), .dv (.d (.int .u8 0)), .dv (.d (.int .u8 0)), .dv (.d (.int .u8 0)), .dv (.d (.int .u8 0)), .dv (.d (.int .u8 0)), .dv (.d (.int .u8 0)), .dv (.d (.int .u8 0)), .dv (.d (.int .u8 0)), .dv (.d (.int .u8 0)), .dv (.d (.int .u8 0)), .dv (.d (.int .u8 0)), .dv (.d (.int .u8 0)), .dv (.d (.int .u8 0)), .dv (.d (.int .u8 0)), .dv (.d (.int .u8 0)), .dv (.d (.int .u8 0)), .dv (.d (.int .u8 0)), .dv (.d (.int .u8 0)), .dv (.d (.int .u8 0)), .dv (.d (.int .u8 0)), .dv (.d (.int .u8 0)), .dv (.d (.int .u8 0)), .dv (.d (.int .u8 0)), .dv (.d (.int .u8 0)), .dv (.d (.int .u8 0)), .dv (.d (.int .u8 0)), .dv (.d (.int .u8 0)), .dv (.d (.int .u8 0)), .dv (.d (.int .u8 0)), .dv (.d (.int .u8 0)), .dv (.d (.int .u8 0)), .dv (.d (.int .u8 0)), .dv (.d (.int .u8 0)), .dv (.d (.int .u8 0)), .dv (.d (.int .u8 0)), .dv (.d (.int .u8 0)), .dv (.d (.int .u8 0)), .dv (.d (.int .u8 0)), .dv (.d (.int .u8 0)), .dv (.d (.int .u8 0)), .dv (.d (.int .u8 0)), .dv (.d (.int .u8 0)), .dv (.d (.int .u8 0)), .dv (.d (.int .u8 0)), .dv (.d (.int .u8 0)), .dv (.d (.int .u8 0)), .dv (.d (.int .u8 0)), .dv (.d (.int .u8 0)), .dv (.d (.int .u8 0)), .dv (.d (.int .u8 0)), .dv (.d (.int .u8 0)), .dv (.d (.int .u8 0)), .dv (.d (.int .u8 0)), .dv (.d (.int .u8 0)), .dv (.d (.int .u8 0)), .dv (.d (.int .u8 0)), .dv (.d (.int .u8 0)), .dv (.d (.int .u8 0)), .dv (.d (.int .u8 0)), .dv (.d (.int .u8 0)), .dv (.d (.int .u8 0)), .dv (.d (.int .u8 0)), .dv (.d (.int .u8 0)), .dv (.d (.int .u8 0)), .dv (.d (.int .u8 0)), .dv (.d (.int .u8 0)), .dv (.d (.int .u8 0)), .dv (.d (.int .u8 0)), .dv (.d (.int .u8 0)), .dv (.d (.int .u8 0)), .dv (.d (.int .u8 0)), .dv (.d (.int .u8 0)), .dv (.d (.int .u8 0)), .dv (.d (.int .u8 0)), .dv (.d (.int .u8 0)), .dv (.d (.int .u8 0)), .dv (.d (.int .u8 0)), .dv (.d (.int .u8 0)), .dv (.d (.int .u8 0)), .dv (.d (.int .u8 0)), .dv (.d (.int .u8 0)), .dv (.d (.int .u8 0)), .dv (.d (.int .u8 0)), .dv (.d (.int .u8 0)), .dv (.d (.int .u8 0)), .dv (.d (.int .u8 0)), .dv (.d (.int .u8 0)), .dv (.d (.int .u8 0)), .dv (.d (.int .u8 0)), .dv (.d (.int .u8 0)), .dv (.d (.int .u8 0)), .dv (.d (.int .u8 0)), .dv (.d (.int .u8 0)), .dv (.d (.int .u8 0)), .dv (.d (.int .u8 0)), .dv (.d (.int .u8 0)), .dv (.d (.int .u8 0)), .dv (.d (.int .u8 0)), .dv (.d (.int .u8 0)), .dv (.d (.int .u8 0)), .dv (.d (.int .u8 0)), .dv (.d (.int .u8 0)), .dv (.d (.int .u8 0)), .dv (.d (.int .u8 0)), .dv (.d (.int .u8 0)), .dv (.d (.int .u8 0)), .dv (.d (.int .u8 0)), .dv (.d (.int .u8 0)), .dv (.d (.int .u8 0)), .dv (.d (.int .u8 0)), .dv (.d (.int .u8 0)), .dv (.d (.int .u8 0)), .dv (.d (.int .u8 0)), .dv (.d (.int .u8 0)), .dv (.d (.int .u8 0)), .dv (.d (.int .u8 0)), .dv (.d (.int .u8 0)), .dv (.d (.int .u8 0)), .dv (.d (.int .u8 0)), .dv (.d (.int .u8 0)), .dv (.d (.int .u8 0)), .dv (.d (.int .u8 0)), .dv (.d (.int .u8 0)), .dv (.d (.int .u8 0)), .dv (.d (.int .u8 0)), .dv (.d (.int .u8 0)), .dv (.d (.int .u8 0)), .dv (.d (.int .u8 0)), .dv (.d (.int .u8 0)), .dv (.d (.int .u8 0)), .dv (.d (.int .u8 0)), .dv (.d (.int .u8 0)), .dv (.d (.int .u8 0)), .dv (.d (.int .u8 0)), .dv (.d (.int .u8 0)), .dv (.d (.int .u8 0)), .dv (.d (.int .u8 0)), .dv (.d (.int .u8 0)), .dv (.d (.int .u8 0)), .dv (.d (.int .u8 0)), .dv (.d (.int .u8 0)), .dv (.d (.int .u8 0)), .dv (.d (.int .u8 0)), .dv (.d (.int .u8 0)), .dv (.d (.int .u8 0)), .dv (.d (.int .u8 0)), .dv (.d (.int .u8 0)), .dv (.d (.int .u8 0)), .dv (.d (.int .u8 0)), .dv (.d (.int .u8 0)), .dv (.d (.int .u8 0)), .dv (.d (.int .u8 0)), .dv (.d (.int .u8 0)), .dv (.d (.int .u8 0)), .dv (.d (.int .u8 0)), .dv (.d (.int .u8 0)), .dv (.d (.int .u8 0)), .dv (.d (.int .u8 0)), .dv (.d (.int .u8 0)), .dv (.d (.int .u8 0)), .dv (.d (.int .u8 0)), .dv (.d (.int .u8 0)), .dv (.d (.int .u8 0)), .dv (.d (.int .u8 0)), .dv (.d (.int .u8 0)), .dv (.d (.int .u8 0)), .dv (.d (.int .u8 0)), .dv (.d (.int .u8 0)), .dv (.d (.int .u8 0)), .dv (.d (.int .u8 0)), .dv (.d (.int .u8 0)), .dv (.d (.int .u8 0)), .dv (.d (.int .u8 0)), .dv (.d (.int .u8 0)), .dv (.d (.int .u8 0)), .dv (.d (.int .u8 0)), .dv (.d (.int .u8 0)), .dv (.d (.int .u8 0)), .dv (.d (.int .u8 0)), .dv (.d (.int .u8 0)), .dv (.d (.int .u8 0)), .dv (.d (.int .u8 0)), .dv (.d (.int .u8 0)), .dv (.d (.int .u8 0))] := Go.Avc.Eq.zeroAV_e a187
theorem zv188 : zeroAV Tryd.prog 188 = [.dv (.d (.int .u8 0)), .dv (.d (.int .u8 0))] := Go.Avc.Eq.zeroAV_e a188
theorem zv189 : zeroAV Tryd.prog 189 = [.dv (.d (.int .u8 0)), .dv (.d (.int .u8 0))] := Go.Avc.Eq.zeroAV_e a189
theorem zv190 : zeroAV Tryd.prog 190 = [.dv (.d (.int .u8 0)), .dv (.d (.int .u8 0)), .dv (.d (.int .u8 0)), .dv (.d (.int .u8 0)), .dv (.d (.int .u8 0)), .dv (.d (.int .u8 0)), .dv (.d (.int .u8 0)), .dv (.d (.int .u8 0)), .dv (.d (.int .u8 0)), .dv (.d (.int .u8 0)), .dv (.d (.int .u8 0)), .dv (.d (.int .u8 0)), .dv (.d (.int .u8 0)), .dv (.d (.int .u8 0)), .dv (.d (.int .u8 0)), .dv (.d (.int .u8 0)), .dv (.d (.int .u8 0)), .dv (.d (.int .u8 0)), .dv (.d (.int .u8 0)), .dv (.d (.int .u8 0)), .dv (.d (.int .u8 0)), .dv (.d (.int .u8 0)), .dv (.d (.int .u8 0)), .dv (.d (.int .u8 0)), .dv (.d (.int .u8 0)), .dv (.d (.int .u8 0)), .dv (.d (.int .u8 0)), .dv (.d (.int .u8 0)), .dv (.d (.int .u8 0)), .dv (.d (.int .u8 0)), .dv (.d (.int .u8 0)), .dv (.d (.int .u8 0))] := Go.Avc.Eq.zeroAV_e a190
theorem zv196 : zeroAV Tryd.prog 196 = [.nil] := Go.Avc.Eq.zeroAV_e a196
theorem zv197 : zeroAV Tryd.prog 197 = [.dv (.d (.int .i64 0)), .dv (.d (.int .i64 0))] := Go.Avc.Eq.zeroAV_e a197
theorem zv198 : zeroAV Tryd.prog 198 = [.dv (.d (.int .i64 0)), .dv (.d (.int .i64 0))] := Go.Avc.Eq.zeroAV_e a198
theorem zv204 : zeroAV Tryd.prog 204 = [] := Go.Avc.Eq.zeroAV_e a204
theorem zv205 : zeroAV Tryd.prog 205 = [] := Go.Avc.Eq.zeroAV_e a205
theorem zv206 : zeroAV Tryd.prog 206 = [] := Go.Avc.Eq.zeroAV_e a206
theorem zv207 : zeroAV Tryd.prog 207 = [.dv (.d (.int .u8 0))] := Go.Avc.Eq.zeroAV_e a207
theorem zv208 : zeroAV Tryd.prog 208 = [.dv (.d (.int .u8 0))] := Go.Avc.Eq.zeroAV_e a208
theorem zv210 : zeroAV Tryd.prog 210 = [.dv (.d (.int .i32 0))] := Go.Avc.Eq.zeroAV_e a210
theorem zv211 : zeroAV Tryd.prog 211 = [.dv (.d (.int .i32 0))] := Go.Avc.Eq.zeroAV_e a211
attribute [go_sem] c0 b0 k0 Tryd.underlying0 c1 b1 k1 Tryd.underlying1 c2 b2 k2 z2 zv2 a2 o2 Tryd.underlying2 c3 b3 k3 z3 zv3 a3 o3 Tryd.underlying3 c4 b4 k4 z4 zv4 a4 o4 Tryd.underlying4 c5 b5 k5 z5 zv5 a5 o5 Tryd.underlying5
attribute [go_sem] c6 b6 k6 z6 zv6 a6 o6 Tryd.underlying6 c7 b7 k7 z7 zv7 a7 f7_0 f7_1 f7_2 f7_3 p7 Tryd.underlying7 c8 b8 k8 z8 zv8 a8 f8_0 f8_1 f8_2 f8_3 p8 Tryd.underlying8 c9 b9 k9 z9 zv9 a9 o9 Tryd.underlying9
attribute [go_sem] c10 b10 k10 z10 zv10 a10 o10 Tryd.underlying10 c11 b11 k11 z11 zv11 a11 o11 Tryd.underlying11 c12 b12 k12 z12 zv12 a12 o12 Tryd.underlying12 c13 b13 k13 z13 zv13 a13 f13_0 f13_1 p13 Tryd.underlying13 c14 b14 k14 z14 zv14 a14
attribute [go_sem] f14_0 f14_1 p14 Tryd.underlying14 c15 b15 k15 Tryd.underlying15 c16 b16 k16 Tryd.underlying16 c17 b17 k17 Tryd.underlying17 c18 b18 k18 f18_0 p18 Tryd.underlying18 c19 b19 k19 f19_0 p19 Tryd.underlying19 c20 b20 k20 Tryd.underlying20 c21 b21 k21 z21 zv21 a21 o21 Tryd.underlying21
attribute [go_sem] c22 b22 k22 z22 zv22 a22 o22 Tryd.underlying22 c23 b23 k23 Tryd.underlying23 c24 b24 k24 z24 zv24 a24 f24_0 f24_1 p24 Tryd.underlying24 c25 b25 k25 z25 zv25 a25 f25_0 f25_1 p25 Tryd.underlying25 c26 b26 k26 Tryd.underlying26 c27 b27 k27 Tryd.underlying27
attribute [go_sem] c28 b28 k28 Tryd.underlying28 c29 b29 k29 Tryd.underlying29 c30 b30 k30 z30 zv30 a30 o30 Tryd.underlying30 c31 b31 k31 z31 zv31 a31 o31 Tryd.underlying31 c32 b32 k32 Tryd.underlying32 c33 b33 k33 Tryd.underlying33 c34 b34 k34 Tryd.underlying34 c35 b35 k35 Tryd.underlying35
attribute [go_sem] c36 b36 k36 Tryd.underlying36 c37 b37 k37 Tryd.underlying37 c38 b38 k38 Tryd.underlying38 c39 b39 k39 Tryd.underlying39 c40 b40 k40 Tryd.underlying40 c41 b41 k41 Tryd.underlying41 c42 b42 k42 Tryd.underlying42 c43 b43 k43 Tryd.underlying43 c44 b44 k44 z44 zv44 a44 o44 Tryd.underlying44
attribute [go_sem] c45 b45 k45 z45 zv45 a45 o45 Tryd.underlying45 c46 b46 k46 z46 zv46 a46 f46_0 f46_1 f46_2 f46_3 f46_4 f46_5 f46_6 p46 Tryd.underlying46 c47 b47 k47 z47 zv47 a47 f47_0 f47_1 f47_2 f47_3 f47_4 f47_5 f47_6 p47 Tryd.underlying47 c48 b48
attribute [go_sem] k48 Tryd.underlying48 c49 b49 k49 Tryd.underlying49 c50 b50 k50 z50 zv50 a50 f50_0 f50_1 f50_2 f50_3 f50_4 p50 Tryd.underlying50 c51 b51 k51 z51 zv51 a51 f51_0 f51_1 f51_2 f51_3 f51_4 p51 Tryd.underlying51 c52 b52 k52 Tryd.underlying52 c53 b53 k53 Tryd.underlying53
attribute [go_sem] c54 b54 k54 Tryd.underlying54 c55 b55 k55 z55 zv55 a55 p55 Tryd.underlying55 c56 b56 k56 Tryd.underlying56 c57 b57 k57 Tryd.underlying57 c58 b58 k58 Tryd.underlying58 c59 b59 k59 Tryd.underlying59 c60 b60 k60 z60 zv60 a60 o60 Tryd.underlying60 c61 b61 k61 z61
attribute [go_sem] zv61 a61 f61_0 f61_1 p61 Tryd.underlying61 c62 b62 k62 z62 zv62 a62 f62_0 f62_1 p62 Tryd.underlying62 c63 b63 k63 Tryd.underlying63 c64 b64 k64 Tryd.underlying64 c65 b65 k65 Tryd.underlying65 c66 b66 k66 Tryd.underlying66 c67 b67 k67 Tryd.underlying67 c68 b68 k68 Tryd.underlying68
attribute [go_sem] c69 b69 k69 Tryd.underlying69 c70 b70 k70 z70 zv70 a70 f70_0 f70_1 f70_2 p70 Tryd.underlying70 c71 b71 k71 z71 zv71 a71 f71_0 f71_1 f71_2 p71 Tryd.underlying71 c72 b72 k72 Tryd.underlying72 c73 b73 k73 z73 zv73 a73 o73 Tryd.underlying73 c74 b74
attribute [go_sem] k74 Tryd.underlying74 c75 b75 k75 z75 zv75 a75 f75_0 f75_1 p75 Tryd.underlying75 c76 b76 k76 z76 zv76 a76 f76_0 f76_1 p76 Tryd.underlying76 c77 b77 k77 Tryd.underlying77 c78 b78 k78 Tryd.underlying78 c79 b79 k79 z79 zv79 a79 o79 Tryd.underlying79 c80 b80
attribute [go_sem] k80 Tryd.underlying80 c81 b81 k81 Tryd.underlying81 c82 b82 k82 Tryd.underlying82 c83 b83 k83 Tryd.underlying83 c84 b84 k84 z84 zv84 a84 f84_0 f84_1 p84 Tryd.underlying84 c85 b85 k85 z85 zv85 a85 f85_0 f85_1 p85 Tryd.underlying85 c86 b86 k86 Tryd.underlying86 c87 b87
attribute [go_sem] k87 Tryd.underlying87 c88 b88 k88 Tryd.underlying88 c89 b89 k89 Tryd.underlying89 c90 b90 k90 Tryd.underlying90 c91 b91 k91 Tryd.underlying91 c92 b92 k92 Tryd.underlying92 c93 b93 k93 Tryd.underlying93 c94 b94 k94 z94 zv94 a94 o94 Tryd.underlying94 c95 b95 k95 f95_0 f95_1 p95
attribute [go_sem] Tryd.underlying95 c96 b96 k96 f96_0 f96_1 p96 Tryd.underlying96 c97 b97 k97 Tryd.underlying97 c98 b98 k98 Tryd.underlying98 c99 b99 k99 Tryd.underlying99 c100 b100 k100 Tryd.underlying100 c101 b101 k101 Tryd.underlying101 c102 b102 k102 Tryd.underlying102 c103 b103 k103 Tryd.underlying103 c104 b104 k104 Tryd.underlying104
attribute [go_sem] c105 b105 k105 Tryd.underlying105 c106 b106 k106 Tryd.underlying106 c107 b107 k107 z107 zv107 a107 o107 Tryd.underlying107 c108 b108 k108 Tryd.underlying108 c109 b109 k109 Tryd.underlying109 c110 b110 k110 Tryd.underlying110 c111 b111 k111 Tryd.underlying111 c112 b112 k112 Tryd.underlying112 c113 b113 k113 z113
attribute [go_sem] zv113 a113 o113 Tryd.underlying113 c114 b114 k114 Tryd.underlying114 c115 b115 k115 Tryd.underlying115 c116 b116 k116 z116 zv116 a116 o116 Tryd.underlying116 c117 b117 k117 z117 zv117 a117 o117 Tryd.underlying117 c118 b118 k118 Tryd.underlying118 c119 b119 k119 z119 zv119 a119 f119_0 f119_1
attribute [go_sem] f119_2 f119_3 p119 Tryd.underlying119 c120 b120 k120 z120 zv120 a120 f120_0 f120_1 f120_2 f120_3 p120 Tryd.underlying120 c121 b121 k121 Tryd.underlying121 c122 b122 k122 Tryd.underlying122 c123 b123 k123 Tryd.underlying123 c124 b124 k124 Tryd.underlying124 c125 b125 k125 z125 zv125 a125 f125_0 f125_1
attribute [go_sem] p125 Tryd.underlying125 c126 b126 k126 z126 zv126 a126 f126_0 f126_1 p126 Tryd.underlying126 c127 b127 k127 Tryd.underlying127 c128 b128 k128 z128 zv128 a128 o128 Tryd.underlying128 c129 b129 k129 Tryd.underlying129 c130 b130 k130 Tryd.underlying130 c131 b131 k131 z131 zv131 a131 p131 Tryd.underlying131
attribute [go_sem] c132 b132 k132 Tryd.underlying132 c133 b133 k133 z133 zv133 a133 f133_0 f133_1 f133_2 f133_3 p133 Tryd.underlying133 c134 b134 k134 z134 zv134 a134 f134_0 f134_1 f134_2 f134_3 p134 Tryd.underlying134 c135 b135 k135 Tryd.underlying135 c136 b136 k136 z136 zv136 a136 o136 Tryd.underlying136
attribute [go_sem] c137 b137 k137 Tryd.underlying137 c138 b138 k138 z138 zv138 a138 p138 Tryd.underlying138 c139 b139 k139 Tryd.underlying139 c140 b140 k140 Tryd.underlying140 c141 b141 k141 Tryd.underlying141 c142 b142 k142 Tryd.underlying142 c143 b143 k143 Tryd.underlying143 c144 b144 k144 Tryd.underlying144 c145 b145 k145 Tryd.underlying145
attribute [go_sem] c146 b146 k146 Tryd.underlying146 c147 b147 k147 Tryd.underlying147 c148 b148 k148 Tryd.underlying148 c149 b149 k149 z149 zv149 a149 o149 Tryd.underlying149 c150 b150 k150 Tryd.underlying150 c151 b151 k151 Tryd.underlying151 c152 b152 k152 z152 zv152 a152 o152 Tryd.underlying152 c153 b153 k153 Tryd.underlying153
attribute [go_sem] c154 b154 k154 Tryd.underlying154 c155 b155 k155 Tryd.underlying155 c156 b156 k156 Tryd.underlying156 c157 b157 k157 Tryd.underlying157 c158 b158 k158 Tryd.underlying158 c159 b159 k159 Tryd.underlying159 c160 b160 k160 Tryd.underlying160 c161 b161 k161 Tryd.underlying161 c162 b162 k162 Tryd.underlying162 c163 b163 k163 Tryd.underlying163
attribute [go_sem] c164 b164 k164 Tryd.underlying164 c165 b165 k165 Tryd.underlying165 c166 b166 k166 Tryd.underlying166 c167 b167 k167 Tryd.underlying167 c168 b168 k168 Tryd.underlying168 c169 b169 k169 Tryd.underlying169 c170 b170 k170 Tryd.underlying170 c171 b171 k171 z171 zv171 a171 p171 Tryd.underlying171 c172 b172 k172 z172
attribute [go_sem] zv172 a172 p172 Tryd.underlying172 c173 b173 k173 Tryd.underlying173 c174 b174 k174 Tryd.underlying174 c175 b175 k175 Tryd.underlying175 c176 b176 k176 Tryd.underlying176 c177 b177 k177 Tryd.underlying177 c178 b178 k178 Tryd.underlying178 c179 b179 k179 Tryd.underlying179 c180 b180 k180 Tryd.underlying180 c181 b181 k181 Tryd.underlying181
attribute [go_sem] c182 b182 k182 Tryd.underlying182 c183 b183 k183 Tryd.underlying183 c184 b184 k184 Tryd.underlying184 c185 b185 k185 Tryd.underlying185 c186 b186 k186 Tryd.underlying186 c187 b187 k187 z187 zv187 a187 p187 Tryd.underlying187 c188 b188 k188 z188 zv188 a188 f188_0 f188_1 p188 Tryd.underlying188 c189 b189
attribute [go_sem] k189 z189 zv189 a189 f189_0 f189_1 p189 Tryd.underlying189 c190 b190 k190 z190 zv190 a190 p190 Tryd.underlying190 c191 b191 k191 Tryd.underlying191 c192 b192 k192 Tryd.underlying192 c193 b193 k193 Tryd.underlying193 c194 b194 k194 Tryd.underlying194 c195 b195 k195 Tryd.underlying195 c196 b196 k196 z196
attribute [go_sem] zv196 a196 o196 Tryd.underlying196 c197 b197 k197 z197 zv197 a197 f197_0 f197_1 p197 Tryd.underlying197 c198 b198 k198 z198 zv198 a198 f198_0 f198_1 p198 Tryd.underlying198 c199 b199 k199 Tryd.underlying199 c200 b200 k200 Tryd.underlying200 c201 b201 k201 Tryd.underlying201 c202 b202 k202 f202_0
attribute [go_sem] f202_1 f202_2 f202_3 p202 Tryd.underlying202 c203 b203 k203 f203_0 f203_1 f203_2 f203_3 p203 Tryd.underlying203 c204 b204 k204 z204 zv204 a204 p204 Tryd.underlying204 c205 b205 k205 z205 zv205 a205 f205_0 p205 Tryd.underlying205 c206 b206 k206 z206 zv206 a206 f206_0 p206 Tryd.underlying206
attribute [go_sem] c207 b207 k207 z207 zv207 a207 o207 Tryd.underlying207 c208 b208 k208 z208 zv208 a208 o208 Tryd.underlying208 c209 b209 k209 Tryd.underlying209 c210 b210 k210 z210 zv210 a210 o210 Tryd.underlying210 c211 b211 k211 z211 zv211 a211 o211 Tryd.underlying211 c212 b212 k212 f212_0
attribute [go_sem] f212_1 f212_2 f212_3 f212_4 f212_5 f212_6 f212_7 f212_8 f212_9 f212_10 p212 Tryd.underlying212 c213 b213 k213 f213_0 f213_1 f213_2 f213_3 f213_4 f213_5 f213_6 f213_7 f213_8 f213_9 f213_10 p213 Tryd.underlying213
end Go.Avc.F
