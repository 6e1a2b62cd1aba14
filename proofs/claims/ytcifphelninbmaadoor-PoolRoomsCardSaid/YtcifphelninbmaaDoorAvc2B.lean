/- The calculus: strings.Builder: what its functions do, as a condition on the program. No condition. -/
import Derived.Test.YtcifphelninbmaaDoorAvc2
import Derived.Lib.AppendStr
set_option linter.unusedVariables false
namespace Go.Avc
open Go
abbrev bT : TypeId := 96
abbrev bE : TypeId := 5
abbrev fWB : FuncId := 59
abbrev fWS : FuncId := 60
abbrev fSt : FuncId := 62
abbrev fLn : FuncId := 67
/-- Is it a function of the builder's? -/
def bF (f : FuncId) : Bool := f == fWB || f == fWS || f == fSt || f == fLn
/-- A builder in block b with buffer v. -/
def Bld (w : World) (b : Nat) (v : Value) : Prop := ∃ p, (p = .pointer none ∨ p = .pointer (some ⟨b, 0, none⟩)) ∧ w.heap[b]? = some (.cells #[p, v] bT (0, 0))
/-- What a write into a builder leaves: the builder with a new buffer, all else as it was. -/
def Wrote (B b : Nat) (w : World) (v : Value) (bs : List Value) (w' : World) : Prop := ∃ v', w'.heap[b]? = some (.cells #[.pointer (some ⟨b, 0, none⟩), v'] bT (0, 0)) ∧ w'.ownsRow B bE 1 v' bs.length bs ∧ (v'.ownBlock = none ∨ v'.ownBlock = v.ownBlock ∨ ∃ k, v'.ownBlock = some k ∧ w.heap.size ≤ k ∧ k < w'.heap.size) ∧
  w'.os = w.os ∧ w'.tape = w.tape ∧ w'.output = w.output ∧ w.heap.size ≤ w'.heap.size ∧ ∀ k, k < w.heap.size → k ≠ b → v.ownBlock ≠ some k → w'.heap[k]? = w.heap[k]?
/-- All blocks but one are as they were. -/
def Else (w : World) (k0 : Option Nat) (w' : World) : Prop := w'.os = w.os ∧ w'.tape = w.tape ∧ w'.output = w.output ∧ w.heap.size ≤ w'.heap.size ∧ ∀ k, k < w.heap.size → k0 ≠ some k → w'.heap[k]? = w.heap[k]?
/-- What the program's builder does. -/
structure BldOk (P : Program) : Prop where
  mix : P.follows .mixedOrders = true
  eb : Enters P fWB
  es : Enters P fWS
  et : Enters P fSt
  el : fLn = 999999 ∨ Enters P fLn
  al : ∃ i, P.info? bT = some i ∧ i.zero = some (.agg #[.pointer none, .slice none 0 0])
  wb : ∀ (B b : Nat) (bs : List Value) (c : Int) (w : World) (v : Value), Bld w b v → w.ownsRow B bE 1 v bs.length bs → bs.length + 1 ≤ 140737488355328 → B ≤ w.heap.size →
    Calls P fWB #[.pointer (some ⟨b, 0, none⟩), .int .u8 c] w fun e w' => e = .returned .nilIface ∧ Wrote B b w v (bs ++ [.int .u8 c]) w'
  ws : ∀ (B b : Nat) (bs : List Value) (s : ByteArray) (w : World) (v : Value), Bld w b v → w.ownsRow B bE 1 v bs.length bs → bs.length + s.size ≤ 140737488355328 → B ≤ w.heap.size →
    Calls P fWS #[.pointer (some ⟨b, 0, none⟩), .string s] w fun e w' => e = .returned (.tuple #[.int .i64 s.size, .nilIface]) ∧ Wrote B b w v (bs ++ Lib.strCells s) w'
  st : ∀ (B b : Nat) (l : List UInt8) (w : World) (v : Value), Bld w b v → w.ownsRow B bE 1 v l.length (l.map fun x => .int .u8 x.toNat) → B ≤ w.heap.size →
    Calls P fSt #[.pointer (some ⟨b, 0, none⟩)] w fun e w' => e = .returned (.string ⟨l.toArray⟩) ∧ Else w v.ownBlock w'
  ln : fLn = 999999 ∨ ∀ (B b : Nat) (bs : List Value) (w : World) (v : Value), Bld w b v → w.ownsRow B bE 1 v bs.length bs →
    Calls P fLn #[.pointer (some ⟨b, 0, none⟩)] w fun e w' => e = .returned (.int .i64 bs.length) ∧ w' = w
end Go.Avc
