/- strings.Builder's WriteByte and WriteString, walked: what they leave. No condition. -/
import Derived.Test.YtlaplgpnbbmbgaaDoorChecked
import Derived.Lib.Builder
import Derived.Lib.AppendStr
import Derived.Lib.Strings
import Derived.Lib.Slices
import Derived.Lib.Walk
import Derived.WalkKit
import Derived.Laws.Externs
import Derived.Laws.AppendOwn
import Derived.Maps.AppendAt
import Derived.KernelRfl
import Derived.Lib.UnsafeStr
import Derived.Shelf.RegionOpenPlain
import Derived.Below
import Derived.ChangeSame
import Derived.ChangeSlices
import Derived.ChangeMaps5
import Derived.OpenShut
import Derived.Lib.DecodeN
import Derived.Test.YtlaplgpnbbmbgaaDoorRows
import Derived.Lib.LaidU8
import Derived.Test.YtlaplgpnbbmbgaaDoorKQTCS1
import Derived.Test.YtlaplgpnbbmbgaaDoorKQTCS2
import Derived.Test.YtlaplgpnbbmbgaaDoorKQTCS3
/- strings.Builder's WriteByte and WriteString, walked: what they leave. No condition. -/
set_option linter.unusedVariables false
set_option linter.unusedSimpArgs false
namespace Go.Avc
open Go Go.RowKit Go.Proofs

set_option maxHeartbeats 1000000 in
set_option maxRecDepth 100000 in
theorem check_used (b : Nat) (w : World) (h0 : w.cell? ⟨b, 0, none⟩ = some (.pointer (some ⟨b, 0, none⟩))) :
    Calls Tryd.prog 115 #[.pointer (some ⟨b, 0, none⟩)] w fun e w' => e = .returned (.tuple #[]) ∧ w' = w := by
  have hj : ∃ j, Tryd.prog.info? 102 = some j := ⟨Tryd.t102, by kernel_rfl⟩
  obtain ⟨j, hj⟩ := hj
  go_enter Tryd.func115, Tryd.ntmps115
  go_wp2
  rw [Lib.run_neq_ptr_same w _ Tryd.underlying100 hj]
  go_wp2
  go_end0
  exact ⟨rfl, rfl⟩

set_option maxHeartbeats 1000000 in
set_option maxRecDepth 100000 in
theorem check_fresh (b : Nat) (w : World) (h0 : w.cell? ⟨b, 0, none⟩ = some (.pointer none)) (hsh : w.shape? b = some (102, 2)) (hfz : w.frozen? ⟨b, 0, none⟩ = false) :
    Calls Tryd.prog 115 #[.pointer (some ⟨b, 0, none⟩)] w fun e w' => e = .returned (.tuple #[]) ∧ w' = w.setCell ⟨b, 0, none⟩ (.pointer (some ⟨b, 0, none⟩)) := by
  obtain ⟨j, hj, hjs⟩ : ∃ j, Tryd.prog.info? 102 = some j ∧ j.size = 2 := ⟨Tryd.t102, by kernel_rfl, by kernel_rfl⟩
  go_enter Tryd.func115, Tryd.ntmps115
  go_wp2
  rw [Lib.run_to_unsafe w ⟨b, 0, none⟩ Tryd.underlying100 Tryd.underlying151 hj (by rw [hjs]; decide) hsh (Nat.zero_lt_succ 1)]
  simp only [Result.andThen]
  rw [Oper.upon_value]
  go_wp2
  rw [run_callFunc_extern Tryd.func136 (by kernel_rfl) (by kernel_rfl) (by kernel_rfl) (e := Extern.AbiNoEscape.same) (by kernel_rfl)]
  rw [Lib.run_noEscape]
  simp only [Result.andThen]
  rw [Oper.upon_value]
  go_wp2
  rw [Lib.run_from_unsafe w ⟨b, 0, none⟩ Tryd.underlying151 Tryd.underlying100 hj hsh (by kernel_rfl)]
  simp only [Result.andThen]
  rw [Oper.upon_value]
  go_wp2
  go_end0
  exact ⟨rfl, rfl⟩

theorem check_calls (b : Nat) (w : World) (v : Value) (h : Bld w b v) : Calls Tryd.prog 115 #[.pointer (some ⟨b, 0, none⟩)] w fun e w' => e = .returned (.tuple #[]) ∧ w'.heap[b]? = some (.cells #[.pointer (some ⟨b, 0, none⟩), v] 102 (0, 0)) ∧
    w'.os = w.os ∧ w'.tape = w.tape ∧ w'.output = w.output ∧ w'.heap.size = w.heap.size ∧ ∀ k, k ≠ b → w'.heap[k]? = w.heap[k]? := by
  obtain ⟨p, hp, hb⟩ := h
  have hc := Lib.cell_of_heap hb 0
  rcases hp with rfl | rfl
  · refine (check_fresh b w (hc.trans rfl) (by simp [World.shape?, hb]) (Lib.frozen_of_heap hb 0)).mono ?_
    rintro e w' ⟨rfl, rfl⟩
    exact ⟨rfl, by simp [World.setCell, Array.getElem?_modify, hb], rfl, rfl, rfl, by simp [World.setCell], fun k hk => heap_setCell_other _ _ _ _ hk⟩
  · refine (check_used b w (hc.trans rfl)).mono ?_
    rintro e w' ⟨rfl, rfl⟩
    exact ⟨rfl, hb, rfl, rfl, rfl, rfl, fun _ _ => rfl⟩

set_option maxHeartbeats 4000000 in
set_option maxRecDepth 100000 in
theorem writeByte_calls (B b : Nat) (bs : List Value) (c : Int) (w : World) (v : Value) (h : Bld w b v) (hown : w.ownsRow B bE 1 v bs.length bs) (hlen : bs.length + 1 ≤ 140737488355328) (hBw : B ≤ w.heap.size) :
    Calls Tryd.prog 103 #[.pointer (some ⟨b, 0, none⟩), .int .u8 c] w fun e w' => e = .returned .nilIface ∧ Wrote B b w v (bs ++ [.int .u8 c]) w' := by
  have hne : v.ownBlock ≠ some b := by
    obtain ⟨p, _, hb⟩ := h
    exact Lib.ownBlock_ne hown hb (by decide)
  have hlt : b < w.heap.size := by
    obtain ⟨p, _, hb⟩ := h
    exact (Array.getElem?_eq_some_iff.1 hb).1
  go_enter Tryd.func103, Tryd.ntmps103
  go_wp2_with (go_at_call 115; refine (check_calls b _ v h).mono ?_)
  rintro e w1 ⟨rfl, hb1, ho1, ht1, hu1, hs1, hk1⟩
  have hown1 : w1.ownsRow B bE 1 v bs.length bs := hown.kept (row := some b) ⟨ho1, ht1, hu1, by omega, fun k hk hn => hk1 k (fun e => hn (by rw [e]))⟩ (.inr hne)
  have hs2 : w.heap.size ≤ w1.heap.size ∧ w1.heap.size ≤ w.heap.size := by omega
  clear hs1
  have c0 : w1.cell? ⟨b, 0, none⟩ = some (.pointer (some ⟨b, 0, none⟩)) := by rw [Lib.cell_of_heap hb1]; rfl
  have c1 : w1.cell? ⟨b, 1, none⟩ = some v := by rw [Lib.cell_of_heap hb1]; rfl
  have hi : Tryd.prog.info? 5 = some Tryd.t5 := by kernel_rfl
  have hz0 : Tryd.t5.zero = some (.int .u8 0) := by kernel_rfl
  have hz1 : Tryd.t5.size = 1 := by kernel_rfl
  have hz2 : Tryd.t5.bytes = 1 := by kernel_rfl
  go_wp2_with (at_builtin; refine wpList_append_own_at _ rfl _ _ 83 rfl B bE Tryd.t5 (.int .u8 0) 1 1 Tryd.underlying83 hi hz0 hz1 hz2 rfl (by decide) _ _ _ rfl (hown1.alloc _) ⟨w1.heap.size, 0, none⟩ 1 1 [.int .u8 c] rfl rfl ?c1 ?c2 ?c3 ?c4 ?c5 ?_)
  case c1 =>
    intro j u hj
    match j, hj with
    | 0, hj => simp at hj; subst hj; simp [Addr.add]
  case c2 => intro u hu; simp at hu; subst hu; rfl
  case c3 => unfold maxLen; omega
  case c4 => omega
  case c5 => simp; omega
  intro v' w2 hown' hgrow _ hat
  have hb2 : w2.heap[b]? = some (.cells #[.pointer (some ⟨b, 0, none⟩), v] 102 (0, 0)) := by
    rw [hgrow.block b (by simp; omega) (fun e => hne e.symm), Lib.alloc_old w1 _ b (by omega)]
    exact hb1
  have d0 : w2.cell? ⟨b, 0, none⟩ = some (.pointer (some ⟨b, 0, none⟩)) := by rw [Lib.cell_of_heap hb2]; rfl
  have d1 : w2.cell? ⟨b, 1, none⟩ = some v := by rw [Lib.cell_of_heap hb2]; rfl
  have f1 : w2.frozen? ⟨b, 1, none⟩ = false := Lib.frozen_of_heap hb2 1
  obtain ⟨g, cap, rfl⟩ : ∃ g cap, v' = .slice (some ⟨g, 0, none⟩) (bs.length + 1) cap := by
    rcases hown'.2 with ⟨_, h0⟩ | ⟨g, cap, cur, hv, _⟩
    · omega
    · exact ⟨g, cap, hv⟩
  go_wp2
  go_ret
  refine ⟨rfl, ?_⟩
  have hnb : (Value.slice (some ⟨g, 0, none⟩) (bs.length + 1) cap).ownBlock ≠ some b := Lib.ownBlock_ne hown' hb2 (by decide)
  refine ⟨.slice (some ⟨g, 0, none⟩) (bs.length + 1) cap, ?_, ?_, ?_, ?_⟩
  · simp [World.setCell, Array.getElem?_modify, hb2]
  · rw [List.length_append]
    exact hown'.kept (row := some b) ⟨rfl, rfl, rfl, by simp [World.setCell], fun k _ hk => heap_setCell_other _ _ _ _ (fun e => hk (by rw [e]))⟩ (.inr hnb)
  · rcases hat with e | e
    · exact .inr (.inl e)
    · refine .inr (.inr ⟨w1.heap.size + 1, e, by omega, ?_⟩)
      have := (hown'.lt _ e).2
      simpa [World.setCell] using this
  · refine ⟨hgrow.os.trans ho1, hgrow.tape.trans ht1, hgrow.output.trans hu1, ?_, fun k hk hkb hkv => ?_⟩
    · have := hgrow.size
      simp at this
      simp [World.setCell]
      omega
    · rw [heap_setCell_other _ _ _ _ (by exact hkb), hgrow.block k (by simp; omega) (fun e => hkv e.symm), Lib.alloc_old w1 _ k (by omega)]
      exact hk1 k hkb
theorem wpList_app_str {P : Program} {w : World} {ops : Array Oper} {rest : List Oper} {o : Oper} {a : Act} {Q : Exit → Act → World → Prop} (hgd : o.guard = none) (sl x : Operand) (t u : TypeId) (ho : o.op = .call { callee := .builtin .append, args := #[sl, x], argTypes := #[t, u] })
    {base : Nat} {e : TypeId} {i : TypeInfo} (ht : P.underlying t = some (.slice e)) (hu : P.underlying u = some .string) (hi : P.info? e = some i) (hz : i.zero = some (.int .u8 0)) (hsize : i.size = 1) (hby : i.bytes = 1)
    {v : Value} {n : Nat} {xs : List Value} (hs : a.eval sl = v) (hown : w.ownsRow base e 1 v n xs) (s : ByteArray) (hx : a.eval x = .string s) (hb : n + s.size ≤ 140737488355328) (hbase : base ≤ w.heap.size)
    (h : ∀ v' w', w'.ownsRow base e 1 v' (n + s.size) (xs ++ Lib.strCells s) → w.grownBy w' v.ownBlock → (v'.ownBlock = none ∨ v'.ownBlock = v.ownBlock ∨ v'.ownBlock = some w.heap.size) → wpList P ops Q rest (a.put o.dst v') w') : wpList P ops Q (o :: rest) a w := by
  refine wpList_plain hgd fun K hK => ?_
  obtain ⟨v', w', hr, h2, h3, h4⟩ := app_str_run (P := P) (ty := o.type) (w := w) ht hu hi hz hsize hby hown s hb hbase
  unfold Oper.wp execOp
  simp only [ho, resolve, invoke, builtin, Sem.run_bind, Sem.run_pure, Result.andThen_ok, List.map_toArray, List.map_cons, List.map_nil, hs, hx, hr]
  exact hK _ _ (h v' w' h2 h3 h4)

set_option maxHeartbeats 4000000 in
set_option maxRecDepth 100000 in
theorem writeString_calls (B b : Nat) (bs : List Value) (s : ByteArray) (w : World) (v : Value) (h : Bld w b v) (hown : w.ownsRow B bE 1 v bs.length bs) (hlen : bs.length + s.size ≤ 140737488355328) (hBw : B ≤ w.heap.size) :
    Calls Tryd.prog 73 #[.pointer (some ⟨b, 0, none⟩), .string s] w fun e w' => e = .returned (.tuple #[.int .i64 s.size, .nilIface]) ∧ Wrote B b w v (bs ++ Lib.strCells s) w' := by
  have hne : v.ownBlock ≠ some b := by
    obtain ⟨p, _, hb⟩ := h
    exact Lib.ownBlock_ne hown hb (by decide)
  have hlt : b < w.heap.size := by
    obtain ⟨p, _, hb⟩ := h
    exact (Array.getElem?_eq_some_iff.1 hb).1
  go_enter Tryd.func73, Tryd.ntmps73
  go_wp2_with (go_at_call 115; refine (check_calls b _ v h).mono ?_)
  rintro e w1 ⟨rfl, hb1, ho1, ht1, hu1, hs1, hk1⟩
  have hown1 : w1.ownsRow B bE 1 v bs.length bs := hown.kept (row := some b) ⟨ho1, ht1, hu1, by omega, fun k hk hn => hk1 k (fun e => hn (by rw [e]))⟩ (.inr hne)
  have hs2 : w.heap.size ≤ w1.heap.size ∧ w1.heap.size ≤ w.heap.size := by omega
  clear hs1
  have c0 : w1.cell? ⟨b, 0, none⟩ = some (.pointer (some ⟨b, 0, none⟩)) := by rw [Lib.cell_of_heap hb1]; rfl
  have c1 : w1.cell? ⟨b, 1, none⟩ = some v := by rw [Lib.cell_of_heap hb1]; rfl
  have hi : Tryd.prog.info? 5 = some Tryd.t5 := by kernel_rfl
  have hz0 : Tryd.t5.zero = some (.int .u8 0) := by kernel_rfl
  have hz1 : Tryd.t5.size = 1 := by kernel_rfl
  have hz2 : Tryd.t5.bytes = 1 := by kernel_rfl
  go_wp2_with (at_builtin; refine wpList_app_str rfl _ _ 83 9 rfl Tryd.underlying83 Tryd.underlying9 hi hz0 hz1 hz2 rfl hown1 s rfl hlen ?c5 ?_)
  case c5 => omega
  intro v' w2 hown' hgrow hat
  have hb2 : w2.heap[b]? = some (.cells #[.pointer (some ⟨b, 0, none⟩), v] 102 (0, 0)) := by
    rw [hgrow.block b (by omega) (fun e => hne e.symm)]
    exact hb1
  have d0 : w2.cell? ⟨b, 0, none⟩ = some (.pointer (some ⟨b, 0, none⟩)) := by rw [Lib.cell_of_heap hb2]; rfl
  have d1 : w2.cell? ⟨b, 1, none⟩ = some v := by rw [Lib.cell_of_heap hb2]; rfl
  have f1 : w2.frozen? ⟨b, 1, none⟩ = false := Lib.frozen_of_heap hb2 1
  obtain ⟨A', m', c', rfl⟩ : ∃ A m c, v' = .slice A m c := by
    rcases hown'.2 with ⟨rfl, _⟩ | ⟨g, cap, cur, rfl, _⟩
    · exact ⟨_, _, _, rfl⟩
    · exact ⟨_, _, _, rfl⟩
  have hnb : (Value.slice A' m' c').ownBlock ≠ some b := Lib.ownBlock_ne hown' hb2 (by decide)
  go_wp2
  go_ret2
  refine ⟨rfl, .slice A' m' c', ?_, ?_, ?_, ?_⟩
  · simp [World.setCell, Array.getElem?_modify, hb2]
  · rw [List.length_append, Lib.strCells_length]
    exact hown'.kept (row := some b) ⟨rfl, rfl, rfl, by simp [World.setCell], fun k _ hk => heap_setCell_other _ _ _ _ (fun e => hk (by rw [e]))⟩ (.inr hnb)
  · rcases hat with e | e | e
    · exact .inl e
    · exact .inr (.inl e)
    · refine .inr (.inr ⟨w1.heap.size, e, by omega, ?_⟩)
      have := (hown'.lt _ e).2
      simpa [World.setCell] using this
  · refine ⟨hgrow.os.trans ho1, hgrow.tape.trans ht1, hgrow.output.trans hu1, ?_, fun k hk hkb hkv => ?_⟩
    · have := hgrow.size
      simp [World.setCell]
      omega
    · rw [heap_setCell_other _ _ _ _ (by exact hkb), hgrow.block k (by omega) (fun e => hkv e.symm)]
      exact hk1 k hkb

section
variable (B b : Nat) (p v : Value) (l : List UInt8) (w : World)
theorem cells_byte : Tryd.prog.cellsOf 5 = 1 := by kernel_rfl
theorem else_drew : Else w v.ownBlock w.drew := ⟨rfl, rfl, rfl, Nat.le_refl _, fun _ _ _ => rfl⟩
set_option maxHeartbeats 2000000 in
set_option maxRecDepth 100000 in
theorem string_some (h0 : l ≠ []) (hbk : w.heap[b]? = some (.cells #[p, v] bT (0, 0))) (hown : w.ownsRow B bE 1 v l.length (l.map fun x => .int .u8 x.toNat)) :
    Calls Tryd.prog fSt #[.pointer (some ⟨b, 0, none⟩)] w fun e w' => e = .returned (.string ⟨l.toArray⟩) ∧ Else w v.ownBlock w' := by
  have hl0 : l.length ≠ 0 := by simpa using h0
  obtain ⟨g, cap, cur, rfl, hbg, hg, hnc, hcm, hcs, htake⟩ : ∃ g cap cur, v = .slice (some ⟨g, 0, none⟩) l.length cap ∧ B ≤ g ∧ w.heap[g]? = some (.cells cur bE (0, 0)) ∧ l.length ≤ cap ∧ cap ≤ maxLen ∧ cur.size = cap * 1 ∧ cur.toList.take (l.length * 1) = l.map fun x => .int .u8 x.toNat := by
    rcases hown.2 with ⟨_, hz⟩ | ⟨g, cap, cur, hv, r⟩
    · exact absurd hz hl0
    · exact ⟨g, cap, cur, hv, r⟩
  have c1 : w.drew.cell? ⟨b, 1, none⟩ = some (.slice (some ⟨g, 0, none⟩) l.length cap) := by
    have : w.drew.heap[b]? = some (.cells #[p, .slice (some ⟨g, 0, none⟩) l.length cap] bT (0, 0)) := hbk
    rw [Lib.cell_of_heap this]; rfl
  have hSD : (Builtin.unsafeSliceData_ #[83] 140 #[.slice (some ⟨g, 0, none⟩) l.length cap]).run Tryd.prog w.drew = .ok (.pointer (some ⟨g, 0, none⟩)) w.drew :=
    Lib.run_unsafeSliceData_row _ _ _ _ _ _ (by omega)
  have hUS : (Builtin.unsafeString_ #[140, 3] 9 #[.pointer (some ⟨g, 0, none⟩), .int .i64 l.length]).run Tryd.prog w.drew = .ok (.string ⟨l.toArray⟩) (w.drew.freeze ⟨g, 0, none⟩ l.length) := by
    refine Lib.run_unsafeString_row w.drew 140 3 9 5 Tryd.underlying140 cells_byte g cur.size (by have hg' : w.drew.heap[g]? = some (.cells cur bE (0, 0)) := hg; simp [World.shape?, hg']) l h0 (by omega) (by unfold maxLen at hcm; omega) ?_
    intro j x hx
    exact hown.cells (g := g) rfl j (.int .u8 x.toNat) (by simp [hx])
  have hfin : Else w (Value.slice (some ⟨g, 0, none⟩) l.length cap).ownBlock (w.drew.freeze ⟨g, 0, none⟩ l.length) := by
    have hgk : ∀ k, some g ≠ some k → g ≠ k := fun k h e => h (by rw [e])
    unfold World.freeze
    rw [if_neg hl0]
    refine ⟨rfl, rfl, rfl, by simp, fun k hk hne => ?_⟩
    rw [Array.getElem?_modify, if_neg (hgk k hne)]
    rfl
  have mixed : Tryd.prog.follows Departure.mixedOrders = true := by kernel_rfl
  go_enter Tryd.func75, Tryd.ntmps75
  go_wp2
  go_region_o
  all_goals (go_wp2; go_ret; exact ⟨rfl, hfin⟩)
theorem us_none (W : World) (q : Option Addr) : (Builtin.unsafeString_ #[140, 3] 9 #[.pointer q, .int .i64 0]).run Tryd.prog W = .ok (.string .empty) W :=
  Lib.run_unsafeString_none W _ _ _ q
set_option maxHeartbeats 2000000 in
set_option maxRecDepth 100000 in
theorem string_nil (hbk : w.heap[b]? = some (.cells #[p, .slice none 0 0] bT (0, 0))) :
    Calls Tryd.prog fSt #[.pointer (some ⟨b, 0, none⟩)] w fun e w' => e = .returned (.string ⟨#[]⟩) ∧ w' = w.drew := by
  have hUS := us_none
  have c1 : w.drew.cell? ⟨b, 1, none⟩ = some (.slice none 0 0) := by
    have : w.drew.heap[b]? = some (.cells #[p, .slice none 0 0] bT (0, 0)) := hbk
    rw [Lib.cell_of_heap this]; rfl
  have hSD : (Builtin.unsafeSliceData_ #[83] 140 #[.slice none 0 0]).run Tryd.prog w.drew = .ok (.pointer none) w.drew := rfl
  have mixed : Tryd.prog.follows Departure.mixedOrders = true := by kernel_rfl
  go_enter Tryd.func75, Tryd.ntmps75
  go_wp2
  go_region_o
  all_goals (go_wp2; go_ret; exact ⟨rfl, rfl⟩)
set_option maxHeartbeats 2000000 in
set_option maxRecDepth 100000 in
theorem string_noroom (g : Nat) (cur : Array Value) (hbk : w.heap[b]? = some (.cells #[p, .slice (some ⟨g, 0, none⟩) 0 0] bT (0, 0))) (hg : w.heap[g]? = some (.cells cur bE (0, 0))) :
    Calls Tryd.prog fSt #[.pointer (some ⟨b, 0, none⟩)] w fun e w' => e = .returned (.string ⟨#[]⟩) ∧ Else w none w' := by
  have hUS := us_none
  have hlt : b < w.heap.size := (Array.getElem?_eq_some_iff.1 hbk).1
  have c1 : w.drew.cell? ⟨b, 1, none⟩ = some (.slice (some ⟨g, 0, none⟩) 0 0) := by
    have : w.drew.heap[b]? = some (.cells #[p, .slice (some ⟨g, 0, none⟩) 0 0] bT (0, 0)) := hbk
    rw [Lib.cell_of_heap this]; rfl
  have hSD : (Builtin.unsafeSliceData_ #[83] 140 #[.slice (some ⟨g, 0, none⟩) 0 0]).run Tryd.prog w.drew = .ok (.pointer (some ⟨w.drew.heap.size, 0, none⟩)) (w.drew.alloc (.view ⟨g, 0, none⟩ 5)) :=
    Lib.run_unsafeSliceData_zero w.drew _ _ 5 Tryd.underlying140 ⟨g, 0, none⟩ 0 (5, cur.size) (by have hg' : w.drew.heap[g]? = some (.cells cur bE (0, 0)) := hg; simp [World.shape?, hg'])
  have c2 : (w.drew.alloc (.view ⟨g, 0, none⟩ 5)).cell? ⟨b, 1, none⟩ = some (.slice (some ⟨g, 0, none⟩) 0 0) := by
    have : (w.drew.alloc (.view ⟨g, 0, none⟩ 5)).heap[b]? = _ := (Lib.alloc_old w.drew _ b hlt).trans hbk
    rw [Lib.cell_of_heap this]; rfl
  have c3 : (w.alloc (.view ⟨g, 0, none⟩ 5)).drew.cell? ⟨b, 1, none⟩ = some (.slice (some ⟨g, 0, none⟩) 0 0) := c2
  have c0 : w.cell? ⟨b, 1, none⟩ = some (.slice (some ⟨g, 0, none⟩) 0 0) := c1
  have hfin : ∀ o, Else w none (w.drew.alloc o) := fun o => ⟨rfl, rfl, rfl, by simp, fun k hk _ => Lib.alloc_old w.drew _ k hk⟩
  have mixed : Tryd.prog.follows Departure.mixedOrders = true := by kernel_rfl
  go_enter Tryd.func75, Tryd.ntmps75
  go_wp2
  go_region_o
  all_goals (go_wp2; go_ret; exact ⟨rfl, hfin _⟩)
set_option maxHeartbeats 2000000 in
set_option maxRecDepth 100000 in
theorem string_room (g cap : Nat) (hc0 : cap ≠ 0) (hbk : w.heap[b]? = some (.cells #[p, .slice (some ⟨g, 0, none⟩) 0 cap] bT (0, 0))) :
    Calls Tryd.prog fSt #[.pointer (some ⟨b, 0, none⟩)] w fun e w' => e = .returned (.string ⟨#[]⟩) ∧ w' = w.drew := by
  have hUS := us_none
  have c1 : w.drew.cell? ⟨b, 1, none⟩ = some (.slice (some ⟨g, 0, none⟩) 0 cap) := by
    have : w.drew.heap[b]? = some (.cells #[p, .slice (some ⟨g, 0, none⟩) 0 cap] bT (0, 0)) := hbk
    rw [Lib.cell_of_heap this]; rfl
  have hSD : (Builtin.unsafeSliceData_ #[83] 140 #[.slice (some ⟨g, 0, none⟩) 0 cap]).run Tryd.prog w.drew = .ok (.pointer (some ⟨g, 0, none⟩)) w.drew :=
    Lib.run_unsafeSliceData_row _ _ _ _ _ _ hc0
  clear hc0
  have mixed : Tryd.prog.follows Departure.mixedOrders = true := by kernel_rfl
  go_enter Tryd.func75, Tryd.ntmps75
  go_wp2
  go_region_o
  all_goals (go_wp2; go_ret; exact ⟨rfl, rfl⟩)
theorem string_calls (h : Bld w b v) (hown : w.ownsRow B bE 1 v l.length (l.map fun x => .int .u8 x.toNat)) :
    Calls Tryd.prog fSt #[.pointer (some ⟨b, 0, none⟩)] w fun e w' => e = .returned (.string ⟨l.toArray⟩) ∧ Else w v.ownBlock w' := by
  obtain ⟨p, hp, hbk⟩ := h
  cases l with
  | cons x r => exact string_some B b p v (x :: r) w (by simp) hbk hown
  | nil =>
    rcases hown.2 with ⟨rfl, _⟩ | ⟨g, cap, cur, rfl, hbg, hg, _, _, _, _⟩
    · exact (string_nil b p w hbk).mono fun e w' ⟨h1, h2⟩ => ⟨h1, h2 ▸ else_drew _ w⟩
    · by_cases hc0 : cap = 0
      · subst hc0
        exact (string_noroom b p w g cur hbk hg).mono fun e w' ⟨h1, h2⟩ => ⟨h1, h2.1, h2.2.1, h2.2.2.1, h2.2.2.2.1, fun k hk _ => h2.2.2.2.2 k hk (by simp)⟩
      · exact (string_room b p w g cap hc0 hbk).mono fun e w' ⟨h1, h2⟩ => ⟨h1, h2 ▸ else_drew _ w⟩
set_option maxHeartbeats 2000000 in
theorem len_calls (n : Nat) (A : Option Addr) (c : Nat) (hbk : w.heap[b]? = some (.cells #[p, .slice A n c] bT (0, 0))) : Calls Tryd.prog 74 #[.pointer (some ⟨b, 0, none⟩)] w fun e w' => e = .returned (.int .i64 n) ∧ w' = w := by
  have c1 : w.cell? ⟨b, 1, none⟩ = some (.slice A n c) := by rw [Lib.cell_of_heap hbk]; rfl
  go_enter Tryd.func74, Tryd.ntmps74
  go_wp2
  go_ret
  exact ⟨rfl, rfl⟩
end
theorem bldOk : BldOk Tryd.prog where
  mix := by kernel_rfl
  eb := ⟨_, Tryd.func103, by kernel_rfl, by kernel_rfl⟩
  es := ⟨_, Tryd.func73, by kernel_rfl, by kernel_rfl⟩
  et := ⟨_, Tryd.func75, by kernel_rfl, by kernel_rfl⟩
  el := .inr ⟨_, Tryd.func74, by kernel_rfl, by kernel_rfl⟩
  al := ⟨Tryd.t102, by kernel_rfl, by kernel_rfl⟩
  wb := writeByte_calls
  ws := writeString_calls
  st := fun B b l w v h hown _ => string_calls B b v l w h hown
  ln := .inr fun B b bs w v h hown => by
    obtain ⟨p, _, hbk⟩ := h
    rcases hown.2 with ⟨rfl, h0⟩ | ⟨g, cap, cur, rfl, _⟩
    · rw [h0]; exact len_calls b p w 0 none 0 hbk
    · exact len_calls b p w _ _ _ hbk
theorem env0 {cx : Cx} (hP : cx.P = Tryd.prog) : EnvOk cx (envL []) := envL_nil cx (hP ▸ bldOk)
end Go.Avc

/- The stream's Range, Flip and Pick: their contracts. No condition. -/
set_option linter.unusedVariables false
set_option linter.unusedSimpArgs false
set_option maxRecDepth 100000
namespace Go.Avc
open Go Go.Proofs

def rangeS : Spec where
  pre xs := ∃ lo hi : Int, xs = [.st, .i lo, .i hi] ∧ -1073741824 ≤ lo ∧ lo ≤ 1073741824 ∧ -1073741824 ≤ hi ∧ hi ≤ 1073741824
  post xs r := ∃ lo hi q : Int, xs = [.st, .i lo, .i hi] ∧ lo ≤ q ∧ (lo ≤ hi → q ≤ hi) ∧ (hi < lo → q = lo) ∧ r = .i q
  cost _ := 1
  fresh := true

theorem range_ctr (cx : Cx) (hP : cx.P = Tryd.prog) (hS : cx.ST = 25) : Ctr cx 56 rangeS := by
  refine ctr_of (fn := Tryd.f56) (l := [.tmp 6]) (envL [(8, nextS)]) [0, 1, 2, 6, 9] [] [] (envL_cons (next_ctr cx hP hS) (env0 hP)) ?_ (by rw [hP]; exact Tryd.func56) rfl (by kernel_rfl) rfl ?_ ?_
  · rw [hP]; exact ⟨_, Tryd.func56, by kernel_rfl, by kernel_rfl⟩
  · rintro xs ⟨lo, hi, rfl, h1, h2, h3, h4⟩
    exact ⟨.i lo, lo, hi, lo, rfl, by omega, by omega, by omega, rfl⟩
  · rintro xs ⟨lo, hi, rfl, h1, h2, h3, h4⟩
    refine ⟨by rw [Tryd.ntmps56]; simp, ?_⟩
    simp only [go_sem, hP, Tryd.ntmps56, rangeS, nextS, Nat.reduceEqDiff, reduceCtorEq, Nat.reduceMul, Nat.reduceAdd, Nat.reduceLeDiff, Nat.reduceLT, Nat.reduceBNe, Nat.reduceBEq, reduceIte]
    have w1 : IntKind.i64.wrap (hi - lo) = hi - lo := IntWalk.i64_in _ (by omega)
    have w2 : IntKind.i64.wrap (hi - lo + 1) = hi - lo + 1 := IntWalk.i64_in _ (by omega)
    simp [w1, w2]
    refine ⟨fun c => ⟨lo, hi, ⟨rfl, rfl⟩, lo, by omega⟩, fun c => ⟨by omega, fun a q e h5 h6 => ⟨lo, hi, ⟨rfl, rfl⟩, lo + q, by omega, by omega, by omega, IntWalk.i64_in _ (by omega)⟩⟩⟩

def flipS : Spec where
  pre xs := ∃ m : Int, xs = [.st, .i m] ∧ m ≤ 9223372036854775807
  post xs r := ∃ (m : Int) (b : Bool), xs = [.st, .i m] ∧ r = .b b
  cost _ := 1
  fresh := true

theorem flip_ctr (cx : Cx) (hP : cx.P = Tryd.prog) (hS : cx.ST = 25) : Ctr cx 7 flipS := by
  refine ctr_of (fn := Tryd.f7) (l := [.tmp 4]) (envL [(8, nextS)]) [0, 1, 4] [] [] (envL_cons (next_ctr cx hP hS) (env0 hP)) ?_ (by rw [hP]; exact Tryd.func7) rfl (by kernel_rfl) rfl ?_ ?_
  · rw [hP]; exact ⟨_, Tryd.func7, by kernel_rfl, by kernel_rfl⟩
  · rintro xs ⟨m, rfl, h1⟩
    exact ⟨.b true, m, true, rfl, rfl⟩
  · rintro xs ⟨m, rfl, h1⟩
    refine ⟨by rw [Tryd.ntmps7]; simp, ?_⟩
    simp only [go_sem, hP, Tryd.ntmps7, flipS, nextS, Nat.reduceEqDiff, reduceCtorEq, Nat.reduceMul, Nat.reduceAdd, Nat.reduceLeDiff, Nat.reduceLT, Nat.reduceBNe, Nat.reduceBEq, reduceIte]
    simp [and_assoc, h1]

def intsD (l : List Int) : List (List D) := l.map fun x => [D.int .i64 x]
def isIn (x : Int) (l : List Int) : Prop := x ∈ l
def pickS : Spec where
  pre xs := ∃ l : List Int, xs = [.st, .sl (intsD l)] ∧ l ≠ [] ∧ l.length ≤ 1073741824
  post xs r := ∃ (l : List Int) (x : Int), xs = [.st, .sl (intsD l)] ∧ isIn x l ∧ r = .i x
  cost _ := 1
  fresh := true

theorem pick_ctr (cx : Cx) (hP : cx.P = Tryd.prog) (hS : cx.ST = 25) : Ctr cx 9 pickS := by
  refine ctr_of (fn := Tryd.f9) (l := [.tmp 4]) (envL [(8, nextS)]) [0, 1, 4] [] [] (envL_cons (next_ctr cx hP hS) (env0 hP)) ?_ (by rw [hP]; exact Tryd.func9) rfl (by kernel_rfl) rfl ?_ ?_
  · rw [hP]; exact ⟨_, Tryd.func9, by kernel_rfl, by kernel_rfl⟩
  · rintro xs ⟨l, rfl, h1, h2⟩
    exact (match l, h1 with | x :: t, _ => ⟨.i x, x :: t, x, rfl, List.mem_cons_self, rfl⟩)
  · rintro xs ⟨l, rfl, h1, h2⟩
    refine ⟨by rw [Tryd.ntmps9]; simp, ?_⟩
    simp only [go_sem, hP, Tryd.ntmps9, pickS, nextS, Nat.reduceEqDiff, reduceCtorEq, Nat.reduceMul, Nat.reduceAdd, Nat.reduceLeDiff, Nat.reduceLT, Nat.reduceBNe, Nat.reduceBEq, reduceIte]
    refine ⟨⟨⟨_, rfl, by rw [intsD, List.length_map]; omega⟩, fun h => h.elim⟩, fun a q e h3 h4 => ?_⟩
    have hq : 0 ≤ q ∧ q < (l.length : Int) := by
      simp only [List.cons.injEq, AV.dv.injEq, DV.d.injEq, D.int.injEq, true_and, and_true, intsD, List.length_map] at e
      have := List.length_pos_iff.2 h1
      omega
    have hg : (intsD l).getD q.toNat [D.int .i64 0] = [D.int .i64 (l.getD q.toNat 0)] := by
      rw [List.getD_eq_getElem?_getD, intsD, List.getElem?_map, List.getD_eq_getElem?_getD, List.getElem?_eq_getElem (by omega)]
      rfl
    have hm : l.getD q.toNat 0 ∈ l := by
      rw [List.getD_eq_getElem?_getD, List.getElem?_eq_getElem (by omega)]
      exact List.getElem_mem _
    simp only [hg, go_sem, reduceCtorEq, reduceIte]
    exact ⟨⟨hq.1, by rw [intsD, List.length_map]; exact hq.2⟩, l, _, rfl, hm, rfl⟩
end Go.Avc

/- What a context must be for this seat's contracts. No condition. -/
set_option linter.unusedVariables false
set_option linter.unusedSimpArgs false
namespace Go.Avc
open Go Go.Proofs
structure Seat (cx : Cx) : Prop where
  hP : cx.P = Tryd.prog
  hS : cx.ST = 25
attribute [go_sem] List.cons.injEq AV.dv.injEq DV.d.injEq DV.ag.injEq D.int.injEq D.str.injEq D.bool.injEq D.sl.injEq AV.dp.injEq exists_eq_left' exists_and_left exists_const and_assoc AV.tcons.injEq Int.toNat_natCast Int.toNat_zero implies_true decide_eq_true_eq decide_eq_false_iff_not beq_iff_eq beq_eq_false_iff_ne bne_iff_ne bne_eq_false_iff_eq Bool.and_eq_true Bool.or_eq_true Bool.not_eq_true' Bool.not_eq_false' str_beq false_implies true_implies ge_iff_le gt_iff_lt exists_eq' List.size_toArray exists_eq_right' exists_eq_right
theorem str_beq_nil (s : ByteArray) : (s = ⟨#[]⟩) = (bl s = []) := by rw [← bl_inj]; rfl
theorem str_nil (s : ByteArray) : (s = ⟨#[]⟩) = (s.size = 0) := by
  apply propext
  rw [← bl_inj, ← bl_length, List.length_eq_zero_iff]; rfl
theorem ex_two {p : Prop} : (∃ (_ : Int) (_ : Int), p) ↔ p := ⟨fun ⟨_, _, h⟩ => h, fun h => ⟨0, 0, h⟩⟩
theorem i64w {n : Int} (h1 : -9223372036854775808 ≤ n) (h2 : n ≤ 9223372036854775807) : IntKind.i64.wrap n = n := IntWalk.i64_in _ (by omega)
theorem u8w {n : Int} (h1 : 0 ≤ n) (h2 : n ≤ 255) : IntKind.u8.wrap n = n := by rw [IntKind.wrap_u8]; omega
theorem bt_at {s : ByteArray} {i : Nat} : bt s (i : Int) = (bl s).getD i 0 := bt_bl s i
theorem bt_range (s : ByteArray) (i : Int) : 0 ≤ bt s i ∧ bt s i ≤ 255 := by
  unfold bt
  have := (s.data.toList.getD i.toNat 0).toNat_lt
  omega
theorem bt_tdiv16 (s : ByteArray) (i : Int) : IntKind.u8.wrap ((bt s i).tdiv 16) = bt s i / 16 := by
  have := bt_range s i
  rw [Int.tdiv_eq_ediv_of_nonneg this.1]
  exact u8w (by omega) (by omega)
theorem bt_tmod16 (s : ByteArray) (i : Int) : (bt s i).tmod 16 = bt s i % 16 := Int.tmod_eq_emod_of_nonneg (bt_range s i).1
def rowsB (l : List Int) : List (List D) := l.map fun c => [.int .u8 c]
theorem rowsB_len (l : List Int) : (rowsB l).length = l.length := List.length_map ..
theorem rowsB_app (l m : List Int) : rowsB (l ++ m) = rowsB l ++ rowsB m := List.map_append ..
theorem rowsB_nil : rowsB [] = [] := rfl
theorem rowsB_cons (c : Int) (l : List Int) : rowsB (c :: l) = [.int .u8 c] :: rowsB l := rfl
theorem numsOf_rowsB (l : List Int) : numsOf (rowsB l) = l := by
  unfold numsOf rowsB
  rw [List.map_map]
  induction l with
  | nil => rfl
  | cons x r ih => simp [ih]
theorem strRows_rowsB (b : ByteArray) : strRows b = rowsB (bl b) := by
  unfold strRows rowsB bl
  rw [List.map_map]; rfl
theorem rows1 (c : Int) : [[D.int .u8 c]] = rowsB [c] := rfl
theorem i64s {n : Nat} (h : n < 9223372036854775807) : IntKind.i64.wrap ((n : Int) + 1) = ((n + 1 : Nat) : Int) := by rw [i64w (by omega) (by omega)]; rfl
theorem rowsB_ok {l : List Int} (h : isBs l) : ∀ x ∈ rowsB l, ∃ n : Int, x = [D.int .u8 n] ∧ 0 ≤ n ∧ n ≤ 255 := by
  intro x hx
  obtain ⟨n, hn, rfl⟩ := List.mem_map.1 hx
  exact ⟨n, rfl, h n hn⟩
theorem rowsB_u8 (l : List Int) : ∀ x ∈ rowsB l, ∃ n : Int, x = [D.int .u8 n] := by
  intro x hx
  obtain ⟨n, hn, rfl⟩ := List.mem_map.1 hx
  exact ⟨n, rfl⟩

/-! ### A contract of plain values -/
def flatV1 : AV → Option Value
  | .dv (.d (.int k n)) => some (.int k n)
  | .dv (.d (.bool b)) => some (.bool b)
  | .dv (.d (.str s)) => some (.string s)
  | _ => none
def flatT : AV → Option (List Value)
  | .tnil => some []
  | .tcons a t => match flatV1 a, flatT t with
    | some v, some r => some (v :: r)
    | _, _ => none
  | _ => none
def flatR : AV → Option Value
  | .tcons a t => (flatT (.tcons a t)).map fun l => .tuple l.toArray
  | a => flatV1 a
theorem flatV1_val {cx : Cx} {w0 : World} {ok : Nat → Prop} {ρ : Nat → Value} {w : World} {a : AV} {v u : Value} (h : flatV1 a = some v) (hr : rel0 cx w0 ok ρ w a u) : u = v := by
  unfold flatV1 at h
  split at h
  · cases h; exact Rd.int_inv hr
  · cases h; cases (show Rd _ _ (.bool _) u from hr); rfl
  · cases h; exact Rd.str_inv hr
  · cases h
theorem flatV1_mk {cx : Cx} {w0 : World} {ok : Nat → Prop} {ρ : Nat → Value} {w : World} {a : AV} {v : Value} (h : flatV1 a = some v) : rel0 cx w0 ok ρ w a v ∧ a.plain = true := by
  unfold flatV1 at h
  split at h
  · cases h; exact ⟨Rd.int _ _, rfl⟩
  · cases h; exact ⟨Rd.bool _, rfl⟩
  · cases h; exact ⟨Rd.str _, rfl⟩
  · cases h
theorem flatT_mk {cx : Cx} {w0 : World} {ok : Nat → Prop} {ρ : Nat → Value} {w : World} : ∀ {a : AV} {l : List Value}, flatT a = some l → relT cx w0 ok ρ w a l ∧ a.plain = true
  | .tnil, l, h => by cases h; exact ⟨rfl, rfl⟩
  | .tcons a t, l, h => by
    unfold flatT at h
    split at h
    · rename_i v r h1 h2
      cases h
      have h3 := flatV1_mk (cx := cx) (w0 := w0) (ok := ok) (ρ := ρ) (w := w) h1
      have h4 := flatT_mk (cx := cx) (w0 := w0) (ok := ok) (ρ := ρ) (w := w) h2
      exact ⟨⟨v, r, rfl, h3.1, h4.1⟩, by simp [AV.plain, h3.2, h4.2]⟩
    · cases h
  | .dv _, l, h => by cases h
  | .own _, l, h => by cases h
  | .ptr _ _, l, h => by cases h
  | .eptr _ _ _ _, l, h => by cases h
  | .dp _, l, h => by cases h
  | .st, l, h => by cases h
  | .fn _ _, l, h => by cases h
  | .fv _, l, h => by cases h
  | .nil, l, h => by cases h
  | .lit _ _, l, h => by cases h
  | .sv _ _ _, l, h => by cases h
  | .agz _ _, l, h => by cases h
  | .ago _ _ _, l, h => by cases h
  | .un, l, h => by cases h
theorem flatR_mk {cx : Cx} {w0 : World} {ok : Nat → Prop} {ρ : Nat → Value} {w : World} {a : AV} {v : Value} (h : flatR a = some v) : relA cx w0 ok ρ w a v ∧ a.plain = true := by
  have k : flatV1 a = some v → relA cx w0 ok ρ w a v ∧ a.plain = true := fun h => ⟨relA_of0 (flatV1_mk h).1, (flatV1_mk (cx := cx) (w0 := w0) (ok := ok) (ρ := ρ) (w := w) h).2⟩
  unfold flatR at h
  split at h
  · rename_i a t
    rw [Option.map_eq_some_iff] at h
    obtain ⟨l, hl, rfl⟩ := h
    have := flatT_mk (cx := cx) (w0 := w0) (ok := ok) (ρ := ρ) (w := w) hl
    exact ⟨⟨l, rfl, this.1⟩, this.2⟩
  · exact k h
theorem vals_of {cx : Cx} {w0 : World} {ok : Nat → Prop} {ρ : Nat → Value} {w : World} : ∀ {xs : List AV} {vs us : List Value}, xs.mapM flatV1 = some vs → xs.length = us.length → (∀ (i : Nat) (a : AV) (u : Value), xs[i]? = some a → us[i]? = some u → rel0 cx w0 ok ρ w a u) → us = vs
  | [], vs, us, h, hl, _ => by
    simp only [List.mapM_nil, Option.pure_def, Option.some.injEq] at h
    subst h
    cases us with
    | nil => rfl
    | cons x r => cases hl
  | a :: xs, vs, us, h, hl, hr => by
    simp only [List.mapM_cons, Option.bind_eq_bind, Option.bind_eq_some_iff, Option.pure_def, Option.some.injEq] at h
    obtain ⟨v, h1, r, h2, rfl⟩ := h
    cases us with
    | nil => cases hl
    | cons u us =>
      rw [flatV1_val h1 (hr 0 a u rfl rfl), vals_of h2 (by simpa using hl) fun i b x hb hx => hr (i + 1) b x hb hx]
/-- A contract of a function of plain values that leaves all memory as it was. -/
theorem ctr_flat {cx : Cx} {f : FuncId} {sp : Spec} (hen : Enters cx.P f) (hc : ∀ xs, sp.cost xs = 0)
    (h : ∀ xs, sp.pre xs → ∃ vals r v, xs.mapM flatV1 = some vals ∧ sp.post xs r ∧ flatR r = some v ∧ ∀ w, GlAt cx w → Calls cx.P f vals.toArray w fun e w' => e = .returned v ∧ Go.RowKit.Below w.heap.size w w') : Ctr cx f sp := by
  refine ⟨hen, fun xs hp => ?_, ?_⟩
  · obtain ⟨vals, r, v, _, h2, _⟩ := h xs hp
    exact ⟨r, h2⟩
  · intro F xs us hcx hF hst hgl hco hlen hargs hp
    obtain ⟨vals, r, v, h1, h2, h3, h4⟩ := h xs hp
    obtain rfl := vals_of h1 hlen hargs
    refine (h4 F.w0 hgl).mono ?_
    rintro e w' ⟨rfl, hb⟩
    have hm := flatR_mk (cx := cx) (w0 := F.w0) (ok := resOk F sp.fresh) (ρ := fun _ => undef) (w := w') h3
    exact ⟨v, r, rfl, ⟨hb.os, hb.tape, hb.output, hb.size, fun b hlt _ => hb.block b hlt⟩, by rw [hc]; exact hst.keep hb.size (fun b hlt => hb.block b hlt), h2, hm.2, hm.1⟩
end Go.Avc

/- The program's structs as Lean structures, and how they lie in rows of cells. No condition. -/
set_option linter.unusedVariables false
set_option linter.unusedSimpArgs false
set_option maxRecDepth 100000
namespace Go.Avc
open Go Go.Proofs

def rowsK (k : IntKind) (l : List Int) : List (List D) := l.map fun c => [.int k c]
theorem rowsK_len (k : IntKind) (l : List Int) : (rowsK k l).length = l.length := List.length_map ..
theorem rowsK_app (k : IntKind) (l m : List Int) : rowsK k (l ++ m) = rowsK k l ++ rowsK k m := List.map_append ..
theorem rowsK_one (k : IntKind) (c : Int) : [[D.int k c]] = rowsK k [c] := rfl
theorem rowsK_get (k : IntKind) (l : List Int) (i : Nat) : (rowsK k l).getD i [.int k 0] = [.int k (l.getD i 0)] := by
  unfold rowsK
  rw [List.getD_eq_getElem?_getD, List.getElem?_map, List.getD_eq_getElem?_getD]
  cases l[i]? <;> rfl
theorem rowsK_set (k : IntKind) (l : List Int) (i : Nat) (c : Int) : (rowsK k l).set i [.int k c] = rowsK k (l.set i c) := by
  unfold rowsK
  rw [List.map_set]
theorem rowsK_z (k : IntKind) (l : List Int) : ∀ x ∈ rowsK k l, x.length = 1 := by
  intro x hx
  obtain ⟨c, _, rfl⟩ := List.mem_map.1 hx
  rfl
theorem rowsK_flat (k : IntKind) (l : List Int) : ((rowsK k l).all fun x => x.all D.flat) = true := by
  rw [List.all_eq_true]
  intro x hx
  obtain ⟨c, _, rfl⟩ := List.mem_map.1 hx
  rfl
/-- strings as a slice -/
def rowsT (l : List ByteArray) : List (List D) := l.map fun s => [.str s]
theorem rowsT_len (l : List ByteArray) : (rowsT l).length = l.length := List.length_map ..
theorem rowsT_get (l : List ByteArray) (i : Nat) : (rowsT l).getD i [.str ⟨#[]⟩] = [.str (l.getD i ⟨#[]⟩)] := by
  unfold rowsT
  rw [List.getD_eq_getElem?_getD, List.getElem?_map, List.getD_eq_getElem?_getD]
  cases l[i]? <;> rfl
theorem map_inj_of {α β : Type} {f : α → β} (h : ∀ a b, f a = f b → a = b) : ∀ {l m : List α}, (l.map f = m.map f) = (l = m)
  | [], [] => by simp
  | [], b :: m => by simp
  | a :: l, [] => by simp
  | a :: l, b :: m => by
    rw [List.map_cons, List.map_cons, List.cons.injEq, List.cons.injEq, map_inj_of h]
    exact propext ⟨fun ⟨x, y⟩ => ⟨h _ _ x, y⟩, fun ⟨x, y⟩ => ⟨x ▸ rfl, y⟩⟩
theorem rowsT_inj {l m : List ByteArray} : (rowsT l = rowsT m) = (l = m) := map_inj_of fun a b h => by
  simp only [List.cons.injEq, D.str.injEq, and_true] at h; exact h
theorem rowsKi_inj {k : IntKind} {l m : List Int} : (rowsK k l = rowsK k m) = (l = m) := map_inj_of fun a b h => by
  simp only [List.cons.injEq, D.int.injEq, and_true, true_and] at h; exact h
theorem intsDi_inj {l m : List Int} : (intsD l = intsD m) = (l = m) := rowsKi_inj (k := .i64)
theorem intsD_K (l : List Int) : intsD l = rowsK .i64 l := rfl
theorem intsD_app (l m : List Int) : intsD (l ++ m) = intsD l ++ intsD m := List.map_append ..
theorem intsD_nil : intsD [] = [] := rfl
theorem intsD_cons (c : Int) (l : List Int) : intsD (c :: l) = [.int .i64 c] :: intsD l := rfl
theorem rowsT_nil : rowsT [] = [] := rfl
theorem rowsT_cons (c : ByteArray) (l : List ByteArray) : rowsT (c :: l) = [.str c] :: rowsT l := rfl
theorem rowsT_app (l m : List ByteArray) : rowsT (l ++ m) = rowsT l ++ rowsT m := List.map_append ..
theorem rowsT_take (l : List ByteArray) (n : Nat) : (rowsT l).take n = rowsT (l.take n) := List.map_take.symm
theorem rowsT_drop (l : List ByteArray) (n : Nat) : (rowsT l).drop n = rowsT (l.drop n) := List.map_drop.symm
theorem intsD_take (l : List Int) (n : Nat) : (intsD l).take n = intsD (l.take n) := List.map_take.symm
theorem intsD_drop (l : List Int) (n : Nat) : (intsD l).drop n = intsD (l.drop n) := List.map_drop.symm
/-- Bounds of what is drawn. -/
def okI (n : Int) : Prop := -1125899906842624 ≤ n ∧ n ≤ 1125899906842624
def okS (s : ByteArray) : Prop := s.size ≤ 1073741824
def okL {α : Type} (p : α → Prop) (l : List α) : Prop := l.length ≤ 1048576 ∧ ∀ x ∈ l, p x
theorem okI_z : okI 0 := ⟨by decide, by decide⟩
theorem okS_z : okS ⟨#[]⟩ := by unfold okS; decide
theorem okL_z {α : Type} (p : α → Prop) : okL p [] := ⟨Nat.zero_le _, fun _ h => by cases h⟩
theorem map_get {α : Type} (f : α → List D) (l : List α) (i : Nat) (z : α) : (l.map f).getD i (f z) = f (l.getD i z) := by
  rw [List.getD_eq_getElem?_getD, List.getElem?_map, List.getD_eq_getElem?_getD]
  cases l[i]? <;> rfl
theorem ints1 (a : Int) : [[D.int .i64 a]] = intsD [a] := rfl
theorem intsc (a : Int) (l : List Int) : [D.int .i64 a] :: intsD l = intsD (a :: l) := rfl
theorem intsD_app' (l m : List Int) : intsD l ++ intsD m = intsD (l ++ m) := (List.map_append ..).symm
theorem ints_nil1 (l : List Int) : (intsD l = []) = (l = []) := propext List.map_eq_nil_iff
theorem ints_nil2 (l : List Int) : ([] = intsD l) = (l = []) := propext ⟨fun h => List.map_eq_nil_iff.1 h.symm, fun h => h ▸ rfl⟩
theorem intsD_len (l : List Int) : (intsD l).length = l.length := List.length_map ..
theorem intsD_get (l : List Int) (i : Nat) : (intsD l).getD i [.int .i64 0] = [.int .i64 (l.getD i 0)] := rowsK_get .i64 l i
theorem intsD_any (l : List Int) (p : List D → Bool) : (intsD l).any p = l.any fun a => p [.int .i64 a] := List.any_map
theorem rowsT_any (l : List ByteArray) (p : List D → Bool) : (rowsT l).any p = l.any fun a => p [.str a] := List.any_map
theorem intsD_zlT (l : List Int) : (∀ y ∈ intsD l, y.length = 1) = True := eq_true (rowsK_z .i64 l)
theorem rowsT_zlT (l : List ByteArray) : (∀ y ∈ rowsT l, y.length = 1) = True := eq_true fun y hy => by obtain ⟨x, _, rfl⟩ := List.mem_map.1 hy; rfl
theorem strs1 (a : ByteArray) : [[D.str a]] = rowsT [a] := rfl
theorem strsc (a : ByteArray) (l : List ByteArray) : [D.str a] :: rowsT l = rowsT (a :: l) := rfl
theorem rowsT_app' (l m : List ByteArray) : rowsT l ++ rowsT m = rowsT (l ++ m) := (List.map_append ..).symm
theorem strs_nil1 (l : List ByteArray) : (rowsT l = []) = (l = []) := propext List.map_eq_nil_iff
theorem strs_nil2 (l : List ByteArray) : ([] = rowsT l) = (l = []) := propext ⟨fun h => List.map_eq_nil_iff.1 h.symm, fun h => h ▸ rfl⟩
/-- slices of slices of numbers, of strings -/
def rowsLI (l : List (List Int)) : List (List D) := l.map fun q => [.sl (intsD q)]
theorem rowsLI_len (l : List (List Int)) : (rowsLI l).length = l.length := List.length_map ..
theorem rowsLI_get (l : List (List Int)) (i : Nat) : (rowsLI l).getD i [.sl []] = [.sl (intsD (l.getD i []))] := map_get (fun q : List Int => [.sl (intsD q)]) l i []
theorem LI_1 (q : List Int) : [[D.sl (intsD q)]] = rowsLI [q] := rfl
theorem LI_c (q : List Int) (l : List (List Int)) : [D.sl (intsD q)] :: rowsLI l = rowsLI (q :: l) := rfl
theorem LI_n (l : List (List Int)) : [D.sl []] :: rowsLI l = rowsLI ([] :: l) := rfl
def rowsLT (l : List (List ByteArray)) : List (List D) := l.map fun q => [.sl (rowsT q)]
theorem LT_1 (q : List ByteArray) : [[D.sl (rowsT q)]] = rowsLT [q] := rfl
theorem LT_c (q : List ByteArray) (l : List (List ByteArray)) : [D.sl (rowsT q)] :: rowsLT l = rowsLT (q :: l) := rfl
theorem LT_n (l : List (List ByteArray)) : [D.sl []] :: rowsLT l = rowsLT ([] :: l) := rfl
theorem rowsLT_len (l : List (List ByteArray)) : (rowsLT l).length = l.length := List.length_map ..
theorem rowsLT_get (l : List (List ByteArray)) (i : Nat) : (rowsLT l).getD i [.sl []] = [.sl (rowsT (l.getD i []))] := map_get (fun q : List ByteArray => [.sl (rowsT q)]) l i []

structure TId where
  kind : Int
  text : ByteArray
def TId.z : TId := ⟨0, ⟨#[]⟩⟩
instance : Inhabited TId := ⟨TId.z⟩
def TId.row (x : TId) : List D := [.int .i64 x.kind, .str x.text]
def TId.rows (l : List TId) : List (List D) := l.map TId.row
theorem TId.inj {x y : TId} (h : x.row = y.row) : x = y := by
  obtain ⟨_, _⟩ := x; obtain ⟨_, _⟩ := y
  simp only [TId.row, List.cons.injEq, D.int.injEq, D.str.injEq, D.bool.injEq, D.sl.injEq, true_and, and_true] at h
  obtain ⟨rfl, rfl⟩ := h; rfl
theorem TId.row_inj {x y : TId} : (x.row = y.row) = (x = y) := propext ⟨TId.inj, fun h => h ▸ rfl⟩
theorem TId.rows_inj {l m : List TId} : (TId.rows l = TId.rows m) = (l = m) := map_inj_of fun _ _ => TId.inj
theorem TId.len (l : List TId) : (TId.rows l).length = l.length := List.length_map ..
theorem TId.app (l m : List TId) : TId.rows (l ++ m) = TId.rows l ++ TId.rows m := List.map_append ..
theorem TId.nil : TId.rows [] = [] := rfl
theorem TId.cons (x : TId) (l : List TId) : TId.rows (x :: l) = x.row :: TId.rows l := rfl
theorem TId.rtake (l : List TId) (n : Nat) : (TId.rows l).take n = TId.rows (l.take n) := List.map_take.symm
theorem TId.rdrop (l : List TId) (n : Nat) : (TId.rows l).drop n = TId.rows (l.drop n) := List.map_drop.symm
theorem TId.rset (l : List TId) (n : Nat) (x : TId) : (TId.rows l).set n x.row = TId.rows (l.set n x) := by simp only [TId.rows, List.map_set]
theorem TId.get (l : List TId) (i : Nat) : (TId.rows l).getD i [.int .i64 0, .str ⟨#[]⟩] = [.int .i64 (l.getD i TId.z).kind, .str (l.getD i TId.z).text] := map_get TId.row l i TId.z
theorem TId.z_len (l : List TId) : ∀ y ∈ TId.rows l, y.length = 2 := fun y hy => by obtain ⟨x, _, rfl⟩ := List.mem_map.1 hy; rfl
theorem TId.zlT (l : List TId) : (∀ y ∈ TId.rows l, y.length = 2) = True := eq_true (TId.z_len l)
theorem TId.any (l : List TId) (p : List D → Bool) : (TId.rows l).any p = l.any fun a => p a.row := List.any_map
theorem TId.ex {p : TId → Prop} : (∃ x, p x) = ∃ a0 a1, p ⟨a0, a1⟩ := propext ⟨fun ⟨⟨a0, a1⟩, h⟩ => ⟨a0, a1, h⟩, fun ⟨a0, a1, h⟩ => ⟨⟨a0, a1⟩, h⟩⟩
theorem TId.nil1 (l : List TId) : (TId.rows l = []) = (l = []) := propext List.map_eq_nil_iff
theorem TId.nil2 (l : List TId) : ([] = TId.rows l) = (l = []) := propext ⟨fun h => List.map_eq_nil_iff.1 h.symm, fun h => h ▸ rfl⟩
theorem TId.fold1 (b1 : Int) (b2 : ByteArray) : [[D.int .i64 b1, D.str b2]] = TId.rows [⟨b1, b2⟩] := rfl
theorem TId.foldc (b1 : Int) (b2 : ByteArray) (l : List TId) : [D.int .i64 b1, D.str b2] :: TId.rows l = TId.rows (⟨b1, b2⟩ :: l) := rfl
theorem TId.foldr (b1 : Int) (b2 : ByteArray) (x : TId) : ([D.int .i64 b1, D.str b2] = x.row) = (x = ⟨b1, b2⟩) := propext ⟨fun h => TId.inj (x := x) (y := ⟨b1, b2⟩) h.symm, fun h => h ▸ rfl⟩
theorem TId.app' (l m : List TId) : TId.rows l ++ TId.rows m = TId.rows (l ++ m) := (List.map_append ..).symm
def TId.ok (x : TId) : Prop := okI x.kind ∧ okS x.text
theorem TId.z_ok : TId.z.ok := ⟨okI_z, okS_z⟩
theorem TId.flat (l : List TId) : ((TId.rows l).all fun x => x.all D.flat) = true := by
  rw [List.all_eq_true]; intro y hy; obtain ⟨x, _, rfl⟩ := List.mem_map.1 hy; rfl
structure TValue where
  kind : Int
  text : ByteArray
  number : Int
def TValue.z : TValue := ⟨0, ⟨#[]⟩, 0⟩
instance : Inhabited TValue := ⟨TValue.z⟩
def TValue.row (x : TValue) : List D := [.int .i64 x.kind, .str x.text, .int .i64 x.number]
def TValue.rows (l : List TValue) : List (List D) := l.map TValue.row
theorem TValue.inj {x y : TValue} (h : x.row = y.row) : x = y := by
  obtain ⟨_, _, _⟩ := x; obtain ⟨_, _, _⟩ := y
  simp only [TValue.row, List.cons.injEq, D.int.injEq, D.str.injEq, D.bool.injEq, D.sl.injEq, true_and, and_true] at h
  obtain ⟨rfl, rfl, rfl⟩ := h; rfl
theorem TValue.row_inj {x y : TValue} : (x.row = y.row) = (x = y) := propext ⟨TValue.inj, fun h => h ▸ rfl⟩
theorem TValue.rows_inj {l m : List TValue} : (TValue.rows l = TValue.rows m) = (l = m) := map_inj_of fun _ _ => TValue.inj
theorem TValue.len (l : List TValue) : (TValue.rows l).length = l.length := List.length_map ..
theorem TValue.app (l m : List TValue) : TValue.rows (l ++ m) = TValue.rows l ++ TValue.rows m := List.map_append ..
theorem TValue.nil : TValue.rows [] = [] := rfl
theorem TValue.cons (x : TValue) (l : List TValue) : TValue.rows (x :: l) = x.row :: TValue.rows l := rfl
theorem TValue.rtake (l : List TValue) (n : Nat) : (TValue.rows l).take n = TValue.rows (l.take n) := List.map_take.symm
theorem TValue.rdrop (l : List TValue) (n : Nat) : (TValue.rows l).drop n = TValue.rows (l.drop n) := List.map_drop.symm
theorem TValue.rset (l : List TValue) (n : Nat) (x : TValue) : (TValue.rows l).set n x.row = TValue.rows (l.set n x) := by simp only [TValue.rows, List.map_set]
theorem TValue.get (l : List TValue) (i : Nat) : (TValue.rows l).getD i [.int .i64 0, .str ⟨#[]⟩, .int .i64 0] = [.int .i64 (l.getD i TValue.z).kind, .str (l.getD i TValue.z).text, .int .i64 (l.getD i TValue.z).number] := map_get TValue.row l i TValue.z
theorem TValue.z_len (l : List TValue) : ∀ y ∈ TValue.rows l, y.length = 3 := fun y hy => by obtain ⟨x, _, rfl⟩ := List.mem_map.1 hy; rfl
theorem TValue.zlT (l : List TValue) : (∀ y ∈ TValue.rows l, y.length = 3) = True := eq_true (TValue.z_len l)
theorem TValue.any (l : List TValue) (p : List D → Bool) : (TValue.rows l).any p = l.any fun a => p a.row := List.any_map
theorem TValue.ex {p : TValue → Prop} : (∃ x, p x) = ∃ a0 a1 a2, p ⟨a0, a1, a2⟩ := propext ⟨fun ⟨⟨a0, a1, a2⟩, h⟩ => ⟨a0, a1, a2, h⟩, fun ⟨a0, a1, a2, h⟩ => ⟨⟨a0, a1, a2⟩, h⟩⟩
theorem TValue.nil1 (l : List TValue) : (TValue.rows l = []) = (l = []) := propext List.map_eq_nil_iff
theorem TValue.nil2 (l : List TValue) : ([] = TValue.rows l) = (l = []) := propext ⟨fun h => List.map_eq_nil_iff.1 h.symm, fun h => h ▸ rfl⟩
theorem TValue.fold1 (b1 : Int) (b2 : ByteArray) (b3 : Int) : [[D.int .i64 b1, D.str b2, D.int .i64 b3]] = TValue.rows [⟨b1, b2, b3⟩] := rfl
theorem TValue.foldc (b1 : Int) (b2 : ByteArray) (b3 : Int) (l : List TValue) : [D.int .i64 b1, D.str b2, D.int .i64 b3] :: TValue.rows l = TValue.rows (⟨b1, b2, b3⟩ :: l) := rfl
theorem TValue.foldr (b1 : Int) (b2 : ByteArray) (b3 : Int) (x : TValue) : ([D.int .i64 b1, D.str b2, D.int .i64 b3] = x.row) = (x = ⟨b1, b2, b3⟩) := propext ⟨fun h => TValue.inj (x := x) (y := ⟨b1, b2, b3⟩) h.symm, fun h => h ▸ rfl⟩
theorem TValue.app' (l m : List TValue) : TValue.rows l ++ TValue.rows m = TValue.rows (l ++ m) := (List.map_append ..).symm
def TValue.ok (x : TValue) : Prop := okI x.kind ∧ okS x.text ∧ okI x.number
theorem TValue.z_ok : TValue.z.ok := ⟨okI_z, okS_z, okI_z⟩
theorem TValue.flat (l : List TValue) : ((TValue.rows l).all fun x => x.all D.flat) = true := by
  rw [List.all_eq_true]; intro y hy; obtain ⟨x, _, rfl⟩ := List.mem_map.1 hy; rfl
structure TField where
  name : ByteArray
  value : TValue
def TField.z : TField := ⟨⟨#[]⟩, ⟨0, ⟨#[]⟩, 0⟩⟩
instance : Inhabited TField := ⟨TField.z⟩
def TField.row (x : TField) : List D := [.str x.name, .int .i64 x.value.kind, .str x.value.text, .int .i64 x.value.number]
def TField.rows (l : List TField) : List (List D) := l.map TField.row
theorem TField.inj {x y : TField} (h : x.row = y.row) : x = y := by
  obtain ⟨_, ⟨_, _, _⟩⟩ := x; obtain ⟨_, ⟨_, _, _⟩⟩ := y
  simp only [TField.row, List.cons.injEq, D.int.injEq, D.str.injEq, D.bool.injEq, D.sl.injEq, true_and, and_true] at h
  obtain ⟨rfl, rfl, rfl, rfl⟩ := h; rfl
theorem TField.row_inj {x y : TField} : (x.row = y.row) = (x = y) := propext ⟨TField.inj, fun h => h ▸ rfl⟩
theorem TField.rows_inj {l m : List TField} : (TField.rows l = TField.rows m) = (l = m) := map_inj_of fun _ _ => TField.inj
theorem TField.len (l : List TField) : (TField.rows l).length = l.length := List.length_map ..
theorem TField.app (l m : List TField) : TField.rows (l ++ m) = TField.rows l ++ TField.rows m := List.map_append ..
theorem TField.nil : TField.rows [] = [] := rfl
theorem TField.cons (x : TField) (l : List TField) : TField.rows (x :: l) = x.row :: TField.rows l := rfl
theorem TField.rtake (l : List TField) (n : Nat) : (TField.rows l).take n = TField.rows (l.take n) := List.map_take.symm
theorem TField.rdrop (l : List TField) (n : Nat) : (TField.rows l).drop n = TField.rows (l.drop n) := List.map_drop.symm
theorem TField.rset (l : List TField) (n : Nat) (x : TField) : (TField.rows l).set n x.row = TField.rows (l.set n x) := by simp only [TField.rows, List.map_set]
theorem TField.get (l : List TField) (i : Nat) : (TField.rows l).getD i [.str ⟨#[]⟩, .int .i64 0, .str ⟨#[]⟩, .int .i64 0] = [.str (l.getD i TField.z).name, .int .i64 (l.getD i TField.z).value.kind, .str (l.getD i TField.z).value.text, .int .i64 (l.getD i TField.z).value.number] := map_get TField.row l i TField.z
theorem TField.z_len (l : List TField) : ∀ y ∈ TField.rows l, y.length = 4 := fun y hy => by obtain ⟨x, _, rfl⟩ := List.mem_map.1 hy; rfl
theorem TField.zlT (l : List TField) : (∀ y ∈ TField.rows l, y.length = 4) = True := eq_true (TField.z_len l)
theorem TField.any (l : List TField) (p : List D → Bool) : (TField.rows l).any p = l.any fun a => p a.row := List.any_map
theorem TField.ex {p : TField → Prop} : (∃ x, p x) = ∃ a0 a1, p ⟨a0, a1⟩ := propext ⟨fun ⟨⟨a0, a1⟩, h⟩ => ⟨a0, a1, h⟩, fun ⟨a0, a1, h⟩ => ⟨⟨a0, a1⟩, h⟩⟩
theorem TField.nil1 (l : List TField) : (TField.rows l = []) = (l = []) := propext List.map_eq_nil_iff
theorem TField.nil2 (l : List TField) : ([] = TField.rows l) = (l = []) := propext ⟨fun h => List.map_eq_nil_iff.1 h.symm, fun h => h ▸ rfl⟩
theorem TField.fold1 (b1 : ByteArray) (b2 : Int) (b3 : ByteArray) (b4 : Int) : [[D.str b1, D.int .i64 b2, D.str b3, D.int .i64 b4]] = TField.rows [⟨b1, ⟨b2, b3, b4⟩⟩] := rfl
theorem TField.foldc (b1 : ByteArray) (b2 : Int) (b3 : ByteArray) (b4 : Int) (l : List TField) : [D.str b1, D.int .i64 b2, D.str b3, D.int .i64 b4] :: TField.rows l = TField.rows (⟨b1, ⟨b2, b3, b4⟩⟩ :: l) := rfl
theorem TField.foldr (b1 : ByteArray) (b2 : Int) (b3 : ByteArray) (b4 : Int) (x : TField) : ([D.str b1, D.int .i64 b2, D.str b3, D.int .i64 b4] = x.row) = (x = ⟨b1, ⟨b2, b3, b4⟩⟩) := propext ⟨fun h => TField.inj (x := x) (y := ⟨b1, ⟨b2, b3, b4⟩⟩) h.symm, fun h => h ▸ rfl⟩
theorem TField.app' (l m : List TField) : TField.rows l ++ TField.rows m = TField.rows (l ++ m) := (List.map_append ..).symm
def TField.ok (x : TField) : Prop := okS x.name ∧ TValue.ok x.value
theorem TField.z_ok : TField.z.ok := ⟨okS_z, TValue.z_ok⟩
theorem TField.flat (l : List TField) : ((TField.rows l).all fun x => x.all D.flat) = true := by
  rw [List.all_eq_true]; intro y hy; obtain ⟨x, _, rfl⟩ := List.mem_map.1 hy; rfl
structure TShift where
  at_ : Int
  offset : Int
def TShift.z : TShift := ⟨0, 0⟩
instance : Inhabited TShift := ⟨TShift.z⟩
def TShift.row (x : TShift) : List D := [.int .i64 x.at_, .int .i64 x.offset]
def TShift.rows (l : List TShift) : List (List D) := l.map TShift.row
theorem TShift.inj {x y : TShift} (h : x.row = y.row) : x = y := by
  obtain ⟨_, _⟩ := x; obtain ⟨_, _⟩ := y
  simp only [TShift.row, List.cons.injEq, D.int.injEq, D.str.injEq, D.bool.injEq, D.sl.injEq, true_and, and_true] at h
  obtain ⟨rfl, rfl⟩ := h; rfl
theorem TShift.row_inj {x y : TShift} : (x.row = y.row) = (x = y) := propext ⟨TShift.inj, fun h => h ▸ rfl⟩
theorem TShift.rows_inj {l m : List TShift} : (TShift.rows l = TShift.rows m) = (l = m) := map_inj_of fun _ _ => TShift.inj
theorem TShift.len (l : List TShift) : (TShift.rows l).length = l.length := List.length_map ..
theorem TShift.app (l m : List TShift) : TShift.rows (l ++ m) = TShift.rows l ++ TShift.rows m := List.map_append ..
theorem TShift.nil : TShift.rows [] = [] := rfl
theorem TShift.cons (x : TShift) (l : List TShift) : TShift.rows (x :: l) = x.row :: TShift.rows l := rfl
theorem TShift.rtake (l : List TShift) (n : Nat) : (TShift.rows l).take n = TShift.rows (l.take n) := List.map_take.symm
theorem TShift.rdrop (l : List TShift) (n : Nat) : (TShift.rows l).drop n = TShift.rows (l.drop n) := List.map_drop.symm
theorem TShift.rset (l : List TShift) (n : Nat) (x : TShift) : (TShift.rows l).set n x.row = TShift.rows (l.set n x) := by simp only [TShift.rows, List.map_set]
theorem TShift.get (l : List TShift) (i : Nat) : (TShift.rows l).getD i [.int .i64 0, .int .i64 0] = [.int .i64 (l.getD i TShift.z).at_, .int .i64 (l.getD i TShift.z).offset] := map_get TShift.row l i TShift.z
theorem TShift.z_len (l : List TShift) : ∀ y ∈ TShift.rows l, y.length = 2 := fun y hy => by obtain ⟨x, _, rfl⟩ := List.mem_map.1 hy; rfl
theorem TShift.zlT (l : List TShift) : (∀ y ∈ TShift.rows l, y.length = 2) = True := eq_true (TShift.z_len l)
theorem TShift.any (l : List TShift) (p : List D → Bool) : (TShift.rows l).any p = l.any fun a => p a.row := List.any_map
theorem TShift.ex {p : TShift → Prop} : (∃ x, p x) = ∃ a0 a1, p ⟨a0, a1⟩ := propext ⟨fun ⟨⟨a0, a1⟩, h⟩ => ⟨a0, a1, h⟩, fun ⟨a0, a1, h⟩ => ⟨⟨a0, a1⟩, h⟩⟩
theorem TShift.nil1 (l : List TShift) : (TShift.rows l = []) = (l = []) := propext List.map_eq_nil_iff
theorem TShift.nil2 (l : List TShift) : ([] = TShift.rows l) = (l = []) := propext ⟨fun h => List.map_eq_nil_iff.1 h.symm, fun h => h ▸ rfl⟩
theorem TShift.fold1 (b1 : Int) (b2 : Int) : [[D.int .i64 b1, D.int .i64 b2]] = TShift.rows [⟨b1, b2⟩] := rfl
theorem TShift.foldc (b1 : Int) (b2 : Int) (l : List TShift) : [D.int .i64 b1, D.int .i64 b2] :: TShift.rows l = TShift.rows (⟨b1, b2⟩ :: l) := rfl
theorem TShift.foldr (b1 : Int) (b2 : Int) (x : TShift) : ([D.int .i64 b1, D.int .i64 b2] = x.row) = (x = ⟨b1, b2⟩) := propext ⟨fun h => TShift.inj (x := x) (y := ⟨b1, b2⟩) h.symm, fun h => h ▸ rfl⟩
theorem TShift.app' (l m : List TShift) : TShift.rows l ++ TShift.rows m = TShift.rows (l ++ m) := (List.map_append ..).symm
def TShift.ok (x : TShift) : Prop := okI x.at_ ∧ okI x.offset
theorem TShift.z_ok : TShift.z.ok := ⟨okI_z, okI_z⟩
theorem TShift.flat (l : List TShift) : ((TShift.rows l).all fun x => x.all D.flat) = true := by
  rw [List.all_eq_true]; intro y hy; obtain ⟨x, _, rfl⟩ := List.mem_map.1 hy; rfl
structure TZone where
  name : ByteArray
  shifts : List TShift
def TZone.z : TZone := ⟨⟨#[]⟩, []⟩
instance : Inhabited TZone := ⟨TZone.z⟩
def TZone.row (x : TZone) : List D := [.str x.name, .sl (TShift.rows x.shifts)]
def TZone.rows (l : List TZone) : List (List D) := l.map TZone.row
theorem TZone.inj {x y : TZone} (h : x.row = y.row) : x = y := by
  obtain ⟨_, _⟩ := x; obtain ⟨_, _⟩ := y
  simp only [TZone.row, List.cons.injEq, D.int.injEq, D.str.injEq, D.bool.injEq, D.sl.injEq, true_and, and_true, TShift.rows_inj] at h
  obtain ⟨rfl, rfl⟩ := h; rfl
theorem TZone.row_inj {x y : TZone} : (x.row = y.row) = (x = y) := propext ⟨TZone.inj, fun h => h ▸ rfl⟩
theorem TZone.rows_inj {l m : List TZone} : (TZone.rows l = TZone.rows m) = (l = m) := map_inj_of fun _ _ => TZone.inj
theorem TZone.len (l : List TZone) : (TZone.rows l).length = l.length := List.length_map ..
theorem TZone.app (l m : List TZone) : TZone.rows (l ++ m) = TZone.rows l ++ TZone.rows m := List.map_append ..
theorem TZone.nil : TZone.rows [] = [] := rfl
theorem TZone.cons (x : TZone) (l : List TZone) : TZone.rows (x :: l) = x.row :: TZone.rows l := rfl
theorem TZone.rtake (l : List TZone) (n : Nat) : (TZone.rows l).take n = TZone.rows (l.take n) := List.map_take.symm
theorem TZone.rdrop (l : List TZone) (n : Nat) : (TZone.rows l).drop n = TZone.rows (l.drop n) := List.map_drop.symm
theorem TZone.rset (l : List TZone) (n : Nat) (x : TZone) : (TZone.rows l).set n x.row = TZone.rows (l.set n x) := by simp only [TZone.rows, List.map_set]
theorem TZone.get (l : List TZone) (i : Nat) : (TZone.rows l).getD i [.str ⟨#[]⟩, .sl []] = [.str (l.getD i TZone.z).name, .sl (TShift.rows (l.getD i TZone.z).shifts)] := map_get TZone.row l i TZone.z
theorem TZone.z_len (l : List TZone) : ∀ y ∈ TZone.rows l, y.length = 2 := fun y hy => by obtain ⟨x, _, rfl⟩ := List.mem_map.1 hy; rfl
theorem TZone.zlT (l : List TZone) : (∀ y ∈ TZone.rows l, y.length = 2) = True := eq_true (TZone.z_len l)
theorem TZone.any (l : List TZone) (p : List D → Bool) : (TZone.rows l).any p = l.any fun a => p a.row := List.any_map
theorem TZone.ex {p : TZone → Prop} : (∃ x, p x) = ∃ a0 a1, p ⟨a0, a1⟩ := propext ⟨fun ⟨⟨a0, a1⟩, h⟩ => ⟨a0, a1, h⟩, fun ⟨a0, a1, h⟩ => ⟨⟨a0, a1⟩, h⟩⟩
theorem TZone.nil1 (l : List TZone) : (TZone.rows l = []) = (l = []) := propext List.map_eq_nil_iff
theorem TZone.nil2 (l : List TZone) : ([] = TZone.rows l) = (l = []) := propext ⟨fun h => List.map_eq_nil_iff.1 h.symm, fun h => h ▸ rfl⟩
theorem TZone.fold1 (b1 : ByteArray) (b2 : List TShift) : [[D.str b1, D.sl (TShift.rows b2)]] = TZone.rows [⟨b1, b2⟩] := rfl
theorem TZone.foldc (b1 : ByteArray) (b2 : List TShift) (l : List TZone) : [D.str b1, D.sl (TShift.rows b2)] :: TZone.rows l = TZone.rows (⟨b1, b2⟩ :: l) := rfl
theorem TZone.foldr (b1 : ByteArray) (b2 : List TShift) (x : TZone) : ([D.str b1, D.sl (TShift.rows b2)] = x.row) = (x = ⟨b1, b2⟩) := propext ⟨fun h => TZone.inj (x := x) (y := ⟨b1, b2⟩) h.symm, fun h => h ▸ rfl⟩
theorem TZone.app' (l m : List TZone) : TZone.rows l ++ TZone.rows m = TZone.rows (l ++ m) := (List.map_append ..).symm
def TZone.ok (x : TZone) : Prop := okS x.name ∧ okL TShift.ok x.shifts
theorem TZone.z_ok : TZone.z.ok := ⟨okS_z, okL_z _⟩
structure TWindow where
  from_ : Int
  to_ : Int
def TWindow.z : TWindow := ⟨0, 0⟩
instance : Inhabited TWindow := ⟨TWindow.z⟩
def TWindow.row (x : TWindow) : List D := [.int .i64 x.from_, .int .i64 x.to_]
def TWindow.rows (l : List TWindow) : List (List D) := l.map TWindow.row
theorem TWindow.inj {x y : TWindow} (h : x.row = y.row) : x = y := by
  obtain ⟨_, _⟩ := x; obtain ⟨_, _⟩ := y
  simp only [TWindow.row, List.cons.injEq, D.int.injEq, D.str.injEq, D.bool.injEq, D.sl.injEq, true_and, and_true] at h
  obtain ⟨rfl, rfl⟩ := h; rfl
theorem TWindow.row_inj {x y : TWindow} : (x.row = y.row) = (x = y) := propext ⟨TWindow.inj, fun h => h ▸ rfl⟩
theorem TWindow.rows_inj {l m : List TWindow} : (TWindow.rows l = TWindow.rows m) = (l = m) := map_inj_of fun _ _ => TWindow.inj
theorem TWindow.len (l : List TWindow) : (TWindow.rows l).length = l.length := List.length_map ..
theorem TWindow.app (l m : List TWindow) : TWindow.rows (l ++ m) = TWindow.rows l ++ TWindow.rows m := List.map_append ..
theorem TWindow.nil : TWindow.rows [] = [] := rfl
theorem TWindow.cons (x : TWindow) (l : List TWindow) : TWindow.rows (x :: l) = x.row :: TWindow.rows l := rfl
theorem TWindow.rtake (l : List TWindow) (n : Nat) : (TWindow.rows l).take n = TWindow.rows (l.take n) := List.map_take.symm
theorem TWindow.rdrop (l : List TWindow) (n : Nat) : (TWindow.rows l).drop n = TWindow.rows (l.drop n) := List.map_drop.symm
theorem TWindow.rset (l : List TWindow) (n : Nat) (x : TWindow) : (TWindow.rows l).set n x.row = TWindow.rows (l.set n x) := by simp only [TWindow.rows, List.map_set]
theorem TWindow.get (l : List TWindow) (i : Nat) : (TWindow.rows l).getD i [.int .i64 0, .int .i64 0] = [.int .i64 (l.getD i TWindow.z).from_, .int .i64 (l.getD i TWindow.z).to_] := map_get TWindow.row l i TWindow.z
theorem TWindow.z_len (l : List TWindow) : ∀ y ∈ TWindow.rows l, y.length = 2 := fun y hy => by obtain ⟨x, _, rfl⟩ := List.mem_map.1 hy; rfl
theorem TWindow.zlT (l : List TWindow) : (∀ y ∈ TWindow.rows l, y.length = 2) = True := eq_true (TWindow.z_len l)
theorem TWindow.any (l : List TWindow) (p : List D → Bool) : (TWindow.rows l).any p = l.any fun a => p a.row := List.any_map
theorem TWindow.ex {p : TWindow → Prop} : (∃ x, p x) = ∃ a0 a1, p ⟨a0, a1⟩ := propext ⟨fun ⟨⟨a0, a1⟩, h⟩ => ⟨a0, a1, h⟩, fun ⟨a0, a1, h⟩ => ⟨⟨a0, a1⟩, h⟩⟩
theorem TWindow.nil1 (l : List TWindow) : (TWindow.rows l = []) = (l = []) := propext List.map_eq_nil_iff
theorem TWindow.nil2 (l : List TWindow) : ([] = TWindow.rows l) = (l = []) := propext ⟨fun h => List.map_eq_nil_iff.1 h.symm, fun h => h ▸ rfl⟩
theorem TWindow.fold1 (b1 : Int) (b2 : Int) : [[D.int .i64 b1, D.int .i64 b2]] = TWindow.rows [⟨b1, b2⟩] := rfl
theorem TWindow.foldc (b1 : Int) (b2 : Int) (l : List TWindow) : [D.int .i64 b1, D.int .i64 b2] :: TWindow.rows l = TWindow.rows (⟨b1, b2⟩ :: l) := rfl
theorem TWindow.foldr (b1 : Int) (b2 : Int) (x : TWindow) : ([D.int .i64 b1, D.int .i64 b2] = x.row) = (x = ⟨b1, b2⟩) := propext ⟨fun h => TWindow.inj (x := x) (y := ⟨b1, b2⟩) h.symm, fun h => h ▸ rfl⟩
theorem TWindow.app' (l m : List TWindow) : TWindow.rows l ++ TWindow.rows m = TWindow.rows (l ++ m) := (List.map_append ..).symm
def TWindow.ok (x : TWindow) : Prop := okI x.from_ ∧ okI x.to_
theorem TWindow.z_ok : TWindow.z.ok := ⟨okI_z, okI_z⟩
theorem TWindow.flat (l : List TWindow) : ((TWindow.rows l).all fun x => x.all D.flat) = true := by
  rw [List.all_eq_true]; intro y hy; obtain ⟨x, _, rfl⟩ := List.mem_map.1 hy; rfl
structure TCap where
  channel : Int
  purpose : ByteArray
  many : Int
  within : Int
def TCap.z : TCap := ⟨0, ⟨#[]⟩, 0, 0⟩
instance : Inhabited TCap := ⟨TCap.z⟩
def TCap.row (x : TCap) : List D := [.int .i64 x.channel, .str x.purpose, .int .i64 x.many, .int .i64 x.within]
def TCap.rows (l : List TCap) : List (List D) := l.map TCap.row
theorem TCap.inj {x y : TCap} (h : x.row = y.row) : x = y := by
  obtain ⟨_, _, _, _⟩ := x; obtain ⟨_, _, _, _⟩ := y
  simp only [TCap.row, List.cons.injEq, D.int.injEq, D.str.injEq, D.bool.injEq, D.sl.injEq, true_and, and_true] at h
  obtain ⟨rfl, rfl, rfl, rfl⟩ := h; rfl
theorem TCap.row_inj {x y : TCap} : (x.row = y.row) = (x = y) := propext ⟨TCap.inj, fun h => h ▸ rfl⟩
theorem TCap.rows_inj {l m : List TCap} : (TCap.rows l = TCap.rows m) = (l = m) := map_inj_of fun _ _ => TCap.inj
theorem TCap.len (l : List TCap) : (TCap.rows l).length = l.length := List.length_map ..
theorem TCap.app (l m : List TCap) : TCap.rows (l ++ m) = TCap.rows l ++ TCap.rows m := List.map_append ..
theorem TCap.nil : TCap.rows [] = [] := rfl
theorem TCap.cons (x : TCap) (l : List TCap) : TCap.rows (x :: l) = x.row :: TCap.rows l := rfl
theorem TCap.rtake (l : List TCap) (n : Nat) : (TCap.rows l).take n = TCap.rows (l.take n) := List.map_take.symm
theorem TCap.rdrop (l : List TCap) (n : Nat) : (TCap.rows l).drop n = TCap.rows (l.drop n) := List.map_drop.symm
theorem TCap.rset (l : List TCap) (n : Nat) (x : TCap) : (TCap.rows l).set n x.row = TCap.rows (l.set n x) := by simp only [TCap.rows, List.map_set]
theorem TCap.get (l : List TCap) (i : Nat) : (TCap.rows l).getD i [.int .i64 0, .str ⟨#[]⟩, .int .i64 0, .int .i64 0] = [.int .i64 (l.getD i TCap.z).channel, .str (l.getD i TCap.z).purpose, .int .i64 (l.getD i TCap.z).many, .int .i64 (l.getD i TCap.z).within] := map_get TCap.row l i TCap.z
theorem TCap.z_len (l : List TCap) : ∀ y ∈ TCap.rows l, y.length = 4 := fun y hy => by obtain ⟨x, _, rfl⟩ := List.mem_map.1 hy; rfl
theorem TCap.zlT (l : List TCap) : (∀ y ∈ TCap.rows l, y.length = 4) = True := eq_true (TCap.z_len l)
theorem TCap.any (l : List TCap) (p : List D → Bool) : (TCap.rows l).any p = l.any fun a => p a.row := List.any_map
theorem TCap.ex {p : TCap → Prop} : (∃ x, p x) = ∃ a0 a1 a2 a3, p ⟨a0, a1, a2, a3⟩ := propext ⟨fun ⟨⟨a0, a1, a2, a3⟩, h⟩ => ⟨a0, a1, a2, a3, h⟩, fun ⟨a0, a1, a2, a3, h⟩ => ⟨⟨a0, a1, a2, a3⟩, h⟩⟩
theorem TCap.nil1 (l : List TCap) : (TCap.rows l = []) = (l = []) := propext List.map_eq_nil_iff
theorem TCap.nil2 (l : List TCap) : ([] = TCap.rows l) = (l = []) := propext ⟨fun h => List.map_eq_nil_iff.1 h.symm, fun h => h ▸ rfl⟩
theorem TCap.fold1 (b1 : Int) (b2 : ByteArray) (b3 : Int) (b4 : Int) : [[D.int .i64 b1, D.str b2, D.int .i64 b3, D.int .i64 b4]] = TCap.rows [⟨b1, b2, b3, b4⟩] := rfl
theorem TCap.foldc (b1 : Int) (b2 : ByteArray) (b3 : Int) (b4 : Int) (l : List TCap) : [D.int .i64 b1, D.str b2, D.int .i64 b3, D.int .i64 b4] :: TCap.rows l = TCap.rows (⟨b1, b2, b3, b4⟩ :: l) := rfl
theorem TCap.foldr (b1 : Int) (b2 : ByteArray) (b3 : Int) (b4 : Int) (x : TCap) : ([D.int .i64 b1, D.str b2, D.int .i64 b3, D.int .i64 b4] = x.row) = (x = ⟨b1, b2, b3, b4⟩) := propext ⟨fun h => TCap.inj (x := x) (y := ⟨b1, b2, b3, b4⟩) h.symm, fun h => h ▸ rfl⟩
theorem TCap.app' (l m : List TCap) : TCap.rows l ++ TCap.rows m = TCap.rows (l ++ m) := (List.map_append ..).symm
def TCap.ok (x : TCap) : Prop := okI x.channel ∧ okS x.purpose ∧ okI x.many ∧ okI x.within
theorem TCap.z_ok : TCap.z.ok := ⟨okI_z, okS_z, okI_z, okI_z⟩
theorem TCap.flat (l : List TCap) : ((TCap.rows l).all fun x => x.all D.flat) = true := by
  rw [List.all_eq_true]; intro y hy; obtain ⟨x, _, rfl⟩ := List.mem_map.1 hy; rfl
structure TPool where
  name : ByteArray
  channel : Int
  perMinute : Int
  first : Int
  warm : List Int
def TPool.z : TPool := ⟨⟨#[]⟩, 0, 0, 0, []⟩
instance : Inhabited TPool := ⟨TPool.z⟩
def TPool.row (x : TPool) : List D := [.str x.name, .int .i64 x.channel, .int .i64 x.perMinute, .int .i64 x.first, .sl (intsD x.warm)]
def TPool.rows (l : List TPool) : List (List D) := l.map TPool.row
theorem TPool.inj {x y : TPool} (h : x.row = y.row) : x = y := by
  obtain ⟨_, _, _, _, _⟩ := x; obtain ⟨_, _, _, _, _⟩ := y
  simp only [TPool.row, List.cons.injEq, D.int.injEq, D.str.injEq, D.bool.injEq, D.sl.injEq, true_and, and_true, intsDi_inj] at h
  obtain ⟨rfl, rfl, rfl, rfl, rfl⟩ := h; rfl
theorem TPool.row_inj {x y : TPool} : (x.row = y.row) = (x = y) := propext ⟨TPool.inj, fun h => h ▸ rfl⟩
theorem TPool.rows_inj {l m : List TPool} : (TPool.rows l = TPool.rows m) = (l = m) := map_inj_of fun _ _ => TPool.inj
theorem TPool.len (l : List TPool) : (TPool.rows l).length = l.length := List.length_map ..
theorem TPool.app (l m : List TPool) : TPool.rows (l ++ m) = TPool.rows l ++ TPool.rows m := List.map_append ..
theorem TPool.nil : TPool.rows [] = [] := rfl
theorem TPool.cons (x : TPool) (l : List TPool) : TPool.rows (x :: l) = x.row :: TPool.rows l := rfl
theorem TPool.rtake (l : List TPool) (n : Nat) : (TPool.rows l).take n = TPool.rows (l.take n) := List.map_take.symm
theorem TPool.rdrop (l : List TPool) (n : Nat) : (TPool.rows l).drop n = TPool.rows (l.drop n) := List.map_drop.symm
theorem TPool.rset (l : List TPool) (n : Nat) (x : TPool) : (TPool.rows l).set n x.row = TPool.rows (l.set n x) := by simp only [TPool.rows, List.map_set]
theorem TPool.get (l : List TPool) (i : Nat) : (TPool.rows l).getD i [.str ⟨#[]⟩, .int .i64 0, .int .i64 0, .int .i64 0, .sl []] = [.str (l.getD i TPool.z).name, .int .i64 (l.getD i TPool.z).channel, .int .i64 (l.getD i TPool.z).perMinute, .int .i64 (l.getD i TPool.z).first, .sl (intsD (l.getD i TPool.z).warm)] := map_get TPool.row l i TPool.z
theorem TPool.z_len (l : List TPool) : ∀ y ∈ TPool.rows l, y.length = 5 := fun y hy => by obtain ⟨x, _, rfl⟩ := List.mem_map.1 hy; rfl
theorem TPool.zlT (l : List TPool) : (∀ y ∈ TPool.rows l, y.length = 5) = True := eq_true (TPool.z_len l)
theorem TPool.any (l : List TPool) (p : List D → Bool) : (TPool.rows l).any p = l.any fun a => p a.row := List.any_map
theorem TPool.ex {p : TPool → Prop} : (∃ x, p x) = ∃ a0 a1 a2 a3 a4, p ⟨a0, a1, a2, a3, a4⟩ := propext ⟨fun ⟨⟨a0, a1, a2, a3, a4⟩, h⟩ => ⟨a0, a1, a2, a3, a4, h⟩, fun ⟨a0, a1, a2, a3, a4, h⟩ => ⟨⟨a0, a1, a2, a3, a4⟩, h⟩⟩
theorem TPool.nil1 (l : List TPool) : (TPool.rows l = []) = (l = []) := propext List.map_eq_nil_iff
theorem TPool.nil2 (l : List TPool) : ([] = TPool.rows l) = (l = []) := propext ⟨fun h => List.map_eq_nil_iff.1 h.symm, fun h => h ▸ rfl⟩
theorem TPool.fold1 (b1 : ByteArray) (b2 : Int) (b3 : Int) (b4 : Int) (b5 : List Int) : [[D.str b1, D.int .i64 b2, D.int .i64 b3, D.int .i64 b4, D.sl (intsD b5)]] = TPool.rows [⟨b1, b2, b3, b4, b5⟩] := rfl
theorem TPool.foldc (b1 : ByteArray) (b2 : Int) (b3 : Int) (b4 : Int) (b5 : List Int) (l : List TPool) : [D.str b1, D.int .i64 b2, D.int .i64 b3, D.int .i64 b4, D.sl (intsD b5)] :: TPool.rows l = TPool.rows (⟨b1, b2, b3, b4, b5⟩ :: l) := rfl
theorem TPool.foldr (b1 : ByteArray) (b2 : Int) (b3 : Int) (b4 : Int) (b5 : List Int) (x : TPool) : ([D.str b1, D.int .i64 b2, D.int .i64 b3, D.int .i64 b4, D.sl (intsD b5)] = x.row) = (x = ⟨b1, b2, b3, b4, b5⟩) := propext ⟨fun h => TPool.inj (x := x) (y := ⟨b1, b2, b3, b4, b5⟩) h.symm, fun h => h ▸ rfl⟩
theorem TPool.app' (l m : List TPool) : TPool.rows l ++ TPool.rows m = TPool.rows (l ++ m) := (List.map_append ..).symm
def TPool.ok (x : TPool) : Prop := okS x.name ∧ okI x.channel ∧ okI x.perMinute ∧ okI x.first ∧ okL okI x.warm
theorem TPool.z_ok : TPool.z.ok := ⟨okS_z, okI_z, okI_z, okI_z, okL_z _⟩
structure TSendRules where
  quiet : List Int
  quietFrom : Int
  quietTo : Int
  ranks : List ByteArray
  caps : List TCap
  pools : List TPool
  delays : List Int
def TSendRules.z : TSendRules := ⟨[], 0, 0, [], [], [], []⟩
instance : Inhabited TSendRules := ⟨TSendRules.z⟩
def TSendRules.row (x : TSendRules) : List D := [.sl (intsD x.quiet), .int .i64 x.quietFrom, .int .i64 x.quietTo, .sl (rowsT x.ranks), .sl (TCap.rows x.caps), .sl (TPool.rows x.pools), .sl (intsD x.delays)]
def TSendRules.rows (l : List TSendRules) : List (List D) := l.map TSendRules.row
theorem TSendRules.inj {x y : TSendRules} (h : x.row = y.row) : x = y := by
  obtain ⟨_, _, _, _, _, _, _⟩ := x; obtain ⟨_, _, _, _, _, _, _⟩ := y
  simp only [TSendRules.row, List.cons.injEq, D.int.injEq, D.str.injEq, D.bool.injEq, D.sl.injEq, true_and, and_true, TCap.rows_inj, TPool.rows_inj, intsDi_inj, rowsT_inj] at h
  obtain ⟨rfl, rfl, rfl, rfl, rfl, rfl, rfl⟩ := h; rfl
theorem TSendRules.row_inj {x y : TSendRules} : (x.row = y.row) = (x = y) := propext ⟨TSendRules.inj, fun h => h ▸ rfl⟩
theorem TSendRules.rows_inj {l m : List TSendRules} : (TSendRules.rows l = TSendRules.rows m) = (l = m) := map_inj_of fun _ _ => TSendRules.inj
theorem TSendRules.len (l : List TSendRules) : (TSendRules.rows l).length = l.length := List.length_map ..
theorem TSendRules.app (l m : List TSendRules) : TSendRules.rows (l ++ m) = TSendRules.rows l ++ TSendRules.rows m := List.map_append ..
theorem TSendRules.nil : TSendRules.rows [] = [] := rfl
theorem TSendRules.cons (x : TSendRules) (l : List TSendRules) : TSendRules.rows (x :: l) = x.row :: TSendRules.rows l := rfl
theorem TSendRules.rtake (l : List TSendRules) (n : Nat) : (TSendRules.rows l).take n = TSendRules.rows (l.take n) := List.map_take.symm
theorem TSendRules.rdrop (l : List TSendRules) (n : Nat) : (TSendRules.rows l).drop n = TSendRules.rows (l.drop n) := List.map_drop.symm
theorem TSendRules.rset (l : List TSendRules) (n : Nat) (x : TSendRules) : (TSendRules.rows l).set n x.row = TSendRules.rows (l.set n x) := by simp only [TSendRules.rows, List.map_set]
theorem TSendRules.get (l : List TSendRules) (i : Nat) : (TSendRules.rows l).getD i [.sl [], .int .i64 0, .int .i64 0, .sl [], .sl [], .sl [], .sl []] = [.sl (intsD (l.getD i TSendRules.z).quiet), .int .i64 (l.getD i TSendRules.z).quietFrom, .int .i64 (l.getD i TSendRules.z).quietTo, .sl (rowsT (l.getD i TSendRules.z).ranks), .sl (TCap.rows (l.getD i TSendRules.z).caps), .sl (TPool.rows (l.getD i TSendRules.z).pools), .sl (intsD (l.getD i TSendRules.z).delays)] := map_get TSendRules.row l i TSendRules.z
theorem TSendRules.z_len (l : List TSendRules) : ∀ y ∈ TSendRules.rows l, y.length = 7 := fun y hy => by obtain ⟨x, _, rfl⟩ := List.mem_map.1 hy; rfl
theorem TSendRules.zlT (l : List TSendRules) : (∀ y ∈ TSendRules.rows l, y.length = 7) = True := eq_true (TSendRules.z_len l)
theorem TSendRules.any (l : List TSendRules) (p : List D → Bool) : (TSendRules.rows l).any p = l.any fun a => p a.row := List.any_map
theorem TSendRules.ex {p : TSendRules → Prop} : (∃ x, p x) = ∃ a0 a1 a2 a3 a4 a5 a6, p ⟨a0, a1, a2, a3, a4, a5, a6⟩ := propext ⟨fun ⟨⟨a0, a1, a2, a3, a4, a5, a6⟩, h⟩ => ⟨a0, a1, a2, a3, a4, a5, a6, h⟩, fun ⟨a0, a1, a2, a3, a4, a5, a6, h⟩ => ⟨⟨a0, a1, a2, a3, a4, a5, a6⟩, h⟩⟩
theorem TSendRules.nil1 (l : List TSendRules) : (TSendRules.rows l = []) = (l = []) := propext List.map_eq_nil_iff
theorem TSendRules.nil2 (l : List TSendRules) : ([] = TSendRules.rows l) = (l = []) := propext ⟨fun h => List.map_eq_nil_iff.1 h.symm, fun h => h ▸ rfl⟩
theorem TSendRules.fold1 (b1 : List Int) (b2 : Int) (b3 : Int) (b4 : List ByteArray) (b5 : List TCap) (b6 : List TPool) (b7 : List Int) : [[D.sl (intsD b1), D.int .i64 b2, D.int .i64 b3, D.sl (rowsT b4), D.sl (TCap.rows b5), D.sl (TPool.rows b6), D.sl (intsD b7)]] = TSendRules.rows [⟨b1, b2, b3, b4, b5, b6, b7⟩] := rfl
theorem TSendRules.foldc (b1 : List Int) (b2 : Int) (b3 : Int) (b4 : List ByteArray) (b5 : List TCap) (b6 : List TPool) (b7 : List Int) (l : List TSendRules) : [D.sl (intsD b1), D.int .i64 b2, D.int .i64 b3, D.sl (rowsT b4), D.sl (TCap.rows b5), D.sl (TPool.rows b6), D.sl (intsD b7)] :: TSendRules.rows l = TSendRules.rows (⟨b1, b2, b3, b4, b5, b6, b7⟩ :: l) := rfl
theorem TSendRules.foldr (b1 : List Int) (b2 : Int) (b3 : Int) (b4 : List ByteArray) (b5 : List TCap) (b6 : List TPool) (b7 : List Int) (x : TSendRules) : ([D.sl (intsD b1), D.int .i64 b2, D.int .i64 b3, D.sl (rowsT b4), D.sl (TCap.rows b5), D.sl (TPool.rows b6), D.sl (intsD b7)] = x.row) = (x = ⟨b1, b2, b3, b4, b5, b6, b7⟩) := propext ⟨fun h => TSendRules.inj (x := x) (y := ⟨b1, b2, b3, b4, b5, b6, b7⟩) h.symm, fun h => h ▸ rfl⟩
theorem TSendRules.app' (l m : List TSendRules) : TSendRules.rows l ++ TSendRules.rows m = TSendRules.rows (l ++ m) := (List.map_append ..).symm
def TSendRules.ok (x : TSendRules) : Prop := okL okI x.quiet ∧ okI x.quietFrom ∧ okI x.quietTo ∧ okL okS x.ranks ∧ okL TCap.ok x.caps ∧ okL TPool.ok x.pools ∧ okL okI x.delays
theorem TSendRules.z_ok : TSendRules.z.ok := ⟨okL_z _, okI_z, okI_z, okL_z _, okL_z _, okL_z _, okL_z _⟩
structure TMeasure where
  name : ByteArray
  how : Int
  far : Int
  points : Int
def TMeasure.z : TMeasure := ⟨⟨#[]⟩, 0, 0, 0⟩
instance : Inhabited TMeasure := ⟨TMeasure.z⟩
def TMeasure.row (x : TMeasure) : List D := [.str x.name, .int .i64 x.how, .int .i64 x.far, .int .i64 x.points]
def TMeasure.rows (l : List TMeasure) : List (List D) := l.map TMeasure.row
theorem TMeasure.inj {x y : TMeasure} (h : x.row = y.row) : x = y := by
  obtain ⟨_, _, _, _⟩ := x; obtain ⟨_, _, _, _⟩ := y
  simp only [TMeasure.row, List.cons.injEq, D.int.injEq, D.str.injEq, D.bool.injEq, D.sl.injEq, true_and, and_true] at h
  obtain ⟨rfl, rfl, rfl, rfl⟩ := h; rfl
theorem TMeasure.row_inj {x y : TMeasure} : (x.row = y.row) = (x = y) := propext ⟨TMeasure.inj, fun h => h ▸ rfl⟩
theorem TMeasure.rows_inj {l m : List TMeasure} : (TMeasure.rows l = TMeasure.rows m) = (l = m) := map_inj_of fun _ _ => TMeasure.inj
theorem TMeasure.len (l : List TMeasure) : (TMeasure.rows l).length = l.length := List.length_map ..
theorem TMeasure.app (l m : List TMeasure) : TMeasure.rows (l ++ m) = TMeasure.rows l ++ TMeasure.rows m := List.map_append ..
theorem TMeasure.nil : TMeasure.rows [] = [] := rfl
theorem TMeasure.cons (x : TMeasure) (l : List TMeasure) : TMeasure.rows (x :: l) = x.row :: TMeasure.rows l := rfl
theorem TMeasure.rtake (l : List TMeasure) (n : Nat) : (TMeasure.rows l).take n = TMeasure.rows (l.take n) := List.map_take.symm
theorem TMeasure.rdrop (l : List TMeasure) (n : Nat) : (TMeasure.rows l).drop n = TMeasure.rows (l.drop n) := List.map_drop.symm
theorem TMeasure.rset (l : List TMeasure) (n : Nat) (x : TMeasure) : (TMeasure.rows l).set n x.row = TMeasure.rows (l.set n x) := by simp only [TMeasure.rows, List.map_set]
theorem TMeasure.get (l : List TMeasure) (i : Nat) : (TMeasure.rows l).getD i [.str ⟨#[]⟩, .int .i64 0, .int .i64 0, .int .i64 0] = [.str (l.getD i TMeasure.z).name, .int .i64 (l.getD i TMeasure.z).how, .int .i64 (l.getD i TMeasure.z).far, .int .i64 (l.getD i TMeasure.z).points] := map_get TMeasure.row l i TMeasure.z
theorem TMeasure.z_len (l : List TMeasure) : ∀ y ∈ TMeasure.rows l, y.length = 4 := fun y hy => by obtain ⟨x, _, rfl⟩ := List.mem_map.1 hy; rfl
theorem TMeasure.zlT (l : List TMeasure) : (∀ y ∈ TMeasure.rows l, y.length = 4) = True := eq_true (TMeasure.z_len l)
theorem TMeasure.any (l : List TMeasure) (p : List D → Bool) : (TMeasure.rows l).any p = l.any fun a => p a.row := List.any_map
theorem TMeasure.ex {p : TMeasure → Prop} : (∃ x, p x) = ∃ a0 a1 a2 a3, p ⟨a0, a1, a2, a3⟩ := propext ⟨fun ⟨⟨a0, a1, a2, a3⟩, h⟩ => ⟨a0, a1, a2, a3, h⟩, fun ⟨a0, a1, a2, a3, h⟩ => ⟨⟨a0, a1, a2, a3⟩, h⟩⟩
theorem TMeasure.nil1 (l : List TMeasure) : (TMeasure.rows l = []) = (l = []) := propext List.map_eq_nil_iff
theorem TMeasure.nil2 (l : List TMeasure) : ([] = TMeasure.rows l) = (l = []) := propext ⟨fun h => List.map_eq_nil_iff.1 h.symm, fun h => h ▸ rfl⟩
theorem TMeasure.fold1 (b1 : ByteArray) (b2 : Int) (b3 : Int) (b4 : Int) : [[D.str b1, D.int .i64 b2, D.int .i64 b3, D.int .i64 b4]] = TMeasure.rows [⟨b1, b2, b3, b4⟩] := rfl
theorem TMeasure.foldc (b1 : ByteArray) (b2 : Int) (b3 : Int) (b4 : Int) (l : List TMeasure) : [D.str b1, D.int .i64 b2, D.int .i64 b3, D.int .i64 b4] :: TMeasure.rows l = TMeasure.rows (⟨b1, b2, b3, b4⟩ :: l) := rfl
theorem TMeasure.foldr (b1 : ByteArray) (b2 : Int) (b3 : Int) (b4 : Int) (x : TMeasure) : ([D.str b1, D.int .i64 b2, D.int .i64 b3, D.int .i64 b4] = x.row) = (x = ⟨b1, b2, b3, b4⟩) := propext ⟨fun h => TMeasure.inj (x := x) (y := ⟨b1, b2, b3, b4⟩) h.symm, fun h => h ▸ rfl⟩
theorem TMeasure.app' (l m : List TMeasure) : TMeasure.rows l ++ TMeasure.rows m = TMeasure.rows (l ++ m) := (List.map_append ..).symm
def TMeasure.ok (x : TMeasure) : Prop := okS x.name ∧ okI x.how ∧ okI x.far ∧ okI x.points
theorem TMeasure.z_ok : TMeasure.z.ok := ⟨okS_z, okI_z, okI_z, okI_z⟩
theorem TMeasure.flat (l : List TMeasure) : ((TMeasure.rows l).all fun x => x.all D.flat) = true := by
  rw [List.all_eq_true]; intro y hy; obtain ⟨x, _, rfl⟩ := List.mem_map.1 hy; rfl
structure TNeed where
  name : ByteArray
  kind : Int
  must : Bool
def TNeed.z : TNeed := ⟨⟨#[]⟩, 0, false⟩
instance : Inhabited TNeed := ⟨TNeed.z⟩
def TNeed.row (x : TNeed) : List D := [.str x.name, .int .i64 x.kind, .bool x.must]
def TNeed.rows (l : List TNeed) : List (List D) := l.map TNeed.row
theorem TNeed.inj {x y : TNeed} (h : x.row = y.row) : x = y := by
  obtain ⟨_, _, _⟩ := x; obtain ⟨_, _, _⟩ := y
  simp only [TNeed.row, List.cons.injEq, D.int.injEq, D.str.injEq, D.bool.injEq, D.sl.injEq, true_and, and_true] at h
  obtain ⟨rfl, rfl, rfl⟩ := h; rfl
theorem TNeed.row_inj {x y : TNeed} : (x.row = y.row) = (x = y) := propext ⟨TNeed.inj, fun h => h ▸ rfl⟩
theorem TNeed.rows_inj {l m : List TNeed} : (TNeed.rows l = TNeed.rows m) = (l = m) := map_inj_of fun _ _ => TNeed.inj
theorem TNeed.len (l : List TNeed) : (TNeed.rows l).length = l.length := List.length_map ..
theorem TNeed.app (l m : List TNeed) : TNeed.rows (l ++ m) = TNeed.rows l ++ TNeed.rows m := List.map_append ..
theorem TNeed.nil : TNeed.rows [] = [] := rfl
theorem TNeed.cons (x : TNeed) (l : List TNeed) : TNeed.rows (x :: l) = x.row :: TNeed.rows l := rfl
theorem TNeed.rtake (l : List TNeed) (n : Nat) : (TNeed.rows l).take n = TNeed.rows (l.take n) := List.map_take.symm
theorem TNeed.rdrop (l : List TNeed) (n : Nat) : (TNeed.rows l).drop n = TNeed.rows (l.drop n) := List.map_drop.symm
theorem TNeed.rset (l : List TNeed) (n : Nat) (x : TNeed) : (TNeed.rows l).set n x.row = TNeed.rows (l.set n x) := by simp only [TNeed.rows, List.map_set]
theorem TNeed.get (l : List TNeed) (i : Nat) : (TNeed.rows l).getD i [.str ⟨#[]⟩, .int .i64 0, .bool false] = [.str (l.getD i TNeed.z).name, .int .i64 (l.getD i TNeed.z).kind, .bool (l.getD i TNeed.z).must] := map_get TNeed.row l i TNeed.z
theorem TNeed.z_len (l : List TNeed) : ∀ y ∈ TNeed.rows l, y.length = 3 := fun y hy => by obtain ⟨x, _, rfl⟩ := List.mem_map.1 hy; rfl
theorem TNeed.zlT (l : List TNeed) : (∀ y ∈ TNeed.rows l, y.length = 3) = True := eq_true (TNeed.z_len l)
theorem TNeed.any (l : List TNeed) (p : List D → Bool) : (TNeed.rows l).any p = l.any fun a => p a.row := List.any_map
theorem TNeed.ex {p : TNeed → Prop} : (∃ x, p x) = ∃ a0 a1 a2, p ⟨a0, a1, a2⟩ := propext ⟨fun ⟨⟨a0, a1, a2⟩, h⟩ => ⟨a0, a1, a2, h⟩, fun ⟨a0, a1, a2, h⟩ => ⟨⟨a0, a1, a2⟩, h⟩⟩
theorem TNeed.nil1 (l : List TNeed) : (TNeed.rows l = []) = (l = []) := propext List.map_eq_nil_iff
theorem TNeed.nil2 (l : List TNeed) : ([] = TNeed.rows l) = (l = []) := propext ⟨fun h => List.map_eq_nil_iff.1 h.symm, fun h => h ▸ rfl⟩
theorem TNeed.fold1 (b1 : ByteArray) (b2 : Int) (b3 : Bool) : [[D.str b1, D.int .i64 b2, D.bool b3]] = TNeed.rows [⟨b1, b2, b3⟩] := rfl
theorem TNeed.foldc (b1 : ByteArray) (b2 : Int) (b3 : Bool) (l : List TNeed) : [D.str b1, D.int .i64 b2, D.bool b3] :: TNeed.rows l = TNeed.rows (⟨b1, b2, b3⟩ :: l) := rfl
theorem TNeed.foldr (b1 : ByteArray) (b2 : Int) (b3 : Bool) (x : TNeed) : ([D.str b1, D.int .i64 b2, D.bool b3] = x.row) = (x = ⟨b1, b2, b3⟩) := propext ⟨fun h => TNeed.inj (x := x) (y := ⟨b1, b2, b3⟩) h.symm, fun h => h ▸ rfl⟩
theorem TNeed.app' (l m : List TNeed) : TNeed.rows l ++ TNeed.rows m = TNeed.rows (l ++ m) := (List.map_append ..).symm
def TNeed.ok (x : TNeed) : Prop := okS x.name ∧ okI x.kind
theorem TNeed.z_ok : TNeed.z.ok := ⟨okS_z, okI_z⟩
theorem TNeed.flat (l : List TNeed) : ((TNeed.rows l).all fun x => x.all D.flat) = true := by
  rw [List.all_eq_true]; intro y hy; obtain ⟨x, _, rfl⟩ := List.mem_map.1 hy; rfl
structure TSchema where
  name : ByteArray
  needs : List TNeed
def TSchema.z : TSchema := ⟨⟨#[]⟩, []⟩
instance : Inhabited TSchema := ⟨TSchema.z⟩
def TSchema.row (x : TSchema) : List D := [.str x.name, .sl (TNeed.rows x.needs)]
def TSchema.rows (l : List TSchema) : List (List D) := l.map TSchema.row
theorem TSchema.inj {x y : TSchema} (h : x.row = y.row) : x = y := by
  obtain ⟨_, _⟩ := x; obtain ⟨_, _⟩ := y
  simp only [TSchema.row, List.cons.injEq, D.int.injEq, D.str.injEq, D.bool.injEq, D.sl.injEq, true_and, and_true, TNeed.rows_inj] at h
  obtain ⟨rfl, rfl⟩ := h; rfl
theorem TSchema.row_inj {x y : TSchema} : (x.row = y.row) = (x = y) := propext ⟨TSchema.inj, fun h => h ▸ rfl⟩
theorem TSchema.rows_inj {l m : List TSchema} : (TSchema.rows l = TSchema.rows m) = (l = m) := map_inj_of fun _ _ => TSchema.inj
theorem TSchema.len (l : List TSchema) : (TSchema.rows l).length = l.length := List.length_map ..
theorem TSchema.app (l m : List TSchema) : TSchema.rows (l ++ m) = TSchema.rows l ++ TSchema.rows m := List.map_append ..
theorem TSchema.nil : TSchema.rows [] = [] := rfl
theorem TSchema.cons (x : TSchema) (l : List TSchema) : TSchema.rows (x :: l) = x.row :: TSchema.rows l := rfl
theorem TSchema.rtake (l : List TSchema) (n : Nat) : (TSchema.rows l).take n = TSchema.rows (l.take n) := List.map_take.symm
theorem TSchema.rdrop (l : List TSchema) (n : Nat) : (TSchema.rows l).drop n = TSchema.rows (l.drop n) := List.map_drop.symm
theorem TSchema.rset (l : List TSchema) (n : Nat) (x : TSchema) : (TSchema.rows l).set n x.row = TSchema.rows (l.set n x) := by simp only [TSchema.rows, List.map_set]
theorem TSchema.get (l : List TSchema) (i : Nat) : (TSchema.rows l).getD i [.str ⟨#[]⟩, .sl []] = [.str (l.getD i TSchema.z).name, .sl (TNeed.rows (l.getD i TSchema.z).needs)] := map_get TSchema.row l i TSchema.z
theorem TSchema.z_len (l : List TSchema) : ∀ y ∈ TSchema.rows l, y.length = 2 := fun y hy => by obtain ⟨x, _, rfl⟩ := List.mem_map.1 hy; rfl
theorem TSchema.zlT (l : List TSchema) : (∀ y ∈ TSchema.rows l, y.length = 2) = True := eq_true (TSchema.z_len l)
theorem TSchema.any (l : List TSchema) (p : List D → Bool) : (TSchema.rows l).any p = l.any fun a => p a.row := List.any_map
theorem TSchema.ex {p : TSchema → Prop} : (∃ x, p x) = ∃ a0 a1, p ⟨a0, a1⟩ := propext ⟨fun ⟨⟨a0, a1⟩, h⟩ => ⟨a0, a1, h⟩, fun ⟨a0, a1, h⟩ => ⟨⟨a0, a1⟩, h⟩⟩
theorem TSchema.nil1 (l : List TSchema) : (TSchema.rows l = []) = (l = []) := propext List.map_eq_nil_iff
theorem TSchema.nil2 (l : List TSchema) : ([] = TSchema.rows l) = (l = []) := propext ⟨fun h => List.map_eq_nil_iff.1 h.symm, fun h => h ▸ rfl⟩
theorem TSchema.fold1 (b1 : ByteArray) (b2 : List TNeed) : [[D.str b1, D.sl (TNeed.rows b2)]] = TSchema.rows [⟨b1, b2⟩] := rfl
theorem TSchema.foldc (b1 : ByteArray) (b2 : List TNeed) (l : List TSchema) : [D.str b1, D.sl (TNeed.rows b2)] :: TSchema.rows l = TSchema.rows (⟨b1, b2⟩ :: l) := rfl
theorem TSchema.foldr (b1 : ByteArray) (b2 : List TNeed) (x : TSchema) : ([D.str b1, D.sl (TNeed.rows b2)] = x.row) = (x = ⟨b1, b2⟩) := propext ⟨fun h => TSchema.inj (x := x) (y := ⟨b1, b2⟩) h.symm, fun h => h ▸ rfl⟩
theorem TSchema.app' (l m : List TSchema) : TSchema.rows l ++ TSchema.rows m = TSchema.rows (l ++ m) := (List.map_append ..).symm
def TSchema.ok (x : TSchema) : Prop := okS x.name ∧ okL TNeed.ok x.needs
theorem TSchema.z_ok : TSchema.z.ok := ⟨okS_z, okL_z _⟩
structure TEvent where
  id : ByteArray
  name : ByteArray
  at_ : Int
  who : TId
  fields : List TField
def TEvent.z : TEvent := ⟨⟨#[]⟩, ⟨#[]⟩, 0, ⟨0, ⟨#[]⟩⟩, []⟩
instance : Inhabited TEvent := ⟨TEvent.z⟩
def TEvent.row (x : TEvent) : List D := [.str x.id, .str x.name, .int .i64 x.at_, .int .i64 x.who.kind, .str x.who.text, .sl (TField.rows x.fields)]
def TEvent.rows (l : List TEvent) : List (List D) := l.map TEvent.row
theorem TEvent.inj {x y : TEvent} (h : x.row = y.row) : x = y := by
  obtain ⟨_, _, _, ⟨_, _⟩, _⟩ := x; obtain ⟨_, _, _, ⟨_, _⟩, _⟩ := y
  simp only [TEvent.row, List.cons.injEq, D.int.injEq, D.str.injEq, D.bool.injEq, D.sl.injEq, true_and, and_true, TField.rows_inj] at h
  obtain ⟨rfl, rfl, rfl, rfl, rfl, rfl⟩ := h; rfl
theorem TEvent.row_inj {x y : TEvent} : (x.row = y.row) = (x = y) := propext ⟨TEvent.inj, fun h => h ▸ rfl⟩
theorem TEvent.rows_inj {l m : List TEvent} : (TEvent.rows l = TEvent.rows m) = (l = m) := map_inj_of fun _ _ => TEvent.inj
theorem TEvent.len (l : List TEvent) : (TEvent.rows l).length = l.length := List.length_map ..
theorem TEvent.app (l m : List TEvent) : TEvent.rows (l ++ m) = TEvent.rows l ++ TEvent.rows m := List.map_append ..
theorem TEvent.nil : TEvent.rows [] = [] := rfl
theorem TEvent.cons (x : TEvent) (l : List TEvent) : TEvent.rows (x :: l) = x.row :: TEvent.rows l := rfl
theorem TEvent.rtake (l : List TEvent) (n : Nat) : (TEvent.rows l).take n = TEvent.rows (l.take n) := List.map_take.symm
theorem TEvent.rdrop (l : List TEvent) (n : Nat) : (TEvent.rows l).drop n = TEvent.rows (l.drop n) := List.map_drop.symm
theorem TEvent.rset (l : List TEvent) (n : Nat) (x : TEvent) : (TEvent.rows l).set n x.row = TEvent.rows (l.set n x) := by simp only [TEvent.rows, List.map_set]
theorem TEvent.get (l : List TEvent) (i : Nat) : (TEvent.rows l).getD i [.str ⟨#[]⟩, .str ⟨#[]⟩, .int .i64 0, .int .i64 0, .str ⟨#[]⟩, .sl []] = [.str (l.getD i TEvent.z).id, .str (l.getD i TEvent.z).name, .int .i64 (l.getD i TEvent.z).at_, .int .i64 (l.getD i TEvent.z).who.kind, .str (l.getD i TEvent.z).who.text, .sl (TField.rows (l.getD i TEvent.z).fields)] := map_get TEvent.row l i TEvent.z
theorem TEvent.z_len (l : List TEvent) : ∀ y ∈ TEvent.rows l, y.length = 6 := fun y hy => by obtain ⟨x, _, rfl⟩ := List.mem_map.1 hy; rfl
theorem TEvent.zlT (l : List TEvent) : (∀ y ∈ TEvent.rows l, y.length = 6) = True := eq_true (TEvent.z_len l)
theorem TEvent.any (l : List TEvent) (p : List D → Bool) : (TEvent.rows l).any p = l.any fun a => p a.row := List.any_map
theorem TEvent.ex {p : TEvent → Prop} : (∃ x, p x) = ∃ a0 a1 a2 a3 a4, p ⟨a0, a1, a2, a3, a4⟩ := propext ⟨fun ⟨⟨a0, a1, a2, a3, a4⟩, h⟩ => ⟨a0, a1, a2, a3, a4, h⟩, fun ⟨a0, a1, a2, a3, a4, h⟩ => ⟨⟨a0, a1, a2, a3, a4⟩, h⟩⟩
theorem TEvent.nil1 (l : List TEvent) : (TEvent.rows l = []) = (l = []) := propext List.map_eq_nil_iff
theorem TEvent.nil2 (l : List TEvent) : ([] = TEvent.rows l) = (l = []) := propext ⟨fun h => List.map_eq_nil_iff.1 h.symm, fun h => h ▸ rfl⟩
theorem TEvent.fold1 (b1 : ByteArray) (b2 : ByteArray) (b3 : Int) (b4 : Int) (b5 : ByteArray) (b6 : List TField) : [[D.str b1, D.str b2, D.int .i64 b3, D.int .i64 b4, D.str b5, D.sl (TField.rows b6)]] = TEvent.rows [⟨b1, b2, b3, ⟨b4, b5⟩, b6⟩] := rfl
theorem TEvent.foldc (b1 : ByteArray) (b2 : ByteArray) (b3 : Int) (b4 : Int) (b5 : ByteArray) (b6 : List TField) (l : List TEvent) : [D.str b1, D.str b2, D.int .i64 b3, D.int .i64 b4, D.str b5, D.sl (TField.rows b6)] :: TEvent.rows l = TEvent.rows (⟨b1, b2, b3, ⟨b4, b5⟩, b6⟩ :: l) := rfl
theorem TEvent.foldr (b1 : ByteArray) (b2 : ByteArray) (b3 : Int) (b4 : Int) (b5 : ByteArray) (b6 : List TField) (x : TEvent) : ([D.str b1, D.str b2, D.int .i64 b3, D.int .i64 b4, D.str b5, D.sl (TField.rows b6)] = x.row) = (x = ⟨b1, b2, b3, ⟨b4, b5⟩, b6⟩) := propext ⟨fun h => TEvent.inj (x := x) (y := ⟨b1, b2, b3, ⟨b4, b5⟩, b6⟩) h.symm, fun h => h ▸ rfl⟩
theorem TEvent.app' (l m : List TEvent) : TEvent.rows l ++ TEvent.rows m = TEvent.rows (l ++ m) := (List.map_append ..).symm
def TEvent.ok (x : TEvent) : Prop := okS x.id ∧ okS x.name ∧ okI x.at_ ∧ TId.ok x.who ∧ okL TField.ok x.fields
theorem TEvent.z_ok : TEvent.z.ok := ⟨okS_z, okS_z, okI_z, TId.z_ok, okL_z _⟩
structure TTerm where
  region : ByteArray
  channel : Int
  free : Bool
  days : Int
  wait : Int
def TTerm.z : TTerm := ⟨⟨#[]⟩, 0, false, 0, 0⟩
instance : Inhabited TTerm := ⟨TTerm.z⟩
def TTerm.row (x : TTerm) : List D := [.str x.region, .int .i64 x.channel, .bool x.free, .int .i64 x.days, .int .i64 x.wait]
def TTerm.rows (l : List TTerm) : List (List D) := l.map TTerm.row
theorem TTerm.inj {x y : TTerm} (h : x.row = y.row) : x = y := by
  obtain ⟨_, _, _, _, _⟩ := x; obtain ⟨_, _, _, _, _⟩ := y
  simp only [TTerm.row, List.cons.injEq, D.int.injEq, D.str.injEq, D.bool.injEq, D.sl.injEq, true_and, and_true] at h
  obtain ⟨rfl, rfl, rfl, rfl, rfl⟩ := h; rfl
theorem TTerm.row_inj {x y : TTerm} : (x.row = y.row) = (x = y) := propext ⟨TTerm.inj, fun h => h ▸ rfl⟩
theorem TTerm.rows_inj {l m : List TTerm} : (TTerm.rows l = TTerm.rows m) = (l = m) := map_inj_of fun _ _ => TTerm.inj
theorem TTerm.len (l : List TTerm) : (TTerm.rows l).length = l.length := List.length_map ..
theorem TTerm.app (l m : List TTerm) : TTerm.rows (l ++ m) = TTerm.rows l ++ TTerm.rows m := List.map_append ..
theorem TTerm.nil : TTerm.rows [] = [] := rfl
theorem TTerm.cons (x : TTerm) (l : List TTerm) : TTerm.rows (x :: l) = x.row :: TTerm.rows l := rfl
theorem TTerm.rtake (l : List TTerm) (n : Nat) : (TTerm.rows l).take n = TTerm.rows (l.take n) := List.map_take.symm
theorem TTerm.rdrop (l : List TTerm) (n : Nat) : (TTerm.rows l).drop n = TTerm.rows (l.drop n) := List.map_drop.symm
theorem TTerm.rset (l : List TTerm) (n : Nat) (x : TTerm) : (TTerm.rows l).set n x.row = TTerm.rows (l.set n x) := by simp only [TTerm.rows, List.map_set]
theorem TTerm.get (l : List TTerm) (i : Nat) : (TTerm.rows l).getD i [.str ⟨#[]⟩, .int .i64 0, .bool false, .int .i64 0, .int .i64 0] = [.str (l.getD i TTerm.z).region, .int .i64 (l.getD i TTerm.z).channel, .bool (l.getD i TTerm.z).free, .int .i64 (l.getD i TTerm.z).days, .int .i64 (l.getD i TTerm.z).wait] := map_get TTerm.row l i TTerm.z
theorem TTerm.z_len (l : List TTerm) : ∀ y ∈ TTerm.rows l, y.length = 5 := fun y hy => by obtain ⟨x, _, rfl⟩ := List.mem_map.1 hy; rfl
theorem TTerm.zlT (l : List TTerm) : (∀ y ∈ TTerm.rows l, y.length = 5) = True := eq_true (TTerm.z_len l)
theorem TTerm.any (l : List TTerm) (p : List D → Bool) : (TTerm.rows l).any p = l.any fun a => p a.row := List.any_map
theorem TTerm.ex {p : TTerm → Prop} : (∃ x, p x) = ∃ a0 a1 a2 a3 a4, p ⟨a0, a1, a2, a3, a4⟩ := propext ⟨fun ⟨⟨a0, a1, a2, a3, a4⟩, h⟩ => ⟨a0, a1, a2, a3, a4, h⟩, fun ⟨a0, a1, a2, a3, a4, h⟩ => ⟨⟨a0, a1, a2, a3, a4⟩, h⟩⟩
theorem TTerm.nil1 (l : List TTerm) : (TTerm.rows l = []) = (l = []) := propext List.map_eq_nil_iff
theorem TTerm.nil2 (l : List TTerm) : ([] = TTerm.rows l) = (l = []) := propext ⟨fun h => List.map_eq_nil_iff.1 h.symm, fun h => h ▸ rfl⟩
theorem TTerm.fold1 (b1 : ByteArray) (b2 : Int) (b3 : Bool) (b4 : Int) (b5 : Int) : [[D.str b1, D.int .i64 b2, D.bool b3, D.int .i64 b4, D.int .i64 b5]] = TTerm.rows [⟨b1, b2, b3, b4, b5⟩] := rfl
theorem TTerm.foldc (b1 : ByteArray) (b2 : Int) (b3 : Bool) (b4 : Int) (b5 : Int) (l : List TTerm) : [D.str b1, D.int .i64 b2, D.bool b3, D.int .i64 b4, D.int .i64 b5] :: TTerm.rows l = TTerm.rows (⟨b1, b2, b3, b4, b5⟩ :: l) := rfl
theorem TTerm.foldr (b1 : ByteArray) (b2 : Int) (b3 : Bool) (b4 : Int) (b5 : Int) (x : TTerm) : ([D.str b1, D.int .i64 b2, D.bool b3, D.int .i64 b4, D.int .i64 b5] = x.row) = (x = ⟨b1, b2, b3, b4, b5⟩) := propext ⟨fun h => TTerm.inj (x := x) (y := ⟨b1, b2, b3, b4, b5⟩) h.symm, fun h => h ▸ rfl⟩
theorem TTerm.app' (l m : List TTerm) : TTerm.rows l ++ TTerm.rows m = TTerm.rows (l ++ m) := (List.map_append ..).symm
def TTerm.ok (x : TTerm) : Prop := okS x.region ∧ okI x.channel ∧ okI x.days ∧ okI x.wait
theorem TTerm.z_ok : TTerm.z.ok := ⟨okS_z, okI_z, okI_z, okI_z⟩
theorem TTerm.flat (l : List TTerm) : ((TTerm.rows l).all fun x => x.all D.flat) = true := by
  rw [List.all_eq_true]; intro y hy; obtain ⟨x, _, rfl⟩ := List.mem_map.1 hy; rfl
structure TPurpose where
  name : ByteArray
  terms : List TTerm
def TPurpose.z : TPurpose := ⟨⟨#[]⟩, []⟩
instance : Inhabited TPurpose := ⟨TPurpose.z⟩
def TPurpose.row (x : TPurpose) : List D := [.str x.name, .sl (TTerm.rows x.terms)]
def TPurpose.rows (l : List TPurpose) : List (List D) := l.map TPurpose.row
theorem TPurpose.inj {x y : TPurpose} (h : x.row = y.row) : x = y := by
  obtain ⟨_, _⟩ := x; obtain ⟨_, _⟩ := y
  simp only [TPurpose.row, List.cons.injEq, D.int.injEq, D.str.injEq, D.bool.injEq, D.sl.injEq, true_and, and_true, TTerm.rows_inj] at h
  obtain ⟨rfl, rfl⟩ := h; rfl
theorem TPurpose.row_inj {x y : TPurpose} : (x.row = y.row) = (x = y) := propext ⟨TPurpose.inj, fun h => h ▸ rfl⟩
theorem TPurpose.rows_inj {l m : List TPurpose} : (TPurpose.rows l = TPurpose.rows m) = (l = m) := map_inj_of fun _ _ => TPurpose.inj
theorem TPurpose.len (l : List TPurpose) : (TPurpose.rows l).length = l.length := List.length_map ..
theorem TPurpose.app (l m : List TPurpose) : TPurpose.rows (l ++ m) = TPurpose.rows l ++ TPurpose.rows m := List.map_append ..
theorem TPurpose.nil : TPurpose.rows [] = [] := rfl
theorem TPurpose.cons (x : TPurpose) (l : List TPurpose) : TPurpose.rows (x :: l) = x.row :: TPurpose.rows l := rfl
theorem TPurpose.rtake (l : List TPurpose) (n : Nat) : (TPurpose.rows l).take n = TPurpose.rows (l.take n) := List.map_take.symm
theorem TPurpose.rdrop (l : List TPurpose) (n : Nat) : (TPurpose.rows l).drop n = TPurpose.rows (l.drop n) := List.map_drop.symm
theorem TPurpose.rset (l : List TPurpose) (n : Nat) (x : TPurpose) : (TPurpose.rows l).set n x.row = TPurpose.rows (l.set n x) := by simp only [TPurpose.rows, List.map_set]
theorem TPurpose.get (l : List TPurpose) (i : Nat) : (TPurpose.rows l).getD i [.str ⟨#[]⟩, .sl []] = [.str (l.getD i TPurpose.z).name, .sl (TTerm.rows (l.getD i TPurpose.z).terms)] := map_get TPurpose.row l i TPurpose.z
theorem TPurpose.z_len (l : List TPurpose) : ∀ y ∈ TPurpose.rows l, y.length = 2 := fun y hy => by obtain ⟨x, _, rfl⟩ := List.mem_map.1 hy; rfl
theorem TPurpose.zlT (l : List TPurpose) : (∀ y ∈ TPurpose.rows l, y.length = 2) = True := eq_true (TPurpose.z_len l)
theorem TPurpose.any (l : List TPurpose) (p : List D → Bool) : (TPurpose.rows l).any p = l.any fun a => p a.row := List.any_map
theorem TPurpose.ex {p : TPurpose → Prop} : (∃ x, p x) = ∃ a0 a1, p ⟨a0, a1⟩ := propext ⟨fun ⟨⟨a0, a1⟩, h⟩ => ⟨a0, a1, h⟩, fun ⟨a0, a1, h⟩ => ⟨⟨a0, a1⟩, h⟩⟩
theorem TPurpose.nil1 (l : List TPurpose) : (TPurpose.rows l = []) = (l = []) := propext List.map_eq_nil_iff
theorem TPurpose.nil2 (l : List TPurpose) : ([] = TPurpose.rows l) = (l = []) := propext ⟨fun h => List.map_eq_nil_iff.1 h.symm, fun h => h ▸ rfl⟩
theorem TPurpose.fold1 (b1 : ByteArray) (b2 : List TTerm) : [[D.str b1, D.sl (TTerm.rows b2)]] = TPurpose.rows [⟨b1, b2⟩] := rfl
theorem TPurpose.foldc (b1 : ByteArray) (b2 : List TTerm) (l : List TPurpose) : [D.str b1, D.sl (TTerm.rows b2)] :: TPurpose.rows l = TPurpose.rows (⟨b1, b2⟩ :: l) := rfl
theorem TPurpose.foldr (b1 : ByteArray) (b2 : List TTerm) (x : TPurpose) : ([D.str b1, D.sl (TTerm.rows b2)] = x.row) = (x = ⟨b1, b2⟩) := propext ⟨fun h => TPurpose.inj (x := x) (y := ⟨b1, b2⟩) h.symm, fun h => h ▸ rfl⟩
theorem TPurpose.app' (l m : List TPurpose) : TPurpose.rows l ++ TPurpose.rows m = TPurpose.rows (l ++ m) := (List.map_append ..).symm
def TPurpose.ok (x : TPurpose) : Prop := okS x.name ∧ okL TTerm.ok x.terms
theorem TPurpose.z_ok : TPurpose.z.ok := ⟨okS_z, okL_z _⟩
structure TStatement where
  no : Int
  at_ : Int
  id : TId
  purpose : ByteArray
  region : ByteArray
  channel : Int
  what : Int
def TStatement.z : TStatement := ⟨0, 0, ⟨0, ⟨#[]⟩⟩, ⟨#[]⟩, ⟨#[]⟩, 0, 0⟩
instance : Inhabited TStatement := ⟨TStatement.z⟩
def TStatement.row (x : TStatement) : List D := [.int .i64 x.no, .int .i64 x.at_, .int .i64 x.id.kind, .str x.id.text, .str x.purpose, .str x.region, .int .i64 x.channel, .int .i64 x.what]
def TStatement.rows (l : List TStatement) : List (List D) := l.map TStatement.row
theorem TStatement.inj {x y : TStatement} (h : x.row = y.row) : x = y := by
  obtain ⟨_, _, ⟨_, _⟩, _, _, _, _⟩ := x; obtain ⟨_, _, ⟨_, _⟩, _, _, _, _⟩ := y
  simp only [TStatement.row, List.cons.injEq, D.int.injEq, D.str.injEq, D.bool.injEq, D.sl.injEq, true_and, and_true] at h
  obtain ⟨rfl, rfl, rfl, rfl, rfl, rfl, rfl, rfl⟩ := h; rfl
theorem TStatement.row_inj {x y : TStatement} : (x.row = y.row) = (x = y) := propext ⟨TStatement.inj, fun h => h ▸ rfl⟩
theorem TStatement.rows_inj {l m : List TStatement} : (TStatement.rows l = TStatement.rows m) = (l = m) := map_inj_of fun _ _ => TStatement.inj
theorem TStatement.len (l : List TStatement) : (TStatement.rows l).length = l.length := List.length_map ..
theorem TStatement.app (l m : List TStatement) : TStatement.rows (l ++ m) = TStatement.rows l ++ TStatement.rows m := List.map_append ..
theorem TStatement.nil : TStatement.rows [] = [] := rfl
theorem TStatement.cons (x : TStatement) (l : List TStatement) : TStatement.rows (x :: l) = x.row :: TStatement.rows l := rfl
theorem TStatement.rtake (l : List TStatement) (n : Nat) : (TStatement.rows l).take n = TStatement.rows (l.take n) := List.map_take.symm
theorem TStatement.rdrop (l : List TStatement) (n : Nat) : (TStatement.rows l).drop n = TStatement.rows (l.drop n) := List.map_drop.symm
theorem TStatement.rset (l : List TStatement) (n : Nat) (x : TStatement) : (TStatement.rows l).set n x.row = TStatement.rows (l.set n x) := by simp only [TStatement.rows, List.map_set]
theorem TStatement.get (l : List TStatement) (i : Nat) : (TStatement.rows l).getD i [.int .i64 0, .int .i64 0, .int .i64 0, .str ⟨#[]⟩, .str ⟨#[]⟩, .str ⟨#[]⟩, .int .i64 0, .int .i64 0] = [.int .i64 (l.getD i TStatement.z).no, .int .i64 (l.getD i TStatement.z).at_, .int .i64 (l.getD i TStatement.z).id.kind, .str (l.getD i TStatement.z).id.text, .str (l.getD i TStatement.z).purpose, .str (l.getD i TStatement.z).region, .int .i64 (l.getD i TStatement.z).channel, .int .i64 (l.getD i TStatement.z).what] := map_get TStatement.row l i TStatement.z
theorem TStatement.z_len (l : List TStatement) : ∀ y ∈ TStatement.rows l, y.length = 8 := fun y hy => by obtain ⟨x, _, rfl⟩ := List.mem_map.1 hy; rfl
theorem TStatement.zlT (l : List TStatement) : (∀ y ∈ TStatement.rows l, y.length = 8) = True := eq_true (TStatement.z_len l)
theorem TStatement.any (l : List TStatement) (p : List D → Bool) : (TStatement.rows l).any p = l.any fun a => p a.row := List.any_map
theorem TStatement.ex {p : TStatement → Prop} : (∃ x, p x) = ∃ a0 a1 a2 a3 a4 a5 a6, p ⟨a0, a1, a2, a3, a4, a5, a6⟩ := propext ⟨fun ⟨⟨a0, a1, a2, a3, a4, a5, a6⟩, h⟩ => ⟨a0, a1, a2, a3, a4, a5, a6, h⟩, fun ⟨a0, a1, a2, a3, a4, a5, a6, h⟩ => ⟨⟨a0, a1, a2, a3, a4, a5, a6⟩, h⟩⟩
theorem TStatement.nil1 (l : List TStatement) : (TStatement.rows l = []) = (l = []) := propext List.map_eq_nil_iff
theorem TStatement.nil2 (l : List TStatement) : ([] = TStatement.rows l) = (l = []) := propext ⟨fun h => List.map_eq_nil_iff.1 h.symm, fun h => h ▸ rfl⟩
theorem TStatement.fold1 (b1 : Int) (b2 : Int) (b3 : Int) (b4 : ByteArray) (b5 : ByteArray) (b6 : ByteArray) (b7 : Int) (b8 : Int) : [[D.int .i64 b1, D.int .i64 b2, D.int .i64 b3, D.str b4, D.str b5, D.str b6, D.int .i64 b7, D.int .i64 b8]] = TStatement.rows [⟨b1, b2, ⟨b3, b4⟩, b5, b6, b7, b8⟩] := rfl
theorem TStatement.foldc (b1 : Int) (b2 : Int) (b3 : Int) (b4 : ByteArray) (b5 : ByteArray) (b6 : ByteArray) (b7 : Int) (b8 : Int) (l : List TStatement) : [D.int .i64 b1, D.int .i64 b2, D.int .i64 b3, D.str b4, D.str b5, D.str b6, D.int .i64 b7, D.int .i64 b8] :: TStatement.rows l = TStatement.rows (⟨b1, b2, ⟨b3, b4⟩, b5, b6, b7, b8⟩ :: l) := rfl
theorem TStatement.foldr (b1 : Int) (b2 : Int) (b3 : Int) (b4 : ByteArray) (b5 : ByteArray) (b6 : ByteArray) (b7 : Int) (b8 : Int) (x : TStatement) : ([D.int .i64 b1, D.int .i64 b2, D.int .i64 b3, D.str b4, D.str b5, D.str b6, D.int .i64 b7, D.int .i64 b8] = x.row) = (x = ⟨b1, b2, ⟨b3, b4⟩, b5, b6, b7, b8⟩) := propext ⟨fun h => TStatement.inj (x := x) (y := ⟨b1, b2, ⟨b3, b4⟩, b5, b6, b7, b8⟩) h.symm, fun h => h ▸ rfl⟩
theorem TStatement.app' (l m : List TStatement) : TStatement.rows l ++ TStatement.rows m = TStatement.rows (l ++ m) := (List.map_append ..).symm
def TStatement.ok (x : TStatement) : Prop := okI x.no ∧ okI x.at_ ∧ TId.ok x.id ∧ okS x.purpose ∧ okS x.region ∧ okI x.channel ∧ okI x.what
theorem TStatement.z_ok : TStatement.z.ok := ⟨okI_z, okI_z, TId.z_ok, okS_z, okS_z, okI_z, okI_z⟩
theorem TStatement.flat (l : List TStatement) : ((TStatement.rows l).all fun x => x.all D.flat) = true := by
  rw [List.all_eq_true]; intro y hy; obtain ⟨x, _, rfl⟩ := List.mem_map.1 hy; rfl
end Go.Avc

/- A law that begins by laying its stream: its walk out of what the rest of its code asks. No condition. -/
set_option linter.unusedVariables false
set_option linter.unusedSimpArgs false
namespace Go.Avc
open Go Go.Proofs

theorem getD_put' {a : Act} {d t : Nat} {v : Value} (hd : d < a.tmps.size) : (a.put (some d) v).tmps.getD t undef = if t = d then v else a.tmps.getD t undef := getD_put hd
theorem put_size {a : Act} {d : Option Nat} {v : Value} : (a.put d v).tmps.size = a.tmps.size := by cases d <;> simp [Act.put]
theorem put_defers {a : Act} {d : Option Nat} {v : Value} : (a.put d v).defers = a.defers := by cases d <;> rfl

/-- The result's slot is laid, the stream is built and boxed. -/
theorem head_wp {P : Program} {Q : Exit → Act → World → Prop} {c : Code} {i0 i1 : Nat} {o0 m bo bx sg : Oper} {d x1 x2 x3 x4 : Nat} {ST : TypeId}
    (h0 : o0.op = .assign (.const (.bool false)) ∧ o0.dst = some d ∧ o0.guard = none) (h1 : m.op = .move (.tmp 0) ∧ m.dst = some x1 ∧ m.guard = none)
    (h2 : bo.op = .build ST #[(0, .tmp x1)] ∧ bo.dst = some x2 ∧ bo.guard = none) (h3 : bx.op = .box ST (.tmp x2) ∧ bx.dst = some x3 ∧ bx.guard = none)
    (h4 : sg.op = .assign (.tmp x3) ∧ sg.dst = some x4 ∧ sg.guard = none) (hd : d ≠ 0)
    (hbuild : ∀ (A : Option Addr) (n cp : Nat) (w : World) (ev : Operand → Value) (o : Oper), o.op = .build ST #[(0, .tmp x1)] → ev (.tmp x1) = .slice A n cp → (execOp ev o).run P w = .ok (.value (.agg #[.slice A n cp, .int .i64 0])) w)
    {a : Act} {w : World} {A : Option Addr} {n cp : Nat} (ha : a.tmps.getD 0 undef = .slice A n cp) (hs : d < a.tmps.size ∧ x1 < a.tmps.size ∧ x2 < a.tmps.size ∧ x3 < a.tmps.size ∧ x4 < a.tmps.size)
    (hc : ∀ a' : Act, (∀ t, a'.tmps.getD t undef = if t = x4 then .pointer (some ⟨w.heap.size, 0, none⟩) else if t = x3 then .pointer (some ⟨w.heap.size, 0, none⟩) else if t = x2 then .agg #[.slice A n cp, .int .i64 0] else if t = x1 then .slice A n cp else if t = d then .bool false else a.tmps.getD t undef) →
      a'.tmps.size = a.tmps.size → a'.defers = a.defers → c.wp P Q a' (w.alloc (.cells #[.slice A n cp, .int .i64 0] ST))) :
    (Code.seq (.region i0 #[o0] false) (.seq (.region i1 #[m, bo, bx, sg] false) c)).wp P Q a w := by
  obtain ⟨s0, s1, s2, s3, s4⟩ := hs
  refine wp_seq (wp_region_list ?_)
  refine wpList_plain h0.2.2 fun K hK => ?_
  have r0 : (execOp a.eval o0).run P w = .ok (.value (.bool false)) w := by simp [execOp, h0.1, Act.eval]
  unfold Oper.wp
  rw [r0, Oper.upon_value, h0.2.1]
  refine hK _ _ ?_
  refine wp_seq (wp_region_list ?_)
  have e0 : (a.put (some d) (.bool false)).tmps.getD 0 undef = .slice A n cp := by rw [getD_put' s0, if_neg (fun e => hd e.symm)]; exact ha
  refine wpList_plain h1.2.2 fun K1 hK1 => ?_
  have r1 : (execOp (a.put (some d) (.bool false)).eval m).run P w = .ok (.value (.slice A n cp)) w := by simp [execOp, h1.1, Act.eval, e0]
  unfold Oper.wp
  rw [r1, Oper.upon_value, h1.2.1]
  refine hK1 _ _ ?_
  refine wpList_plain h2.2.2 fun K2 hK2 => ?_
  have e1 : ((a.put (some d) (.bool false)).put (some x1) (.slice A n cp)).eval (.tmp x1) = .slice A n cp := by
    show ((a.put (some d) (.bool false)).put (some x1) (.slice A n cp)).tmps.getD x1 undef = _
    rw [getD_put' (by rw [put_size]; exact s1), if_pos rfl]
  have r2 := hbuild A n cp w _ bo h2.1 e1
  unfold Oper.wp
  rw [r2, Oper.upon_value, h2.2.1]
  refine hK2 _ _ ?_
  refine wpList_plain h3.2.2 fun K3 hK3 => ?_
  have e2 : (((a.put (some d) (.bool false)).put (some x1) (.slice A n cp)).put (some x2) (.agg #[.slice A n cp, .int .i64 0])).eval (.tmp x2) = .agg #[.slice A n cp, .int .i64 0] := by
    show (((a.put (some d) (.bool false)).put (some x1) (.slice A n cp)).put (some x2) (.agg #[.slice A n cp, .int .i64 0])).tmps.getD x2 undef = _
    rw [getD_put' (by rw [put_size, put_size]; exact s2), if_pos rfl]
  have r3 : (execOp (((a.put (some d) (.bool false)).put (some x1) (.slice A n cp)).put (some x2) (.agg #[.slice A n cp, .int .i64 0])).eval bx).run P w = .ok (.value (.pointer (some ⟨w.heap.size, 0, none⟩))) (w.alloc (.cells #[.slice A n cp, .int .i64 0] ST)) := by
    simp only [execOp, h3.1, Instr.box, newVar, newRow, Sem.run_bind, run_newObj, Sem.run_pure, Result.andThen_ok, e2]
    rfl
  unfold Oper.wp
  rw [r3, Oper.upon_value, h3.2.1]
  refine hK3 _ _ ?_
  refine wpList_plain h4.2.2 fun K4 hK4 => ?_
  generalize hA3 : ((((a.put (some d) (.bool false)).put (some x1) (.slice A n cp)).put (some x2) (.agg #[.slice A n cp, .int .i64 0])).put (some x3) (.pointer (some ⟨w.heap.size, 0, none⟩))) = a3
  have hsz : a3.tmps.size = a.tmps.size := by rw [← hA3]; simp only [put_size]
  have e3 : a3.eval (.tmp x3) = .pointer (some ⟨w.heap.size, 0, none⟩) := by
    show a3.tmps.getD x3 undef = _
    rw [← hA3, getD_put' (by simp only [put_size]; exact s3), if_pos rfl]
  have r4 : (execOp a3.eval sg).run P (w.alloc (.cells #[.slice A n cp, .int .i64 0] ST)) = .ok (.value (.pointer (some ⟨w.heap.size, 0, none⟩))) (w.alloc (.cells #[.slice A n cp, .int .i64 0] ST)) := by simp [execOp, h4.1, e3]
  unfold Oper.wp
  rw [r4, Oper.upon_value, h4.2.1]
  refine hK4 _ _ ?_
  refine hc _ (fun t => ?_) (by rw [put_size, hsz]) (by rw [put_defers, ← hA3]; simp only [put_defers])
  rw [getD_put' (by rw [hsz]; exact s4), ← hA3, getD_put' (by simp only [put_size]; exact s3), getD_put' (by simp only [put_size]; exact s2), getD_put' (by simp only [put_size]; exact s1), getD_put' s0]

def intRows (L : List Int) : List (List D) := L.map fun x => [.int .i64 x]
/-- A law's walk: its stream laid, the rest by what its code asks. -/
theorem law_calls {P : Program} {f : FuncId} {fn : Func} {c : Code} {i0 i1 : Nat} {o0 m bo bx sg : Oper} {d x1 x2 x3 x4 : Nat} {ST : TypeId} {E : Env} {B : Nat} {live : List Nat} {HH : List Nat} {hz : List (Nat × List Nat × List Nat)} {ex : List AV} {xv : List Value} {L : List Int} {A : Option Addr} {cp ng : Nat} {glob : Nat → Option (List D)} {W : World}
    (hf : P.funcs[f]? = some fn) (hb : fn.body = some (Code.seq (.region i0 #[o0] false) (.seq (.region i1 #[m, bo, bx, sg] false) c))) (hl : fn.results = [ResultVar.tmp d].toArray) (hok : codeOk fn.ntmps hz c = true)
    (h0 : o0.op = .assign (.const (.bool false)) ∧ o0.dst = some d ∧ o0.guard = none) (h1 : m.op = .move (.tmp 0) ∧ m.dst = some x1 ∧ m.guard = none)
    (h2 : bo.op = .build ST #[(0, .tmp x1)] ∧ bo.dst = some x2 ∧ bo.guard = none) (h3 : bx.op = .box ST (.tmp x2) ∧ bx.dst = some x3 ∧ bx.guard = none)
    (h4 : sg.op = .assign (.tmp x3) ∧ sg.dst = some x4 ∧ sg.guard = none)
    (hbuild : ∀ (A : Option Addr) (n cp : Nat) (w : World) (ev : Operand → Value) (o : Oper), o.op = .build ST #[(0, .tmp x1)] → ev (.tmp x1) = .slice A n cp → (execOp ev o).run P w = .ok (.value (.agg #[.slice A n cp, .int .i64 0])) w)
    (hlt : xv.length < d ∧ d < x1 ∧ x4 < x1 ∧ d < x4 ∧ x1 < x2 ∧ x2 < x3 ∧ x3 < fn.ntmps) (hxl : ex.length = xv.length) (hxr : ∀ (i : Nat) (x : AV) (u : Value), ex[i]? = some x → xv[i]? = some u → flatV1 x = some u)
    (hB : B ≤ 4611686018427387904) (hng : ng ≤ W.heap.size) (hrd : Rd (fun k => k < W.heap.size) W (.sl (intRows L)) (.slice A L.length cp)) (hgl : GlAt ⟨P, none, L, ST, ng, glob⟩ W)
    (hvc : ∀ cx : Cx, cx.P = P → cx.ST = ST → (∀ w, GlAt cx w → GlAt ⟨P, none, L, ST, ng, glob⟩ w) → cx.glob = glob → EnvOk cx E ∧ vc ⟨cx, E, B, fn.ntmps, live, HH, hz⟩ c (Ends P (fun r => r = .b true) true [ResultVar.tmp d] B) (Ends P (fun r => r = .b true) true [ResultVar.tmp d] B) (fun _ _ => False)
      ⟨upd (upd (argS (.un :: ex)) d (.b false)) x4 .st, noO, 0⟩) :
    Calls P f (.slice A L.length cp :: xv).toArray W fun e W' => e = .returned (.bool true) ∧ RowKit.Below W.heap.size W W' := by
  obtain ⟨l1, l2, l3, l4, l5, l6, l7⟩ := hlt
  let cx : Cx := ⟨P, some W.heap.size, L, ST, ng, glob⟩
  let w1 : World := W.alloc (.cells #[.slice A L.length cp, .int .i64 0] ST)
  let F : Fr := ⟨cx, w1, fun k => k < W.heap.size, 0, B, fn.ntmps, w1, fun _ => False⟩
  have hs1 : W.heap.size < w1.heap.size := alloc_size W _
  have hw : ∀ b, b < W.heap.size → w1.heap[b]? = W.heap[b]? := fun b hb => (alloc_gr W _).block b hb (by simp)
  have hF : F.Wf := ⟨fun b hb => ⟨by have : b < W.heap.size := hb; show b < w1.heap.size; omega, fun e => by have h1 : W.heap.size = b := Option.some.inj e; have : b < W.heap.size := hb; omega⟩, fun b hb => by show b < W.heap.size; have : b < ng := hb; omega, fun b hb => by cases hb; exact hs1, by show 0 + B ≤ _; omega⟩
  have hst : StAt cx 0 w1 := fun b hb => by
    cases hb
    exact ⟨hng, A, cp, 0, heap_alloc_new W _, by omega, by omega, hrd.mono (Nat.le_of_lt hs1) (fun k hk _ => hk) (fun k hk _ => hw k hk)⟩
  have hgl0 : GlAt cx W := hgl
  have hgl1 : GlAt cx w1 := fun k l hk => by
    obtain ⟨g0, g1, cs, g2, g3⟩ := hgl0 k l hk
    exact ⟨g0, by omega, cs, fun j u hj => (cell_congr (a := ⟨k, j, none⟩) (hw k g1)).trans (g2 j u hj), g3.mono (Nat.le_of_lt hs1) (fun _ h _ => h) (fun b hb _ => hw b (by have : b < ng := hb; omega))⟩
  obtain ⟨hE, hv⟩ := hvc cx rfl rfl (fun w h => h) rfl
  have hend : ∀ (σ : St) (a : Act) (w : World), Rel F σ a w → Ends P (fun r => r = .b true) true [ResultVar.tmp d] B σ → a.defers = [] ∧ ∃ v, (results fn a.tmps).run P w = .ok v w ∧ Ending.returned v = .returned (.bool true) ∧ RowKit.Below W.heap.size W w := by
    intro σ a w h he
    obtain ⟨M, ρ, h⟩ := h
    obtain ⟨e1, e2⟩ := he
    split at e2
    · rename_i r hr
      obtain ⟨h3, v, h4, h5⟩ := outA_rel hF h hl hr
      subst e2
      have : v = .bool true := by cases (show Rd _ _ (.bool true) v from h5); rfl
      subst this
      refine ⟨h.df, _, h4, rfl, h.gr.os, h.gr.tape, h.gr.output, ?_, fun k hk => ?_⟩
      · have : w1.heap.size ≤ w.heap.size := h.gr.size; omega
      · exact (h.gr.block k (by show k < w1.heap.size; omega) (fun e => by have e' : W.heap.size = k := Option.some.inj e; omega)).trans (hw k hk)
    · exact e2.elim
  refine calls_of_wp hf hb ?_
  have hpd : ∀ t, ((Value.slice A L.length cp :: xv).toArray ++ Array.replicate (fn.ntmps - (Value.slice A L.length cp :: xv).toArray.size) undef).getD t undef = (Value.slice A L.length cp :: xv).getD t undef := by
    intro t
    rw [Array.getD_eq_getD_getElem?, Array.getElem?_append, List.getD_eq_getElem?_getD]
    split
    · rw [List.getElem?_toArray]
    · rename_i h
      rw [Array.getElem?_replicate, List.getElem?_eq_none (by simpa using h)]
      split <;> rfl
  have hsz : ((Value.slice A L.length cp :: xv).toArray ++ Array.replicate (fn.ntmps - (Value.slice A L.length cp :: xv).toArray.size) undef).size = fn.ntmps := by
    simp; omega
  refine head_wp (A := A) (n := L.length) (cp := cp) h0 h1 h2 h3 h4 (by omega) hbuild (by rw [hpd]; rfl) (by simp only [hsz]; omega) fun a' hg hsa hda => ?_
  refine vc_sound (F := F) (live := live) (H := HH) (hz := hz) hE hF c hok _ _ _ _ (fun σ a w h hk => hend σ a w h hk) (fun σ a w h hk => hend σ a w h hk) (fun j σ a w h hk => hk.elim) _ _ _ ?_ hv
  refine ⟨fun _ => False, fun _ => undef, Gr.refl _ _, hst, hgl1, fun b hb => hb.elim, fun t => ?_, (fun k o hk => by cases hk), (fun k k' o o' hk => by cases hk), hda, by rw [hsa, hsz]; exact Nat.le_refl _, ⟨Nat.le_refl _, fun _ _ _ _ => rfl, fun _ hb => hb.elim⟩⟩
  rw [hg]
  show relA _ _ _ _ _ (upd (upd (argS (.un :: ex)) d (.b false)) x4 .st t) _
  simp only [upd_apply]
  by_cases e4 : t = x4
  · rw [if_pos e4, if_pos e4]; exact ⟨_, rfl, rfl⟩
  · rw [if_neg e4, if_neg e4]
    by_cases ed : t = d
    · rw [if_pos ed, if_neg (by omega), if_neg (by omega), if_neg (by omega), if_pos ed]; exact Rd.bool _
    · rw [if_neg ed]
      cases t with
      | zero => exact trivial
      | succ t =>
        show relA _ _ _ _ _ (ex.getD t .un) _
        rw [List.getD_eq_getElem?_getD]
        cases hx : ex[t]? with
        | none => exact trivial
        | some x =>
          have hlt : t < xv.length := by rw [← hxl]; exact (List.getElem?_eq_some_iff.1 hx).1
          have hfl := hxr t x _ hx (List.getElem?_eq_getElem hlt)
          rw [if_neg (by omega), if_neg (by omega), if_neg (by omega), if_neg ed, hpd, List.getD_cons_succ, List.getD_eq_getElem?_getD, List.getElem?_eq_getElem hlt]
          exact relA_of0 (flatV1_mk hfl).1
theorem build_stream {x1 : Nat} (A : Option Addr) (n cp : Nat) (w : World) (ev : Operand → Value) (o : Oper) (ho : o.op = .build 25 #[(0, .tmp x1)]) (he : ev (.tmp x1) = .slice A n cp) : (execOp ev o).run Tryd.prog w = .ok (.value (.agg #[.slice A n cp, .int .i64 0])) w := by
  have hb : Tryd.prog.built 25 [(0, .slice A n cp)] = some #[.slice A n cp, .int .i64 0] := by kernel_rfl
  simp [execOp, ho, he, run_build w 25 _ _ hb]
end Go.Avc

/- Function values over data: a closure's contract, what it answers. No condition. -/
set_option linter.unusedVariables false
set_option linter.unusedSimpArgs false
set_option maxRecDepth 100000
namespace Go.Avc
open Go Go.Proofs

theorem Ctr.weaken {cx : Cx} {f : FuncId} {sp sp' : Spec} (h : Ctr cx f sp) (hp : ∀ xs, sp'.pre xs → sp.pre xs) (hq : ∀ xs r, sp'.pre xs → sp.post xs r → sp'.post xs r) (hc : ∀ xs, sp.cost xs ≤ sp'.cost xs) (hf : sp'.fresh = sp.fresh) : Ctr cx f sp' := by
  obtain ⟨h1, h2, h3⟩ := h
  refine ⟨h1, fun xs ha => ?_, fun F xs vals e1 e2 e3 e4 e5 e6 e7 e8 => (h3 F xs vals e1 e2 e3 e4 (Nat.le_trans (hc xs) e5) e6 e7 (hp xs e8)).mono fun e w' hh => ?_⟩
  · obtain ⟨r, hr⟩ := h2 xs (hp xs ha)
    exact ⟨r, hq xs r ha hr⟩
  · obtain ⟨v, r, g1, g2, g3, g4, g5, g6⟩ := hh
    exact ⟨v, r, g1, g2, g3.le (Nat.add_le_add_left (hc xs) _), hq xs r e8 g4, g5, by rw [hf]; exact g6⟩
/-- Does a function value say yes to x? -/
noncomputable def FSpec.holds (sp : FSpec) (x : DV) : Bool := @decide (sp.post [x] (.d (.bool true))) (Classical.propDecidable _)
/-- It takes x, and answers just one thing. -/
def FSpec.det (sp : FSpec) (x : DV) : Prop := sp.pre [x] ∧ ∀ y, sp.post [x] y ↔ y = .d (.bool (sp.holds x))
/-- A closure of one argument that answers a bool, out of what its captured variables hold. -/
def csp {γ α : Type} (F : γ → List (List D)) (f : α → DV) (g : γ → α → Bool) (caps : List (List D)) : FSpec where
  pre xs := ∃ c a, caps = F c ∧ xs = [f a]
  post xs r := ∃ c a, caps = F c ∧ xs = [f a] ∧ r = .d (.bool (g c a))
def cloS {γ α : Type} (F : γ → List (List D)) (f : α → DV) (g : γ → α → Bool) : Spec where
  pre xs := ∃ c a, xs = .dv (f a) :: (F c).map .dp
  post xs r := ∃ c a, xs = .dv (f a) :: (F c).map .dp ∧ r = .b (g c a)
  cost _ := 0
  fresh := true
theorem dp_inj : ∀ {l m : List (List D)}, l.map AV.dp = m.map AV.dp → l = m
  | [], [], _ => rfl
  | [], b :: m, h => by simp at h
  | a :: l, [], h => by simp at h
  | a :: l, b :: m, h => by
    rw [List.map_cons, List.map_cons, List.cons.injEq, AV.dp.injEq] at h
    rw [h.1, dp_inj h.2]
theorem clo_of {cx : Cx} {fn : FuncId} {γ α : Type} {F : γ → List (List D)} {f : α → DV} {g : γ → α → Bool} (h : Ctr cx fn (cloS F f g)) (caps : List (List D)) : Ctr cx fn (clo (csp F f g) caps) := by
  refine h.weaken (fun xs hx => ?_) (fun xs r hx hr => ?_) (fun _ => Nat.le_refl _) rfl
  · obtain ⟨ys, rfl, c, a, rfl, rfl⟩ := hx
    exact ⟨c, a, rfl⟩
  · obtain ⟨ys, rfl, c', a', rfl, rfl⟩ := hx
    obtain ⟨c, a, e, rfl⟩ := hr
    have e2 : AV.dv (f a') :: (F c').map AV.dp = AV.dv (f a) :: (F c).map AV.dp := e
    rw [List.cons.injEq] at e2
    have e3 := dp_inj e2.2
    have e4 : f a' = f a := by simpa using e2.1
    exact ⟨[f a'], _, rfl, rfl, c, a, e3, by rw [e4], rfl⟩
theorem csp_post {γ α : Type} {F : γ → List (List D)} {f : α → DV} {g : γ → α → Bool} (hF : ∀ c d, F c = F d → c = d) (hf : ∀ a b, f a = f b → a = b) (c : γ) (a : α) (y : DV) : (csp F f g (F c)).post [f a] y ↔ y = .d (.bool (g c a)) := by
  constructor
  · rintro ⟨c', a', h1, h2, rfl⟩
    rw [hF _ _ h1, hf a a' (by simpa using h2)]
  · rintro rfl
    exact ⟨c, a, rfl, rfl, rfl⟩
theorem csp_holds {γ α : Type} {F : γ → List (List D)} {f : α → DV} {g : γ → α → Bool} (hF : ∀ c d, F c = F d → c = d) (hf : ∀ a b, f a = f b → a = b) (c : γ) (a : α) : (csp F f g (F c)).holds (f a) = g c a := by
  unfold FSpec.holds
  cases hg : g c a with
  | true => exact @decide_eq_true _ (Classical.propDecidable _) ((csp_post hF hf c a _).2 (by rw [hg]))
  | false => exact @decide_eq_false _ (Classical.propDecidable _) (fun h => by have := (csp_post hF hf c a _).1 h; simp [hg] at this)
theorem csp_det {γ α : Type} {F : γ → List (List D)} {f : α → DV} {g : γ → α → Bool} (hF : ∀ c d, F c = F d → c = d) (hf : ∀ a b, f a = f b → a = b) (c : γ) (a : α) : (csp F f g (F c)).det (f a) :=
  ⟨⟨c, a, rfl, rfl⟩, fun y => by rw [csp_holds hF hf]; exact csp_post hF hf c a y⟩
/-- Nothing captured. -/
def F0 (_ : Unit) : List (List D) := []
theorem F0_inj : ∀ c d, F0 c = F0 d → c = d := fun _ _ _ => rfl
abbrev AV.u8 (c : Int) : AV := .dv (.d (.int .u8 c))
def u8D (c : Int) : DV := .d (.int .u8 c)
theorem u8D_inj : ∀ a b, u8D a = u8D b → a = b := fun a b h => by simpa [u8D] using h
def intD (c : Int) : DV := .d (.int .i64 c)
theorem intD_inj : ∀ a b, intD a = intD b → a = b := fun a b h => by simpa [intD] using h
def strD (c : ByteArray) : DV := .d (.str c)
theorem strD_inj : ∀ a b, strD a = strD b → a = b := fun a b h => by simpa [strD] using h
theorem ag_inj {α : Type} {row : α → List D} (h : ∀ x y, row x = row y → x = y) : ∀ a b, DV.ag (row a) = DV.ag (row b) → a = b := fun a b e => h a b (by simpa using e)

theorem AllR_sw (x : AV) (p : Prop) (k : AV → Prop) : AllR (fun r => r = x ∧ p) k = (p → k x) := propext ⟨fun h hp => h x ⟨rfl, hp⟩, fun h r ⟨e, hp⟩ => e ▸ h hp⟩
theorem AllR_sw' (x : AV) (p : Prop) (k : AV → Prop) : AllR (fun r => r = x ∧ p) k = (p → k x) := AllR_sw x p k
attribute [go_sem] AllR_sw
attribute [go_sem ↓] AllR_sw'
theorem FSpec.det.post {sp : FSpec} {x : DV} (h : sp.det x) (y : DV) : sp.post [x] y = (y = .d (.bool (sp.holds x))) := propext (h.2 y)
theorem FSpec.det.pre {sp : FSpec} {x : DV} (h : sp.det x) : sp.pre [x] = True := eq_true h.1

/-! ### Keys -/
def inB (n lo hi : Int) : Bool := decide (lo ≤ n ∧ n ≤ hi)
def inS  : Spec where
  pre xs := ∃ (n : Int) (lo : Int) (hi : Int), xs = [.i n, .i lo, .i hi]
  post xs y := ∃ (n : Int) (lo : Int) (hi : Int), xs = [.i n, .i lo, .i hi] ∧ y = .b (inB n lo hi)
  cost _ := 0
  fresh := true
theorem inS_c  (xs : List AV) : (inS).cost xs = 0 := nr rfl
theorem inS_f  : (inS).fresh = true := nr rfl
theorem inS_q  (n : Int) (lo : Int) (hi : Int) : (inS).pre [.i n, .i lo, .i hi] = (True) := propext ⟨fun h => by
  have h' : ∃ (n' : Int) (lo' : Int) (hi' : Int), ([.i n, .i lo, .i hi] : List AV) = [.i n', .i lo', .i hi'] := h
  obtain ⟨n', lo', hi', e⟩ := h'
  simp only [List.cons.injEq, AV.dv.injEq, AV.fv.injEq, DV.d.injEq, DV.ag.injEq, D.int.injEq, D.str.injEq, D.bool.injEq, D.sl.injEq, true_and, and_true, intsDi_inj, rowsT_inj, rowsKi_inj] at e
  obtain ⟨rfl, rfl, rfl⟩ := e
  exact trivial, fun h => ⟨n, lo, hi, rfl⟩⟩
theorem inS_p  (n : Int) (lo : Int) (hi : Int) : (inS).post [.i n, .i lo, .i hi] = fun y => y = .b (inB n lo hi) := funext fun y => propext ⟨fun h => by
  have h' : ∃ (n' : Int) (lo' : Int) (hi' : Int), ([.i n, .i lo, .i hi] : List AV) = [.i n', .i lo', .i hi'] ∧ y = .b (inB n' lo' hi') := h
  obtain ⟨n', lo', hi', e, h⟩ := h'
  simp only [List.cons.injEq, AV.dv.injEq, AV.fv.injEq, DV.d.injEq, DV.ag.injEq, D.int.injEq, D.str.injEq, D.bool.injEq, D.sl.injEq, true_and, and_true, intsDi_inj, rowsT_inj, rowsKi_inj] at e
  obtain ⟨rfl, rfl, rfl⟩ := e
  exact h, fun h => ⟨n, lo, hi, rfl, h⟩⟩
def smallC (c : Int) : Bool := decide (97 ≤ c ∧ c ≤ 122)
def digitC (c : Int) : Bool := decide (48 ≤ c ∧ c ≤ 57)
def capitalC (c : Int) : Bool := decide (65 ≤ c ∧ c ≤ 90)
def keyC (c : Int) : Bool := smallC c || digitC c || (c == 45) || (c == 95)
def keyB (s : ByteArray) : Bool := inB s.size 1 40 && smallC (bt s 0) && (bl s).all keyC
def byteS (p : Int → Bool) : Spec where
  pre xs := ∃ (c : Int), xs = [.u8 c]
  post xs y := ∃ (c : Int), xs = [.u8 c] ∧ y = .b (p c)
  cost _ := 0
  fresh := true
theorem byteS_c (p : Int → Bool) (xs : List AV) : (byteS p).cost xs = 0 := nr rfl
theorem byteS_f (p : Int → Bool) : (byteS p).fresh = true := nr rfl
theorem byteS_q (p : Int → Bool) (c : Int) : (byteS p).pre [.u8 c] = (True) := propext ⟨fun h => by
  have h' : ∃ (c' : Int), ([.u8 c] : List AV) = [.u8 c'] := h
  obtain ⟨c', e⟩ := h'
  simp only [List.cons.injEq, AV.dv.injEq, AV.fv.injEq, DV.d.injEq, DV.ag.injEq, D.int.injEq, D.str.injEq, D.bool.injEq, D.sl.injEq, true_and, and_true, intsDi_inj, rowsT_inj, rowsKi_inj] at e
  obtain rfl := e
  exact trivial, fun h => ⟨c, rfl⟩⟩
theorem byteS_p (p : Int → Bool) (c : Int) : (byteS p).post [.u8 c] = fun y => y = .b (p c) := funext fun y => propext ⟨fun h => by
  have h' : ∃ (c' : Int), ([.u8 c] : List AV) = [.u8 c'] ∧ y = .b (p c') := h
  obtain ⟨c', e, h⟩ := h'
  simp only [List.cons.injEq, AV.dv.injEq, AV.fv.injEq, DV.d.injEq, DV.ag.injEq, D.int.injEq, D.str.injEq, D.bool.injEq, D.sl.injEq, true_and, and_true, intsDi_inj, rowsT_inj, rowsKi_inj] at e
  obtain rfl := e
  exact h, fun h => ⟨c, rfl, h⟩⟩
theorem pwithin_ctr {cx : Cx} (h : Seat cx) : Ctr cx 37 inS := by
  refine ctr_of (fn := Tryd.f37) (l := [.tmp 6]) (envL []) [0, 1, 2, 6] [] [] (env0 h.hP) ?_ (by rw [h.hP]; exact Tryd.func37) rfl (by kernel_rfl) rfl ?_ ?_
  · rw [h.hP]; exact ⟨_, Tryd.func37, by kernel_rfl, by kernel_rfl⟩
  · rintro xs ⟨n, lo, hi, rfl⟩; exact ⟨_, n, lo, hi, rfl, rfl⟩
  · rintro xs ⟨n, lo, hi, rfl⟩
    refine ⟨by rw [Tryd.ntmps37]; simp, ?_⟩
    simp only [go_sem, h.hP, inS_q, inS_p, inS_c, inS_f, Tryd.ntmps37, Nat.reduceEqDiff, reduceCtorEq, Nat.reduceMul, Nat.reduceAdd, Nat.reduceSub, Nat.reduceDiv, Nat.reduceMod, Nat.reduceLeDiff, Nat.reduceLT, Nat.reduceBNe, Nat.reduceBEq, reduceIte, Int.reduceLE, Int.reduceLT, Int.reduceToNat, Int.reduceNeg, Int.reduceAdd, Int.reduceSub, Int.reduceMul, Int.reduceEq]
    unfold inB
    exact ⟨fun c => by simp [c], fun c => by simp [c]⟩
theorem in_ctr {cx : Cx} (h : Seat cx) : Ctr cx 27 inS := by
  refine ctr_of (fn := Tryd.f27) (l := [.tmp 6]) (envL []) [0, 1, 2, 6] [] [] (env0 h.hP) ?_ (by rw [h.hP]; exact Tryd.func27) rfl (by kernel_rfl) rfl ?_ ?_
  · rw [h.hP]; exact ⟨_, Tryd.func27, by kernel_rfl, by kernel_rfl⟩
  · rintro xs ⟨n, lo, hi, rfl⟩; exact ⟨_, n, lo, hi, rfl, rfl⟩
  · rintro xs ⟨n, lo, hi, rfl⟩
    refine ⟨by rw [Tryd.ntmps27]; simp, ?_⟩
    simp only [go_sem, h.hP, inS_q, inS_p, inS_c, inS_f, Tryd.ntmps27, Nat.reduceEqDiff, reduceCtorEq, Nat.reduceMul, Nat.reduceAdd, Nat.reduceSub, Nat.reduceDiv, Nat.reduceMod, Nat.reduceLeDiff, Nat.reduceLT, Nat.reduceBNe, Nat.reduceBEq, reduceIte, Int.reduceLE, Int.reduceLT, Int.reduceToNat, Int.reduceNeg, Int.reduceAdd, Int.reduceSub, Int.reduceMul, Int.reduceEq]
    unfold inB
    exact ⟨fun c => by simp [c], fun c => by simp [c]⟩
theorem small_ctr {cx : Cx} (h : Seat cx) : Ctr cx 85 (byteS smallC) := by
  refine ctr_of (fn := Tryd.f85) (l := [.tmp 2]) (envL []) [0, 2] [] [] (env0 h.hP) ?_ (by rw [h.hP]; exact Tryd.func85) rfl (by kernel_rfl) rfl ?_ ?_
  · rw [h.hP]; exact ⟨_, Tryd.func85, by kernel_rfl, by kernel_rfl⟩
  · rintro xs ⟨c, rfl⟩; exact ⟨_, c, rfl, rfl⟩
  · rintro xs ⟨c, rfl⟩
    refine ⟨by rw [Tryd.ntmps85]; simp, ?_⟩
    simp only [go_sem, h.hP, byteS_q, byteS_p, byteS_c, byteS_f, Tryd.ntmps85, Nat.reduceEqDiff, reduceCtorEq, Nat.reduceMul, Nat.reduceAdd, Nat.reduceSub, Nat.reduceDiv, Nat.reduceMod, Nat.reduceLeDiff, Nat.reduceLT, Nat.reduceBNe, Nat.reduceBEq, reduceIte, Int.reduceLE, Int.reduceLT, Int.reduceToNat, Int.reduceNeg, Int.reduceAdd, Int.reduceSub, Int.reduceMul, Int.reduceEq]
    unfold smallC
    exact ⟨fun c => by simp [c], fun c => by simp [c]⟩
theorem digit_ctr {cx : Cx} (h : Seat cx) : Ctr cx 39 (byteS digitC) := by
  refine ctr_of (fn := Tryd.f39) (l := [.tmp 2]) (envL []) [0, 2] [] [] (env0 h.hP) ?_ (by rw [h.hP]; exact Tryd.func39) rfl (by kernel_rfl) rfl ?_ ?_
  · rw [h.hP]; exact ⟨_, Tryd.func39, by kernel_rfl, by kernel_rfl⟩
  · rintro xs ⟨c, rfl⟩; exact ⟨_, c, rfl, rfl⟩
  · rintro xs ⟨c, rfl⟩
    refine ⟨by rw [Tryd.ntmps39]; simp, ?_⟩
    simp only [go_sem, h.hP, byteS_q, byteS_p, byteS_c, byteS_f, Tryd.ntmps39, Nat.reduceEqDiff, reduceCtorEq, Nat.reduceMul, Nat.reduceAdd, Nat.reduceSub, Nat.reduceDiv, Nat.reduceMod, Nat.reduceLeDiff, Nat.reduceLT, Nat.reduceBNe, Nat.reduceBEq, reduceIte, Int.reduceLE, Int.reduceLT, Int.reduceToNat, Int.reduceNeg, Int.reduceAdd, Int.reduceSub, Int.reduceMul, Int.reduceEq]
    unfold digitC
    exact ⟨fun c => by simp [c], fun c => by simp [c]⟩
theorem all_bt (s : ByteArray) (p : Int → Bool) : ((bl s).all p = true) = ∀ j : Nat, (j : Int) < s.size → p (bt s j) = true := by
  apply propext
  rw [List.all_eq_true]
  constructor
  · intro h j hj
    rw [bt_at, List.getD_eq_getElem?_getD, List.getElem?_eq_getElem (by rw [bl_length]; omega)]
    exact h _ (List.getElem_mem _)
  · intro h x hx
    obtain ⟨j, hj, rfl⟩ := List.mem_iff_getElem.1 hx
    have := h j (by rw [bl_length] at hj; omega)
    rwa [bt_at, List.getD_eq_getElem?_getD, List.getElem?_eq_getElem hj] at this
theorem all_bt_no {s : ByteArray} {p : Int → Bool} {i : Int} (h0 : 0 ≤ i) (h1 : i < s.size) (h : p (bt s i) = false) : (bl s).all p = false := by
  cases e : (bl s).all p with
  | false => rfl
  | true =>
    rw [all_bt] at e
    have := e i.toNat (by omega)
    rw [Int.toNat_of_nonneg h0, h] at this
    cases this
/-- all of a string's bytes -/
def allS : Spec where
  pre xs := ∃ (s : ByteArray) (sp : FSpec), xs = [.str s, .fv sp] ∧ (∀ c : Int, 0 ≤ c → c ≤ 255 → sp.det (.d (.int .u8 c))) ∧ s.size ≤ 4611686018427387904
  post xs r := ∃ (s : ByteArray) (sp : FSpec), xs = [.str s, .fv sp] ∧ r = .b ((bl s).all fun c => sp.holds (.d (.int .u8 c)))
  cost _ := 0
  fresh := true
theorem all_ctr {cx : Cx} (h : Seat cx) : Ctr cx 38 allS := by
  refine ctr_of (fn := Tryd.f38) (l := [.tmp 4]) (envL []) [0, 1, 4, 5, 7, 8, 9, 16] [] [] (env0 h.hP) ?_ (by rw [h.hP]; exact Tryd.func38) rfl (by kernel_rfl) rfl ?_ ?_
  · rw [h.hP]; exact ⟨_, Tryd.func38, by kernel_rfl, by kernel_rfl⟩
  · rintro xs ⟨s, sp, rfl, h1, h2⟩; exact ⟨_, s, sp, rfl, rfl⟩
  · rintro xs ⟨s, sp, rfl, h1, h2⟩
    refine ⟨by rw [Tryd.ntmps38]; simp, ?_⟩
    simp only [go_sem, h.hP, allS, Tryd.ntmps38, Nat.reduceEqDiff, reduceCtorEq, Nat.reduceMul, Nat.reduceAdd, Nat.reduceSub, Nat.reduceDiv, Nat.reduceMod, Nat.reduceLeDiff, Nat.reduceLT, Nat.reduceBNe, Nat.reduceBEq, reduceIte, Int.reduceLE, Int.reduceLT, Int.reduceToNat, Int.reduceNeg, Int.reduceAdd, Int.reduceSub, Int.reduceMul, Int.reduceEq]
    have hd : ∀ i, sp.det (.d (.int .u8 (bt s i))) := fun i => h1 _ (bt_range s i).1 (bt_range s i).2
    refine vc_loopS (Int) (fun (i : Int) => [(8, .i i)]) [] (fun (i : Int) => []) (fun (i : Int) => []) (fun (i : Int) => 0) (fun (i : Int) => 0 ≤ i ∧ i ≤ s.size ∧ ∀ j : Nat, (j : Int) < i → sp.holds (.d (.int .u8 (bt s j))) = true) (fun (i : Int) => (s.size - i).toNat) [] ?_ ?_
    · simp only [go_sem, h.hP, List.cons_append, List.nil_append, Meets_e, Below_e, Prod.exists, exists_eq, exists_eq_left, exists_eq_left', exists_eq_right, exists_eq_right', exists_and_left, exists_and_right, Ob.arr.injEq, AV.own.injEq, AV.fv.injEq, Tryd.ntmps38, Nat.reduceEqDiff, reduceCtorEq, Nat.reduceMul, Nat.reduceAdd, Nat.reduceSub, Nat.reduceDiv, Nat.reduceMod, Nat.reduceLeDiff, Nat.reduceLT, Nat.reduceBNe, Nat.reduceBEq, reduceIte, Int.reduceLE, Int.reduceLT, Int.reduceToNat, Int.reduceNeg, Int.reduceAdd, Int.reduceSub, Int.reduceMul, Int.reduceEq]
      exact ⟨Int.natCast_nonneg _, fun j hj => by omega⟩
    · rintro i ⟨j1, j2, j3⟩
      simp only [go_sem, h.hP, List.cons_append, List.nil_append, Meets_e, Below_e, Prod.exists, exists_eq, exists_eq_left, exists_eq_left', exists_eq_right, exists_eq_right', exists_and_left, exists_and_right, Ob.arr.injEq, AV.own.injEq, AV.fv.injEq, allS, fun i => (hd i).pre, fun i => (hd i).post, Tryd.ntmps38, Nat.reduceEqDiff, reduceCtorEq, Nat.reduceMul, Nat.reduceAdd, Nat.reduceSub, Nat.reduceDiv, Nat.reduceMod, Nat.reduceLeDiff, Nat.reduceLT, Nat.reduceBNe, Nat.reduceBEq, reduceIte, Int.reduceLE, Int.reduceLT, Int.reduceToNat, Int.reduceNeg, Int.reduceAdd, Int.reduceSub, Int.reduceMul, Int.reduceEq]
      have hw : i < s.size → IntKind.i64.wrap (i + 1) = i + 1 := fun h => i64w (by omega) (by omega)
      refine ⟨fun c => ⟨j1, c, fun hf => (all_bt_no j1 c hf).symm, fun ht => ?_⟩, fun c => ?_⟩
      · rw [hw c]
        refine ⟨by omega, by omega, fun j hj => ?_, by omega⟩
        by_cases e : (j : Int) = i
        · rw [e]; exact ht
        · exact j3 j (by omega)
      · have := all_bt s fun c => sp.holds (.d (.int .u8 c))
        exact (this.mpr fun j hj => j3 j (by omega)).symm
/-- IsKey -/
def keyΦ : List (List D) → FSpec := csp F0 u8D fun _ c => keyC c
theorem keyΦ_h (c : Int) : (keyΦ []).holds (.d (.int .u8 c)) = keyC c := csp_holds F0_inj u8D_inj () c
theorem keyΦ_d (c : Int) : (keyΦ []).det (.d (.int .u8 c)) := csp_det F0_inj u8D_inj () c
theorem IsKey1_ctr {cx : Cx} (h : Seat cx) : Ctr cx 129 (cloS F0 u8D fun _ c => keyC c) := by
  refine ctr_of (fn := Tryd.f129) (l := [.tmp 2]) (envL [(85, (byteS smallC)), (39, (byteS digitC))]) [0, 2] [] [] (envL_cons (small_ctr h) (envL_cons (digit_ctr h) (env0 h.hP))) ?_ (by rw [h.hP]; exact Tryd.func129) rfl (by kernel_rfl) rfl ?_ ?_
  · rw [h.hP]; exact ⟨_, Tryd.func129, by kernel_rfl, by kernel_rfl⟩
  · rintro xs ⟨c, a, rfl⟩; exact ⟨_, c, a, rfl, rfl⟩
  · rintro xs ⟨c, a, rfl⟩
    refine ⟨by rw [Tryd.ntmps129]; simp [F0], ?_⟩
    simp only [go_sem, h.hP, byteS_q, byteS_p, byteS_c, byteS_f, F0, u8D, cloS, Tryd.ntmps129, Nat.reduceEqDiff, reduceCtorEq, Nat.reduceMul, Nat.reduceAdd, Nat.reduceSub, Nat.reduceDiv, Nat.reduceMod, Nat.reduceLeDiff, Nat.reduceLT, Nat.reduceBNe, Nat.reduceBEq, reduceIte, Int.reduceLE, Int.reduceLT, Int.reduceToNat, Int.reduceNeg, Int.reduceAdd, Int.reduceSub, Int.reduceMul, Int.reduceEq]
    grind [keyC]
def strB (p : ByteArray → Bool) : Spec where
  pre xs := ∃ (s : ByteArray), xs = [.str s] ∧ (s.size ≤ 4611686018427387904)
  post xs y := ∃ (s : ByteArray), xs = [.str s] ∧ y = .b (p s)
  cost _ := 0
  fresh := true
theorem strB_c (p : ByteArray → Bool) (xs : List AV) : (strB p).cost xs = 0 := nr rfl
theorem strB_f (p : ByteArray → Bool) : (strB p).fresh = true := nr rfl
theorem strB_q (p : ByteArray → Bool) (s : ByteArray) : (strB p).pre [.str s] = (s.size ≤ 4611686018427387904) := propext ⟨fun h => by
  have h' : ∃ (s' : ByteArray), ([.str s] : List AV) = [.str s'] ∧ (s'.size ≤ 4611686018427387904) := h
  obtain ⟨s', e, h⟩ := h'
  simp only [List.cons.injEq, AV.dv.injEq, AV.fv.injEq, DV.d.injEq, DV.ag.injEq, D.int.injEq, D.str.injEq, D.bool.injEq, D.sl.injEq, true_and, and_true, intsDi_inj, rowsT_inj, rowsKi_inj] at e
  obtain rfl := e
  exact h, fun h => ⟨s, rfl, h⟩⟩
theorem strB_p (p : ByteArray → Bool) (s : ByteArray) : (strB p).post [.str s] = fun y => y = .b (p s) := funext fun y => propext ⟨fun h => by
  have h' : ∃ (s' : ByteArray), ([.str s] : List AV) = [.str s'] ∧ y = .b (p s') := h
  obtain ⟨s', e, h⟩ := h'
  simp only [List.cons.injEq, AV.dv.injEq, AV.fv.injEq, DV.d.injEq, DV.ag.injEq, D.int.injEq, D.str.injEq, D.bool.injEq, D.sl.injEq, true_and, and_true, intsDi_inj, rowsT_inj, rowsKi_inj] at e
  obtain rfl := e
  exact h, fun h => ⟨s, rfl, h⟩⟩
theorem IsKey_ctr {cx : Cx} (h : Seat cx) : Ctr cx 105 (strB keyB) := by
  refine ctr_of (fn := Tryd.f105) (l := [.tmp 2]) (envF [(85, (byteS smallC)), (37, inS), (38, allS)] [(129, keyΦ)]) [0, 2] [] [] (envF_cons (clo_of (IsKey1_ctr h)) (envF_nil (envL_cons (small_ctr h) (envL_cons (pwithin_ctr h) (envL_cons (all_ctr h) (env0 h.hP)))))) ?_ (by rw [h.hP]; exact Tryd.func105) rfl (by kernel_rfl) rfl ?_ ?_
  · rw [h.hP]; exact ⟨_, Tryd.func105, by kernel_rfl, by kernel_rfl⟩
  · rintro xs ⟨s, rfl, hs⟩; exact ⟨_, s, rfl, rfl⟩
  · rintro xs ⟨s, rfl, hs⟩
    refine ⟨by rw [Tryd.ntmps105]; simp, ?_⟩
    simp only [go_sem, h.hP, List.cons_append, List.nil_append, Meets_e, Below_e, Prod.exists, exists_eq, exists_eq_left, exists_eq_left', exists_eq_right, exists_eq_right', exists_and_left, exists_and_right, Ob.arr.injEq, AV.own.injEq, AV.fv.injEq, byteS_q, byteS_p, byteS_c, byteS_f, strB_q, strB_p, strB_c, strB_f, inS_q, inS_p, inS_c, inS_f, allS, keyΦ_h, keyΦ_d, Tryd.ntmps105, Nat.reduceEqDiff, reduceCtorEq, Nat.reduceMul, Nat.reduceAdd, Nat.reduceSub, Nat.reduceDiv, Nat.reduceMod, Nat.reduceLeDiff, Nat.reduceLT, Nat.reduceBNe, Nat.reduceBEq, reduceIte, Int.reduceLE, Int.reduceLT, Int.reduceToNat, Int.reduceNeg, Int.reduceAdd, Int.reduceSub, Int.reduceMul, Int.reduceEq]
    grind [keyB, inB]
end Go.Avc

/- A slice of numbers that is handed in: it reads as numbers; it reads so still in a world of which all that was there is left. No condition. -/
set_option linter.unusedVariables false
namespace Go.Avc
open Go Go.Proofs Go.ChangeShapes Go.ChangeMaps

theorem cell_spot' {w : World} {a : Addr} {v : Value} (h : w.cell? a = some v) : a.spot = none := by
  obtain ⟨b, o, s⟩ := a
  cases s with
  | none => rfl
  | some x =>
    unfold World.cell? at h
    split at h <;> simp at h
section
variable {H : Type} {enc : TypeId × Value → H} {P : Program} {W : World}
theorem open_nums {t e : TypeId} {r : Reach} {b0 : Nat} {v : Value} {d : DataW H} {ps : List MemPlace} (ht : P.underlying t = some (.slice e)) (he : P.underlying e = some (.int .i64)) (hc : P.cellsOf e = 1)
    (hval : Value.okWide P W r b0 t v) (hd : DataW.Trod enc P W 0 (fun _ => true) true t v d ps) :
    ∃ (A : Option Addr) (L : List Int) (cp : Nat), v = .slice A L.length cp ∧ Rd (fun k => k < W.heap.size) W (.sl (intRows L)) v ∧
      ∀ W', RowKit.Below W.heap.size W W' → ∀ sp : Nat → Bool, (∀ p ∈ ps, sp p.block = true) → DataW.Trod enc P W' 0 sp true t v d ps := by
  obtain ⟨a0, len0, cap0, rfl⟩ := Go.WideShapes.okWide_slice ht hval
  obtain ⟨fuel, hf⟩ := hd
  rcases open_ints ht he hc hf with ⟨h1, h2⟩ | ⟨a, len, cap, zs, h1, hb, hl, hm, hz, hx, hcell, hw⟩
  · have h1' : [Value.slice a0 len0 cap0] = [Value.slice none 0 0] := h1
    simp only [List.cons.injEq, Value.slice.injEq, and_true] at h1'
    obtain ⟨rfl, rfl, rfl⟩ := h1'
    cases h2
    refine ⟨none, [], 0, rfl, .nil none 0, fun W' _ sp _ => ⟨1, ?_⟩⟩
    simp [DataW.trod, Value.cells, ht]
  · have h1' : [Value.slice a0 len0 cap0] = [Value.slice (some a) len cap] := h1
    simp only [List.cons.injEq, Value.slice.injEq, and_true] at h1'
    obtain ⟨rfl, rfl, rfl⟩ := h1'
    simp only [if_true] at hz
    cases hx
    have hin : ∀ i, i < zs.length → a.block < W.heap.size := fun i hi => by
      have := hcell i hi
      by_cases h : a.block < W.heap.size
      · exact h
      · have e : W.heap[(a.add i).block]? = none := by
          rw [Array.getElem?_eq_none]
          rw [block_add]
          omega
        unfold World.cell? at this
        rw [e] at this
        cases this
    refine ⟨some a, zs.take len0, cap0, by rw [List.length_take, Nat.min_eq_left (by omega)], ?_, fun W' hW sp hsp => ⟨2, ?_⟩⟩
    · have hlen : (zs.take len0).length = len0 := by rw [List.length_take, Nat.min_eq_left (by omega)]
      by_cases h0 : len0 = 0
      · subst h0
        rw [List.take_zero]
        exact .nil (some a) cap0
      · have hs : a.spot = none := cell_spot' (a := a.add 0) (hcell 0 (by omega))
        obtain ⟨b, o, s⟩ := a
        have hs' : s = none := hs
        subst hs'
        have hr : Rd (fun k => k < W.heap.size) W (.sl (intRows (zs.take len0))) (.slice (some ⟨b, o, none⟩) (intRows (zs.take len0)).length cap0) := by
          refine .sl (intRows (zs.take len0)) 1 b o cap0 (fun i _ => .int .i64 (zs.getD i 0)) ?_ (hin 0 (by omega)) (hin 0 (by omega)) ?_ ?_ ?_
          · unfold intRows
            rw [List.length_map, hlen]
            exact hl
          · intro i x hx
            unfold intRows at hx
            rw [List.getElem?_map] at hx
            obtain ⟨y, _, rfl⟩ := Option.map_eq_some_iff.1 hx
            rfl
          · intro i x hx j y hy
            unfold intRows at hx
            rw [List.getElem?_map] at hx
            obtain ⟨n, hn, rfl⟩ := Option.map_eq_some_iff.1 hx
            have hi : i < len0 := by
              have := (List.getElem?_eq_some_iff.1 hn).1
              omega
            cases j with
            | zero =>
              have := hcell i (by omega)
              rw [Go.WideShapes.add_plain] at this
              rw [Nat.mul_one, Nat.add_zero]
              exact this
            | succ j => simp at hy
          · intro i x hx j y hy
            unfold intRows at hx
            rw [List.getElem?_map] at hx
            obtain ⟨n, hn, rfl⟩ := Option.map_eq_some_iff.1 hx
            have hi : i < len0 := by
              have := (List.getElem?_eq_some_iff.1 hn).1
              omega
            cases j with
            | zero =>
              have hy' : D.int .i64 n = y := Option.some.inj hy
              subst hy'
              have hn' : zs.getD i 0 = n := by
                rw [List.getElem?_take, if_pos hi] at hn
                rw [List.getD_eq_getElem?_getD, hn]
                rfl
              show Rd _ _ _ (Value.int .i64 (zs.getD i 0))
              rw [hn']
              exact .int _ _
            | succ j => simp at hy
        have hl' : (intRows (zs.take len0)).length = len0 := by unfold intRows; rw [List.length_map, hlen]
        rw [hl'] at hr
        exact hr
    · refine shut_ints 0 ht he hc hb hl hm ?_ (fun i hi => ?_) hw
      · by_cases h0 : cap0 = 0
        · have : len0 = 0 := by omega
          subst h0
          subst this
          rw [hz]
          split <;> rfl
        · have := hsp (.cell a.block (a.off + 0)) (List.mem_map.2 ⟨0, List.mem_range.2 (by omega), rfl⟩)
          have e : sp a.block = true := this
          rw [if_pos e, hz]
      · rw [hW.cell (by rw [block_add]; exact hin i hi)]
        exact hcell i hi
end

section
open Go.RowKit Go.WideShapes
variable {H : Type} {enc : TypeId × Value → H} {P : Program}
theorem post_of_below {f : Func} {s : ChangeSpec} {apart fresh handsOn again : Bool} {W W' : World} {args : Array Value} {v : Value} {ds gs : List (DataW H)} {before pa pv : List MemPlace}
    (hW : DataW.Whole enc P f.params.toList s.vars apart W args.toList ds gs before)
    (hres : ∀ (b : Nat) (sp : Nat → Bool) (hd : Bool), DataW.TrodAll enc P W' b sp hd f.resultTypes.toList (v.resultList f.resultTypes.size) (s.fn H (ds ++ gs)).results [])
    (hargs : ∀ sp : Nat → Bool, (∀ p ∈ before, sp p.block = true) → DataW.TrodAll enc P W' 0 sp true f.params.toList args.toList (s.fn H (ds ++ gs)).args pa)
    (hvars : ∀ sp : Nat → Bool, (∀ p ∈ before, sp p.block = true) → DataW.TrodVars enc P W' sp s.vars (s.fn H (ds ++ gs)).vars pv)
    (hps : before = pa ++ pv) (hb : RowKit.Below W.heap.size W W')
    (hok : ∀ (j : Nat) (t : TypeId) (r : Value), f.resultTypes[j]? = some t → (v.resultList f.resultTypes.size)[j]? = some r → Value.okWide P W' .any 0 t r) :
    s.post enc P f apart fresh handsOn again W args v W' := by
  have hlt : ∀ p ∈ before, p.block < W.heap.size := fun p hp => hW.lt p hp
  have hold : ∀ p ∈ before, (fun b => decide (b < W.heap.size)) p.block = true := fun p hp => by simpa using hlt p hp
  refine ⟨ds, gs, before, [], pa, pv, hW, hres _ _ _, hargs _ hold, hvars _ hold, World.keptBut_mono (fun p hp => ⟨hp, ?_⟩) (hb.frame (· ∈ before)), fun _ => ?_⟩
  · rw [hps, List.mem_append] at hp
    exact Or.inr hp
  · obtain ⟨_, _, _, _, _, hz, hn⟩ := hW
    refine ⟨hok, _, _, ([] ++ pa) ++ pv, ⟨[] ++ pa, pv, trodAll_append (hargs _ (fun _ _ => rfl)) (hres _ _ _), hvars _ (fun _ _ => rfl), rfl, ?_, ?_⟩, ?_⟩
    · intro b off hp
      have hin : MemPlace.cell b off ∈ before := by rw [hps]; simpa using hp
      rw [hb.frozen (hlt _ hin)]
      exact hz b off hin
    · intro ha
      have := hn ha
      rw [hps] at this
      simpa using this
    · intro p hp _
      rw [hps]
      simpa using hp
end
end Go.Avc

/- slices.IndexFunc, ContainsFunc, Index, Contains at the seat's types: their contracts. No condition. -/
set_option linter.unusedVariables false
set_option linter.unusedSimpArgs false
set_option maxRecDepth 100000
namespace Go.Avc
open Go Go.Proofs

/-- The first place at which p says yes; -1: there is none. -/
def idxB {α : Type} (p : α → Bool) (l : List α) : Int := match l.findIdx? p with
  | some i => i
  | none => -1
theorem idxB_at {α : Type} {p : α → Bool} {l : List α} {d : α} {i : Int} (h0 : 0 ≤ i) (h1 : i < l.length) (h2 : ∀ j : Nat, (j : Int) < i → p (l.getD j d) = false) (h3 : p (l.getD i.toNat d) = true) : idxB p l = i := by
  obtain ⟨n, rfl⟩ : ∃ n : Nat, i = n := ⟨i.toNat, by omega⟩
  rw [Int.toNat_natCast] at h3
  have hn : n < l.length := by omega
  unfold idxB
  rw [List.findIdx?_eq_some_of_exists ⟨l[n], List.getElem_mem _, by rwa [List.getD_eq_getElem?_getD, List.getElem?_eq_getElem hn] at h3⟩]
  have : l.findIdx p = n := by
    rw [List.findIdx_eq hn]
    refine ⟨by rwa [List.getD_eq_getElem?_getD, List.getElem?_eq_getElem hn] at h3, fun j hj => ?_⟩
    have := h2 j (by omega)
    rwa [List.getD_eq_getElem?_getD, List.getElem?_eq_getElem (by omega)] at this
  simp only [this]
theorem idxB_no {α : Type} {p : α → Bool} {l : List α} {d : α} (h : ∀ j : Nat, (j : Int) < l.length → p (l.getD j d) = false) : idxB p l = -1 := by
  unfold idxB
  rw [List.findIdx?_eq_none_iff.2]
  intro x hx
  obtain ⟨j, hj, rfl⟩ := List.mem_iff_getElem.1 hx
  have := h j (by omega)
  rwa [List.getD_eq_getElem?_getD, List.getElem?_eq_getElem hj] at this
theorem idxB_ge {α : Type} (p : α → Bool) (l : List α) : decide (0 ≤ idxB p l) = l.any p := by
  unfold idxB
  cases h : l.findIdx? p with
  | none =>
    rw [List.findIdx?_eq_none_iff] at h
    have : l.any p = false := by
      rw [List.any_eq_false]
      intro x hx; simp [h x hx]
    rw [this]; decide
  | some i =>
    have : l.any p = true := by
      rw [List.findIdx?_eq_some_iff_getElem] at h
      obtain ⟨hi, hp, _⟩ := h
      rw [List.any_eq_true]; exact ⟨_, List.getElem_mem hi, hp⟩
    rw [this]; simp
theorem idxB_range {α : Type} (p : α → Bool) (l : List α) : -1 ≤ idxB p l ∧ idxB p l < l.length := by
  unfold idxB
  cases h : l.findIdx? p with
  | none => simp only; omega
  | some i =>
    rw [List.findIdx?_eq_some_iff_getElem] at h
    obtain ⟨hi, hp, _⟩ := h
    simp only; omega
theorem idxB_map {α β : Type} (f : α → β) (p : β → Bool) (l : List α) : idxB p (l.map f) = idxB (fun a => p (f a)) l := by
  unfold idxB
  rw [List.findIdx?_map]; rfl
theorem idxB_congr {α : Type} {p q : α → Bool} {l : List α} (h : ∀ x, p x = q x) : idxB p l = idxB q l := by rw [funext h]
/-- An element as a value: a struct; a cell. -/
def elI (x : List D) : DV := .d (x.headD (.int .i64 0))
def elS (x : List D) : DV := .d (x.headD (.str ⟨#[]⟩))
theorem elI_f (x : List D) : DV.d (x.headD (.int .i64 0)) = elI x := rfl
theorem elS_f (x : List D) : DV.d (x.headD (.str ⟨#[]⟩)) = elS x := rfl
def idxFS (el : List D → DV) (zr : List D) : Spec where
  pre xs := ∃ (rows : List (List D)) (sp : FSpec), xs = [.sl rows, .fv sp] ∧ (∀ i, (rows.getD i zr).length = zr.length) ∧ (∀ i, sp.det (el (rows.getD i zr))) ∧ rows.length ≤ 4611686018427387904
  post xs r := ∃ (rows : List (List D)) (sp : FSpec), xs = [.sl rows, .fv sp] ∧ r = .i (idxB (fun x => sp.holds (el x)) rows)
  cost _ := 0
  fresh := true
def conFS (el : List D → DV) (zr : List D) : Spec where
  pre xs := ∃ (rows : List (List D)) (sp : FSpec), xs = [.sl rows, .fv sp] ∧ (∀ i, (rows.getD i zr).length = zr.length) ∧ (∀ i, sp.det (el (rows.getD i zr))) ∧ rows.length ≤ 4611686018427387904
  post xs r := ∃ (rows : List (List D)) (sp : FSpec), xs = [.sl rows, .fv sp] ∧ r = .b (rows.any fun x => sp.holds (el x))
  cost _ := 0
  fresh := true
theorem idx_leaf {α : Type} {rows : List α} {p : α → Bool} {zr : α} {i : Int} (j1 : 0 ≤ i) (j2 : i ≤ rows.length) (j3 : ∀ j : Nat, (j : Int) < i → p (rows.getD j zr) = false) (hl : rows.length ≤ 4611686018427387904) :
    (i < rows.length → 0 ≤ i ∧ i < rows.length ∧ (p (rows.getD i.toNat zr) = true → i = idxB p rows) ∧ (p (rows.getD i.toNat zr) = false → 0 ≤ IntKind.i64.wrap (i + 1) ∧ IntKind.i64.wrap (i + 1) ≤ rows.length ∧ (∀ j : Nat, (j : Int) < IntKind.i64.wrap (i + 1) → p (rows.getD j zr) = false) ∧ ((rows.length : Int) - IntKind.i64.wrap (i + 1)).toNat < ((rows.length : Int) - i).toNat)) ∧ (¬ i < rows.length → -1 = idxB p rows) := by
  refine ⟨fun c => ⟨j1, c, fun ht => (idxB_at j1 c j3 ht).symm, fun hf => ?_⟩, fun c => (idxB_no (d := zr) fun j hj => j3 j (by omega)).symm⟩
  rw [i64w (by omega) (by omega)]
  refine ⟨by omega, by omega, fun j hj => ?_, by omega⟩
  by_cases e : (j : Int) = i
  · rw [← e, Int.toNat_natCast] at hf; exact hf
  · exact j3 j (by omega)
open Classical in
/-- The first place at which x stands; -1: nowhere. -/
noncomputable def idxE {α : Type} (x : α) (l : List α) : Int := idxB (fun y => decide (x = y)) l
open Classical in
noncomputable def conE {α : Type} (x : α) (l : List α) : Bool := l.any fun y => decide (x = y)
theorem conE_iff {α : Type} (x : α) (l : List α) : (conE x l = true) = (x ∈ l) := by
  unfold conE
  simp
theorem idx_leafT {α : Type} {rows : List α} {x zr : α} {i : Int} (j1 : 0 ≤ i) (j2 : i ≤ rows.length) (j3 : ∀ j : Nat, (j : Int) < i → ¬ x = rows.getD j zr) (hl : rows.length ≤ 4611686018427387904) :
    (i < rows.length → 0 ≤ i ∧ i < rows.length ∧ (x = rows.getD i.toNat zr → i = idxE x rows) ∧ (¬ x = rows.getD i.toNat zr → 0 ≤ IntKind.i64.wrap (i + 1) ∧ IntKind.i64.wrap (i + 1) ≤ rows.length ∧ (∀ j : Nat, (j : Int) < IntKind.i64.wrap (i + 1) → ¬ x = rows.getD j zr) ∧ ((rows.length : Int) - IntKind.i64.wrap (i + 1)).toNat < ((rows.length : Int) - i).toNat)) ∧ (¬ i < rows.length → -1 = idxE x rows) := by
  classical
  have := idx_leaf (p := fun y => decide (x = y)) (zr := zr) j1 j2 (fun j hj => by simp only [decide_eq_false_iff_not]; exact j3 j hj) hl
  simp only [decide_eq_true_eq, decide_eq_false_iff_not] at this
  unfold idxE
  refine ⟨fun c => ?_, fun c => ?_⟩
  · obtain ⟨a, b, d, e⟩ := this.1 c
    exact ⟨a, b, fun h => by rw [d h], e⟩
  · rw [this.2 c]
theorem conE_ge {α : Type} (x : α) (l : List α) : decide (0 ≤ idxE x l) = conE x l := by
  unfold idxE conE
  exact idxB_ge _ _
def idx_stringS  : Spec where
  pre xs := ∃ (l : List ByteArray) (x : ByteArray), xs = [.sl (rowsT l), .str x] ∧ (l.length ≤ 4611686018427387904)
  post xs y := ∃ (l : List ByteArray) (x : ByteArray), xs = [.sl (rowsT l), .str x] ∧ y = .i (idxE x l)
  cost _ := 0
  fresh := true
theorem idx_stringS_c  (xs : List AV) : (idx_stringS).cost xs = 0 := nr rfl
theorem idx_stringS_f  : (idx_stringS).fresh = true := nr rfl
theorem idx_stringS_q  (l : List ByteArray) (x : ByteArray) : (idx_stringS).pre [.sl (rowsT l), .str x] = (l.length ≤ 4611686018427387904) := propext ⟨fun h => by
  have h' : ∃ (l' : List ByteArray) (x' : ByteArray), ([.sl (rowsT l), .str x] : List AV) = [.sl (rowsT l'), .str x'] ∧ (l'.length ≤ 4611686018427387904) := h
  obtain ⟨l', x', e, h⟩ := h'
  simp only [List.cons.injEq, AV.dv.injEq, AV.fv.injEq, DV.d.injEq, DV.ag.injEq, D.int.injEq, D.str.injEq, D.bool.injEq, D.sl.injEq, true_and, and_true, intsDi_inj, rowsT_inj, rowsKi_inj] at e
  obtain ⟨rfl, rfl⟩ := e
  exact h, fun h => ⟨l, x, rfl, h⟩⟩
theorem idx_stringS_p  (l : List ByteArray) (x : ByteArray) : (idx_stringS).post [.sl (rowsT l), .str x] = fun y => y = .i (idxE x l) := funext fun y => propext ⟨fun h => by
  have h' : ∃ (l' : List ByteArray) (x' : ByteArray), ([.sl (rowsT l), .str x] : List AV) = [.sl (rowsT l'), .str x'] ∧ y = .i (idxE x' l') := h
  obtain ⟨l', x', e, h⟩ := h'
  simp only [List.cons.injEq, AV.dv.injEq, AV.fv.injEq, DV.d.injEq, DV.ag.injEq, D.int.injEq, D.str.injEq, D.bool.injEq, D.sl.injEq, true_and, and_true, intsDi_inj, rowsT_inj, rowsKi_inj] at e
  obtain ⟨rfl, rfl⟩ := e
  exact h, fun h => ⟨l, x, rfl, h⟩⟩
def con_stringS  : Spec where
  pre xs := ∃ (l : List ByteArray) (x : ByteArray), xs = [.sl (rowsT l), .str x] ∧ (l.length ≤ 4611686018427387904)
  post xs y := ∃ (l : List ByteArray) (x : ByteArray), xs = [.sl (rowsT l), .str x] ∧ y = .b (conE x l)
  cost _ := 0
  fresh := true
theorem con_stringS_c  (xs : List AV) : (con_stringS).cost xs = 0 := nr rfl
theorem con_stringS_f  : (con_stringS).fresh = true := nr rfl
theorem con_stringS_q  (l : List ByteArray) (x : ByteArray) : (con_stringS).pre [.sl (rowsT l), .str x] = (l.length ≤ 4611686018427387904) := propext ⟨fun h => by
  have h' : ∃ (l' : List ByteArray) (x' : ByteArray), ([.sl (rowsT l), .str x] : List AV) = [.sl (rowsT l'), .str x'] ∧ (l'.length ≤ 4611686018427387904) := h
  obtain ⟨l', x', e, h⟩ := h'
  simp only [List.cons.injEq, AV.dv.injEq, AV.fv.injEq, DV.d.injEq, DV.ag.injEq, D.int.injEq, D.str.injEq, D.bool.injEq, D.sl.injEq, true_and, and_true, intsDi_inj, rowsT_inj, rowsKi_inj] at e
  obtain ⟨rfl, rfl⟩ := e
  exact h, fun h => ⟨l, x, rfl, h⟩⟩
theorem con_stringS_p  (l : List ByteArray) (x : ByteArray) : (con_stringS).post [.sl (rowsT l), .str x] = fun y => y = .b (conE x l) := funext fun y => propext ⟨fun h => by
  have h' : ∃ (l' : List ByteArray) (x' : ByteArray), ([.sl (rowsT l), .str x] : List AV) = [.sl (rowsT l'), .str x'] ∧ y = .b (conE x' l') := h
  obtain ⟨l', x', e, h⟩ := h'
  simp only [List.cons.injEq, AV.dv.injEq, AV.fv.injEq, DV.d.injEq, DV.ag.injEq, D.int.injEq, D.str.injEq, D.bool.injEq, D.sl.injEq, true_and, and_true, intsDi_inj, rowsT_inj, rowsKi_inj] at e
  obtain ⟨rfl, rfl⟩ := e
  exact h, fun h => ⟨l, x, rfl, h⟩⟩
theorem indexFunc_TPool {cx : Cx} (h : Seat cx) : Ctr cx 66 (idxFS DV.ag [.str ⟨#[]⟩, .int .i64 0, .int .i64 0, .int .i64 0, .sl []]) := by
  refine ctr_of (fn := Tryd.f66) (l := [.tmp 4]) (envL []) [0, 1, 4, 5, 7, 8, 9, 16] [] [] (env0 h.hP) ?_ (by rw [h.hP]; exact Tryd.func66) rfl (by kernel_rfl) rfl ?_ ?_
  · rw [h.hP]; exact ⟨_, Tryd.func66, by kernel_rfl, by kernel_rfl⟩
  · rintro xs ⟨rows, sp, rfl, h1, h2, h3⟩; exact ⟨_, rows, sp, rfl, rfl⟩
  · rintro xs ⟨rows, sp, rfl, h1, h2, h3⟩
    have hne : ∀ i, (rows.getD i [.str ⟨#[]⟩, .int .i64 0, .int .i64 0, .int .i64 0, .sl []] = []) = False := fun i => eq_false fun e => by have := h1 i; rw [e] at this; cases this
    have ht : ∀ i, (rows.getD i [.str ⟨#[]⟩, .int .i64 0, .int .i64 0, .int .i64 0, .sl []]).take 5 = rows.getD i [.str ⟨#[]⟩, .int .i64 0, .int .i64 0, .int .i64 0, .sl []] := fun i => List.take_of_length_le (Nat.le_of_eq (h1 i))
    refine ⟨by rw [Tryd.ntmps66]; simp, ?_⟩
    simp only [go_sem, h.hP, idxFS, Tryd.ntmps66, Nat.reduceEqDiff, reduceCtorEq, Nat.reduceMul, Nat.reduceAdd, Nat.reduceSub, Nat.reduceDiv, Nat.reduceMod, Nat.reduceLeDiff, Nat.reduceLT, Nat.reduceBNe, Nat.reduceBEq, reduceIte, Int.reduceLE, Int.reduceLT, Int.reduceToNat, Int.reduceNeg, Int.reduceAdd, Int.reduceSub, Int.reduceMul, Int.reduceEq]
    refine vc_loopS (Int) (fun (i : Int) => [(8, .i i)]) [] (fun (i : Int) => []) (fun (i : Int) => []) (fun (i : Int) => 0) (fun (i : Int) => 0 ≤ i ∧ i ≤ rows.length ∧ ∀ j : Nat, (j : Int) < i → sp.holds (DV.ag (rows.getD j [.str ⟨#[]⟩, .int .i64 0, .int .i64 0, .int .i64 0, .sl []])) = false) (fun (i : Int) => (rows.length - i).toNat) [] ?_ ?_
    · simp only [go_sem, h.hP, List.cons_append, List.nil_append, Meets_e, Below_e, Prod.exists, exists_eq, exists_eq_left, exists_eq_left', exists_eq_right, exists_eq_right', exists_and_left, exists_and_right, Ob.arr.injEq, AV.own.injEq, AV.fv.injEq, Tryd.ntmps66, Nat.reduceEqDiff, reduceCtorEq, Nat.reduceMul, Nat.reduceAdd, Nat.reduceSub, Nat.reduceDiv, Nat.reduceMod, Nat.reduceLeDiff, Nat.reduceLT, Nat.reduceBNe, Nat.reduceBEq, reduceIte, Int.reduceLE, Int.reduceLT, Int.reduceToNat, Int.reduceNeg, Int.reduceAdd, Int.reduceSub, Int.reduceMul, Int.reduceEq]
      exact ⟨Int.natCast_nonneg _, fun j hj => by omega⟩
    · rintro i ⟨j1, j2, j3⟩
      have h0 := h2 i.toNat
      simp only [go_sem, h.hP, List.cons_append, List.nil_append, Meets_e, Below_e, Prod.exists, exists_eq, exists_eq_left, exists_eq_left', exists_eq_right, exists_eq_right', exists_and_left, exists_and_right, Ob.arr.injEq, AV.own.injEq, AV.fv.injEq, idxFS, hne, h1, ht, h0.pre, h0.post, Tryd.ntmps66, Nat.reduceEqDiff, reduceCtorEq, Nat.reduceMul, Nat.reduceAdd, Nat.reduceSub, Nat.reduceDiv, Nat.reduceMod, Nat.reduceLeDiff, Nat.reduceLT, Nat.reduceBNe, Nat.reduceBEq, reduceIte, Int.reduceLE, Int.reduceLT, Int.reduceToNat, Int.reduceNeg, Int.reduceAdd, Int.reduceSub, Int.reduceMul, Int.reduceEq]
      exact idx_leaf (p := fun x => sp.holds (DV.ag x)) (zr := [.str ⟨#[]⟩, .int .i64 0, .int .i64 0, .int .i64 0, .sl []]) j1 j2 j3 h3
theorem containsFunc_TPool {cx : Cx} (h : Seat cx) : Ctr cx 63 (conFS DV.ag [.str ⟨#[]⟩, .int .i64 0, .int .i64 0, .int .i64 0, .sl []]) := by
  refine ctr_of (fn := Tryd.f63) (l := [.tmp 4]) (envL [(66, (idxFS DV.ag [.str ⟨#[]⟩, .int .i64 0, .int .i64 0, .int .i64 0, .sl []]))]) [0, 1, 4] [] [] (envL_cons (indexFunc_TPool h) (env0 h.hP)) ?_ (by rw [h.hP]; exact Tryd.func63) rfl (by kernel_rfl) rfl ?_ ?_
  · rw [h.hP]; exact ⟨_, Tryd.func63, by kernel_rfl, by kernel_rfl⟩
  · rintro xs ⟨rows, sp, rfl, h1, h2, h3⟩; exact ⟨_, rows, sp, rfl, rfl⟩
  · rintro xs ⟨rows, sp, rfl, h1, h2, h3⟩
    refine ⟨by rw [Tryd.ntmps63]; simp, ?_⟩
    simp only [go_sem, h.hP, List.cons_append, List.nil_append, Meets_e, Below_e, Prod.exists, exists_eq, exists_eq_left, exists_eq_left', exists_eq_right, exists_eq_right', exists_and_left, exists_and_right, Ob.arr.injEq, AV.own.injEq, AV.fv.injEq, idxFS, conFS, Tryd.ntmps63, Nat.reduceEqDiff, reduceCtorEq, Nat.reduceMul, Nat.reduceAdd, Nat.reduceSub, Nat.reduceDiv, Nat.reduceMod, Nat.reduceLeDiff, Nat.reduceLT, Nat.reduceBNe, Nat.reduceBEq, reduceIte, Int.reduceLE, Int.reduceLT, Int.reduceToNat, Int.reduceNeg, Int.reduceAdd, Int.reduceSub, Int.reduceMul, Int.reduceEq]
    exact ⟨h1, h2, h3, idxB_ge _ _⟩
theorem indexFunc_int {cx : Cx} (h : Seat cx) : Ctr cx 133 (idxFS elI [.int .i64 0]) := by
  refine ctr_of (fn := Tryd.f133) (l := [.tmp 4]) (envL []) [0, 1, 4, 5, 7, 8, 9, 16] [] [] (env0 h.hP) ?_ (by rw [h.hP]; exact Tryd.func133) rfl (by kernel_rfl) rfl ?_ ?_
  · rw [h.hP]; exact ⟨_, Tryd.func133, by kernel_rfl, by kernel_rfl⟩
  · rintro xs ⟨rows, sp, rfl, h1, h2, h3⟩; exact ⟨_, rows, sp, rfl, rfl⟩
  · rintro xs ⟨rows, sp, rfl, h1, h2, h3⟩
    have hne : ∀ i, (rows.getD i [.int .i64 0] = []) = False := fun i => eq_false fun e => by have := h1 i; rw [e] at this; cases this
    have ht : ∀ i, (rows.getD i [.int .i64 0]).take 1 = rows.getD i [.int .i64 0] := fun i => List.take_of_length_le (Nat.le_of_eq (h1 i))
    refine ⟨by rw [Tryd.ntmps133]; simp, ?_⟩
    simp only [go_sem, h.hP, idxFS, Tryd.ntmps133, Nat.reduceEqDiff, reduceCtorEq, Nat.reduceMul, Nat.reduceAdd, Nat.reduceSub, Nat.reduceDiv, Nat.reduceMod, Nat.reduceLeDiff, Nat.reduceLT, Nat.reduceBNe, Nat.reduceBEq, reduceIte, Int.reduceLE, Int.reduceLT, Int.reduceToNat, Int.reduceNeg, Int.reduceAdd, Int.reduceSub, Int.reduceMul, Int.reduceEq]
    refine vc_loopS (Int) (fun (i : Int) => [(8, .i i)]) [] (fun (i : Int) => []) (fun (i : Int) => []) (fun (i : Int) => 0) (fun (i : Int) => 0 ≤ i ∧ i ≤ rows.length ∧ ∀ j : Nat, (j : Int) < i → sp.holds (elI (rows.getD j [.int .i64 0])) = false) (fun (i : Int) => (rows.length - i).toNat) [] ?_ ?_
    · simp only [go_sem, h.hP, List.cons_append, List.nil_append, Meets_e, Below_e, Prod.exists, exists_eq, exists_eq_left, exists_eq_left', exists_eq_right, exists_eq_right', exists_and_left, exists_and_right, Ob.arr.injEq, AV.own.injEq, AV.fv.injEq, Tryd.ntmps133, Nat.reduceEqDiff, reduceCtorEq, Nat.reduceMul, Nat.reduceAdd, Nat.reduceSub, Nat.reduceDiv, Nat.reduceMod, Nat.reduceLeDiff, Nat.reduceLT, Nat.reduceBNe, Nat.reduceBEq, reduceIte, Int.reduceLE, Int.reduceLT, Int.reduceToNat, Int.reduceNeg, Int.reduceAdd, Int.reduceSub, Int.reduceMul, Int.reduceEq]
      exact ⟨Int.natCast_nonneg _, fun j hj => by omega⟩
    · rintro i ⟨j1, j2, j3⟩
      have h0 := h2 i.toNat
      simp only [go_sem, h.hP, List.cons_append, List.nil_append, Meets_e, Below_e, Prod.exists, exists_eq, exists_eq_left, exists_eq_left', exists_eq_right, exists_eq_right', exists_and_left, exists_and_right, Ob.arr.injEq, AV.own.injEq, AV.fv.injEq, idxFS, elI_f, hne, not_false_eq_true, h1, ht, h0.pre, h0.post, Tryd.ntmps133, Nat.reduceEqDiff, reduceCtorEq, Nat.reduceMul, Nat.reduceAdd, Nat.reduceSub, Nat.reduceDiv, Nat.reduceMod, Nat.reduceLeDiff, Nat.reduceLT, Nat.reduceBNe, Nat.reduceBEq, reduceIte, Int.reduceLE, Int.reduceLT, Int.reduceToNat, Int.reduceNeg, Int.reduceAdd, Int.reduceSub, Int.reduceMul, Int.reduceEq]
      exact idx_leaf (p := fun x => sp.holds (elI x)) (zr := [.int .i64 0]) j1 j2 j3 h3
theorem containsFunc_int {cx : Cx} (h : Seat cx) : Ctr cx 108 (conFS elI [.int .i64 0]) := by
  refine ctr_of (fn := Tryd.f108) (l := [.tmp 4]) (envL [(133, (idxFS elI [.int .i64 0]))]) [0, 1, 4] [] [] (envL_cons (indexFunc_int h) (env0 h.hP)) ?_ (by rw [h.hP]; exact Tryd.func108) rfl (by kernel_rfl) rfl ?_ ?_
  · rw [h.hP]; exact ⟨_, Tryd.func108, by kernel_rfl, by kernel_rfl⟩
  · rintro xs ⟨rows, sp, rfl, h1, h2, h3⟩; exact ⟨_, rows, sp, rfl, rfl⟩
  · rintro xs ⟨rows, sp, rfl, h1, h2, h3⟩
    refine ⟨by rw [Tryd.ntmps108]; simp, ?_⟩
    simp only [go_sem, h.hP, List.cons_append, List.nil_append, Meets_e, Below_e, Prod.exists, exists_eq, exists_eq_left, exists_eq_left', exists_eq_right, exists_eq_right', exists_and_left, exists_and_right, Ob.arr.injEq, AV.own.injEq, AV.fv.injEq, idxFS, conFS, Tryd.ntmps108, Nat.reduceEqDiff, reduceCtorEq, Nat.reduceMul, Nat.reduceAdd, Nat.reduceSub, Nat.reduceDiv, Nat.reduceMod, Nat.reduceLeDiff, Nat.reduceLT, Nat.reduceBNe, Nat.reduceBEq, reduceIte, Int.reduceLE, Int.reduceLT, Int.reduceToNat, Int.reduceNeg, Int.reduceAdd, Int.reduceSub, Int.reduceMul, Int.reduceEq]
    exact ⟨h1, h2, h3, idxB_ge _ _⟩
theorem index_string {cx : Cx} (h : Seat cx) : Ctr cx 62 idx_stringS := by
  refine ctr_of (fn := Tryd.f62) (l := [.tmp 4]) (envL []) [0, 1, 4, 5, 7, 8, 9, 16] [] [] (env0 h.hP) ?_ (by rw [h.hP]; exact Tryd.func62) rfl (by kernel_rfl) rfl ?_ ?_
  · rw [h.hP]; exact ⟨_, Tryd.func62, by kernel_rfl, by kernel_rfl⟩
  · rintro xs ⟨l, x, rfl, h1⟩; exact ⟨_, l, x, rfl, rfl⟩
  · rintro xs ⟨l, x, rfl, h1⟩
    refine ⟨by rw [Tryd.ntmps62]; simp, ?_⟩
    simp only [go_sem, h.hP, idx_stringS_q, idx_stringS_p, idx_stringS_c, idx_stringS_f, Tryd.ntmps62, Nat.reduceEqDiff, reduceCtorEq, Nat.reduceMul, Nat.reduceAdd, Nat.reduceSub, Nat.reduceDiv, Nat.reduceMod, Nat.reduceLeDiff, Nat.reduceLT, Nat.reduceBNe, Nat.reduceBEq, reduceIte, Int.reduceLE, Int.reduceLT, Int.reduceToNat, Int.reduceNeg, Int.reduceAdd, Int.reduceSub, Int.reduceMul, Int.reduceEq]
    refine vc_loopS (Int) (fun (i : Int) => [(8, .i i)]) [] (fun (i : Int) => []) (fun (i : Int) => []) (fun (i : Int) => 0) (fun (i : Int) => 0 ≤ i ∧ i ≤ l.length ∧ ∀ j : Nat, (j : Int) < i → ¬ x = l.getD j ⟨#[]⟩) (fun (i : Int) => (l.length - i).toNat) [] ?_ ?_
    · simp only [go_sem, h.hP, List.cons_append, List.nil_append, Meets_e, Below_e, Prod.exists, exists_eq, exists_eq_left, exists_eq_left', exists_eq_right, exists_eq_right', exists_and_left, exists_and_right, Ob.arr.injEq, AV.own.injEq, AV.fv.injEq, rowsT_len, rowsT_get, rowsT_inj, Tryd.ntmps62, Nat.reduceEqDiff, reduceCtorEq, Nat.reduceMul, Nat.reduceAdd, Nat.reduceSub, Nat.reduceDiv, Nat.reduceMod, Nat.reduceLeDiff, Nat.reduceLT, Nat.reduceBNe, Nat.reduceBEq, reduceIte, Int.reduceLE, Int.reduceLT, Int.reduceToNat, Int.reduceNeg, Int.reduceAdd, Int.reduceSub, Int.reduceMul, Int.reduceEq]
      exact ⟨Int.natCast_nonneg _, fun j hj => by omega⟩
    · rintro i ⟨j1, j2, j3⟩
      simp only [go_sem, h.hP, List.cons_append, List.nil_append, Meets_e, Below_e, Prod.exists, exists_eq, exists_eq_left, exists_eq_left', exists_eq_right, exists_eq_right', exists_and_left, exists_and_right, Ob.arr.injEq, AV.own.injEq, AV.fv.injEq, idx_stringS_q, idx_stringS_p, idx_stringS_c, idx_stringS_f, rowsT_len, rowsT_get, rowsT_inj, Tryd.ntmps62, Nat.reduceEqDiff, reduceCtorEq, Nat.reduceMul, Nat.reduceAdd, Nat.reduceSub, Nat.reduceDiv, Nat.reduceMod, Nat.reduceLeDiff, Nat.reduceLT, Nat.reduceBNe, Nat.reduceBEq, reduceIte, Int.reduceLE, Int.reduceLT, Int.reduceToNat, Int.reduceNeg, Int.reduceAdd, Int.reduceSub, Int.reduceMul, Int.reduceEq]
      exact idx_leafT j1 j2 j3 h1
theorem contains_string {cx : Cx} (h : Seat cx) : Ctr cx 29 con_stringS := by
  refine ctr_of (fn := Tryd.f29) (l := [.tmp 4]) (envL [(62, idx_stringS)]) [0, 1, 4] [] [] (envL_cons (index_string h) (env0 h.hP)) ?_ (by rw [h.hP]; exact Tryd.func29) rfl (by kernel_rfl) rfl ?_ ?_
  · rw [h.hP]; exact ⟨_, Tryd.func29, by kernel_rfl, by kernel_rfl⟩
  · rintro xs ⟨l, x, rfl, h1⟩; exact ⟨_, l, x, rfl, rfl⟩
  · rintro xs ⟨l, x, rfl, h1⟩
    refine ⟨by rw [Tryd.ntmps29]; simp, ?_⟩
    simp only [go_sem, h.hP, List.cons_append, List.nil_append, Meets_e, Below_e, Prod.exists, exists_eq, exists_eq_left, exists_eq_left', exists_eq_right, exists_eq_right', exists_and_left, exists_and_right, Ob.arr.injEq, AV.own.injEq, AV.fv.injEq, idx_stringS_q, idx_stringS_p, idx_stringS_c, idx_stringS_f, con_stringS_q, con_stringS_p, con_stringS_c, con_stringS_f, rowsT_len, rowsT_get, rowsT_inj, Tryd.ntmps29, Nat.reduceEqDiff, reduceCtorEq, Nat.reduceMul, Nat.reduceAdd, Nat.reduceSub, Nat.reduceDiv, Nat.reduceMod, Nat.reduceLeDiff, Nat.reduceLT, Nat.reduceBNe, Nat.reduceBEq, reduceIte, Int.reduceLE, Int.reduceLT, Int.reduceToNat, Int.reduceNeg, Int.reduceAdd, Int.reduceSub, Int.reduceMul, Int.reduceEq]
    exact ⟨h1, conE_ge x l⟩
end Go.Avc

/- Small functions of the sending rules: their contracts. No condition. -/
set_option linter.unusedVariables false
set_option linter.unusedSimpArgs false
set_option maxRecDepth 100000
namespace Go.Avc
open Go Go.Proofs

theorem rowsK_inj' {l m : List Int} : intsD l = intsD m ↔ l = m := by
  refine ⟨fun h => ?_, fun h => by rw [h]⟩
  have e : ∀ l : List Int, numsOf (intsD l) = l := fun l => by
    unfold numsOf intsD
    rw [List.map_map]
    induction l with
    | nil => rfl
    | cons x r ih => simp [ih]
  rw [← e l, ← e m, h]
theorem within_ctr {cx : Cx} (h : Seat cx) : Ctr cx 60 inS := by
  refine ctr_of (fn := Tryd.f60) (l := [.tmp 6]) (envL []) [0, 1, 2, 6] [] [] (env0 h.hP) ?_ (by rw [h.hP]; exact Tryd.func60) rfl (by kernel_rfl) rfl ?_ ?_
  · rw [h.hP]; exact ⟨_, Tryd.func60, by kernel_rfl, by kernel_rfl⟩
  · rintro xs ⟨n, lo, hi, rfl⟩; exact ⟨_, n, lo, hi, rfl, rfl⟩
  · rintro xs ⟨n, lo, hi, rfl⟩
    refine ⟨by rw [Tryd.ntmps60]; simp, ?_⟩
    simp only [go_sem, h.hP, inS_q, inS_p, inS_c, inS_f, Tryd.ntmps60, Nat.reduceEqDiff, reduceCtorEq, Nat.reduceMul, Nat.reduceAdd, Nat.reduceSub, Nat.reduceDiv, Nat.reduceMod, Nat.reduceLeDiff, Nat.reduceLT, Nat.reduceBNe, Nat.reduceBEq, reduceIte, Int.reduceLE, Int.reduceLT, Int.reduceToNat, Int.reduceNeg, Int.reduceAdd, Int.reduceSub, Int.reduceMul, Int.reduceEq]
    unfold inB
    refine ⟨fun c => ?_, fun c => ?_⟩
    · simp [c]
    · simp [c]
def chanS  : Spec where
  pre xs := ∃ (n : Int), xs = [.i n]
  post xs y := ∃ (n : Int), xs = [.i n] ∧ y = .b (inB n 1 4)
  cost _ := 0
  fresh := true
theorem chanS_c  (xs : List AV) : (chanS).cost xs = 0 := nr rfl
theorem chanS_f  : (chanS).fresh = true := nr rfl
theorem chanS_q  (n : Int) : (chanS).pre [.i n] = (True) := propext ⟨fun h => by
  have h' : ∃ (n' : Int), ([.i n] : List AV) = [.i n'] := h
  obtain ⟨n', e⟩ := h'
  simp only [List.cons.injEq, AV.dv.injEq, AV.fv.injEq, DV.d.injEq, DV.ag.injEq, D.int.injEq, D.str.injEq, D.bool.injEq, D.sl.injEq, true_and, and_true, intsDi_inj, rowsT_inj, rowsKi_inj] at e
  obtain rfl := e
  exact trivial, fun h => ⟨n, rfl⟩⟩
theorem chanS_p  (n : Int) : (chanS).post [.i n] = fun y => y = .b (inB n 1 4) := funext fun y => propext ⟨fun h => by
  have h' : ∃ (n' : Int), ([.i n] : List AV) = [.i n'] ∧ y = .b (inB n' 1 4) := h
  obtain ⟨n', e, h⟩ := h'
  simp only [List.cons.injEq, AV.dv.injEq, AV.fv.injEq, DV.d.injEq, DV.ag.injEq, D.int.injEq, D.str.injEq, D.bool.injEq, D.sl.injEq, true_and, and_true, intsDi_inj, rowsT_inj, rowsKi_inj] at e
  obtain rfl := e
  exact h, fun h => ⟨n, rfl, h⟩⟩
theorem isChannel_ctr {cx : Cx} (h : Seat cx) : Ctr cx 59 chanS := by
  refine ctr_of (fn := Tryd.f59) (l := [.tmp 2]) (envL [(60, inS)]) [0, 2] [] [] (envL_cons (within_ctr h) (env0 h.hP)) ?_ (by rw [h.hP]; exact Tryd.func59) rfl (by kernel_rfl) rfl ?_ ?_
  · rw [h.hP]; exact ⟨_, Tryd.func59, by kernel_rfl, by kernel_rfl⟩
  · rintro xs ⟨n, rfl⟩; exact ⟨_, n, rfl, rfl⟩
  · rintro xs ⟨n, rfl⟩
    refine ⟨by rw [Tryd.ntmps59]; simp, ?_⟩
    simp only [go_sem, h.hP, inS_q, inS_p, inS_c, inS_f, chanS_q, chanS_p, chanS_c, chanS_f, Tryd.ntmps59, Nat.reduceEqDiff, reduceCtorEq, Nat.reduceMul, Nat.reduceAdd, Nat.reduceSub, Nat.reduceDiv, Nat.reduceMod, Nat.reduceLeDiff, Nat.reduceLT, Nat.reduceBNe, Nat.reduceBEq, reduceIte, Int.reduceLE, Int.reduceLT, Int.reduceToNat, Int.reduceNeg, Int.reduceAdd, Int.reduceSub, Int.reduceMul, Int.reduceEq]
def kindL : List Int := [0, 1, 2, 4, 3]
def kindS  : Spec where
  pre xs := ∃ (n : Int), xs = [.i n] ∧ (0 ≤ n ∧ n ≤ 4)
  post xs y := ∃ (n : Int), xs = [.i n] ∧ y = .i (kindL.getD n.toNat 0)
  cost _ := 0
  fresh := true
theorem kindS_c  (xs : List AV) : (kindS).cost xs = 0 := nr rfl
theorem kindS_f  : (kindS).fresh = true := nr rfl
theorem kindS_q  (n : Int) : (kindS).pre [.i n] = (0 ≤ n ∧ n ≤ 4) := propext ⟨fun h => by
  have h' : ∃ (n' : Int), ([.i n] : List AV) = [.i n'] ∧ (0 ≤ n' ∧ n' ≤ 4) := h
  obtain ⟨n', e, h⟩ := h'
  simp only [List.cons.injEq, AV.dv.injEq, AV.fv.injEq, DV.d.injEq, DV.ag.injEq, D.int.injEq, D.str.injEq, D.bool.injEq, D.sl.injEq, true_and, and_true, intsDi_inj, rowsT_inj, rowsKi_inj] at e
  obtain rfl := e
  exact h, fun h => ⟨n, rfl, h⟩⟩
theorem kindS_p  (n : Int) : (kindS).post [.i n] = fun y => y = .i (kindL.getD n.toNat 0) := funext fun y => propext ⟨fun h => by
  have h' : ∃ (n' : Int), ([.i n] : List AV) = [.i n'] ∧ y = .i (kindL.getD n'.toNat 0) := h
  obtain ⟨n', e, h⟩ := h'
  simp only [List.cons.injEq, AV.dv.injEq, AV.fv.injEq, DV.d.injEq, DV.ag.injEq, D.int.injEq, D.str.injEq, D.bool.injEq, D.sl.injEq, true_and, and_true, intsDi_inj, rowsT_inj, rowsKi_inj] at e
  obtain rfl := e
  exact h, fun h => ⟨n, rfl, h⟩⟩
theorem kindOf_ctr {cx : Cx} (h : Seat cx) : Ctr cx 65 kindS := by
  refine ctr_of (fn := Tryd.f65) (l := [.tmp 2]) (envL []) [0, 2] [] [] (env0 h.hP) ?_ (by rw [h.hP]; exact Tryd.func65) rfl (by kernel_rfl) rfl ?_ ?_
  · rw [h.hP]; exact ⟨_, Tryd.func65, by kernel_rfl, by kernel_rfl⟩
  · rintro xs ⟨n, rfl, h1, h2⟩; exact ⟨_, n, rfl, rfl⟩
  · rintro xs ⟨n, rfl, h1, h2⟩
    refine ⟨by rw [Tryd.ntmps65]; simp, ?_⟩
    simp only [go_sem, h.hP, kindS, show ([[D.int .i64 0], [D.int .i64 1], [D.int .i64 2], [D.int .i64 4], [D.int .i64 3]] : List (List D)) = rowsK .i64 kindL from rfl, rowsK_get, rowsK_len, Tryd.ntmps65, Nat.reduceEqDiff, reduceCtorEq, Nat.reduceMul, Nat.reduceAdd, Nat.reduceSub, Nat.reduceDiv, Nat.reduceMod, Nat.reduceLeDiff, Nat.reduceLT, Nat.reduceBNe, Nat.reduceBEq, reduceIte, Int.reduceLE, Int.reduceLT, Int.reduceToNat, Int.reduceNeg, Int.reduceAdd, Int.reduceSub, Int.reduceMul, Int.reduceEq]
    exact ⟨h1, by show n < ((5 : Nat) : Int); omega⟩
def isKindS : Spec where
  pre xs := ∃ n : Int, xs = [.i n]
  post xs r := ∃ (n k e : Int), xs = [.i n] ∧ (inB n 1 4 = true → k = kindL.getD n.toNat 0 ∧ e = 0) ∧ (inB n 1 4 = false → k = 0 ∧ e = 4) ∧ r = .tcons (.i k) (.tcons (.i e) .tnil)
  cost _ := 0
  fresh := true
theorem kindOf2_ctr {cx : Cx} (h : Seat cx) : Ctr cx 31 isKindS := by
  refine ctr_of (fn := Tryd.f31) (l := [.tmp 2, .tmp 3]) (envL [(59, chanS), (65, kindS)]) [0, 2, 3, 6] [] [] (envL_cons (isChannel_ctr h) (envL_cons (kindOf_ctr h) (env0 h.hP))) ?_ (by rw [h.hP]; exact Tryd.func31) rfl (by kernel_rfl) rfl ?_ ?_
  · rw [h.hP]; exact ⟨_, Tryd.func31, by kernel_rfl, by kernel_rfl⟩
  · rintro xs ⟨n, rfl⟩
    by_cases c : inB n 1 4 = true
    · exact ⟨_, n, _, _, rfl, fun _ => ⟨rfl, rfl⟩, (fun e => by rw [c] at e; cases e), rfl⟩
    · exact ⟨_, n, _, _, rfl, fun e => absurd e c, fun _ => ⟨rfl, rfl⟩, rfl⟩
  · rintro xs ⟨n, rfl⟩
    refine ⟨by rw [Tryd.ntmps31]; simp, ?_⟩
    simp only [go_sem, h.hP, kindS_q, kindS_p, kindS_c, kindS_f, chanS_q, chanS_p, chanS_c, chanS_f, isKindS, Tryd.ntmps31, Nat.reduceEqDiff, reduceCtorEq, Nat.reduceMul, Nat.reduceAdd, Nat.reduceSub, Nat.reduceDiv, Nat.reduceMod, Nat.reduceLeDiff, Nat.reduceLT, Nat.reduceBNe, Nat.reduceBEq, reduceIte, Int.reduceLE, Int.reduceLT, Int.reduceToNat, Int.reduceNeg, Int.reduceAdd, Int.reduceSub, Int.reduceMul, Int.reduceEq]
    refine ⟨fun c => ⟨0, 4, (fun e => by rw [c] at e; cases e), fun _ => ⟨rfl, rfl⟩, rfl, rfl⟩, fun c => ?_⟩
    have h2 : 1 ≤ n ∧ n ≤ 4 := of_decide_eq_true c
    exact ⟨by omega, by omega, _, 0, fun _ => ⟨rfl, rfl⟩, (fun e => by rw [c] at e; cases e), rfl, rfl⟩
def oddS : Spec where
  pre xs := ∃ lo hi : Int, xs = [.st, .i lo, .i hi] ∧ -1073741824 ≤ lo ∧ lo ≤ 1073741823 ∧ -1073741823 ≤ hi ∧ hi ≤ 1073741823
  post xs r := ∃ lo hi q : Int, xs = [.st, .i lo, .i hi] ∧ -1099511627776 ≤ q ∧ q ≤ 1099511627776 ∧ r = .i q
  cost _ := 2
  fresh := true
theorem odd_ctr {cx : Cx} (h : Seat cx) : Ctr cx 22 oddS := by
  refine ctr_of (fn := Tryd.f22) (l := [.tmp 6]) (envL [(7, flipS), (9, pickS), (56, rangeS)]) [0, 1, 2, 6, 8] [] [] (envL_cons (flip_ctr cx h.hP h.hS) (envL_cons (pick_ctr cx h.hP h.hS) (envL_cons (range_ctr cx h.hP h.hS) (env0 h.hP)))) ?_ (by rw [h.hP]; exact Tryd.func22) rfl (by kernel_rfl) rfl ?_ ?_
  · rw [h.hP]; exact ⟨_, Tryd.func22, by kernel_rfl, by kernel_rfl⟩
  · rintro xs ⟨lo, hi, rfl, h1, h2, h3, h4⟩; exact ⟨_, lo, hi, 0, rfl, by omega, by omega, rfl⟩
  · rintro xs ⟨lo, hi, rfl, h1, h2, h3, h4⟩
    refine ⟨by rw [Tryd.ntmps22]; simp, ?_⟩
    simp only [go_sem, h.hP, flipS, pickS, rangeS, oddS, show ∀ a b c d e f : Int, ([[D.int .i64 a], [D.int .i64 b], [D.int .i64 c], [D.int .i64 d], [D.int .i64 e], [D.int .i64 f]] : List (List D)) = intsD [a, b, c, d, e, f] from fun _ _ _ _ _ _ => rfl, (show ∀ l m : List Int, (intsD l = intsD m) = (l = m) from fun l m => propext rowsK_inj'), Tryd.ntmps22, Nat.reduceEqDiff, reduceCtorEq, Nat.reduceMul, Nat.reduceAdd, Nat.reduceSub, Nat.reduceDiv, Nat.reduceMod, Nat.reduceLeDiff, Nat.reduceLT, Nat.reduceBNe, Nat.reduceBEq, reduceIte, Int.reduceLE, Int.reduceLT, Int.reduceToNat, Int.reduceNeg, Int.reduceAdd, Int.reduceSub, Int.reduceMul, Int.reduceEq]
    rw [i64w (n := lo - 1) (by omega) (by omega), i64w (n := hi + 1) (by omega) (by omega)]
    refine fun a => ⟨fun _ x hx => ?_, fun _ => ⟨by omega, by omega, by omega, by omega, fun x a1 a2 a3 => ⟨x, by omega, ?_, rfl⟩⟩⟩
    · unfold isIn at hx
      simp only [List.mem_cons, List.not_mem_nil, or_false] at hx
      exact ⟨x, by omega, by omega, rfl⟩
    · by_cases c : lo ≤ hi
      · have := a2 c; omega
      · have := a3 (by omega); omega
def isOf (x : ByteArray) (l : List ByteArray) : Prop := x ∈ l
def oneS : Spec where
  pre xs := ∃ l : List ByteArray, xs = [.st, .sl (rowsT l)] ∧ l ≠ [] ∧ l.length ≤ 1073741824
  post xs r := ∃ (l : List ByteArray) (x : ByteArray), xs = [.st, .sl (rowsT l)] ∧ isOf x l ∧ r = .str x
  cost _ := 1
  fresh := true
theorem one_ctr {cx : Cx} (h : Seat cx) : Ctr cx 21 oneS := by
  refine ctr_of (fn := Tryd.f21) (l := [.tmp 4]) (envL [(8, nextS)]) [0, 1, 4] [] [] (envL_cons (next_ctr cx h.hP h.hS) (env0 h.hP)) ?_ (by rw [h.hP]; exact Tryd.func21) rfl (by kernel_rfl) rfl ?_ ?_
  · rw [h.hP]; exact ⟨_, Tryd.func21, by kernel_rfl, by kernel_rfl⟩
  · rintro xs ⟨l, rfl, h1, h2⟩
    exact (match l, h1 with | x :: t, _ => ⟨.str x, x :: t, x, rfl, List.mem_cons_self, rfl⟩)
  · rintro xs ⟨l, rfl, h1, h2⟩
    refine ⟨by rw [Tryd.ntmps21]; simp, ?_⟩
    simp only [go_sem, h.hP, nextS, oneS, rowsT_len, rowsT_get, rowsT_inj, Tryd.ntmps21, Nat.reduceEqDiff, reduceCtorEq, Nat.reduceMul, Nat.reduceAdd, Nat.reduceSub, Nat.reduceDiv, Nat.reduceMod, Nat.reduceLeDiff, Nat.reduceLT, Nat.reduceBNe, Nat.reduceBEq, reduceIte, Int.reduceLE, Int.reduceLT, Int.reduceToNat, Int.reduceNeg, Int.reduceAdd, Int.reduceSub, Int.reduceMul, Int.reduceEq]
    have hl := List.length_pos_iff.2 h1
    refine ⟨by omega, fun a e1 _ => ?_⟩
    have ha := e1 (by omega)
    refine ⟨ha.1, ha.2, ?_⟩
    rw [List.getD_eq_getElem?_getD, List.getElem?_eq_getElem (by omega)]
    exact List.getElem_mem _
/-! ### The stream's functions, as equations -/
theorem nextS_q (m : Int) : nextS.pre [.st, .i m] = (m ≤ 9223372036854775807) := propext ⟨fun ⟨m', e, h⟩ => by
  simp only [List.cons.injEq, AV.dv.injEq, DV.d.injEq, D.int.injEq, true_and, and_true] at e; subst e; exact h, fun h => ⟨m, rfl, h⟩⟩
theorem nextS_p (m : Int) : nextS.post [.st, .i m] = fun y => ∃ q : Int, (1 ≤ m → 0 ≤ q ∧ q < m) ∧ (m < 1 → q = 0) ∧ y = .i q := funext fun y => propext ⟨fun ⟨m', q, e, h⟩ => by
  simp only [List.cons.injEq, AV.dv.injEq, DV.d.injEq, D.int.injEq, true_and, and_true] at e; subst e; exact ⟨q, h⟩, fun ⟨q, h⟩ => ⟨m, q, rfl, h⟩⟩
theorem nextS_c (xs : List AV) : nextS.cost xs = 1 := nr rfl
theorem nextS_f : nextS.fresh = true := nr rfl
theorem flipS_q (m : Int) : flipS.pre [.st, .i m] = (m ≤ 9223372036854775807) := propext ⟨fun ⟨m', e, h⟩ => by
  simp only [List.cons.injEq, AV.dv.injEq, DV.d.injEq, D.int.injEq, true_and, and_true] at e; subst e; exact h, fun h => ⟨m, rfl, h⟩⟩
theorem flipS_p (m : Int) : flipS.post [.st, .i m] = fun y => ∃ b : Bool, y = .b b := funext fun y => propext ⟨fun ⟨m', q, e, h⟩ => ⟨q, h⟩, fun ⟨q, h⟩ => ⟨m, q, rfl, h⟩⟩
theorem flipS_c (xs : List AV) : flipS.cost xs = 1 := nr rfl
theorem flipS_f : flipS.fresh = true := nr rfl
theorem pickS_q (l : List Int) : pickS.pre [.st, .sl (intsD l)] = (l ≠ [] ∧ l.length ≤ 1073741824) := propext ⟨fun ⟨m', e, h⟩ => by
  simp only [List.cons.injEq, AV.dv.injEq, DV.d.injEq, D.sl.injEq, intsDi_inj, true_and, and_true] at e; subst e; exact h, fun h => ⟨l, rfl, h⟩⟩
theorem pickS_p (l : List Int) : pickS.post [.st, .sl (intsD l)] = fun y => ∃ x : Int, isIn x l ∧ y = .i x := funext fun y => propext ⟨fun ⟨m', q, e, h⟩ => by
  simp only [List.cons.injEq, AV.dv.injEq, DV.d.injEq, D.sl.injEq, intsDi_inj, true_and, and_true] at e; subst e; exact ⟨q, h⟩, fun ⟨q, h⟩ => ⟨l, q, rfl, h⟩⟩
theorem pickS_c (xs : List AV) : pickS.cost xs = 1 := nr rfl
theorem pickS_f : pickS.fresh = true := nr rfl
theorem oneS_q (l : List ByteArray) : oneS.pre [.st, .sl (rowsT l)] = (l ≠ [] ∧ l.length ≤ 1073741824) := propext ⟨fun ⟨m', e, h⟩ => by
  simp only [List.cons.injEq, AV.dv.injEq, DV.d.injEq, D.sl.injEq, rowsT_inj, true_and, and_true] at e; subst e; exact h, fun h => ⟨l, rfl, h⟩⟩
theorem oneS_p (l : List ByteArray) : oneS.post [.st, .sl (rowsT l)] = fun y => ∃ x : ByteArray, isOf x l ∧ y = .str x := funext fun y => propext ⟨fun ⟨m', q, e, h⟩ => by
  simp only [List.cons.injEq, AV.dv.injEq, DV.d.injEq, D.sl.injEq, rowsT_inj, true_and, and_true] at e; subst e; exact ⟨q, h⟩, fun ⟨q, h⟩ => ⟨l, q, rfl, h⟩⟩
theorem oneS_c (xs : List AV) : oneS.cost xs = 1 := nr rfl
theorem oneS_f : oneS.fresh = true := nr rfl
theorem rangeS_q (lo hi : Int) : rangeS.pre [.st, .i lo, .i hi] = (-1073741824 ≤ lo ∧ lo ≤ 1073741824 ∧ -1073741824 ≤ hi ∧ hi ≤ 1073741824) := propext ⟨fun ⟨a, b, e, h⟩ => by
  simp only [List.cons.injEq, AV.dv.injEq, DV.d.injEq, D.int.injEq, true_and, and_true] at e; obtain ⟨rfl, rfl⟩ := e; exact h, fun h => ⟨lo, hi, rfl, h⟩⟩
theorem rangeS_p (lo hi : Int) : rangeS.post [.st, .i lo, .i hi] = fun y => ∃ q : Int, lo ≤ q ∧ (lo ≤ hi → q ≤ hi) ∧ (hi < lo → q = lo) ∧ y = .i q := funext fun y => propext ⟨fun ⟨a, b, q, e, h⟩ => by
  simp only [List.cons.injEq, AV.dv.injEq, DV.d.injEq, D.int.injEq, true_and, and_true] at e; obtain ⟨rfl, rfl⟩ := e; exact ⟨q, h⟩, fun ⟨q, h⟩ => ⟨lo, hi, q, rfl, h⟩⟩
theorem rangeS_c (xs : List AV) : rangeS.cost xs = 1 := nr rfl
theorem rangeS_f : rangeS.fresh = true := nr rfl
theorem oddS_q (lo hi : Int) : oddS.pre [.st, .i lo, .i hi] = (-1073741824 ≤ lo ∧ lo ≤ 1073741823 ∧ -1073741823 ≤ hi ∧ hi ≤ 1073741823) := propext ⟨fun ⟨a, b, e, h⟩ => by
  simp only [List.cons.injEq, AV.dv.injEq, DV.d.injEq, D.int.injEq, true_and, and_true] at e; obtain ⟨rfl, rfl⟩ := e; exact h, fun h => ⟨lo, hi, rfl, h⟩⟩
theorem oddS_p (lo hi : Int) : oddS.post [.st, .i lo, .i hi] = fun y => ∃ q : Int, -1099511627776 ≤ q ∧ q ≤ 1099511627776 ∧ y = .i q := funext fun y => propext ⟨fun ⟨a, b, q, e, h⟩ => by
  simp only [List.cons.injEq, AV.dv.injEq, DV.d.injEq, D.int.injEq, true_and, and_true] at e; obtain ⟨rfl, rfl⟩ := e; exact ⟨q, h⟩, fun ⟨q, h⟩ => ⟨lo, hi, q, rfl, h⟩⟩
theorem oddS_c (xs : List AV) : oddS.cost xs = 2 := nr rfl
theorem oddS_f : oddS.fresh = true := nr rfl
end Go.Avc

/- The tables of unicode/utf8 and DecodeRuneInString; a text as its points. No condition. -/
set_option linter.unusedVariables false
set_option linter.unusedSimpArgs false
set_option maxRecDepth 100000
namespace Go.Avc
open Go Go.Proofs

/-- The tables of unicode/utf8 lie as they are laid. -/
def Utf8 (cx : Cx) : Prop := ∀ w, GlAt cx w → Lib.Utf8Tabs 1 2 w
def decS : Spec where
  pre xs := ∃ s : ByteArray, xs = [.str s]
  post xs r := ∃ s : ByteArray, xs = [.str s] ∧ r = .tcons (.dv (.d (.int .i32 (Lib.decodeGo s).1))) (.tcons (.i (Lib.decodeGo s).2) .tnil)
  cost _ := 0
  fresh := true
theorem dec_ctr {cx : Cx} (h : Seat cx) (hU : Utf8 cx) : Ctr cx 118 decS := by
  refine ctr_flat (by rw [h.hP]; exact ⟨_, Tryd.func118, by kernel_rfl, by kernel_rfl⟩) (fun _ => rfl) ?_
  rintro xs ⟨s, rfl⟩
  refine ⟨_, _, _, rfl, ⟨s, rfl, rfl⟩, rfl, fun w hw => ?_⟩
  rw [h.hP]
  exact Tryd.utf8_DecodeRuneInString s w (hU w hw)

theorem spl_one (x y : D) : spl [x] 0 [y] = [y] := rfl

/-- How many bytes the first code point takes. -/
def wid (s : ByteArray) : Nat := (Lib.decodeGo s).2
def ptOf (s : ByteArray) : Int := if ((Lib.decodeGo s).1 : Int) = 65533 ∧ ((Lib.decodeGo s).2 : Int) = 1 then -1 - bt s 0 else ((Lib.decodeGo s).1 : Int)
def ptsL : Nat → ByteArray → List Int
  | 0, _ => []
  | k + 1, s => if s.size = 0 then [] else ptOf s :: ptsL k (s.extract (wid s) s.size)
/-- The code points of a string; a byte that is none is below 0. -/
def pts (s : ByteArray) : List Int := ptsL s.size s
theorem i32w {n : Int} (h1 : -2147483648 ≤ n) (h2 : n ≤ 2147483647) : IntKind.i32.wrap n = n := IntWalk.i32_in _ ⟨h1, h2⟩
theorem decodeN_w (n b0 b1 b2 b3 : Nat) (hn : 1 ≤ n) (hb : b0 < 256) : 1 ≤ (Lib.decodeN n b0 b1 b2 b3).2 ∧ (Lib.decodeN n b0 b1 b2 b3).2 ≤ n ∧ (Lib.decodeN n b0 b1 b2 b3).1 ≤ 1114111 := by
  unfold Lib.decodeN
  repeat' split
  all_goals (simp only; omega)
theorem wid_ge {s : ByteArray} (h : s.size ≠ 0) : 1 ≤ wid s ∧ wid s ≤ s.size ∧ (Lib.decodeGo s).1 ≤ 1114111 := by
  unfold wid Lib.decodeGo
  rw [if_neg h, Lib.decode_at]
  exact decodeN_w _ _ _ _ _ (by omega) (UInt8.toNat_lt _)
theorem ptsL_step {s : ByteArray} {k : Nat} (h : s.size ≠ 0) (hk : s.size ≤ k) : ∃ k', k = k' + 1 ∧ ptsL k s = ptOf s :: ptsL k' (s.extract (wid s) s.size) := by
  obtain ⟨k', rfl⟩ : ∃ k', k = k' + 1 := ⟨k - 1, by omega⟩
  exact ⟨k', rfl, by conv => lhs; unfold ptsL
                     rw [if_neg h]⟩
theorem ptsL_nil {s : ByteArray} (h : s.size = 0) (k : Nat) : ptsL k s = [] := by
  cases k with
  | zero => rfl
  | succ k => unfold ptsL; rw [if_pos h]
theorem ptsL_len : ∀ (k : Nat) (s : ByteArray), (ptsL k s).length ≤ s.size
  | 0, s => Nat.zero_le _
  | k + 1, s => by
    unfold ptsL
    split
    · exact Nat.zero_le _
    · rename_i h
      have h1 := wid_ge h
      have h2 := ptsL_len k (s.extract (wid s) s.size)
      rw [ByteArray.size_extract] at h2
      rw [List.length_cons]
      omega
end Go.Avc

/- Loops that look for the first error, and what the generators' lists hold: plain law. No condition. -/
set_option linter.unusedVariables false
set_option linter.unusedSimpArgs false
namespace Go.Avc
open Go Go.Proofs

/-- The first of some errors. -/
def firstI (n : Nat) (f : Nat → Int) : Int := match (List.range n).find? (fun i => decide (f i ≠ 0)) with
  | some i => f i
  | none => 0
theorem firstI_no {n : Nat} {f : Nat → Int} {i : Int} (h : ∀ j : Nat, (j : Int) < i → f j = 0) (hi : n ≤ i) : firstI n f = 0 := by
  unfold firstI
  rw [List.find?_eq_none.2]
  intro x hx
  simp [h x (by have := List.mem_range.1 hx; omega)]
theorem firstI_at {n : Nat} {f : Nat → Int} {i : Int} (h0 : 0 ≤ i) (h1 : i < n) (h : ∀ j : Nat, (j : Int) < i → f j = 0) (hf : f i.toNat ≠ 0) : firstI n f = f i.toNat := by
  unfold firstI
  obtain ⟨k, rfl⟩ : ∃ k : Nat, i = k := ⟨i.toNat, by omega⟩
  rw [Int.toNat_natCast] at hf ⊢
  have : (List.range n).find? (fun i => decide (f i ≠ 0)) = some k := by
    rw [List.find?_range_eq_some]
    refine ⟨by simpa using hf, List.mem_range.2 (by omega), fun j hj => by simp [h j (by omega)]⟩
  rw [this]
/-- The rounds of a loop that looks for the first error. -/
def Rounds (n : Nat) (f : Nat → Int) (i : Int) : Prop := 0 ≤ i ∧ i ≤ n ∧ ∀ j : Nat, (j : Int) < i → f j = 0
theorem Rounds.start {n : Nat} {f : Nat → Int} : Rounds n f 0 := ⟨by decide, Int.natCast_nonneg _, fun j hj => by omega⟩
theorem Rounds.use {n : Nat} {f : Nat → Int} {i : Int} (h : Rounds n f i) (hn : n ≤ 4611686018427387904) :
    0 ≤ i ∧ (i < n → f i.toNat = 0 → Rounds n f (IntKind.i64.wrap (i + 1))) ∧ (i < n → ((n : Int) - IntKind.i64.wrap (i + 1)).toNat < ((n : Int) - i).toNat) ∧
    (∀ e, i < n → f i.toNat = e → e ≠ 0 → firstI n f = e) ∧ (¬ i < n → firstI n f = 0) := by
  obtain ⟨j1, j2, j3⟩ := h
  refine ⟨j1, fun c hf => ?_, fun c => by rw [i64w (by omega) (by omega)]; omega, fun e c hf he => by subst hf; exact firstI_at j1 c j3 he, fun c => firstI_no j3 (by omega)⟩
  rw [i64w (by omega) (by omega)]
  refine ⟨by omega, by omega, fun j hj => ?_⟩
  by_cases e : (j : Int) = i
  · rw [← e, Int.toNat_natCast] at hf; exact hf
  · exact j3 j (by omega)
theorem any_first {α : Type} (l : List α) (d : α) (q : α → Bool) {e : Int} (he : e ≠ 0) : firstI l.length (fun i => if q (l.getD i d) = true then e else 0) = if l.any q = true then e else 0 := by
  by_cases h : l.any q = true
  · rw [if_pos h]
    have hne : ∃ i, i < l.length ∧ q (l.getD i d) = true := by
      obtain ⟨x, hx, hq⟩ := List.any_eq_true.1 h
      obtain ⟨i, hi, rfl⟩ := List.mem_iff_getElem.1 hx
      exact ⟨i, hi, by rw [List.getD_eq_getElem?_getD, List.getElem?_eq_getElem hi]; exact hq⟩
    unfold firstI
    cases hf : (List.range l.length).find? (fun i => decide ((if q (l.getD i d) = true then e else 0) ≠ 0)) with
    | none =>
      obtain ⟨i, hi, hq⟩ := hne
      have := List.find?_eq_none.1 hf i (List.mem_range.2 hi)
      simp only [decide_eq_true_eq] at this
      rw [if_pos hq] at this
      exact absurd he this
    | some i =>
      have := List.find?_some hf
      simp only [decide_eq_true_eq] at this
      split at this
      · rename_i hq; simp only [hq, if_true]
      · exact absurd rfl this
  · rw [if_neg h]
    refine firstI_no (i := l.length) (fun j hj => ?_) (by omega)
    rw [if_neg]
    intro hq
    have hj' : j < l.length := by omega
    rw [List.getD_eq_getElem?_getD, List.getElem?_eq_getElem hj'] at hq
    exact h (List.any_eq_true.2 ⟨_, List.getElem_mem hj', hq⟩)
theorem inB_iff {n lo hi : Int} : inB n lo hi = true ↔ lo ≤ n ∧ n ≤ hi := by unfold inB; exact decide_eq_true_iff
theorem okL_get {α : Type} {p : α → Prop} {l : List α} {d : α} (h : okL p l) (hd : p d) (i : Nat) : p (l.getD i d) := by
  rw [List.getD_eq_getElem?_getD]
  cases e : l[i]? with
  | none => exact hd
  | some x => exact h.2 x (List.mem_of_getElem? e)
theorem ne_ft {b : Bool} (h : b = true) : ¬ b = false := fun e => by rw [h] at e; cases e
theorem ne_tf {b : Bool} (h : b = false) : ¬ b = true := fun e => by rw [h] at e; cases e
def orE (a b : Int) : Int := if a ≠ 0 then a else b
theorem orE_l {a b : Int} (h : a ≠ 0) : orE a b = a := if_pos h
theorem orE_r {a b : Int} (h : a = 0) : orE a b = b := if_neg (fun e => e h)
theorem firstI_zero {n : Nat} {f : Nat → Int} (h : firstI n f = 0) (i : Nat) (hi : i < n) : f i = 0 := by
  unfold firstI at h
  cases hf : (List.range n).find? (fun i => decide (f i ≠ 0)) with
  | none =>
    have := List.find?_eq_none.1 hf i (List.mem_range.2 hi)
    simpa using this
  | some k =>
    rw [hf] at h
    have := List.find?_some hf
    simp only [decide_eq_true_eq] at this
    exact absurd h this
theorem orE_zero {a b : Int} (h : orE a b = 0) : a = 0 ∧ b = 0 := by
  unfold orE at h
  split at h
  · rename_i c; exact absurd h c
  · rename_i c; exact ⟨Decidable.not_not.1 c, h⟩
theorem isIn_le {x : Int} {l : List Int} (h : isIn x l) {b : Int} (hb : l.all (fun y => decide (-b ≤ y ∧ y ≤ b)) = true) : -b ≤ x ∧ x ≤ b := by
  have := List.all_eq_true.1 hb x h
  simpa using this
theorem isOf_ok {x : ByteArray} {l : List ByteArray} (h : isOf x l) (hb : l.all (fun y => decide (y.size ≤ 1000)) = true) : x.size ≤ 1000 := by
  have := List.all_eq_true.1 hb x h
  simpa using this
theorem okI_of {x : Int} {b : Int} (h : -b ≤ x ∧ x ≤ b) (hb : b ≤ 1125899906842624) : okI x := ⟨by omega, by omega⟩
theorem isIn_ok {x : Int} {l : List Int} (h : isIn x l) (hb : l.all (fun y => decide (-1125899906842624 ≤ y ∧ y ≤ 1125899906842624)) = true) : okI x := isIn_le h hb
theorem okL_app {α : Type} {p : α → Prop} {l : List α} {x : α} (h : ∀ y ∈ l, p y) (hx : p x) : ∀ y ∈ l ++ [x], p y := fun y hy => by
  rcases List.mem_append.1 hy with hy | hy
  · exact h y hy
  · rw [List.mem_singleton] at hy; rw [hy]; exact hx
theorem okL_mem {α : Type} {p : α → Prop} {l : List α} {x y : α} (hm : y ∈ l ++ [x]) (h : ∀ y ∈ l, p y) (hx : p x) : p y := okL_app h hx y hm
theorem okL_one {α : Type} {p : α → Prop} {x : α} (hx : p x) : okL p [x] := ⟨by simp, fun y hy => by rw [List.mem_singleton] at hy; rw [hy]; exact hx⟩
theorem okS_of {s : ByteArray} (h : s.size ≤ 1000) : okS s := by unfold okS; omega
theorem odd_ok {q : Int} (h1 : -1099511627776 ≤ q) (h2 : q ≤ 1099511627776) : okI q := ⟨by omega, by omega⟩
theorem all_get {α : Type} {p : α → Prop} {l : List α} {d : α} (h : ∀ x ∈ l, p x) (hd : p d) (i : Nat) : p (l.getD i d) := by
  rw [List.getD_eq_getElem?_getD]
  cases e : l[i]? with
  | none => exact hd
  | some x => exact h x (List.mem_of_getElem? e)
def okIB (l : List Int) : Bool := decide (l.length ≤ 1048576) && l.all fun y => decide (-1125899906842624 ≤ y ∧ y ≤ 1125899906842624)
theorem okLI_of {l : List Int} (h : okIB l = true) : okL okI l := by
  unfold okIB at h
  rw [Bool.and_eq_true, decide_eq_true_eq, List.all_eq_true] at h
  exact ⟨h.1, fun x hx => by have := h.2 x hx; unfold okI; simpa using this⟩
def okSB (l : List ByteArray) : Bool := decide (l.length ≤ 1048576) && l.all fun y => decide (y.size ≤ 1000)
theorem okLS_of {l : List ByteArray} (h : okSB l = true) : okL okS l := by
  unfold okSB at h
  rw [Bool.and_eq_true, decide_eq_true_eq, List.all_eq_true] at h
  exact ⟨h.1, fun x hx => okS_of (by simpa using h.2 x hx)⟩
theorem okLI_lit {ls : List (List Int)} (h : ls.all okIB = true) (i : Nat) : okL okI (ls.getD i []) := all_get (p := okL okI) (fun x hx => okLI_of (List.all_eq_true.1 h x hx)) (okL_z _) i
theorem okLS_lit {ls : List (List ByteArray)} (h : ls.all okSB = true) (i : Nat) : okL okS (ls.getD i []) := all_get (p := okL okS) (fun x hx => okLS_of (List.all_eq_true.1 h x hx)) (okL_z _) i
theorem okL_snoc {α : Type} {p : α → Prop} {l : List α} {x : α} (h : ∀ y ∈ l, p y) (hl : (l.length : Int) ≤ 1000) (hx : p x) : okL p (l ++ [x]) := ⟨by rw [List.length_append, List.length_singleton]; omega, okL_app h hx⟩
end Go.Avc

/- Keys by the reference: strings.Trim at a cutset of ASCII bytes. No condition. -/
set_option linter.unusedVariables false
set_option linter.unusedSimpArgs false
set_option maxRecDepth 100000
namespace Go.Avc
open Go Go.Proofs

def asciiB (c : ByteArray) : Bool := c.data.toList.all fun b => decide (b.toNat < 128)
def trimF (s c : ByteArray) : ByteArray := ⟨(Lib.trimS s.data.toList c.data.toList).toArray⟩
def trimSp  : Spec where
  pre xs := ∃ (s : ByteArray) (c : ByteArray), xs = [.str s, .str c] ∧ (s.size ≤ 4611686018427387904 ∧ c.size ≤ 1000000 ∧ asciiB c = true)
  post xs y := ∃ (s : ByteArray) (c : ByteArray), xs = [.str s, .str c] ∧ y = .str (trimF s c)
  cost _ := 0
  fresh := true
theorem trimSp_c  (xs : List AV) : (trimSp).cost xs = 0 := nr rfl
theorem trimSp_f  : (trimSp).fresh = true := nr rfl
theorem trimSp_q  (s : ByteArray) (c : ByteArray) : (trimSp).pre [.str s, .str c] = (s.size ≤ 4611686018427387904 ∧ c.size ≤ 1000000 ∧ asciiB c = true) := propext ⟨fun h => by
  have h' : ∃ (s' : ByteArray) (c' : ByteArray), ([.str s, .str c] : List AV) = [.str s', .str c'] ∧ (s'.size ≤ 4611686018427387904 ∧ c'.size ≤ 1000000 ∧ asciiB c' = true) := h
  obtain ⟨s', c', e, h⟩ := h'
  simp only [List.cons.injEq, AV.dv.injEq, AV.fv.injEq, DV.d.injEq, DV.ag.injEq, D.int.injEq, D.str.injEq, D.bool.injEq, D.sl.injEq, true_and, and_true, intsDi_inj, rowsT_inj, rowsKi_inj] at e
  obtain ⟨rfl, rfl⟩ := e
  exact h, fun h => ⟨s, c, rfl, h⟩⟩
theorem trimSp_p  (s : ByteArray) (c : ByteArray) : (trimSp).post [.str s, .str c] = fun y => y = .str (trimF s c) := funext fun y => propext ⟨fun h => by
  have h' : ∃ (s' : ByteArray) (c' : ByteArray), ([.str s, .str c] : List AV) = [.str s', .str c'] ∧ y = .str (trimF s' c') := h
  obtain ⟨s', c', e, h⟩ := h'
  simp only [List.cons.injEq, AV.dv.injEq, AV.fv.injEq, DV.d.injEq, DV.ag.injEq, D.int.injEq, D.str.injEq, D.bool.injEq, D.sl.injEq, true_and, and_true, intsDi_inj, rowsT_inj, rowsKi_inj] at e
  obtain ⟨rfl, rfl⟩ := e
  exact h, fun h => ⟨s, c, rfl, h⟩⟩
theorem trim_ctr {cx : Cx} (h : Seat cx) : Ctr cx 40 trimSp := by
  refine ctr_flat (by rw [h.hP]; exact ⟨_, Tryd.func40, by kernel_rfl, by kernel_rfl⟩) (fun _ => rfl) ?_
  rintro xs ⟨s, c, rfl, h1, h2, h3⟩
  refine ⟨_, _, _, rfl, ⟨s, c, rfl, rfl⟩, rfl, fun w hw => ?_⟩
  rw [h.hP]
  exact Tryd.strings_Trim_ascii s c w (by omega) (by omega) (ascii_of_all h3)
def onlyB (s c : ByteArray) : Bool := s.data.toList.all fun b => c.data.toList.contains b
theorem drop_nil_of {α : Type} {p : α → Bool} : ∀ {l : List α}, l.dropWhile p = [] ↔ l.all p = true
  | [] => by simp
  | x :: l => by
    cases h : p x with
    | true => rw [List.dropWhile_cons_of_pos h, List.all_cons, h, Bool.true_and]; exact drop_nil_of
    | false => rw [List.dropWhile_cons_of_neg (by simp [h]), List.all_cons, h]; simp
theorem drop_head {α : Type} {p : α → Bool} : ∀ {l : List α} {x : α} {r : List α}, l.dropWhile p = x :: r → p x = false
  | [], x, r, h => by simp at h
  | y :: l, x, r, h => by
    cases hy : p y with
    | true => rw [List.dropWhile_cons_of_pos hy] at h; exact drop_head h
    | false => rw [List.dropWhile_cons_of_neg (by simp [hy])] at h; cases h; exact hy
theorem trim_nil (s c : ByteArray) : ((trimF s c).size = 0) = (onlyB s c = true) := by
  apply propext
  unfold trimF onlyB Lib.trimS Lib.trimLeftS Lib.trimRightS
  show (List.toArray _).size = 0 ↔ _
  rw [List.size_toArray, List.length_eq_zero_iff, drop_nil_of, List.all_reverse]
  generalize hp : (fun b : UInt8 => c.data.toList.contains b) = p
  constructor
  · intro h
    have : s.data.toList.reverse.dropWhile p = [] := by
      cases e : s.data.toList.reverse.dropWhile p with
      | nil => rfl
      | cons x r =>
        have h1 := drop_head e
        rw [e] at h
        rw [List.all_cons, h1] at h
        cases h
    rw [drop_nil_of, List.all_reverse] at this
    exact this
  · intro h
    have : s.data.toList.reverse.dropWhile p = [] := by rw [drop_nil_of, List.all_reverse]; exact h
    rw [this]; rfl
def onlyS  : Spec where
  pre xs := ∃ (s : ByteArray) (c : ByteArray), xs = [.str s, .str c] ∧ (s.size ≤ 4611686018427387904 ∧ c.size ≤ 1000000 ∧ asciiB c = true)
  post xs y := ∃ (s : ByteArray) (c : ByteArray), xs = [.str s, .str c] ∧ y = .b (onlyB s c)
  cost _ := 0
  fresh := true
theorem onlyS_c  (xs : List AV) : (onlyS).cost xs = 0 := nr rfl
theorem onlyS_f  : (onlyS).fresh = true := nr rfl
theorem onlyS_q  (s : ByteArray) (c : ByteArray) : (onlyS).pre [.str s, .str c] = (s.size ≤ 4611686018427387904 ∧ c.size ≤ 1000000 ∧ asciiB c = true) := propext ⟨fun h => by
  have h' : ∃ (s' : ByteArray) (c' : ByteArray), ([.str s, .str c] : List AV) = [.str s', .str c'] ∧ (s'.size ≤ 4611686018427387904 ∧ c'.size ≤ 1000000 ∧ asciiB c' = true) := h
  obtain ⟨s', c', e, h⟩ := h'
  simp only [List.cons.injEq, AV.dv.injEq, AV.fv.injEq, DV.d.injEq, DV.ag.injEq, D.int.injEq, D.str.injEq, D.bool.injEq, D.sl.injEq, true_and, and_true, intsDi_inj, rowsT_inj, rowsKi_inj] at e
  obtain ⟨rfl, rfl⟩ := e
  exact h, fun h => ⟨s, c, rfl, h⟩⟩
theorem onlyS_p  (s : ByteArray) (c : ByteArray) : (onlyS).post [.str s, .str c] = fun y => y = .b (onlyB s c) := funext fun y => propext ⟨fun h => by
  have h' : ∃ (s' : ByteArray) (c' : ByteArray), ([.str s, .str c] : List AV) = [.str s', .str c'] ∧ y = .b (onlyB s' c') := h
  obtain ⟨s', c', e, h⟩ := h'
  simp only [List.cons.injEq, AV.dv.injEq, AV.fv.injEq, DV.d.injEq, DV.ag.injEq, D.int.injEq, D.str.injEq, D.bool.injEq, D.sl.injEq, true_and, and_true, intsDi_inj, rowsT_inj, rowsKi_inj] at e
  obtain ⟨rfl, rfl⟩ := e
  exact h, fun h => ⟨s, c, rfl, h⟩⟩
theorem only_ctr {cx : Cx} (h : Seat cx) : Ctr cx 47 onlyS := by
  refine ctr_of (fn := Tryd.f47) (l := [.tmp 4]) (envL [(40, trimSp)]) [0, 1, 4] [] [] (envL_cons (trim_ctr h) (env0 h.hP)) ?_ (by rw [h.hP]; exact Tryd.func47) rfl (by kernel_rfl) rfl ?_ ?_
  · rw [h.hP]; exact ⟨_, Tryd.func47, by kernel_rfl, by kernel_rfl⟩
  · rintro xs ⟨s, c, rfl, h1, h2, h3⟩; exact ⟨_, s, c, rfl, rfl⟩
  · rintro xs ⟨s, c, rfl, h1, h2, h3⟩
    refine ⟨by rw [Tryd.ntmps47]; simp, ?_⟩
    simp only [go_sem, h.hP, List.cons_append, List.nil_append, Meets_e, Below_e, Prod.exists, exists_eq, exists_eq_left, exists_eq_left', exists_eq_right, exists_eq_right', exists_and_left, exists_and_right, Ob.arr.injEq, AV.own.injEq, AV.fv.injEq, onlyS_q, onlyS_p, onlyS_c, onlyS_f, trimSp_q, trimSp_p, trimSp_c, trimSp_f, str_nil, trim_nil, Tryd.ntmps47, Nat.reduceEqDiff, reduceCtorEq, Nat.reduceMul, Nat.reduceAdd, Nat.reduceSub, Nat.reduceDiv, Nat.reduceMod, Nat.reduceLeDiff, Nat.reduceLT, Nat.reduceBNe, Nat.reduceBEq, reduceIte, Int.reduceLE, Int.reduceLT, Int.reduceToNat, Int.reduceNeg, Int.reduceAdd, Int.reduceSub, Int.reduceMul, Int.reduceEq]
    exact ⟨h1, h2, h3, by cases onlyB s c <;> rfl⟩
theorem u8_all {p : UInt8 → Bool} (h : ((List.range 256).all fun n => p (UInt8.ofNat n)) = true) (c : UInt8) : p c = true := by
  rw [List.all_eq_true] at h
  have := h c.toNat (List.mem_range.2 (UInt8.toNat_lt c))
  rwa [UInt8.ofNat_toNat] at this
theorem u8_same {p q : UInt8 → Bool} (h : ((List.range 256).all fun n => p (UInt8.ofNat n) == q (UInt8.ofNat n)) = true) (c : UInt8) : p c = q c := by
  have := u8_all (p := fun c => p c == q c) h c
  simpa using this
theorem bl_all (s : ByteArray) (p : Int → Bool) : (bl s).all p = s.data.toList.all fun c => p (c.toNat : Int) := by
  unfold bl
  rw [List.all_map]; rfl
theorem only_all {c : ByteArray} {p : Int → Bool} (h : ((List.range 256).all fun n => c.data.toList.contains (UInt8.ofNat n) == p (((UInt8.ofNat n).toNat : Nat) : Int)) = true) (s : ByteArray) : onlyB s c = (bl s).all p := by
  rw [bl_all]
  unfold onlyB
  rw [funext (u8_same (p := fun b => c.data.toList.contains b) (q := fun b => p (b.toNat : Int)) h)]
theorem Key_ctr {cx : Cx} (h : Seat cx) : Ctr cx 28 (strB keyB) := by
  refine ctr_of (fn := Tryd.f28) (l := [.tmp 2]) (envL [(27, inS), (47, onlyS)]) [0, 2] [] [] (envL_cons (in_ctr h) (envL_cons (only_ctr h) (env0 h.hP))) ?_ (by rw [h.hP]; exact Tryd.func28) rfl (by kernel_rfl) rfl ?_ ?_
  · rw [h.hP]; exact ⟨_, Tryd.func28, by kernel_rfl, by kernel_rfl⟩
  · rintro xs ⟨s, rfl, hs⟩; exact ⟨_, s, rfl, rfl⟩
  · rintro xs ⟨s, rfl, hs⟩
    refine ⟨by rw [Tryd.ntmps28]; simp, ?_⟩
    simp only [go_sem, h.hP, List.cons_append, List.nil_append, Meets_e, Below_e, Prod.exists, exists_eq, exists_eq_left, exists_eq_left', exists_eq_right, exists_eq_right', exists_and_left, exists_and_right, Ob.arr.injEq, AV.own.injEq, AV.fv.injEq, strB_q, strB_p, strB_c, strB_f, inS_q, inS_p, inS_c, inS_f, onlyS_q, onlyS_p, onlyS_c, onlyS_f, Tryd.ntmps28, Nat.reduceEqDiff, reduceCtorEq, Nat.reduceMul, Nat.reduceAdd, Nat.reduceSub, Nat.reduceDiv, Nat.reduceMod, Nat.reduceLeDiff, Nat.reduceLT, Nat.reduceBNe, Nat.reduceBEq, reduceIte, Int.reduceLE, Int.reduceLT, Int.reduceToNat, Int.reduceNeg, Int.reduceAdd, Int.reduceSub, Int.reduceMul, Int.reduceEq]
    have e1 := only_all (c := ⟨#[97, 98, 99, 100, 101, 102, 103, 104, 105, 106, 107, 108, 109, 110, 111, 112, 113, 114, 115, 116, 117, 118, 119, 120, 121, 122]⟩) (p := smallC) (by decide +kernel) (s.extract 0 1)
    have e2 := only_all (c := ⟨#[97, 98, 99, 100, 101, 102, 103, 104, 105, 106, 107, 108, 109, 110, 111, 112, 113, 114, 115, 116, 117, 118, 119, 120, 121, 122, 48, 49, 50, 51, 52, 53, 54, 55, 56, 57, 45, 95]⟩) (p := keyC) (by decide +kernel) s
    have hx : (s.extract 0 1).size ≤ s.size := by rw [ByteArray.size_extract]; omega
    have e3 : 1 ≤ s.size → (bl (s.extract 0 1)).all smallC = smallC (bt s 0) := fun h1 => by
      have : bl (s.extract 0 1) = [bt s 0] := by
        have h2 : s.data.toList ≠ [] := fun e => by rw [← bl_length] at h1; unfold bl at h1; rw [e] at h1; simp at h1
        cases hd : s.data.toList with
        | nil => exact absurd hd h2
        | cons x r =>
          unfold bl bt
          rw [ByteArray.data_extract, Array.toList_extract, hd]
          simp
      rw [this]; simp
    rw [e1, e2]
    unfold keyB
    refine ⟨fun c1 => ?_, fun c1 => by rw [c1]; rfl⟩
    have h1 : 1 ≤ s.size := by unfold inB at c1; rw [decide_eq_true_eq] at c1; omega
    rw [c1, e3 h1]
    refine ⟨by omega, by omega, by decide +kernel, fun c2 => ⟨hs, by decide +kernel, by rw [c2]; rfl⟩, fun c2 => by rw [c2]; rfl⟩
end Go.Avc

/- The generator of sending rules: its contract. No condition. -/
set_option linter.unusedVariables false
set_option linter.unusedSimpArgs false
set_option maxRecDepth 100000
namespace Go.Avc
open Go Go.Proofs

theorem enc4 (n : Int) : (Utf8.encode n).size ≤ 4 := by
  unfold Utf8.encode
  simp only
  generalize (if Utf8.valid n = true then n.toNat else Utf8.runeError) = c
  split
  · exact (by decide : (1 : Nat) ≤ 4)
  · split
    · exact (by decide : (2 : Nat) ≤ 4)
    · split
      · exact (by decide : (3 : Nat) ≤ 4)
      · exact (by decide : (4 : Nat) ≤ 4)
def rulesG : Spec where
  pre xs := xs = [.st]
  post xs y := ∃ r : TSendRules, r.ok ∧ y = .dv (.ag r.row)
  cost _ := 1000
  fresh := false
set_option maxHeartbeats 16000000 in
theorem SendRules_ctr {cx : Cx} (h : Seat cx) : Ctr cx 5 rulesG := by
  refine ctr_of (fn := Tryd.f5) (l := [.cell 2 30]) (envL [(8, nextS), (9, pickS), (7, flipS), (21, oneS), (22, oddS)]) [0, 2, 3, 4, 5, 30, 31, 32, 54, 55, 56, 78, 79, 80, 99, 100, 101, 112, 114, 115, 116, 123, 137, 147, 164, 184] [14, 36] [(1, [22], [])] (envL_cons (next_ctr cx h.hP h.hS) (envL_cons (pick_ctr cx h.hP h.hS) (envL_cons (flip_ctr cx h.hP h.hS) (envL_cons (one_ctr h) (envL_cons (odd_ctr h) (env0 h.hP)))))) ?_ (by rw [h.hP]; exact Tryd.func5) rfl (by kernel_rfl) rfl ?_ ?_
  · rw [h.hP]; exact ⟨_, Tryd.func5, by kernel_rfl, by kernel_rfl⟩
  · rintro xs rfl; exact ⟨_, TSendRules.z, TSendRules.z_ok, rfl⟩
  · rintro xs rfl
    refine ⟨by rw [Tryd.ntmps5]; simp, ?_⟩
    simp only [go_sem, h.hP, List.cons_append, List.nil_append, Meets_e, Below_e, Prod.exists, exists_eq, exists_eq_left, exists_eq_left', exists_eq_right, exists_eq_right', exists_and_left, exists_and_right, Ob.arr.injEq, AV.own.injEq, AV.fv.injEq, rulesG, nextS_q, nextS_p, nextS_c, nextS_f, pickS_q, pickS_p, pickS_c, pickS_f, ints1, intsc, strs1, strsc, intsDi_inj, rowsT_inj, LI_1, LI_c, LI_n, LT_1, LT_c, LT_n, rowsLI_len, rowsLI_get, rowsLT_len, rowsLT_get, Tryd.ntmps5, Nat.reduceEqDiff, reduceCtorEq, Nat.reduceMul, Nat.reduceAdd, Nat.reduceSub, Nat.reduceDiv, Nat.reduceMod, Nat.reduceLeDiff, Nat.reduceLT, Nat.reduceBNe, Nat.reduceBEq, reduceIte, Int.reduceLE, Int.reduceLT, Int.reduceToNat, Int.reduceNeg, Int.reduceAdd, Int.reduceSub, Int.reduceMul, Int.reduceEq]
    intro a _ h1
    rename_i h0
    refine ⟨h0, h1, fun a1 ha1 a2 ha2 a3 h20 h2 => ⟨h20, h2, fun n hn => ?_⟩⟩
    have hn2 := isIn_le hn (b := 2) (by decide)
    have hq0 : okL okI ([[], [1], [1, 2], [1, 2, 3, 4]].getD a.toNat []) := okLI_lit (by decide) _
    have hq3 : okL okS ([[], [⟨#[115, 97, 108, 101]⟩], [⟨#[110, 101, 119, 115]⟩, ⟨#[98, 105, 108, 108]⟩]].getD a3.toNat []) := okLS_lit (by decide) _
    generalize ([[], [1], [1, 2], [1, 2, 3, 4]] : List (List Int)).getD a.toNat [] = q0 at hq0
    generalize ([[], [⟨#[115, 97, 108, 101]⟩], [⟨#[110, 101, 119, 115]⟩, ⟨#[98, 105, 108, 108]⟩]] : List (List ByteArray)).getD a3.toNat [] = q3 at hq3
    refine vc_loopS (Int × List TCap) (fun (x : Int × List TCap) => match x with | (i, l) => [(31, .i i)]) [2, 3] (fun (x : Int × List TCap) => match x with | (i, l) => [(3, 4, .own 10304)]) (fun (x : Int × List TCap) => match x with | (i, l) => [(10304, .arr 60 4 (TCap.rows l))]) (fun (x : Int × List TCap) => match x with | (i, l) => 5 + 4 * i.toNat) (fun (x : Int × List TCap) => match x with | (i, l) => 0 ≤ i ∧ i ≤ 2 ∧ (l.length : Int) ≤ i ∧ ∀ c ∈ l, c.ok) (fun (x : Int × List TCap) => match x with | (i, l) => (2 - i).toNat) [(10304, 60, 4)] ?_ ?_
    · simp only [go_sem, h.hP, List.cons_append, List.nil_append, Meets_e, Below_e, Prod.exists, exists_eq, exists_eq_left, exists_eq_left', exists_eq_right, exists_eq_right', exists_and_left, exists_and_right, Ob.arr.injEq, AV.own.injEq, AV.fv.injEq, TCap.nil2, Tryd.ntmps5, Nat.reduceEqDiff, reduceCtorEq, Nat.reduceMul, Nat.reduceAdd, Nat.reduceSub, Nat.reduceDiv, Nat.reduceMod, Nat.reduceLeDiff, Nat.reduceLT, Nat.reduceBNe, Nat.reduceBEq, reduceIte, Int.reduceLE, Int.reduceLT, Int.reduceToNat, Int.reduceNeg, Int.reduceAdd, Int.reduceSub, Int.reduceMul, Int.reduceEq]
      simp
    · rintro ⟨i, l⟩ ⟨j1, j2, j3, j4⟩
      have hw : IntKind.i64.wrap (i + 1) = i + 1 := i64w (by omega) (by omega)
      simp only [go_sem, h.hP, List.cons_append, List.nil_append, Meets_e, Below_e, Prod.exists, exists_eq, exists_eq_left, exists_eq_left', exists_eq_right, exists_eq_right', exists_and_left, exists_and_right, Ob.arr.injEq, AV.own.injEq, AV.fv.injEq, rulesG, pickS_q, pickS_p, pickS_c, pickS_f, oneS_q, oneS_p, oneS_c, oneS_f, ints1, intsc, strs1, strsc, intsDi_inj, rowsT_inj, TCap.fold1, TCap.app', TCap.rows_inj, TCap.zlT, TCap.len, List.length_append, List.length_singleton, hw, Tryd.ntmps5, Nat.reduceEqDiff, reduceCtorEq, Nat.reduceMul, Nat.reduceAdd, Nat.reduceSub, Nat.reduceDiv, Nat.reduceMod, Nat.reduceLeDiff, Nat.reduceLT, Nat.reduceBNe, Nat.reduceBEq, reduceIte, Int.reduceLE, Int.reduceLT, Int.reduceToNat, Int.reduceNeg, Int.reduceAdd, Int.reduceSub, Int.reduceMul, Int.reduceEq]
      ((repeat' (first | with_reducible apply And.intro | with_reducible intro)) <;> try first | omega | exact okL_mem (by assumption) j4 ⟨isIn_ok (by assumption) (by decide), okS_of (isOf_ok (by assumption) (by decide)), isIn_ok (by assumption) (by decide), isIn_ok (by assumption) (by decide)⟩)
      rename_i c n2 hn2
      have hn2' := isIn_le hn2 (b := 3) (by decide)
      clear hw
      refine vc_loopS (Int × List TPool) (fun (x : Int × List TPool) => match x with | (i2, p) => [(55, .i i2)]) [2, 3, 10304] (fun (x : Int × List TPool) => match x with | (i2, p) => [(3, 5, .own 10305)]) (fun (x : Int × List TPool) => match x with | (i2, p) => [(10305, .arr 62 5 (TPool.rows p))]) (fun (x : Int × List TPool) => match x with | (i2, p) => 20 + 10 * i2.toNat) (fun (x : Int × List TPool) => match x with | (i2, p) => 0 ≤ i2 ∧ i2 ≤ 3 ∧ (p.length : Int) ≤ i2 ∧ ∀ c ∈ p, c.ok) (fun (x : Int × List TPool) => match x with | (i2, p) => (3 - i2).toNat) [(10305, 62, 5)] ?_ ?_
      · simp only [go_sem, h.hP, List.cons_append, List.nil_append, Meets_e, Below_e, Prod.exists, exists_eq, exists_eq_left, exists_eq_left', exists_eq_right, exists_eq_right', exists_and_left, exists_and_right, Ob.arr.injEq, AV.own.injEq, AV.fv.injEq, TPool.nil2, Tryd.ntmps5, Nat.reduceEqDiff, reduceCtorEq, Nat.reduceMul, Nat.reduceAdd, Nat.reduceSub, Nat.reduceDiv, Nat.reduceMod, Nat.reduceLeDiff, Nat.reduceLT, Nat.reduceBNe, Nat.reduceBEq, reduceIte, Int.reduceLE, Int.reduceLT, Int.reduceToNat, Int.reduceNeg, Int.reduceAdd, Int.reduceSub, Int.reduceMul, Int.reduceEq]
        exact ⟨by omega, by decide⟩
      · rintro ⟨i2, p⟩ ⟨k1, k2, k3, k4⟩
        have hw : IntKind.i64.wrap (i2 + 1) = i2 + 1 := i64w (by omega) (by omega)
        simp only [go_sem, h.hP, List.cons_append, List.nil_append, Meets_e, Below_e, Prod.exists, exists_eq, exists_eq_left, exists_eq_left', exists_eq_right, exists_eq_right', exists_and_left, exists_and_right, Ob.arr.injEq, AV.own.injEq, AV.fv.injEq, rulesG, pickS_q, pickS_p, pickS_c, pickS_f, oneS_q, oneS_p, oneS_c, oneS_f, ints1, intsc, strs1, strsc, TPool.fold1, TPool.app', TPool.rows_inj, TPool.zlT, TPool.len, List.length_append, List.length_singleton, hw, Tryd.ntmps5, Nat.reduceEqDiff, reduceCtorEq, Nat.reduceMul, Nat.reduceAdd, Nat.reduceSub, Nat.reduceDiv, Nat.reduceMod, Nat.reduceLeDiff, Nat.reduceLT, Nat.reduceBNe, Nat.reduceBEq, reduceIte, Int.reduceLE, Int.reduceLT, Int.reduceToNat, Int.reduceNeg, Int.reduceAdd, Int.reduceSub, Int.reduceMul, Int.reduceEq]
        refine ⟨by omega, fun c2 => ?_, fun c2 => ?_⟩
        · ((repeat' (first | with_reducible apply And.intro | with_reducible intro)) <;> try first | omega | (have := enc4 (IntKind.i32.wrap (IntKind.i64.wrap (97 + i2))); have := isOf_ok (x := by assumption) (by assumption) (by decide); omega))
          rename_i s hs a5 h5 a6 h6 a7 h7
          refine vc_cutS (List Int) (fun (w : List Int) => [(78, .un), (79, .un), (80, .un)]) [2, 3, 10304, 10305, 5] (fun (w : List Int) => [(5, 4, .sl (intsD w))]) (fun (w : List Int) => []) (fun (w : List Int) => 20 + 10 * i2.toNat + 8) (fun (w : List Int) => (w.length : Int) ≤ 3 ∧ ∀ x ∈ w, okI x) [] ?_ ?_ ?_
          · rfl
          · simp only [go_sem, h.hP, List.cons_append, List.nil_append, Meets_e, Below_e, Prod.exists, exists_eq, exists_eq_left, exists_eq_left', exists_eq_right, exists_eq_right', exists_and_left, exists_and_right, Ob.arr.injEq, AV.own.injEq, AV.fv.injEq, rulesG, pickS_q, pickS_p, pickS_c, pickS_f, ints1, intsc, Tryd.ntmps5, Nat.reduceEqDiff, reduceCtorEq, Nat.reduceMul, Nat.reduceAdd, Nat.reduceSub, Nat.reduceDiv, Nat.reduceMod, Nat.reduceLeDiff, Nat.reduceLT, Nat.reduceBNe, Nat.reduceBEq, reduceIte, Int.reduceLE, Int.reduceLT, Int.reduceToNat, Int.reduceNeg, Int.reduceAdd, Int.reduceSub, Int.reduceMul, Int.reduceEq]
            refine ⟨by omega, by omega, by omega, fun n3 hn3 => ⟨by omega, ?_⟩⟩
            have hn3' := isIn_le hn3 (b := 2) (by decide)
            clear hw
            refine vc_loopS (Int × List Int) (fun (x : Int × List Int) => match x with | (i3, w) => [(79, .i i3)]) [2, 3, 10304, 10305, 5] (fun (x : Int × List Int) => match x with | (i3, w) => [(5, 4, .own 10504)]) (fun (x : Int × List Int) => match x with | (i3, w) => [(10504, .arr 3 1 (intsD w))]) (fun (x : Int × List Int) => match x with | (i3, w) => 20 + 10 * i2.toNat + 5 + i3.toNat) (fun (x : Int × List Int) => match x with | (i3, w) => 0 ≤ i3 ∧ i3 ≤ 2 ∧ (w.length : Int) ≤ i3 ∧ ∀ x ∈ w, okI x) (fun (x : Int × List Int) => match x with | (i3, w) => (2 - i3).toNat) [(10504, 3, 1)] ?_ ?_
            · simp only [go_sem, h.hP, List.cons_append, List.nil_append, Meets_e, Below_e, Prod.exists, exists_eq, exists_eq_left, exists_eq_left', exists_eq_right, exists_eq_right', exists_and_left, exists_and_right, Ob.arr.injEq, AV.own.injEq, AV.fv.injEq, ints_nil2, Tryd.ntmps5, Nat.reduceEqDiff, reduceCtorEq, Nat.reduceMul, Nat.reduceAdd, Nat.reduceSub, Nat.reduceDiv, Nat.reduceMod, Nat.reduceLeDiff, Nat.reduceLT, Nat.reduceBNe, Nat.reduceBEq, reduceIte, Int.reduceLE, Int.reduceLT, Int.reduceToNat, Int.reduceNeg, Int.reduceAdd, Int.reduceSub, Int.reduceMul, Int.reduceEq]
              first | omega | exact ⟨by omega, by decide⟩ | simp
            · rintro ⟨i3, w⟩ ⟨m1, m2, m3, m4⟩
              have hw : IntKind.i64.wrap (i3 + 1) = i3 + 1 := i64w (by omega) (by omega)
              simp only [go_sem, h.hP, List.cons_append, List.nil_append, Meets_e, Below_e, Prod.exists, exists_eq, exists_eq_left, exists_eq_left', exists_eq_right, exists_eq_right', exists_and_left, exists_and_right, Ob.arr.injEq, AV.own.injEq, AV.fv.injEq, rulesG, pickS_q, pickS_p, pickS_c, pickS_f, ints1, intsc, intsD_app', intsDi_inj, intsD_len, intsD_zlT, List.length_append, List.length_singleton, hw, Tryd.ntmps5, Nat.reduceEqDiff, reduceCtorEq, Nat.reduceMul, Nat.reduceAdd, Nat.reduceSub, Nat.reduceDiv, Nat.reduceMod, Nat.reduceLeDiff, Nat.reduceLT, Nat.reduceBNe, Nat.reduceBEq, reduceIte, Int.reduceLE, Int.reduceLT, Int.reduceToNat, Int.reduceNeg, Int.reduceAdd, Int.reduceSub, Int.reduceMul, Int.reduceEq]
              ((repeat' (first | with_reducible apply And.intro | with_reducible intro)) <;> first | omega | exact okL_mem (by assumption) m4 (isIn_ok (by assumption) (by decide)) | exact m4 _ (by assumption))
          · rintro w ⟨m1, m2⟩
            simp only [go_sem, h.hP, List.cons_append, List.nil_append, Meets_e, Below_e, Prod.exists, exists_eq, exists_eq_left, exists_eq_left', exists_eq_right, exists_eq_right', exists_and_left, exists_and_right, Ob.arr.injEq, AV.own.injEq, AV.fv.injEq, rulesG, TPool.fold1, TPool.app', TPool.rows_inj, TPool.zlT, TPool.len, List.length_append, List.length_singleton, hw, Tryd.ntmps5, Nat.reduceEqDiff, reduceCtorEq, Nat.reduceMul, Nat.reduceAdd, Nat.reduceSub, Nat.reduceDiv, Nat.reduceMod, Nat.reduceLeDiff, Nat.reduceLT, Nat.reduceBNe, Nat.reduceBEq, reduceIte, Int.reduceLE, Int.reduceLT, Int.reduceToNat, Int.reduceNeg, Int.reduceAdd, Int.reduceSub, Int.reduceMul, Int.reduceEq]
            have e1 := enc4 (IntKind.i32.wrap (IntKind.i64.wrap (97 + i2)))
            have e2 := isOf_ok hs (by decide)
            ((repeat' (first | with_reducible apply And.intro | with_reducible intro)) <;> first | omega | exact okL_mem (by assumption) k4 ⟨by unfold okS; rw [ByteArray.size_append]; omega, isIn_ok h5 (by decide), isIn_ok h6 (by decide), isIn_ok h7 (by decide), (by show w.length ≤ _; omega), m2⟩)
        · refine ⟨by omega, by omega, by omega, fun n4 hn4 => ⟨by omega, ?_⟩⟩
          have hn4' := isIn_le hn4 (b := 2) (by decide)
          clear hw
          have Hl : okL TCap.ok l := ⟨by omega, j4⟩
          have Hp : okL TPool.ok p := ⟨by omega, k4⟩
          have H1 : okI a1 := isIn_ok ha1 (by decide)
          have H2 : okI a2 := isIn_ok ha2 (by decide)
          refine vc_loopS (Int × List Int) (fun (x : Int × List Int) => match x with | (i5, d) => [(100, .i i5)]) [2, 3, 10304, 10305] (fun (x : Int × List Int) => match x with | (i5, d) => [(3, 6, .own 10306)]) (fun (x : Int × List Int) => match x with | (i5, d) => [(10306, .arr 3 1 (intsD d))]) (fun (x : Int × List Int) => match x with | (i5, d) => 60 + i5.toNat) (fun (x : Int × List Int) => match x with | (i5, d) => 0 ≤ i5 ∧ i5 ≤ 2 ∧ (d.length : Int) ≤ i5 ∧ ∀ x ∈ d, okI x) (fun (x : Int × List Int) => match x with | (i5, d) => (2 - i5).toNat) [(10306, 3, 1)] ?_ ?_
          · simp only [go_sem, h.hP, List.cons_append, List.nil_append, Meets_e, Below_e, Prod.exists, exists_eq, exists_eq_left, exists_eq_left', exists_eq_right, exists_eq_right', exists_and_left, exists_and_right, Ob.arr.injEq, AV.own.injEq, AV.fv.injEq, ints_nil2, Tryd.ntmps5, Nat.reduceEqDiff, reduceCtorEq, Nat.reduceMul, Nat.reduceAdd, Nat.reduceSub, Nat.reduceDiv, Nat.reduceMod, Nat.reduceLeDiff, Nat.reduceLT, Nat.reduceBNe, Nat.reduceBEq, reduceIte, Int.reduceLE, Int.reduceLT, Int.reduceToNat, Int.reduceNeg, Int.reduceAdd, Int.reduceSub, Int.reduceMul, Int.reduceEq]
            first | omega | exact ⟨by omega, by decide⟩ | simp
          · rintro ⟨i5, d⟩ ⟨m1, m2, m3, m4⟩
            have hw : IntKind.i64.wrap (i5 + 1) = i5 + 1 := i64w (by omega) (by omega)
            simp only [go_sem, h.hP, List.cons_append, List.nil_append, Meets_e, Below_e, Prod.exists, exists_eq, exists_eq_left, exists_eq_left', exists_eq_right, exists_eq_right', exists_and_left, exists_and_right, Ob.arr.injEq, AV.own.injEq, AV.fv.injEq, rulesG, pickS_q, pickS_p, pickS_c, pickS_f, flipS_q, flipS_p, flipS_c, flipS_f, ints1, intsc, intsD_app', intsDi_inj, intsD_len, intsD_zlT, List.length_append, List.length_singleton, hw, Tryd.ntmps5, Nat.reduceEqDiff, reduceCtorEq, Nat.reduceMul, Nat.reduceAdd, Nat.reduceSub, Nat.reduceDiv, Nat.reduceMod, Nat.reduceLeDiff, Nat.reduceLT, Nat.reduceBNe, Nat.reduceBEq, reduceIte, Int.reduceLE, Int.reduceLT, Int.reduceToNat, Int.reduceNeg, Int.reduceAdd, Int.reduceSub, Int.reduceMul, Int.reduceEq]
            ((repeat' (first | with_reducible apply And.intro | with_reducible intro)) <;> try first | omega | exact okL_mem (by assumption) m4 (isIn_ok (by assumption) (by decide)) | exact m4 _ (by assumption))
            have Hd : okL okI d := ⟨by omega, m4⟩
            clear hw
            refine vc_cutT (TSendRules) (fun (r : TSendRules) => [(112, .un)]) [2] (fun (r : TSendRules) => []) (fun (r : TSendRules) => [(3, .box 30 [.sl (intsD r.quiet), .i r.quietFrom, .i r.quietTo, .sl (rowsT r.ranks), .sl (TCap.rows r.caps), .sl (TPool.rows r.pools), .sl (intsD r.delays)])]) (fun (r : TSendRules) => 900) (fun (r : TSendRules) => r.ok) [] ?_ ?_ ?_
            · rfl
            · simp only [go_sem, h.hP, List.cons_append, List.nil_append, Meets_e, Below_e, Prod.exists, exists_eq, exists_eq_left, exists_eq_left', exists_eq_right, exists_eq_right', exists_and_left, exists_and_right, Ob.arr.injEq, AV.own.injEq, AV.fv.injEq, rulesG, nextS_q, nextS_p, nextS_c, nextS_f, oneS_q, oneS_p, oneS_c, oneS_f, oddS_q, oddS_p, oddS_c, oddS_f, flipS_q, flipS_p, flipS_c, flipS_f, ints1, intsc, strs1, strsc, LI_1, LI_c, LI_n, LT_1, LT_c, LT_n, rowsLI_len, rowsLI_get, rowsLT_len, rowsLT_get, intsDi_inj, rowsT_inj, intsD_app', intsD_len, intsD_zlT, TCap.fold1, TCap.app', TCap.rows_inj, TCap.zlT, TCap.len, TPool.fold1, TPool.app', TPool.rows_inj, TPool.zlT, TPool.len, List.length_append, List.length_singleton, TSendRules.ex, Tryd.ntmps5, Nat.reduceEqDiff, reduceCtorEq, Nat.reduceMul, Nat.reduceAdd, Nat.reduceSub, Nat.reduceDiv, Nat.reduceMod, Nat.reduceLeDiff, Nat.reduceLT, Nat.reduceBNe, Nat.reduceBEq, reduceIte, Int.reduceLE, Int.reduceLT, Int.reduceToNat, Int.reduceNeg, Int.reduceAdd, Int.reduceSub, Int.reduceMul, Int.reduceEq]
              ((repeat' (first | with_reducible apply And.intro | with_reducible intro)) <;> try first | omega | (refine ⟨?_, ?_, ?_, ?_, ?_, ?_, ?_⟩ <;> first | assumption | exact odd_ok (by assumption) (by assumption) | exact okLI_lit (by decide) _ | exact okLS_lit (by decide) _ | exact okL_snoc m4 (by omega) (odd_ok (by assumption) (by assumption)) | exact okL_snoc j4 (by omega) ⟨odd_ok (by assumption) (by assumption), okS_of (isOf_ok (by assumption) (by decide)), odd_ok (by assumption) (by assumption), odd_ok (by assumption) (by assumption)⟩ | exact okL_snoc k4 (by omega) ⟨okS_of (isOf_ok (by assumption) (by decide)), odd_ok (by assumption) (by assumption), odd_ok (by assumption) (by assumption), odd_ok (by assumption) (by assumption), okL_one (odd_ok (by assumption) (by assumption))⟩))
              refine vc_loopS (Int × List Int) (fun (x : Int × List Int) => match x with | (i6, e) => [(115, .i i6)]) [2, 3, 10304, 10305] (fun (x : Int × List Int) => match x with | (i6, e) => [(3, 6, .own 10306)]) (fun (x : Int × List Int) => match x with | (i6, e) => [(10306, .arr 3 1 (intsD e))]) (fun (x : Int × List Int) => match x with | (i6, e) => 70) (fun (x : Int × List Int) => match x with | (i6, e) => 0 ≤ i6 ∧ i6 ≤ 11 ∧ (e.length : Int) ≤ 2 + i6 ∧ ∀ x ∈ e, okI x) (fun (x : Int × List Int) => match x with | (i6, e) => (11 - i6).toNat) [(10306, 3, 1)] ?_ ?_
              · simp only [go_sem, h.hP, List.cons_append, List.nil_append, Meets_e, Below_e, Prod.exists, exists_eq, exists_eq_left, exists_eq_left', exists_eq_right, exists_eq_right', exists_and_left, exists_and_right, Ob.arr.injEq, AV.own.injEq, AV.fv.injEq, intsDi_inj, Tryd.ntmps5, Nat.reduceEqDiff, reduceCtorEq, Nat.reduceMul, Nat.reduceAdd, Nat.reduceSub, Nat.reduceDiv, Nat.reduceMod, Nat.reduceLeDiff, Nat.reduceLT, Nat.reduceBNe, Nat.reduceBEq, reduceIte, Int.reduceLE, Int.reduceLT, Int.reduceToNat, Int.reduceNeg, Int.reduceAdd, Int.reduceSub, Int.reduceMul, Int.reduceEq]
                exact ⟨by omega, by omega, m4⟩
              · rintro ⟨i6, e⟩ ⟨q1, q2, q3', q4⟩
                have hw : i6 < 11 → IntKind.i64.wrap (i6 + 1) = i6 + 1 := fun _ => i64w (by omega) (by omega)
                have He : okL okI e := ⟨by omega, q4⟩
                simp only [go_sem, h.hP, List.cons_append, List.nil_append, Meets_e, Below_e, Prod.exists, exists_eq, exists_eq_left, exists_eq_left', exists_eq_right, exists_eq_right', exists_and_left, exists_and_right, Ob.arr.injEq, AV.own.injEq, AV.fv.injEq, rulesG, ints1, intsc, intsD_app', intsDi_inj, intsD_len, intsD_zlT, rowsT_inj, TCap.rows_inj, TPool.rows_inj, List.length_append, List.length_singleton, TSendRules.ex, Tryd.ntmps5, Nat.reduceEqDiff, reduceCtorEq, Nat.reduceMul, Nat.reduceAdd, Nat.reduceSub, Nat.reduceDiv, Nat.reduceMod, Nat.reduceLeDiff, Nat.reduceLT, Nat.reduceBNe, Nat.reduceBEq, reduceIte, Int.reduceLE, Int.reduceLT, Int.reduceToNat, Int.reduceNeg, Int.reduceAdd, Int.reduceSub, Int.reduceMul, Int.reduceEq]
                refine ⟨fun c6 => ?_, fun _ => ⟨hq0, H1, H2, hq3, Hl, Hp, He⟩⟩
                rw [hw c6]
                exact ⟨by omega, by omega, by omega, by omega, by omega, okL_app q4 ⟨by decide, by decide⟩, by omega⟩
            · rintro r hr
              simp only [go_sem, h.hP, List.cons_append, List.nil_append, Meets_e, Below_e, Prod.exists, exists_eq, exists_eq_left, exists_eq_left', exists_eq_right, exists_eq_right', exists_and_left, exists_and_right, Ob.arr.injEq, AV.own.injEq, AV.fv.injEq, rulesG, TSendRules.row, TSendRules.ex, intsDi_inj, rowsT_inj, TCap.rows_inj, TPool.rows_inj, Tryd.ntmps5, Nat.reduceEqDiff, reduceCtorEq, Nat.reduceMul, Nat.reduceAdd, Nat.reduceSub, Nat.reduceDiv, Nat.reduceMod, Nat.reduceLeDiff, Nat.reduceLT, Nat.reduceBNe, Nat.reduceBEq, reduceIte, Int.reduceLE, Int.reduceLT, Int.reduceToNat, Int.reduceNeg, Int.reduceAdd, Int.reduceSub, Int.reduceMul, Int.reduceEq]
              exact ⟨r.quiet, r.quietFrom, r.quietTo, r.ranks, r.caps, r.pools, r.delays, hr, rfl, rfl, rfl, rfl, rfl, rfl, rfl⟩
end Go.Avc

/- The first error of some. No condition. -/
set_option linter.unusedVariables false
set_option linter.unusedSimpArgs false
set_option maxRecDepth 100000
namespace Go.Avc
open Go Go.Proofs

def wrongS  : Spec where
  pre xs := ∃ (l : List Int), xs = [.sl (intsD l)] ∧ (l.length ≤ 1048576)
  post xs y := ∃ (l : List Int), xs = [.sl (intsD l)] ∧ y = .i (firstI l.length fun i => l.getD i 0)
  cost _ := 0
  fresh := true
theorem wrongS_c  (xs : List AV) : (wrongS).cost xs = 0 := nr rfl
theorem wrongS_f  : (wrongS).fresh = true := nr rfl
theorem wrongS_q  (l : List Int) : (wrongS).pre [.sl (intsD l)] = (l.length ≤ 1048576) := propext ⟨fun h => by
  have h' : ∃ (l' : List Int), ([.sl (intsD l)] : List AV) = [.sl (intsD l')] ∧ (l'.length ≤ 1048576) := h
  obtain ⟨l', e, h⟩ := h'
  simp only [List.cons.injEq, AV.dv.injEq, AV.fv.injEq, DV.d.injEq, DV.ag.injEq, D.int.injEq, D.str.injEq, D.bool.injEq, D.sl.injEq, true_and, and_true, intsDi_inj, rowsT_inj, rowsKi_inj] at e
  obtain rfl := e
  exact h, fun h => ⟨l, rfl, h⟩⟩
theorem wrongS_p  (l : List Int) : (wrongS).post [.sl (intsD l)] = fun y => y = .i (firstI l.length fun i => l.getD i 0) := funext fun y => propext ⟨fun h => by
  have h' : ∃ (l' : List Int), ([.sl (intsD l)] : List AV) = [.sl (intsD l')] ∧ y = .i (firstI l'.length fun i => l'.getD i 0) := h
  obtain ⟨l', e, h⟩ := h'
  simp only [List.cons.injEq, AV.dv.injEq, AV.fv.injEq, DV.d.injEq, DV.ag.injEq, D.int.injEq, D.str.injEq, D.bool.injEq, D.sl.injEq, true_and, and_true, intsDi_inj, rowsT_inj, rowsKi_inj] at e
  obtain rfl := e
  exact h, fun h => ⟨l, rfl, h⟩⟩
theorem wrongOr_ctr {cx : Cx} (h : Seat cx) : Ctr cx 12 wrongS := by
  refine ctr_of (fn := Tryd.f12) (l := [.tmp 2]) (envL []) [0, 2, 4, 5, 6, 7, 8, 12] [] [] (env0 h.hP) ?_ (by rw [h.hP]; exact Tryd.func12) rfl (by kernel_rfl) rfl ?_ ?_
  · rw [h.hP]; exact ⟨_, Tryd.func12, by kernel_rfl, by kernel_rfl⟩
  · rintro xs ⟨l, rfl, h1⟩; exact ⟨_, l, rfl, rfl⟩
  · rintro xs ⟨l, rfl, h1⟩
    refine ⟨by rw [Tryd.ntmps12]; simp, ?_⟩
    simp only [go_sem, h.hP, List.cons_append, List.nil_append, Meets_e, Below_e, Prod.exists, exists_eq, exists_eq_left, exists_eq_left', exists_eq_right, exists_eq_right', exists_and_left, exists_and_right, Ob.arr.injEq, AV.own.injEq, AV.fv.injEq, wrongS_q, wrongS_p, wrongS_c, wrongS_f, intsD_len, Tryd.ntmps12, Nat.reduceEqDiff, reduceCtorEq, Nat.reduceMul, Nat.reduceAdd, Nat.reduceSub, Nat.reduceDiv, Nat.reduceMod, Nat.reduceLeDiff, Nat.reduceLT, Nat.reduceBNe, Nat.reduceBEq, reduceIte, Int.reduceLE, Int.reduceLT, Int.reduceToNat, Int.reduceNeg, Int.reduceAdd, Int.reduceSub, Int.reduceMul, Int.reduceEq]
    refine vc_loopS (Int) (fun (i : Int) => [(7, .i i)]) [] (fun (i : Int) => []) (fun (i : Int) => []) (fun (i : Int) => 0) (fun (i : Int) => Rounds l.length (fun i => l.getD i 0) i) (fun (i : Int) => (l.length - i).toNat) [] ?_ ?_
    · simp only [go_sem, h.hP, List.cons_append, List.nil_append, Meets_e, Below_e, Prod.exists, exists_eq, exists_eq_left, exists_eq_left', exists_eq_right, exists_eq_right', exists_and_left, exists_and_right, Ob.arr.injEq, AV.own.injEq, AV.fv.injEq, Tryd.ntmps12, Nat.reduceEqDiff, reduceCtorEq, Nat.reduceMul, Nat.reduceAdd, Nat.reduceSub, Nat.reduceDiv, Nat.reduceMod, Nat.reduceLeDiff, Nat.reduceLT, Nat.reduceBNe, Nat.reduceBEq, reduceIte, Int.reduceLE, Int.reduceLT, Int.reduceToNat, Int.reduceNeg, Int.reduceAdd, Int.reduceSub, Int.reduceMul, Int.reduceEq]
      exact Rounds.start
    · rintro i hr
      obtain ⟨hi, hS, hM, hE, hN⟩ := hr.use (by omega)
      simp only [go_sem, h.hP, List.cons_append, List.nil_append, Meets_e, Below_e, Prod.exists, exists_eq, exists_eq_left, exists_eq_left', exists_eq_right, exists_eq_right', exists_and_left, exists_and_right, Ob.arr.injEq, AV.own.injEq, AV.fv.injEq, wrongS_q, wrongS_p, wrongS_c, wrongS_f, intsD_len, intsD_get, Tryd.ntmps12, Nat.reduceEqDiff, reduceCtorEq, Nat.reduceMul, Nat.reduceAdd, Nat.reduceSub, Nat.reduceDiv, Nat.reduceMod, Nat.reduceLeDiff, Nat.reduceLT, Nat.reduceBNe, Nat.reduceBEq, reduceIte, Int.reduceLE, Int.reduceLT, Int.reduceToNat, Int.reduceNeg, Int.reduceAdd, Int.reduceSub, Int.reduceMul, Int.reduceEq]
      refine ⟨fun c => ⟨hi, c, fun d => (hE _ c rfl d).symm, fun d => ⟨hS c d, hM c⟩⟩, fun c => (hN c).symm⟩
theorem wrong_two (a b : Int) : (firstI 2 fun i => [a, b].getD i 0) = orE a b := by
  unfold orE
  by_cases h : a ≠ 0
  · rw [if_pos h]
    exact firstI_at (n := 2) (f := fun i => [a, b].getD i 0) (i := 0) (by decide) (by decide) (fun j hj => by omega) h
  · rw [if_neg h]
    have h0 : ∀ j : Nat, (j : Int) < 1 → [a, b].getD j 0 = 0 := fun j hj => by
      obtain rfl : j = 0 := by omega
      exact Decidable.not_not.1 h
    by_cases h2 : b ≠ 0
    · exact firstI_at (n := 2) (f := fun i => [a, b].getD i 0) (i := 1) (by decide) (by decide) h0 h2
    · rw [firstI_no (n := 2) (f := fun i => [a, b].getD i 0) (i := 2) (fun j hj => ?_) (by decide), Decidable.not_not.1 h2]
      by_cases hj1 : (j : Int) < 1
      · exact h0 j hj1
      · obtain rfl : j = 1 := by omega
        exact Decidable.not_not.1 h2
theorem wrong_three (a b c : Int) : (firstI 3 fun i => [a, b, c].getD i 0) = orE a (orE b c) := by
  unfold orE
  by_cases h : a ≠ 0
  · rw [if_pos h]
    exact firstI_at (n := 3) (f := fun i => [a, b, c].getD i 0) (i := 0) (by decide) (by decide) (fun j hj => by omega) h
  · rw [if_neg h]
    have h0 : ∀ j : Nat, (j : Int) < 1 → [a, b, c].getD j 0 = 0 := fun j hj => by
      obtain rfl : j = 0 := by omega
      exact Decidable.not_not.1 h
    by_cases h2 : b ≠ 0
    · rw [if_pos h2]
      exact firstI_at (n := 3) (f := fun i => [a, b, c].getD i 0) (i := 1) (by decide) (by decide) h0 h2
    · rw [if_neg h2]
      have h1 : ∀ j : Nat, (j : Int) < 2 → [a, b, c].getD j 0 = 0 := fun j hj => by
        by_cases hj1 : (j : Int) < 1
        · exact h0 j hj1
        · obtain rfl : j = 1 := by omega
          exact Decidable.not_not.1 h2
      by_cases h3 : c ≠ 0
      · exact firstI_at (n := 3) (f := fun i => [a, b, c].getD i 0) (i := 2) (by decide) (by decide) h1 h3
      · rw [firstI_no (n := 3) (f := fun i => [a, b, c].getD i 0) (i := 3) (fun j hj => ?_) (by decide), Decidable.not_not.1 h3]
        by_cases hj1 : (j : Int) < 2
        · exact h1 j hj1
        · obtain rfl : j = 2 := by omega
          exact Decidable.not_not.1 h3
end Go.Avc

/- The rules of sending: what is wrong with them, by the program and by the reference. No condition. -/
set_option linter.unusedVariables false
set_option linter.unusedSimpArgs false
set_option maxRecDepth 100000
namespace Go.Avc
open Go Go.Proofs

def noneB (s : ByteArray) : Bool := decide (s.size = 0) || keyB s
def capF (c : TCap) : Int := if inB c.channel 0 4 = false then 4 else if noneB c.purpose = false then 5 else if inB c.many 1 1000 = false ∨ inB c.within 1 100000 = false then 1 else 0
def capsF (l : List TCap) : Int := if 20 < (l.length : Int) then 2 else firstI l.length fun i => capF (l.getD i TCap.z)
theorem isNone_ctr {cx : Cx} (h : Seat cx) : Ctr cx 130 (strB noneB) := by
  refine ctr_of (fn := Tryd.f130) (l := [.tmp 2]) (envL [(105, (strB keyB))]) [0, 2] [] [] (envL_cons (IsKey_ctr h) (env0 h.hP)) ?_ (by rw [h.hP]; exact Tryd.func130) rfl (by kernel_rfl) rfl ?_ ?_
  · rw [h.hP]; exact ⟨_, Tryd.func130, by kernel_rfl, by kernel_rfl⟩
  · rintro xs ⟨s, rfl, hs⟩; exact ⟨_, s, rfl, rfl⟩
  · rintro xs ⟨s, rfl, hs⟩
    refine ⟨by rw [Tryd.ntmps130]; simp, ?_⟩
    simp only [go_sem, h.hP, List.cons_append, List.nil_append, Meets_e, Below_e, Prod.exists, exists_eq, exists_eq_left, exists_eq_left', exists_eq_right, exists_eq_right', exists_and_left, exists_and_right, Ob.arr.injEq, AV.own.injEq, AV.fv.injEq, strB_q, strB_p, strB_c, strB_f, str_nil, Tryd.ntmps130, Nat.reduceEqDiff, reduceCtorEq, Nat.reduceMul, Nat.reduceAdd, Nat.reduceSub, Nat.reduceDiv, Nat.reduceMod, Nat.reduceLeDiff, Nat.reduceLT, Nat.reduceBNe, Nat.reduceBEq, reduceIte, Int.reduceLE, Int.reduceLT, Int.reduceToNat, Int.reduceNeg, Int.reduceAdd, Int.reduceSub, Int.reduceMul, Int.reduceEq]
    grind [noneB]
def capsS  : Spec where
  pre xs := ∃ (l : List TCap), xs = [.sl (TCap.rows l)] ∧ (okL TCap.ok l)
  post xs y := ∃ (l : List TCap), xs = [.sl (TCap.rows l)] ∧ y = .i (capsF l)
  cost _ := 0
  fresh := true
theorem capsS_c  (xs : List AV) : (capsS).cost xs = 0 := nr rfl
theorem capsS_f  : (capsS).fresh = true := nr rfl
theorem capsS_q  (l : List TCap) : (capsS).pre [.sl (TCap.rows l)] = (okL TCap.ok l) := propext ⟨fun h => by
  have h' : ∃ (l' : List TCap), ([.sl (TCap.rows l)] : List AV) = [.sl (TCap.rows l')] ∧ (okL TCap.ok l') := h
  obtain ⟨l', e, h⟩ := h'
  simp only [List.cons.injEq, AV.dv.injEq, AV.fv.injEq, DV.d.injEq, DV.ag.injEq, D.int.injEq, D.str.injEq, D.bool.injEq, D.sl.injEq, true_and, and_true, intsDi_inj, rowsT_inj, rowsKi_inj, TCap.row_inj, TCap.rows_inj] at e
  obtain rfl := e
  exact h, fun h => ⟨l, rfl, h⟩⟩
theorem capsS_p  (l : List TCap) : (capsS).post [.sl (TCap.rows l)] = fun y => y = .i (capsF l) := funext fun y => propext ⟨fun h => by
  have h' : ∃ (l' : List TCap), ([.sl (TCap.rows l)] : List AV) = [.sl (TCap.rows l')] ∧ y = .i (capsF l') := h
  obtain ⟨l', e, h⟩ := h'
  simp only [List.cons.injEq, AV.dv.injEq, AV.fv.injEq, DV.d.injEq, DV.ag.injEq, D.int.injEq, D.str.injEq, D.bool.injEq, D.sl.injEq, true_and, and_true, intsDi_inj, rowsT_inj, rowsKi_inj, TCap.row_inj, TCap.rows_inj] at e
  obtain rfl := e
  exact h, fun h => ⟨l, rfl, h⟩⟩
theorem checkCaps_ctr {cx : Cx} (h : Seat cx) : Ctr cx 106 capsS := by
  refine ctr_of (fn := Tryd.f106) (l := [.tmp 2]) (envL [(59, chanS), (130, (strB noneB)), (60, inS)]) [0, 2, 4, 7, 8, 9, 10, 11, 14, 24, 29] [] [] (envL_cons (isChannel_ctr h) (envL_cons (isNone_ctr h) (envL_cons (within_ctr h) (env0 h.hP)))) ?_ (by rw [h.hP]; exact Tryd.func106) rfl (by kernel_rfl) rfl ?_ ?_
  · rw [h.hP]; exact ⟨_, Tryd.func106, by kernel_rfl, by kernel_rfl⟩
  · rintro xs ⟨l, rfl, h1⟩; exact ⟨_, l, rfl, rfl⟩
  · rintro xs ⟨l, rfl, h1⟩
    refine ⟨by rw [Tryd.ntmps106]; simp, ?_⟩
    simp only [go_sem, h.hP, List.cons_append, List.nil_append, Meets_e, Below_e, Prod.exists, exists_eq, exists_eq_left, exists_eq_left', exists_eq_right, exists_eq_right', exists_and_left, exists_and_right, Ob.arr.injEq, AV.own.injEq, AV.fv.injEq, capsS_q, capsS_p, capsS_c, capsS_f, TCap.len, TCap.rows_inj, Tryd.ntmps106, Nat.reduceEqDiff, reduceCtorEq, Nat.reduceMul, Nat.reduceAdd, Nat.reduceSub, Nat.reduceDiv, Nat.reduceMod, Nat.reduceLeDiff, Nat.reduceLT, Nat.reduceBNe, Nat.reduceBEq, reduceIte, Int.reduceLE, Int.reduceLT, Int.reduceToNat, Int.reduceNeg, Int.reduceAdd, Int.reduceSub, Int.reduceMul, Int.reduceEq]
    refine ⟨fun c => (if_pos (by omega)).symm, fun c => ?_⟩
    have hc : capsF l = firstI l.length fun i => capF (l.getD i TCap.z) := if_neg (by omega)
    rw [hc]
    · refine vc_loopS (Int) (fun (i : Int) => [(10, .i i)]) [] (fun (i : Int) => []) (fun (i : Int) => []) (fun (i : Int) => 0) (fun (i : Int) => Rounds l.length (fun i => capF (l.getD i TCap.z)) i) (fun (i : Int) => (l.length - i).toNat) [] ?_ ?_
      · simp only [go_sem, h.hP, List.cons_append, List.nil_append, Meets_e, Below_e, Prod.exists, exists_eq, exists_eq_left, exists_eq_left', exists_eq_right, exists_eq_right', exists_and_left, exists_and_right, Ob.arr.injEq, AV.own.injEq, AV.fv.injEq, Tryd.ntmps106, Nat.reduceEqDiff, reduceCtorEq, Nat.reduceMul, Nat.reduceAdd, Nat.reduceSub, Nat.reduceDiv, Nat.reduceMod, Nat.reduceLeDiff, Nat.reduceLT, Nat.reduceBNe, Nat.reduceBEq, reduceIte, Int.reduceLE, Int.reduceLT, Int.reduceToNat, Int.reduceNeg, Int.reduceAdd, Int.reduceSub, Int.reduceMul, Int.reduceEq]
        exact Rounds.start
      · rintro i hr
        obtain ⟨hi, hS, hM, hE, hN⟩ := hr.use (by have := h1.1; omega)
        have ho : (l.getD i.toNat TCap.z).ok := okL_get h1 TCap.z_ok _
        simp only [go_sem, h.hP, List.cons_append, List.nil_append, Meets_e, Below_e, Prod.exists, exists_eq, exists_eq_left, exists_eq_left', exists_eq_right, exists_eq_right', exists_and_left, exists_and_right, Ob.arr.injEq, AV.own.injEq, AV.fv.injEq, capsS_q, capsS_p, capsS_c, capsS_f, chanS_q, chanS_p, chanS_c, chanS_f, strB_q, strB_p, strB_c, strB_f, inS_q, inS_p, inS_c, inS_f, TCap.len, TCap.get, TCap.rows_inj, Tryd.ntmps106, Nat.reduceEqDiff, reduceCtorEq, Nat.reduceMul, Nat.reduceAdd, Nat.reduceSub, Nat.reduceDiv, Nat.reduceMod, Nat.reduceLeDiff, Nat.reduceLT, Nat.reduceBNe, Nat.reduceBEq, reduceIte, Int.reduceLE, Int.reduceLT, Int.reduceToNat, Int.reduceNeg, Int.reduceAdd, Int.reduceSub, Int.reduceMul, Int.reduceEq]
        generalize l.getD i.toNat TCap.z = x at hS hE ho
        obtain ⟨o1, o2, o3, o4⟩ := ho
        unfold okS at o2
        have e1 : inB x.channel 0 4 = (decide (x.channel = 0) || inB x.channel 1 4) := by
          unfold inB
          rw [Bool.eq_iff_iff, Bool.or_eq_true, decide_eq_true_eq, decide_eq_true_eq, decide_eq_true_eq]
          omega
        have e0 : inB 0 0 4 = true := by decide
        ((repeat' (first | with_reducible apply And.intro | with_reducible intro)) <;> first | omega | assumption | exact hM (by assumption) | exact hS (by assumption) (by simp [capF, e1, e0, *]) | exact (hE _ (by assumption) (by simp [capF, e1, e0, *]) (by decide)).symm | exact (hN (by assumption)).symm)
/-! ### Pools -/
def poolR (q : TPool) : DV := .ag q.row
theorem poolR_inj : ∀ a b, poolR a = poolR b → a = b := ag_inj fun _ _ => TPool.inj
def FPool (p : TPool) : List (List D) := [p.row]
theorem FPool_inj : ∀ a b, FPool a = FPool b → a = b := fun a b h => TPool.inj (by simpa [FPool] using h)
def FStr (s : ByteArray) : List (List D) := [[.str s]]
theorem FStr_inj : ∀ a b, FStr a = FStr b → a = b := fun a b h => by simpa [FStr] using h
def poolΦ : List (List D) → FSpec := csp FPool poolR fun p q => decide (q.name = p.name)
theorem poolΦ_h (p q : TPool) : (poolΦ [[.str p.name, .int .i64 p.channel, .int .i64 p.perMinute, .int .i64 p.first, .sl (intsD p.warm)]]).holds (.ag q.row) = decide (q.name = p.name) := csp_holds FPool_inj poolR_inj p q
theorem poolΦ_hl (p q : TPool) : (poolΦ [[.str p.name, .int .i64 p.channel, .int .i64 p.perMinute, .int .i64 p.first, .sl (intsD p.warm)]]).holds (.ag [.str q.name, .int .i64 q.channel, .int .i64 q.perMinute, .int .i64 q.first, .sl (intsD q.warm)]) = decide (q.name = p.name) := csp_holds FPool_inj poolR_inj p q
theorem poolΦ_d (p q : TPool) : (poolΦ [[.str p.name, .int .i64 p.channel, .int .i64 p.perMinute, .int .i64 p.first, .sl (intsD p.warm)]]).det (.ag [.str q.name, .int .i64 q.channel, .int .i64 q.perMinute, .int .i64 q.first, .sl (intsD q.warm)]) = True := eq_true (csp_det FPool_inj poolR_inj p q)
def pnameΦ : List (List D) → FSpec := csp FStr poolR fun s q => decide (q.name = s)
theorem pnameΦ_h (s : ByteArray) (q : TPool) : (pnameΦ [[.str s]]).holds (.ag q.row) = decide (q.name = s) := csp_holds FStr_inj poolR_inj s q
theorem pnameΦ_hl (s : ByteArray) (q : TPool) : (pnameΦ [[.str s]]).holds (.ag [.str q.name, .int .i64 q.channel, .int .i64 q.perMinute, .int .i64 q.first, .sl (intsD q.warm)]) = decide (q.name = s) := csp_holds FStr_inj poolR_inj s q
theorem pnameΦ_d (s : ByteArray) (q : TPool) : (pnameΦ [[.str s]]).det (.ag [.str q.name, .int .i64 q.channel, .int .i64 q.perMinute, .int .i64 q.first, .sl (intsD q.warm)]) = True := eq_true (csp_det FStr_inj poolR_inj s q)
def outΦ (lo hi : Int) : List (List D) → FSpec := csp F0 intD fun _ n => !inB n lo hi
theorem outΦ_h (lo hi n : Int) : (outΦ lo hi []).holds (elI [.int .i64 n]) = !inB n lo hi := csp_holds F0_inj intD_inj () n
theorem outΦ_d (lo hi n : Int) : (outΦ lo hi []).det (elI [.int .i64 n]) = True := eq_true (csp_det F0_inj intD_inj () n)
theorem checkPools1_ctr {cx : Cx} (h : Seat cx) : Ctr cx 131 (cloS FPool poolR fun p q => decide (q.name = p.name)) := by
  refine ctr_of (fn := Tryd.f131) (l := [.tmp 3]) (envL []) [0, 1, 2, 3] [] [] (env0 h.hP) ?_ (by rw [h.hP]; exact Tryd.func131) rfl (by kernel_rfl) rfl ?_ ?_
  · rw [h.hP]; exact ⟨_, Tryd.func131, by kernel_rfl, by kernel_rfl⟩
  · rintro xs ⟨c, a, rfl⟩; exact ⟨_, c, a, rfl, rfl⟩
  · rintro xs ⟨c, a, rfl⟩
    refine ⟨by rw [Tryd.ntmps131]; simp [FPool], ?_⟩
    simp only [go_sem, h.hP, List.cons_append, List.nil_append, Meets_e, Below_e, Prod.exists, exists_eq, exists_eq_left, exists_eq_left', exists_eq_right, exists_eq_right', exists_and_left, exists_and_right, Ob.arr.injEq, AV.own.injEq, AV.fv.injEq, cloS, FPool, poolR, TPool.row, Tryd.ntmps131, Nat.reduceEqDiff, reduceCtorEq, Nat.reduceMul, Nat.reduceAdd, Nat.reduceSub, Nat.reduceDiv, Nat.reduceMod, Nat.reduceLeDiff, Nat.reduceLT, Nat.reduceBNe, Nat.reduceBEq, reduceIte, Int.reduceLE, Int.reduceLT, Int.reduceToNat, Int.reduceNeg, Int.reduceAdd, Int.reduceSub, Int.reduceMul, Int.reduceEq]
    exact ⟨c, a, by simp⟩
theorem poolFault1_ctr {cx : Cx} (h : Seat cx) : Ctr cx 64 (cloS FPool poolR fun p q => decide (q.name = p.name)) := by
  refine ctr_of (fn := Tryd.f64) (l := [.tmp 3]) (envL []) [0, 1, 2, 3] [] [] (env0 h.hP) ?_ (by rw [h.hP]; exact Tryd.func64) rfl (by kernel_rfl) rfl ?_ ?_
  · rw [h.hP]; exact ⟨_, Tryd.func64, by kernel_rfl, by kernel_rfl⟩
  · rintro xs ⟨c, a, rfl⟩; exact ⟨_, c, a, rfl, rfl⟩
  · rintro xs ⟨c, a, rfl⟩
    refine ⟨by rw [Tryd.ntmps64]; simp [FPool], ?_⟩
    simp only [go_sem, h.hP, List.cons_append, List.nil_append, Meets_e, Below_e, Prod.exists, exists_eq, exists_eq_left, exists_eq_left', exists_eq_right, exists_eq_right', exists_and_left, exists_and_right, Ob.arr.injEq, AV.own.injEq, AV.fv.injEq, cloS, FPool, poolR, TPool.row, Tryd.ntmps64, Nat.reduceEqDiff, reduceCtorEq, Nat.reduceMul, Nat.reduceAdd, Nat.reduceSub, Nat.reduceDiv, Nat.reduceMod, Nat.reduceLeDiff, Nat.reduceLT, Nat.reduceBNe, Nat.reduceBEq, reduceIte, Int.reduceLE, Int.reduceLT, Int.reduceToNat, Int.reduceNeg, Int.reduceAdd, Int.reduceSub, Int.reduceMul, Int.reduceEq]
    exact ⟨c, a, by simp⟩
theorem Room1_ctr {cx : Cx} (h : Seat cx) : Ctr cx 67 (cloS FStr poolR fun s q => decide (q.name = s)) := by
  refine ctr_of (fn := Tryd.f67) (l := [.tmp 3]) (envL []) [0, 1, 2, 3] [] [] (env0 h.hP) ?_ (by rw [h.hP]; exact Tryd.func67) rfl (by kernel_rfl) rfl ?_ ?_
  · rw [h.hP]; exact ⟨_, Tryd.func67, by kernel_rfl, by kernel_rfl⟩
  · rintro xs ⟨c, a, rfl⟩; exact ⟨_, c, a, rfl, rfl⟩
  · rintro xs ⟨c, a, rfl⟩
    refine ⟨by rw [Tryd.ntmps67]; simp [FStr], ?_⟩
    simp only [go_sem, h.hP, List.cons_append, List.nil_append, Meets_e, Below_e, Prod.exists, exists_eq, exists_eq_left, exists_eq_left', exists_eq_right, exists_eq_right', exists_and_left, exists_and_right, Ob.arr.injEq, AV.own.injEq, AV.fv.injEq, cloS, FStr, poolR, TPool.row, Tryd.ntmps67, Nat.reduceEqDiff, reduceCtorEq, Nat.reduceMul, Nat.reduceAdd, Nat.reduceSub, Nat.reduceDiv, Nat.reduceMod, Nat.reduceLeDiff, Nat.reduceLT, Nat.reduceBNe, Nat.reduceBEq, reduceIte, Int.reduceLE, Int.reduceLT, Int.reduceToNat, Int.reduceNeg, Int.reduceAdd, Int.reduceSub, Int.reduceMul, Int.reduceEq]
    exact ⟨c, a, by simp⟩
theorem checkPools2_ctr {cx : Cx} (h : Seat cx) : Ctr cx 132 (cloS F0 intD fun _ n => !inB n 0 1000000) := by
  refine ctr_of (fn := Tryd.f132) (l := [.tmp 2]) (envL [(60, inS)]) [0, 2] [] [] (envL_cons (within_ctr h) (env0 h.hP)) ?_ (by rw [h.hP]; exact Tryd.func132) rfl (by kernel_rfl) rfl ?_ ?_
  · rw [h.hP]; exact ⟨_, Tryd.func132, by kernel_rfl, by kernel_rfl⟩
  · rintro xs ⟨c, a, rfl⟩; exact ⟨_, c, a, rfl, rfl⟩
  · rintro xs ⟨c, a, rfl⟩
    refine ⟨by rw [Tryd.ntmps132]; simp [F0], ?_⟩
    simp only [go_sem, h.hP, List.cons_append, List.nil_append, Meets_e, Below_e, Prod.exists, exists_eq, exists_eq_left, exists_eq_left', exists_eq_right, exists_eq_right', exists_and_left, exists_and_right, Ob.arr.injEq, AV.own.injEq, AV.fv.injEq, inS_q, inS_p, inS_c, inS_f, cloS, F0, intD, Tryd.ntmps132, Nat.reduceEqDiff, reduceCtorEq, Nat.reduceMul, Nat.reduceAdd, Nat.reduceSub, Nat.reduceDiv, Nat.reduceMod, Nat.reduceLeDiff, Nat.reduceLT, Nat.reduceBNe, Nat.reduceBEq, reduceIte, Int.reduceLE, Int.reduceLT, Int.reduceToNat, Int.reduceNeg, Int.reduceAdd, Int.reduceSub, Int.reduceMul, Int.reduceEq]
theorem CheckRules1_ctr {cx : Cx} (h : Seat cx) : Ctr cx 109 (cloS F0 intD fun _ n => !inB n 1 100000) := by
  refine ctr_of (fn := Tryd.f109) (l := [.tmp 2]) (envL [(60, inS)]) [0, 2] [] [] (envL_cons (within_ctr h) (env0 h.hP)) ?_ (by rw [h.hP]; exact Tryd.func109) rfl (by kernel_rfl) rfl ?_ ?_
  · rw [h.hP]; exact ⟨_, Tryd.func109, by kernel_rfl, by kernel_rfl⟩
  · rintro xs ⟨c, a, rfl⟩; exact ⟨_, c, a, rfl, rfl⟩
  · rintro xs ⟨c, a, rfl⟩
    refine ⟨by rw [Tryd.ntmps109]; simp [F0], ?_⟩
    simp only [go_sem, h.hP, List.cons_append, List.nil_append, Meets_e, Below_e, Prod.exists, exists_eq, exists_eq_left, exists_eq_left', exists_eq_right, exists_eq_right', exists_and_left, exists_and_right, Ob.arr.injEq, AV.own.injEq, AV.fv.injEq, inS_q, inS_p, inS_c, inS_f, cloS, F0, intD, Tryd.ntmps109, Nat.reduceEqDiff, reduceCtorEq, Nat.reduceMul, Nat.reduceAdd, Nat.reduceSub, Nat.reduceDiv, Nat.reduceMod, Nat.reduceLeDiff, Nat.reduceLT, Nat.reduceBNe, Nat.reduceBEq, reduceIte, Int.reduceLE, Int.reduceLT, Int.reduceToNat, Int.reduceNeg, Int.reduceAdd, Int.reduceSub, Int.reduceMul, Int.reduceEq]
def poolF (l : List TPool) (p : TPool) : Int := if keyB p.name = false then 5 else if (l.any fun q => decide (q.name = p.name)) = true then 6 else if inB p.channel 1 4 = false then 4 else
  if inB p.perMinute 1 10000 = false ∨ inB p.first 0 3000 = false then 1 else if 60 < (p.warm.length : Int) then 2 else if (p.warm.any fun n => !inB n 0 1000000) = true then 1 else 0
def poolsF (l : List TPool) : Int := if 10 < (l.length : Int) then 2 else firstI l.length fun i => poolF (l.take i) (l.getD i TPool.z)
def poolsS  : Spec where
  pre xs := ∃ (l : List TPool), xs = [.sl (TPool.rows l)] ∧ (okL TPool.ok l)
  post xs y := ∃ (l : List TPool), xs = [.sl (TPool.rows l)] ∧ y = .i (poolsF l)
  cost _ := 0
  fresh := true
theorem poolsS_c  (xs : List AV) : (poolsS).cost xs = 0 := nr rfl
theorem poolsS_f  : (poolsS).fresh = true := nr rfl
theorem poolsS_q  (l : List TPool) : (poolsS).pre [.sl (TPool.rows l)] = (okL TPool.ok l) := propext ⟨fun h => by
  have h' : ∃ (l' : List TPool), ([.sl (TPool.rows l)] : List AV) = [.sl (TPool.rows l')] ∧ (okL TPool.ok l') := h
  obtain ⟨l', e, h⟩ := h'
  simp only [List.cons.injEq, AV.dv.injEq, AV.fv.injEq, DV.d.injEq, DV.ag.injEq, D.int.injEq, D.str.injEq, D.bool.injEq, D.sl.injEq, true_and, and_true, intsDi_inj, rowsT_inj, rowsKi_inj, TPool.row_inj, TPool.rows_inj] at e
  obtain rfl := e
  exact h, fun h => ⟨l, rfl, h⟩⟩
theorem poolsS_p  (l : List TPool) : (poolsS).post [.sl (TPool.rows l)] = fun y => y = .i (poolsF l) := funext fun y => propext ⟨fun h => by
  have h' : ∃ (l' : List TPool), ([.sl (TPool.rows l)] : List AV) = [.sl (TPool.rows l')] ∧ y = .i (poolsF l') := h
  obtain ⟨l', e, h⟩ := h'
  simp only [List.cons.injEq, AV.dv.injEq, AV.fv.injEq, DV.d.injEq, DV.ag.injEq, D.int.injEq, D.str.injEq, D.bool.injEq, D.sl.injEq, true_and, and_true, intsDi_inj, rowsT_inj, rowsKi_inj, TPool.row_inj, TPool.rows_inj] at e
  obtain rfl := e
  exact h, fun h => ⟨l, rfl, h⟩⟩
theorem checkPools_ctr {cx : Cx} (h : Seat cx) : Ctr cx 107 poolsS := by
  refine ctr_of (fn := Tryd.f107) (l := [.tmp 2]) (envF [(59, chanS), (105, (strB keyB)), (60, inS), (63, (conFS DV.ag [.str ⟨#[]⟩, .int .i64 0, .int .i64 0, .int .i64 0, .sl []])), (108, (conFS elI [.int .i64 0]))] [(131, poolΦ), (132, (outΦ 0 1000000))]) [0, 2, 3, 4, 7, 8, 9, 10, 11, 15, 20, 26, 31, 42, 47] [] [] (envF_cons (clo_of (checkPools1_ctr h)) (envF_cons (clo_of (checkPools2_ctr h)) (envF_nil (envL_cons (isChannel_ctr h) (envL_cons (IsKey_ctr h) (envL_cons (within_ctr h) (envL_cons (containsFunc_TPool h) (envL_cons (containsFunc_int h) (env0 h.hP))))))))) ?_ (by rw [h.hP]; exact Tryd.func107) rfl (by kernel_rfl) rfl ?_ ?_
  · rw [h.hP]; exact ⟨_, Tryd.func107, by kernel_rfl, by kernel_rfl⟩
  · rintro xs ⟨l, rfl, h1⟩; exact ⟨_, l, rfl, rfl⟩
  · rintro xs ⟨l, rfl, h1⟩
    refine ⟨by rw [Tryd.ntmps107]; simp, ?_⟩
    simp only [go_sem, h.hP, List.cons_append, List.nil_append, Meets_e, Below_e, Prod.exists, exists_eq, exists_eq_left, exists_eq_left', exists_eq_right, exists_eq_right', exists_and_left, exists_and_right, Ob.arr.injEq, AV.own.injEq, AV.fv.injEq, poolsS_q, poolsS_p, poolsS_c, poolsS_f, TPool.len, TPool.rows_inj, Tryd.ntmps107, Nat.reduceEqDiff, reduceCtorEq, Nat.reduceMul, Nat.reduceAdd, Nat.reduceSub, Nat.reduceDiv, Nat.reduceMod, Nat.reduceLeDiff, Nat.reduceLT, Nat.reduceBNe, Nat.reduceBEq, reduceIte, Int.reduceLE, Int.reduceLT, Int.reduceToNat, Int.reduceNeg, Int.reduceAdd, Int.reduceSub, Int.reduceMul, Int.reduceEq]
    refine ⟨fun c => (if_pos (by omega)).symm, fun c => ?_⟩
    have hc : poolsF l = firstI l.length fun i => poolF (l.take i) (l.getD i TPool.z) := if_neg (by omega)
    rw [hc]
    · refine vc_loopS (Int) (fun (i : Int) => [(10, .i i)]) [] (fun (i : Int) => []) (fun (i : Int) => []) (fun (i : Int) => 0) (fun (i : Int) => Rounds l.length (fun i => poolF (l.take i) (l.getD i TPool.z)) i) (fun (i : Int) => (l.length - i).toNat) [] ?_ ?_
      · simp only [go_sem, h.hP, List.cons_append, List.nil_append, Meets_e, Below_e, Prod.exists, exists_eq, exists_eq_left, exists_eq_left', exists_eq_right, exists_eq_right', exists_and_left, exists_and_right, Ob.arr.injEq, AV.own.injEq, AV.fv.injEq, Tryd.ntmps107, Nat.reduceEqDiff, reduceCtorEq, Nat.reduceMul, Nat.reduceAdd, Nat.reduceSub, Nat.reduceDiv, Nat.reduceMod, Nat.reduceLeDiff, Nat.reduceLT, Nat.reduceBNe, Nat.reduceBEq, reduceIte, Int.reduceLE, Int.reduceLT, Int.reduceToNat, Int.reduceNeg, Int.reduceAdd, Int.reduceSub, Int.reduceMul, Int.reduceEq]
        exact Rounds.start
      · rintro i hr
        obtain ⟨hi, hS, hM, hE, hN⟩ := hr.use (by have := h1.1; omega)
        have ho : (l.getD i.toNat TPool.z).ok := okL_get h1 TPool.z_ok _
        simp only [go_sem, h.hP, List.cons_append, List.nil_append, Meets_e, Below_e, Prod.exists, exists_eq, exists_eq_left, exists_eq_left', exists_eq_right, exists_eq_right', exists_and_left, exists_and_right, Ob.arr.injEq, AV.own.injEq, AV.fv.injEq, poolsS_q, poolsS_p, poolsS_c, poolsS_f, chanS_q, chanS_p, chanS_c, chanS_f, strB_q, strB_p, strB_c, strB_f, inS_q, inS_p, inS_c, inS_f, conFS, TPool.len, TPool.get, TPool.rows_inj, TPool.rtake, TPool.zlT, TPool.any, intsD_len, intsD_get, intsD_any, poolΦ_h, poolΦ_d, outΦ_h, outΦ_d, Tryd.ntmps107, Nat.reduceEqDiff, reduceCtorEq, Nat.reduceMul, Nat.reduceAdd, Nat.reduceSub, Nat.reduceDiv, Nat.reduceMod, Nat.reduceLeDiff, Nat.reduceLT, Nat.reduceBNe, Nat.reduceBEq, reduceIte, Int.reduceLE, Int.reduceLT, Int.reduceToNat, Int.reduceNeg, Int.reduceAdd, Int.reduceSub, Int.reduceMul, Int.reduceEq]
        have hz : (l.take i.toNat).length ≤ l.length := List.length_take_le' _ _
        generalize l.getD i.toNat TPool.z = x at hS hE ho
        obtain ⟨o1, o2, o3, o4, o5⟩ := ho
        have hw := o5.1
        have hl := h1.1
        unfold okS at o1
        ((repeat' (first | with_reducible apply And.intro | with_reducible intro)) <;> first | omega | assumption | exact hM (by assumption) | exact hS (by assumption) (by simp [poolF, *]) | exact (hE _ (by assumption) (by simp [poolF, *]) (by decide)).symm | exact (hN (by assumption)).symm)
/-! ### CheckRules -/
def quietF (l : List Int) (i : Nat) : Int := if inB (l.getD i 0) 1 4 = false then 4 else if 0 < (i : Int) ∧ l.getD i 0 ≤ l.getD (i - 1) 0 then 7 else 0
open Classical in
noncomputable def rankF (l : List ByteArray) (i : Nat) : Int := if keyB (l.getD i ⟨#[]⟩) = false then 5 else if conE (l.getD i ⟨#[]⟩) (l.take i) = true then 6 else 0
def delF (l : List Int) : Int := if 10 < (l.length : Int) then 2 else if (l.any fun n => !inB n 1 100000) = true then 1 else 0
noncomputable def rules2F (r : TSendRules) : Int := orE (firstI r.ranks.length (rankF r.ranks)) (orE (capsF r.caps) (orE (poolsF r.pools) (delF r.delays)))
noncomputable def rules1F (r : TSendRules) : Int := if inB r.quietFrom 0 1439 = false ∨ inB r.quietTo 0 1439 = false then 1 else if 30 < (r.ranks.length : Int) then 2 else rules2F r
noncomputable def rulesF (r : TSendRules) : Int := orE (firstI r.quiet.length (quietF r.quiet)) (rules1F r)
def rulesS  : Spec where
  pre xs := ∃ (r : TSendRules), xs = [.dv (.ag r.row)] ∧ (r.ok)
  post xs y := ∃ (r : TSendRules), xs = [.dv (.ag r.row)] ∧ y = .i (rulesF r)
  cost _ := 0
  fresh := true
theorem rulesS_c  (xs : List AV) : (rulesS).cost xs = 0 := nr rfl
theorem rulesS_f  : (rulesS).fresh = true := nr rfl
theorem rulesS_q  (r : TSendRules) : (rulesS).pre [.dv (.ag [.sl (intsD r.quiet), .int .i64 r.quietFrom, .int .i64 r.quietTo, .sl (rowsT r.ranks), .sl (TCap.rows r.caps), .sl (TPool.rows r.pools), .sl (intsD r.delays)])] = (r.ok) := propext ⟨fun h => by
  have h' : ∃ (r' : TSendRules), ([.dv (.ag r.row)] : List AV) = [.dv (.ag r'.row)] ∧ (r'.ok) := h
  obtain ⟨r', e, h⟩ := h'
  simp only [List.cons.injEq, AV.dv.injEq, AV.fv.injEq, DV.d.injEq, DV.ag.injEq, D.int.injEq, D.str.injEq, D.bool.injEq, D.sl.injEq, true_and, and_true, intsDi_inj, rowsT_inj, rowsKi_inj, TSendRules.row_inj, TSendRules.rows_inj] at e
  obtain rfl := e
  exact h, fun h => ⟨r, rfl, h⟩⟩
theorem rulesS_p  (r : TSendRules) : (rulesS).post [.dv (.ag [.sl (intsD r.quiet), .int .i64 r.quietFrom, .int .i64 r.quietTo, .sl (rowsT r.ranks), .sl (TCap.rows r.caps), .sl (TPool.rows r.pools), .sl (intsD r.delays)])] = fun y => y = .i (rulesF r) := funext fun y => propext ⟨fun h => by
  have h' : ∃ (r' : TSendRules), ([.dv (.ag r.row)] : List AV) = [.dv (.ag r'.row)] ∧ y = .i (rulesF r') := h
  obtain ⟨r', e, h⟩ := h'
  simp only [List.cons.injEq, AV.dv.injEq, AV.fv.injEq, DV.d.injEq, DV.ag.injEq, D.int.injEq, D.str.injEq, D.bool.injEq, D.sl.injEq, true_and, and_true, intsDi_inj, rowsT_inj, rowsKi_inj, TSendRules.row_inj, TSendRules.rows_inj] at e
  obtain rfl := e
  exact h, fun h => ⟨r, rfl, h⟩⟩
end Go.Avc

/- The tables of unicode/utf8, from a row's list to what the walks ask. No condition. -/
set_option linter.unusedVariables false
set_option maxRecDepth 100000
namespace Go.Avc
open Go Go.Proofs

def acceptL : List Int := (List.range 16).flatMap fun i => [(Lib.accLo i : Int), (Lib.accHi i : Int)]
def globU : Nat → Option (List D)
  | 1 => some (Lib.firstTab.map (D.int .u8))
  | 2 => some (acceptL.map (D.int .u8))
  | _ => none
theorem glob_first {cs : List Value} {ok : Nat → Prop} {w : World} {l : List Int} (h : RdL ok w (l.map (D.int .u8)) cs) (i : Nat) (hi : i < l.length) : cs[i]? = some (.int .u8 (l.getD i 0)) := by
  obtain ⟨v, hv, hr⟩ := h.get (j := i) (x := D.int .u8 (l.getD i 0)) (by rw [List.getElem?_map, List.getD_eq_getElem?_getD, List.getElem?_eq_getElem hi]; rfl)
  rw [hv]
  cases hr
  rfl
theorem rdL_ints {ok : Nat → Prop} {w : World} (l : List Int) : RdL ok w (l.map (D.int .u8)) (l.map (Value.int .u8)) := ⟨by rw [List.length_map, List.length_map], fun j x v hx hv => by
  rw [List.getElem?_map] at hx hv
  obtain ⟨n, hn, rfl⟩ := Option.map_eq_some_iff.1 hx
  rw [hn] at hv
  cases hv
  exact .int _ _⟩
theorem accept_at : ∀ i, i < 16 → acceptL.getD (2 * i) 0 = Lib.accLo i ∧ acceptL.getD (2 * i + 1) 0 = Lib.accHi i := by decide +kernel
theorem utf8_of_glob {cx : Cx} {W0 : Cx} (hW : W0.glob = globU) (h : ∀ w, GlAt cx w → GlAt W0 w) : Utf8 cx := by
  intro w hw
  have hg := h w hw
  obtain ⟨_, _, cs, hc, hr⟩ := hg 1 _ (by rw [hW]; rfl)
  obtain ⟨_, _, cs', hc', hr'⟩ := hg 2 _ (by rw [hW]; rfl)
  have hl : Lib.firstTab.length = 256 := by unfold Lib.firstTab; rw [List.length_map, List.length_range]
  have hl' : acceptL.length = 32 := by decide +kernel
  refine ⟨fun c hc0 => ?_, fun i hi => ?_⟩
  · have := hc c _ (glob_first hr c (by omega))
    rw [this]
    unfold Lib.firstTab
    rw [List.getD_eq_getElem?_getD, List.getElem?_map, List.getElem?_range hc0]
    rfl
  · obtain ⟨e1, e2⟩ := accept_at i hi
    have h1 := hc' (2 * i) _ (glob_first hr' (2 * i) (by omega))
    have h2 := hc' (2 * i + 1) _ (glob_first hr' (2 * i + 1) (by omega))
    rw [e1] at h1
    rw [e2] at h2
    exact ⟨h1, h2⟩
theorem glAt_of_tabs {W : World} {L : List Int} {ST : TypeId} (h : Lib.Utf8Tabs 1 2 W) : GlAt ⟨Tryd.prog, none, L, ST, 3, globU⟩ W := by
  obtain ⟨h1, h2⟩ := h
  have hin : ∀ (b o : Nat) (v : Value), W.cell? ⟨b, o, none⟩ = some v → b < W.heap.size := fun b o v hv => by
    by_cases hb : b < W.heap.size
    · exact hb
    · unfold World.cell? at hv
      rw [Array.getElem?_eq_none (show W.heap.size ≤ b by omega)] at hv
      cases hv
  intro k l hk
  have hk' : globU k = some l := hk
  have hl' : acceptL.length = 32 := by decide +kernel
  match k, hk' with
  | 1, hk' =>
    cases hk'
    refine ⟨Nat.lt_of_sub_eq_succ rfl, hin _ _ _ (h1 0 (by decide)), Lib.firstTab.map (Value.int .u8), fun j u hj => ?_, rdL_ints _⟩
    rw [List.getElem?_map] at hj
    obtain ⟨n, hn, rfl⟩ := Option.map_eq_some_iff.1 hj
    unfold Lib.firstTab at hn
    rw [List.getElem?_map] at hn
    obtain ⟨c, hc, rfl⟩ := Option.map_eq_some_iff.1 hn
    have hc1 := (List.getElem?_eq_some_iff.1 hc).1
    rw [List.length_range] at hc1
    rw [List.getElem?_range hc1] at hc
    cases hc
    exact h1 _ hc1
  | 2, hk' =>
    cases hk'
    refine ⟨Nat.lt_of_sub_eq_succ rfl, hin _ _ _ (h2 0 (by decide)).1, acceptL.map (Value.int .u8), fun j u hj => ?_, rdL_ints _⟩
    rw [List.getElem?_map] at hj
    obtain ⟨n, hn, rfl⟩ := Option.map_eq_some_iff.1 hj
    have hj1 := (List.getElem?_eq_some_iff.1 hn).1
    have hn' : acceptL.getD j 0 = n := by rw [List.getD_eq_getElem?_getD, hn]; rfl
    obtain ⟨e1, e2⟩ := accept_at (j / 2) (by omega)
    obtain ⟨g1, g2⟩ := h2 (j / 2) (by omega)
    rcases Nat.mod_two_eq_zero_or_one j with hm | hm
    · have hj2 : 2 * (j / 2) = j := by omega
      rw [hj2] at e1 g1
      rw [← hn', e1]
      exact g1
    · have hj2 : 2 * (j / 2) + 1 = j := by omega
      rw [hj2] at e2 g2
      rw [← hn', e2]
      exact g2
theorem u8Extra : U8Extra Tryd.prog Tryd.lays260_ren := ⟨by kernel_rfl, by kernel_rfl, by kernel_rfl, by kernel_rfl, by kernel_rfl, by kernel_rfl, by kernel_rfl⟩
theorem first_eq : YtlaplgpnbbmbgaaDoor.Rows.laid_unicode_utf8_first = Lib.firstData := by kernel_rfl
theorem accept_eq : (YtlaplgpnbbmbgaaDoor.Rows.laid_unicode_utf8_acceptRanges : DataW Unit) = Lib.acceptData := by kernel_rfl
/-- A row that lists the two tables, first of all: they lie so. -/
theorem tabs_of_laid {W : World} (h : laidMet Tryd.prog [("unicode/utf8.acceptRanges", YtlaplgpnbbmbgaaDoor.Rows.laid_unicode_utf8_acceptRanges), ("unicode/utf8.first", YtlaplgpnbbmbgaaDoor.Rows.laid_unicode_utf8_first)] W) : Lib.Utf8Tabs 1 2 W := by
  rw [first_eq, accept_eq] at h
  exact utf8Tabs_of_reads Tryd.lays260 u8Extra (Lib.laidMet.reads h (by simp)) (Lib.laidMet.reads h (by simp))
/-- The package-level variables are there. -/
theorem ng_of_shaped {W : World} (h : W.ShapedOpen Tryd.prog) : 3 ≤ W.heap.size := by
  have h0 : (((begin Tryd.prog (fun _ _ => 0) default).world.heap[2]?).bind Obj.row?).isSome = true := by kernel_rfl
  obtain ⟨⟨zero, t⟩, hz⟩ := Option.isSome_iff_exists.1 h0
  obtain ⟨cs, hc, _⟩ := h.1 2 zero t (of_decide_eq_true (by kernel_rfl)) hz
  have := (Array.getElem?_eq_some_iff.1 hc).1
  omega
/-- A world for a witness: the two tables hold what the program lays. -/
noncomputable def laidWorld (os : Os) : World :=
  { World.holding Tryd.prog os ⟨#[], #[], []⟩ with heap := (((World.holding Tryd.prog os ⟨#[], #[], []⟩).heap.modify 1 (fun o => match o with
      | .cells _ t frozen => .cells (Lib.firstTab.map (Value.int .u8)).toArray t frozen
      | o => o)).modify 2 (fun o => match o with
      | .cells _ t frozen => .cells (acceptL.map (Value.int .u8)).toArray t frozen
      | o => o)) }
theorem laid_met (os : Os) (args : Array Value) : laidMet Tryd.prog [("unicode/utf8.acceptRanges", YtlaplgpnbbmbgaaDoor.Rows.laid_unicode_utf8_acceptRanges), ("unicode/utf8.first", YtlaplgpnbbmbgaaDoor.Rows.laid_unicode_utf8_first)] ((laidWorld os).forCall (fun _ _ => 0) ⟨#[], args, []⟩).memory :=
  laidMet_of_run' 8 (by kernel_rfl) (by kernel_rfl)
end Go.Avc

/- CheckRules: its contract. No condition. -/
set_option linter.unusedVariables false
set_option linter.unusedSimpArgs false
set_option maxRecDepth 100000
namespace Go.Avc
open Go Go.Proofs

set_option maxHeartbeats 4000000 in
theorem CheckRules_ctr {cx : Cx} (h : Seat cx) : Ctr cx 57 rulesS := by
  refine ctr_of (fn := Tryd.f57) (l := [.tmp 2]) (envF [(59, chanS), (60, inS), (105, (strB keyB)), (29, con_stringS), (106, capsS), (107, poolsS), (108, (conFS elI [.int .i64 0]))] [(109, (outΦ 1 100000))]) [0, 1, 2, 3, 4, 5, 6, 7, 8, 10, 11, 12, 13, 17, 21, 35, 46, 52, 53, 54, 55, 59, 63, 75, 81, 83, 88] [] [] (envF_cons (clo_of (CheckRules1_ctr h)) (envF_nil (envL_cons (isChannel_ctr h) (envL_cons (within_ctr h) (envL_cons (IsKey_ctr h) (envL_cons (contains_string h) (envL_cons (checkCaps_ctr h) (envL_cons (checkPools_ctr h) (envL_cons (containsFunc_int h) (env0 h.hP)))))))))) ?_ (by rw [h.hP]; exact Tryd.func57) rfl (by kernel_rfl) rfl ?_ ?_
  · rw [h.hP]; exact ⟨_, Tryd.func57, by kernel_rfl, by kernel_rfl⟩
  · rintro xs ⟨r, rfl, h1⟩; exact ⟨_, r, rfl, rfl⟩
  · rintro xs ⟨r, rfl, h1⟩
    obtain ⟨o1, o2, o3, o4, o5, o6, o7⟩ := h1
    refine ⟨by rw [Tryd.ntmps57]; simp, ?_⟩
    simp only [go_sem, h.hP, List.cons_append, List.nil_append, Meets_e, Below_e, Prod.exists, exists_eq, exists_eq_left, exists_eq_left', exists_eq_right, exists_eq_right', exists_and_left, exists_and_right, Ob.arr.injEq, AV.own.injEq, AV.fv.injEq, rulesS_q, rulesS_p, rulesS_c, rulesS_f, TSendRules.row, intsD_len, Tryd.ntmps57, Nat.reduceEqDiff, reduceCtorEq, Nat.reduceMul, Nat.reduceAdd, Nat.reduceSub, Nat.reduceDiv, Nat.reduceMod, Nat.reduceLeDiff, Nat.reduceLT, Nat.reduceBNe, Nat.reduceBEq, reduceIte, Int.reduceLE, Int.reduceLT, Int.reduceToNat, Int.reduceNeg, Int.reduceAdd, Int.reduceSub, Int.reduceMul, Int.reduceEq]
    refine vc_loopS (Int) (fun (i : Int) => [(12, .i i)]) [1] (fun (i : Int) => []) (fun (i : Int) => []) (fun (i : Int) => 0) (fun (i : Int) => Rounds r.quiet.length (quietF r.quiet) i) (fun (i : Int) => (r.quiet.length - i).toNat) [] ?_ ?_
    · simp only [go_sem, h.hP, List.cons_append, List.nil_append, Meets_e, Below_e, Prod.exists, exists_eq, exists_eq_left, exists_eq_left', exists_eq_right, exists_eq_right', exists_and_left, exists_and_right, Ob.arr.injEq, AV.own.injEq, AV.fv.injEq, Tryd.ntmps57, Nat.reduceEqDiff, reduceCtorEq, Nat.reduceMul, Nat.reduceAdd, Nat.reduceSub, Nat.reduceDiv, Nat.reduceMod, Nat.reduceLeDiff, Nat.reduceLT, Nat.reduceBNe, Nat.reduceBEq, reduceIte, Int.reduceLE, Int.reduceLT, Int.reduceToNat, Int.reduceNeg, Int.reduceAdd, Int.reduceSub, Int.reduceMul, Int.reduceEq]
      exact Rounds.start
    · rintro i hr
      obtain ⟨hi, hS, hM, hE, hN⟩ := hr.use (by have := o1.1; omega)
      simp only [go_sem, h.hP, List.cons_append, List.nil_append, Meets_e, Below_e, Prod.exists, exists_eq, exists_eq_left, exists_eq_left', exists_eq_right, exists_eq_right', exists_and_left, exists_and_right, Ob.arr.injEq, AV.own.injEq, AV.fv.injEq, chanS_q, chanS_p, chanS_c, chanS_f, inS_q, inS_p, inS_c, inS_f, rulesS_c, rulesS_f, rulesS_p, TSendRules.row, intsD_len, intsD_get, rowsT_len, Tryd.ntmps57, Nat.reduceEqDiff, reduceCtorEq, Nat.reduceMul, Nat.reduceAdd, Nat.reduceSub, Nat.reduceDiv, Nat.reduceMod, Nat.reduceLeDiff, Nat.reduceLT, Nat.reduceBNe, Nat.reduceBEq, reduceIte, Int.reduceLE, Int.reduceLT, Int.reduceToNat, Int.reduceNeg, Int.reduceAdd, Int.reduceSub, Int.reduceMul, Int.reduceEq]
      have hw : 0 < i → i < r.quiet.length → IntKind.i64.wrap (i - 1) = i - 1 := fun a b => by have := o1.1; exact i64w (by omega) (by omega)
      have hq : i < r.quiet.length → quietF r.quiet i.toNat = if inB (r.quiet.getD i.toNat 0) 1 4 = false then 4 else if 0 < i ∧ r.quiet.getD i.toNat 0 ≤ r.quiet.getD (i - 1).toNat 0 then 7 else 0 := fun a => by
        unfold quietF
        rw [Int.toNat_of_nonneg hi, show i.toNat - 1 = (i - 1).toNat by omega]
      have hE' : ∀ e, i < r.quiet.length → quietF r.quiet i.toNat = e → e ≠ 0 → e = rulesF r := fun e a b d => by
        have := hE e a b d
        unfold rulesF
        rw [this]; exact (orE_l d).symm
      refine ⟨fun c => ⟨hi, c, fun c1 => ?_, fun c1 => ⟨fun c2 => ?_, fun c2 => ?_⟩⟩, fun c => ?_⟩
      · exact hE' 4 c (by rw [hq c, if_pos c1]) (by decide)
      · rw [hw c2 c]
        refine ⟨by omega, by omega, fun c3 => hE' 7 c (by rw [hq c, if_neg (ne_ft c1), if_pos ⟨c2, c3⟩]) (by decide), fun c3 => ⟨hS c (by rw [hq c, if_neg (ne_ft c1), if_neg (fun e => c3 e.2)]), hM c⟩⟩
      · exact ⟨hS c (by rw [hq c, if_neg (ne_ft c1), if_neg (fun e => c2 e.1)]), hM c⟩
      · have hR : rulesF r = rules1F r := by unfold rulesF; exact orE_r (hN c)
        rw [hR]
        clear hS hM hE hN hw hq hE' hR hr
        refine ⟨fun c1 => ⟨fun c2 => ?_, fun c2 => ⟨fun c3 => ?_, fun c3 => ?_⟩⟩, fun c1 => ?_⟩
        · exact (if_pos (.inr c2)).symm
        · exact ((if_neg (by simp [c1, c2])).trans (if_pos c3)).symm
        · have hR : rules1F r = rules2F r := (if_neg (by simp [c1, c2])).trans (if_neg c3)
          rw [hR]
          clear hR
          refine vc_loopS (Int) (fun (j : Int) => [(54, .i j)]) [1] (fun (j : Int) => []) (fun (j : Int) => []) (fun (j : Int) => 0) (fun (j : Int) => Rounds r.ranks.length (rankF r.ranks) j) (fun (j : Int) => (r.ranks.length - j).toNat) [] ?_ ?_
          · simp only [go_sem, h.hP, List.cons_append, List.nil_append, Meets_e, Below_e, Prod.exists, exists_eq, exists_eq_left, exists_eq_left', exists_eq_right, exists_eq_right', exists_and_left, exists_and_right, Ob.arr.injEq, AV.own.injEq, AV.fv.injEq, Tryd.ntmps57, Nat.reduceEqDiff, reduceCtorEq, Nat.reduceMul, Nat.reduceAdd, Nat.reduceSub, Nat.reduceDiv, Nat.reduceMod, Nat.reduceLeDiff, Nat.reduceLT, Nat.reduceBNe, Nat.reduceBEq, reduceIte, Int.reduceLE, Int.reduceLT, Int.reduceToNat, Int.reduceNeg, Int.reduceAdd, Int.reduceSub, Int.reduceMul, Int.reduceEq]
            exact Rounds.start
          · rintro j hr
            obtain ⟨hj, hS, hM, hE, hN⟩ := hr.use (by have := o4.1; omega)
            simp only [go_sem, h.hP, List.cons_append, List.nil_append, Meets_e, Below_e, Prod.exists, exists_eq, exists_eq_left, exists_eq_left', exists_eq_right, exists_eq_right', exists_and_left, exists_and_right, Ob.arr.injEq, AV.own.injEq, AV.fv.injEq, rulesS_q, rulesS_p, rulesS_c, rulesS_f, strB_q, strB_p, strB_c, strB_f, con_stringS_q, con_stringS_p, con_stringS_c, con_stringS_f, capsS_q, capsS_p, capsS_c, capsS_f, poolsS_q, poolsS_p, poolsS_c, poolsS_f, conFS, TSendRules.row, rowsT_len, rowsT_get, rowsT_take, rowsT_inj, rowsT_zlT, intsD_len, intsD_get, intsD_any, TCap.rows_inj, TPool.rows_inj, outΦ_h, outΦ_d, Tryd.ntmps57, Nat.reduceEqDiff, reduceCtorEq, Nat.reduceMul, Nat.reduceAdd, Nat.reduceSub, Nat.reduceDiv, Nat.reduceMod, Nat.reduceLeDiff, Nat.reduceLT, Nat.reduceBNe, Nat.reduceBEq, reduceIte, Int.reduceLE, Int.reduceLT, Int.reduceToNat, Int.reduceNeg, Int.reduceAdd, Int.reduceSub, Int.reduceMul, Int.reduceEq]
            have hE' : ∀ e, j < r.ranks.length → rankF r.ranks j.toNat = e → e ≠ 0 → e = rules2F r := fun e a b d => by
              have := hE e a b d
              unfold rules2F
              rw [this]; exact (orE_l d).symm
            have hk : (r.ranks.getD j.toNat ⟨#[]⟩).size ≤ 1073741824 := okL_get o4 okS_z _
            have hz : (r.ranks.take j.toNat).length ≤ r.ranks.length := List.length_take_le' _ _
            have hl := o4.1
            refine ⟨fun c => ⟨hj, c, by omega, fun d1 => ?_, fun d1 => ⟨hj, by omega, by omega, fun d2 => ?_, fun d2 => ?_⟩⟩, fun c => ?_⟩
            · exact hE' 5 c (if_pos d1) (by decide)
            · exact hE' 6 c ((if_neg (ne_ft d1)).trans (if_pos d2)) (by decide)
            · exact ⟨hS c ((if_neg (ne_ft d1)).trans (if_neg (by rw [d2]; decide))), hM c⟩
            · clear hS hM hE hE' hr
              have hR : rules2F r = orE (capsF r.caps) (orE (poolsF r.pools) (delF r.delays)) := orE_r (hN c)
              rw [hR]
              clear hR hN
              have hd := o7.1
              grind [orE, delF]
        · exact (if_pos (.inl c1)).symm
end Go.Avc

/- Room, RoomOf, sends: their contracts. No condition. -/
set_option linter.unusedVariables false
set_option linter.unusedSimpArgs false
set_option maxRecDepth 100000
namespace Go.Avc
open Go Go.Proofs

def roomF (p : TPool) (d : Int) : Int := if d < p.first then 0 else if d - p.first < p.warm.length then p.warm.getD (d - p.first).toNat 0 else 1440 * p.perMinute
def roomS  : Spec where
  pre xs := ∃ (p : TPool) (d : Int), xs = [.dv (.ag p.row), .i d] ∧ (p.ok ∧ okI d ∧ -1000000000 ≤ p.perMinute ∧ p.perMinute ≤ 1000000000)
  post xs y := ∃ (p : TPool) (d : Int), xs = [.dv (.ag p.row), .i d] ∧ y = .i (roomF p d)
  cost _ := 0
  fresh := true
theorem roomS_c  (xs : List AV) : (roomS).cost xs = 0 := nr rfl
theorem roomS_f  : (roomS).fresh = true := nr rfl
theorem roomS_q  (p : TPool) (d : Int) : (roomS).pre [.dv (.ag [.str p.name, .int .i64 p.channel, .int .i64 p.perMinute, .int .i64 p.first, .sl (intsD p.warm)]), .i d] = (p.ok ∧ okI d ∧ -1000000000 ≤ p.perMinute ∧ p.perMinute ≤ 1000000000) := propext ⟨fun h => by
  have h' : ∃ (p' : TPool) (d' : Int), ([.dv (.ag p.row), .i d] : List AV) = [.dv (.ag p'.row), .i d'] ∧ (p'.ok ∧ okI d' ∧ -1000000000 ≤ p'.perMinute ∧ p'.perMinute ≤ 1000000000) := h
  obtain ⟨p', d', e, h⟩ := h'
  simp only [List.cons.injEq, AV.dv.injEq, AV.fv.injEq, DV.d.injEq, DV.ag.injEq, D.int.injEq, D.str.injEq, D.bool.injEq, D.sl.injEq, true_and, and_true, intsDi_inj, rowsT_inj, rowsKi_inj, TPool.row_inj, TPool.rows_inj] at e
  obtain ⟨rfl, rfl⟩ := e
  exact h, fun h => ⟨p, d, rfl, h⟩⟩
theorem roomS_p  (p : TPool) (d : Int) : (roomS).post [.dv (.ag [.str p.name, .int .i64 p.channel, .int .i64 p.perMinute, .int .i64 p.first, .sl (intsD p.warm)]), .i d] = fun y => y = .i (roomF p d) := funext fun y => propext ⟨fun h => by
  have h' : ∃ (p' : TPool) (d' : Int), ([.dv (.ag p.row), .i d] : List AV) = [.dv (.ag p'.row), .i d'] ∧ y = .i (roomF p' d') := h
  obtain ⟨p', d', e, h⟩ := h'
  simp only [List.cons.injEq, AV.dv.injEq, AV.fv.injEq, DV.d.injEq, DV.ag.injEq, D.int.injEq, D.str.injEq, D.bool.injEq, D.sl.injEq, true_and, and_true, intsDi_inj, rowsT_inj, rowsKi_inj, TPool.row_inj, TPool.rows_inj] at e
  obtain ⟨rfl, rfl⟩ := e
  exact h, fun h => ⟨p, d, rfl, h⟩⟩
theorem room_ctr {cx : Cx} (h : Seat cx) : Ctr cx 68 roomS := by
  refine ctr_of (fn := Tryd.f68) (l := [.tmp 4]) (envL []) [0, 1, 2, 4, 5, 10, 13] [] [] (env0 h.hP) ?_ (by rw [h.hP]; exact Tryd.func68) rfl (by kernel_rfl) rfl ?_ ?_
  · rw [h.hP]; exact ⟨_, Tryd.func68, by kernel_rfl, by kernel_rfl⟩
  · rintro xs ⟨p, d, rfl, h1⟩; exact ⟨_, p, d, rfl, rfl⟩
  · rintro xs ⟨p, d, rfl, h1, h2, h3, h4⟩
    obtain ⟨⟨o1, o2⟩, ⟨o3, o4⟩⟩ := And.intro h1.2.2.2.1 h2
    refine ⟨by rw [Tryd.ntmps68]; simp, ?_⟩
    simp only [go_sem, h.hP, List.cons_append, List.nil_append, Meets_e, Below_e, Prod.exists, exists_eq, exists_eq_left, exists_eq_left', exists_eq_right, exists_eq_right', exists_and_left, exists_and_right, Ob.arr.injEq, AV.own.injEq, AV.fv.injEq, roomS_q, roomS_p, roomS_c, roomS_f, TPool.row, intsD_len, intsD_get, Tryd.ntmps68, Nat.reduceEqDiff, reduceCtorEq, Nat.reduceMul, Nat.reduceAdd, Nat.reduceSub, Nat.reduceDiv, Nat.reduceMod, Nat.reduceLeDiff, Nat.reduceLT, Nat.reduceBNe, Nat.reduceBEq, reduceIte, Int.reduceLE, Int.reduceLT, Int.reduceToNat, Int.reduceNeg, Int.reduceAdd, Int.reduceSub, Int.reduceMul, Int.reduceEq]
    rw [i64w (n := d - p.first) (by omega) (by omega), i64w (n := 1440 * p.perMinute) (by omega) (by omega)]
    unfold roomF
    grind
/-- Room: the number and the error -/
noncomputable def roomN (r : TSendRules) (s : ByteArray) (d : Int) : Int := if rulesF r ≠ 0 then 0 else if idxB (fun q : TPool => decide (q.name = s)) r.pools < 0 then 0 else if inB d 0 3000 = false then 0 else roomF (r.pools.getD (idxB (fun q : TPool => decide (q.name = s)) r.pools).toNat TPool.z) d
noncomputable def roomE (r : TSendRules) (s : ByteArray) (d : Int) : Int := if rulesF r ≠ 0 then rulesF r else if idxB (fun q : TPool => decide (q.name = s)) r.pools < 0 then 8 else if inB d 0 3000 = false then 1 else 0
/-- right rules have right pools -/
theorem rules_pools {r : TSendRules} (h : rulesF r = 0) (i : Nat) (hi : i < r.pools.length) : inB (r.pools.getD i TPool.z).perMinute 1 10000 = true ∧ inB (r.pools.getD i TPool.z).first 0 3000 = true := by
  have h1 := (orE_zero h).2
  unfold rules1F at h1
  split at h1
  · cases h1
  split at h1
  · cases h1
  have h2 := (orE_zero (orE_zero (orE_zero h1).2).2).1
  unfold poolsF at h2
  split at h2
  · cases h2
  have h3 := firstI_zero h2 i hi
  unfold poolF at h3
  split at h3
  · cases h3
  split at h3
  · cases h3
  split at h3
  · cases h3
  split at h3
  · cases h3
  · rename_i hc
    constructor
    · cases hh : inB (r.pools.getD i TPool.z).perMinute 1 10000 with
      | true => rfl
      | false => exact absurd (.inl hh) hc
    · cases hh : inB (r.pools.getD i TPool.z).first 0 3000 with
      | true => rfl
      | false => exact absurd (.inr hh) hc
def RoomS  : Spec where
  pre xs := ∃ (r : TSendRules) (s : ByteArray) (d : Int), xs = [.dv (.ag r.row), .str s, .i d] ∧ (r.ok ∧ okI d)
  post xs y := ∃ (r : TSendRules) (s : ByteArray) (d : Int), xs = [.dv (.ag r.row), .str s, .i d] ∧ y = .tcons (.i (roomN r s d)) (.tcons (.i (roomE r s d)) .tnil)
  cost _ := 0
  fresh := true
theorem RoomS_c  (xs : List AV) : (RoomS).cost xs = 0 := nr rfl
theorem RoomS_f  : (RoomS).fresh = true := nr rfl
theorem RoomS_q  (r : TSendRules) (s : ByteArray) (d : Int) : (RoomS).pre [.dv (.ag [.sl (intsD r.quiet), .int .i64 r.quietFrom, .int .i64 r.quietTo, .sl (rowsT r.ranks), .sl (TCap.rows r.caps), .sl (TPool.rows r.pools), .sl (intsD r.delays)]), .str s, .i d] = (r.ok ∧ okI d) := propext ⟨fun h => by
  have h' : ∃ (r' : TSendRules) (s' : ByteArray) (d' : Int), ([.dv (.ag r.row), .str s, .i d] : List AV) = [.dv (.ag r'.row), .str s', .i d'] ∧ (r'.ok ∧ okI d') := h
  obtain ⟨r', s', d', e, h⟩ := h'
  simp only [List.cons.injEq, AV.dv.injEq, AV.fv.injEq, DV.d.injEq, DV.ag.injEq, D.int.injEq, D.str.injEq, D.bool.injEq, D.sl.injEq, true_and, and_true, intsDi_inj, rowsT_inj, rowsKi_inj, TSendRules.row_inj, TSendRules.rows_inj] at e
  obtain ⟨rfl, rfl, rfl⟩ := e
  exact h, fun h => ⟨r, s, d, rfl, h⟩⟩
theorem RoomS_p  (r : TSendRules) (s : ByteArray) (d : Int) : (RoomS).post [.dv (.ag [.sl (intsD r.quiet), .int .i64 r.quietFrom, .int .i64 r.quietTo, .sl (rowsT r.ranks), .sl (TCap.rows r.caps), .sl (TPool.rows r.pools), .sl (intsD r.delays)]), .str s, .i d] = fun y => y = .tcons (.i (roomN r s d)) (.tcons (.i (roomE r s d)) .tnil) := funext fun y => propext ⟨fun h => by
  have h' : ∃ (r' : TSendRules) (s' : ByteArray) (d' : Int), ([.dv (.ag r.row), .str s, .i d] : List AV) = [.dv (.ag r'.row), .str s', .i d'] ∧ y = .tcons (.i (roomN r' s' d')) (.tcons (.i (roomE r' s' d')) .tnil) := h
  obtain ⟨r', s', d', e, h⟩ := h'
  simp only [List.cons.injEq, AV.dv.injEq, AV.fv.injEq, DV.d.injEq, DV.ag.injEq, D.int.injEq, D.str.injEq, D.bool.injEq, D.sl.injEq, true_and, and_true, intsDi_inj, rowsT_inj, rowsKi_inj, TSendRules.row_inj, TSendRules.rows_inj] at e
  obtain ⟨rfl, rfl, rfl⟩ := e
  exact h, fun h => ⟨r, s, d, rfl, h⟩⟩
set_option maxHeartbeats 4000000 in
theorem Room_ctr {cx : Cx} (h : Seat cx) : Ctr cx 32 RoomS := by
  refine ctr_of (fn := Tryd.f32) (l := [.tmp 6, .tmp 7]) (envF [(57, rulesS), (60, inS), (68, roomS), (66, (idxFS DV.ag [.str ⟨#[]⟩, .int .i64 0, .int .i64 0, .int .i64 0, .sl []]))] [(67, pnameΦ)]) [0, 1, 2, 3, 4, 6, 7, 8, 9, 13, 19, 22] [] [] (envF_cons (clo_of (Room1_ctr h)) (envF_nil (envL_cons (CheckRules_ctr h) (envL_cons (within_ctr h) (envL_cons (room_ctr h) (envL_cons (indexFunc_TPool h) (env0 h.hP))))))) ?_ (by rw [h.hP]; exact Tryd.func32) rfl (by kernel_rfl) rfl ?_ ?_
  · rw [h.hP]; exact ⟨_, Tryd.func32, by kernel_rfl, by kernel_rfl⟩
  · rintro xs ⟨r, s, d, rfl, h1⟩; exact ⟨_, r, s, d, rfl, rfl⟩
  · rintro xs ⟨r, s, d, rfl, h1, h2⟩
    refine ⟨by rw [Tryd.ntmps32]; simp, ?_⟩
    simp only [go_sem, h.hP, List.cons_append, List.nil_append, Meets_e, Below_e, Prod.exists, exists_eq, exists_eq_left, exists_eq_left', exists_eq_right, exists_eq_right', exists_and_left, exists_and_right, Ob.arr.injEq, AV.own.injEq, AV.fv.injEq, RoomS_q, RoomS_p, RoomS_c, RoomS_f, rulesS_q, rulesS_p, rulesS_c, rulesS_f, inS_q, inS_p, inS_c, inS_f, roomS_q, roomS_p, roomS_c, roomS_f, idxFS, TSendRules.row, TPool.get, TPool.len, TPool.zlT, intsD_len, pnameΦ_h, pnameΦ_hl, pnameΦ_d, Tryd.ntmps32, Nat.reduceEqDiff, reduceCtorEq, Nat.reduceMul, Nat.reduceAdd, Nat.reduceSub, Nat.reduceDiv, Nat.reduceMod, Nat.reduceLeDiff, Nat.reduceLT, Nat.reduceBNe, Nat.reduceBEq, reduceIte, Int.reduceLE, Int.reduceLT, Int.reduceToNat, Int.reduceNeg, Int.reduceAdd, Int.reduceSub, Int.reduceMul, Int.reduceEq]
    have hx : idxB (fun x => (pnameΦ [[D.str s]]).holds (DV.ag x)) (TPool.rows r.pools) = idxB (fun q : TPool => decide (q.name = s)) r.pools := (idxB_map TPool.row _ _).trans (idxB_congr fun q => pnameΦ_h s q)
    rw [hx]
    have hrg := idxB_range (fun q : TPool => decide (q.name = s)) r.pools
    have hpl := h1.2.2.2.2.2.1
    have hl := hpl.1
    unfold roomN roomE
    generalize idxB (fun q : TPool => decide (q.name = s)) r.pools = i at hrg
    have n1 : rulesF r = 0 → ¬ rulesF r ≠ 0 := fun e f => f e
    refine ⟨h1, fun c1 => ?_, fun c1 => ⟨by omega, fun c2 => ?_, fun c2 => ⟨fun c3 => ?_, fun c3 => ?_⟩⟩⟩
    · rw [if_pos c1, if_pos c1]; exact ⟨rfl, rfl⟩
    · rw [if_neg (n1 c1), if_neg (n1 c1), if_pos c2, if_pos c2]; exact ⟨rfl, rfl⟩
    · rw [if_neg (n1 c1), if_neg (n1 c1), if_neg c2, if_neg c2, if_pos c3, if_pos c3]; exact ⟨rfl, rfl⟩
    · rw [if_neg (n1 c1), if_neg (n1 c1), if_neg c2, if_neg c2, if_neg (ne_ft c3), if_neg (ne_ft c3)]
      have hp := inB_iff.1 (rules_pools c1 i.toNat (by omega)).1
      exact ⟨by omega, by omega, okL_get hpl TPool.z_ok _, h2, by omega, by omega, rfl, rfl⟩
/-- sends -/
theorem sends_rules : rulesF ⟨[], 0, 0, [], [], [⟨⟨#[97]⟩, 1, 2, 0, []⟩], []⟩ = 0 := by
  have h1 : poolsF [⟨⟨#[97]⟩, 1, 2, 0, []⟩] = 0 := by decide +kernel
  have h2 : capsF [] = 0 := by decide +kernel
  show orE 0 (if inB 0 0 1439 = false ∨ inB 0 0 1439 = false then 1 else if (30 : Int) < ((0 : Nat) : Int) then 2 else orE 0 (orE (capsF []) (orE (poolsF [⟨⟨#[97]⟩, 1, 2, 0, []⟩]) (delF [])))) = 0
  rw [h1, h2]
  decide
def sendsS  : Spec where
  pre xs := xs = []
  post xs y := xs = [] ∧ y = .b true
  cost _ := 0
  fresh := true
theorem sendsS_c  (xs : List AV) : (sendsS).cost xs = 0 := nr rfl
theorem sendsS_f  : (sendsS).fresh = true := nr rfl
theorem sendsS_q  : (sendsS).pre [] = (([] : List AV) = []) := nr rfl
theorem sendsS_p  : (sendsS).post [] = fun y => y = .b true := funext fun y => propext ⟨fun h => h.2, fun h => ⟨rfl, h⟩⟩
set_option maxHeartbeats 4000000 in
theorem sends_ctr {cx : Cx} (h : Seat cx) : Ctr cx 15 sendsS := by
  refine ctr_of (fn := Tryd.f15) (l := [.tmp 0]) (envL [(32, RoomS), (31, isKindS)]) [0, 1, 2, 3, 4] [] [] (envL_cons (Room_ctr h) (envL_cons (kindOf2_ctr h) (env0 h.hP))) ?_ (by rw [h.hP]; exact Tryd.func15) rfl (by kernel_rfl) rfl ?_ ?_
  · rw [h.hP]; exact ⟨_, Tryd.func15, by kernel_rfl, by kernel_rfl⟩
  · rintro xs ⟨rfl, h1⟩; exact ⟨_, rfl, rfl⟩
  · rintro xs ⟨rfl, h1⟩
    refine ⟨by rw [Tryd.ntmps15]; simp, ?_⟩
    have hq : RoomS.pre [.dv (.ag [.sl [], .int .i64 0, .int .i64 0, .sl [], .sl [], .sl [[.str ⟨#[97]⟩, .int .i64 1, .int .i64 2, .int .i64 0, .sl []]], .sl []]), .str ⟨#[97]⟩, .i 0] = True := (RoomS_q ⟨[], 0, 0, [], [], [⟨⟨#[97]⟩, 1, 2, 0, []⟩], []⟩ ⟨#[97]⟩ 0).trans (eq_true ⟨⟨okL_z _, okI_z, okI_z, okL_z _, okL_z _, ⟨by decide, fun x hx => by
      rw [List.mem_singleton] at hx
      subst hx
      exact ⟨by unfold okS; decide, ⟨by decide, by decide⟩, ⟨by decide, by decide⟩, okI_z, okL_z _⟩⟩, okL_z _⟩, okI_z⟩)
    have hn : roomN ⟨[], 0, 0, [], [], [⟨⟨#[97]⟩, 1, 2, 0, []⟩], []⟩ ⟨#[97]⟩ 0 = 2880 := by
      unfold roomN
      rw [sends_rules]
      decide +kernel
    have he : roomE ⟨[], 0, 0, [], [], [⟨⟨#[97]⟩, 1, 2, 0, []⟩], []⟩ ⟨#[97]⟩ 0 = 0 := by
      unfold roomE
      rw [sends_rules]
      decide +kernel
    have hp : RoomS.post [.dv (.ag [.sl [], .int .i64 0, .int .i64 0, .sl [], .sl [], .sl [[.str ⟨#[97]⟩, .int .i64 1, .int .i64 2, .int .i64 0, .sl []]], .sl []]), .str ⟨#[97]⟩, .i 0] = fun y => y = .tcons (.i 2880) (.tcons (.i 0) .tnil) := (RoomS_p ⟨[], 0, 0, [], [], [⟨⟨#[97]⟩, 1, 2, 0, []⟩], []⟩ ⟨#[97]⟩ 0).trans (by rw [hn, he])
    simp only [go_sem, h.hP, List.cons_append, List.nil_append, Meets_e, Below_e, Prod.exists, exists_eq, exists_eq_left, exists_eq_left', exists_eq_right, exists_eq_right', exists_and_left, exists_and_right, Ob.arr.injEq, AV.own.injEq, AV.fv.injEq, sendsS_q, sendsS_p, sendsS_c, sendsS_f, isKindS, hq, hp, RoomS_c, Tryd.ntmps15, Nat.reduceEqDiff, reduceCtorEq, Nat.reduceMul, Nat.reduceAdd, Nat.reduceSub, Nat.reduceDiv, Nat.reduceMod, Nat.reduceLeDiff, Nat.reduceLT, Nat.reduceBNe, Nat.reduceBEq, reduceIte, Int.reduceLE, Int.reduceLT, Int.reduceToNat, Int.reduceNeg, Int.reduceAdd, Int.reduceSub, Int.reduceMul, Int.reduceEq]
    intro a b h1 _
    obtain ⟨rfl, rfl⟩ := h1 (by decide)
    exact ⟨fun _ e => e rfl, fun e => e rfl⟩
end Go.Avc
