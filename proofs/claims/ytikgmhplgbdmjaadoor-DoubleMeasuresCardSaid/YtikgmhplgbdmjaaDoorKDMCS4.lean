/- strings.Builder's WriteByte and WriteString, walked: what they leave. No condition. -/
import Derived.Test.YtikgmhplgbdmjaaDoorChecked
import Derived.Lib.Builder
import Derived.Lib.AppendStr
import Derived.Lib.Strings
import Derived.Lib.Slices
import Derived.Lib.Walk
import Derived.WalkKit
import Derived.Laws.Externs
import Derived.Laws.AppendOwn
import Derived.Maps.AppendAt
import Derived.KernelRfl
import Derived.Lib.UnsafeStr
import Derived.Shelf.RegionOpenPlain
import Derived.Below
import Derived.ChangeSame
import Derived.ChangeSlices
import Derived.ChangeMaps5
import Derived.OpenShut
import Derived.Lib.DecodeN
import Derived.Lib.ValidLaws
import Derived.Lib.TrimUEq
import Derived.Test.YtikgmhplgbdmjaaDoorKDMCS1
import Derived.Test.YtikgmhplgbdmjaaDoorKDMCS2
import Derived.Test.YtikgmhplgbdmjaaDoorKDMCS3
/- strings.Builder's WriteByte and WriteString, walked: what they leave. No condition. -/
set_option linter.unusedVariables false
set_option linter.unusedSimpArgs false
namespace Go.Avc
open Go Go.RowKit Go.Proofs

set_option maxHeartbeats 1000000 in
set_option maxRecDepth 100000 in
theorem check_used (b : Nat) (w : World) (h0 : w.cell? ⟨b, 0, none⟩ = some (.pointer (some ⟨b, 0, none⟩))) :
    Calls Tryd.prog 119 #[.pointer (some ⟨b, 0, none⟩)] w fun e w' => e = .returned (.tuple #[]) ∧ w' = w := by
  have hj : ∃ j, Tryd.prog.info? 96 = some j := ⟨Tryd.t96, by kernel_rfl⟩
  obtain ⟨j, hj⟩ := hj
  go_enter Tryd.func119, Tryd.ntmps119
  go_wp2
  rw [Lib.run_neq_ptr_same w _ Tryd.underlying93 hj]
  go_wp2
  go_end0
  exact ⟨rfl, rfl⟩

set_option maxHeartbeats 1000000 in
set_option maxRecDepth 100000 in
theorem check_fresh (b : Nat) (w : World) (h0 : w.cell? ⟨b, 0, none⟩ = some (.pointer none)) (hsh : w.shape? b = some (96, 2)) (hfz : w.frozen? ⟨b, 0, none⟩ = false) :
    Calls Tryd.prog 119 #[.pointer (some ⟨b, 0, none⟩)] w fun e w' => e = .returned (.tuple #[]) ∧ w' = w.setCell ⟨b, 0, none⟩ (.pointer (some ⟨b, 0, none⟩)) := by
  obtain ⟨j, hj, hjs⟩ : ∃ j, Tryd.prog.info? 96 = some j ∧ j.size = 2 := ⟨Tryd.t96, by kernel_rfl, by kernel_rfl⟩
  go_enter Tryd.func119, Tryd.ntmps119
  go_wp2
  rw [Lib.run_to_unsafe w ⟨b, 0, none⟩ Tryd.underlying93 Tryd.underlying181 hj (by rw [hjs]; decide) hsh (Nat.zero_lt_succ 1)]
  simp only [Result.andThen]
  rw [Oper.upon_value]
  go_wp2
  rw [run_callFunc_extern Tryd.func166 (by kernel_rfl) (by kernel_rfl) (by kernel_rfl) (e := Extern.AbiNoEscape.same) (by kernel_rfl)]
  rw [Lib.run_noEscape]
  simp only [Result.andThen]
  rw [Oper.upon_value]
  go_wp2
  rw [Lib.run_from_unsafe w ⟨b, 0, none⟩ Tryd.underlying181 Tryd.underlying93 hj hsh (by kernel_rfl)]
  simp only [Result.andThen]
  rw [Oper.upon_value]
  go_wp2
  go_end0
  exact ⟨rfl, rfl⟩

theorem check_calls (b : Nat) (w : World) (v : Value) (h : Bld w b v) : Calls Tryd.prog 119 #[.pointer (some ⟨b, 0, none⟩)] w fun e w' => e = .returned (.tuple #[]) ∧ w'.heap[b]? = some (.cells #[.pointer (some ⟨b, 0, none⟩), v] 96 (0, 0)) ∧
    w'.os = w.os ∧ w'.tape = w.tape ∧ w'.output = w.output ∧ w'.heap.size = w.heap.size ∧ ∀ k, k ≠ b → w'.heap[k]? = w.heap[k]? := by
  obtain ⟨p, hp, hb⟩ := h
  have hc := Lib.cell_of_heap hb 0
  rcases hp with rfl | rfl
  · refine (check_fresh b w (hc.trans rfl) (by simp [World.shape?, hb]) (Lib.frozen_of_heap hb 0)).mono ?_
    rintro e w' ⟨rfl, rfl⟩
    exact ⟨rfl, by simp [World.setCell, Array.getElem?_modify, hb], rfl, rfl, rfl, by simp [World.setCell], fun k hk => heap_setCell_other _ _ _ _ hk⟩
  · refine (check_used b w (hc.trans rfl)).mono ?_
    rintro e w' ⟨rfl, rfl⟩
    exact ⟨rfl, hb, rfl, rfl, rfl, rfl, fun _ _ => rfl⟩

set_option maxHeartbeats 4000000 in
set_option maxRecDepth 100000 in
theorem writeByte_calls (B b : Nat) (bs : List Value) (c : Int) (w : World) (v : Value) (h : Bld w b v) (hown : w.ownsRow B bE 1 v bs.length bs) (hlen : bs.length + 1 ≤ 140737488355328) (hBw : B ≤ w.heap.size) :
    Calls Tryd.prog 59 #[.pointer (some ⟨b, 0, none⟩), .int .u8 c] w fun e w' => e = .returned .nilIface ∧ Wrote B b w v (bs ++ [.int .u8 c]) w' := by
  have hne : v.ownBlock ≠ some b := by
    obtain ⟨p, _, hb⟩ := h
    exact Lib.ownBlock_ne hown hb (by decide)
  have hlt : b < w.heap.size := by
    obtain ⟨p, _, hb⟩ := h
    exact (Array.getElem?_eq_some_iff.1 hb).1
  go_enter Tryd.func59, Tryd.ntmps59
  go_wp2_with (go_at_call 119; refine (check_calls b _ v h).mono ?_)
  rintro e w1 ⟨rfl, hb1, ho1, ht1, hu1, hs1, hk1⟩
  have hown1 : w1.ownsRow B bE 1 v bs.length bs := hown.kept (row := some b) ⟨ho1, ht1, hu1, by omega, fun k hk hn => hk1 k (fun e => hn (by rw [e]))⟩ (.inr hne)
  have hs2 : w.heap.size ≤ w1.heap.size ∧ w1.heap.size ≤ w.heap.size := by omega
  clear hs1
  have c0 : w1.cell? ⟨b, 0, none⟩ = some (.pointer (some ⟨b, 0, none⟩)) := by rw [Lib.cell_of_heap hb1]; rfl
  have c1 : w1.cell? ⟨b, 1, none⟩ = some v := by rw [Lib.cell_of_heap hb1]; rfl
  have hi : Tryd.prog.info? 5 = some Tryd.t5 := by kernel_rfl
  have hz0 : Tryd.t5.zero = some (.int .u8 0) := by kernel_rfl
  have hz1 : Tryd.t5.size = 1 := by kernel_rfl
  have hz2 : Tryd.t5.bytes = 1 := by kernel_rfl
  go_wp2_with (at_builtin; refine wpList_append_own_at _ rfl _ _ 94 rfl B bE Tryd.t5 (.int .u8 0) 1 1 Tryd.underlying94 hi hz0 hz1 hz2 rfl (by decide) _ _ _ rfl (hown1.alloc _) ⟨w1.heap.size, 0, none⟩ 1 1 [.int .u8 c] rfl rfl ?c1 ?c2 ?c3 ?c4 ?c5 ?_)
  case c1 =>
    intro j u hj
    match j, hj with
    | 0, hj => simp at hj; subst hj; simp [Addr.add]
  case c2 => intro u hu; simp at hu; subst hu; rfl
  case c3 => unfold maxLen; omega
  case c4 => omega
  case c5 => simp; omega
  intro v' w2 hown' hgrow _ hat
  have hb2 : w2.heap[b]? = some (.cells #[.pointer (some ⟨b, 0, none⟩), v] 96 (0, 0)) := by
    rw [hgrow.block b (by simp; omega) (fun e => hne e.symm), Lib.alloc_old w1 _ b (by omega)]
    exact hb1
  have d0 : w2.cell? ⟨b, 0, none⟩ = some (.pointer (some ⟨b, 0, none⟩)) := by rw [Lib.cell_of_heap hb2]; rfl
  have d1 : w2.cell? ⟨b, 1, none⟩ = some v := by rw [Lib.cell_of_heap hb2]; rfl
  have f1 : w2.frozen? ⟨b, 1, none⟩ = false := Lib.frozen_of_heap hb2 1
  obtain ⟨g, cap, rfl⟩ : ∃ g cap, v' = .slice (some ⟨g, 0, none⟩) (bs.length + 1) cap := by
    rcases hown'.2 with ⟨_, h0⟩ | ⟨g, cap, cur, hv, _⟩
    · omega
    · exact ⟨g, cap, hv⟩
  go_wp2
  go_ret
  refine ⟨rfl, ?_⟩
  have hnb : (Value.slice (some ⟨g, 0, none⟩) (bs.length + 1) cap).ownBlock ≠ some b := Lib.ownBlock_ne hown' hb2 (by decide)
  refine ⟨.slice (some ⟨g, 0, none⟩) (bs.length + 1) cap, ?_, ?_, ?_, ?_⟩
  · simp [World.setCell, Array.getElem?_modify, hb2]
  · rw [List.length_append]
    exact hown'.kept (row := some b) ⟨rfl, rfl, rfl, by simp [World.setCell], fun k _ hk => heap_setCell_other _ _ _ _ (fun e => hk (by rw [e]))⟩ (.inr hnb)
  · rcases hat with e | e
    · exact .inr (.inl e)
    · refine .inr (.inr ⟨w1.heap.size + 1, e, by omega, ?_⟩)
      have := (hown'.lt _ e).2
      simpa [World.setCell] using this
  · refine ⟨hgrow.os.trans ho1, hgrow.tape.trans ht1, hgrow.output.trans hu1, ?_, fun k hk hkb hkv => ?_⟩
    · have := hgrow.size
      simp at this
      simp [World.setCell]
      omega
    · rw [heap_setCell_other _ _ _ _ (by exact hkb), hgrow.block k (by simp; omega) (fun e => hkv e.symm), Lib.alloc_old w1 _ k (by omega)]
      exact hk1 k hkb
theorem wpList_app_str {P : Program} {w : World} {ops : Array Oper} {rest : List Oper} {o : Oper} {a : Act} {Q : Exit → Act → World → Prop} (hgd : o.guard = none) (sl x : Operand) (t u : TypeId) (ho : o.op = .call { callee := .builtin .append, args := #[sl, x], argTypes := #[t, u] })
    {base : Nat} {e : TypeId} {i : TypeInfo} (ht : P.underlying t = some (.slice e)) (hu : P.underlying u = some .string) (hi : P.info? e = some i) (hz : i.zero = some (.int .u8 0)) (hsize : i.size = 1) (hby : i.bytes = 1)
    {v : Value} {n : Nat} {xs : List Value} (hs : a.eval sl = v) (hown : w.ownsRow base e 1 v n xs) (s : ByteArray) (hx : a.eval x = .string s) (hb : n + s.size ≤ 140737488355328) (hbase : base ≤ w.heap.size)
    (h : ∀ v' w', w'.ownsRow base e 1 v' (n + s.size) (xs ++ Lib.strCells s) → w.grownBy w' v.ownBlock → (v'.ownBlock = none ∨ v'.ownBlock = v.ownBlock ∨ v'.ownBlock = some w.heap.size) → wpList P ops Q rest (a.put o.dst v') w') : wpList P ops Q (o :: rest) a w := by
  refine wpList_plain hgd fun K hK => ?_
  obtain ⟨v', w', hr, h2, h3, h4⟩ := app_str_run (P := P) (ty := o.type) (w := w) ht hu hi hz hsize hby hown s hb hbase
  unfold Oper.wp execOp
  simp only [ho, resolve, invoke, builtin, Sem.run_bind, Sem.run_pure, Result.andThen_ok, List.map_toArray, List.map_cons, List.map_nil, hs, hx, hr]
  exact hK _ _ (h v' w' h2 h3 h4)

set_option maxHeartbeats 4000000 in
set_option maxRecDepth 100000 in
theorem writeString_calls (B b : Nat) (bs : List Value) (s : ByteArray) (w : World) (v : Value) (h : Bld w b v) (hown : w.ownsRow B bE 1 v bs.length bs) (hlen : bs.length + s.size ≤ 140737488355328) (hBw : B ≤ w.heap.size) :
    Calls Tryd.prog 60 #[.pointer (some ⟨b, 0, none⟩), .string s] w fun e w' => e = .returned (.tuple #[.int .i64 s.size, .nilIface]) ∧ Wrote B b w v (bs ++ Lib.strCells s) w' := by
  have hne : v.ownBlock ≠ some b := by
    obtain ⟨p, _, hb⟩ := h
    exact Lib.ownBlock_ne hown hb (by decide)
  have hlt : b < w.heap.size := by
    obtain ⟨p, _, hb⟩ := h
    exact (Array.getElem?_eq_some_iff.1 hb).1
  go_enter Tryd.func60, Tryd.ntmps60
  go_wp2_with (go_at_call 119; refine (check_calls b _ v h).mono ?_)
  rintro e w1 ⟨rfl, hb1, ho1, ht1, hu1, hs1, hk1⟩
  have hown1 : w1.ownsRow B bE 1 v bs.length bs := hown.kept (row := some b) ⟨ho1, ht1, hu1, by omega, fun k hk hn => hk1 k (fun e => hn (by rw [e]))⟩ (.inr hne)
  have hs2 : w.heap.size ≤ w1.heap.size ∧ w1.heap.size ≤ w.heap.size := by omega
  clear hs1
  have c0 : w1.cell? ⟨b, 0, none⟩ = some (.pointer (some ⟨b, 0, none⟩)) := by rw [Lib.cell_of_heap hb1]; rfl
  have c1 : w1.cell? ⟨b, 1, none⟩ = some v := by rw [Lib.cell_of_heap hb1]; rfl
  have hi : Tryd.prog.info? 5 = some Tryd.t5 := by kernel_rfl
  have hz0 : Tryd.t5.zero = some (.int .u8 0) := by kernel_rfl
  have hz1 : Tryd.t5.size = 1 := by kernel_rfl
  have hz2 : Tryd.t5.bytes = 1 := by kernel_rfl
  go_wp2_with (at_builtin; refine wpList_app_str rfl _ _ 94 9 rfl Tryd.underlying94 Tryd.underlying9 hi hz0 hz1 hz2 rfl hown1 s rfl hlen ?c5 ?_)
  case c5 => omega
  intro v' w2 hown' hgrow hat
  have hb2 : w2.heap[b]? = some (.cells #[.pointer (some ⟨b, 0, none⟩), v] 96 (0, 0)) := by
    rw [hgrow.block b (by omega) (fun e => hne e.symm)]
    exact hb1
  have d0 : w2.cell? ⟨b, 0, none⟩ = some (.pointer (some ⟨b, 0, none⟩)) := by rw [Lib.cell_of_heap hb2]; rfl
  have d1 : w2.cell? ⟨b, 1, none⟩ = some v := by rw [Lib.cell_of_heap hb2]; rfl
  have f1 : w2.frozen? ⟨b, 1, none⟩ = false := Lib.frozen_of_heap hb2 1
  obtain ⟨A', m', c', rfl⟩ : ∃ A m c, v' = .slice A m c := by
    rcases hown'.2 with ⟨rfl, _⟩ | ⟨g, cap, cur, rfl, _⟩
    · exact ⟨_, _, _, rfl⟩
    · exact ⟨_, _, _, rfl⟩
  have hnb : (Value.slice A' m' c').ownBlock ≠ some b := Lib.ownBlock_ne hown' hb2 (by decide)
  go_wp2
  go_ret2
  refine ⟨rfl, .slice A' m' c', ?_, ?_, ?_, ?_⟩
  · simp [World.setCell, Array.getElem?_modify, hb2]
  · rw [List.length_append, Lib.strCells_length]
    exact hown'.kept (row := some b) ⟨rfl, rfl, rfl, by simp [World.setCell], fun k _ hk => heap_setCell_other _ _ _ _ (fun e => hk (by rw [e]))⟩ (.inr hnb)
  · rcases hat with e | e | e
    · exact .inl e
    · exact .inr (.inl e)
    · refine .inr (.inr ⟨w1.heap.size, e, by omega, ?_⟩)
      have := (hown'.lt _ e).2
      simpa [World.setCell] using this
  · refine ⟨hgrow.os.trans ho1, hgrow.tape.trans ht1, hgrow.output.trans hu1, ?_, fun k hk hkb hkv => ?_⟩
    · have := hgrow.size
      simp [World.setCell]
      omega
    · rw [heap_setCell_other _ _ _ _ (by exact hkb), hgrow.block k (by omega) (fun e => hkv e.symm)]
      exact hk1 k hkb

section
variable (B b : Nat) (p v : Value) (l : List UInt8) (w : World)
theorem cells_byte : Tryd.prog.cellsOf 5 = 1 := by kernel_rfl
theorem else_drew : Else w v.ownBlock w.drew := ⟨rfl, rfl, rfl, Nat.le_refl _, fun _ _ _ => rfl⟩
set_option maxHeartbeats 2000000 in
set_option maxRecDepth 100000 in
theorem string_some (h0 : l ≠ []) (hbk : w.heap[b]? = some (.cells #[p, v] bT (0, 0))) (hown : w.ownsRow B bE 1 v l.length (l.map fun x => .int .u8 x.toNat)) :
    Calls Tryd.prog fSt #[.pointer (some ⟨b, 0, none⟩)] w fun e w' => e = .returned (.string ⟨l.toArray⟩) ∧ Else w v.ownBlock w' := by
  have hl0 : l.length ≠ 0 := by simpa using h0
  obtain ⟨g, cap, cur, rfl, hbg, hg, hnc, hcm, hcs, htake⟩ : ∃ g cap cur, v = .slice (some ⟨g, 0, none⟩) l.length cap ∧ B ≤ g ∧ w.heap[g]? = some (.cells cur bE (0, 0)) ∧ l.length ≤ cap ∧ cap ≤ maxLen ∧ cur.size = cap * 1 ∧ cur.toList.take (l.length * 1) = l.map fun x => .int .u8 x.toNat := by
    rcases hown.2 with ⟨_, hz⟩ | ⟨g, cap, cur, hv, r⟩
    · exact absurd hz hl0
    · exact ⟨g, cap, cur, hv, r⟩
  have c1 : w.drew.cell? ⟨b, 1, none⟩ = some (.slice (some ⟨g, 0, none⟩) l.length cap) := by
    have : w.drew.heap[b]? = some (.cells #[p, .slice (some ⟨g, 0, none⟩) l.length cap] bT (0, 0)) := hbk
    rw [Lib.cell_of_heap this]; rfl
  have hSD : (Builtin.unsafeSliceData_ #[94] 148 #[.slice (some ⟨g, 0, none⟩) l.length cap]).run Tryd.prog w.drew = .ok (.pointer (some ⟨g, 0, none⟩)) w.drew :=
    Lib.run_unsafeSliceData_row _ _ _ _ _ _ (by omega)
  have hUS : (Builtin.unsafeString_ #[148, 3] 9 #[.pointer (some ⟨g, 0, none⟩), .int .i64 l.length]).run Tryd.prog w.drew = .ok (.string ⟨l.toArray⟩) (w.drew.freeze ⟨g, 0, none⟩ l.length) := by
    refine Lib.run_unsafeString_row w.drew 148 3 9 5 Tryd.underlying148 cells_byte g cur.size (by have hg' : w.drew.heap[g]? = some (.cells cur bE (0, 0)) := hg; simp [World.shape?, hg']) l h0 (by omega) (by unfold maxLen at hcm; omega) ?_
    intro j x hx
    exact hown.cells (g := g) rfl j (.int .u8 x.toNat) (by simp [hx])
  have hfin : Else w (Value.slice (some ⟨g, 0, none⟩) l.length cap).ownBlock (w.drew.freeze ⟨g, 0, none⟩ l.length) := by
    have hgk : ∀ k, some g ≠ some k → g ≠ k := fun k h e => h (by rw [e])
    unfold World.freeze
    rw [if_neg hl0]
    refine ⟨rfl, rfl, rfl, by simp, fun k hk hne => ?_⟩
    rw [Array.getElem?_modify, if_neg (hgk k hne)]
    rfl
  have mixed : Tryd.prog.follows Departure.mixedOrders = true := by kernel_rfl
  go_enter Tryd.func62, Tryd.ntmps62
  go_wp2
  go_region_o
  all_goals (go_wp2; go_ret; exact ⟨rfl, hfin⟩)
theorem us_none (W : World) (q : Option Addr) : (Builtin.unsafeString_ #[148, 3] 9 #[.pointer q, .int .i64 0]).run Tryd.prog W = .ok (.string .empty) W :=
  Lib.run_unsafeString_none W _ _ _ q
set_option maxHeartbeats 2000000 in
set_option maxRecDepth 100000 in
theorem string_nil (hbk : w.heap[b]? = some (.cells #[p, .slice none 0 0] bT (0, 0))) :
    Calls Tryd.prog fSt #[.pointer (some ⟨b, 0, none⟩)] w fun e w' => e = .returned (.string ⟨#[]⟩) ∧ w' = w.drew := by
  have hUS := us_none
  have c1 : w.drew.cell? ⟨b, 1, none⟩ = some (.slice none 0 0) := by
    have : w.drew.heap[b]? = some (.cells #[p, .slice none 0 0] bT (0, 0)) := hbk
    rw [Lib.cell_of_heap this]; rfl
  have hSD : (Builtin.unsafeSliceData_ #[94] 148 #[.slice none 0 0]).run Tryd.prog w.drew = .ok (.pointer none) w.drew := rfl
  have mixed : Tryd.prog.follows Departure.mixedOrders = true := by kernel_rfl
  go_enter Tryd.func62, Tryd.ntmps62
  go_wp2
  go_region_o
  all_goals (go_wp2; go_ret; exact ⟨rfl, rfl⟩)
set_option maxHeartbeats 2000000 in
set_option maxRecDepth 100000 in
theorem string_noroom (g : Nat) (cur : Array Value) (hbk : w.heap[b]? = some (.cells #[p, .slice (some ⟨g, 0, none⟩) 0 0] bT (0, 0))) (hg : w.heap[g]? = some (.cells cur bE (0, 0))) :
    Calls Tryd.prog fSt #[.pointer (some ⟨b, 0, none⟩)] w fun e w' => e = .returned (.string ⟨#[]⟩) ∧ Else w none w' := by
  have hUS := us_none
  have hlt : b < w.heap.size := (Array.getElem?_eq_some_iff.1 hbk).1
  have c1 : w.drew.cell? ⟨b, 1, none⟩ = some (.slice (some ⟨g, 0, none⟩) 0 0) := by
    have : w.drew.heap[b]? = some (.cells #[p, .slice (some ⟨g, 0, none⟩) 0 0] bT (0, 0)) := hbk
    rw [Lib.cell_of_heap this]; rfl
  have hSD : (Builtin.unsafeSliceData_ #[94] 148 #[.slice (some ⟨g, 0, none⟩) 0 0]).run Tryd.prog w.drew = .ok (.pointer (some ⟨w.drew.heap.size, 0, none⟩)) (w.drew.alloc (.view ⟨g, 0, none⟩ 5)) :=
    Lib.run_unsafeSliceData_zero w.drew _ _ 5 Tryd.underlying148 ⟨g, 0, none⟩ 0 (5, cur.size) (by have hg' : w.drew.heap[g]? = some (.cells cur bE (0, 0)) := hg; simp [World.shape?, hg'])
  have c2 : (w.drew.alloc (.view ⟨g, 0, none⟩ 5)).cell? ⟨b, 1, none⟩ = some (.slice (some ⟨g, 0, none⟩) 0 0) := by
    have : (w.drew.alloc (.view ⟨g, 0, none⟩ 5)).heap[b]? = _ := (Lib.alloc_old w.drew _ b hlt).trans hbk
    rw [Lib.cell_of_heap this]; rfl
  have c3 : (w.alloc (.view ⟨g, 0, none⟩ 5)).drew.cell? ⟨b, 1, none⟩ = some (.slice (some ⟨g, 0, none⟩) 0 0) := c2
  have c0 : w.cell? ⟨b, 1, none⟩ = some (.slice (some ⟨g, 0, none⟩) 0 0) := c1
  have hfin : ∀ o, Else w none (w.drew.alloc o) := fun o => ⟨rfl, rfl, rfl, by simp, fun k hk _ => Lib.alloc_old w.drew _ k hk⟩
  have mixed : Tryd.prog.follows Departure.mixedOrders = true := by kernel_rfl
  go_enter Tryd.func62, Tryd.ntmps62
  go_wp2
  go_region_o
  all_goals (go_wp2; go_ret; exact ⟨rfl, hfin _⟩)
set_option maxHeartbeats 2000000 in
set_option maxRecDepth 100000 in
theorem string_room (g cap : Nat) (hc0 : cap ≠ 0) (hbk : w.heap[b]? = some (.cells #[p, .slice (some ⟨g, 0, none⟩) 0 cap] bT (0, 0))) :
    Calls Tryd.prog fSt #[.pointer (some ⟨b, 0, none⟩)] w fun e w' => e = .returned (.string ⟨#[]⟩) ∧ w' = w.drew := by
  have hUS := us_none
  have c1 : w.drew.cell? ⟨b, 1, none⟩ = some (.slice (some ⟨g, 0, none⟩) 0 cap) := by
    have : w.drew.heap[b]? = some (.cells #[p, .slice (some ⟨g, 0, none⟩) 0 cap] bT (0, 0)) := hbk
    rw [Lib.cell_of_heap this]; rfl
  have hSD : (Builtin.unsafeSliceData_ #[94] 148 #[.slice (some ⟨g, 0, none⟩) 0 cap]).run Tryd.prog w.drew = .ok (.pointer (some ⟨g, 0, none⟩)) w.drew :=
    Lib.run_unsafeSliceData_row _ _ _ _ _ _ hc0
  clear hc0
  have mixed : Tryd.prog.follows Departure.mixedOrders = true := by kernel_rfl
  go_enter Tryd.func62, Tryd.ntmps62
  go_wp2
  go_region_o
  all_goals (go_wp2; go_ret; exact ⟨rfl, rfl⟩)
theorem string_calls (h : Bld w b v) (hown : w.ownsRow B bE 1 v l.length (l.map fun x => .int .u8 x.toNat)) :
    Calls Tryd.prog fSt #[.pointer (some ⟨b, 0, none⟩)] w fun e w' => e = .returned (.string ⟨l.toArray⟩) ∧ Else w v.ownBlock w' := by
  obtain ⟨p, hp, hbk⟩ := h
  cases l with
  | cons x r => exact string_some B b p v (x :: r) w (by simp) hbk hown
  | nil =>
    rcases hown.2 with ⟨rfl, _⟩ | ⟨g, cap, cur, rfl, hbg, hg, _, _, _, _⟩
    · exact (string_nil b p w hbk).mono fun e w' ⟨h1, h2⟩ => ⟨h1, h2 ▸ else_drew _ w⟩
    · by_cases hc0 : cap = 0
      · subst hc0
        exact (string_noroom b p w g cur hbk hg).mono fun e w' ⟨h1, h2⟩ => ⟨h1, h2.1, h2.2.1, h2.2.2.1, h2.2.2.2.1, fun k hk _ => h2.2.2.2.2 k hk (by simp)⟩
      · exact (string_room b p w g cap hc0 hbk).mono fun e w' ⟨h1, h2⟩ => ⟨h1, h2 ▸ else_drew _ w⟩
set_option maxHeartbeats 2000000 in
theorem len_calls (n : Nat) (A : Option Addr) (c : Nat) (hbk : w.heap[b]? = some (.cells #[p, .slice A n c] bT (0, 0))) : Calls Tryd.prog 67 #[.pointer (some ⟨b, 0, none⟩)] w fun e w' => e = .returned (.int .i64 n) ∧ w' = w := by
  have c1 : w.cell? ⟨b, 1, none⟩ = some (.slice A n c) := by rw [Lib.cell_of_heap hbk]; rfl
  go_enter Tryd.func67, Tryd.ntmps67
  go_wp2
  go_ret
  exact ⟨rfl, rfl⟩
end
theorem bldOk : BldOk Tryd.prog where
  mix := by kernel_rfl
  eb := ⟨_, Tryd.func59, by kernel_rfl, by kernel_rfl⟩
  es := ⟨_, Tryd.func60, by kernel_rfl, by kernel_rfl⟩
  et := ⟨_, Tryd.func62, by kernel_rfl, by kernel_rfl⟩
  el := .inr ⟨_, Tryd.func67, by kernel_rfl, by kernel_rfl⟩
  al := ⟨Tryd.t96, by kernel_rfl, by kernel_rfl⟩
  wb := writeByte_calls
  ws := writeString_calls
  st := fun B b l w v h hown _ => string_calls B b v l w h hown
  ln := .inr fun B b bs w v h hown => by
    obtain ⟨p, _, hbk⟩ := h
    rcases hown.2 with ⟨rfl, h0⟩ | ⟨g, cap, cur, rfl, _⟩
    · rw [h0]; exact len_calls b p w 0 none 0 hbk
    · exact len_calls b p w _ _ _ hbk
theorem env0 {cx : Cx} (hP : cx.P = Tryd.prog) : EnvOk cx (envL []) := envL_nil cx (hP ▸ bldOk)
end Go.Avc

/- The stream's Range, Flip and Pick: their contracts. No condition. -/
set_option linter.unusedVariables false
set_option linter.unusedSimpArgs false
set_option maxRecDepth 100000
namespace Go.Avc
open Go Go.Proofs

def rangeS : Spec where
  pre xs := ∃ lo hi : Int, xs = [.st, .i lo, .i hi] ∧ -1073741824 ≤ lo ∧ lo ≤ 1073741824 ∧ -1073741824 ≤ hi ∧ hi ≤ 1073741824
  post xs r := ∃ lo hi q : Int, xs = [.st, .i lo, .i hi] ∧ lo ≤ q ∧ (lo ≤ hi → q ≤ hi) ∧ (hi < lo → q = lo) ∧ r = .i q
  cost _ := 1
  fresh := true

theorem range_ctr (cx : Cx) (hP : cx.P = Tryd.prog) (hS : cx.ST = 25) : Ctr cx 24 rangeS := by
  refine ctr_of (fn := Tryd.f24) (l := [.tmp 6]) (envL [(25, nextS)]) [0, 1, 2, 6, 9] [] [] (envL_cons (next_ctr cx hP hS) (env0 hP)) ?_ (by rw [hP]; exact Tryd.func24) rfl (by kernel_rfl) rfl ?_ ?_
  · rw [hP]; exact ⟨_, Tryd.func24, by kernel_rfl, by kernel_rfl⟩
  · rintro xs ⟨lo, hi, rfl, h1, h2, h3, h4⟩
    exact ⟨.i lo, lo, hi, lo, rfl, by omega, by omega, by omega, rfl⟩
  · rintro xs ⟨lo, hi, rfl, h1, h2, h3, h4⟩
    refine ⟨by rw [Tryd.ntmps24]; simp, ?_⟩
    simp only [go_sem, hP, Tryd.ntmps24, rangeS, nextS, Nat.reduceEqDiff, reduceCtorEq, Nat.reduceMul, Nat.reduceAdd, Nat.reduceLeDiff, Nat.reduceLT, Nat.reduceBNe, Nat.reduceBEq, reduceIte]
    have w1 : IntKind.i64.wrap (hi - lo) = hi - lo := IntWalk.i64_in _ (by omega)
    have w2 : IntKind.i64.wrap (hi - lo + 1) = hi - lo + 1 := IntWalk.i64_in _ (by omega)
    simp [w1, w2]
    refine ⟨fun c => ⟨lo, hi, ⟨rfl, rfl⟩, lo, by omega⟩, fun c => ⟨by omega, fun a q e h5 h6 => ⟨lo, hi, ⟨rfl, rfl⟩, lo + q, by omega, by omega, by omega, IntWalk.i64_in _ (by omega)⟩⟩⟩

def flipS : Spec where
  pre xs := ∃ m : Int, xs = [.st, .i m] ∧ m ≤ 9223372036854775807
  post xs r := ∃ (m : Int) (b : Bool), xs = [.st, .i m] ∧ r = .b b
  cost _ := 1
  fresh := true

theorem flip_ctr (cx : Cx) (hP : cx.P = Tryd.prog) (hS : cx.ST = 25) : Ctr cx 19 flipS := by
  refine ctr_of (fn := Tryd.f19) (l := [.tmp 4]) (envL [(25, nextS)]) [0, 1, 4] [] [] (envL_cons (next_ctr cx hP hS) (env0 hP)) ?_ (by rw [hP]; exact Tryd.func19) rfl (by kernel_rfl) rfl ?_ ?_
  · rw [hP]; exact ⟨_, Tryd.func19, by kernel_rfl, by kernel_rfl⟩
  · rintro xs ⟨m, rfl, h1⟩
    exact ⟨.b true, m, true, rfl, rfl⟩
  · rintro xs ⟨m, rfl, h1⟩
    refine ⟨by rw [Tryd.ntmps19]; simp, ?_⟩
    simp only [go_sem, hP, Tryd.ntmps19, flipS, nextS, Nat.reduceEqDiff, reduceCtorEq, Nat.reduceMul, Nat.reduceAdd, Nat.reduceLeDiff, Nat.reduceLT, Nat.reduceBNe, Nat.reduceBEq, reduceIte]
    simp [and_assoc, h1]

def intsD (l : List Int) : List (List D) := l.map fun x => [D.int .i64 x]
def isIn (x : Int) (l : List Int) : Prop := x ∈ l
def pickS : Spec where
  pre xs := ∃ l : List Int, xs = [.st, .sl (intsD l)] ∧ l ≠ [] ∧ l.length ≤ 1073741824
  post xs r := ∃ (l : List Int) (x : Int), xs = [.st, .sl (intsD l)] ∧ isIn x l ∧ r = .i x
  cost _ := 1
  fresh := true

theorem pick_ctr (cx : Cx) (hP : cx.P = Tryd.prog) (hS : cx.ST = 25) : Ctr cx 14 pickS := by
  refine ctr_of (fn := Tryd.f14) (l := [.tmp 4]) (envL [(25, nextS)]) [0, 1, 4] [] [] (envL_cons (next_ctr cx hP hS) (env0 hP)) ?_ (by rw [hP]; exact Tryd.func14) rfl (by kernel_rfl) rfl ?_ ?_
  · rw [hP]; exact ⟨_, Tryd.func14, by kernel_rfl, by kernel_rfl⟩
  · rintro xs ⟨l, rfl, h1, h2⟩
    exact (match l, h1 with | x :: t, _ => ⟨.i x, x :: t, x, rfl, List.mem_cons_self, rfl⟩)
  · rintro xs ⟨l, rfl, h1, h2⟩
    refine ⟨by rw [Tryd.ntmps14]; simp, ?_⟩
    simp only [go_sem, hP, Tryd.ntmps14, pickS, nextS, Nat.reduceEqDiff, reduceCtorEq, Nat.reduceMul, Nat.reduceAdd, Nat.reduceLeDiff, Nat.reduceLT, Nat.reduceBNe, Nat.reduceBEq, reduceIte]
    refine ⟨⟨⟨_, rfl, by rw [intsD, List.length_map]; omega⟩, fun h => h.elim⟩, fun a q e h3 h4 => ?_⟩
    have hq : 0 ≤ q ∧ q < (l.length : Int) := by
      simp only [List.cons.injEq, AV.dv.injEq, DV.d.injEq, D.int.injEq, true_and, and_true, intsD, List.length_map] at e
      have := List.length_pos_iff.2 h1
      omega
    have hg : (intsD l).getD q.toNat [D.int .i64 0] = [D.int .i64 (l.getD q.toNat 0)] := by
      rw [List.getD_eq_getElem?_getD, intsD, List.getElem?_map, List.getD_eq_getElem?_getD, List.getElem?_eq_getElem (by omega)]
      rfl
    have hm : l.getD q.toNat 0 ∈ l := by
      rw [List.getD_eq_getElem?_getD, List.getElem?_eq_getElem (by omega)]
      exact List.getElem_mem _
    simp only [hg, go_sem, reduceCtorEq, reduceIte]
    exact ⟨⟨hq.1, by rw [intsD, List.length_map]; exact hq.2⟩, l, _, rfl, hm, rfl⟩
end Go.Avc

/- What a context must be for this seat's contracts. No condition. -/
set_option linter.unusedVariables false
set_option linter.unusedSimpArgs false
namespace Go.Avc
open Go Go.Proofs
structure Seat (cx : Cx) : Prop where
  hP : cx.P = Tryd.prog
  hS : cx.ST = 25
attribute [go_sem] List.cons.injEq AV.dv.injEq DV.d.injEq DV.ag.injEq D.int.injEq D.str.injEq D.bool.injEq D.sl.injEq AV.dp.injEq exists_eq_left' exists_and_left exists_const and_assoc AV.tcons.injEq Int.toNat_natCast Int.toNat_zero implies_true decide_eq_true_eq decide_eq_false_iff_not beq_iff_eq beq_eq_false_iff_ne bne_iff_ne bne_eq_false_iff_eq Bool.and_eq_true Bool.or_eq_true Bool.not_eq_true' Bool.not_eq_false' str_beq false_implies true_implies ge_iff_le gt_iff_lt exists_eq' List.size_toArray exists_eq_right' exists_eq_right
theorem str_beq_nil (s : ByteArray) : (s = ⟨#[]⟩) = (bl s = []) := by rw [← bl_inj]; rfl
theorem str_nil (s : ByteArray) : (s = ⟨#[]⟩) = (s.size = 0) := by
  apply propext
  rw [← bl_inj, ← bl_length, List.length_eq_zero_iff]; rfl
theorem ex_two {p : Prop} : (∃ (_ : Int) (_ : Int), p) ↔ p := ⟨fun ⟨_, _, h⟩ => h, fun h => ⟨0, 0, h⟩⟩
theorem i64w {n : Int} (h1 : -9223372036854775808 ≤ n) (h2 : n ≤ 9223372036854775807) : IntKind.i64.wrap n = n := IntWalk.i64_in _ (by omega)
theorem u8w {n : Int} (h1 : 0 ≤ n) (h2 : n ≤ 255) : IntKind.u8.wrap n = n := by rw [IntKind.wrap_u8]; omega
theorem bt_at {s : ByteArray} {i : Nat} : bt s (i : Int) = (bl s).getD i 0 := bt_bl s i
theorem bt_range (s : ByteArray) (i : Int) : 0 ≤ bt s i ∧ bt s i ≤ 255 := by
  unfold bt
  have := (s.data.toList.getD i.toNat 0).toNat_lt
  omega
theorem bt_tdiv16 (s : ByteArray) (i : Int) : IntKind.u8.wrap ((bt s i).tdiv 16) = bt s i / 16 := by
  have := bt_range s i
  rw [Int.tdiv_eq_ediv_of_nonneg this.1]
  exact u8w (by omega) (by omega)
theorem bt_tmod16 (s : ByteArray) (i : Int) : (bt s i).tmod 16 = bt s i % 16 := Int.tmod_eq_emod_of_nonneg (bt_range s i).1
def rowsB (l : List Int) : List (List D) := l.map fun c => [.int .u8 c]
theorem rowsB_len (l : List Int) : (rowsB l).length = l.length := List.length_map ..
theorem rowsB_app (l m : List Int) : rowsB (l ++ m) = rowsB l ++ rowsB m := List.map_append ..
theorem rowsB_nil : rowsB [] = [] := rfl
theorem rowsB_cons (c : Int) (l : List Int) : rowsB (c :: l) = [.int .u8 c] :: rowsB l := rfl
theorem numsOf_rowsB (l : List Int) : numsOf (rowsB l) = l := by
  unfold numsOf rowsB
  rw [List.map_map]
  induction l with
  | nil => rfl
  | cons x r ih => simp [ih]
theorem strRows_rowsB (b : ByteArray) : strRows b = rowsB (bl b) := by
  unfold strRows rowsB bl
  rw [List.map_map]; rfl
theorem rows1 (c : Int) : [[D.int .u8 c]] = rowsB [c] := rfl
theorem i64s {n : Nat} (h : n < 9223372036854775807) : IntKind.i64.wrap ((n : Int) + 1) = ((n + 1 : Nat) : Int) := by rw [i64w (by omega) (by omega)]; rfl
theorem rowsB_ok {l : List Int} (h : isBs l) : ∀ x ∈ rowsB l, ∃ n : Int, x = [D.int .u8 n] ∧ 0 ≤ n ∧ n ≤ 255 := by
  intro x hx
  obtain ⟨n, hn, rfl⟩ := List.mem_map.1 hx
  exact ⟨n, rfl, h n hn⟩
theorem rowsB_u8 (l : List Int) : ∀ x ∈ rowsB l, ∃ n : Int, x = [D.int .u8 n] := by
  intro x hx
  obtain ⟨n, hn, rfl⟩ := List.mem_map.1 hx
  exact ⟨n, rfl⟩

/-! ### A contract of plain values -/
def flatV1 : AV → Option Value
  | .dv (.d (.int k n)) => some (.int k n)
  | .dv (.d (.bool b)) => some (.bool b)
  | .dv (.d (.str s)) => some (.string s)
  | _ => none
def flatT : AV → Option (List Value)
  | .tnil => some []
  | .tcons a t => match flatV1 a, flatT t with
    | some v, some r => some (v :: r)
    | _, _ => none
  | _ => none
def flatR : AV → Option Value
  | .tcons a t => (flatT (.tcons a t)).map fun l => .tuple l.toArray
  | a => flatV1 a
theorem flatV1_val {cx : Cx} {w0 : World} {ok : Nat → Prop} {ρ : Nat → Value} {w : World} {a : AV} {v u : Value} (h : flatV1 a = some v) (hr : rel0 cx w0 ok ρ w a u) : u = v := by
  unfold flatV1 at h
  split at h
  · cases h; exact Rd.int_inv hr
  · cases h; cases (show Rd _ _ (.bool _) u from hr); rfl
  · cases h; exact Rd.str_inv hr
  · cases h
theorem flatV1_mk {cx : Cx} {w0 : World} {ok : Nat → Prop} {ρ : Nat → Value} {w : World} {a : AV} {v : Value} (h : flatV1 a = some v) : rel0 cx w0 ok ρ w a v ∧ a.plain = true := by
  unfold flatV1 at h
  split at h
  · cases h; exact ⟨Rd.int _ _, rfl⟩
  · cases h; exact ⟨Rd.bool _, rfl⟩
  · cases h; exact ⟨Rd.str _, rfl⟩
  · cases h
theorem flatT_mk {cx : Cx} {w0 : World} {ok : Nat → Prop} {ρ : Nat → Value} {w : World} : ∀ {a : AV} {l : List Value}, flatT a = some l → relT cx w0 ok ρ w a l ∧ a.plain = true
  | .tnil, l, h => by cases h; exact ⟨rfl, rfl⟩
  | .tcons a t, l, h => by
    unfold flatT at h
    split at h
    · rename_i v r h1 h2
      cases h
      have h3 := flatV1_mk (cx := cx) (w0 := w0) (ok := ok) (ρ := ρ) (w := w) h1
      have h4 := flatT_mk (cx := cx) (w0 := w0) (ok := ok) (ρ := ρ) (w := w) h2
      exact ⟨⟨v, r, rfl, h3.1, h4.1⟩, by simp [AV.plain, h3.2, h4.2]⟩
    · cases h
  | .dv _, l, h => by cases h
  | .own _, l, h => by cases h
  | .ptr _ _, l, h => by cases h
  | .eptr _ _ _ _, l, h => by cases h
  | .dp _, l, h => by cases h
  | .st, l, h => by cases h
  | .fn _ _, l, h => by cases h
  | .fv _, l, h => by cases h
  | .nil, l, h => by cases h
  | .lit _, l, h => by cases h
  | .sv _ _ _, l, h => by cases h
  | .agz _ _, l, h => by cases h
  | .un, l, h => by cases h
theorem flatR_mk {cx : Cx} {w0 : World} {ok : Nat → Prop} {ρ : Nat → Value} {w : World} {a : AV} {v : Value} (h : flatR a = some v) : relA cx w0 ok ρ w a v ∧ a.plain = true := by
  have k : flatV1 a = some v → relA cx w0 ok ρ w a v ∧ a.plain = true := fun h => ⟨relA_of0 (flatV1_mk h).1, (flatV1_mk (cx := cx) (w0 := w0) (ok := ok) (ρ := ρ) (w := w) h).2⟩
  unfold flatR at h
  split at h
  · rename_i a t
    rw [Option.map_eq_some_iff] at h
    obtain ⟨l, hl, rfl⟩ := h
    have := flatT_mk (cx := cx) (w0 := w0) (ok := ok) (ρ := ρ) (w := w) hl
    exact ⟨⟨l, rfl, this.1⟩, this.2⟩
  · exact k h
theorem vals_of {cx : Cx} {w0 : World} {ok : Nat → Prop} {ρ : Nat → Value} {w : World} : ∀ {xs : List AV} {vs us : List Value}, xs.mapM flatV1 = some vs → xs.length = us.length → (∀ (i : Nat) (a : AV) (u : Value), xs[i]? = some a → us[i]? = some u → rel0 cx w0 ok ρ w a u) → us = vs
  | [], vs, us, h, hl, _ => by
    simp only [List.mapM_nil, Option.pure_def, Option.some.injEq] at h
    subst h
    cases us with
    | nil => rfl
    | cons x r => cases hl
  | a :: xs, vs, us, h, hl, hr => by
    simp only [List.mapM_cons, Option.bind_eq_bind, Option.bind_eq_some_iff, Option.pure_def, Option.some.injEq] at h
    obtain ⟨v, h1, r, h2, rfl⟩ := h
    cases us with
    | nil => cases hl
    | cons u us =>
      rw [flatV1_val h1 (hr 0 a u rfl rfl), vals_of h2 (by simpa using hl) fun i b x hb hx => hr (i + 1) b x hb hx]
/-- A contract of a function of plain values that leaves all memory as it was. -/
theorem ctr_flat {cx : Cx} {f : FuncId} {sp : Spec} (hen : Enters cx.P f) (hc : ∀ xs, sp.cost xs = 0)
    (h : ∀ xs, sp.pre xs → ∃ vals r v, xs.mapM flatV1 = some vals ∧ sp.post xs r ∧ flatR r = some v ∧ ∀ w, GlAt cx w → Calls cx.P f vals.toArray w fun e w' => e = .returned v ∧ Go.RowKit.Below w.heap.size w w') : Ctr cx f sp := by
  refine ⟨hen, fun xs hp => ?_, ?_⟩
  · obtain ⟨vals, r, v, _, h2, _⟩ := h xs hp
    exact ⟨r, h2⟩
  · intro F xs us hcx hF hst hgl hco hlen hargs hp
    obtain ⟨vals, r, v, h1, h2, h3, h4⟩ := h xs hp
    obtain rfl := vals_of h1 hlen hargs
    refine (h4 F.w0 hgl).mono ?_
    rintro e w' ⟨rfl, hb⟩
    have hm := flatR_mk (cx := cx) (w0 := F.w0) (ok := resOk F sp.fresh) (ρ := fun _ => undef) (w := w') h3
    exact ⟨v, r, rfl, ⟨hb.os, hb.tape, hb.output, hb.size, fun b hlt _ => hb.block b hlt⟩, by rw [hc]; exact hst.keep hb.size (fun b hlt => hb.block b hlt), h2, hm.2, hm.1⟩
end Go.Avc

/- The program's structs as Lean structures, and how they lie in rows of cells. No condition. -/
set_option linter.unusedVariables false
set_option linter.unusedSimpArgs false
set_option maxRecDepth 100000
namespace Go.Avc
open Go Go.Proofs

def rowsK (k : IntKind) (l : List Int) : List (List D) := l.map fun c => [.int k c]
theorem rowsK_len (k : IntKind) (l : List Int) : (rowsK k l).length = l.length := List.length_map ..
theorem rowsK_app (k : IntKind) (l m : List Int) : rowsK k (l ++ m) = rowsK k l ++ rowsK k m := List.map_append ..
theorem rowsK_one (k : IntKind) (c : Int) : [[D.int k c]] = rowsK k [c] := rfl
theorem rowsK_get (k : IntKind) (l : List Int) (i : Nat) : (rowsK k l).getD i [.int k 0] = [.int k (l.getD i 0)] := by
  unfold rowsK
  rw [List.getD_eq_getElem?_getD, List.getElem?_map, List.getD_eq_getElem?_getD]
  cases l[i]? <;> rfl
theorem rowsK_set (k : IntKind) (l : List Int) (i : Nat) (c : Int) : (rowsK k l).set i [.int k c] = rowsK k (l.set i c) := by
  unfold rowsK
  rw [List.map_set]
theorem rowsK_z (k : IntKind) (l : List Int) : ∀ x ∈ rowsK k l, x.length = 1 := by
  intro x hx
  obtain ⟨c, _, rfl⟩ := List.mem_map.1 hx
  rfl
theorem rowsK_flat (k : IntKind) (l : List Int) : ((rowsK k l).all fun x => x.all D.flat) = true := by
  rw [List.all_eq_true]
  intro x hx
  obtain ⟨c, _, rfl⟩ := List.mem_map.1 hx
  rfl
/-- strings as a slice -/
def rowsT (l : List ByteArray) : List (List D) := l.map fun s => [.str s]
theorem rowsT_len (l : List ByteArray) : (rowsT l).length = l.length := List.length_map ..
theorem rowsT_get (l : List ByteArray) (i : Nat) : (rowsT l).getD i [.str ⟨#[]⟩] = [.str (l.getD i ⟨#[]⟩)] := by
  unfold rowsT
  rw [List.getD_eq_getElem?_getD, List.getElem?_map, List.getD_eq_getElem?_getD]
  cases l[i]? <;> rfl
theorem map_inj_of {α β : Type} {f : α → β} (h : ∀ a b, f a = f b → a = b) : ∀ {l m : List α}, (l.map f = m.map f) = (l = m)
  | [], [] => by simp
  | [], b :: m => by simp
  | a :: l, [] => by simp
  | a :: l, b :: m => by
    rw [List.map_cons, List.map_cons, List.cons.injEq, List.cons.injEq, map_inj_of h]
    exact propext ⟨fun ⟨x, y⟩ => ⟨h _ _ x, y⟩, fun ⟨x, y⟩ => ⟨x ▸ rfl, y⟩⟩
theorem rowsT_inj {l m : List ByteArray} : (rowsT l = rowsT m) = (l = m) := map_inj_of fun a b h => by
  simp only [List.cons.injEq, D.str.injEq, and_true] at h; exact h
theorem rowsKi_inj {k : IntKind} {l m : List Int} : (rowsK k l = rowsK k m) = (l = m) := map_inj_of fun a b h => by
  simp only [List.cons.injEq, D.int.injEq, and_true, true_and] at h; exact h
theorem intsDi_inj {l m : List Int} : (intsD l = intsD m) = (l = m) := rowsKi_inj (k := .i64)
theorem intsD_K (l : List Int) : intsD l = rowsK .i64 l := rfl
theorem intsD_app (l m : List Int) : intsD (l ++ m) = intsD l ++ intsD m := List.map_append ..
theorem intsD_nil : intsD [] = [] := rfl
theorem intsD_cons (c : Int) (l : List Int) : intsD (c :: l) = [.int .i64 c] :: intsD l := rfl
theorem rowsT_nil : rowsT [] = [] := rfl
theorem rowsT_cons (c : ByteArray) (l : List ByteArray) : rowsT (c :: l) = [.str c] :: rowsT l := rfl
theorem rowsT_app (l m : List ByteArray) : rowsT (l ++ m) = rowsT l ++ rowsT m := List.map_append ..
theorem rowsT_take (l : List ByteArray) (n : Nat) : (rowsT l).take n = rowsT (l.take n) := List.map_take.symm
theorem rowsT_drop (l : List ByteArray) (n : Nat) : (rowsT l).drop n = rowsT (l.drop n) := List.map_drop.symm
theorem intsD_take (l : List Int) (n : Nat) : (intsD l).take n = intsD (l.take n) := List.map_take.symm
theorem intsD_drop (l : List Int) (n : Nat) : (intsD l).drop n = intsD (l.drop n) := List.map_drop.symm
/-- Bounds of what is drawn. -/
def okI (n : Int) : Prop := -1125899906842624 ≤ n ∧ n ≤ 1125899906842624
def okS (s : ByteArray) : Prop := s.size ≤ 1073741824
def okL {α : Type} (p : α → Prop) (l : List α) : Prop := l.length ≤ 1048576 ∧ ∀ x ∈ l, p x
theorem okI_z : okI 0 := ⟨by decide, by decide⟩
theorem okS_z : okS ⟨#[]⟩ := by unfold okS; decide
theorem okL_z {α : Type} (p : α → Prop) : okL p [] := ⟨Nat.zero_le _, fun _ h => by cases h⟩
theorem map_get {α : Type} (f : α → List D) (l : List α) (i : Nat) (z : α) : (l.map f).getD i (f z) = f (l.getD i z) := by
  rw [List.getD_eq_getElem?_getD, List.getElem?_map, List.getD_eq_getElem?_getD]
  cases l[i]? <;> rfl
theorem ints1 (a : Int) : [[D.int .i64 a]] = intsD [a] := rfl
theorem intsc (a : Int) (l : List Int) : [D.int .i64 a] :: intsD l = intsD (a :: l) := rfl
theorem intsD_app' (l m : List Int) : intsD l ++ intsD m = intsD (l ++ m) := (List.map_append ..).symm
theorem ints_nil1 (l : List Int) : (intsD l = []) = (l = []) := propext List.map_eq_nil_iff
theorem ints_nil2 (l : List Int) : ([] = intsD l) = (l = []) := propext ⟨fun h => List.map_eq_nil_iff.1 h.symm, fun h => h ▸ rfl⟩
theorem intsD_len (l : List Int) : (intsD l).length = l.length := List.length_map ..
theorem intsD_get (l : List Int) (i : Nat) : (intsD l).getD i [.int .i64 0] = [.int .i64 (l.getD i 0)] := rowsK_get .i64 l i
theorem intsD_any (l : List Int) (p : List D → Bool) : (intsD l).any p = l.any fun a => p [.int .i64 a] := List.any_map
theorem rowsT_any (l : List ByteArray) (p : List D → Bool) : (rowsT l).any p = l.any fun a => p [.str a] := List.any_map
theorem intsD_zlT (l : List Int) : (∀ y ∈ intsD l, y.length = 1) = True := eq_true (rowsK_z .i64 l)
theorem rowsT_zlT (l : List ByteArray) : (∀ y ∈ rowsT l, y.length = 1) = True := eq_true fun y hy => by obtain ⟨x, _, rfl⟩ := List.mem_map.1 hy; rfl
theorem strs1 (a : ByteArray) : [[D.str a]] = rowsT [a] := rfl
theorem strsc (a : ByteArray) (l : List ByteArray) : [D.str a] :: rowsT l = rowsT (a :: l) := rfl
theorem rowsT_app' (l m : List ByteArray) : rowsT l ++ rowsT m = rowsT (l ++ m) := (List.map_append ..).symm
theorem strs_nil1 (l : List ByteArray) : (rowsT l = []) = (l = []) := propext List.map_eq_nil_iff
theorem strs_nil2 (l : List ByteArray) : ([] = rowsT l) = (l = []) := propext ⟨fun h => List.map_eq_nil_iff.1 h.symm, fun h => h ▸ rfl⟩
/-- slices of slices of numbers, of strings -/
def rowsLI (l : List (List Int)) : List (List D) := l.map fun q => [.sl (intsD q)]
theorem rowsLI_len (l : List (List Int)) : (rowsLI l).length = l.length := List.length_map ..
theorem rowsLI_get (l : List (List Int)) (i : Nat) : (rowsLI l).getD i [.sl []] = [.sl (intsD (l.getD i []))] := map_get (fun q : List Int => [.sl (intsD q)]) l i []
theorem LI_1 (q : List Int) : [[D.sl (intsD q)]] = rowsLI [q] := rfl
theorem LI_c (q : List Int) (l : List (List Int)) : [D.sl (intsD q)] :: rowsLI l = rowsLI (q :: l) := rfl
theorem LI_n (l : List (List Int)) : [D.sl []] :: rowsLI l = rowsLI ([] :: l) := rfl
def rowsLT (l : List (List ByteArray)) : List (List D) := l.map fun q => [.sl (rowsT q)]
theorem LT_1 (q : List ByteArray) : [[D.sl (rowsT q)]] = rowsLT [q] := rfl
theorem LT_c (q : List ByteArray) (l : List (List ByteArray)) : [D.sl (rowsT q)] :: rowsLT l = rowsLT (q :: l) := rfl
theorem LT_n (l : List (List ByteArray)) : [D.sl []] :: rowsLT l = rowsLT ([] :: l) := rfl
theorem rowsLT_len (l : List (List ByteArray)) : (rowsLT l).length = l.length := List.length_map ..
theorem rowsLT_get (l : List (List ByteArray)) (i : Nat) : (rowsLT l).getD i [.sl []] = [.sl (rowsT (l.getD i []))] := map_get (fun q : List ByteArray => [.sl (rowsT q)]) l i []

structure TId where
  kind : Int
  text : ByteArray
def TId.z : TId := ⟨0, ⟨#[]⟩⟩
instance : Inhabited TId := ⟨TId.z⟩
def TId.row (x : TId) : List D := [.int .i64 x.kind, .str x.text]
def TId.rows (l : List TId) : List (List D) := l.map TId.row
theorem TId.inj {x y : TId} (h : x.row = y.row) : x = y := by
  obtain ⟨_, _⟩ := x; obtain ⟨_, _⟩ := y
  simp only [TId.row, List.cons.injEq, D.int.injEq, D.str.injEq, D.bool.injEq, D.sl.injEq, true_and, and_true] at h
  obtain ⟨rfl, rfl⟩ := h; rfl
theorem TId.row_inj {x y : TId} : (x.row = y.row) = (x = y) := propext ⟨TId.inj, fun h => h ▸ rfl⟩
theorem TId.rows_inj {l m : List TId} : (TId.rows l = TId.rows m) = (l = m) := map_inj_of fun _ _ => TId.inj
theorem TId.len (l : List TId) : (TId.rows l).length = l.length := List.length_map ..
theorem TId.app (l m : List TId) : TId.rows (l ++ m) = TId.rows l ++ TId.rows m := List.map_append ..
theorem TId.nil : TId.rows [] = [] := rfl
theorem TId.cons (x : TId) (l : List TId) : TId.rows (x :: l) = x.row :: TId.rows l := rfl
theorem TId.rtake (l : List TId) (n : Nat) : (TId.rows l).take n = TId.rows (l.take n) := List.map_take.symm
theorem TId.rdrop (l : List TId) (n : Nat) : (TId.rows l).drop n = TId.rows (l.drop n) := List.map_drop.symm
theorem TId.rset (l : List TId) (n : Nat) (x : TId) : (TId.rows l).set n x.row = TId.rows (l.set n x) := by simp only [TId.rows, List.map_set]
theorem TId.get (l : List TId) (i : Nat) : (TId.rows l).getD i [.int .i64 0, .str ⟨#[]⟩] = [.int .i64 (l.getD i TId.z).kind, .str (l.getD i TId.z).text] := map_get TId.row l i TId.z
theorem TId.z_len (l : List TId) : ∀ y ∈ TId.rows l, y.length = 2 := fun y hy => by obtain ⟨x, _, rfl⟩ := List.mem_map.1 hy; rfl
theorem TId.zlT (l : List TId) : (∀ y ∈ TId.rows l, y.length = 2) = True := eq_true (TId.z_len l)
theorem TId.any (l : List TId) (p : List D → Bool) : (TId.rows l).any p = l.any fun a => p a.row := List.any_map
theorem TId.ex {p : TId → Prop} : (∃ x, p x) = ∃ a0 a1, p ⟨a0, a1⟩ := propext ⟨fun ⟨⟨a0, a1⟩, h⟩ => ⟨a0, a1, h⟩, fun ⟨a0, a1, h⟩ => ⟨⟨a0, a1⟩, h⟩⟩
theorem TId.nil1 (l : List TId) : (TId.rows l = []) = (l = []) := propext List.map_eq_nil_iff
theorem TId.nil2 (l : List TId) : ([] = TId.rows l) = (l = []) := propext ⟨fun h => List.map_eq_nil_iff.1 h.symm, fun h => h ▸ rfl⟩
theorem TId.fold1 (b1 : Int) (b2 : ByteArray) : [[D.int .i64 b1, D.str b2]] = TId.rows [⟨b1, b2⟩] := rfl
theorem TId.foldc (b1 : Int) (b2 : ByteArray) (l : List TId) : [D.int .i64 b1, D.str b2] :: TId.rows l = TId.rows (⟨b1, b2⟩ :: l) := rfl
theorem TId.foldr (b1 : Int) (b2 : ByteArray) (x : TId) : ([D.int .i64 b1, D.str b2] = x.row) = (x = ⟨b1, b2⟩) := propext ⟨fun h => TId.inj (x := x) (y := ⟨b1, b2⟩) h.symm, fun h => h ▸ rfl⟩
theorem TId.app' (l m : List TId) : TId.rows l ++ TId.rows m = TId.rows (l ++ m) := (List.map_append ..).symm
def TId.ok (x : TId) : Prop := okI x.kind ∧ okS x.text
theorem TId.z_ok : TId.z.ok := ⟨okI_z, okS_z⟩
theorem TId.flat (l : List TId) : ((TId.rows l).all fun x => x.all D.flat) = true := by
  rw [List.all_eq_true]; intro y hy; obtain ⟨x, _, rfl⟩ := List.mem_map.1 hy; rfl
structure TValue where
  kind : Int
  text : ByteArray
  number : Int
def TValue.z : TValue := ⟨0, ⟨#[]⟩, 0⟩
instance : Inhabited TValue := ⟨TValue.z⟩
def TValue.row (x : TValue) : List D := [.int .i64 x.kind, .str x.text, .int .i64 x.number]
def TValue.rows (l : List TValue) : List (List D) := l.map TValue.row
theorem TValue.inj {x y : TValue} (h : x.row = y.row) : x = y := by
  obtain ⟨_, _, _⟩ := x; obtain ⟨_, _, _⟩ := y
  simp only [TValue.row, List.cons.injEq, D.int.injEq, D.str.injEq, D.bool.injEq, D.sl.injEq, true_and, and_true] at h
  obtain ⟨rfl, rfl, rfl⟩ := h; rfl
theorem TValue.row_inj {x y : TValue} : (x.row = y.row) = (x = y) := propext ⟨TValue.inj, fun h => h ▸ rfl⟩
theorem TValue.rows_inj {l m : List TValue} : (TValue.rows l = TValue.rows m) = (l = m) := map_inj_of fun _ _ => TValue.inj
theorem TValue.len (l : List TValue) : (TValue.rows l).length = l.length := List.length_map ..
theorem TValue.app (l m : List TValue) : TValue.rows (l ++ m) = TValue.rows l ++ TValue.rows m := List.map_append ..
theorem TValue.nil : TValue.rows [] = [] := rfl
theorem TValue.cons (x : TValue) (l : List TValue) : TValue.rows (x :: l) = x.row :: TValue.rows l := rfl
theorem TValue.rtake (l : List TValue) (n : Nat) : (TValue.rows l).take n = TValue.rows (l.take n) := List.map_take.symm
theorem TValue.rdrop (l : List TValue) (n : Nat) : (TValue.rows l).drop n = TValue.rows (l.drop n) := List.map_drop.symm
theorem TValue.rset (l : List TValue) (n : Nat) (x : TValue) : (TValue.rows l).set n x.row = TValue.rows (l.set n x) := by simp only [TValue.rows, List.map_set]
theorem TValue.get (l : List TValue) (i : Nat) : (TValue.rows l).getD i [.int .i64 0, .str ⟨#[]⟩, .int .i64 0] = [.int .i64 (l.getD i TValue.z).kind, .str (l.getD i TValue.z).text, .int .i64 (l.getD i TValue.z).number] := map_get TValue.row l i TValue.z
theorem TValue.z_len (l : List TValue) : ∀ y ∈ TValue.rows l, y.length = 3 := fun y hy => by obtain ⟨x, _, rfl⟩ := List.mem_map.1 hy; rfl
theorem TValue.zlT (l : List TValue) : (∀ y ∈ TValue.rows l, y.length = 3) = True := eq_true (TValue.z_len l)
theorem TValue.any (l : List TValue) (p : List D → Bool) : (TValue.rows l).any p = l.any fun a => p a.row := List.any_map
theorem TValue.ex {p : TValue → Prop} : (∃ x, p x) = ∃ a0 a1 a2, p ⟨a0, a1, a2⟩ := propext ⟨fun ⟨⟨a0, a1, a2⟩, h⟩ => ⟨a0, a1, a2, h⟩, fun ⟨a0, a1, a2, h⟩ => ⟨⟨a0, a1, a2⟩, h⟩⟩
theorem TValue.nil1 (l : List TValue) : (TValue.rows l = []) = (l = []) := propext List.map_eq_nil_iff
theorem TValue.nil2 (l : List TValue) : ([] = TValue.rows l) = (l = []) := propext ⟨fun h => List.map_eq_nil_iff.1 h.symm, fun h => h ▸ rfl⟩
theorem TValue.fold1 (b1 : Int) (b2 : ByteArray) (b3 : Int) : [[D.int .i64 b1, D.str b2, D.int .i64 b3]] = TValue.rows [⟨b1, b2, b3⟩] := rfl
theorem TValue.foldc (b1 : Int) (b2 : ByteArray) (b3 : Int) (l : List TValue) : [D.int .i64 b1, D.str b2, D.int .i64 b3] :: TValue.rows l = TValue.rows (⟨b1, b2, b3⟩ :: l) := rfl
theorem TValue.foldr (b1 : Int) (b2 : ByteArray) (b3 : Int) (x : TValue) : ([D.int .i64 b1, D.str b2, D.int .i64 b3] = x.row) = (x = ⟨b1, b2, b3⟩) := propext ⟨fun h => TValue.inj (x := x) (y := ⟨b1, b2, b3⟩) h.symm, fun h => h ▸ rfl⟩
theorem TValue.app' (l m : List TValue) : TValue.rows l ++ TValue.rows m = TValue.rows (l ++ m) := (List.map_append ..).symm
def TValue.ok (x : TValue) : Prop := okI x.kind ∧ okS x.text ∧ okI x.number
theorem TValue.z_ok : TValue.z.ok := ⟨okI_z, okS_z, okI_z⟩
theorem TValue.flat (l : List TValue) : ((TValue.rows l).all fun x => x.all D.flat) = true := by
  rw [List.all_eq_true]; intro y hy; obtain ⟨x, _, rfl⟩ := List.mem_map.1 hy; rfl
structure TField where
  name : ByteArray
  value : TValue
def TField.z : TField := ⟨⟨#[]⟩, ⟨0, ⟨#[]⟩, 0⟩⟩
instance : Inhabited TField := ⟨TField.z⟩
def TField.row (x : TField) : List D := [.str x.name, .int .i64 x.value.kind, .str x.value.text, .int .i64 x.value.number]
def TField.rows (l : List TField) : List (List D) := l.map TField.row
theorem TField.inj {x y : TField} (h : x.row = y.row) : x = y := by
  obtain ⟨_, ⟨_, _, _⟩⟩ := x; obtain ⟨_, ⟨_, _, _⟩⟩ := y
  simp only [TField.row, List.cons.injEq, D.int.injEq, D.str.injEq, D.bool.injEq, D.sl.injEq, true_and, and_true] at h
  obtain ⟨rfl, rfl, rfl, rfl⟩ := h; rfl
theorem TField.row_inj {x y : TField} : (x.row = y.row) = (x = y) := propext ⟨TField.inj, fun h => h ▸ rfl⟩
theorem TField.rows_inj {l m : List TField} : (TField.rows l = TField.rows m) = (l = m) := map_inj_of fun _ _ => TField.inj
theorem TField.len (l : List TField) : (TField.rows l).length = l.length := List.length_map ..
theorem TField.app (l m : List TField) : TField.rows (l ++ m) = TField.rows l ++ TField.rows m := List.map_append ..
theorem TField.nil : TField.rows [] = [] := rfl
theorem TField.cons (x : TField) (l : List TField) : TField.rows (x :: l) = x.row :: TField.rows l := rfl
theorem TField.rtake (l : List TField) (n : Nat) : (TField.rows l).take n = TField.rows (l.take n) := List.map_take.symm
theorem TField.rdrop (l : List TField) (n : Nat) : (TField.rows l).drop n = TField.rows (l.drop n) := List.map_drop.symm
theorem TField.rset (l : List TField) (n : Nat) (x : TField) : (TField.rows l).set n x.row = TField.rows (l.set n x) := by simp only [TField.rows, List.map_set]
theorem TField.get (l : List TField) (i : Nat) : (TField.rows l).getD i [.str ⟨#[]⟩, .int .i64 0, .str ⟨#[]⟩, .int .i64 0] = [.str (l.getD i TField.z).name, .int .i64 (l.getD i TField.z).value.kind, .str (l.getD i TField.z).value.text, .int .i64 (l.getD i TField.z).value.number] := map_get TField.row l i TField.z
theorem TField.z_len (l : List TField) : ∀ y ∈ TField.rows l, y.length = 4 := fun y hy => by obtain ⟨x, _, rfl⟩ := List.mem_map.1 hy; rfl
theorem TField.zlT (l : List TField) : (∀ y ∈ TField.rows l, y.length = 4) = True := eq_true (TField.z_len l)
theorem TField.any (l : List TField) (p : List D → Bool) : (TField.rows l).any p = l.any fun a => p a.row := List.any_map
theorem TField.ex {p : TField → Prop} : (∃ x, p x) = ∃ a0 a1, p ⟨a0, a1⟩ := propext ⟨fun ⟨⟨a0, a1⟩, h⟩ => ⟨a0, a1, h⟩, fun ⟨a0, a1, h⟩ => ⟨⟨a0, a1⟩, h⟩⟩
theorem TField.nil1 (l : List TField) : (TField.rows l = []) = (l = []) := propext List.map_eq_nil_iff
theorem TField.nil2 (l : List TField) : ([] = TField.rows l) = (l = []) := propext ⟨fun h => List.map_eq_nil_iff.1 h.symm, fun h => h ▸ rfl⟩
theorem TField.fold1 (b1 : ByteArray) (b2 : Int) (b3 : ByteArray) (b4 : Int) : [[D.str b1, D.int .i64 b2, D.str b3, D.int .i64 b4]] = TField.rows [⟨b1, ⟨b2, b3, b4⟩⟩] := rfl
theorem TField.foldc (b1 : ByteArray) (b2 : Int) (b3 : ByteArray) (b4 : Int) (l : List TField) : [D.str b1, D.int .i64 b2, D.str b3, D.int .i64 b4] :: TField.rows l = TField.rows (⟨b1, ⟨b2, b3, b4⟩⟩ :: l) := rfl
theorem TField.foldr (b1 : ByteArray) (b2 : Int) (b3 : ByteArray) (b4 : Int) (x : TField) : ([D.str b1, D.int .i64 b2, D.str b3, D.int .i64 b4] = x.row) = (x = ⟨b1, ⟨b2, b3, b4⟩⟩) := propext ⟨fun h => TField.inj (x := x) (y := ⟨b1, ⟨b2, b3, b4⟩⟩) h.symm, fun h => h ▸ rfl⟩
theorem TField.app' (l m : List TField) : TField.rows l ++ TField.rows m = TField.rows (l ++ m) := (List.map_append ..).symm
def TField.ok (x : TField) : Prop := okS x.name ∧ TValue.ok x.value
theorem TField.z_ok : TField.z.ok := ⟨okS_z, TValue.z_ok⟩
theorem TField.flat (l : List TField) : ((TField.rows l).all fun x => x.all D.flat) = true := by
  rw [List.all_eq_true]; intro y hy; obtain ⟨x, _, rfl⟩ := List.mem_map.1 hy; rfl
structure TShift where
  at_ : Int
  offset : Int
def TShift.z : TShift := ⟨0, 0⟩
instance : Inhabited TShift := ⟨TShift.z⟩
def TShift.row (x : TShift) : List D := [.int .i64 x.at_, .int .i64 x.offset]
def TShift.rows (l : List TShift) : List (List D) := l.map TShift.row
theorem TShift.inj {x y : TShift} (h : x.row = y.row) : x = y := by
  obtain ⟨_, _⟩ := x; obtain ⟨_, _⟩ := y
  simp only [TShift.row, List.cons.injEq, D.int.injEq, D.str.injEq, D.bool.injEq, D.sl.injEq, true_and, and_true] at h
  obtain ⟨rfl, rfl⟩ := h; rfl
theorem TShift.row_inj {x y : TShift} : (x.row = y.row) = (x = y) := propext ⟨TShift.inj, fun h => h ▸ rfl⟩
theorem TShift.rows_inj {l m : List TShift} : (TShift.rows l = TShift.rows m) = (l = m) := map_inj_of fun _ _ => TShift.inj
theorem TShift.len (l : List TShift) : (TShift.rows l).length = l.length := List.length_map ..
theorem TShift.app (l m : List TShift) : TShift.rows (l ++ m) = TShift.rows l ++ TShift.rows m := List.map_append ..
theorem TShift.nil : TShift.rows [] = [] := rfl
theorem TShift.cons (x : TShift) (l : List TShift) : TShift.rows (x :: l) = x.row :: TShift.rows l := rfl
theorem TShift.rtake (l : List TShift) (n : Nat) : (TShift.rows l).take n = TShift.rows (l.take n) := List.map_take.symm
theorem TShift.rdrop (l : List TShift) (n : Nat) : (TShift.rows l).drop n = TShift.rows (l.drop n) := List.map_drop.symm
theorem TShift.rset (l : List TShift) (n : Nat) (x : TShift) : (TShift.rows l).set n x.row = TShift.rows (l.set n x) := by simp only [TShift.rows, List.map_set]
theorem TShift.get (l : List TShift) (i : Nat) : (TShift.rows l).getD i [.int .i64 0, .int .i64 0] = [.int .i64 (l.getD i TShift.z).at_, .int .i64 (l.getD i TShift.z).offset] := map_get TShift.row l i TShift.z
theorem TShift.z_len (l : List TShift) : ∀ y ∈ TShift.rows l, y.length = 2 := fun y hy => by obtain ⟨x, _, rfl⟩ := List.mem_map.1 hy; rfl
theorem TShift.zlT (l : List TShift) : (∀ y ∈ TShift.rows l, y.length = 2) = True := eq_true (TShift.z_len l)
theorem TShift.any (l : List TShift) (p : List D → Bool) : (TShift.rows l).any p = l.any fun a => p a.row := List.any_map
theorem TShift.ex {p : TShift → Prop} : (∃ x, p x) = ∃ a0 a1, p ⟨a0, a1⟩ := propext ⟨fun ⟨⟨a0, a1⟩, h⟩ => ⟨a0, a1, h⟩, fun ⟨a0, a1, h⟩ => ⟨⟨a0, a1⟩, h⟩⟩
theorem TShift.nil1 (l : List TShift) : (TShift.rows l = []) = (l = []) := propext List.map_eq_nil_iff
theorem TShift.nil2 (l : List TShift) : ([] = TShift.rows l) = (l = []) := propext ⟨fun h => List.map_eq_nil_iff.1 h.symm, fun h => h ▸ rfl⟩
theorem TShift.fold1 (b1 : Int) (b2 : Int) : [[D.int .i64 b1, D.int .i64 b2]] = TShift.rows [⟨b1, b2⟩] := rfl
theorem TShift.foldc (b1 : Int) (b2 : Int) (l : List TShift) : [D.int .i64 b1, D.int .i64 b2] :: TShift.rows l = TShift.rows (⟨b1, b2⟩ :: l) := rfl
theorem TShift.foldr (b1 : Int) (b2 : Int) (x : TShift) : ([D.int .i64 b1, D.int .i64 b2] = x.row) = (x = ⟨b1, b2⟩) := propext ⟨fun h => TShift.inj (x := x) (y := ⟨b1, b2⟩) h.symm, fun h => h ▸ rfl⟩
theorem TShift.app' (l m : List TShift) : TShift.rows l ++ TShift.rows m = TShift.rows (l ++ m) := (List.map_append ..).symm
def TShift.ok (x : TShift) : Prop := okI x.at_ ∧ okI x.offset
theorem TShift.z_ok : TShift.z.ok := ⟨okI_z, okI_z⟩
theorem TShift.flat (l : List TShift) : ((TShift.rows l).all fun x => x.all D.flat) = true := by
  rw [List.all_eq_true]; intro y hy; obtain ⟨x, _, rfl⟩ := List.mem_map.1 hy; rfl
structure TZone where
  name : ByteArray
  shifts : List TShift
def TZone.z : TZone := ⟨⟨#[]⟩, []⟩
instance : Inhabited TZone := ⟨TZone.z⟩
def TZone.row (x : TZone) : List D := [.str x.name, .sl (TShift.rows x.shifts)]
def TZone.rows (l : List TZone) : List (List D) := l.map TZone.row
theorem TZone.inj {x y : TZone} (h : x.row = y.row) : x = y := by
  obtain ⟨_, _⟩ := x; obtain ⟨_, _⟩ := y
  simp only [TZone.row, List.cons.injEq, D.int.injEq, D.str.injEq, D.bool.injEq, D.sl.injEq, true_and, and_true, TShift.rows_inj] at h
  obtain ⟨rfl, rfl⟩ := h; rfl
theorem TZone.row_inj {x y : TZone} : (x.row = y.row) = (x = y) := propext ⟨TZone.inj, fun h => h ▸ rfl⟩
theorem TZone.rows_inj {l m : List TZone} : (TZone.rows l = TZone.rows m) = (l = m) := map_inj_of fun _ _ => TZone.inj
theorem TZone.len (l : List TZone) : (TZone.rows l).length = l.length := List.length_map ..
theorem TZone.app (l m : List TZone) : TZone.rows (l ++ m) = TZone.rows l ++ TZone.rows m := List.map_append ..
theorem TZone.nil : TZone.rows [] = [] := rfl
theorem TZone.cons (x : TZone) (l : List TZone) : TZone.rows (x :: l) = x.row :: TZone.rows l := rfl
theorem TZone.rtake (l : List TZone) (n : Nat) : (TZone.rows l).take n = TZone.rows (l.take n) := List.map_take.symm
theorem TZone.rdrop (l : List TZone) (n : Nat) : (TZone.rows l).drop n = TZone.rows (l.drop n) := List.map_drop.symm
theorem TZone.rset (l : List TZone) (n : Nat) (x : TZone) : (TZone.rows l).set n x.row = TZone.rows (l.set n x) := by simp only [TZone.rows, List.map_set]
theorem TZone.get (l : List TZone) (i : Nat) : (TZone.rows l).getD i [.str ⟨#[]⟩, .sl []] = [.str (l.getD i TZone.z).name, .sl (TShift.rows (l.getD i TZone.z).shifts)] := map_get TZone.row l i TZone.z
theorem TZone.z_len (l : List TZone) : ∀ y ∈ TZone.rows l, y.length = 2 := fun y hy => by obtain ⟨x, _, rfl⟩ := List.mem_map.1 hy; rfl
theorem TZone.zlT (l : List TZone) : (∀ y ∈ TZone.rows l, y.length = 2) = True := eq_true (TZone.z_len l)
theorem TZone.any (l : List TZone) (p : List D → Bool) : (TZone.rows l).any p = l.any fun a => p a.row := List.any_map
theorem TZone.ex {p : TZone → Prop} : (∃ x, p x) = ∃ a0 a1, p ⟨a0, a1⟩ := propext ⟨fun ⟨⟨a0, a1⟩, h⟩ => ⟨a0, a1, h⟩, fun ⟨a0, a1, h⟩ => ⟨⟨a0, a1⟩, h⟩⟩
theorem TZone.nil1 (l : List TZone) : (TZone.rows l = []) = (l = []) := propext List.map_eq_nil_iff
theorem TZone.nil2 (l : List TZone) : ([] = TZone.rows l) = (l = []) := propext ⟨fun h => List.map_eq_nil_iff.1 h.symm, fun h => h ▸ rfl⟩
theorem TZone.fold1 (b1 : ByteArray) (b2 : List TShift) : [[D.str b1, D.sl (TShift.rows b2)]] = TZone.rows [⟨b1, b2⟩] := rfl
theorem TZone.foldc (b1 : ByteArray) (b2 : List TShift) (l : List TZone) : [D.str b1, D.sl (TShift.rows b2)] :: TZone.rows l = TZone.rows (⟨b1, b2⟩ :: l) := rfl
theorem TZone.foldr (b1 : ByteArray) (b2 : List TShift) (x : TZone) : ([D.str b1, D.sl (TShift.rows b2)] = x.row) = (x = ⟨b1, b2⟩) := propext ⟨fun h => TZone.inj (x := x) (y := ⟨b1, b2⟩) h.symm, fun h => h ▸ rfl⟩
theorem TZone.app' (l m : List TZone) : TZone.rows l ++ TZone.rows m = TZone.rows (l ++ m) := (List.map_append ..).symm
def TZone.ok (x : TZone) : Prop := okS x.name ∧ okL TShift.ok x.shifts
theorem TZone.z_ok : TZone.z.ok := ⟨okS_z, okL_z _⟩
structure TWindow where
  from_ : Int
  to_ : Int
def TWindow.z : TWindow := ⟨0, 0⟩
instance : Inhabited TWindow := ⟨TWindow.z⟩
def TWindow.row (x : TWindow) : List D := [.int .i64 x.from_, .int .i64 x.to_]
def TWindow.rows (l : List TWindow) : List (List D) := l.map TWindow.row
theorem TWindow.inj {x y : TWindow} (h : x.row = y.row) : x = y := by
  obtain ⟨_, _⟩ := x; obtain ⟨_, _⟩ := y
  simp only [TWindow.row, List.cons.injEq, D.int.injEq, D.str.injEq, D.bool.injEq, D.sl.injEq, true_and, and_true] at h
  obtain ⟨rfl, rfl⟩ := h; rfl
theorem TWindow.row_inj {x y : TWindow} : (x.row = y.row) = (x = y) := propext ⟨TWindow.inj, fun h => h ▸ rfl⟩
theorem TWindow.rows_inj {l m : List TWindow} : (TWindow.rows l = TWindow.rows m) = (l = m) := map_inj_of fun _ _ => TWindow.inj
theorem TWindow.len (l : List TWindow) : (TWindow.rows l).length = l.length := List.length_map ..
theorem TWindow.app (l m : List TWindow) : TWindow.rows (l ++ m) = TWindow.rows l ++ TWindow.rows m := List.map_append ..
theorem TWindow.nil : TWindow.rows [] = [] := rfl
theorem TWindow.cons (x : TWindow) (l : List TWindow) : TWindow.rows (x :: l) = x.row :: TWindow.rows l := rfl
theorem TWindow.rtake (l : List TWindow) (n : Nat) : (TWindow.rows l).take n = TWindow.rows (l.take n) := List.map_take.symm
theorem TWindow.rdrop (l : List TWindow) (n : Nat) : (TWindow.rows l).drop n = TWindow.rows (l.drop n) := List.map_drop.symm
theorem TWindow.rset (l : List TWindow) (n : Nat) (x : TWindow) : (TWindow.rows l).set n x.row = TWindow.rows (l.set n x) := by simp only [TWindow.rows, List.map_set]
theorem TWindow.get (l : List TWindow) (i : Nat) : (TWindow.rows l).getD i [.int .i64 0, .int .i64 0] = [.int .i64 (l.getD i TWindow.z).from_, .int .i64 (l.getD i TWindow.z).to_] := map_get TWindow.row l i TWindow.z
theorem TWindow.z_len (l : List TWindow) : ∀ y ∈ TWindow.rows l, y.length = 2 := fun y hy => by obtain ⟨x, _, rfl⟩ := List.mem_map.1 hy; rfl
theorem TWindow.zlT (l : List TWindow) : (∀ y ∈ TWindow.rows l, y.length = 2) = True := eq_true (TWindow.z_len l)
theorem TWindow.any (l : List TWindow) (p : List D → Bool) : (TWindow.rows l).any p = l.any fun a => p a.row := List.any_map
theorem TWindow.ex {p : TWindow → Prop} : (∃ x, p x) = ∃ a0 a1, p ⟨a0, a1⟩ := propext ⟨fun ⟨⟨a0, a1⟩, h⟩ => ⟨a0, a1, h⟩, fun ⟨a0, a1, h⟩ => ⟨⟨a0, a1⟩, h⟩⟩
theorem TWindow.nil1 (l : List TWindow) : (TWindow.rows l = []) = (l = []) := propext List.map_eq_nil_iff
theorem TWindow.nil2 (l : List TWindow) : ([] = TWindow.rows l) = (l = []) := propext ⟨fun h => List.map_eq_nil_iff.1 h.symm, fun h => h ▸ rfl⟩
theorem TWindow.fold1 (b1 : Int) (b2 : Int) : [[D.int .i64 b1, D.int .i64 b2]] = TWindow.rows [⟨b1, b2⟩] := rfl
theorem TWindow.foldc (b1 : Int) (b2 : Int) (l : List TWindow) : [D.int .i64 b1, D.int .i64 b2] :: TWindow.rows l = TWindow.rows (⟨b1, b2⟩ :: l) := rfl
theorem TWindow.foldr (b1 : Int) (b2 : Int) (x : TWindow) : ([D.int .i64 b1, D.int .i64 b2] = x.row) = (x = ⟨b1, b2⟩) := propext ⟨fun h => TWindow.inj (x := x) (y := ⟨b1, b2⟩) h.symm, fun h => h ▸ rfl⟩
theorem TWindow.app' (l m : List TWindow) : TWindow.rows l ++ TWindow.rows m = TWindow.rows (l ++ m) := (List.map_append ..).symm
def TWindow.ok (x : TWindow) : Prop := okI x.from_ ∧ okI x.to_
theorem TWindow.z_ok : TWindow.z.ok := ⟨okI_z, okI_z⟩
theorem TWindow.flat (l : List TWindow) : ((TWindow.rows l).all fun x => x.all D.flat) = true := by
  rw [List.all_eq_true]; intro y hy; obtain ⟨x, _, rfl⟩ := List.mem_map.1 hy; rfl
structure TCap where
  channel : Int
  purpose : ByteArray
  many : Int
  within : Int
def TCap.z : TCap := ⟨0, ⟨#[]⟩, 0, 0⟩
instance : Inhabited TCap := ⟨TCap.z⟩
def TCap.row (x : TCap) : List D := [.int .i64 x.channel, .str x.purpose, .int .i64 x.many, .int .i64 x.within]
def TCap.rows (l : List TCap) : List (List D) := l.map TCap.row
theorem TCap.inj {x y : TCap} (h : x.row = y.row) : x = y := by
  obtain ⟨_, _, _, _⟩ := x; obtain ⟨_, _, _, _⟩ := y
  simp only [TCap.row, List.cons.injEq, D.int.injEq, D.str.injEq, D.bool.injEq, D.sl.injEq, true_and, and_true] at h
  obtain ⟨rfl, rfl, rfl, rfl⟩ := h; rfl
theorem TCap.row_inj {x y : TCap} : (x.row = y.row) = (x = y) := propext ⟨TCap.inj, fun h => h ▸ rfl⟩
theorem TCap.rows_inj {l m : List TCap} : (TCap.rows l = TCap.rows m) = (l = m) := map_inj_of fun _ _ => TCap.inj
theorem TCap.len (l : List TCap) : (TCap.rows l).length = l.length := List.length_map ..
theorem TCap.app (l m : List TCap) : TCap.rows (l ++ m) = TCap.rows l ++ TCap.rows m := List.map_append ..
theorem TCap.nil : TCap.rows [] = [] := rfl
theorem TCap.cons (x : TCap) (l : List TCap) : TCap.rows (x :: l) = x.row :: TCap.rows l := rfl
theorem TCap.rtake (l : List TCap) (n : Nat) : (TCap.rows l).take n = TCap.rows (l.take n) := List.map_take.symm
theorem TCap.rdrop (l : List TCap) (n : Nat) : (TCap.rows l).drop n = TCap.rows (l.drop n) := List.map_drop.symm
theorem TCap.rset (l : List TCap) (n : Nat) (x : TCap) : (TCap.rows l).set n x.row = TCap.rows (l.set n x) := by simp only [TCap.rows, List.map_set]
theorem TCap.get (l : List TCap) (i : Nat) : (TCap.rows l).getD i [.int .i64 0, .str ⟨#[]⟩, .int .i64 0, .int .i64 0] = [.int .i64 (l.getD i TCap.z).channel, .str (l.getD i TCap.z).purpose, .int .i64 (l.getD i TCap.z).many, .int .i64 (l.getD i TCap.z).within] := map_get TCap.row l i TCap.z
theorem TCap.z_len (l : List TCap) : ∀ y ∈ TCap.rows l, y.length = 4 := fun y hy => by obtain ⟨x, _, rfl⟩ := List.mem_map.1 hy; rfl
theorem TCap.zlT (l : List TCap) : (∀ y ∈ TCap.rows l, y.length = 4) = True := eq_true (TCap.z_len l)
theorem TCap.any (l : List TCap) (p : List D → Bool) : (TCap.rows l).any p = l.any fun a => p a.row := List.any_map
theorem TCap.ex {p : TCap → Prop} : (∃ x, p x) = ∃ a0 a1 a2 a3, p ⟨a0, a1, a2, a3⟩ := propext ⟨fun ⟨⟨a0, a1, a2, a3⟩, h⟩ => ⟨a0, a1, a2, a3, h⟩, fun ⟨a0, a1, a2, a3, h⟩ => ⟨⟨a0, a1, a2, a3⟩, h⟩⟩
theorem TCap.nil1 (l : List TCap) : (TCap.rows l = []) = (l = []) := propext List.map_eq_nil_iff
theorem TCap.nil2 (l : List TCap) : ([] = TCap.rows l) = (l = []) := propext ⟨fun h => List.map_eq_nil_iff.1 h.symm, fun h => h ▸ rfl⟩
theorem TCap.fold1 (b1 : Int) (b2 : ByteArray) (b3 : Int) (b4 : Int) : [[D.int .i64 b1, D.str b2, D.int .i64 b3, D.int .i64 b4]] = TCap.rows [⟨b1, b2, b3, b4⟩] := rfl
theorem TCap.foldc (b1 : Int) (b2 : ByteArray) (b3 : Int) (b4 : Int) (l : List TCap) : [D.int .i64 b1, D.str b2, D.int .i64 b3, D.int .i64 b4] :: TCap.rows l = TCap.rows (⟨b1, b2, b3, b4⟩ :: l) := rfl
theorem TCap.foldr (b1 : Int) (b2 : ByteArray) (b3 : Int) (b4 : Int) (x : TCap) : ([D.int .i64 b1, D.str b2, D.int .i64 b3, D.int .i64 b4] = x.row) = (x = ⟨b1, b2, b3, b4⟩) := propext ⟨fun h => TCap.inj (x := x) (y := ⟨b1, b2, b3, b4⟩) h.symm, fun h => h ▸ rfl⟩
theorem TCap.app' (l m : List TCap) : TCap.rows l ++ TCap.rows m = TCap.rows (l ++ m) := (List.map_append ..).symm
def TCap.ok (x : TCap) : Prop := okI x.channel ∧ okS x.purpose ∧ okI x.many ∧ okI x.within
theorem TCap.z_ok : TCap.z.ok := ⟨okI_z, okS_z, okI_z, okI_z⟩
theorem TCap.flat (l : List TCap) : ((TCap.rows l).all fun x => x.all D.flat) = true := by
  rw [List.all_eq_true]; intro y hy; obtain ⟨x, _, rfl⟩ := List.mem_map.1 hy; rfl
structure TPool where
  name : ByteArray
  channel : Int
  perMinute : Int
  first : Int
  warm : List Int
def TPool.z : TPool := ⟨⟨#[]⟩, 0, 0, 0, []⟩
instance : Inhabited TPool := ⟨TPool.z⟩
def TPool.row (x : TPool) : List D := [.str x.name, .int .i64 x.channel, .int .i64 x.perMinute, .int .i64 x.first, .sl (intsD x.warm)]
def TPool.rows (l : List TPool) : List (List D) := l.map TPool.row
theorem TPool.inj {x y : TPool} (h : x.row = y.row) : x = y := by
  obtain ⟨_, _, _, _, _⟩ := x; obtain ⟨_, _, _, _, _⟩ := y
  simp only [TPool.row, List.cons.injEq, D.int.injEq, D.str.injEq, D.bool.injEq, D.sl.injEq, true_and, and_true, intsDi_inj] at h
  obtain ⟨rfl, rfl, rfl, rfl, rfl⟩ := h; rfl
theorem TPool.row_inj {x y : TPool} : (x.row = y.row) = (x = y) := propext ⟨TPool.inj, fun h => h ▸ rfl⟩
theorem TPool.rows_inj {l m : List TPool} : (TPool.rows l = TPool.rows m) = (l = m) := map_inj_of fun _ _ => TPool.inj
theorem TPool.len (l : List TPool) : (TPool.rows l).length = l.length := List.length_map ..
theorem TPool.app (l m : List TPool) : TPool.rows (l ++ m) = TPool.rows l ++ TPool.rows m := List.map_append ..
theorem TPool.nil : TPool.rows [] = [] := rfl
theorem TPool.cons (x : TPool) (l : List TPool) : TPool.rows (x :: l) = x.row :: TPool.rows l := rfl
theorem TPool.rtake (l : List TPool) (n : Nat) : (TPool.rows l).take n = TPool.rows (l.take n) := List.map_take.symm
theorem TPool.rdrop (l : List TPool) (n : Nat) : (TPool.rows l).drop n = TPool.rows (l.drop n) := List.map_drop.symm
theorem TPool.rset (l : List TPool) (n : Nat) (x : TPool) : (TPool.rows l).set n x.row = TPool.rows (l.set n x) := by simp only [TPool.rows, List.map_set]
theorem TPool.get (l : List TPool) (i : Nat) : (TPool.rows l).getD i [.str ⟨#[]⟩, .int .i64 0, .int .i64 0, .int .i64 0, .sl []] = [.str (l.getD i TPool.z).name, .int .i64 (l.getD i TPool.z).channel, .int .i64 (l.getD i TPool.z).perMinute, .int .i64 (l.getD i TPool.z).first, .sl (intsD (l.getD i TPool.z).warm)] := map_get TPool.row l i TPool.z
theorem TPool.z_len (l : List TPool) : ∀ y ∈ TPool.rows l, y.length = 5 := fun y hy => by obtain ⟨x, _, rfl⟩ := List.mem_map.1 hy; rfl
theorem TPool.zlT (l : List TPool) : (∀ y ∈ TPool.rows l, y.length = 5) = True := eq_true (TPool.z_len l)
theorem TPool.any (l : List TPool) (p : List D → Bool) : (TPool.rows l).any p = l.any fun a => p a.row := List.any_map
theorem TPool.ex {p : TPool → Prop} : (∃ x, p x) = ∃ a0 a1 a2 a3 a4, p ⟨a0, a1, a2, a3, a4⟩ := propext ⟨fun ⟨⟨a0, a1, a2, a3, a4⟩, h⟩ => ⟨a0, a1, a2, a3, a4, h⟩, fun ⟨a0, a1, a2, a3, a4, h⟩ => ⟨⟨a0, a1, a2, a3, a4⟩, h⟩⟩
theorem TPool.nil1 (l : List TPool) : (TPool.rows l = []) = (l = []) := propext List.map_eq_nil_iff
theorem TPool.nil2 (l : List TPool) : ([] = TPool.rows l) = (l = []) := propext ⟨fun h => List.map_eq_nil_iff.1 h.symm, fun h => h ▸ rfl⟩
theorem TPool.fold1 (b1 : ByteArray) (b2 : Int) (b3 : Int) (b4 : Int) (b5 : List Int) : [[D.str b1, D.int .i64 b2, D.int .i64 b3, D.int .i64 b4, D.sl (intsD b5)]] = TPool.rows [⟨b1, b2, b3, b4, b5⟩] := rfl
theorem TPool.foldc (b1 : ByteArray) (b2 : Int) (b3 : Int) (b4 : Int) (b5 : List Int) (l : List TPool) : [D.str b1, D.int .i64 b2, D.int .i64 b3, D.int .i64 b4, D.sl (intsD b5)] :: TPool.rows l = TPool.rows (⟨b1, b2, b3, b4, b5⟩ :: l) := rfl
theorem TPool.foldr (b1 : ByteArray) (b2 : Int) (b3 : Int) (b4 : Int) (b5 : List Int) (x : TPool) : ([D.str b1, D.int .i64 b2, D.int .i64 b3, D.int .i64 b4, D.sl (intsD b5)] = x.row) = (x = ⟨b1, b2, b3, b4, b5⟩) := propext ⟨fun h => TPool.inj (x := x) (y := ⟨b1, b2, b3, b4, b5⟩) h.symm, fun h => h ▸ rfl⟩
theorem TPool.app' (l m : List TPool) : TPool.rows l ++ TPool.rows m = TPool.rows (l ++ m) := (List.map_append ..).symm
def TPool.ok (x : TPool) : Prop := okS x.name ∧ okI x.channel ∧ okI x.perMinute ∧ okI x.first ∧ okL okI x.warm
theorem TPool.z_ok : TPool.z.ok := ⟨okS_z, okI_z, okI_z, okI_z, okL_z _⟩
structure TSendRules where
  quiet : List Int
  quietFrom : Int
  quietTo : Int
  ranks : List ByteArray
  caps : List TCap
  pools : List TPool
  delays : List Int
def TSendRules.z : TSendRules := ⟨[], 0, 0, [], [], [], []⟩
instance : Inhabited TSendRules := ⟨TSendRules.z⟩
def TSendRules.row (x : TSendRules) : List D := [.sl (intsD x.quiet), .int .i64 x.quietFrom, .int .i64 x.quietTo, .sl (rowsT x.ranks), .sl (TCap.rows x.caps), .sl (TPool.rows x.pools), .sl (intsD x.delays)]
def TSendRules.rows (l : List TSendRules) : List (List D) := l.map TSendRules.row
theorem TSendRules.inj {x y : TSendRules} (h : x.row = y.row) : x = y := by
  obtain ⟨_, _, _, _, _, _, _⟩ := x; obtain ⟨_, _, _, _, _, _, _⟩ := y
  simp only [TSendRules.row, List.cons.injEq, D.int.injEq, D.str.injEq, D.bool.injEq, D.sl.injEq, true_and, and_true, TCap.rows_inj, TPool.rows_inj, intsDi_inj, rowsT_inj] at h
  obtain ⟨rfl, rfl, rfl, rfl, rfl, rfl, rfl⟩ := h; rfl
theorem TSendRules.row_inj {x y : TSendRules} : (x.row = y.row) = (x = y) := propext ⟨TSendRules.inj, fun h => h ▸ rfl⟩
theorem TSendRules.rows_inj {l m : List TSendRules} : (TSendRules.rows l = TSendRules.rows m) = (l = m) := map_inj_of fun _ _ => TSendRules.inj
theorem TSendRules.len (l : List TSendRules) : (TSendRules.rows l).length = l.length := List.length_map ..
theorem TSendRules.app (l m : List TSendRules) : TSendRules.rows (l ++ m) = TSendRules.rows l ++ TSendRules.rows m := List.map_append ..
theorem TSendRules.nil : TSendRules.rows [] = [] := rfl
theorem TSendRules.cons (x : TSendRules) (l : List TSendRules) : TSendRules.rows (x :: l) = x.row :: TSendRules.rows l := rfl
theorem TSendRules.rtake (l : List TSendRules) (n : Nat) : (TSendRules.rows l).take n = TSendRules.rows (l.take n) := List.map_take.symm
theorem TSendRules.rdrop (l : List TSendRules) (n : Nat) : (TSendRules.rows l).drop n = TSendRules.rows (l.drop n) := List.map_drop.symm
theorem TSendRules.rset (l : List TSendRules) (n : Nat) (x : TSendRules) : (TSendRules.rows l).set n x.row = TSendRules.rows (l.set n x) := by simp only [TSendRules.rows, List.map_set]
theorem TSendRules.get (l : List TSendRules) (i : Nat) : (TSendRules.rows l).getD i [.sl [], .int .i64 0, .int .i64 0, .sl [], .sl [], .sl [], .sl []] = [.sl (intsD (l.getD i TSendRules.z).quiet), .int .i64 (l.getD i TSendRules.z).quietFrom, .int .i64 (l.getD i TSendRules.z).quietTo, .sl (rowsT (l.getD i TSendRules.z).ranks), .sl (TCap.rows (l.getD i TSendRules.z).caps), .sl (TPool.rows (l.getD i TSendRules.z).pools), .sl (intsD (l.getD i TSendRules.z).delays)] := map_get TSendRules.row l i TSendRules.z
theorem TSendRules.z_len (l : List TSendRules) : ∀ y ∈ TSendRules.rows l, y.length = 7 := fun y hy => by obtain ⟨x, _, rfl⟩ := List.mem_map.1 hy; rfl
theorem TSendRules.zlT (l : List TSendRules) : (∀ y ∈ TSendRules.rows l, y.length = 7) = True := eq_true (TSendRules.z_len l)
theorem TSendRules.any (l : List TSendRules) (p : List D → Bool) : (TSendRules.rows l).any p = l.any fun a => p a.row := List.any_map
theorem TSendRules.ex {p : TSendRules → Prop} : (∃ x, p x) = ∃ a0 a1 a2 a3 a4 a5 a6, p ⟨a0, a1, a2, a3, a4, a5, a6⟩ := propext ⟨fun ⟨⟨a0, a1, a2, a3, a4, a5, a6⟩, h⟩ => ⟨a0, a1, a2, a3, a4, a5, a6, h⟩, fun ⟨a0, a1, a2, a3, a4, a5, a6, h⟩ => ⟨⟨a0, a1, a2, a3, a4, a5, a6⟩, h⟩⟩
theorem TSendRules.nil1 (l : List TSendRules) : (TSendRules.rows l = []) = (l = []) := propext List.map_eq_nil_iff
theorem TSendRules.nil2 (l : List TSendRules) : ([] = TSendRules.rows l) = (l = []) := propext ⟨fun h => List.map_eq_nil_iff.1 h.symm, fun h => h ▸ rfl⟩
theorem TSendRules.fold1 (b1 : List Int) (b2 : Int) (b3 : Int) (b4 : List ByteArray) (b5 : List TCap) (b6 : List TPool) (b7 : List Int) : [[D.sl (intsD b1), D.int .i64 b2, D.int .i64 b3, D.sl (rowsT b4), D.sl (TCap.rows b5), D.sl (TPool.rows b6), D.sl (intsD b7)]] = TSendRules.rows [⟨b1, b2, b3, b4, b5, b6, b7⟩] := rfl
theorem TSendRules.foldc (b1 : List Int) (b2 : Int) (b3 : Int) (b4 : List ByteArray) (b5 : List TCap) (b6 : List TPool) (b7 : List Int) (l : List TSendRules) : [D.sl (intsD b1), D.int .i64 b2, D.int .i64 b3, D.sl (rowsT b4), D.sl (TCap.rows b5), D.sl (TPool.rows b6), D.sl (intsD b7)] :: TSendRules.rows l = TSendRules.rows (⟨b1, b2, b3, b4, b5, b6, b7⟩ :: l) := rfl
theorem TSendRules.foldr (b1 : List Int) (b2 : Int) (b3 : Int) (b4 : List ByteArray) (b5 : List TCap) (b6 : List TPool) (b7 : List Int) (x : TSendRules) : ([D.sl (intsD b1), D.int .i64 b2, D.int .i64 b3, D.sl (rowsT b4), D.sl (TCap.rows b5), D.sl (TPool.rows b6), D.sl (intsD b7)] = x.row) = (x = ⟨b1, b2, b3, b4, b5, b6, b7⟩) := propext ⟨fun h => TSendRules.inj (x := x) (y := ⟨b1, b2, b3, b4, b5, b6, b7⟩) h.symm, fun h => h ▸ rfl⟩
theorem TSendRules.app' (l m : List TSendRules) : TSendRules.rows l ++ TSendRules.rows m = TSendRules.rows (l ++ m) := (List.map_append ..).symm
def TSendRules.ok (x : TSendRules) : Prop := okL okI x.quiet ∧ okI x.quietFrom ∧ okI x.quietTo ∧ okL okS x.ranks ∧ okL TCap.ok x.caps ∧ okL TPool.ok x.pools ∧ okL okI x.delays
theorem TSendRules.z_ok : TSendRules.z.ok := ⟨okL_z _, okI_z, okI_z, okL_z _, okL_z _, okL_z _, okL_z _⟩
structure TMeasure where
  name : ByteArray
  how : Int
  far : Int
  points : Int
def TMeasure.z : TMeasure := ⟨⟨#[]⟩, 0, 0, 0⟩
instance : Inhabited TMeasure := ⟨TMeasure.z⟩
def TMeasure.row (x : TMeasure) : List D := [.str x.name, .int .i64 x.how, .int .i64 x.far, .int .i64 x.points]
def TMeasure.rows (l : List TMeasure) : List (List D) := l.map TMeasure.row
theorem TMeasure.inj {x y : TMeasure} (h : x.row = y.row) : x = y := by
  obtain ⟨_, _, _, _⟩ := x; obtain ⟨_, _, _, _⟩ := y
  simp only [TMeasure.row, List.cons.injEq, D.int.injEq, D.str.injEq, D.bool.injEq, D.sl.injEq, true_and, and_true] at h
  obtain ⟨rfl, rfl, rfl, rfl⟩ := h; rfl
theorem TMeasure.row_inj {x y : TMeasure} : (x.row = y.row) = (x = y) := propext ⟨TMeasure.inj, fun h => h ▸ rfl⟩
theorem TMeasure.rows_inj {l m : List TMeasure} : (TMeasure.rows l = TMeasure.rows m) = (l = m) := map_inj_of fun _ _ => TMeasure.inj
theorem TMeasure.len (l : List TMeasure) : (TMeasure.rows l).length = l.length := List.length_map ..
theorem TMeasure.app (l m : List TMeasure) : TMeasure.rows (l ++ m) = TMeasure.rows l ++ TMeasure.rows m := List.map_append ..
theorem TMeasure.nil : TMeasure.rows [] = [] := rfl
theorem TMeasure.cons (x : TMeasure) (l : List TMeasure) : TMeasure.rows (x :: l) = x.row :: TMeasure.rows l := rfl
theorem TMeasure.rtake (l : List TMeasure) (n : Nat) : (TMeasure.rows l).take n = TMeasure.rows (l.take n) := List.map_take.symm
theorem TMeasure.rdrop (l : List TMeasure) (n : Nat) : (TMeasure.rows l).drop n = TMeasure.rows (l.drop n) := List.map_drop.symm
theorem TMeasure.rset (l : List TMeasure) (n : Nat) (x : TMeasure) : (TMeasure.rows l).set n x.row = TMeasure.rows (l.set n x) := by simp only [TMeasure.rows, List.map_set]
theorem TMeasure.get (l : List TMeasure) (i : Nat) : (TMeasure.rows l).getD i [.str ⟨#[]⟩, .int .i64 0, .int .i64 0, .int .i64 0] = [.str (l.getD i TMeasure.z).name, .int .i64 (l.getD i TMeasure.z).how, .int .i64 (l.getD i TMeasure.z).far, .int .i64 (l.getD i TMeasure.z).points] := map_get TMeasure.row l i TMeasure.z
theorem TMeasure.z_len (l : List TMeasure) : ∀ y ∈ TMeasure.rows l, y.length = 4 := fun y hy => by obtain ⟨x, _, rfl⟩ := List.mem_map.1 hy; rfl
theorem TMeasure.zlT (l : List TMeasure) : (∀ y ∈ TMeasure.rows l, y.length = 4) = True := eq_true (TMeasure.z_len l)
theorem TMeasure.any (l : List TMeasure) (p : List D → Bool) : (TMeasure.rows l).any p = l.any fun a => p a.row := List.any_map
theorem TMeasure.ex {p : TMeasure → Prop} : (∃ x, p x) = ∃ a0 a1 a2 a3, p ⟨a0, a1, a2, a3⟩ := propext ⟨fun ⟨⟨a0, a1, a2, a3⟩, h⟩ => ⟨a0, a1, a2, a3, h⟩, fun ⟨a0, a1, a2, a3, h⟩ => ⟨⟨a0, a1, a2, a3⟩, h⟩⟩
theorem TMeasure.nil1 (l : List TMeasure) : (TMeasure.rows l = []) = (l = []) := propext List.map_eq_nil_iff
theorem TMeasure.nil2 (l : List TMeasure) : ([] = TMeasure.rows l) = (l = []) := propext ⟨fun h => List.map_eq_nil_iff.1 h.symm, fun h => h ▸ rfl⟩
theorem TMeasure.fold1 (b1 : ByteArray) (b2 : Int) (b3 : Int) (b4 : Int) : [[D.str b1, D.int .i64 b2, D.int .i64 b3, D.int .i64 b4]] = TMeasure.rows [⟨b1, b2, b3, b4⟩] := rfl
theorem TMeasure.foldc (b1 : ByteArray) (b2 : Int) (b3 : Int) (b4 : Int) (l : List TMeasure) : [D.str b1, D.int .i64 b2, D.int .i64 b3, D.int .i64 b4] :: TMeasure.rows l = TMeasure.rows (⟨b1, b2, b3, b4⟩ :: l) := rfl
theorem TMeasure.foldr (b1 : ByteArray) (b2 : Int) (b3 : Int) (b4 : Int) (x : TMeasure) : ([D.str b1, D.int .i64 b2, D.int .i64 b3, D.int .i64 b4] = x.row) = (x = ⟨b1, b2, b3, b4⟩) := propext ⟨fun h => TMeasure.inj (x := x) (y := ⟨b1, b2, b3, b4⟩) h.symm, fun h => h ▸ rfl⟩
theorem TMeasure.app' (l m : List TMeasure) : TMeasure.rows l ++ TMeasure.rows m = TMeasure.rows (l ++ m) := (List.map_append ..).symm
def TMeasure.ok (x : TMeasure) : Prop := okS x.name ∧ okI x.how ∧ okI x.far ∧ okI x.points
theorem TMeasure.z_ok : TMeasure.z.ok := ⟨okS_z, okI_z, okI_z, okI_z⟩
theorem TMeasure.flat (l : List TMeasure) : ((TMeasure.rows l).all fun x => x.all D.flat) = true := by
  rw [List.all_eq_true]; intro y hy; obtain ⟨x, _, rfl⟩ := List.mem_map.1 hy; rfl
structure TNeed where
  name : ByteArray
  kind : Int
  must : Bool
def TNeed.z : TNeed := ⟨⟨#[]⟩, 0, false⟩
instance : Inhabited TNeed := ⟨TNeed.z⟩
def TNeed.row (x : TNeed) : List D := [.str x.name, .int .i64 x.kind, .bool x.must]
def TNeed.rows (l : List TNeed) : List (List D) := l.map TNeed.row
theorem TNeed.inj {x y : TNeed} (h : x.row = y.row) : x = y := by
  obtain ⟨_, _, _⟩ := x; obtain ⟨_, _, _⟩ := y
  simp only [TNeed.row, List.cons.injEq, D.int.injEq, D.str.injEq, D.bool.injEq, D.sl.injEq, true_and, and_true] at h
  obtain ⟨rfl, rfl, rfl⟩ := h; rfl
theorem TNeed.row_inj {x y : TNeed} : (x.row = y.row) = (x = y) := propext ⟨TNeed.inj, fun h => h ▸ rfl⟩
theorem TNeed.rows_inj {l m : List TNeed} : (TNeed.rows l = TNeed.rows m) = (l = m) := map_inj_of fun _ _ => TNeed.inj
theorem TNeed.len (l : List TNeed) : (TNeed.rows l).length = l.length := List.length_map ..
theorem TNeed.app (l m : List TNeed) : TNeed.rows (l ++ m) = TNeed.rows l ++ TNeed.rows m := List.map_append ..
theorem TNeed.nil : TNeed.rows [] = [] := rfl
theorem TNeed.cons (x : TNeed) (l : List TNeed) : TNeed.rows (x :: l) = x.row :: TNeed.rows l := rfl
theorem TNeed.rtake (l : List TNeed) (n : Nat) : (TNeed.rows l).take n = TNeed.rows (l.take n) := List.map_take.symm
theorem TNeed.rdrop (l : List TNeed) (n : Nat) : (TNeed.rows l).drop n = TNeed.rows (l.drop n) := List.map_drop.symm
theorem TNeed.rset (l : List TNeed) (n : Nat) (x : TNeed) : (TNeed.rows l).set n x.row = TNeed.rows (l.set n x) := by simp only [TNeed.rows, List.map_set]
theorem TNeed.get (l : List TNeed) (i : Nat) : (TNeed.rows l).getD i [.str ⟨#[]⟩, .int .i64 0, .bool false] = [.str (l.getD i TNeed.z).name, .int .i64 (l.getD i TNeed.z).kind, .bool (l.getD i TNeed.z).must] := map_get TNeed.row l i TNeed.z
theorem TNeed.z_len (l : List TNeed) : ∀ y ∈ TNeed.rows l, y.length = 3 := fun y hy => by obtain ⟨x, _, rfl⟩ := List.mem_map.1 hy; rfl
theorem TNeed.zlT (l : List TNeed) : (∀ y ∈ TNeed.rows l, y.length = 3) = True := eq_true (TNeed.z_len l)
theorem TNeed.any (l : List TNeed) (p : List D → Bool) : (TNeed.rows l).any p = l.any fun a => p a.row := List.any_map
theorem TNeed.ex {p : TNeed → Prop} : (∃ x, p x) = ∃ a0 a1 a2, p ⟨a0, a1, a2⟩ := propext ⟨fun ⟨⟨a0, a1, a2⟩, h⟩ => ⟨a0, a1, a2, h⟩, fun ⟨a0, a1, a2, h⟩ => ⟨⟨a0, a1, a2⟩, h⟩⟩
theorem TNeed.nil1 (l : List TNeed) : (TNeed.rows l = []) = (l = []) := propext List.map_eq_nil_iff
theorem TNeed.nil2 (l : List TNeed) : ([] = TNeed.rows l) = (l = []) := propext ⟨fun h => List.map_eq_nil_iff.1 h.symm, fun h => h ▸ rfl⟩
theorem TNeed.fold1 (b1 : ByteArray) (b2 : Int) (b3 : Bool) : [[D.str b1, D.int .i64 b2, D.bool b3]] = TNeed.rows [⟨b1, b2, b3⟩] := rfl
theorem TNeed.foldc (b1 : ByteArray) (b2 : Int) (b3 : Bool) (l : List TNeed) : [D.str b1, D.int .i64 b2, D.bool b3] :: TNeed.rows l = TNeed.rows (⟨b1, b2, b3⟩ :: l) := rfl
theorem TNeed.foldr (b1 : ByteArray) (b2 : Int) (b3 : Bool) (x : TNeed) : ([D.str b1, D.int .i64 b2, D.bool b3] = x.row) = (x = ⟨b1, b2, b3⟩) := propext ⟨fun h => TNeed.inj (x := x) (y := ⟨b1, b2, b3⟩) h.symm, fun h => h ▸ rfl⟩
theorem TNeed.app' (l m : List TNeed) : TNeed.rows l ++ TNeed.rows m = TNeed.rows (l ++ m) := (List.map_append ..).symm
def TNeed.ok (x : TNeed) : Prop := okS x.name ∧ okI x.kind
theorem TNeed.z_ok : TNeed.z.ok := ⟨okS_z, okI_z⟩
theorem TNeed.flat (l : List TNeed) : ((TNeed.rows l).all fun x => x.all D.flat) = true := by
  rw [List.all_eq_true]; intro y hy; obtain ⟨x, _, rfl⟩ := List.mem_map.1 hy; rfl
structure TSchema where
  name : ByteArray
  needs : List TNeed
def TSchema.z : TSchema := ⟨⟨#[]⟩, []⟩
instance : Inhabited TSchema := ⟨TSchema.z⟩
def TSchema.row (x : TSchema) : List D := [.str x.name, .sl (TNeed.rows x.needs)]
def TSchema.rows (l : List TSchema) : List (List D) := l.map TSchema.row
theorem TSchema.inj {x y : TSchema} (h : x.row = y.row) : x = y := by
  obtain ⟨_, _⟩ := x; obtain ⟨_, _⟩ := y
  simp only [TSchema.row, List.cons.injEq, D.int.injEq, D.str.injEq, D.bool.injEq, D.sl.injEq, true_and, and_true, TNeed.rows_inj] at h
  obtain ⟨rfl, rfl⟩ := h; rfl
theorem TSchema.row_inj {x y : TSchema} : (x.row = y.row) = (x = y) := propext ⟨TSchema.inj, fun h => h ▸ rfl⟩
theorem TSchema.rows_inj {l m : List TSchema} : (TSchema.rows l = TSchema.rows m) = (l = m) := map_inj_of fun _ _ => TSchema.inj
theorem TSchema.len (l : List TSchema) : (TSchema.rows l).length = l.length := List.length_map ..
theorem TSchema.app (l m : List TSchema) : TSchema.rows (l ++ m) = TSchema.rows l ++ TSchema.rows m := List.map_append ..
theorem TSchema.nil : TSchema.rows [] = [] := rfl
theorem TSchema.cons (x : TSchema) (l : List TSchema) : TSchema.rows (x :: l) = x.row :: TSchema.rows l := rfl
theorem TSchema.rtake (l : List TSchema) (n : Nat) : (TSchema.rows l).take n = TSchema.rows (l.take n) := List.map_take.symm
theorem TSchema.rdrop (l : List TSchema) (n : Nat) : (TSchema.rows l).drop n = TSchema.rows (l.drop n) := List.map_drop.symm
theorem TSchema.rset (l : List TSchema) (n : Nat) (x : TSchema) : (TSchema.rows l).set n x.row = TSchema.rows (l.set n x) := by simp only [TSchema.rows, List.map_set]
theorem TSchema.get (l : List TSchema) (i : Nat) : (TSchema.rows l).getD i [.str ⟨#[]⟩, .sl []] = [.str (l.getD i TSchema.z).name, .sl (TNeed.rows (l.getD i TSchema.z).needs)] := map_get TSchema.row l i TSchema.z
theorem TSchema.z_len (l : List TSchema) : ∀ y ∈ TSchema.rows l, y.length = 2 := fun y hy => by obtain ⟨x, _, rfl⟩ := List.mem_map.1 hy; rfl
theorem TSchema.zlT (l : List TSchema) : (∀ y ∈ TSchema.rows l, y.length = 2) = True := eq_true (TSchema.z_len l)
theorem TSchema.any (l : List TSchema) (p : List D → Bool) : (TSchema.rows l).any p = l.any fun a => p a.row := List.any_map
theorem TSchema.ex {p : TSchema → Prop} : (∃ x, p x) = ∃ a0 a1, p ⟨a0, a1⟩ := propext ⟨fun ⟨⟨a0, a1⟩, h⟩ => ⟨a0, a1, h⟩, fun ⟨a0, a1, h⟩ => ⟨⟨a0, a1⟩, h⟩⟩
theorem TSchema.nil1 (l : List TSchema) : (TSchema.rows l = []) = (l = []) := propext List.map_eq_nil_iff
theorem TSchema.nil2 (l : List TSchema) : ([] = TSchema.rows l) = (l = []) := propext ⟨fun h => List.map_eq_nil_iff.1 h.symm, fun h => h ▸ rfl⟩
theorem TSchema.fold1 (b1 : ByteArray) (b2 : List TNeed) : [[D.str b1, D.sl (TNeed.rows b2)]] = TSchema.rows [⟨b1, b2⟩] := rfl
theorem TSchema.foldc (b1 : ByteArray) (b2 : List TNeed) (l : List TSchema) : [D.str b1, D.sl (TNeed.rows b2)] :: TSchema.rows l = TSchema.rows (⟨b1, b2⟩ :: l) := rfl
theorem TSchema.foldr (b1 : ByteArray) (b2 : List TNeed) (x : TSchema) : ([D.str b1, D.sl (TNeed.rows b2)] = x.row) = (x = ⟨b1, b2⟩) := propext ⟨fun h => TSchema.inj (x := x) (y := ⟨b1, b2⟩) h.symm, fun h => h ▸ rfl⟩
theorem TSchema.app' (l m : List TSchema) : TSchema.rows l ++ TSchema.rows m = TSchema.rows (l ++ m) := (List.map_append ..).symm
def TSchema.ok (x : TSchema) : Prop := okS x.name ∧ okL TNeed.ok x.needs
theorem TSchema.z_ok : TSchema.z.ok := ⟨okS_z, okL_z _⟩
structure TEvent where
  id : ByteArray
  name : ByteArray
  at_ : Int
  who : TId
  fields : List TField
def TEvent.z : TEvent := ⟨⟨#[]⟩, ⟨#[]⟩, 0, ⟨0, ⟨#[]⟩⟩, []⟩
instance : Inhabited TEvent := ⟨TEvent.z⟩
def TEvent.row (x : TEvent) : List D := [.str x.id, .str x.name, .int .i64 x.at_, .int .i64 x.who.kind, .str x.who.text, .sl (TField.rows x.fields)]
def TEvent.rows (l : List TEvent) : List (List D) := l.map TEvent.row
theorem TEvent.inj {x y : TEvent} (h : x.row = y.row) : x = y := by
  obtain ⟨_, _, _, ⟨_, _⟩, _⟩ := x; obtain ⟨_, _, _, ⟨_, _⟩, _⟩ := y
  simp only [TEvent.row, List.cons.injEq, D.int.injEq, D.str.injEq, D.bool.injEq, D.sl.injEq, true_and, and_true, TField.rows_inj] at h
  obtain ⟨rfl, rfl, rfl, rfl, rfl, rfl⟩ := h; rfl
theorem TEvent.row_inj {x y : TEvent} : (x.row = y.row) = (x = y) := propext ⟨TEvent.inj, fun h => h ▸ rfl⟩
theorem TEvent.rows_inj {l m : List TEvent} : (TEvent.rows l = TEvent.rows m) = (l = m) := map_inj_of fun _ _ => TEvent.inj
theorem TEvent.len (l : List TEvent) : (TEvent.rows l).length = l.length := List.length_map ..
theorem TEvent.app (l m : List TEvent) : TEvent.rows (l ++ m) = TEvent.rows l ++ TEvent.rows m := List.map_append ..
theorem TEvent.nil : TEvent.rows [] = [] := rfl
theorem TEvent.cons (x : TEvent) (l : List TEvent) : TEvent.rows (x :: l) = x.row :: TEvent.rows l := rfl
theorem TEvent.rtake (l : List TEvent) (n : Nat) : (TEvent.rows l).take n = TEvent.rows (l.take n) := List.map_take.symm
theorem TEvent.rdrop (l : List TEvent) (n : Nat) : (TEvent.rows l).drop n = TEvent.rows (l.drop n) := List.map_drop.symm
theorem TEvent.rset (l : List TEvent) (n : Nat) (x : TEvent) : (TEvent.rows l).set n x.row = TEvent.rows (l.set n x) := by simp only [TEvent.rows, List.map_set]
theorem TEvent.get (l : List TEvent) (i : Nat) : (TEvent.rows l).getD i [.str ⟨#[]⟩, .str ⟨#[]⟩, .int .i64 0, .int .i64 0, .str ⟨#[]⟩, .sl []] = [.str (l.getD i TEvent.z).id, .str (l.getD i TEvent.z).name, .int .i64 (l.getD i TEvent.z).at_, .int .i64 (l.getD i TEvent.z).who.kind, .str (l.getD i TEvent.z).who.text, .sl (TField.rows (l.getD i TEvent.z).fields)] := map_get TEvent.row l i TEvent.z
theorem TEvent.z_len (l : List TEvent) : ∀ y ∈ TEvent.rows l, y.length = 6 := fun y hy => by obtain ⟨x, _, rfl⟩ := List.mem_map.1 hy; rfl
theorem TEvent.zlT (l : List TEvent) : (∀ y ∈ TEvent.rows l, y.length = 6) = True := eq_true (TEvent.z_len l)
theorem TEvent.any (l : List TEvent) (p : List D → Bool) : (TEvent.rows l).any p = l.any fun a => p a.row := List.any_map
theorem TEvent.ex {p : TEvent → Prop} : (∃ x, p x) = ∃ a0 a1 a2 a3 a4, p ⟨a0, a1, a2, a3, a4⟩ := propext ⟨fun ⟨⟨a0, a1, a2, a3, a4⟩, h⟩ => ⟨a0, a1, a2, a3, a4, h⟩, fun ⟨a0, a1, a2, a3, a4, h⟩ => ⟨⟨a0, a1, a2, a3, a4⟩, h⟩⟩
theorem TEvent.nil1 (l : List TEvent) : (TEvent.rows l = []) = (l = []) := propext List.map_eq_nil_iff
theorem TEvent.nil2 (l : List TEvent) : ([] = TEvent.rows l) = (l = []) := propext ⟨fun h => List.map_eq_nil_iff.1 h.symm, fun h => h ▸ rfl⟩
theorem TEvent.fold1 (b1 : ByteArray) (b2 : ByteArray) (b3 : Int) (b4 : Int) (b5 : ByteArray) (b6 : List TField) : [[D.str b1, D.str b2, D.int .i64 b3, D.int .i64 b4, D.str b5, D.sl (TField.rows b6)]] = TEvent.rows [⟨b1, b2, b3, ⟨b4, b5⟩, b6⟩] := rfl
theorem TEvent.foldc (b1 : ByteArray) (b2 : ByteArray) (b3 : Int) (b4 : Int) (b5 : ByteArray) (b6 : List TField) (l : List TEvent) : [D.str b1, D.str b2, D.int .i64 b3, D.int .i64 b4, D.str b5, D.sl (TField.rows b6)] :: TEvent.rows l = TEvent.rows (⟨b1, b2, b3, ⟨b4, b5⟩, b6⟩ :: l) := rfl
theorem TEvent.foldr (b1 : ByteArray) (b2 : ByteArray) (b3 : Int) (b4 : Int) (b5 : ByteArray) (b6 : List TField) (x : TEvent) : ([D.str b1, D.str b2, D.int .i64 b3, D.int .i64 b4, D.str b5, D.sl (TField.rows b6)] = x.row) = (x = ⟨b1, b2, b3, ⟨b4, b5⟩, b6⟩) := propext ⟨fun h => TEvent.inj (x := x) (y := ⟨b1, b2, b3, ⟨b4, b5⟩, b6⟩) h.symm, fun h => h ▸ rfl⟩
theorem TEvent.app' (l m : List TEvent) : TEvent.rows l ++ TEvent.rows m = TEvent.rows (l ++ m) := (List.map_append ..).symm
def TEvent.ok (x : TEvent) : Prop := okS x.id ∧ okS x.name ∧ okI x.at_ ∧ TId.ok x.who ∧ okL TField.ok x.fields
theorem TEvent.z_ok : TEvent.z.ok := ⟨okS_z, okS_z, okI_z, TId.z_ok, okL_z _⟩
structure TTerm where
  region : ByteArray
  channel : Int
  free : Bool
  days : Int
  wait : Int
def TTerm.z : TTerm := ⟨⟨#[]⟩, 0, false, 0, 0⟩
instance : Inhabited TTerm := ⟨TTerm.z⟩
def TTerm.row (x : TTerm) : List D := [.str x.region, .int .i64 x.channel, .bool x.free, .int .i64 x.days, .int .i64 x.wait]
def TTerm.rows (l : List TTerm) : List (List D) := l.map TTerm.row
theorem TTerm.inj {x y : TTerm} (h : x.row = y.row) : x = y := by
  obtain ⟨_, _, _, _, _⟩ := x; obtain ⟨_, _, _, _, _⟩ := y
  simp only [TTerm.row, List.cons.injEq, D.int.injEq, D.str.injEq, D.bool.injEq, D.sl.injEq, true_and, and_true] at h
  obtain ⟨rfl, rfl, rfl, rfl, rfl⟩ := h; rfl
theorem TTerm.row_inj {x y : TTerm} : (x.row = y.row) = (x = y) := propext ⟨TTerm.inj, fun h => h ▸ rfl⟩
theorem TTerm.rows_inj {l m : List TTerm} : (TTerm.rows l = TTerm.rows m) = (l = m) := map_inj_of fun _ _ => TTerm.inj
theorem TTerm.len (l : List TTerm) : (TTerm.rows l).length = l.length := List.length_map ..
theorem TTerm.app (l m : List TTerm) : TTerm.rows (l ++ m) = TTerm.rows l ++ TTerm.rows m := List.map_append ..
theorem TTerm.nil : TTerm.rows [] = [] := rfl
theorem TTerm.cons (x : TTerm) (l : List TTerm) : TTerm.rows (x :: l) = x.row :: TTerm.rows l := rfl
theorem TTerm.rtake (l : List TTerm) (n : Nat) : (TTerm.rows l).take n = TTerm.rows (l.take n) := List.map_take.symm
theorem TTerm.rdrop (l : List TTerm) (n : Nat) : (TTerm.rows l).drop n = TTerm.rows (l.drop n) := List.map_drop.symm
theorem TTerm.rset (l : List TTerm) (n : Nat) (x : TTerm) : (TTerm.rows l).set n x.row = TTerm.rows (l.set n x) := by simp only [TTerm.rows, List.map_set]
theorem TTerm.get (l : List TTerm) (i : Nat) : (TTerm.rows l).getD i [.str ⟨#[]⟩, .int .i64 0, .bool false, .int .i64 0, .int .i64 0] = [.str (l.getD i TTerm.z).region, .int .i64 (l.getD i TTerm.z).channel, .bool (l.getD i TTerm.z).free, .int .i64 (l.getD i TTerm.z).days, .int .i64 (l.getD i TTerm.z).wait] := map_get TTerm.row l i TTerm.z
theorem TTerm.z_len (l : List TTerm) : ∀ y ∈ TTerm.rows l, y.length = 5 := fun y hy => by obtain ⟨x, _, rfl⟩ := List.mem_map.1 hy; rfl
theorem TTerm.zlT (l : List TTerm) : (∀ y ∈ TTerm.rows l, y.length = 5) = True := eq_true (TTerm.z_len l)
theorem TTerm.any (l : List TTerm) (p : List D → Bool) : (TTerm.rows l).any p = l.any fun a => p a.row := List.any_map
theorem TTerm.ex {p : TTerm → Prop} : (∃ x, p x) = ∃ a0 a1 a2 a3 a4, p ⟨a0, a1, a2, a3, a4⟩ := propext ⟨fun ⟨⟨a0, a1, a2, a3, a4⟩, h⟩ => ⟨a0, a1, a2, a3, a4, h⟩, fun ⟨a0, a1, a2, a3, a4, h⟩ => ⟨⟨a0, a1, a2, a3, a4⟩, h⟩⟩
theorem TTerm.nil1 (l : List TTerm) : (TTerm.rows l = []) = (l = []) := propext List.map_eq_nil_iff
theorem TTerm.nil2 (l : List TTerm) : ([] = TTerm.rows l) = (l = []) := propext ⟨fun h => List.map_eq_nil_iff.1 h.symm, fun h => h ▸ rfl⟩
theorem TTerm.fold1 (b1 : ByteArray) (b2 : Int) (b3 : Bool) (b4 : Int) (b5 : Int) : [[D.str b1, D.int .i64 b2, D.bool b3, D.int .i64 b4, D.int .i64 b5]] = TTerm.rows [⟨b1, b2, b3, b4, b5⟩] := rfl
theorem TTerm.foldc (b1 : ByteArray) (b2 : Int) (b3 : Bool) (b4 : Int) (b5 : Int) (l : List TTerm) : [D.str b1, D.int .i64 b2, D.bool b3, D.int .i64 b4, D.int .i64 b5] :: TTerm.rows l = TTerm.rows (⟨b1, b2, b3, b4, b5⟩ :: l) := rfl
theorem TTerm.foldr (b1 : ByteArray) (b2 : Int) (b3 : Bool) (b4 : Int) (b5 : Int) (x : TTerm) : ([D.str b1, D.int .i64 b2, D.bool b3, D.int .i64 b4, D.int .i64 b5] = x.row) = (x = ⟨b1, b2, b3, b4, b5⟩) := propext ⟨fun h => TTerm.inj (x := x) (y := ⟨b1, b2, b3, b4, b5⟩) h.symm, fun h => h ▸ rfl⟩
theorem TTerm.app' (l m : List TTerm) : TTerm.rows l ++ TTerm.rows m = TTerm.rows (l ++ m) := (List.map_append ..).symm
def TTerm.ok (x : TTerm) : Prop := okS x.region ∧ okI x.channel ∧ okI x.days ∧ okI x.wait
theorem TTerm.z_ok : TTerm.z.ok := ⟨okS_z, okI_z, okI_z, okI_z⟩
theorem TTerm.flat (l : List TTerm) : ((TTerm.rows l).all fun x => x.all D.flat) = true := by
  rw [List.all_eq_true]; intro y hy; obtain ⟨x, _, rfl⟩ := List.mem_map.1 hy; rfl
structure TPurpose where
  name : ByteArray
  terms : List TTerm
def TPurpose.z : TPurpose := ⟨⟨#[]⟩, []⟩
instance : Inhabited TPurpose := ⟨TPurpose.z⟩
def TPurpose.row (x : TPurpose) : List D := [.str x.name, .sl (TTerm.rows x.terms)]
def TPurpose.rows (l : List TPurpose) : List (List D) := l.map TPurpose.row
theorem TPurpose.inj {x y : TPurpose} (h : x.row = y.row) : x = y := by
  obtain ⟨_, _⟩ := x; obtain ⟨_, _⟩ := y
  simp only [TPurpose.row, List.cons.injEq, D.int.injEq, D.str.injEq, D.bool.injEq, D.sl.injEq, true_and, and_true, TTerm.rows_inj] at h
  obtain ⟨rfl, rfl⟩ := h; rfl
theorem TPurpose.row_inj {x y : TPurpose} : (x.row = y.row) = (x = y) := propext ⟨TPurpose.inj, fun h => h ▸ rfl⟩
theorem TPurpose.rows_inj {l m : List TPurpose} : (TPurpose.rows l = TPurpose.rows m) = (l = m) := map_inj_of fun _ _ => TPurpose.inj
theorem TPurpose.len (l : List TPurpose) : (TPurpose.rows l).length = l.length := List.length_map ..
theorem TPurpose.app (l m : List TPurpose) : TPurpose.rows (l ++ m) = TPurpose.rows l ++ TPurpose.rows m := List.map_append ..
theorem TPurpose.nil : TPurpose.rows [] = [] := rfl
theorem TPurpose.cons (x : TPurpose) (l : List TPurpose) : TPurpose.rows (x :: l) = x.row :: TPurpose.rows l := rfl
theorem TPurpose.rtake (l : List TPurpose) (n : Nat) : (TPurpose.rows l).take n = TPurpose.rows (l.take n) := List.map_take.symm
theorem TPurpose.rdrop (l : List TPurpose) (n : Nat) : (TPurpose.rows l).drop n = TPurpose.rows (l.drop n) := List.map_drop.symm
theorem TPurpose.rset (l : List TPurpose) (n : Nat) (x : TPurpose) : (TPurpose.rows l).set n x.row = TPurpose.rows (l.set n x) := by simp only [TPurpose.rows, List.map_set]
theorem TPurpose.get (l : List TPurpose) (i : Nat) : (TPurpose.rows l).getD i [.str ⟨#[]⟩, .sl []] = [.str (l.getD i TPurpose.z).name, .sl (TTerm.rows (l.getD i TPurpose.z).terms)] := map_get TPurpose.row l i TPurpose.z
theorem TPurpose.z_len (l : List TPurpose) : ∀ y ∈ TPurpose.rows l, y.length = 2 := fun y hy => by obtain ⟨x, _, rfl⟩ := List.mem_map.1 hy; rfl
theorem TPurpose.zlT (l : List TPurpose) : (∀ y ∈ TPurpose.rows l, y.length = 2) = True := eq_true (TPurpose.z_len l)
theorem TPurpose.any (l : List TPurpose) (p : List D → Bool) : (TPurpose.rows l).any p = l.any fun a => p a.row := List.any_map
theorem TPurpose.ex {p : TPurpose → Prop} : (∃ x, p x) = ∃ a0 a1, p ⟨a0, a1⟩ := propext ⟨fun ⟨⟨a0, a1⟩, h⟩ => ⟨a0, a1, h⟩, fun ⟨a0, a1, h⟩ => ⟨⟨a0, a1⟩, h⟩⟩
theorem TPurpose.nil1 (l : List TPurpose) : (TPurpose.rows l = []) = (l = []) := propext List.map_eq_nil_iff
theorem TPurpose.nil2 (l : List TPurpose) : ([] = TPurpose.rows l) = (l = []) := propext ⟨fun h => List.map_eq_nil_iff.1 h.symm, fun h => h ▸ rfl⟩
theorem TPurpose.fold1 (b1 : ByteArray) (b2 : List TTerm) : [[D.str b1, D.sl (TTerm.rows b2)]] = TPurpose.rows [⟨b1, b2⟩] := rfl
theorem TPurpose.foldc (b1 : ByteArray) (b2 : List TTerm) (l : List TPurpose) : [D.str b1, D.sl (TTerm.rows b2)] :: TPurpose.rows l = TPurpose.rows (⟨b1, b2⟩ :: l) := rfl
theorem TPurpose.foldr (b1 : ByteArray) (b2 : List TTerm) (x : TPurpose) : ([D.str b1, D.sl (TTerm.rows b2)] = x.row) = (x = ⟨b1, b2⟩) := propext ⟨fun h => TPurpose.inj (x := x) (y := ⟨b1, b2⟩) h.symm, fun h => h ▸ rfl⟩
theorem TPurpose.app' (l m : List TPurpose) : TPurpose.rows l ++ TPurpose.rows m = TPurpose.rows (l ++ m) := (List.map_append ..).symm
def TPurpose.ok (x : TPurpose) : Prop := okS x.name ∧ okL TTerm.ok x.terms
theorem TPurpose.z_ok : TPurpose.z.ok := ⟨okS_z, okL_z _⟩
structure TStatement where
  no : Int
  at_ : Int
  id : TId
  purpose : ByteArray
  region : ByteArray
  channel : Int
  what : Int
def TStatement.z : TStatement := ⟨0, 0, ⟨0, ⟨#[]⟩⟩, ⟨#[]⟩, ⟨#[]⟩, 0, 0⟩
instance : Inhabited TStatement := ⟨TStatement.z⟩
def TStatement.row (x : TStatement) : List D := [.int .i64 x.no, .int .i64 x.at_, .int .i64 x.id.kind, .str x.id.text, .str x.purpose, .str x.region, .int .i64 x.channel, .int .i64 x.what]
def TStatement.rows (l : List TStatement) : List (List D) := l.map TStatement.row
theorem TStatement.inj {x y : TStatement} (h : x.row = y.row) : x = y := by
  obtain ⟨_, _, ⟨_, _⟩, _, _, _, _⟩ := x; obtain ⟨_, _, ⟨_, _⟩, _, _, _, _⟩ := y
  simp only [TStatement.row, List.cons.injEq, D.int.injEq, D.str.injEq, D.bool.injEq, D.sl.injEq, true_and, and_true] at h
  obtain ⟨rfl, rfl, rfl, rfl, rfl, rfl, rfl, rfl⟩ := h; rfl
theorem TStatement.row_inj {x y : TStatement} : (x.row = y.row) = (x = y) := propext ⟨TStatement.inj, fun h => h ▸ rfl⟩
theorem TStatement.rows_inj {l m : List TStatement} : (TStatement.rows l = TStatement.rows m) = (l = m) := map_inj_of fun _ _ => TStatement.inj
theorem TStatement.len (l : List TStatement) : (TStatement.rows l).length = l.length := List.length_map ..
theorem TStatement.app (l m : List TStatement) : TStatement.rows (l ++ m) = TStatement.rows l ++ TStatement.rows m := List.map_append ..
theorem TStatement.nil : TStatement.rows [] = [] := rfl
theorem TStatement.cons (x : TStatement) (l : List TStatement) : TStatement.rows (x :: l) = x.row :: TStatement.rows l := rfl
theorem TStatement.rtake (l : List TStatement) (n : Nat) : (TStatement.rows l).take n = TStatement.rows (l.take n) := List.map_take.symm
theorem TStatement.rdrop (l : List TStatement) (n : Nat) : (TStatement.rows l).drop n = TStatement.rows (l.drop n) := List.map_drop.symm
theorem TStatement.rset (l : List TStatement) (n : Nat) (x : TStatement) : (TStatement.rows l).set n x.row = TStatement.rows (l.set n x) := by simp only [TStatement.rows, List.map_set]
theorem TStatement.get (l : List TStatement) (i : Nat) : (TStatement.rows l).getD i [.int .i64 0, .int .i64 0, .int .i64 0, .str ⟨#[]⟩, .str ⟨#[]⟩, .str ⟨#[]⟩, .int .i64 0, .int .i64 0] = [.int .i64 (l.getD i TStatement.z).no, .int .i64 (l.getD i TStatement.z).at_, .int .i64 (l.getD i TStatement.z).id.kind, .str (l.getD i TStatement.z).id.text, .str (l.getD i TStatement.z).purpose, .str (l.getD i TStatement.z).region, .int .i64 (l.getD i TStatement.z).channel, .int .i64 (l.getD i TStatement.z).what] := map_get TStatement.row l i TStatement.z
theorem TStatement.z_len (l : List TStatement) : ∀ y ∈ TStatement.rows l, y.length = 8 := fun y hy => by obtain ⟨x, _, rfl⟩ := List.mem_map.1 hy; rfl
theorem TStatement.zlT (l : List TStatement) : (∀ y ∈ TStatement.rows l, y.length = 8) = True := eq_true (TStatement.z_len l)
theorem TStatement.any (l : List TStatement) (p : List D → Bool) : (TStatement.rows l).any p = l.any fun a => p a.row := List.any_map
theorem TStatement.ex {p : TStatement → Prop} : (∃ x, p x) = ∃ a0 a1 a2 a3 a4 a5 a6, p ⟨a0, a1, a2, a3, a4, a5, a6⟩ := propext ⟨fun ⟨⟨a0, a1, a2, a3, a4, a5, a6⟩, h⟩ => ⟨a0, a1, a2, a3, a4, a5, a6, h⟩, fun ⟨a0, a1, a2, a3, a4, a5, a6, h⟩ => ⟨⟨a0, a1, a2, a3, a4, a5, a6⟩, h⟩⟩
theorem TStatement.nil1 (l : List TStatement) : (TStatement.rows l = []) = (l = []) := propext List.map_eq_nil_iff
theorem TStatement.nil2 (l : List TStatement) : ([] = TStatement.rows l) = (l = []) := propext ⟨fun h => List.map_eq_nil_iff.1 h.symm, fun h => h ▸ rfl⟩
theorem TStatement.fold1 (b1 : Int) (b2 : Int) (b3 : Int) (b4 : ByteArray) (b5 : ByteArray) (b6 : ByteArray) (b7 : Int) (b8 : Int) : [[D.int .i64 b1, D.int .i64 b2, D.int .i64 b3, D.str b4, D.str b5, D.str b6, D.int .i64 b7, D.int .i64 b8]] = TStatement.rows [⟨b1, b2, ⟨b3, b4⟩, b5, b6, b7, b8⟩] := rfl
theorem TStatement.foldc (b1 : Int) (b2 : Int) (b3 : Int) (b4 : ByteArray) (b5 : ByteArray) (b6 : ByteArray) (b7 : Int) (b8 : Int) (l : List TStatement) : [D.int .i64 b1, D.int .i64 b2, D.int .i64 b3, D.str b4, D.str b5, D.str b6, D.int .i64 b7, D.int .i64 b8] :: TStatement.rows l = TStatement.rows (⟨b1, b2, ⟨b3, b4⟩, b5, b6, b7, b8⟩ :: l) := rfl
theorem TStatement.foldr (b1 : Int) (b2 : Int) (b3 : Int) (b4 : ByteArray) (b5 : ByteArray) (b6 : ByteArray) (b7 : Int) (b8 : Int) (x : TStatement) : ([D.int .i64 b1, D.int .i64 b2, D.int .i64 b3, D.str b4, D.str b5, D.str b6, D.int .i64 b7, D.int .i64 b8] = x.row) = (x = ⟨b1, b2, ⟨b3, b4⟩, b5, b6, b7, b8⟩) := propext ⟨fun h => TStatement.inj (x := x) (y := ⟨b1, b2, ⟨b3, b4⟩, b5, b6, b7, b8⟩) h.symm, fun h => h ▸ rfl⟩
theorem TStatement.app' (l m : List TStatement) : TStatement.rows l ++ TStatement.rows m = TStatement.rows (l ++ m) := (List.map_append ..).symm
def TStatement.ok (x : TStatement) : Prop := okI x.no ∧ okI x.at_ ∧ TId.ok x.id ∧ okS x.purpose ∧ okS x.region ∧ okI x.channel ∧ okI x.what
theorem TStatement.z_ok : TStatement.z.ok := ⟨okI_z, okI_z, TId.z_ok, okS_z, okS_z, okI_z, okI_z⟩
theorem TStatement.flat (l : List TStatement) : ((TStatement.rows l).all fun x => x.all D.flat) = true := by
  rw [List.all_eq_true]; intro y hy; obtain ⟨x, _, rfl⟩ := List.mem_map.1 hy; rfl
end Go.Avc

/- A law that begins by laying its stream: its walk out of what the rest of its code asks. No condition. -/
set_option linter.unusedVariables false
set_option linter.unusedSimpArgs false
namespace Go.Avc
open Go Go.Proofs

theorem getD_put' {a : Act} {d t : Nat} {v : Value} (hd : d < a.tmps.size) : (a.put (some d) v).tmps.getD t undef = if t = d then v else a.tmps.getD t undef := getD_put hd
theorem put_size {a : Act} {d : Option Nat} {v : Value} : (a.put d v).tmps.size = a.tmps.size := by cases d <;> simp [Act.put]
theorem put_defers {a : Act} {d : Option Nat} {v : Value} : (a.put d v).defers = a.defers := by cases d <;> rfl

/-- The result's slot is laid, the stream is built and boxed. -/
theorem head_wp {P : Program} {Q : Exit → Act → World → Prop} {c : Code} {i0 i1 : Nat} {o0 m bo bx sg : Oper} {d x1 x2 x3 x4 : Nat} {ST : TypeId}
    (h0 : o0.op = .assign (.const (.bool false)) ∧ o0.dst = some d ∧ o0.guard = none) (h1 : m.op = .move (.tmp 0) ∧ m.dst = some x1 ∧ m.guard = none)
    (h2 : bo.op = .build ST #[(0, .tmp x1)] ∧ bo.dst = some x2 ∧ bo.guard = none) (h3 : bx.op = .box ST (.tmp x2) ∧ bx.dst = some x3 ∧ bx.guard = none)
    (h4 : sg.op = .assign (.tmp x3) ∧ sg.dst = some x4 ∧ sg.guard = none) (hd : d ≠ 0)
    (hbuild : ∀ (A : Option Addr) (n cp : Nat) (w : World) (ev : Operand → Value) (o : Oper), o.op = .build ST #[(0, .tmp x1)] → ev (.tmp x1) = .slice A n cp → (execOp ev o).run P w = .ok (.value (.agg #[.slice A n cp, .int .i64 0])) w)
    {a : Act} {w : World} {A : Option Addr} {n cp : Nat} (ha : a.tmps.getD 0 undef = .slice A n cp) (hs : d < a.tmps.size ∧ x1 < a.tmps.size ∧ x2 < a.tmps.size ∧ x3 < a.tmps.size ∧ x4 < a.tmps.size)
    (hc : ∀ a' : Act, (∀ t, a'.tmps.getD t undef = if t = x4 then .pointer (some ⟨w.heap.size, 0, none⟩) else if t = x3 then .pointer (some ⟨w.heap.size, 0, none⟩) else if t = x2 then .agg #[.slice A n cp, .int .i64 0] else if t = x1 then .slice A n cp else if t = d then .bool false else a.tmps.getD t undef) →
      a'.tmps.size = a.tmps.size → a'.defers = a.defers → c.wp P Q a' (w.alloc (.cells #[.slice A n cp, .int .i64 0] ST))) :
    (Code.seq (.region i0 #[o0] false) (.seq (.region i1 #[m, bo, bx, sg] false) c)).wp P Q a w := by
  obtain ⟨s0, s1, s2, s3, s4⟩ := hs
  refine wp_seq (wp_region_list ?_)
  refine wpList_plain h0.2.2 fun K hK => ?_
  have r0 : (execOp a.eval o0).run P w = .ok (.value (.bool false)) w := by simp [execOp, h0.1, Act.eval]
  unfold Oper.wp
  rw [r0, Oper.upon_value, h0.2.1]
  refine hK _ _ ?_
  refine wp_seq (wp_region_list ?_)
  have e0 : (a.put (some d) (.bool false)).tmps.getD 0 undef = .slice A n cp := by rw [getD_put' s0, if_neg (fun e => hd e.symm)]; exact ha
  refine wpList_plain h1.2.2 fun K1 hK1 => ?_
  have r1 : (execOp (a.put (some d) (.bool false)).eval m).run P w = .ok (.value (.slice A n cp)) w := by simp [execOp, h1.1, Act.eval, e0]
  unfold Oper.wp
  rw [r1, Oper.upon_value, h1.2.1]
  refine hK1 _ _ ?_
  refine wpList_plain h2.2.2 fun K2 hK2 => ?_
  have e1 : ((a.put (some d) (.bool false)).put (some x1) (.slice A n cp)).eval (.tmp x1) = .slice A n cp := by
    show ((a.put (some d) (.bool false)).put (some x1) (.slice A n cp)).tmps.getD x1 undef = _
    rw [getD_put' (by rw [put_size]; exact s1), if_pos rfl]
  have r2 := hbuild A n cp w _ bo h2.1 e1
  unfold Oper.wp
  rw [r2, Oper.upon_value, h2.2.1]
  refine hK2 _ _ ?_
  refine wpList_plain h3.2.2 fun K3 hK3 => ?_
  have e2 : (((a.put (some d) (.bool false)).put (some x1) (.slice A n cp)).put (some x2) (.agg #[.slice A n cp, .int .i64 0])).eval (.tmp x2) = .agg #[.slice A n cp, .int .i64 0] := by
    show (((a.put (some d) (.bool false)).put (some x1) (.slice A n cp)).put (some x2) (.agg #[.slice A n cp, .int .i64 0])).tmps.getD x2 undef = _
    rw [getD_put' (by rw [put_size, put_size]; exact s2), if_pos rfl]
  have r3 : (execOp (((a.put (some d) (.bool false)).put (some x1) (.slice A n cp)).put (some x2) (.agg #[.slice A n cp, .int .i64 0])).eval bx).run P w = .ok (.value (.pointer (some ⟨w.heap.size, 0, none⟩))) (w.alloc (.cells #[.slice A n cp, .int .i64 0] ST)) := by
    simp only [execOp, h3.1, Instr.box, newVar, newRow, Sem.run_bind, run_newObj, Sem.run_pure, Result.andThen_ok, e2]
    rfl
  unfold Oper.wp
  rw [r3, Oper.upon_value, h3.2.1]
  refine hK3 _ _ ?_
  refine wpList_plain h4.2.2 fun K4 hK4 => ?_
  generalize hA3 : ((((a.put (some d) (.bool false)).put (some x1) (.slice A n cp)).put (some x2) (.agg #[.slice A n cp, .int .i64 0])).put (some x3) (.pointer (some ⟨w.heap.size, 0, none⟩))) = a3
  have hsz : a3.tmps.size = a.tmps.size := by rw [← hA3]; simp only [put_size]
  have e3 : a3.eval (.tmp x3) = .pointer (some ⟨w.heap.size, 0, none⟩) := by
    show a3.tmps.getD x3 undef = _
    rw [← hA3, getD_put' (by simp only [put_size]; exact s3), if_pos rfl]
  have r4 : (execOp a3.eval sg).run P (w.alloc (.cells #[.slice A n cp, .int .i64 0] ST)) = .ok (.value (.pointer (some ⟨w.heap.size, 0, none⟩))) (w.alloc (.cells #[.slice A n cp, .int .i64 0] ST)) := by simp [execOp, h4.1, e3]
  unfold Oper.wp
  rw [r4, Oper.upon_value, h4.2.1]
  refine hK4 _ _ ?_
  refine hc _ (fun t => ?_) (by rw [put_size, hsz]) (by rw [put_defers, ← hA3]; simp only [put_defers])
  rw [getD_put' (by rw [hsz]; exact s4), ← hA3, getD_put' (by simp only [put_size]; exact s3), getD_put' (by simp only [put_size]; exact s2), getD_put' (by simp only [put_size]; exact s1), getD_put' s0]

def intRows (L : List Int) : List (List D) := L.map fun x => [.int .i64 x]
/-- A law's walk: its stream laid, the rest by what its code asks. -/
theorem law_calls {P : Program} {f : FuncId} {fn : Func} {c : Code} {i0 i1 : Nat} {o0 m bo bx sg : Oper} {d x1 x2 x3 x4 : Nat} {ST : TypeId} {E : Env} {B : Nat} {live : List Nat} {HH : List Nat} {hz : List (Nat × List Nat × List Nat)} {ex : List AV} {xv : List Value} {L : List Int} {A : Option Addr} {cp ng : Nat} {glob : Nat → Option (List D)} {W : World}
    (hf : P.funcs[f]? = some fn) (hb : fn.body = some (Code.seq (.region i0 #[o0] false) (.seq (.region i1 #[m, bo, bx, sg] false) c))) (hl : fn.results = [ResultVar.tmp d].toArray) (hok : codeOk fn.ntmps hz c = true)
    (h0 : o0.op = .assign (.const (.bool false)) ∧ o0.dst = some d ∧ o0.guard = none) (h1 : m.op = .move (.tmp 0) ∧ m.dst = some x1 ∧ m.guard = none)
    (h2 : bo.op = .build ST #[(0, .tmp x1)] ∧ bo.dst = some x2 ∧ bo.guard = none) (h3 : bx.op = .box ST (.tmp x2) ∧ bx.dst = some x3 ∧ bx.guard = none)
    (h4 : sg.op = .assign (.tmp x3) ∧ sg.dst = some x4 ∧ sg.guard = none)
    (hbuild : ∀ (A : Option Addr) (n cp : Nat) (w : World) (ev : Operand → Value) (o : Oper), o.op = .build ST #[(0, .tmp x1)] → ev (.tmp x1) = .slice A n cp → (execOp ev o).run P w = .ok (.value (.agg #[.slice A n cp, .int .i64 0])) w)
    (hlt : xv.length < d ∧ d < x1 ∧ x4 < x1 ∧ d < x4 ∧ x1 < x2 ∧ x2 < x3 ∧ x3 < fn.ntmps) (hxl : ex.length = xv.length) (hxr : ∀ (i : Nat) (x : AV) (u : Value), ex[i]? = some x → xv[i]? = some u → flatV1 x = some u)
    (hB : B ≤ 4611686018427387904) (hng : ng ≤ W.heap.size) (hrd : Rd (fun k => k < W.heap.size) W (.sl (intRows L)) (.slice A L.length cp)) (hgl : GlAt ⟨P, none, L, ST, ng, glob⟩ W)
    (hvc : ∀ cx : Cx, cx.P = P → cx.ST = ST → (∀ w, GlAt cx w → GlAt ⟨P, none, L, ST, ng, glob⟩ w) → cx.glob = glob → EnvOk cx E ∧ vc ⟨cx, E, B, fn.ntmps, live, HH, hz⟩ c (Ends P (fun r => r = .b true) true [ResultVar.tmp d] B) (Ends P (fun r => r = .b true) true [ResultVar.tmp d] B) (fun _ _ => False)
      ⟨upd (upd (argS (.un :: ex)) d (.b false)) x4 .st, noO, 0⟩) :
    Calls P f (.slice A L.length cp :: xv).toArray W fun e W' => e = .returned (.bool true) ∧ RowKit.Below W.heap.size W W' := by
  obtain ⟨l1, l2, l3, l4, l5, l6, l7⟩ := hlt
  let cx : Cx := ⟨P, some W.heap.size, L, ST, ng, glob⟩
  let w1 : World := W.alloc (.cells #[.slice A L.length cp, .int .i64 0] ST)
  let F : Fr := ⟨cx, w1, fun k => k < W.heap.size, 0, B, fn.ntmps, w1, fun _ => False⟩
  have hs1 : W.heap.size < w1.heap.size := alloc_size W _
  have hw : ∀ b, b < W.heap.size → w1.heap[b]? = W.heap[b]? := fun b hb => (alloc_gr W _).block b hb (by simp)
  have hF : F.Wf := ⟨fun b hb => ⟨by have : b < W.heap.size := hb; show b < w1.heap.size; omega, fun e => by have h1 : W.heap.size = b := Option.some.inj e; have : b < W.heap.size := hb; omega⟩, fun b hb => by show b < W.heap.size; have : b < ng := hb; omega, fun b hb => by cases hb; exact hs1, by show 0 + B ≤ _; omega⟩
  have hst : StAt cx 0 w1 := fun b hb => by
    cases hb
    exact ⟨hng, A, cp, 0, heap_alloc_new W _, by omega, by omega, hrd.mono (Nat.le_of_lt hs1) (fun k hk _ => hk) (fun k hk _ => hw k hk)⟩
  have hgl0 : GlAt cx W := hgl
  have hgl1 : GlAt cx w1 := fun k l hk => by
    obtain ⟨g0, g1, cs, g2, g3⟩ := hgl0 k l hk
    exact ⟨g0, by omega, cs, fun j u hj => (cell_congr (a := ⟨k, j, none⟩) (hw k g1)).trans (g2 j u hj), g3.mono (Nat.le_of_lt hs1) (fun _ h _ => h) (fun b hb _ => hw b (by have : b < ng := hb; omega))⟩
  obtain ⟨hE, hv⟩ := hvc cx rfl rfl (fun w h => h) rfl
  have hend : ∀ (σ : St) (a : Act) (w : World), Rel F σ a w → Ends P (fun r => r = .b true) true [ResultVar.tmp d] B σ → a.defers = [] ∧ ∃ v, (results fn a.tmps).run P w = .ok v w ∧ Ending.returned v = .returned (.bool true) ∧ RowKit.Below W.heap.size W w := by
    intro σ a w h he
    obtain ⟨M, ρ, h⟩ := h
    obtain ⟨e1, e2⟩ := he
    split at e2
    · rename_i r hr
      obtain ⟨h3, v, h4, h5⟩ := outA_rel hF h hl hr
      subst e2
      have : v = .bool true := by cases (show Rd _ _ (.bool true) v from h5); rfl
      subst this
      refine ⟨h.df, _, h4, rfl, h.gr.os, h.gr.tape, h.gr.output, ?_, fun k hk => ?_⟩
      · have : w1.heap.size ≤ w.heap.size := h.gr.size; omega
      · exact (h.gr.block k (by show k < w1.heap.size; omega) (fun e => by have e' : W.heap.size = k := Option.some.inj e; omega)).trans (hw k hk)
    · exact e2.elim
  refine calls_of_wp hf hb ?_
  have hpd : ∀ t, ((Value.slice A L.length cp :: xv).toArray ++ Array.replicate (fn.ntmps - (Value.slice A L.length cp :: xv).toArray.size) undef).getD t undef = (Value.slice A L.length cp :: xv).getD t undef := by
    intro t
    rw [Array.getD_eq_getD_getElem?, Array.getElem?_append, List.getD_eq_getElem?_getD]
    split
    · rw [List.getElem?_toArray]
    · rename_i h
      rw [Array.getElem?_replicate, List.getElem?_eq_none (by simpa using h)]
      split <;> rfl
  have hsz : ((Value.slice A L.length cp :: xv).toArray ++ Array.replicate (fn.ntmps - (Value.slice A L.length cp :: xv).toArray.size) undef).size = fn.ntmps := by
    simp; omega
  refine head_wp (A := A) (n := L.length) (cp := cp) h0 h1 h2 h3 h4 (by omega) hbuild (by rw [hpd]; rfl) (by simp only [hsz]; omega) fun a' hg hsa hda => ?_
  refine vc_sound (F := F) (live := live) (H := HH) (hz := hz) hE hF c hok _ _ _ _ (fun σ a w h hk => hend σ a w h hk) (fun σ a w h hk => hend σ a w h hk) (fun j σ a w h hk => hk.elim) _ _ _ ?_ hv
  refine ⟨fun _ => False, fun _ => undef, Gr.refl _ _, hst, hgl1, fun b hb => hb.elim, fun t => ?_, (fun k o hk => by cases hk), (fun k k' o o' hk => by cases hk), hda, by rw [hsa, hsz]; exact Nat.le_refl _, ⟨Nat.le_refl _, fun _ _ _ _ => rfl, fun _ hb => hb.elim⟩⟩
  rw [hg]
  show relA _ _ _ _ _ (upd (upd (argS (.un :: ex)) d (.b false)) x4 .st t) _
  simp only [upd_apply]
  by_cases e4 : t = x4
  · rw [if_pos e4, if_pos e4]; exact ⟨_, rfl, rfl⟩
  · rw [if_neg e4, if_neg e4]
    by_cases ed : t = d
    · rw [if_pos ed, if_neg (by omega), if_neg (by omega), if_neg (by omega), if_pos ed]; exact Rd.bool _
    · rw [if_neg ed]
      cases t with
      | zero => exact trivial
      | succ t =>
        show relA _ _ _ _ _ (ex.getD t .un) _
        rw [List.getD_eq_getElem?_getD]
        cases hx : ex[t]? with
        | none => exact trivial
        | some x =>
          have hlt : t < xv.length := by rw [← hxl]; exact (List.getElem?_eq_some_iff.1 hx).1
          have hfl := hxr t x _ hx (List.getElem?_eq_getElem hlt)
          rw [if_neg (by omega), if_neg (by omega), if_neg (by omega), if_neg ed, hpd, List.getD_cons_succ, List.getD_eq_getElem?_getD, List.getElem?_eq_getElem hlt]
          exact relA_of0 (flatV1_mk hfl).1
theorem build_stream {x1 : Nat} (A : Option Addr) (n cp : Nat) (w : World) (ev : Operand → Value) (o : Oper) (ho : o.op = .build 25 #[(0, .tmp x1)]) (he : ev (.tmp x1) = .slice A n cp) : (execOp ev o).run Tryd.prog w = .ok (.value (.agg #[.slice A n cp, .int .i64 0])) w := by
  have hb : Tryd.prog.built 25 [(0, .slice A n cp)] = some #[.slice A n cp, .int .i64 0] := by kernel_rfl
  simp [execOp, ho, he, run_build w 25 _ _ hb]
end Go.Avc

/- Function values over data: a closure's contract, what it answers. No condition. -/
set_option linter.unusedVariables false
set_option linter.unusedSimpArgs false
set_option maxRecDepth 100000
namespace Go.Avc
open Go Go.Proofs

theorem Ctr.weaken {cx : Cx} {f : FuncId} {sp sp' : Spec} (h : Ctr cx f sp) (hp : ∀ xs, sp'.pre xs → sp.pre xs) (hq : ∀ xs r, sp'.pre xs → sp.post xs r → sp'.post xs r) (hc : ∀ xs, sp.cost xs ≤ sp'.cost xs) (hf : sp'.fresh = sp.fresh) : Ctr cx f sp' := by
  obtain ⟨h1, h2, h3⟩ := h
  refine ⟨h1, fun xs ha => ?_, fun F xs vals e1 e2 e3 e4 e5 e6 e7 e8 => (h3 F xs vals e1 e2 e3 e4 (Nat.le_trans (hc xs) e5) e6 e7 (hp xs e8)).mono fun e w' hh => ?_⟩
  · obtain ⟨r, hr⟩ := h2 xs (hp xs ha)
    exact ⟨r, hq xs r ha hr⟩
  · obtain ⟨v, r, g1, g2, g3, g4, g5, g6⟩ := hh
    exact ⟨v, r, g1, g2, g3.le (Nat.add_le_add_left (hc xs) _), hq xs r e8 g4, g5, by rw [hf]; exact g6⟩
/-- Does a function value say yes to x? -/
noncomputable def FSpec.holds (sp : FSpec) (x : DV) : Bool := @decide (sp.post [x] (.d (.bool true))) (Classical.propDecidable _)
/-- It takes x, and answers just one thing. -/
def FSpec.det (sp : FSpec) (x : DV) : Prop := sp.pre [x] ∧ ∀ y, sp.post [x] y ↔ y = .d (.bool (sp.holds x))
/-- A closure of one argument that answers a bool, out of what its captured variables hold. -/
def csp {γ α : Type} (F : γ → List (List D)) (f : α → DV) (g : γ → α → Bool) (caps : List (List D)) : FSpec where
  pre xs := ∃ c a, caps = F c ∧ xs = [f a]
  post xs r := ∃ c a, caps = F c ∧ xs = [f a] ∧ r = .d (.bool (g c a))
def cloS {γ α : Type} (F : γ → List (List D)) (f : α → DV) (g : γ → α → Bool) : Spec where
  pre xs := ∃ c a, xs = .dv (f a) :: (F c).map .dp
  post xs r := ∃ c a, xs = .dv (f a) :: (F c).map .dp ∧ r = .b (g c a)
  cost _ := 0
  fresh := true
theorem dp_inj : ∀ {l m : List (List D)}, l.map AV.dp = m.map AV.dp → l = m
  | [], [], _ => rfl
  | [], b :: m, h => by simp at h
  | a :: l, [], h => by simp at h
  | a :: l, b :: m, h => by
    rw [List.map_cons, List.map_cons, List.cons.injEq, AV.dp.injEq] at h
    rw [h.1, dp_inj h.2]
theorem clo_of {cx : Cx} {fn : FuncId} {γ α : Type} {F : γ → List (List D)} {f : α → DV} {g : γ → α → Bool} (h : Ctr cx fn (cloS F f g)) (caps : List (List D)) : Ctr cx fn (clo (csp F f g) caps) := by
  refine h.weaken (fun xs hx => ?_) (fun xs r hx hr => ?_) (fun _ => Nat.le_refl _) rfl
  · obtain ⟨ys, rfl, c, a, rfl, rfl⟩ := hx
    exact ⟨c, a, rfl⟩
  · obtain ⟨ys, rfl, c', a', rfl, rfl⟩ := hx
    obtain ⟨c, a, e, rfl⟩ := hr
    have e2 : AV.dv (f a') :: (F c').map AV.dp = AV.dv (f a) :: (F c).map AV.dp := e
    rw [List.cons.injEq] at e2
    have e3 := dp_inj e2.2
    have e4 : f a' = f a := by simpa using e2.1
    exact ⟨[f a'], _, rfl, rfl, c, a, e3, by rw [e4], rfl⟩
theorem csp_post {γ α : Type} {F : γ → List (List D)} {f : α → DV} {g : γ → α → Bool} (hF : ∀ c d, F c = F d → c = d) (hf : ∀ a b, f a = f b → a = b) (c : γ) (a : α) (y : DV) : (csp F f g (F c)).post [f a] y ↔ y = .d (.bool (g c a)) := by
  constructor
  · rintro ⟨c', a', h1, h2, rfl⟩
    rw [hF _ _ h1, hf a a' (by simpa using h2)]
  · rintro rfl
    exact ⟨c, a, rfl, rfl, rfl⟩
theorem csp_holds {γ α : Type} {F : γ → List (List D)} {f : α → DV} {g : γ → α → Bool} (hF : ∀ c d, F c = F d → c = d) (hf : ∀ a b, f a = f b → a = b) (c : γ) (a : α) : (csp F f g (F c)).holds (f a) = g c a := by
  unfold FSpec.holds
  cases hg : g c a with
  | true => exact @decide_eq_true _ (Classical.propDecidable _) ((csp_post hF hf c a _).2 (by rw [hg]))
  | false => exact @decide_eq_false _ (Classical.propDecidable _) (fun h => by have := (csp_post hF hf c a _).1 h; simp [hg] at this)
theorem csp_det {γ α : Type} {F : γ → List (List D)} {f : α → DV} {g : γ → α → Bool} (hF : ∀ c d, F c = F d → c = d) (hf : ∀ a b, f a = f b → a = b) (c : γ) (a : α) : (csp F f g (F c)).det (f a) :=
  ⟨⟨c, a, rfl, rfl⟩, fun y => by rw [csp_holds hF hf]; exact csp_post hF hf c a y⟩
/-- Nothing captured. -/
def F0 (_ : Unit) : List (List D) := []
theorem F0_inj : ∀ c d, F0 c = F0 d → c = d := fun _ _ _ => rfl
abbrev AV.u8 (c : Int) : AV := .dv (.d (.int .u8 c))
def u8D (c : Int) : DV := .d (.int .u8 c)
theorem u8D_inj : ∀ a b, u8D a = u8D b → a = b := fun a b h => by simpa [u8D] using h
def intD (c : Int) : DV := .d (.int .i64 c)
theorem intD_inj : ∀ a b, intD a = intD b → a = b := fun a b h => by simpa [intD] using h
def strD (c : ByteArray) : DV := .d (.str c)
theorem strD_inj : ∀ a b, strD a = strD b → a = b := fun a b h => by simpa [strD] using h
theorem ag_inj {α : Type} {row : α → List D} (h : ∀ x y, row x = row y → x = y) : ∀ a b, DV.ag (row a) = DV.ag (row b) → a = b := fun a b e => h a b (by simpa using e)

theorem AllR_sw (x : AV) (p : Prop) (k : AV → Prop) : AllR (fun r => r = x ∧ p) k = (p → k x) := propext ⟨fun h hp => h x ⟨rfl, hp⟩, fun h r ⟨e, hp⟩ => e ▸ h hp⟩
theorem AllR_sw' (x : AV) (p : Prop) (k : AV → Prop) : AllR (fun r => r = x ∧ p) k = (p → k x) := AllR_sw x p k
attribute [go_sem] AllR_sw
attribute [go_sem ↓] AllR_sw'
theorem FSpec.det.post {sp : FSpec} {x : DV} (h : sp.det x) (y : DV) : sp.post [x] y = (y = .d (.bool (sp.holds x))) := propext (h.2 y)
theorem FSpec.det.pre {sp : FSpec} {x : DV} (h : sp.det x) : sp.pre [x] = True := eq_true h.1

/-! ### Keys -/
def inB (n lo hi : Int) : Bool := decide (lo ≤ n ∧ n ≤ hi)
def inS  : Spec where
  pre xs := ∃ (n : Int) (lo : Int) (hi : Int), xs = [.i n, .i lo, .i hi]
  post xs y := ∃ (n : Int) (lo : Int) (hi : Int), xs = [.i n, .i lo, .i hi] ∧ y = .b (inB n lo hi)
  cost _ := 0
  fresh := true
theorem inS_c  (xs : List AV) : (inS).cost xs = 0 := nr rfl
theorem inS_f  : (inS).fresh = true := nr rfl
theorem inS_q  (n : Int) (lo : Int) (hi : Int) : (inS).pre [.i n, .i lo, .i hi] = (True) := propext ⟨fun h => by
  have h' : ∃ (n' : Int) (lo' : Int) (hi' : Int), ([.i n, .i lo, .i hi] : List AV) = [.i n', .i lo', .i hi'] := h
  obtain ⟨n', lo', hi', e⟩ := h'
  simp only [List.cons.injEq, AV.dv.injEq, AV.fv.injEq, DV.d.injEq, DV.ag.injEq, D.int.injEq, D.str.injEq, D.bool.injEq, D.sl.injEq, true_and, and_true, intsDi_inj, rowsT_inj, rowsKi_inj] at e
  obtain ⟨rfl, rfl, rfl⟩ := e
  exact trivial, fun h => ⟨n, lo, hi, rfl⟩⟩
theorem inS_p  (n : Int) (lo : Int) (hi : Int) : (inS).post [.i n, .i lo, .i hi] = fun y => y = .b (inB n lo hi) := funext fun y => propext ⟨fun h => by
  have h' : ∃ (n' : Int) (lo' : Int) (hi' : Int), ([.i n, .i lo, .i hi] : List AV) = [.i n', .i lo', .i hi'] ∧ y = .b (inB n' lo' hi') := h
  obtain ⟨n', lo', hi', e, h⟩ := h'
  simp only [List.cons.injEq, AV.dv.injEq, AV.fv.injEq, DV.d.injEq, DV.ag.injEq, D.int.injEq, D.str.injEq, D.bool.injEq, D.sl.injEq, true_and, and_true, intsDi_inj, rowsT_inj, rowsKi_inj] at e
  obtain ⟨rfl, rfl, rfl⟩ := e
  exact h, fun h => ⟨n, lo, hi, rfl, h⟩⟩
def smallC (c : Int) : Bool := decide (97 ≤ c ∧ c ≤ 122)
def digitC (c : Int) : Bool := decide (48 ≤ c ∧ c ≤ 57)
def capitalC (c : Int) : Bool := decide (65 ≤ c ∧ c ≤ 90)
def keyC (c : Int) : Bool := smallC c || digitC c || (c == 45) || (c == 95)
def keyB (s : ByteArray) : Bool := inB s.size 1 40 && smallC (bt s 0) && (bl s).all keyC
def byteS (p : Int → Bool) : Spec where
  pre xs := ∃ (c : Int), xs = [.u8 c]
  post xs y := ∃ (c : Int), xs = [.u8 c] ∧ y = .b (p c)
  cost _ := 0
  fresh := true
theorem byteS_c (p : Int → Bool) (xs : List AV) : (byteS p).cost xs = 0 := nr rfl
theorem byteS_f (p : Int → Bool) : (byteS p).fresh = true := nr rfl
theorem byteS_q (p : Int → Bool) (c : Int) : (byteS p).pre [.u8 c] = (True) := propext ⟨fun h => by
  have h' : ∃ (c' : Int), ([.u8 c] : List AV) = [.u8 c'] := h
  obtain ⟨c', e⟩ := h'
  simp only [List.cons.injEq, AV.dv.injEq, AV.fv.injEq, DV.d.injEq, DV.ag.injEq, D.int.injEq, D.str.injEq, D.bool.injEq, D.sl.injEq, true_and, and_true, intsDi_inj, rowsT_inj, rowsKi_inj] at e
  obtain rfl := e
  exact trivial, fun h => ⟨c, rfl⟩⟩
theorem byteS_p (p : Int → Bool) (c : Int) : (byteS p).post [.u8 c] = fun y => y = .b (p c) := funext fun y => propext ⟨fun h => by
  have h' : ∃ (c' : Int), ([.u8 c] : List AV) = [.u8 c'] ∧ y = .b (p c') := h
  obtain ⟨c', e, h⟩ := h'
  simp only [List.cons.injEq, AV.dv.injEq, AV.fv.injEq, DV.d.injEq, DV.ag.injEq, D.int.injEq, D.str.injEq, D.bool.injEq, D.sl.injEq, true_and, and_true, intsDi_inj, rowsT_inj, rowsKi_inj] at e
  obtain rfl := e
  exact h, fun h => ⟨c, rfl, h⟩⟩
theorem pwithin_ctr {cx : Cx} (h : Seat cx) : Ctr cx 90 inS := by
  refine ctr_of (fn := Tryd.f90) (l := [.tmp 6]) (envL []) [0, 1, 2, 6] [] [] (env0 h.hP) ?_ (by rw [h.hP]; exact Tryd.func90) rfl (by kernel_rfl) rfl ?_ ?_
  · rw [h.hP]; exact ⟨_, Tryd.func90, by kernel_rfl, by kernel_rfl⟩
  · rintro xs ⟨n, lo, hi, rfl⟩; exact ⟨_, n, lo, hi, rfl, rfl⟩
  · rintro xs ⟨n, lo, hi, rfl⟩
    refine ⟨by rw [Tryd.ntmps90]; simp, ?_⟩
    simp only [go_sem, h.hP, inS_q, inS_p, inS_c, inS_f, Tryd.ntmps90, Nat.reduceEqDiff, reduceCtorEq, Nat.reduceMul, Nat.reduceAdd, Nat.reduceSub, Nat.reduceDiv, Nat.reduceMod, Nat.reduceLeDiff, Nat.reduceLT, Nat.reduceBNe, Nat.reduceBEq, reduceIte, Int.reduceLE, Int.reduceLT, Int.reduceToNat, Int.reduceNeg, Int.reduceAdd, Int.reduceSub, Int.reduceMul, Int.reduceEq]
    unfold inB
    exact ⟨fun c => by simp [c], fun c => by simp [c]⟩
theorem in_ctr {cx : Cx} (h : Seat cx) : Ctr cx 80 inS := by
  refine ctr_of (fn := Tryd.f80) (l := [.tmp 6]) (envL []) [0, 1, 2, 6] [] [] (env0 h.hP) ?_ (by rw [h.hP]; exact Tryd.func80) rfl (by kernel_rfl) rfl ?_ ?_
  · rw [h.hP]; exact ⟨_, Tryd.func80, by kernel_rfl, by kernel_rfl⟩
  · rintro xs ⟨n, lo, hi, rfl⟩; exact ⟨_, n, lo, hi, rfl, rfl⟩
  · rintro xs ⟨n, lo, hi, rfl⟩
    refine ⟨by rw [Tryd.ntmps80]; simp, ?_⟩
    simp only [go_sem, h.hP, inS_q, inS_p, inS_c, inS_f, Tryd.ntmps80, Nat.reduceEqDiff, reduceCtorEq, Nat.reduceMul, Nat.reduceAdd, Nat.reduceSub, Nat.reduceDiv, Nat.reduceMod, Nat.reduceLeDiff, Nat.reduceLT, Nat.reduceBNe, Nat.reduceBEq, reduceIte, Int.reduceLE, Int.reduceLT, Int.reduceToNat, Int.reduceNeg, Int.reduceAdd, Int.reduceSub, Int.reduceMul, Int.reduceEq]
    unfold inB
    exact ⟨fun c => by simp [c], fun c => by simp [c]⟩
theorem small_ctr {cx : Cx} (h : Seat cx) : Ctr cx 138 (byteS smallC) := by
  refine ctr_of (fn := Tryd.f138) (l := [.tmp 2]) (envL []) [0, 2] [] [] (env0 h.hP) ?_ (by rw [h.hP]; exact Tryd.func138) rfl (by kernel_rfl) rfl ?_ ?_
  · rw [h.hP]; exact ⟨_, Tryd.func138, by kernel_rfl, by kernel_rfl⟩
  · rintro xs ⟨c, rfl⟩; exact ⟨_, c, rfl, rfl⟩
  · rintro xs ⟨c, rfl⟩
    refine ⟨by rw [Tryd.ntmps138]; simp, ?_⟩
    simp only [go_sem, h.hP, byteS_q, byteS_p, byteS_c, byteS_f, Tryd.ntmps138, Nat.reduceEqDiff, reduceCtorEq, Nat.reduceMul, Nat.reduceAdd, Nat.reduceSub, Nat.reduceDiv, Nat.reduceMod, Nat.reduceLeDiff, Nat.reduceLT, Nat.reduceBNe, Nat.reduceBEq, reduceIte, Int.reduceLE, Int.reduceLT, Int.reduceToNat, Int.reduceNeg, Int.reduceAdd, Int.reduceSub, Int.reduceMul, Int.reduceEq]
    unfold smallC
    exact ⟨fun c => by simp [c], fun c => by simp [c]⟩
theorem digit_ctr {cx : Cx} (h : Seat cx) : Ctr cx 110 (byteS digitC) := by
  refine ctr_of (fn := Tryd.f110) (l := [.tmp 2]) (envL []) [0, 2] [] [] (env0 h.hP) ?_ (by rw [h.hP]; exact Tryd.func110) rfl (by kernel_rfl) rfl ?_ ?_
  · rw [h.hP]; exact ⟨_, Tryd.func110, by kernel_rfl, by kernel_rfl⟩
  · rintro xs ⟨c, rfl⟩; exact ⟨_, c, rfl, rfl⟩
  · rintro xs ⟨c, rfl⟩
    refine ⟨by rw [Tryd.ntmps110]; simp, ?_⟩
    simp only [go_sem, h.hP, byteS_q, byteS_p, byteS_c, byteS_f, Tryd.ntmps110, Nat.reduceEqDiff, reduceCtorEq, Nat.reduceMul, Nat.reduceAdd, Nat.reduceSub, Nat.reduceDiv, Nat.reduceMod, Nat.reduceLeDiff, Nat.reduceLT, Nat.reduceBNe, Nat.reduceBEq, reduceIte, Int.reduceLE, Int.reduceLT, Int.reduceToNat, Int.reduceNeg, Int.reduceAdd, Int.reduceSub, Int.reduceMul, Int.reduceEq]
    unfold digitC
    exact ⟨fun c => by simp [c], fun c => by simp [c]⟩
theorem all_bt (s : ByteArray) (p : Int → Bool) : ((bl s).all p = true) = ∀ j : Nat, (j : Int) < s.size → p (bt s j) = true := by
  apply propext
  rw [List.all_eq_true]
  constructor
  · intro h j hj
    rw [bt_at, List.getD_eq_getElem?_getD, List.getElem?_eq_getElem (by rw [bl_length]; omega)]
    exact h _ (List.getElem_mem _)
  · intro h x hx
    obtain ⟨j, hj, rfl⟩ := List.mem_iff_getElem.1 hx
    have := h j (by rw [bl_length] at hj; omega)
    rwa [bt_at, List.getD_eq_getElem?_getD, List.getElem?_eq_getElem hj] at this
theorem all_bt_no {s : ByteArray} {p : Int → Bool} {i : Int} (h0 : 0 ≤ i) (h1 : i < s.size) (h : p (bt s i) = false) : (bl s).all p = false := by
  cases e : (bl s).all p with
  | false => rfl
  | true =>
    rw [all_bt] at e
    have := e i.toNat (by omega)
    rw [Int.toNat_of_nonneg h0, h] at this
    cases this
/-- all of a string's bytes -/
def allS : Spec where
  pre xs := ∃ (s : ByteArray) (sp : FSpec), xs = [.str s, .fv sp] ∧ (∀ c : Int, 0 ≤ c → c ≤ 255 → sp.det (.d (.int .u8 c))) ∧ s.size ≤ 4611686018427387904
  post xs r := ∃ (s : ByteArray) (sp : FSpec), xs = [.str s, .fv sp] ∧ r = .b ((bl s).all fun c => sp.holds (.d (.int .u8 c)))
  cost _ := 0
  fresh := true
theorem all_ctr {cx : Cx} (h : Seat cx) : Ctr cx 109 allS := by
  refine ctr_of (fn := Tryd.f109) (l := [.tmp 4]) (envL []) [0, 1, 4, 5, 7, 8, 9, 16] [] [] (env0 h.hP) ?_ (by rw [h.hP]; exact Tryd.func109) rfl (by kernel_rfl) rfl ?_ ?_
  · rw [h.hP]; exact ⟨_, Tryd.func109, by kernel_rfl, by kernel_rfl⟩
  · rintro xs ⟨s, sp, rfl, h1, h2⟩; exact ⟨_, s, sp, rfl, rfl⟩
  · rintro xs ⟨s, sp, rfl, h1, h2⟩
    refine ⟨by rw [Tryd.ntmps109]; simp, ?_⟩
    simp only [go_sem, h.hP, allS, Tryd.ntmps109, Nat.reduceEqDiff, reduceCtorEq, Nat.reduceMul, Nat.reduceAdd, Nat.reduceSub, Nat.reduceDiv, Nat.reduceMod, Nat.reduceLeDiff, Nat.reduceLT, Nat.reduceBNe, Nat.reduceBEq, reduceIte, Int.reduceLE, Int.reduceLT, Int.reduceToNat, Int.reduceNeg, Int.reduceAdd, Int.reduceSub, Int.reduceMul, Int.reduceEq]
    have hd : ∀ i, sp.det (.d (.int .u8 (bt s i))) := fun i => h1 _ (bt_range s i).1 (bt_range s i).2
    refine vc_loopS (Int) (fun (i : Int) => [(8, .i i)]) [] (fun (i : Int) => []) (fun (i : Int) => []) (fun (i : Int) => 0) (fun (i : Int) => 0 ≤ i ∧ i ≤ s.size ∧ ∀ j : Nat, (j : Int) < i → sp.holds (.d (.int .u8 (bt s j))) = true) (fun (i : Int) => (s.size - i).toNat) [] ?_ ?_
    · simp only [go_sem, h.hP, List.cons_append, List.nil_append, Meets_e, Below_e, Prod.exists, exists_eq, exists_eq_left, exists_eq_left', exists_eq_right, exists_eq_right', exists_and_left, exists_and_right, Ob.arr.injEq, AV.own.injEq, AV.fv.injEq, Tryd.ntmps109, Nat.reduceEqDiff, reduceCtorEq, Nat.reduceMul, Nat.reduceAdd, Nat.reduceSub, Nat.reduceDiv, Nat.reduceMod, Nat.reduceLeDiff, Nat.reduceLT, Nat.reduceBNe, Nat.reduceBEq, reduceIte, Int.reduceLE, Int.reduceLT, Int.reduceToNat, Int.reduceNeg, Int.reduceAdd, Int.reduceSub, Int.reduceMul, Int.reduceEq]
      exact ⟨Int.natCast_nonneg _, fun j hj => by omega⟩
    · rintro i ⟨j1, j2, j3⟩
      simp only [go_sem, h.hP, List.cons_append, List.nil_append, Meets_e, Below_e, Prod.exists, exists_eq, exists_eq_left, exists_eq_left', exists_eq_right, exists_eq_right', exists_and_left, exists_and_right, Ob.arr.injEq, AV.own.injEq, AV.fv.injEq, allS, fun i => (hd i).pre, fun i => (hd i).post, Tryd.ntmps109, Nat.reduceEqDiff, reduceCtorEq, Nat.reduceMul, Nat.reduceAdd, Nat.reduceSub, Nat.reduceDiv, Nat.reduceMod, Nat.reduceLeDiff, Nat.reduceLT, Nat.reduceBNe, Nat.reduceBEq, reduceIte, Int.reduceLE, Int.reduceLT, Int.reduceToNat, Int.reduceNeg, Int.reduceAdd, Int.reduceSub, Int.reduceMul, Int.reduceEq]
      have hw : i < s.size → IntKind.i64.wrap (i + 1) = i + 1 := fun h => i64w (by omega) (by omega)
      refine ⟨fun c => ⟨j1, c, fun hf => (all_bt_no j1 c hf).symm, fun ht => ?_⟩, fun c => ?_⟩
      · rw [hw c]
        refine ⟨by omega, by omega, fun j hj => ?_, by omega⟩
        by_cases e : (j : Int) = i
        · rw [e]; exact ht
        · exact j3 j (by omega)
      · have := all_bt s fun c => sp.holds (.d (.int .u8 c))
        exact (this.mpr fun j hj => j3 j (by omega)).symm
/-- IsKey -/
def keyΦ : List (List D) → FSpec := csp F0 u8D fun _ c => keyC c
theorem keyΦ_h (c : Int) : (keyΦ []).holds (.d (.int .u8 c)) = keyC c := csp_holds F0_inj u8D_inj () c
theorem keyΦ_d (c : Int) : (keyΦ []).det (.d (.int .u8 c)) := csp_det F0_inj u8D_inj () c
theorem IsKey1_ctr {cx : Cx} (h : Seat cx) : Ctr cx 139 (cloS F0 u8D fun _ c => keyC c) := by
  refine ctr_of (fn := Tryd.f139) (l := [.tmp 2]) (envL [(138, (byteS smallC)), (110, (byteS digitC))]) [0, 2] [] [] (envL_cons (small_ctr h) (envL_cons (digit_ctr h) (env0 h.hP))) ?_ (by rw [h.hP]; exact Tryd.func139) rfl (by kernel_rfl) rfl ?_ ?_
  · rw [h.hP]; exact ⟨_, Tryd.func139, by kernel_rfl, by kernel_rfl⟩
  · rintro xs ⟨c, a, rfl⟩; exact ⟨_, c, a, rfl, rfl⟩
  · rintro xs ⟨c, a, rfl⟩
    refine ⟨by rw [Tryd.ntmps139]; simp [F0], ?_⟩
    simp only [go_sem, h.hP, byteS_q, byteS_p, byteS_c, byteS_f, F0, u8D, cloS, Tryd.ntmps139, Nat.reduceEqDiff, reduceCtorEq, Nat.reduceMul, Nat.reduceAdd, Nat.reduceSub, Nat.reduceDiv, Nat.reduceMod, Nat.reduceLeDiff, Nat.reduceLT, Nat.reduceBNe, Nat.reduceBEq, reduceIte, Int.reduceLE, Int.reduceLT, Int.reduceToNat, Int.reduceNeg, Int.reduceAdd, Int.reduceSub, Int.reduceMul, Int.reduceEq]
    grind [keyC]
def strB (p : ByteArray → Bool) : Spec where
  pre xs := ∃ (s : ByteArray), xs = [.str s] ∧ (s.size ≤ 4611686018427387904)
  post xs y := ∃ (s : ByteArray), xs = [.str s] ∧ y = .b (p s)
  cost _ := 0
  fresh := true
theorem strB_c (p : ByteArray → Bool) (xs : List AV) : (strB p).cost xs = 0 := nr rfl
theorem strB_f (p : ByteArray → Bool) : (strB p).fresh = true := nr rfl
theorem strB_q (p : ByteArray → Bool) (s : ByteArray) : (strB p).pre [.str s] = (s.size ≤ 4611686018427387904) := propext ⟨fun h => by
  have h' : ∃ (s' : ByteArray), ([.str s] : List AV) = [.str s'] ∧ (s'.size ≤ 4611686018427387904) := h
  obtain ⟨s', e, h⟩ := h'
  simp only [List.cons.injEq, AV.dv.injEq, AV.fv.injEq, DV.d.injEq, DV.ag.injEq, D.int.injEq, D.str.injEq, D.bool.injEq, D.sl.injEq, true_and, and_true, intsDi_inj, rowsT_inj, rowsKi_inj] at e
  obtain rfl := e
  exact h, fun h => ⟨s, rfl, h⟩⟩
theorem strB_p (p : ByteArray → Bool) (s : ByteArray) : (strB p).post [.str s] = fun y => y = .b (p s) := funext fun y => propext ⟨fun h => by
  have h' : ∃ (s' : ByteArray), ([.str s] : List AV) = [.str s'] ∧ y = .b (p s') := h
  obtain ⟨s', e, h⟩ := h'
  simp only [List.cons.injEq, AV.dv.injEq, AV.fv.injEq, DV.d.injEq, DV.ag.injEq, D.int.injEq, D.str.injEq, D.bool.injEq, D.sl.injEq, true_and, and_true, intsDi_inj, rowsT_inj, rowsKi_inj] at e
  obtain rfl := e
  exact h, fun h => ⟨s, rfl, h⟩⟩
theorem IsKey_ctr {cx : Cx} (h : Seat cx) : Ctr cx 91 (strB keyB) := by
  refine ctr_of (fn := Tryd.f91) (l := [.tmp 2]) (envF [(138, (byteS smallC)), (90, inS), (109, allS)] [(139, keyΦ)]) [0, 2] [] [] (envF_cons (clo_of (IsKey1_ctr h)) (envF_nil (envL_cons (small_ctr h) (envL_cons (pwithin_ctr h) (envL_cons (all_ctr h) (env0 h.hP)))))) ?_ (by rw [h.hP]; exact Tryd.func91) rfl (by kernel_rfl) rfl ?_ ?_
  · rw [h.hP]; exact ⟨_, Tryd.func91, by kernel_rfl, by kernel_rfl⟩
  · rintro xs ⟨s, rfl, hs⟩; exact ⟨_, s, rfl, rfl⟩
  · rintro xs ⟨s, rfl, hs⟩
    refine ⟨by rw [Tryd.ntmps91]; simp, ?_⟩
    simp only [go_sem, h.hP, List.cons_append, List.nil_append, Meets_e, Below_e, Prod.exists, exists_eq, exists_eq_left, exists_eq_left', exists_eq_right, exists_eq_right', exists_and_left, exists_and_right, Ob.arr.injEq, AV.own.injEq, AV.fv.injEq, byteS_q, byteS_p, byteS_c, byteS_f, strB_q, strB_p, strB_c, strB_f, inS_q, inS_p, inS_c, inS_f, allS, keyΦ_h, keyΦ_d, Tryd.ntmps91, Nat.reduceEqDiff, reduceCtorEq, Nat.reduceMul, Nat.reduceAdd, Nat.reduceSub, Nat.reduceDiv, Nat.reduceMod, Nat.reduceLeDiff, Nat.reduceLT, Nat.reduceBNe, Nat.reduceBEq, reduceIte, Int.reduceLE, Int.reduceLT, Int.reduceToNat, Int.reduceNeg, Int.reduceAdd, Int.reduceSub, Int.reduceMul, Int.reduceEq]
    grind [keyB, inB]
end Go.Avc

/- hidden, IndexByte, HasPrefix, escaped: their contracts. No condition. -/
set_option linter.unusedVariables false
set_option linter.unusedSimpArgs false
set_option maxRecDepth 100000
namespace Go.Avc
open Go Go.Proofs

def hiddenS : Spec where
  pre xs := ∃ c : Int, xs = [.dv (.d (.int .u8 c))]
  post xs r := ∃ c : Int, xs = [.dv (.d (.int .u8 c))] ∧ r = .b (hid c)
  cost _ := 0
  fresh := true
theorem hidden_ctr {cx : Cx} (h : Seat cx) : Ctr cx 61 hiddenS := by
  refine ctr_of (fn := Tryd.f61) (l := [.tmp 2]) (envL []) [0, 2] [] [] (env0 h.hP) ?_ (by rw [h.hP]; exact Tryd.func61) rfl (by kernel_rfl) rfl ?_ ?_
  · rw [h.hP]; exact ⟨_, Tryd.func61, by kernel_rfl, by kernel_rfl⟩
  · rintro xs ⟨c, rfl⟩; exact ⟨_, c, rfl, rfl⟩
  · rintro xs ⟨c, rfl⟩
    refine ⟨by rw [Tryd.ntmps61]; simp, ?_⟩
    simp only [go_sem, h.hP, hiddenS, Tryd.ntmps61, Nat.reduceEqDiff, reduceCtorEq, Nat.reduceMul, Nat.reduceAdd, Nat.reduceSub, Nat.reduceDiv, Nat.reduceMod, Nat.reduceLeDiff, Nat.reduceLT, Nat.reduceBNe, Nat.reduceBEq, reduceIte, Int.reduceLE, Int.reduceLT, Int.reduceToNat, Int.reduceNeg, Int.reduceAdd, Int.reduceSub, Int.reduceMul, Int.reduceEq]
    (repeat' (first | with_reducible apply And.intro | with_reducible intro)) <;> (rw [Bool.eq_iff_iff]; simp [hid]; omega)

def hasPre (s p : ByteArray) : Bool := (bl p).isPrefixOf (bl s)
def hasPreS : Spec where
  pre xs := ∃ s p : ByteArray, xs = [.str s, .str p] ∧ s.size ≤ 9223372036854775807
  post xs r := ∃ s p : ByteArray, xs = [.str s, .str p] ∧ r = .b (hasPre s p)
  cost _ := 0
  fresh := true
theorem hasPre_of (s p : ByteArray) (h : p.size ≤ s.size) : ((s.extract 0 p.size).toList == p.toList) = hasPre s p := by
  rw [str_beq, Bool.eq_iff_iff, decide_eq_true_eq, ← bl_inj, bl_extract, List.drop_zero]
  unfold hasPre
  rw [List.isPrefixOf_iff_prefix, List.prefix_iff_eq_take, bl_length]
  exact ⟨fun e => e.symm, fun e => e.symm⟩
theorem hasPre_not (s p : ByteArray) (h : s.size < p.size) : hasPre s p = false := by
  unfold hasPre
  rw [Bool.eq_false_iff]
  intro e
  have := (List.isPrefixOf_iff_prefix.1 e).length_le
  rw [bl_length, bl_length] at this
  omega
theorem hasPre0_ctr {cx : Cx} (h : Seat cx) : Ctr cx 120 hasPreS := by
  refine ctr_of (fn := Tryd.f120) (l := [.tmp 4]) (envL []) [0, 1, 4] [] [] (env0 h.hP) ?_ (by rw [h.hP]; exact Tryd.func120) rfl (by kernel_rfl) rfl ?_ ?_
  · rw [h.hP]; exact ⟨_, Tryd.func120, by kernel_rfl, by kernel_rfl⟩
  · rintro xs ⟨s, p, rfl, hs⟩; exact ⟨_, s, p, rfl, rfl⟩
  · rintro xs ⟨s, p, rfl, hs⟩
    refine ⟨by rw [Tryd.ntmps120]; simp, ?_⟩
    simp only [go_sem, h.hP, hasPreS, Tryd.ntmps120, Nat.reduceEqDiff, reduceCtorEq, Nat.reduceMul, Nat.reduceAdd, Nat.reduceSub, Nat.reduceDiv, Nat.reduceMod, Nat.reduceLeDiff, Nat.reduceLT, Nat.reduceBNe, Nat.reduceBEq, reduceIte, Int.reduceLE, Int.reduceLT, Int.reduceToNat, Int.reduceNeg, Int.reduceAdd, Int.reduceSub, Int.reduceMul, Int.reduceEq]
    exact ⟨fun h1 => ⟨by omega, by omega, by rw [← str_beq]; exact hasPre_of s p (by omega)⟩, fun h1 => (hasPre_not s p (by omega)).symm⟩
theorem hasPre_ctr {cx : Cx} (h : Seat cx) : Ctr cx 64 hasPreS := by
  refine ctr_of (fn := Tryd.f64) (l := [.tmp 4]) (envL [(120, hasPreS)]) [0, 1, 4] [] [] (envL_cons (hasPre0_ctr h) (env0 h.hP)) ?_ (by rw [h.hP]; exact Tryd.func64) rfl (by kernel_rfl) rfl ?_ ?_
  · rw [h.hP]; exact ⟨_, Tryd.func64, by kernel_rfl, by kernel_rfl⟩
  · rintro xs ⟨s, p, rfl, hs⟩; exact ⟨_, s, p, rfl, rfl⟩
  · rintro xs ⟨s, p, rfl, hs⟩
    refine ⟨by rw [Tryd.ntmps64]; simp, ?_⟩
    simp only [go_sem, h.hP, hasPreS, Tryd.ntmps64, Nat.reduceEqDiff, reduceCtorEq, Nat.reduceMul, Nat.reduceAdd, Nat.reduceSub, Nat.reduceDiv, Nat.reduceMod, Nat.reduceLeDiff, Nat.reduceLT, Nat.reduceBNe, Nat.reduceBEq, reduceIte, Int.reduceLE, Int.reduceLT, Int.reduceToNat, Int.reduceNeg, Int.reduceAdd, Int.reduceSub, Int.reduceMul, Int.reduceEq]
    exact hs

theorem ix_same (s : ByteArray) (c : Int) (h : 0 ≤ c ∧ c ≤ 255) : Lib.indexByte s.data.toList c.toNat.toUInt8 = ixL (bl s) c := by
  unfold bl
  generalize s.data.toList = l
  induction l with
  | nil => rfl
  | cons x r ih =>
    rw [List.map_cons]
    unfold Lib.indexByte ixL
    have hx : (x == c.toNat.toUInt8) = decide ((x.toNat : Int) = c) := by
      rw [Bool.eq_iff_iff, beq_iff_eq, decide_eq_true_eq]
      constructor
      · intro e; rw [e]; simp [Nat.toUInt8]; omega
      · intro e; apply UInt8.toNat.inj; simp [Nat.toUInt8]; omega
    rw [hx, ih]
    by_cases h1 : (x.toNat : Int) = c
    · rw [if_pos (by simpa using h1), if_pos h1]
    · rw [if_neg (by simpa using h1), if_neg h1]
      by_cases h2 : ixL (r.map fun b => (b.toNat : Int)) c = -1
      · rw [if_pos (by simpa using h2), if_pos h2]
      · rw [if_neg (by simpa using h2), if_neg h2]
def ixS : Spec where
  pre xs := ∃ (s : ByteArray) (c : Int), xs = [.str s, .dv (.d (.int .u8 c))] ∧ 0 ≤ c ∧ c ≤ 255
  post xs r := ∃ (s : ByteArray) (c : Int), xs = [.str s, .dv (.d (.int .u8 c))] ∧ r = .i (ixL (bl s) c)
  cost _ := 0
  fresh := true
theorem ix_ctr {cx : Cx} (h : Seat cx) : Ctr cx 117 ixS := by
  refine ctr_flat (by rw [h.hP]; exact ⟨_, Tryd.func117, by kernel_rfl, by kernel_rfl⟩) (fun _ => rfl) ?_
  rintro xs ⟨s, c, rfl, h0, h1⟩
  refine ⟨_, _, _, rfl, ⟨s, c, rfl, rfl⟩, rfl, fun w _ => ?_⟩
  rw [h.hP]
  refine (Tryd.strings_IndexByte s c w).mono ?_
  rintro e w' ⟨rfl, rfl⟩
  rw [ix_same s c ⟨h0, h1⟩]
  exact ⟨rfl, Go.RowKit.Below.refl _ _⟩

def escS : Spec where
  pre xs := ∃ s : ByteArray, xs = [.str s] ∧ s.size ≤ 9223372036854775807
  post xs r := ∃ s : ByteArray, xs = [.str s] ∧ r = .tcons (.dv (.d (.int .u8 (escL (bl s)).1))) (.tcons (.i (escL (bl s)).2) .tnil)
  cost _ := 0
  fresh := true
theorem esc_ctr {cx : Cx} (h : Seat cx) : Ctr cx 63 escS := by
  refine ctr_of (fn := Tryd.f63) (l := [.tmp 2, .tmp 3]) (envL [(117, ixS), (61, hiddenS)]) [0, 2, 3, 4, 5, 6, 8, 10, 11, 16, 18, 22, 34, 41] [] [] (envL_cons (ix_ctr h) (envL_cons (hidden_ctr h) (env0 h.hP))) ?_ (by rw [h.hP]; exact Tryd.func63) rfl (by kernel_rfl) rfl ?_ ?_
  · rw [h.hP]; exact ⟨_, Tryd.func63, by kernel_rfl, by kernel_rfl⟩
  · rintro xs ⟨s, rfl, hs⟩; exact ⟨_, s, rfl, rfl⟩
  · rintro xs ⟨s, rfl, hs⟩
    refine ⟨by rw [Tryd.ntmps63]; simp, ?_⟩
    simp only [go_sem, h.hP, escS, ixS, hiddenS, Tryd.ntmps63, Nat.reduceEqDiff, reduceCtorEq, Nat.reduceMul, Nat.reduceAdd, Nat.reduceSub, Nat.reduceDiv, Nat.reduceMod, Nat.reduceLeDiff, Nat.reduceLT, Nat.reduceBNe, Nat.reduceBEq, reduceIte, Int.reduceLE, Int.reduceLT, Int.reduceToNat, Int.reduceNeg, Int.reduceAdd, Int.reduceSub, Int.reduceMul, Int.reduceEq]
    have hlen := bl_length s
    have hb := bl_bs s
    simp only [str_beq_nil, bt_bl, ← hlen, Int.reduceToNat, show bl ⟨#[48, 49, 50, 51, 52, 53, 54, 55, 56, 57, 97, 98, 99, 100, 101, 102]⟩ = hexL from bl_hex]
    generalize bl s = l at *
    clear hlen hs s
    rcases l with _ | ⟨c, _ | ⟨a, _ | ⟨b, t⟩⟩⟩
    · (repeat' (first | with_reducible apply And.intro | with_reducible intro)) <;> simp_all [escL]
    · (repeat' (first | with_reducible apply And.intro | with_reducible intro)) <;> simp_all [escL]
    · (repeat' (first | with_reducible apply And.intro | with_reducible intro)) <;> simp_all [escL]
    · have ha := (isBs_cons.1 (isBs_cons.1 hb).2).1
      have hb2 := (isBs_cons.1 (isBs_cons.1 (isBs_cons.1 hb).2).2).1
      have h1 := ixL_lt hexL a
      have h2 := ixL_lt hexL b
      have hw : 0 ≤ ixL hexL a → 0 ≤ ixL hexL b → IntKind.u8.wrap (IntKind.i64.wrap (IntKind.i64.wrap (16 * ixL hexL a) + ixL hexL b)) = 16 * ixL hexL a + ixL hexL b := fun h3 h4 => by
        rw [show hexL.length = 16 from rfl] at h1 h2
        rw [i64w (n := 16 * ixL hexL a) (by omega) (by omega), i64w (by omega) (by omega), u8w (by omega) (by omega)]
      clear h1 h2 hb
      (repeat' (first | with_reducible apply And.intro | with_reducible intro)) <;> simp_all [escL] <;> (try omega)
      all_goals (rw [if_neg (by omega)])
end Go.Avc

/- A slice of numbers that is handed in: it reads as numbers; it reads so still in a world of which all that was there is left. No condition. -/
set_option linter.unusedVariables false
namespace Go.Avc
open Go Go.Proofs Go.ChangeShapes Go.ChangeMaps

theorem cell_spot' {w : World} {a : Addr} {v : Value} (h : w.cell? a = some v) : a.spot = none := by
  obtain ⟨b, o, s⟩ := a
  cases s with
  | none => rfl
  | some x =>
    unfold World.cell? at h
    split at h <;> simp at h
section
variable {H : Type} {enc : TypeId × Value → H} {P : Program} {W : World}
theorem open_nums {t e : TypeId} {r : Reach} {b0 : Nat} {v : Value} {d : DataW H} {ps : List MemPlace} (ht : P.underlying t = some (.slice e)) (he : P.underlying e = some (.int .i64)) (hc : P.cellsOf e = 1)
    (hval : Value.okWide P W r b0 t v) (hd : DataW.Trod enc P W 0 (fun _ => true) true t v d ps) :
    ∃ (A : Option Addr) (L : List Int) (cp : Nat), v = .slice A L.length cp ∧ Rd (fun k => k < W.heap.size) W (.sl (intRows L)) v ∧
      ∀ W', RowKit.Below W.heap.size W W' → ∀ sp : Nat → Bool, (∀ p ∈ ps, sp p.block = true) → DataW.Trod enc P W' 0 sp true t v d ps := by
  obtain ⟨a0, len0, cap0, rfl⟩ := Go.WideShapes.okWide_slice ht hval
  obtain ⟨fuel, hf⟩ := hd
  rcases open_ints ht he hc hf with ⟨h1, h2⟩ | ⟨a, len, cap, zs, h1, hb, hl, hm, hz, hx, hcell, hw⟩
  · have h1' : [Value.slice a0 len0 cap0] = [Value.slice none 0 0] := h1
    simp only [List.cons.injEq, Value.slice.injEq, and_true] at h1'
    obtain ⟨rfl, rfl, rfl⟩ := h1'
    cases h2
    refine ⟨none, [], 0, rfl, .nil none 0, fun W' _ sp _ => ⟨1, ?_⟩⟩
    simp [DataW.trod, Value.cells, ht]
  · have h1' : [Value.slice a0 len0 cap0] = [Value.slice (some a) len cap] := h1
    simp only [List.cons.injEq, Value.slice.injEq, and_true] at h1'
    obtain ⟨rfl, rfl, rfl⟩ := h1'
    simp only [if_true] at hz
    cases hx
    have hin : ∀ i, i < zs.length → a.block < W.heap.size := fun i hi => by
      have := hcell i hi
      by_cases h : a.block < W.heap.size
      · exact h
      · have e : W.heap[(a.add i).block]? = none := by
          rw [Array.getElem?_eq_none]
          rw [block_add]
          omega
        unfold World.cell? at this
        rw [e] at this
        cases this
    refine ⟨some a, zs.take len0, cap0, by rw [List.length_take, Nat.min_eq_left (by omega)], ?_, fun W' hW sp hsp => ⟨2, ?_⟩⟩
    · have hlen : (zs.take len0).length = len0 := by rw [List.length_take, Nat.min_eq_left (by omega)]
      by_cases h0 : len0 = 0
      · subst h0
        rw [List.take_zero]
        exact .nil (some a) cap0
      · have hs : a.spot = none := cell_spot' (a := a.add 0) (hcell 0 (by omega))
        obtain ⟨b, o, s⟩ := a
        have hs' : s = none := hs
        subst hs'
        have hr : Rd (fun k => k < W.heap.size) W (.sl (intRows (zs.take len0))) (.slice (some ⟨b, o, none⟩) (intRows (zs.take len0)).length cap0) := by
          refine .sl (intRows (zs.take len0)) 1 b o cap0 (fun i _ => .int .i64 (zs.getD i 0)) ?_ (hin 0 (by omega)) (hin 0 (by omega)) ?_ ?_ ?_
          · unfold intRows
            rw [List.length_map, hlen]
            exact hl
          · intro i x hx
            unfold intRows at hx
            rw [List.getElem?_map] at hx
            obtain ⟨y, _, rfl⟩ := Option.map_eq_some_iff.1 hx
            rfl
          · intro i x hx j y hy
            unfold intRows at hx
            rw [List.getElem?_map] at hx
            obtain ⟨n, hn, rfl⟩ := Option.map_eq_some_iff.1 hx
            have hi : i < len0 := by
              have := (List.getElem?_eq_some_iff.1 hn).1
              omega
            cases j with
            | zero =>
              have := hcell i (by omega)
              rw [Go.WideShapes.add_plain] at this
              rw [Nat.mul_one, Nat.add_zero]
              exact this
            | succ j => simp at hy
          · intro i x hx j y hy
            unfold intRows at hx
            rw [List.getElem?_map] at hx
            obtain ⟨n, hn, rfl⟩ := Option.map_eq_some_iff.1 hx
            have hi : i < len0 := by
              have := (List.getElem?_eq_some_iff.1 hn).1
              omega
            cases j with
            | zero =>
              have hy' : D.int .i64 n = y := Option.some.inj hy
              subst hy'
              have hn' : zs.getD i 0 = n := by
                rw [List.getElem?_take, if_pos hi] at hn
                rw [List.getD_eq_getElem?_getD, hn]
                rfl
              show Rd _ _ _ (Value.int .i64 (zs.getD i 0))
              rw [hn']
              exact .int _ _
            | succ j => simp at hy
        have hl' : (intRows (zs.take len0)).length = len0 := by unfold intRows; rw [List.length_map, hlen]
        rw [hl'] at hr
        exact hr
    · refine shut_ints 0 ht he hc hb hl hm ?_ (fun i hi => ?_) hw
      · by_cases h0 : cap0 = 0
        · have : len0 = 0 := by omega
          subst h0
          subst this
          rw [hz]
          split <;> rfl
        · have := hsp (.cell a.block (a.off + 0)) (List.mem_map.2 ⟨0, List.mem_range.2 (by omega), rfl⟩)
          have e : sp a.block = true := this
          rw [if_pos e, hz]
      · rw [hW.cell (by rw [block_add]; exact hin i hi)]
        exact hcell i hi
end

section
open Go.RowKit Go.WideShapes
variable {H : Type} {enc : TypeId × Value → H} {P : Program}
theorem post_of_below {f : Func} {s : ChangeSpec} {apart fresh handsOn again : Bool} {W W' : World} {args : Array Value} {v : Value} {ds gs : List (DataW H)} {before pa pv : List MemPlace}
    (hW : DataW.Whole enc P f.params.toList s.vars apart W args.toList ds gs before)
    (hres : ∀ (b : Nat) (sp : Nat → Bool) (hd : Bool), DataW.TrodAll enc P W' b sp hd f.resultTypes.toList (v.resultList f.resultTypes.size) (s.fn H (ds ++ gs)).results [])
    (hargs : ∀ sp : Nat → Bool, (∀ p ∈ before, sp p.block = true) → DataW.TrodAll enc P W' 0 sp true f.params.toList args.toList (s.fn H (ds ++ gs)).args pa)
    (hvars : ∀ sp : Nat → Bool, (∀ p ∈ before, sp p.block = true) → DataW.TrodVars enc P W' sp s.vars (s.fn H (ds ++ gs)).vars pv)
    (hps : before = pa ++ pv) (hb : RowKit.Below W.heap.size W W')
    (hok : ∀ (j : Nat) (t : TypeId) (r : Value), f.resultTypes[j]? = some t → (v.resultList f.resultTypes.size)[j]? = some r → Value.okWide P W' .any 0 t r) :
    s.post enc P f apart fresh handsOn again W args v W' := by
  have hlt : ∀ p ∈ before, p.block < W.heap.size := fun p hp => hW.lt p hp
  have hold : ∀ p ∈ before, (fun b => decide (b < W.heap.size)) p.block = true := fun p hp => by simpa using hlt p hp
  refine ⟨ds, gs, before, [], pa, pv, hW, hres _ _ _, hargs _ hold, hvars _ hold, World.keptBut_mono (fun p hp => ⟨hp, ?_⟩) (hb.frame (· ∈ before)), fun _ => ?_⟩
  · rw [hps, List.mem_append] at hp
    exact Or.inr hp
  · obtain ⟨_, _, _, _, _, hz, hn⟩ := hW
    refine ⟨hok, _, _, ([] ++ pa) ++ pv, ⟨[] ++ pa, pv, trodAll_append (hargs _ (fun _ _ => rfl)) (hres _ _ _), hvars _ (fun _ _ => rfl), rfl, ?_, ?_⟩, ?_⟩
    · intro b off hp
      have hin : MemPlace.cell b off ∈ before := by rw [hps]; simpa using hp
      rw [hb.frozen (hlt _ hin)]
      exact hz b off hin
    · intro ha
      have := hn ha
      rw [hps] at this
      simpa using this
    · intro p hp _
      rw [hps]
      simpa using hp
end
end Go.Avc

/- Code points and distances of strings: the program's functions: their contracts. No condition. -/
set_option linter.unusedVariables false
set_option linter.unusedSimpArgs false
set_option maxRecDepth 100000
namespace Go.Avc
open Go Go.Proofs

/-- The tables of unicode/utf8 lie as they are laid. -/
def Utf8 (cx : Cx) : Prop := ∀ w, GlAt cx w → Lib.Utf8Tabs 2 3 w
def decS : Spec where
  pre xs := ∃ s : ByteArray, xs = [.str s]
  post xs r := ∃ s : ByteArray, xs = [.str s] ∧ r = .tcons (.dv (.d (.int .i32 (Lib.decodeGo s).1))) (.tcons (.i (Lib.decodeGo s).2) .tnil)
  cost _ := 0
  fresh := true
theorem dec_ctr {cx : Cx} (h : Seat cx) (hU : Utf8 cx) : Ctr cx 124 decS := by
  refine ctr_flat (by rw [h.hP]; exact ⟨_, Tryd.func124, by kernel_rfl, by kernel_rfl⟩) (fun _ => rfl) ?_
  rintro xs ⟨s, rfl⟩
  refine ⟨_, _, _, rfl, ⟨s, rfl, rfl⟩, rfl, fun w hw => ?_⟩
  rw [h.hP]
  exact Tryd.utf8_DecodeRuneInString s w (hU w hw)

theorem spl_one (x y : D) : spl [x] 0 [y] = [y] := rfl

/-- How many bytes the first code point takes. -/
def wid (s : ByteArray) : Nat := (Lib.decodeGo s).2
def ptOf (s : ByteArray) : Int := if ((Lib.decodeGo s).1 : Int) = 65533 ∧ ((Lib.decodeGo s).2 : Int) = 1 then -1 - bt s 0 else ((Lib.decodeGo s).1 : Int)
def ptsL : Nat → ByteArray → List Int
  | 0, _ => []
  | k + 1, s => if s.size = 0 then [] else ptOf s :: ptsL k (s.extract (wid s) s.size)
/-- The code points of a string; a byte that is none is below 0. -/
def pts (s : ByteArray) : List Int := ptsL s.size s
theorem i32w {n : Int} (h1 : -2147483648 ≤ n) (h2 : n ≤ 2147483647) : IntKind.i32.wrap n = n := IntWalk.i32_in _ ⟨h1, h2⟩
theorem decodeN_w (n b0 b1 b2 b3 : Nat) (hn : 1 ≤ n) (hb : b0 < 256) : 1 ≤ (Lib.decodeN n b0 b1 b2 b3).2 ∧ (Lib.decodeN n b0 b1 b2 b3).2 ≤ n ∧ (Lib.decodeN n b0 b1 b2 b3).1 ≤ 1114111 := by
  unfold Lib.decodeN
  repeat' split
  all_goals (simp only; omega)
theorem wid_ge {s : ByteArray} (h : s.size ≠ 0) : 1 ≤ wid s ∧ wid s ≤ s.size ∧ (Lib.decodeGo s).1 ≤ 1114111 := by
  unfold wid Lib.decodeGo
  rw [if_neg h, Lib.decode_at]
  exact decodeN_w _ _ _ _ _ (by omega) (UInt8.toNat_lt _)
theorem ptsL_step {s : ByteArray} {k : Nat} (h : s.size ≠ 0) (hk : s.size ≤ k) : ∃ k', k = k' + 1 ∧ ptsL k s = ptOf s :: ptsL k' (s.extract (wid s) s.size) := by
  obtain ⟨k', rfl⟩ : ∃ k', k = k' + 1 := ⟨k - 1, by omega⟩
  exact ⟨k', rfl, by conv => lhs; unfold ptsL
                     rw [if_neg h]⟩
theorem ptsL_nil {s : ByteArray} (h : s.size = 0) (k : Nat) : ptsL k s = [] := by
  cases k with
  | zero => rfl
  | succ k => unfold ptsL; rw [if_pos h]
theorem ptsL_len : ∀ (k : Nat) (s : ByteArray), (ptsL k s).length ≤ s.size
  | 0, s => Nat.zero_le _
  | k + 1, s => by
    unfold ptsL
    split
    · exact Nat.zero_le _
    · rename_i h
      have h1 := wid_ge h
      have h2 := ptsL_len k (s.extract (wid s) s.size)
      rw [ByteArray.size_extract] at h2
      rw [List.length_cons]
      omega
def ptsS (k : IntKind) : Spec where
  pre xs := ∃ s : ByteArray, xs = [.str s] ∧ s.size ≤ 1073741824
  post xs r := ∃ s : ByteArray, xs = [.str s] ∧ r = .sl (rowsK k (pts s))
  cost _ := 0
  fresh := true
def ptsSf (p : ByteArray × List Int × Nat) : Sh := ⟨[(0, .str p.1), (3, .own 3)], [(3, .arr 21 1 (rowsK .i32 p.2.1))], 0⟩
def ptsJ (s : ByteArray) (p : ByteArray × List Int × Nat) : Prop := p.2.1.length + p.1.size ≤ s.size ∧ p.1.size ≤ p.2.2 ∧ p.2.1 ++ ptsL p.2.2 p.1 = pts s
theorem pts_ctr {cx : Cx} (h : Seat cx) (hU : Utf8 cx) : Ctr cx 69 (ptsS .i32) := by
  refine ctr_of (fn := Tryd.f69) (l := [.tmp 2]) (envL [(124, decS)]) [0, 2, 3, 4, 5, 7, 18] [] [] (envL_cons (dec_ctr h hU) (env0 h.hP)) ?_ (by rw [h.hP]; exact Tryd.func69) rfl (by kernel_rfl) rfl ?_ ?_
  · rw [h.hP]; exact ⟨_, Tryd.func69, by kernel_rfl, by kernel_rfl⟩
  · rintro xs ⟨s, rfl, hs⟩; exact ⟨_, s, rfl, rfl⟩
  · rintro xs ⟨s, rfl, hs⟩
    refine ⟨by rw [Tryd.ntmps69]; simp, ?_⟩
    simp only [go_sem, h.hP, ptsS, decS, Tryd.ntmps69, Nat.reduceEqDiff, reduceCtorEq, Nat.reduceMul, Nat.reduceAdd, Nat.reduceSub, Nat.reduceDiv, Nat.reduceMod, Nat.reduceLeDiff, Nat.reduceLT, Nat.reduceBNe, Nat.reduceBEq, reduceIte, Int.reduceLE, Int.reduceLT, Int.reduceToNat, Int.reduceNeg, Int.reduceAdd, Int.reduceSub, Int.reduceMul, Int.reduceEq]
    refine vc_loop _ ptsSf (ptsJ s) (fun p => p.1.size) [(3, 21, 1)] ?_ ?_
    · refine meets_mk _ (s, [], s.size) ⟨by show 0 + s.size ≤ s.size; omega, Nat.le_refl _, rfl⟩ ?_
      simp only [go_sem, h.hP, ptsSf, Tryd.ntmps69, Nat.reduceEqDiff, reduceCtorEq, Nat.reduceMul, Nat.reduceAdd, Nat.reduceSub, Nat.reduceDiv, Nat.reduceMod, Nat.reduceLeDiff, Nat.reduceLT, Nat.reduceBNe, Nat.reduceBEq, reduceIte, Int.reduceLE, Int.reduceLT, Int.reduceToNat, Int.reduceNeg, Int.reduceAdd, Int.reduceSub, Int.reduceMul, Int.reduceEq]
      rfl
    · rintro ⟨t, acc, k⟩ ⟨j1, j2, j3⟩
      simp only at j1 j2 j3
      simp only [go_sem, h.hP, ptsSf, ptsS, decS, str_nil, Tryd.ntmps69, Nat.reduceEqDiff, reduceCtorEq, Nat.reduceMul, Nat.reduceAdd, Nat.reduceSub, Nat.reduceDiv, Nat.reduceMod, Nat.reduceLeDiff, Nat.reduceLT, Nat.reduceBNe, Nat.reduceBEq, reduceIte, Int.reduceLE, Int.reduceLT, Int.reduceToNat, Int.reduceNeg, Int.reduceAdd, Int.reduceSub, Int.reduceMul, Int.reduceEq]
      simp only [rowsK_flat, rowsK_len, rowsK_one, Bool.true_eq_false, if_false, D.sl.injEq, AV.dv.injEq, DV.d.injEq]
      have hr := bt_range t 0
      have hw : t.size ≠ 0 → 1 ≤ wid t ∧ wid t ≤ t.size ∧ (Lib.decodeGo t).1 ≤ 1114111 := wid_ge
      have hx : (t.extract (wid t) t.size).size = t.size - wid t := by rw [ByteArray.size_extract]; omega
      have hb : IntKind.i32.wrap (-1 - IntKind.i32.wrap (bt t 0)) = -1 - bt t 0 := by rw [i32w (n := bt t 0) (by omega) (by omega), i32w (by omega) (by omega)]
      have key : t.size ≠ 0 → ∃ k', k = k' + 1 ∧ (acc ++ [ptOf t]) ++ ptsL k' (t.extract (wid t) t.size) = pts s := fun hne => by
        obtain ⟨k', rfl, hst⟩ := ptsL_step hne j2
        rw [hst] at j3
        exact ⟨k', rfl, by rw [List.append_assoc]; exact j3⟩
      have leaf : ∀ c : Int, t.size ≠ 0 → c = ptOf t → ∀ σ, At 31 [(3, 21, 1)] (ptsSf (t.extract (wid t) t.size, acc ++ [c], k - 1)) σ → Below 31 [(3, 21, 1)] ptsSf (ptsJ s) (fun p => p.1.size) t.size σ := fun c hne hc σ hσ => by
        obtain ⟨k', rfl, hk⟩ := key hne
        have h1 := hw hne
        refine below_mk _ _ ⟨?_, ?_, ?_⟩ ?_ hσ
        · show (acc ++ [c]).length + (t.extract (wid t) t.size).size ≤ s.size
          rw [List.length_append, List.length_singleton]; omega
        · show (t.extract (wid t) t.size).size ≤ k' + 1 - 1; omega
        · show (acc ++ [c]) ++ ptsL k' _ = _
          rw [hc]; exact hk
        · show (t.extract (wid t) t.size).size < t.size; omega
      have hwd : (Lib.decodeGo t).2 = wid t := rfl
      rw [hb, hwd]
      clear key
      refine ⟨fun hne => ?_, fun he => ?_⟩
      · have h1 := hw hne
        refine ⟨fun c1 => ⟨fun c2 => ?_, fun c2 => ?_⟩, fun c1 => ?_⟩
        · refine ⟨by omega, by omega, by omega, by omega, by omega, by omega, leaf (-1 - bt t 0) hne ?_ _ ?_⟩
          · unfold ptOf; rw [if_pos ⟨c1, c2⟩]
          · simp only [go_sem, h.hP, ptsSf, Tryd.ntmps69, Nat.reduceEqDiff, reduceCtorEq, Nat.reduceMul, Nat.reduceAdd, Nat.reduceSub, Nat.reduceDiv, Nat.reduceMod, Nat.reduceLeDiff, Nat.reduceLT, Nat.reduceBNe, Nat.reduceBEq, reduceIte, Int.reduceLE, Int.reduceLT, Int.reduceToNat, Int.reduceNeg, Int.reduceAdd, Int.reduceSub, Int.reduceMul, Int.reduceEq]
            rw [rowsK_app]
        · refine ⟨by omega, by omega, by omega, by omega, by omega, leaf _ hne (?_ : ((Lib.decodeGo t).1 : Int) = _) _ ?_⟩
          · unfold ptOf; rw [if_neg (fun e => c2 e.2)]
          · simp only [go_sem, h.hP, ptsSf, Tryd.ntmps69, Nat.reduceEqDiff, reduceCtorEq, Nat.reduceMul, Nat.reduceAdd, Nat.reduceSub, Nat.reduceDiv, Nat.reduceMod, Nat.reduceLeDiff, Nat.reduceLT, Nat.reduceBNe, Nat.reduceBEq, reduceIte, Int.reduceLE, Int.reduceLT, Int.reduceToNat, Int.reduceNeg, Int.reduceAdd, Int.reduceSub, Int.reduceMul, Int.reduceEq]
            rw [rowsK_app]
        · refine ⟨by omega, by omega, by omega, by omega, by omega, leaf _ hne (?_ : ((Lib.decodeGo t).1 : Int) = _) _ ?_⟩
          · unfold ptOf; rw [if_neg (fun e => c1 e.1)]
          · simp only [go_sem, h.hP, ptsSf, Tryd.ntmps69, Nat.reduceEqDiff, reduceCtorEq, Nat.reduceMul, Nat.reduceAdd, Nat.reduceSub, Nat.reduceDiv, Nat.reduceMod, Nat.reduceLeDiff, Nat.reduceLT, Nat.reduceBNe, Nat.reduceBEq, reduceIte, Int.reduceLE, Int.reduceLT, Int.reduceToNat, Int.reduceNeg, Int.reduceAdd, Int.reduceSub, Int.reduceMul, Int.reduceEq]
            rw [rowsK_app]
      · rw [ptsL_nil he, List.append_nil] at j3
        rw [j3]
end Go.Avc

/- Small functions of the sending rules: their contracts. No condition. -/
set_option linter.unusedVariables false
set_option linter.unusedSimpArgs false
set_option maxRecDepth 100000
namespace Go.Avc
open Go Go.Proofs

theorem rowsK_inj' {l m : List Int} : intsD l = intsD m ↔ l = m := by
  refine ⟨fun h => ?_, fun h => by rw [h]⟩
  have e : ∀ l : List Int, numsOf (intsD l) = l := fun l => by
    unfold numsOf intsD
    rw [List.map_map]
    induction l with
    | nil => rfl
    | cons x r ih => simp [ih]
  rw [← e l, ← e m, h]
theorem within_ctr {cx : Cx} (h : Seat cx) : Ctr cx 76 inS := by
  refine ctr_of (fn := Tryd.f76) (l := [.tmp 6]) (envL []) [0, 1, 2, 6] [] [] (env0 h.hP) ?_ (by rw [h.hP]; exact Tryd.func76) rfl (by kernel_rfl) rfl ?_ ?_
  · rw [h.hP]; exact ⟨_, Tryd.func76, by kernel_rfl, by kernel_rfl⟩
  · rintro xs ⟨n, lo, hi, rfl⟩; exact ⟨_, n, lo, hi, rfl, rfl⟩
  · rintro xs ⟨n, lo, hi, rfl⟩
    refine ⟨by rw [Tryd.ntmps76]; simp, ?_⟩
    simp only [go_sem, h.hP, inS_q, inS_p, inS_c, inS_f, Tryd.ntmps76, Nat.reduceEqDiff, reduceCtorEq, Nat.reduceMul, Nat.reduceAdd, Nat.reduceSub, Nat.reduceDiv, Nat.reduceMod, Nat.reduceLeDiff, Nat.reduceLT, Nat.reduceBNe, Nat.reduceBEq, reduceIte, Int.reduceLE, Int.reduceLT, Int.reduceToNat, Int.reduceNeg, Int.reduceAdd, Int.reduceSub, Int.reduceMul, Int.reduceEq]
    unfold inB
    refine ⟨fun c => ?_, fun c => ?_⟩
    · simp [c]
    · simp [c]
def chanS  : Spec where
  pre xs := ∃ (n : Int), xs = [.i n]
  post xs y := ∃ (n : Int), xs = [.i n] ∧ y = .b (inB n 1 4)
  cost _ := 0
  fresh := true
theorem chanS_c  (xs : List AV) : (chanS).cost xs = 0 := nr rfl
theorem chanS_f  : (chanS).fresh = true := nr rfl
theorem chanS_q  (n : Int) : (chanS).pre [.i n] = (True) := propext ⟨fun h => by
  have h' : ∃ (n' : Int), ([.i n] : List AV) = [.i n'] := h
  obtain ⟨n', e⟩ := h'
  simp only [List.cons.injEq, AV.dv.injEq, AV.fv.injEq, DV.d.injEq, DV.ag.injEq, D.int.injEq, D.str.injEq, D.bool.injEq, D.sl.injEq, true_and, and_true, intsDi_inj, rowsT_inj, rowsKi_inj] at e
  obtain rfl := e
  exact trivial, fun h => ⟨n, rfl⟩⟩
theorem chanS_p  (n : Int) : (chanS).post [.i n] = fun y => y = .b (inB n 1 4) := funext fun y => propext ⟨fun h => by
  have h' : ∃ (n' : Int), ([.i n] : List AV) = [.i n'] ∧ y = .b (inB n' 1 4) := h
  obtain ⟨n', e, h⟩ := h'
  simp only [List.cons.injEq, AV.dv.injEq, AV.fv.injEq, DV.d.injEq, DV.ag.injEq, D.int.injEq, D.str.injEq, D.bool.injEq, D.sl.injEq, true_and, and_true, intsDi_inj, rowsT_inj, rowsKi_inj] at e
  obtain rfl := e
  exact h, fun h => ⟨n, rfl, h⟩⟩
theorem isChannel_ctr {cx : Cx} (h : Seat cx) : Ctr cx 78 chanS := by
  refine ctr_of (fn := Tryd.f78) (l := [.tmp 2]) (envL [(76, inS)]) [0, 2] [] [] (envL_cons (within_ctr h) (env0 h.hP)) ?_ (by rw [h.hP]; exact Tryd.func78) rfl (by kernel_rfl) rfl ?_ ?_
  · rw [h.hP]; exact ⟨_, Tryd.func78, by kernel_rfl, by kernel_rfl⟩
  · rintro xs ⟨n, rfl⟩; exact ⟨_, n, rfl, rfl⟩
  · rintro xs ⟨n, rfl⟩
    refine ⟨by rw [Tryd.ntmps78]; simp, ?_⟩
    simp only [go_sem, h.hP, inS_q, inS_p, inS_c, inS_f, chanS_q, chanS_p, chanS_c, chanS_f, Tryd.ntmps78, Nat.reduceEqDiff, reduceCtorEq, Nat.reduceMul, Nat.reduceAdd, Nat.reduceSub, Nat.reduceDiv, Nat.reduceMod, Nat.reduceLeDiff, Nat.reduceLT, Nat.reduceBNe, Nat.reduceBEq, reduceIte, Int.reduceLE, Int.reduceLT, Int.reduceToNat, Int.reduceNeg, Int.reduceAdd, Int.reduceSub, Int.reduceMul, Int.reduceEq]
def kindL : List Int := [0, 1, 2, 4, 3]
def kindS  : Spec where
  pre xs := ∃ (n : Int), xs = [.i n] ∧ (0 ≤ n ∧ n ≤ 4)
  post xs y := ∃ (n : Int), xs = [.i n] ∧ y = .i (kindL.getD n.toNat 0)
  cost _ := 0
  fresh := true
theorem kindS_c  (xs : List AV) : (kindS).cost xs = 0 := nr rfl
theorem kindS_f  : (kindS).fresh = true := nr rfl
theorem kindS_q  (n : Int) : (kindS).pre [.i n] = (0 ≤ n ∧ n ≤ 4) := propext ⟨fun h => by
  have h' : ∃ (n' : Int), ([.i n] : List AV) = [.i n'] ∧ (0 ≤ n' ∧ n' ≤ 4) := h
  obtain ⟨n', e, h⟩ := h'
  simp only [List.cons.injEq, AV.dv.injEq, AV.fv.injEq, DV.d.injEq, DV.ag.injEq, D.int.injEq, D.str.injEq, D.bool.injEq, D.sl.injEq, true_and, and_true, intsDi_inj, rowsT_inj, rowsKi_inj] at e
  obtain rfl := e
  exact h, fun h => ⟨n, rfl, h⟩⟩
theorem kindS_p  (n : Int) : (kindS).post [.i n] = fun y => y = .i (kindL.getD n.toNat 0) := funext fun y => propext ⟨fun h => by
  have h' : ∃ (n' : Int), ([.i n] : List AV) = [.i n'] ∧ y = .i (kindL.getD n'.toNat 0) := h
  obtain ⟨n', e, h⟩ := h'
  simp only [List.cons.injEq, AV.dv.injEq, AV.fv.injEq, DV.d.injEq, DV.ag.injEq, D.int.injEq, D.str.injEq, D.bool.injEq, D.sl.injEq, true_and, and_true, intsDi_inj, rowsT_inj, rowsKi_inj] at e
  obtain rfl := e
  exact h, fun h => ⟨n, rfl, h⟩⟩
theorem kindOf_ctr {cx : Cx} (h : Seat cx) : Ctr cx 79 kindS := by
  refine ctr_of (fn := Tryd.f79) (l := [.tmp 2]) (envL []) [0, 2] [] [] (env0 h.hP) ?_ (by rw [h.hP]; exact Tryd.func79) rfl (by kernel_rfl) rfl ?_ ?_
  · rw [h.hP]; exact ⟨_, Tryd.func79, by kernel_rfl, by kernel_rfl⟩
  · rintro xs ⟨n, rfl, h1, h2⟩; exact ⟨_, n, rfl, rfl⟩
  · rintro xs ⟨n, rfl, h1, h2⟩
    refine ⟨by rw [Tryd.ntmps79]; simp, ?_⟩
    simp only [go_sem, h.hP, kindS, show ([[D.int .i64 0], [D.int .i64 1], [D.int .i64 2], [D.int .i64 4], [D.int .i64 3]] : List (List D)) = rowsK .i64 kindL from rfl, rowsK_get, rowsK_len, Tryd.ntmps79, Nat.reduceEqDiff, reduceCtorEq, Nat.reduceMul, Nat.reduceAdd, Nat.reduceSub, Nat.reduceDiv, Nat.reduceMod, Nat.reduceLeDiff, Nat.reduceLT, Nat.reduceBNe, Nat.reduceBEq, reduceIte, Int.reduceLE, Int.reduceLT, Int.reduceToNat, Int.reduceNeg, Int.reduceAdd, Int.reduceSub, Int.reduceMul, Int.reduceEq]
    exact ⟨h1, by show n < ((5 : Nat) : Int); omega⟩
def isKindS : Spec where
  pre xs := ∃ n : Int, xs = [.i n]
  post xs r := ∃ (n k e : Int), xs = [.i n] ∧ (inB n 1 4 = true → k = kindL.getD n.toNat 0 ∧ e = 0) ∧ (inB n 1 4 = false → k = 0 ∧ e = 4) ∧ r = .tcons (.i k) (.tcons (.i e) .tnil)
  cost _ := 0
  fresh := true
theorem kindOf2_ctr {cx : Cx} (h : Seat cx) : Ctr cx 27 isKindS := by
  refine ctr_of (fn := Tryd.f27) (l := [.tmp 2, .tmp 3]) (envL [(78, chanS), (79, kindS)]) [0, 2, 3, 6] [] [] (envL_cons (isChannel_ctr h) (envL_cons (kindOf_ctr h) (env0 h.hP))) ?_ (by rw [h.hP]; exact Tryd.func27) rfl (by kernel_rfl) rfl ?_ ?_
  · rw [h.hP]; exact ⟨_, Tryd.func27, by kernel_rfl, by kernel_rfl⟩
  · rintro xs ⟨n, rfl⟩
    by_cases c : inB n 1 4 = true
    · exact ⟨_, n, _, _, rfl, fun _ => ⟨rfl, rfl⟩, (fun e => by rw [c] at e; cases e), rfl⟩
    · exact ⟨_, n, _, _, rfl, fun e => absurd e c, fun _ => ⟨rfl, rfl⟩, rfl⟩
  · rintro xs ⟨n, rfl⟩
    refine ⟨by rw [Tryd.ntmps27]; simp, ?_⟩
    simp only [go_sem, h.hP, kindS_q, kindS_p, kindS_c, kindS_f, chanS_q, chanS_p, chanS_c, chanS_f, isKindS, Tryd.ntmps27, Nat.reduceEqDiff, reduceCtorEq, Nat.reduceMul, Nat.reduceAdd, Nat.reduceSub, Nat.reduceDiv, Nat.reduceMod, Nat.reduceLeDiff, Nat.reduceLT, Nat.reduceBNe, Nat.reduceBEq, reduceIte, Int.reduceLE, Int.reduceLT, Int.reduceToNat, Int.reduceNeg, Int.reduceAdd, Int.reduceSub, Int.reduceMul, Int.reduceEq]
    refine ⟨fun c => ⟨0, 4, (fun e => by rw [c] at e; cases e), fun _ => ⟨rfl, rfl⟩, rfl, rfl⟩, fun c => ?_⟩
    have h2 : 1 ≤ n ∧ n ≤ 4 := of_decide_eq_true c
    exact ⟨by omega, by omega, _, 0, fun _ => ⟨rfl, rfl⟩, (fun e => by rw [c] at e; cases e), rfl, rfl⟩
def oddS : Spec where
  pre xs := ∃ lo hi : Int, xs = [.st, .i lo, .i hi] ∧ -1073741824 ≤ lo ∧ lo ≤ 1073741823 ∧ -1073741823 ≤ hi ∧ hi ≤ 1073741823
  post xs r := ∃ lo hi q : Int, xs = [.st, .i lo, .i hi] ∧ -1099511627776 ≤ q ∧ q ≤ 1099511627776 ∧ r = .i q
  cost _ := 2
  fresh := true
theorem odd_ctr {cx : Cx} (h : Seat cx) : Ctr cx 72 oddS := by
  refine ctr_of (fn := Tryd.f72) (l := [.tmp 6]) (envL [(19, flipS), (14, pickS), (24, rangeS)]) [0, 1, 2, 6, 8] [] [] (envL_cons (flip_ctr cx h.hP h.hS) (envL_cons (pick_ctr cx h.hP h.hS) (envL_cons (range_ctr cx h.hP h.hS) (env0 h.hP)))) ?_ (by rw [h.hP]; exact Tryd.func72) rfl (by kernel_rfl) rfl ?_ ?_
  · rw [h.hP]; exact ⟨_, Tryd.func72, by kernel_rfl, by kernel_rfl⟩
  · rintro xs ⟨lo, hi, rfl, h1, h2, h3, h4⟩; exact ⟨_, lo, hi, 0, rfl, by omega, by omega, rfl⟩
  · rintro xs ⟨lo, hi, rfl, h1, h2, h3, h4⟩
    refine ⟨by rw [Tryd.ntmps72]; simp, ?_⟩
    simp only [go_sem, h.hP, flipS, pickS, rangeS, oddS, show ∀ a b c d e f : Int, ([[D.int .i64 a], [D.int .i64 b], [D.int .i64 c], [D.int .i64 d], [D.int .i64 e], [D.int .i64 f]] : List (List D)) = intsD [a, b, c, d, e, f] from fun _ _ _ _ _ _ => rfl, (show ∀ l m : List Int, (intsD l = intsD m) = (l = m) from fun l m => propext rowsK_inj'), Tryd.ntmps72, Nat.reduceEqDiff, reduceCtorEq, Nat.reduceMul, Nat.reduceAdd, Nat.reduceSub, Nat.reduceDiv, Nat.reduceMod, Nat.reduceLeDiff, Nat.reduceLT, Nat.reduceBNe, Nat.reduceBEq, reduceIte, Int.reduceLE, Int.reduceLT, Int.reduceToNat, Int.reduceNeg, Int.reduceAdd, Int.reduceSub, Int.reduceMul, Int.reduceEq]
    rw [i64w (n := lo - 1) (by omega) (by omega), i64w (n := hi + 1) (by omega) (by omega)]
    refine fun a => ⟨fun _ x hx => ?_, fun _ => ⟨by omega, by omega, by omega, by omega, fun x a1 a2 a3 => ⟨x, by omega, ?_, rfl⟩⟩⟩
    · unfold isIn at hx
      simp only [List.mem_cons, List.not_mem_nil, or_false] at hx
      exact ⟨x, by omega, by omega, rfl⟩
    · by_cases c : lo ≤ hi
      · have := a2 c; omega
      · have := a3 (by omega); omega
def isOf (x : ByteArray) (l : List ByteArray) : Prop := x ∈ l
def oneS : Spec where
  pre xs := ∃ l : List ByteArray, xs = [.st, .sl (rowsT l)] ∧ l ≠ [] ∧ l.length ≤ 1073741824
  post xs r := ∃ (l : List ByteArray) (x : ByteArray), xs = [.st, .sl (rowsT l)] ∧ isOf x l ∧ r = .str x
  cost _ := 1
  fresh := true
theorem one_ctr {cx : Cx} (h : Seat cx) : Ctr cx 71 oneS := by
  refine ctr_of (fn := Tryd.f71) (l := [.tmp 4]) (envL [(25, nextS)]) [0, 1, 4] [] [] (envL_cons (next_ctr cx h.hP h.hS) (env0 h.hP)) ?_ (by rw [h.hP]; exact Tryd.func71) rfl (by kernel_rfl) rfl ?_ ?_
  · rw [h.hP]; exact ⟨_, Tryd.func71, by kernel_rfl, by kernel_rfl⟩
  · rintro xs ⟨l, rfl, h1, h2⟩
    exact (match l, h1 with | x :: t, _ => ⟨.str x, x :: t, x, rfl, List.mem_cons_self, rfl⟩)
  · rintro xs ⟨l, rfl, h1, h2⟩
    refine ⟨by rw [Tryd.ntmps71]; simp, ?_⟩
    simp only [go_sem, h.hP, nextS, oneS, rowsT_len, rowsT_get, rowsT_inj, Tryd.ntmps71, Nat.reduceEqDiff, reduceCtorEq, Nat.reduceMul, Nat.reduceAdd, Nat.reduceSub, Nat.reduceDiv, Nat.reduceMod, Nat.reduceLeDiff, Nat.reduceLT, Nat.reduceBNe, Nat.reduceBEq, reduceIte, Int.reduceLE, Int.reduceLT, Int.reduceToNat, Int.reduceNeg, Int.reduceAdd, Int.reduceSub, Int.reduceMul, Int.reduceEq]
    have hl := List.length_pos_iff.2 h1
    refine ⟨by omega, fun a e1 _ => ?_⟩
    have ha := e1 (by omega)
    refine ⟨ha.1, ha.2, ?_⟩
    rw [List.getD_eq_getElem?_getD, List.getElem?_eq_getElem (by omega)]
    exact List.getElem_mem _
/-! ### The stream's functions, as equations -/
theorem nextS_q (m : Int) : nextS.pre [.st, .i m] = (m ≤ 9223372036854775807) := propext ⟨fun ⟨m', e, h⟩ => by
  simp only [List.cons.injEq, AV.dv.injEq, DV.d.injEq, D.int.injEq, true_and, and_true] at e; subst e; exact h, fun h => ⟨m, rfl, h⟩⟩
theorem nextS_p (m : Int) : nextS.post [.st, .i m] = fun y => ∃ q : Int, (1 ≤ m → 0 ≤ q ∧ q < m) ∧ (m < 1 → q = 0) ∧ y = .i q := funext fun y => propext ⟨fun ⟨m', q, e, h⟩ => by
  simp only [List.cons.injEq, AV.dv.injEq, DV.d.injEq, D.int.injEq, true_and, and_true] at e; subst e; exact ⟨q, h⟩, fun ⟨q, h⟩ => ⟨m, q, rfl, h⟩⟩
theorem nextS_c (xs : List AV) : nextS.cost xs = 1 := nr rfl
theorem nextS_f : nextS.fresh = true := nr rfl
theorem flipS_q (m : Int) : flipS.pre [.st, .i m] = (m ≤ 9223372036854775807) := propext ⟨fun ⟨m', e, h⟩ => by
  simp only [List.cons.injEq, AV.dv.injEq, DV.d.injEq, D.int.injEq, true_and, and_true] at e; subst e; exact h, fun h => ⟨m, rfl, h⟩⟩
theorem flipS_p (m : Int) : flipS.post [.st, .i m] = fun y => ∃ b : Bool, y = .b b := funext fun y => propext ⟨fun ⟨m', q, e, h⟩ => ⟨q, h⟩, fun ⟨q, h⟩ => ⟨m, q, rfl, h⟩⟩
theorem flipS_c (xs : List AV) : flipS.cost xs = 1 := nr rfl
theorem flipS_f : flipS.fresh = true := nr rfl
theorem pickS_q (l : List Int) : pickS.pre [.st, .sl (intsD l)] = (l ≠ [] ∧ l.length ≤ 1073741824) := propext ⟨fun ⟨m', e, h⟩ => by
  simp only [List.cons.injEq, AV.dv.injEq, DV.d.injEq, D.sl.injEq, intsDi_inj, true_and, and_true] at e; subst e; exact h, fun h => ⟨l, rfl, h⟩⟩
theorem pickS_p (l : List Int) : pickS.post [.st, .sl (intsD l)] = fun y => ∃ x : Int, isIn x l ∧ y = .i x := funext fun y => propext ⟨fun ⟨m', q, e, h⟩ => by
  simp only [List.cons.injEq, AV.dv.injEq, DV.d.injEq, D.sl.injEq, intsDi_inj, true_and, and_true] at e; subst e; exact ⟨q, h⟩, fun ⟨q, h⟩ => ⟨l, q, rfl, h⟩⟩
theorem pickS_c (xs : List AV) : pickS.cost xs = 1 := nr rfl
theorem pickS_f : pickS.fresh = true := nr rfl
theorem oneS_q (l : List ByteArray) : oneS.pre [.st, .sl (rowsT l)] = (l ≠ [] ∧ l.length ≤ 1073741824) := propext ⟨fun ⟨m', e, h⟩ => by
  simp only [List.cons.injEq, AV.dv.injEq, DV.d.injEq, D.sl.injEq, rowsT_inj, true_and, and_true] at e; subst e; exact h, fun h => ⟨l, rfl, h⟩⟩
theorem oneS_p (l : List ByteArray) : oneS.post [.st, .sl (rowsT l)] = fun y => ∃ x : ByteArray, isOf x l ∧ y = .str x := funext fun y => propext ⟨fun ⟨m', q, e, h⟩ => by
  simp only [List.cons.injEq, AV.dv.injEq, DV.d.injEq, D.sl.injEq, rowsT_inj, true_and, and_true] at e; subst e; exact ⟨q, h⟩, fun ⟨q, h⟩ => ⟨l, q, rfl, h⟩⟩
theorem oneS_c (xs : List AV) : oneS.cost xs = 1 := nr rfl
theorem oneS_f : oneS.fresh = true := nr rfl
theorem rangeS_q (lo hi : Int) : rangeS.pre [.st, .i lo, .i hi] = (-1073741824 ≤ lo ∧ lo ≤ 1073741824 ∧ -1073741824 ≤ hi ∧ hi ≤ 1073741824) := propext ⟨fun ⟨a, b, e, h⟩ => by
  simp only [List.cons.injEq, AV.dv.injEq, DV.d.injEq, D.int.injEq, true_and, and_true] at e; obtain ⟨rfl, rfl⟩ := e; exact h, fun h => ⟨lo, hi, rfl, h⟩⟩
theorem rangeS_p (lo hi : Int) : rangeS.post [.st, .i lo, .i hi] = fun y => ∃ q : Int, lo ≤ q ∧ (lo ≤ hi → q ≤ hi) ∧ (hi < lo → q = lo) ∧ y = .i q := funext fun y => propext ⟨fun ⟨a, b, q, e, h⟩ => by
  simp only [List.cons.injEq, AV.dv.injEq, DV.d.injEq, D.int.injEq, true_and, and_true] at e; obtain ⟨rfl, rfl⟩ := e; exact ⟨q, h⟩, fun ⟨q, h⟩ => ⟨lo, hi, q, rfl, h⟩⟩
theorem rangeS_c (xs : List AV) : rangeS.cost xs = 1 := nr rfl
theorem rangeS_f : rangeS.fresh = true := nr rfl
theorem oddS_q (lo hi : Int) : oddS.pre [.st, .i lo, .i hi] = (-1073741824 ≤ lo ∧ lo ≤ 1073741823 ∧ -1073741823 ≤ hi ∧ hi ≤ 1073741823) := propext ⟨fun ⟨a, b, e, h⟩ => by
  simp only [List.cons.injEq, AV.dv.injEq, DV.d.injEq, D.int.injEq, true_and, and_true] at e; obtain ⟨rfl, rfl⟩ := e; exact h, fun h => ⟨lo, hi, rfl, h⟩⟩
theorem oddS_p (lo hi : Int) : oddS.post [.st, .i lo, .i hi] = fun y => ∃ q : Int, -1099511627776 ≤ q ∧ q ≤ 1099511627776 ∧ y = .i q := funext fun y => propext ⟨fun ⟨a, b, q, e, h⟩ => by
  simp only [List.cons.injEq, AV.dv.injEq, DV.d.injEq, D.int.injEq, true_and, and_true] at e; obtain ⟨rfl, rfl⟩ := e; exact ⟨q, h⟩, fun ⟨q, h⟩ => ⟨lo, hi, q, rfl, h⟩⟩
theorem oddS_c (xs : List AV) : oddS.cost xs = 2 := nr rfl
theorem oddS_f : oddS.fresh = true := nr rfl
end Go.Avc

/- Quote and the reference's Quoted: their contracts. No condition. -/
set_option linter.unusedVariables false
set_option linter.unusedSimpArgs false
set_option maxRecDepth 100000
namespace Go.Avc
open Go Go.Proofs

theorem take_succ_bt {s : ByteArray} {i : Nat} (h : i < s.size) : (bl s).take (i + 1) = (bl s).take i ++ [bt s (i : Int)] := by
  have h' : i < (bl s).length := by rw [bl_length]; exact h
  rw [bt_bl, Int.toNat_natCast, getD_lt h', List.take_succ_eq_append_getElem h']
theorem fm_succ {s : ByteArray} {i : Nat} (h : i < s.size) : ((bl s).take (i + 1)).flatMap q1 = ((bl s).take i).flatMap q1 ++ q1 (bt s (i : Int)) := by
  rw [take_succ_bt h, List.flatMap_append]
  simp
theorem fm_one {s : ByteArray} (h : 0 < s.size) : ((bl s).take (0 + 1)).flatMap q1 = q1 (bt s 0) := by rw [fm_succ h]; rfl
theorem fm_len (s : ByteArray) (i : Nat) : (((bl s).take i).flatMap q1).length ≤ 4 * s.size := by
  have h1 := flatMap_len ((bl s).take i)
  have h2 : ((bl s).take i).length ≤ s.size := by rw [List.length_take, bl_length]; omega
  omega
theorem hex_at {c : Int} (h : 0 ≤ c ∧ c ≤ 255) : bt ⟨#[48, 49, 50, 51, 52, 53, 54, 55, 56, 57, 97, 98, 99, 100, 101, 102]⟩ c = hexL.getD c.toNat 0 := by
  rw [bt_bl, show bl ⟨#[48, 49, 50, 51, 52, 53, 54, 55, 56, 57, 97, 98, 99, 100, 101, 102]⟩ = hexL from bl_hex]
theorem q1_esc {c : Int} (h : c = 34 ∨ c = 92) : q1 c = [92, c] := by unfold q1; rw [if_pos h]
theorem q1_nl {c : Int} (h : c = 10) : q1 c = [92, 110] := by unfold q1; rw [if_neg (by omega), if_pos h]
theorem q1_hid {c : Int} (h0 : 0 ≤ c ∧ c ≤ 255) (h1 : ¬ c = 34) (h2 : ¬ c = 92) (h3 : ¬ c = 10) (h : hid c = true) : q1 c = [92, 120, bt ⟨#[48, 49, 50, 51, 52, 53, 54, 55, 56, 57, 97, 98, 99, 100, 101, 102]⟩ (c / 16), bt ⟨#[48, 49, 50, 51, 52, 53, 54, 55, 56, 57, 97, 98, 99, 100, 101, 102]⟩ (c % 16)] := by
  have := (hid_iff c).1 h
  unfold q1
  rw [if_neg (by omega), if_neg h3, if_pos (by omega), hex_at (by omega), hex_at (by omega)]
theorem q1_plain {c : Int} (h1 : ¬ c = 34) (h2 : ¬ c = 92) (h3 : ¬ c = 10) (h : hid c = false) : q1 c = [c] := by
  have : ¬ (c < 33 ∧ c ≠ 10 ∨ 127 ≤ c) := fun h' => by rw [(hid_iff c).2 h'] at h; cases h
  unfold q1
  rw [if_neg (by omega), if_neg h3, if_neg (by omega)]
theorem qbs (s : ByteArray) : isBs (34 :: (bl s).flatMap q1 ++ [34]) := quotedL_bs (bl_bs s)
theorem qend {s : ByteArray} {i : Nat} (h : i = s.size) : (bl s).take i = bl s := by rw [h, ← bl_length, List.take_length]
def quotedF (s : ByteArray) : ByteArray := strOfNums (quotedL (bl s))
def quoteS : Spec where
  pre xs := ∃ s : ByteArray, xs = [.str s] ∧ s.size ≤ 16777216
  post xs r := ∃ s : ByteArray, xs = [.str s] ∧ r = .str (quotedF s)
  cost _ := 0
  fresh := true
def quoteSf (s : ByteArray) (i : Nat) : Sh := ⟨[(0, .str s), (3, .ptr 3 0), (8, .i s.size), (9, .i i)], [(3, .bld bT 5003), (5003, .arr bE 1 (rowsB (34 :: ((bl s).take i).flatMap q1)))], 0⟩
theorem quote_ctr {cx : Cx} (h : Seat cx) : Ctr cx 12 quoteS := by
  refine ctr_of (fn := Tryd.f12) (l := [.tmp 2]) (envL [(61, hiddenS)]) [0, 2, 3, 4, 5, 8, 9, 10, 17, 27, 31] [] [] (envL_cons (hidden_ctr h) (env0 h.hP)) ?_ (by rw [h.hP]; exact Tryd.func12) rfl (by kernel_rfl) rfl ?_ ?_
  · rw [h.hP]; exact ⟨_, Tryd.func12, by kernel_rfl, by kernel_rfl⟩
  · rintro xs ⟨s, rfl, hs⟩; exact ⟨_, s, rfl, rfl⟩
  · rintro xs ⟨s, rfl, hs⟩
    refine ⟨by rw [Tryd.ntmps12]; simp, ?_⟩
    simp only [go_sem, h.hP, quoteS, hiddenS, Tryd.ntmps12, Nat.reduceEqDiff, reduceCtorEq, Nat.reduceMul, Nat.reduceAdd, Nat.reduceSub, Nat.reduceDiv, Nat.reduceMod, Nat.reduceLeDiff, Nat.reduceLT, Nat.reduceBNe, Nat.reduceBEq, reduceIte, Int.reduceLE, Int.reduceLT, Int.reduceToNat, Int.reduceNeg, Int.reduceAdd, Int.reduceSub, Int.reduceMul, Int.reduceEq]
    refine vc_loop _ (quoteSf s) (fun i => i ≤ s.size) (fun i => s.size - i) [] ?_ ?_
    · refine meets_mk _ 0 (Nat.zero_le _) ?_
      simp only [go_sem, h.hP, quoteSf, Tryd.ntmps12, Nat.reduceEqDiff, reduceCtorEq, Nat.reduceMul, Nat.reduceAdd, Nat.reduceSub, Nat.reduceDiv, Nat.reduceMod, Nat.reduceLeDiff, Nat.reduceLT, Nat.reduceBNe, Nat.reduceBEq, reduceIte, Int.reduceLE, Int.reduceLT, Int.reduceToNat, Int.reduceNeg, Int.reduceAdd, Int.reduceSub, Int.reduceMul, Int.reduceEq]
      exact ⟨rfl, rfl⟩
    · intro i hi
      simp only [go_sem, h.hP, quoteSf, quoteS, hiddenS, Tryd.ntmps12, Nat.reduceEqDiff, reduceCtorEq, Nat.reduceMul, Nat.reduceAdd, Nat.reduceSub, Nat.reduceDiv, Nat.reduceMod, Nat.reduceLeDiff, Nat.reduceLT, Nat.reduceBNe, Nat.reduceBEq, reduceIte, Int.reduceLE, Int.reduceLT, Int.reduceToNat, Int.reduceNeg, Int.reduceAdd, Int.reduceSub, Int.reduceMul, Int.reduceEq]
      have hr := bt_range s i
      have hl := fm_len s i
      simp only [bt_tdiv16, bt_tmod16, rowsB_len, strRows_rowsB, rows1, List.length_append, List.length_cons, List.length_nil, show bl ⟨#[92, 110]⟩ = [92, 110] by decide, show bl ⟨#[92, 120]⟩ = [92, 120] by decide]
      (repeat' (first | with_reducible apply And.intro | with_reducible intro))
      all_goals try omega
      all_goals first
        | (have hi' : i < s.size := by omega
           refine below_mk (J := fun i => i ≤ s.size) (μ := fun i => s.size - i) _ (i + 1) (show i + 1 ≤ s.size by omega) (show s.size - (i + 1) < s.size - i by omega) ?_
           simp only [go_sem, h.hP, quoteSf, Tryd.ntmps12, Nat.reduceEqDiff, reduceCtorEq, Nat.reduceMul, Nat.reduceAdd, Nat.reduceSub, Nat.reduceDiv, Nat.reduceMod, Nat.reduceLeDiff, Nat.reduceLT, Nat.reduceBNe, Nat.reduceBEq, reduceIte, Int.reduceLE, Int.reduceLT, Int.reduceToNat, Int.reduceNeg, Int.reduceAdd, Int.reduceSub, Int.reduceMul, Int.reduceEq]
           refine ⟨i64s (by omega), ?_⟩
           rw [fm_succ hi']
           first
             | rw [q1_esc (by omega)]
             | rw [q1_nl (by omega)]
             | rw [q1_hid hr (by omega) (by omega) (by omega) (by assumption)]
             | rw [q1_plain (by omega) (by omega) (by omega) (by assumption)]
           simp only [← rowsB_app, List.cons_append, List.append_assoc, List.nil_append, *])
        | skip
      · rename_i hx
        rw [qend (show i = s.size by omega), ← rowsB_app] at hx
        exact rowsB_ok (qbs s) _ hx
      · rw [qend (show i = s.size by omega), ← rowsB_app, numsOf_rowsB]
        rfl

def quotedSf (s : ByteArray) (p : Nat × Bool) : Sh := match p.2 with
  | true => ⟨[(0, .str s), (3, .lit [[.int .u8 34]]), (8, .i s.size), (9, .i 0)], [], 0⟩
  | false => ⟨[(0, .str s), (3, .own 3), (8, .i s.size), (9, .i p.1)], [(3, .arr 5 1 (rowsB (34 :: ((bl s).take p.1).flatMap q1)))], 0⟩
def quotedJ (s : ByteArray) (p : Nat × Bool) : Prop := match p.2 with
  | true => p.1 = 0
  | false => p.1 ≤ s.size
theorem quoted_leaf {s : ByteArray} {i : Nat} {n m : Nat} {σ : St} (hi : i < s.size) (hm : m = s.size - i) (h : At n [(3, 5, 1)] (quotedSf s (i + 1, false)) σ) : Below n [(3, 5, 1)] (quotedSf s) (quotedJ s) (fun p => s.size - p.1) m σ :=
  below_mk _ (i + 1, false) (by show i + 1 ≤ s.size; omega) (by show s.size - (i + 1) < m; omega) h
theorem hid_not {c : Int} : (c < 33 → hid c = true ∨ c = 10) ∧ (126 < c → hid c = true) ∧ (¬ c < 33 → ¬ 126 < c → hid c = false) := by
  refine ⟨fun h => ?_, fun h => (hid_iff c).2 (by omega), fun h1 h2 => ?_⟩
  · by_cases e : c = 10
    · exact .inr e
    · exact .inl ((hid_iff c).2 (by omega))
  · cases e : hid c with
    | false => rfl
    | true => have := (hid_iff c).1 e; omega
theorem quoted_ctr {cx : Cx} (h : Seat cx) : Ctr cx 13 quoteS := by
  refine ctr_of (fn := Tryd.f13) (l := [.tmp 2]) (envL []) [0, 2, 3, 4, 5, 8, 9, 10, 19, 30, 35] [] [] (env0 h.hP) ?_ (by rw [h.hP]; exact Tryd.func13) rfl (by kernel_rfl) rfl ?_ ?_
  · rw [h.hP]; exact ⟨_, Tryd.func13, by kernel_rfl, by kernel_rfl⟩
  · rintro xs ⟨s, rfl, hs⟩; exact ⟨_, s, rfl, rfl⟩
  · rintro xs ⟨s, rfl, hs⟩
    refine ⟨by rw [Tryd.ntmps13]; simp, ?_⟩
    simp only [go_sem, h.hP, quoteS, Tryd.ntmps13, Nat.reduceEqDiff, reduceCtorEq, Nat.reduceMul, Nat.reduceAdd, Nat.reduceSub, Nat.reduceDiv, Nat.reduceMod, Nat.reduceLeDiff, Nat.reduceLT, Nat.reduceBNe, Nat.reduceBEq, reduceIte, Int.reduceLE, Int.reduceLT, Int.reduceToNat, Int.reduceNeg, Int.reduceAdd, Int.reduceSub, Int.reduceMul, Int.reduceEq]
    refine vc_loop _ (quotedSf s) (quotedJ s) (fun p => s.size - p.1) [(3, 5, 1)] ?_ ?_
    · refine meets_mk _ (0, true) rfl ?_
      simp only [go_sem, h.hP, quotedSf, Tryd.ntmps13, Nat.reduceEqDiff, reduceCtorEq, Nat.reduceMul, Nat.reduceAdd, Nat.reduceSub, Nat.reduceDiv, Nat.reduceMod, Nat.reduceLeDiff, Nat.reduceLT, Nat.reduceBNe, Nat.reduceBEq, reduceIte, Int.reduceLE, Int.reduceLT, Int.reduceToNat, Int.reduceNeg, Int.reduceAdd, Int.reduceSub, Int.reduceMul, Int.reduceEq]
    · rintro ⟨i, b⟩ hi
      have hl := fm_len s i
      have hr := bt_range s i
      cases b
      · have hi' : i ≤ s.size := hi
        simp only [go_sem, h.hP, quotedSf, quoteS, Tryd.ntmps13, Nat.reduceEqDiff, reduceCtorEq, Nat.reduceMul, Nat.reduceAdd, Nat.reduceSub, Nat.reduceDiv, Nat.reduceMod, Nat.reduceLeDiff, Nat.reduceLT, Nat.reduceBNe, Nat.reduceBEq, reduceIte, Int.reduceLE, Int.reduceLT, Int.reduceToNat, Int.reduceNeg, Int.reduceAdd, Int.reduceSub, Int.reduceMul, Int.reduceEq]
        simp only [bt_tdiv16, bt_tmod16, rowsB_len, strRows_rowsB, rows1, List.length_append, List.length_cons, List.length_nil, show bl ⟨#[92, 110]⟩ = [92, 110] by decide]
        (repeat' (first | with_reducible apply And.intro | with_reducible intro))
        all_goals try omega
        all_goals first
          | (have hi2 : i < s.size := by omega
             refine quoted_leaf hi2 rfl ?_
             simp only [go_sem, h.hP, quotedSf, Tryd.ntmps13, Nat.reduceEqDiff, reduceCtorEq, Nat.reduceMul, Nat.reduceAdd, Nat.reduceSub, Nat.reduceDiv, Nat.reduceMod, Nat.reduceLeDiff, Nat.reduceLT, Nat.reduceBNe, Nat.reduceBEq, reduceIte, Int.reduceLE, Int.reduceLT, Int.reduceToNat, Int.reduceNeg, Int.reduceAdd, Int.reduceSub, Int.reduceMul, Int.reduceEq]
             refine ⟨i64s (by omega), ?_⟩
             rw [fm_succ hi2]
             first
               | rw [q1_esc (by omega)]
               | rw [q1_nl (by omega)]
               | rw [q1_hid hr (by omega) (by omega) (by omega) ((hid_iff _).2 (by omega))]
               | rw [q1_plain (by omega) (by omega) (by omega) (hid_not.2.2 (by omega) (by omega))]
             simp only [rowsB, List.map_cons, List.map_append, List.map_nil, List.cons_append, List.append_assoc, List.nil_append, List.flatMap_nil, List.take_zero, *]
             try rfl)
          | skip
        · rename_i hx
          rw [← rowsB_app] at hx
          exact rowsB_u8 _ _ hx
        · rw [qend (show i = s.size by omega), ← rowsB_app, numsOf_rowsB]
          rfl
      · have hi' : i = 0 := hi
        subst hi'
        have hr := bt_range s 0
        simp only [go_sem, h.hP, quotedSf, quoteS, Tryd.ntmps13, Nat.reduceEqDiff, reduceCtorEq, Nat.reduceMul, Nat.reduceAdd, Nat.reduceSub, Nat.reduceDiv, Nat.reduceMod, Nat.reduceLeDiff, Nat.reduceLT, Nat.reduceBNe, Nat.reduceBEq, reduceIte, Int.reduceLE, Int.reduceLT, Int.reduceToNat, Int.reduceNeg, Int.reduceAdd, Int.reduceSub, Int.reduceMul, Int.reduceEq]
        simp only [bt_tdiv16, bt_tmod16, rowsB_len, strRows_rowsB, rows1, List.length_append, List.length_cons, List.length_nil, show bl ⟨#[92, 110]⟩ = [92, 110] by decide]
        (repeat' (first | with_reducible apply And.intro | with_reducible intro))
        all_goals try omega
        all_goals first
          | (have hi2 : 0 < s.size := by omega
             refine quoted_leaf hi2 rfl ?_
             simp only [go_sem, h.hP, quotedSf, Tryd.ntmps13, Nat.reduceEqDiff, reduceCtorEq, Nat.reduceMul, Nat.reduceAdd, Nat.reduceSub, Nat.reduceDiv, Nat.reduceMod, Nat.reduceLeDiff, Nat.reduceLT, Nat.reduceBNe, Nat.reduceBEq, reduceIte, Int.reduceLE, Int.reduceLT, Int.reduceToNat, Int.reduceNeg, Int.reduceAdd, Int.reduceSub, Int.reduceMul, Int.reduceEq]
             refine ⟨rfl, ?_⟩
             rw [fm_one hi2]
             first
               | rw [q1_esc (by omega)]
               | rw [q1_nl (by omega)]
               | rw [q1_hid hr (by omega) (by omega) (by omega) ((hid_iff _).2 (by omega))]
               | rw [q1_plain (by omega) (by omega) (by omega) (hid_not.2.2 (by omega) (by omega))]
             simp only [rowsB, List.map_cons, List.map_append, List.map_nil, List.cons_append, List.append_assoc, List.nil_append, List.flatMap_nil, List.take_zero, *]
             try rfl)
          | skip
        all_goals first
          | (rename_i hx
             rw [← rowsB_app] at hx
             exact rowsB_u8 _ _ hx)
          | (show strOfNums (numsOf (rowsB [34, 34])) = _
             rw [numsOf_rowsB]
             have he : bl s = [] := List.eq_nil_of_length_eq_zero (by rw [bl_length]; omega)
             unfold quotedF
             rw [he]
             rfl)
end Go.Avc

/- The text of a value: valid UTF-8 without control bytes, and by its code points: plain law. No condition. -/
set_option linter.unusedVariables false
set_option linter.unusedSimpArgs false
namespace Go.Avc
open Go
def byteOk (c : UInt8) : Bool := decide (32 ≤ c.toNat) && decide (c.toNat ≠ 127)
def badPt (p : Int) : Bool := decide (p < 32) || (p == 127)
def ptL (l : List UInt8) : Int := if (Lib.decodeL l).1 = 65533 ∧ (Lib.decodeL l).2 = 1 then -1 - ((l.getD 0 0).toNat : Int) else ((Lib.decodeL l).1 : Int)
def ptsF : Nat → List UInt8 → List Int
  | 0, _ => []
  | k + 1, l => if l = [] then [] else ptL l :: ptsF k (l.drop (Lib.decodeL l).2)
theorem dec_hi (n b0 b1 b2 b3 : Nat) (hb : 128 ≤ b0) (h : ¬ ((Lib.decodeN n b0 b1 b2 b3).1 = 65533 ∧ (Lib.decodeN n b0 b1 b2 b3).2 = 1)) :
    128 ≤ (Lib.decodeN n b0 b1 b2 b3).1 ∧ (Lib.decodeN n b0 b1 b2 b3).2 ≤ 4 ∧ (2 ≤ (Lib.decodeN n b0 b1 b2 b3).2 → 128 ≤ b1) ∧ (3 ≤ (Lib.decodeN n b0 b1 b2 b3).2 → 128 ≤ b2) ∧ (4 ≤ (Lib.decodeN n b0 b1 b2 b3).2 → 128 ≤ b3) := by
  unfold Lib.decodeN at h ⊢
  repeat' split
  all_goals first
    | (exfalso; omega)
    | (refine ⟨?_, ?_, ?_, ?_, ?_⟩ <;> simp only <;> omega)
    | (exfalso; simp_all)
theorem byteOk_hi {c : UInt8} (h : 128 ≤ c.toNat) : byteOk c = true := by
  unfold byteOk
  simp only [Bool.and_eq_true, decide_eq_true_eq]
  omega
theorem head_ok (l : List UInt8) (hne : l ≠ []) (h : ¬ ((Lib.decodeL l).1 = 65533 ∧ (Lib.decodeL l).2 = 1)) : (l.take (Lib.decodeL l).2).all byteOk = !badPt ((Lib.decodeL l).1 : Int) := by
  obtain ⟨b, t, rfl⟩ : ∃ b t, l = b :: t := by cases l with | nil => exact absurd rfl hne | cons b t => exact ⟨b, t, rfl⟩
  by_cases hb : b.toNat < 128
  · rw [Lib.decodeL_ascii b t hb]
    show ([b].all byteOk) = _
    unfold badPt byteOk
    simp only [List.all_cons, List.all_nil, Bool.and_true]
    rw [Bool.eq_iff_iff]
    simp
    omega
  · rw [Lib.decodeL_N] at h ⊢
    have h0 : ((b :: t).getD 0 0).toNat = b.toNat := rfl
    rw [h0] at h ⊢
    obtain ⟨h1, h2, h3, h4, h5⟩ := dec_hi _ b.toNat _ _ _ (by omega) h
    have hbad : badPt ((Lib.decodeN (b :: t).length b.toNat ((b :: t).getD 1 0).toNat ((b :: t).getD 2 0).toNat ((b :: t).getD 3 0).toNat).1 : Int) = false := by
      unfold badPt
      simp only [Bool.or_eq_false_iff, decide_eq_false_iff_not, beq_eq_false_iff_ne]
      omega
    rw [hbad]
    rw [Bool.not_false, List.all_eq_true]
    intro x hx
    obtain ⟨j, hj, rfl⟩ := List.mem_iff_getElem.1 hx
    rw [List.length_take] at hj
    rw [List.getElem_take]
    refine byteOk_hi ?_
    have hd : ∀ k : Nat, ∀ hk : k < (b :: t).length, (b :: t)[k] = (b :: t).getD k 0 := fun k hk => by rw [List.getD_eq_getElem?_getD, List.getElem?_eq_getElem hk]; rfl
    rw [hd j (by omega)]
    match j with
    | 0 => show 128 ≤ b.toNat; omega
    | 1 => exact h3 (by omega)
    | 2 => exact h4 (by omega)
    | 3 => exact h5 (by omega)
    | j + 4 => omega
theorem text_law : ∀ (k : Nat) (l : List UInt8), l.length ≤ k → (Lib.validD l && l.all byteOk) = !(ptsF k l).any badPt
  | 0, l, h => by
    have : l = [] := List.eq_nil_of_length_eq_zero (by omega)
    subst this
    rfl
  | k + 1, l, h => by
    by_cases hne : l = []
    · subst hne; rfl
    · rw [Lib.validD_step l hne]
      unfold ptsF
      rw [if_neg hne]
      by_cases hd : (Lib.decodeL l).1 = 65533 ∧ (Lib.decodeL l).2 = 1
      · rw [if_pos hd, List.any_cons]
        have : badPt (ptL l) = true := by
          unfold ptL badPt
          rw [if_pos hd]
          simp only [Bool.or_eq_true, decide_eq_true_eq]
          omega
        rw [this]; rfl
      · rw [if_neg hd, List.any_cons]
        have hp : badPt (ptL l) = badPt ((Lib.decodeL l).1 : Int) := by unfold ptL; rw [if_neg hd]
        have hw := Lib.decodeL_width l
        have ih := text_law k (l.drop (Lib.decodeL l).2) (by rw [List.length_drop]; have : 0 < l.length := List.length_pos_iff.2 hne; omega)
        have hs : l.all byteOk = ((l.take (Lib.decodeL l).2).all byteOk && (l.drop (Lib.decodeL l).2).all byteOk) := by rw [← List.all_append, List.take_append_drop]
        rw [hs, hp, head_ok l hne hd]
        rw [Bool.not_or, ← ih]
        cases badPt ((Lib.decodeL l).1 : Int) <;> cases Lib.validD (l.drop (Lib.decodeL l).2) <;> simp
theorem ptsL_F : ∀ (k : Nat) (s : ByteArray), ptsL k s = ptsF k s.data.toList
  | 0, s => rfl
  | k + 1, s => by
    unfold ptsL ptsF
    have hsz : (s.size = 0) = (s.data.toList = []) := by
      apply propext
      rw [← List.length_eq_zero_iff, Array.length_toList]
      exact Iff.rfl
    by_cases h : s.size = 0
    · rw [if_pos h, if_pos (hsz ▸ h)]
    · rw [if_neg h, if_neg (hsz ▸ h)]
      have hd : Lib.decodeL s.data.toList = Lib.decodeGo s := by
        unfold Lib.decodeL Lib.decodeGo
        rw [if_neg h]
      rw [ptsL_F k]
      have hx : (s.extract (wid s) s.size).data.toList = s.data.toList.drop (Lib.decodeL s.data.toList).2 := by
        rw [ByteArray.data_extract, Array.toList_extract, hd, List.extract_eq_take_drop]
        show (s.data.toList.drop (wid s)).take (s.size - wid s) = s.data.toList.drop (wid s)
        rw [List.take_of_length_le]
        rw [List.length_drop, Array.length_toList]
        exact Nat.le_refl _
      rw [hx]
      congr 1
      unfold ptOf ptL
      rw [hd]
      by_cases c : (Lib.decodeGo s).1 = 65533 ∧ (Lib.decodeGo s).2 = 1
      · rw [if_pos (by omega), if_pos c]
        rfl
      · rw [if_neg (by omega), if_neg c]
/-- What ValidString and a look at the bytes say is what the code points say. -/
theorem text_pts (s : ByteArray) : (Lib.validD s.data.toList && s.data.toList.all byteOk) = !(pts s).any badPt := by
  unfold pts
  rw [ptsL_F, text_law s.size s.data.toList (by rw [Array.length_toList]; exact Nat.le_refl _)]
end Go.Avc

/- Keys by the reference: strings.Trim at a cutset of ASCII bytes. No condition. -/
set_option linter.unusedVariables false
set_option linter.unusedSimpArgs false
set_option maxRecDepth 100000
namespace Go.Avc
open Go Go.Proofs

def asciiB (c : ByteArray) : Bool := c.data.toList.all fun b => decide (b.toNat < 128)
def trimF (s c : ByteArray) : ByteArray := ⟨(Lib.trimS s.data.toList c.data.toList).toArray⟩
def trimSp  : Spec where
  pre xs := ∃ (s : ByteArray) (c : ByteArray), xs = [.str s, .str c] ∧ (s.size ≤ 4611686018427387904 ∧ c.size ≤ 1000000 ∧ asciiB c = true)
  post xs y := ∃ (s : ByteArray) (c : ByteArray), xs = [.str s, .str c] ∧ y = .str (trimF s c)
  cost _ := 0
  fresh := true
theorem trimSp_c  (xs : List AV) : (trimSp).cost xs = 0 := nr rfl
theorem trimSp_f  : (trimSp).fresh = true := nr rfl
theorem trimSp_q  (s : ByteArray) (c : ByteArray) : (trimSp).pre [.str s, .str c] = (s.size ≤ 4611686018427387904 ∧ c.size ≤ 1000000 ∧ asciiB c = true) := propext ⟨fun h => by
  have h' : ∃ (s' : ByteArray) (c' : ByteArray), ([.str s, .str c] : List AV) = [.str s', .str c'] ∧ (s'.size ≤ 4611686018427387904 ∧ c'.size ≤ 1000000 ∧ asciiB c' = true) := h
  obtain ⟨s', c', e, h⟩ := h'
  simp only [List.cons.injEq, AV.dv.injEq, AV.fv.injEq, DV.d.injEq, DV.ag.injEq, D.int.injEq, D.str.injEq, D.bool.injEq, D.sl.injEq, true_and, and_true, intsDi_inj, rowsT_inj, rowsKi_inj] at e
  obtain ⟨rfl, rfl⟩ := e
  exact h, fun h => ⟨s, c, rfl, h⟩⟩
theorem trimSp_p  (s : ByteArray) (c : ByteArray) : (trimSp).post [.str s, .str c] = fun y => y = .str (trimF s c) := funext fun y => propext ⟨fun h => by
  have h' : ∃ (s' : ByteArray) (c' : ByteArray), ([.str s, .str c] : List AV) = [.str s', .str c'] ∧ y = .str (trimF s' c') := h
  obtain ⟨s', c', e, h⟩ := h'
  simp only [List.cons.injEq, AV.dv.injEq, AV.fv.injEq, DV.d.injEq, DV.ag.injEq, D.int.injEq, D.str.injEq, D.bool.injEq, D.sl.injEq, true_and, and_true, intsDi_inj, rowsT_inj, rowsKi_inj] at e
  obtain ⟨rfl, rfl⟩ := e
  exact h, fun h => ⟨s, c, rfl, h⟩⟩
theorem trim_ctr {cx : Cx} (h : Seat cx) : Ctr cx 102 trimSp := by
  refine ctr_flat (by rw [h.hP]; exact ⟨_, Tryd.func102, by kernel_rfl, by kernel_rfl⟩) (fun _ => rfl) ?_
  rintro xs ⟨s, c, rfl, h1, h2, h3⟩
  refine ⟨_, _, _, rfl, ⟨s, c, rfl, rfl⟩, rfl, fun w hw => ?_⟩
  rw [h.hP]
  exact Tryd.strings_Trim_ascii s c w (by omega) (by omega) (ascii_of_all h3)
def onlyB (s c : ByteArray) : Bool := s.data.toList.all fun b => c.data.toList.contains b
theorem drop_nil_of {α : Type} {p : α → Bool} : ∀ {l : List α}, l.dropWhile p = [] ↔ l.all p = true
  | [] => by simp
  | x :: l => by
    cases h : p x with
    | true => rw [List.dropWhile_cons_of_pos h, List.all_cons, h, Bool.true_and]; exact drop_nil_of
    | false => rw [List.dropWhile_cons_of_neg (by simp [h]), List.all_cons, h]; simp
theorem drop_head {α : Type} {p : α → Bool} : ∀ {l : List α} {x : α} {r : List α}, l.dropWhile p = x :: r → p x = false
  | [], x, r, h => by simp at h
  | y :: l, x, r, h => by
    cases hy : p y with
    | true => rw [List.dropWhile_cons_of_pos hy] at h; exact drop_head h
    | false => rw [List.dropWhile_cons_of_neg (by simp [hy])] at h; cases h; exact hy
theorem trim_nil (s c : ByteArray) : ((trimF s c).size = 0) = (onlyB s c = true) := by
  apply propext
  unfold trimF onlyB Lib.trimS Lib.trimLeftS Lib.trimRightS
  show (List.toArray _).size = 0 ↔ _
  rw [List.size_toArray, List.length_eq_zero_iff, drop_nil_of, List.all_reverse]
  generalize hp : (fun b : UInt8 => c.data.toList.contains b) = p
  constructor
  · intro h
    have : s.data.toList.reverse.dropWhile p = [] := by
      cases e : s.data.toList.reverse.dropWhile p with
      | nil => rfl
      | cons x r =>
        have h1 := drop_head e
        rw [e] at h
        rw [List.all_cons, h1] at h
        cases h
    rw [drop_nil_of, List.all_reverse] at this
    exact this
  · intro h
    have : s.data.toList.reverse.dropWhile p = [] := by rw [drop_nil_of, List.all_reverse]; exact h
    rw [this]; rfl
def onlyS  : Spec where
  pre xs := ∃ (s : ByteArray) (c : ByteArray), xs = [.str s, .str c] ∧ (s.size ≤ 4611686018427387904 ∧ c.size ≤ 1000000 ∧ asciiB c = true)
  post xs y := ∃ (s : ByteArray) (c : ByteArray), xs = [.str s, .str c] ∧ y = .b (onlyB s c)
  cost _ := 0
  fresh := true
theorem onlyS_c  (xs : List AV) : (onlyS).cost xs = 0 := nr rfl
theorem onlyS_f  : (onlyS).fresh = true := nr rfl
theorem onlyS_q  (s : ByteArray) (c : ByteArray) : (onlyS).pre [.str s, .str c] = (s.size ≤ 4611686018427387904 ∧ c.size ≤ 1000000 ∧ asciiB c = true) := propext ⟨fun h => by
  have h' : ∃ (s' : ByteArray) (c' : ByteArray), ([.str s, .str c] : List AV) = [.str s', .str c'] ∧ (s'.size ≤ 4611686018427387904 ∧ c'.size ≤ 1000000 ∧ asciiB c' = true) := h
  obtain ⟨s', c', e, h⟩ := h'
  simp only [List.cons.injEq, AV.dv.injEq, AV.fv.injEq, DV.d.injEq, DV.ag.injEq, D.int.injEq, D.str.injEq, D.bool.injEq, D.sl.injEq, true_and, and_true, intsDi_inj, rowsT_inj, rowsKi_inj] at e
  obtain ⟨rfl, rfl⟩ := e
  exact h, fun h => ⟨s, c, rfl, h⟩⟩
theorem onlyS_p  (s : ByteArray) (c : ByteArray) : (onlyS).post [.str s, .str c] = fun y => y = .b (onlyB s c) := funext fun y => propext ⟨fun h => by
  have h' : ∃ (s' : ByteArray) (c' : ByteArray), ([.str s, .str c] : List AV) = [.str s', .str c'] ∧ y = .b (onlyB s' c') := h
  obtain ⟨s', c', e, h⟩ := h'
  simp only [List.cons.injEq, AV.dv.injEq, AV.fv.injEq, DV.d.injEq, DV.ag.injEq, D.int.injEq, D.str.injEq, D.bool.injEq, D.sl.injEq, true_and, and_true, intsDi_inj, rowsT_inj, rowsKi_inj] at e
  obtain ⟨rfl, rfl⟩ := e
  exact h, fun h => ⟨s, c, rfl, h⟩⟩
theorem only_ctr {cx : Cx} (h : Seat cx) : Ctr cx 101 onlyS := by
  refine ctr_of (fn := Tryd.f101) (l := [.tmp 4]) (envL [(102, trimSp)]) [0, 1, 4] [] [] (envL_cons (trim_ctr h) (env0 h.hP)) ?_ (by rw [h.hP]; exact Tryd.func101) rfl (by kernel_rfl) rfl ?_ ?_
  · rw [h.hP]; exact ⟨_, Tryd.func101, by kernel_rfl, by kernel_rfl⟩
  · rintro xs ⟨s, c, rfl, h1, h2, h3⟩; exact ⟨_, s, c, rfl, rfl⟩
  · rintro xs ⟨s, c, rfl, h1, h2, h3⟩
    refine ⟨by rw [Tryd.ntmps101]; simp, ?_⟩
    simp only [go_sem, h.hP, List.cons_append, List.nil_append, Meets_e, Below_e, Prod.exists, exists_eq, exists_eq_left, exists_eq_left', exists_eq_right, exists_eq_right', exists_and_left, exists_and_right, Ob.arr.injEq, AV.own.injEq, AV.fv.injEq, onlyS_q, onlyS_p, onlyS_c, onlyS_f, trimSp_q, trimSp_p, trimSp_c, trimSp_f, str_nil, trim_nil, Tryd.ntmps101, Nat.reduceEqDiff, reduceCtorEq, Nat.reduceMul, Nat.reduceAdd, Nat.reduceSub, Nat.reduceDiv, Nat.reduceMod, Nat.reduceLeDiff, Nat.reduceLT, Nat.reduceBNe, Nat.reduceBEq, reduceIte, Int.reduceLE, Int.reduceLT, Int.reduceToNat, Int.reduceNeg, Int.reduceAdd, Int.reduceSub, Int.reduceMul, Int.reduceEq]
    exact ⟨h1, h2, h3, by cases onlyB s c <;> rfl⟩
theorem u8_all {p : UInt8 → Bool} (h : ((List.range 256).all fun n => p (UInt8.ofNat n)) = true) (c : UInt8) : p c = true := by
  rw [List.all_eq_true] at h
  have := h c.toNat (List.mem_range.2 (UInt8.toNat_lt c))
  rwa [UInt8.ofNat_toNat] at this
theorem u8_same {p q : UInt8 → Bool} (h : ((List.range 256).all fun n => p (UInt8.ofNat n) == q (UInt8.ofNat n)) = true) (c : UInt8) : p c = q c := by
  have := u8_all (p := fun c => p c == q c) h c
  simpa using this
theorem bl_all (s : ByteArray) (p : Int → Bool) : (bl s).all p = s.data.toList.all fun c => p (c.toNat : Int) := by
  unfold bl
  rw [List.all_map]; rfl
theorem only_all {c : ByteArray} {p : Int → Bool} (h : ((List.range 256).all fun n => c.data.toList.contains (UInt8.ofNat n) == p (((UInt8.ofNat n).toNat : Nat) : Int)) = true) (s : ByteArray) : onlyB s c = (bl s).all p := by
  rw [bl_all]
  unfold onlyB
  rw [funext (u8_same (p := fun b => c.data.toList.contains b) (q := fun b => p (b.toNat : Int)) h)]
theorem Key_ctr {cx : Cx} (h : Seat cx) : Ctr cx 81 (strB keyB) := by
  refine ctr_of (fn := Tryd.f81) (l := [.tmp 2]) (envL [(80, inS), (101, onlyS)]) [0, 2] [] [] (envL_cons (in_ctr h) (envL_cons (only_ctr h) (env0 h.hP))) ?_ (by rw [h.hP]; exact Tryd.func81) rfl (by kernel_rfl) rfl ?_ ?_
  · rw [h.hP]; exact ⟨_, Tryd.func81, by kernel_rfl, by kernel_rfl⟩
  · rintro xs ⟨s, rfl, hs⟩; exact ⟨_, s, rfl, rfl⟩
  · rintro xs ⟨s, rfl, hs⟩
    refine ⟨by rw [Tryd.ntmps81]; simp, ?_⟩
    simp only [go_sem, h.hP, List.cons_append, List.nil_append, Meets_e, Below_e, Prod.exists, exists_eq, exists_eq_left, exists_eq_left', exists_eq_right, exists_eq_right', exists_and_left, exists_and_right, Ob.arr.injEq, AV.own.injEq, AV.fv.injEq, strB_q, strB_p, strB_c, strB_f, inS_q, inS_p, inS_c, inS_f, onlyS_q, onlyS_p, onlyS_c, onlyS_f, Tryd.ntmps81, Nat.reduceEqDiff, reduceCtorEq, Nat.reduceMul, Nat.reduceAdd, Nat.reduceSub, Nat.reduceDiv, Nat.reduceMod, Nat.reduceLeDiff, Nat.reduceLT, Nat.reduceBNe, Nat.reduceBEq, reduceIte, Int.reduceLE, Int.reduceLT, Int.reduceToNat, Int.reduceNeg, Int.reduceAdd, Int.reduceSub, Int.reduceMul, Int.reduceEq]
    have e1 := only_all (c := ⟨#[97, 98, 99, 100, 101, 102, 103, 104, 105, 106, 107, 108, 109, 110, 111, 112, 113, 114, 115, 116, 117, 118, 119, 120, 121, 122]⟩) (p := smallC) (by decide +kernel) (s.extract 0 1)
    have e2 := only_all (c := ⟨#[97, 98, 99, 100, 101, 102, 103, 104, 105, 106, 107, 108, 109, 110, 111, 112, 113, 114, 115, 116, 117, 118, 119, 120, 121, 122, 48, 49, 50, 51, 52, 53, 54, 55, 56, 57, 45, 95]⟩) (p := keyC) (by decide +kernel) s
    have hx : (s.extract 0 1).size ≤ s.size := by rw [ByteArray.size_extract]; omega
    have e3 : 1 ≤ s.size → (bl (s.extract 0 1)).all smallC = smallC (bt s 0) := fun h1 => by
      have : bl (s.extract 0 1) = [bt s 0] := by
        have h2 : s.data.toList ≠ [] := fun e => by rw [← bl_length] at h1; unfold bl at h1; rw [e] at h1; simp at h1
        cases hd : s.data.toList with
        | nil => exact absurd hd h2
        | cons x r =>
          unfold bl bt
          rw [ByteArray.data_extract, Array.toList_extract, hd]
          simp
      rw [this]; simp
    rw [e1, e2]
    unfold keyB
    refine ⟨fun c1 => ?_, fun c1 => by rw [c1]; rfl⟩
    have h1 : 1 ≤ s.size := by unfold inB at c1; rw [decide_eq_true_eq] at c1; omega
    rw [c1, e3 h1]
    refine ⟨by omega, by omega, by decide +kernel, fun c2 => ⟨hs, by decide +kernel, by rw [c2]; rfl⟩, fun c2 => by rw [c2]; rfl⟩
end Go.Avc

/- Loops that look for the first error, and what the generators' lists hold: plain law. No condition. -/
set_option linter.unusedVariables false
set_option linter.unusedSimpArgs false
namespace Go.Avc
open Go Go.Proofs

/-- The first of some errors. -/
def firstI (n : Nat) (f : Nat → Int) : Int := match (List.range n).find? (fun i => decide (f i ≠ 0)) with
  | some i => f i
  | none => 0
theorem firstI_no {n : Nat} {f : Nat → Int} {i : Int} (h : ∀ j : Nat, (j : Int) < i → f j = 0) (hi : n ≤ i) : firstI n f = 0 := by
  unfold firstI
  rw [List.find?_eq_none.2]
  intro x hx
  simp [h x (by have := List.mem_range.1 hx; omega)]
theorem firstI_at {n : Nat} {f : Nat → Int} {i : Int} (h0 : 0 ≤ i) (h1 : i < n) (h : ∀ j : Nat, (j : Int) < i → f j = 0) (hf : f i.toNat ≠ 0) : firstI n f = f i.toNat := by
  unfold firstI
  obtain ⟨k, rfl⟩ : ∃ k : Nat, i = k := ⟨i.toNat, by omega⟩
  rw [Int.toNat_natCast] at hf ⊢
  have : (List.range n).find? (fun i => decide (f i ≠ 0)) = some k := by
    rw [List.find?_range_eq_some]
    refine ⟨by simpa using hf, List.mem_range.2 (by omega), fun j hj => by simp [h j (by omega)]⟩
  rw [this]
/-- The rounds of a loop that looks for the first error. -/
def Rounds (n : Nat) (f : Nat → Int) (i : Int) : Prop := 0 ≤ i ∧ i ≤ n ∧ ∀ j : Nat, (j : Int) < i → f j = 0
theorem Rounds.start {n : Nat} {f : Nat → Int} : Rounds n f 0 := ⟨by decide, Int.natCast_nonneg _, fun j hj => by omega⟩
theorem Rounds.use {n : Nat} {f : Nat → Int} {i : Int} (h : Rounds n f i) (hn : n ≤ 4611686018427387904) :
    0 ≤ i ∧ (i < n → f i.toNat = 0 → Rounds n f (IntKind.i64.wrap (i + 1))) ∧ (i < n → ((n : Int) - IntKind.i64.wrap (i + 1)).toNat < ((n : Int) - i).toNat) ∧
    (∀ e, i < n → f i.toNat = e → e ≠ 0 → firstI n f = e) ∧ (¬ i < n → firstI n f = 0) := by
  obtain ⟨j1, j2, j3⟩ := h
  refine ⟨j1, fun c hf => ?_, fun c => by rw [i64w (by omega) (by omega)]; omega, fun e c hf he => by subst hf; exact firstI_at j1 c j3 he, fun c => firstI_no j3 (by omega)⟩
  rw [i64w (by omega) (by omega)]
  refine ⟨by omega, by omega, fun j hj => ?_⟩
  by_cases e : (j : Int) = i
  · rw [← e, Int.toNat_natCast] at hf; exact hf
  · exact j3 j (by omega)
theorem any_first {α : Type} (l : List α) (d : α) (q : α → Bool) {e : Int} (he : e ≠ 0) : firstI l.length (fun i => if q (l.getD i d) = true then e else 0) = if l.any q = true then e else 0 := by
  by_cases h : l.any q = true
  · rw [if_pos h]
    have hne : ∃ i, i < l.length ∧ q (l.getD i d) = true := by
      obtain ⟨x, hx, hq⟩ := List.any_eq_true.1 h
      obtain ⟨i, hi, rfl⟩ := List.mem_iff_getElem.1 hx
      exact ⟨i, hi, by rw [List.getD_eq_getElem?_getD, List.getElem?_eq_getElem hi]; exact hq⟩
    unfold firstI
    cases hf : (List.range l.length).find? (fun i => decide ((if q (l.getD i d) = true then e else 0) ≠ 0)) with
    | none =>
      obtain ⟨i, hi, hq⟩ := hne
      have := List.find?_eq_none.1 hf i (List.mem_range.2 hi)
      simp only [decide_eq_true_eq] at this
      rw [if_pos hq] at this
      exact absurd he this
    | some i =>
      have := List.find?_some hf
      simp only [decide_eq_true_eq] at this
      split at this
      · rename_i hq; simp only [hq, if_true]
      · exact absurd rfl this
  · rw [if_neg h]
    refine firstI_no (i := l.length) (fun j hj => ?_) (by omega)
    rw [if_neg]
    intro hq
    have hj' : j < l.length := by omega
    rw [List.getD_eq_getElem?_getD, List.getElem?_eq_getElem hj'] at hq
    exact h (List.any_eq_true.2 ⟨_, List.getElem_mem hj', hq⟩)
theorem inB_iff {n lo hi : Int} : inB n lo hi = true ↔ lo ≤ n ∧ n ≤ hi := by unfold inB; exact decide_eq_true_iff
theorem okL_get {α : Type} {p : α → Prop} {l : List α} {d : α} (h : okL p l) (hd : p d) (i : Nat) : p (l.getD i d) := by
  rw [List.getD_eq_getElem?_getD]
  cases e : l[i]? with
  | none => exact hd
  | some x => exact h.2 x (List.mem_of_getElem? e)
theorem ne_ft {b : Bool} (h : b = true) : ¬ b = false := fun e => by rw [h] at e; cases e
theorem ne_tf {b : Bool} (h : b = false) : ¬ b = true := fun e => by rw [h] at e; cases e
def orE (a b : Int) : Int := if a ≠ 0 then a else b
theorem orE_l {a b : Int} (h : a ≠ 0) : orE a b = a := if_pos h
theorem orE_r {a b : Int} (h : a = 0) : orE a b = b := if_neg (fun e => e h)
theorem isIn_le {x : Int} {l : List Int} (h : isIn x l) {b : Int} (hb : l.all (fun y => decide (-b ≤ y ∧ y ≤ b)) = true) : -b ≤ x ∧ x ≤ b := by
  have := List.all_eq_true.1 hb x h
  simpa using this
theorem isOf_ok {x : ByteArray} {l : List ByteArray} (h : isOf x l) (hb : l.all (fun y => decide (y.size ≤ 1000)) = true) : x.size ≤ 1000 := by
  have := List.all_eq_true.1 hb x h
  simpa using this
theorem okI_of {x : Int} {b : Int} (h : -b ≤ x ∧ x ≤ b) (hb : b ≤ 1125899906842624) : okI x := ⟨by omega, by omega⟩
theorem isIn_ok {x : Int} {l : List Int} (h : isIn x l) (hb : l.all (fun y => decide (-1125899906842624 ≤ y ∧ y ≤ 1125899906842624)) = true) : okI x := isIn_le h hb
theorem okL_app {α : Type} {p : α → Prop} {l : List α} {x : α} (h : ∀ y ∈ l, p y) (hx : p x) : ∀ y ∈ l ++ [x], p y := fun y hy => by
  rcases List.mem_append.1 hy with hy | hy
  · exact h y hy
  · rw [List.mem_singleton] at hy; rw [hy]; exact hx
theorem okL_mem {α : Type} {p : α → Prop} {l : List α} {x y : α} (hm : y ∈ l ++ [x]) (h : ∀ y ∈ l, p y) (hx : p x) : p y := okL_app h hx y hm
theorem okL_one {α : Type} {p : α → Prop} {x : α} (hx : p x) : okL p [x] := ⟨by simp, fun y hy => by rw [List.mem_singleton] at hy; rw [hy]; exact hx⟩
theorem okS_of {s : ByteArray} (h : s.size ≤ 1000) : okS s := by unfold okS; omega
theorem odd_ok {q : Int} (h1 : -1099511627776 ≤ q) (h2 : q ≤ 1099511627776) : okI q := ⟨by omega, by omega⟩
theorem all_get {α : Type} {p : α → Prop} {l : List α} {d : α} (h : ∀ x ∈ l, p x) (hd : p d) (i : Nat) : p (l.getD i d) := by
  rw [List.getD_eq_getElem?_getD]
  cases e : l[i]? with
  | none => exact hd
  | some x => exact h x (List.mem_of_getElem? e)
def okIB (l : List Int) : Bool := decide (l.length ≤ 1048576) && l.all fun y => decide (-1125899906842624 ≤ y ∧ y ≤ 1125899906842624)
theorem okLI_of {l : List Int} (h : okIB l = true) : okL okI l := by
  unfold okIB at h
  rw [Bool.and_eq_true, decide_eq_true_eq, List.all_eq_true] at h
  exact ⟨h.1, fun x hx => by have := h.2 x hx; unfold okI; simpa using this⟩
def okSB (l : List ByteArray) : Bool := decide (l.length ≤ 1048576) && l.all fun y => decide (y.size ≤ 1000)
theorem okLS_of {l : List ByteArray} (h : okSB l = true) : okL okS l := by
  unfold okSB at h
  rw [Bool.and_eq_true, decide_eq_true_eq, List.all_eq_true] at h
  exact ⟨h.1, fun x hx => okS_of (by simpa using h.2 x hx)⟩
theorem okLI_lit {ls : List (List Int)} (h : ls.all okIB = true) (i : Nat) : okL okI (ls.getD i []) := all_get (p := okL okI) (fun x hx => okLI_of (List.all_eq_true.1 h x hx)) (okL_z _) i
theorem okLS_lit {ls : List (List ByteArray)} (h : ls.all okSB = true) (i : Nat) : okL okS (ls.getD i []) := all_get (p := okL okS) (fun x hx => okLS_of (List.all_eq_true.1 h x hx)) (okL_z _) i
theorem okL_snoc {α : Type} {p : α → Prop} {l : List α} {x : α} (h : ∀ y ∈ l, p y) (hl : (l.length : Int) ≤ 1000) (hx : p x) : okL p (l ++ [x]) := ⟨by rw [List.length_append, List.length_singleton]; omega, okL_app h hx⟩
end Go.Avc

/- The program's distance of two lists: its contract. No condition. -/
set_option linter.unusedVariables false
set_option linter.unusedSimpArgs false
set_option maxRecDepth 100000
namespace Go.Avc
open Go Go.Proofs

def min3 (x y z : Int) : Int := if z < (if y < x then y else x) then z else (if y < x then y else x)
/-- A row of distances behind its first place. -/
def dStep (x : Int) : Int → Int → List Int → List Int → List Int
  | before, left, y :: b, o :: old => min3 (if x = y then before else before + 1) (left + 1) (o + 1) :: dStep x o (min3 (if x = y then before else before + 1) (left + 1) (o + 1)) b old
  | _, _, _, _ => []
def dRow (x : Int) (i : Nat) (b row : List Int) : List Int := ((i : Int) + 1) :: dStep x (row.getD 0 0) ((i : Int) + 1) b (row.drop 1)
def dRows (b : List Int) : List Int → Nat → List Int → List Int
  | [], _, row => row
  | x :: a, i, row => dRows b a (i + 1) (dRow x i b row)
def row0 (m : Nat) : List Int := (List.range (m + 1)).map fun (j : Nat) => (j : Int)
def distP (a b : List Int) : Int := (dRows b a 0 (row0 b.length)).getD b.length 0
def distS : Spec where
  pre xs := ∃ a b : List Int, xs = [.sl (rowsK .i32 a), .sl (rowsK .i32 b)] ∧ a.length ≤ 1073741824 ∧ b.length ≤ 1073741824
  post xs r := ∃ a b : List Int, xs = [.sl (rowsK .i32 a), .sl (rowsK .i32 b)] ∧ r = .i (distP a b)
  cost _ := 0
  fresh := true
theorem rowsK_inj {k : IntKind} {l m : List Int} : rowsK k l = rowsK k m ↔ l = m := by
  refine ⟨fun h => ?_, fun h => by rw [h]⟩
  have : numsOf (rowsK k l) = numsOf (rowsK k m) := by rw [h]
  have hn : ∀ l, numsOf (rowsK k l) = l := fun l => by
    unfold numsOf rowsK
    rw [List.map_map]
    induction l with
    | nil => rfl
    | cons x r ih => simp [ih]
  rwa [hn, hn] at this
def L0 (m j : Nat) : List Int := (List.range j).map (fun (t : Nat) => (t : Int)) ++ List.replicate (m + 1 - j) 0
theorem L0_len {m j : Nat} (h : j ≤ m + 1) : (L0 m j).length = m + 1 := by
  unfold L0; rw [List.length_append, List.length_map, List.length_range, List.length_replicate]; omega
theorem L0_get {m j t : Nat} : (L0 m j).getD t 0 = if t < j then (t : Int) else 0 := by
  unfold L0
  rw [List.getD_eq_getElem?_getD, List.getElem?_append]
  simp only [List.length_map, List.length_range]
  split
  · rename_i h
    simp [List.getElem?_map, List.getElem?_range h]
  · rw [List.getElem?_replicate]
    split <;> rfl
theorem getD_ext {l m : List Int} (hl : l.length = m.length) (h : ∀ t, l.getD t 0 = m.getD t 0) : l = m := by
  apply List.ext_getElem hl
  intro t h1 h2
  have := h t
  rwa [getD_lt h1, getD_lt h2] at this
theorem set_get {l : List Int} {i t : Nat} {c : Int} (hi : i < l.length) : (l.set i c).getD t 0 = if t = i then c else l.getD t 0 := by
  rw [List.getD_eq_getElem?_getD, List.getElem?_set, List.getD_eq_getElem?_getD]
  by_cases h : i = t
  · subst h; simp [hi]
  · rw [if_neg h, if_neg (fun e => h e.symm)]
theorem L0_set {m j : Nat} (h : j < m + 1) : (L0 m j).set j (j : Int) = L0 m (j + 1) := by
  apply getD_ext
  · rw [List.length_set, L0_len (by omega), L0_len (by omega)]
  · intro t
    rw [set_get (by rw [L0_len (by omega)]; exact h), L0_get, L0_get]
    by_cases e : t = j
    · subst e; rw [if_pos rfl, if_pos (by omega)]
    · rw [if_neg e]
      by_cases e2 : t < j
      · rw [if_pos e2, if_pos (by omega)]
      · rw [if_neg e2, if_neg (by omega)]
theorem L0_end (m : Nat) : L0 m (m + 1) = row0 m := by
  unfold L0 row0
  rw [Nat.sub_self]
  exact List.append_nil _
theorem repl_rows (n : Nat) : List.replicate n [D.int .i64 0] = rowsK .i64 (List.replicate n 0) := by
  unfold rowsK; rw [List.map_replicate]
def Sf0 (a b : List Int) (j : Nat) : Sh := ⟨[(0, .sl (rowsK .i32 a)), (1, .sl (rowsK .i32 b)), (5, .own 5), (18, .i ((b.length : Int) + 1)), (19, .i j)], [(5, .arr 3 1 (rowsK .i64 (L0 b.length j)))], 0⟩
def Sf1 (a b : List Int) (p : List Int × Nat) : Sh := ⟨[(0, .sl (rowsK .i32 a)), (1, .sl (rowsK .i32 b)), (5, .own 5), (27, .sl (rowsK .i32 a)), (28, .i a.length), (29, .i p.2)], [(5, .arr 3 1 (rowsK .i64 p.1))], 0⟩
def Sf2 (a b : List Int) (i : Nat) (x : Int) (p : List Int × Int × Nat) : Sh := ⟨[(0, .sl (rowsK .i32 a)), (1, .sl (rowsK .i32 b)), (5, .own 5), (8, .dv (.d (.int .i32 x))), (9, .i p.2.1), (27, .sl (rowsK .i32 a)), (28, .i a.length), (29, .i i), (41, .sl (rowsK .i32 b)), (42, .i b.length), (43, .i p.2.2)], [(5, .arr 3 1 (rowsK .i64 p.1))], 0⟩
def bnds (i : Nat) (r : List Int) : Prop := ∀ t, 0 ≤ r.getD t 0 ∧ r.getD t 0 ≤ (i : Int) + t
def J1 (a b : List Int) (p : List Int × Nat) : Prop := p.1.length = b.length + 1 ∧ p.2 ≤ a.length ∧ bnds p.2 p.1 ∧ (dRows b (a.drop p.2) p.2 p.1).getD b.length 0 = distP a b
def J2 (b : List Int) (i : Nat) (x : Int) (R : List Int) (p : List Int × Int × Nat) : Prop := p.1.length = b.length + 1 ∧ p.2.2 ≤ b.length ∧ bnds (i + 1) p.1 ∧ (0 ≤ p.2.1 ∧ p.2.1 ≤ (i : Int) + 1 + p.2.2) ∧ p.1.take (p.2.2 + 1) ++ dStep x p.2.1 (p.1.getD p.2.2 0) (b.drop p.2.2) (p.1.drop (p.2.2 + 1)) = R
theorem take_set {l : List Int} {j : Nat} {v : Int} (h : j + 1 < l.length) : (l.set (j + 1) v).take (j + 1 + 1) = l.take (j + 1) ++ [v] := by
  apply List.ext_getElem?
  intro t
  rw [List.getElem?_take, List.getElem?_set, List.getElem?_append, List.length_take, Nat.min_eq_left (by omega), List.getElem?_take]
  by_cases h1 : t < j + 1
  · rw [if_pos (by omega), if_neg (by omega), if_pos h1, if_pos h1]
  · rw [if_neg h1]
    by_cases h2 : t = j + 1
    · subst h2
      rw [if_pos (by omega), if_pos rfl, if_pos h, Nat.sub_self]
      rfl
    · rw [if_neg (by omega), List.getElem?_eq_none (by simp; omega)]
theorem drop_set' {l : List Int} {j : Nat} {v : Int} : (l.set (j + 1) v).drop (j + 1 + 1) = l.drop (j + 1 + 1) := by
  apply List.ext_getElem?
  intro t
  rw [List.getElem?_drop, List.getElem?_drop, List.getElem?_set, if_neg (by omega)]
theorem step2 {x bf : Int} {b r : List Int} {j : Nat} (hj : j < b.length) (hr : r.length = b.length + 1) {v : Int} (hv : v = min3 (if x = b.getD j 0 then bf else bf + 1) (r.getD j 0 + 1) (r.getD (j + 1) 0 + 1)) :
    (r.set (j + 1) v).take (j + 1 + 1) ++ dStep x (r.getD (j + 1) 0) ((r.set (j + 1) v).getD (j + 1) 0) (b.drop (j + 1)) ((r.set (j + 1) v).drop (j + 1 + 1)) = r.take (j + 1) ++ dStep x bf (r.getD j 0) (b.drop j) (r.drop (j + 1)) := by
  rw [take_set (by omega), drop_set', set_get (by omega), if_pos rfl, drop_getD hj, drop_getD (l := r) (i := j + 1) (by omega)]
  conv => rhs; unfold dStep
  rw [← hv, List.append_assoc]
  rfl
theorem min3_le {x y z : Int} (hx : 0 ≤ x) (hy : 0 ≤ y) (hz : 0 ≤ z) : 0 ≤ min3 x y z ∧ min3 x y z ≤ y := by
  unfold min3
  repeat' split
  all_goals omega
theorem dist_ctr {cx : Cx} (h : Seat cx) : Ctr cx 68 distS := by
  refine ctr_of (fn := Tryd.f68) (l := [.tmp 4]) (envL []) [0, 1, 4, 5, 6, 7, 8, 9, 10, 11, 12, 18, 19, 20, 27, 28, 29, 30, 41, 42, 43, 44, 51] [] [] (env0 h.hP) ?_ (by rw [h.hP]; exact Tryd.func68) rfl (by kernel_rfl) rfl ?_ ?_
  · rw [h.hP]; exact ⟨_, Tryd.func68, by kernel_rfl, by kernel_rfl⟩
  · rintro xs ⟨a, b, rfl, h1, h2⟩; exact ⟨_, a, b, rfl, rfl⟩
  · rintro xs ⟨a, b, rfl, h1, h2⟩
    refine ⟨by rw [Tryd.ntmps68]; simp, ?_⟩
    simp only [go_sem, h.hP, distS, rowsK_len, Tryd.ntmps68, Nat.reduceEqDiff, reduceCtorEq, Nat.reduceMul, Nat.reduceAdd, Nat.reduceSub, Nat.reduceDiv, Nat.reduceMod, Nat.reduceLeDiff, Nat.reduceLT, Nat.reduceBNe, Nat.reduceBEq, reduceIte, Int.reduceLE, Int.reduceLT, Int.reduceToNat, Int.reduceNeg, Int.reduceAdd, Int.reduceSub, Int.reduceMul, Int.reduceEq]
    have hw1 : IntKind.i64.wrap ((b.length : Int) + 1) = (b.length : Int) + 1 := i64w (by omega) (by omega)
    rw [hw1]
    refine ⟨by omega, by omega, by omega, ?_⟩
    refine vc_loop _ (Sf0 a b) (fun j => j ≤ b.length + 1) (fun j => b.length + 1 - j) [(5, 3, 1)] ?_ ?_
    · refine meets_mk _ 0 (Nat.zero_le _) ?_
      simp only [go_sem, h.hP, Sf0, Tryd.ntmps68, Nat.reduceEqDiff, reduceCtorEq, Nat.reduceMul, Nat.reduceAdd, Nat.reduceSub, Nat.reduceDiv, Nat.reduceMod, Nat.reduceLeDiff, Nat.reduceLT, Nat.reduceBNe, Nat.reduceBEq, reduceIte, Int.reduceLE, Int.reduceLT, Int.reduceToNat, Int.reduceNeg, Int.reduceAdd, Int.reduceSub, Int.reduceMul, Int.reduceEq]
      refine ⟨by rw [List.length_replicate]; omega, rfl, ?_⟩
      rw [repl_rows]
      unfold L0
      rw [show ((b.length : Int) + 1).toNat = b.length + 1 by omega]
      rfl
    · intro j hj
      have hl0 := L0_len hj
      simp only [go_sem, h.hP, Sf0, distS, rowsK_len, rowsK_get, rowsK_set, spl_one, hl0, Tryd.ntmps68, Nat.reduceEqDiff, reduceCtorEq, Nat.reduceMul, Nat.reduceAdd, Nat.reduceSub, Nat.reduceDiv, Nat.reduceMod, Nat.reduceLeDiff, Nat.reduceLT, Nat.reduceBNe, Nat.reduceBEq, reduceIte, Int.reduceLE, Int.reduceLT, Int.reduceToNat, Int.reduceNeg, Int.reduceAdd, Int.reduceSub, Int.reduceMul, Int.reduceEq]
      refine ⟨fun c1 => ⟨by omega, by omega, by omega, ?_⟩, fun c1 => ?_⟩
      · refine below_mk (J := fun j => j ≤ b.length + 1) (μ := fun j => b.length + 1 - j) _ (j + 1) (by show j + 1 ≤ _; omega) (by show _ - _ < _; omega) ?_
        simp only [go_sem, h.hP, Sf0, Tryd.ntmps68, Nat.reduceEqDiff, reduceCtorEq, Nat.reduceMul, Nat.reduceAdd, Nat.reduceSub, Nat.reduceDiv, Nat.reduceMod, Nat.reduceLeDiff, Nat.reduceLT, Nat.reduceBNe, Nat.reduceBEq, reduceIte, Int.reduceLE, Int.reduceLT, Int.reduceToNat, Int.reduceNeg, Int.reduceAdd, Int.reduceSub, Int.reduceMul, Int.reduceEq]
        exact ⟨i64s (by omega), by rw [L0_set (by omega)]⟩
      · have hj2 : j = b.length + 1 := by omega
        subst hj2
        rw [L0_end]
        refine vc_loop _ (Sf1 a b) (J1 a b) (fun p => a.length - p.2) [(5, 3, 1)] ?_ ?_
        · refine meets_mk _ (row0 b.length, 0) ⟨?_, Nat.zero_le _, ?_, rfl⟩ ?_
          · show (row0 b.length).length = b.length + 1
            rw [← L0_end, L0_len (Nat.le_refl _)]
          · intro t
            show 0 ≤ (row0 b.length).getD t 0 ∧ (row0 b.length).getD t 0 ≤ ((0 : Nat) : Int) + t
            rw [← L0_end, L0_get]
            split <;> omega
          · simp only [go_sem, h.hP, Sf1, Tryd.ntmps68, Nat.reduceEqDiff, reduceCtorEq, Nat.reduceMul, Nat.reduceAdd, Nat.reduceSub, Nat.reduceDiv, Nat.reduceMod, Nat.reduceLeDiff, Nat.reduceLT, Nat.reduceBNe, Nat.reduceBEq, reduceIte, Int.reduceLE, Int.reduceLT, Int.reduceToNat, Int.reduceNeg, Int.reduceAdd, Int.reduceSub, Int.reduceMul, Int.reduceEq]
            rfl
        · rintro ⟨r, i⟩ ⟨k1, k2, k3, k4⟩
          simp only at k1 k2 k3 k4
          simp only [go_sem, h.hP, Sf1, distS, rowsK_len, rowsK_get, rowsK_set, spl_one, k1, Tryd.ntmps68, Nat.reduceEqDiff, reduceCtorEq, Nat.reduceMul, Nat.reduceAdd, Nat.reduceSub, Nat.reduceDiv, Nat.reduceMod, Nat.reduceLeDiff, Nat.reduceLT, Nat.reduceBNe, Nat.reduceBEq, reduceIte, Int.reduceLE, Int.reduceLT, Int.reduceToNat, Int.reduceNeg, Int.reduceAdd, Int.reduceSub, Int.reduceMul, Int.reduceEq]
          have hwi : i < a.length → IntKind.i64.wrap ((i : Int) + 1) = ((i + 1 : Nat) : Int) := fun hi => i64s (by omega)
          refine ⟨fun c2 => ⟨by omega, by omega, by omega, by omega, by omega, by omega, ?_⟩, fun c2 => ?_⟩
          · have hi : i < a.length := by omega
            rw [hwi hi]
            refine vc_loop _ (Sf2 a b i (a.getD i 0)) (J2 b i (a.getD i 0) (dRow (a.getD i 0) i b r)) (fun p => b.length - p.2.2) [(5, 3, 1)] ?_ ?_
            · refine meets_mk _ (r.set 0 ((i : Int) + 1), r.getD 0 0, 0) ⟨?_, Nat.zero_le _, ?_, ?_, ?_⟩ ?_
              · show (r.set 0 _).length = _
                rw [List.length_set, k1]
              · intro t
                show 0 ≤ (r.set 0 _).getD t 0 ∧ (r.set 0 _).getD t 0 ≤ _
                have := k3 t
                rw [set_get (by omega)]
                split <;> omega
              · have := k3 0
                show 0 ≤ r.getD 0 0 ∧ r.getD 0 0 ≤ (i : Int) + 1 + ((0 : Nat) : Int)
                omega
              · show (r.set 0 _).take (0 + 1) ++ dStep _ (r.getD 0 0) ((r.set 0 _).getD 0 0) (b.drop 0) ((r.set 0 _).drop (0 + 1)) = _
                cases r with
                | nil => simp at k1
                | cons x0 r => rfl
              · simp only [go_sem, h.hP, Sf2, Tryd.ntmps68, Nat.reduceEqDiff, reduceCtorEq, Nat.reduceMul, Nat.reduceAdd, Nat.reduceSub, Nat.reduceDiv, Nat.reduceMod, Nat.reduceLeDiff, Nat.reduceLT, Nat.reduceBNe, Nat.reduceBEq, reduceIte, Int.reduceLE, Int.reduceLT, Int.reduceToNat, Int.reduceNeg, Int.reduceAdd, Int.reduceSub, Int.reduceMul, Int.reduceEq]
                exact ⟨rfl, rfl⟩
            · rintro ⟨r2, bf, j⟩ ⟨m1, m2, m3, m4, m5⟩
              simp only at m1 m2 m3 m4 m5
              simp only [go_sem, h.hP, Sf2, distS, rowsK_len, rowsK_get, rowsK_set, spl_one, m1, Tryd.ntmps68, Nat.reduceEqDiff, reduceCtorEq, Nat.reduceMul, Nat.reduceAdd, Nat.reduceSub, Nat.reduceDiv, Nat.reduceMod, Nat.reduceLeDiff, Nat.reduceLT, Nat.reduceBNe, Nat.reduceBEq, reduceIte, Int.reduceLE, Int.reduceLT, Int.reduceToNat, Int.reduceNeg, Int.reduceAdd, Int.reduceSub, Int.reduceMul, Int.reduceEq]
              have hwj : j < b.length → IntKind.i64.wrap ((j : Int) + 1) = ((j + 1 : Nat) : Int) := fun hj => i64s (by omega)
              refine ⟨fun c3 => ?_, fun c3 => ?_⟩
              · have hj' : j < b.length := by omega
                have b1 := m3 j
                have b2 := m3 (j + 1)
                rw [hwj hj', Int.toNat_natCast, i64w (n := bf + 1) (by omega) (by omega), i64w (n := r2.getD j 0 + 1) (by omega) (by omega), i64w (n := r2.getD (j + 1) 0 + 1) (by omega) (by omega)]
                have leaf : ∀ v : Int, v = min3 (if a.getD i 0 = b.getD j 0 then bf else bf + 1) (r2.getD j 0 + 1) (r2.getD (j + 1) 0 + 1) → ∀ σ, At 79 [(5, 3, 1)] (Sf2 a b i (a.getD i 0) (r2.set (j + 1) v, r2.getD (j + 1) 0, j + 1)) σ →
                    Below 79 [(5, 3, 1)] (Sf2 a b i (a.getD i 0)) (J2 b i (a.getD i 0) (dRow (a.getD i 0) i b r)) (fun p => b.length - p.2.2) (b.length - j) σ := fun v hv σ hσ => by
                  refine below_mk _ _ ⟨?_, ?_, ?_, ?_, ?_⟩ (by show b.length - (j + 1) < b.length - j; omega) hσ
                  · show (r2.set _ _).length = _; rw [List.length_set, m1]
                  · show j + 1 ≤ _; omega
                  · intro t
                    show 0 ≤ (r2.set (j + 1) v).getD t 0 ∧ (r2.set (j + 1) v).getD t 0 ≤ _
                    rw [set_get (by omega)]
                    have hm := min3_le (x := if a.getD i 0 = b.getD j 0 then bf else bf + 1) (y := r2.getD j 0 + 1) (z := r2.getD (j + 1) 0 + 1) (by split <;> omega) (by omega) (by omega)
                    split
                    · rename_i e; subst e; rw [hv]; omega
                    · exact m3 t
                  · show 0 ≤ r2.getD (j + 1) 0 ∧ r2.getD (j + 1) 0 ≤ (i : Int) + 1 + ((j + 1 : Nat) : Int); omega
                  · show (r2.set (j + 1) v).take (j + 1 + 1) ++ dStep _ (r2.getD (j + 1) 0) ((r2.set (j + 1) v).getD (j + 1) 0) (b.drop (j + 1)) ((r2.set (j + 1) v).drop (j + 1 + 1)) = _
                    rw [step2 hj' m1 hv]; exact m5
                refine ⟨by omega, by omega, fun c4 => ⟨by omega, by omega, by omega, by omega, by omega, by omega, by omega, by omega, by omega, leaf (min3 (bf + 1) (r2.getD j 0 + 1) (r2.getD (j + 1) 0 + 1)) ?_ _ ?_⟩, fun c4 => ⟨by omega, by omega, by omega, by omega, by omega, by omega, by omega, by omega, by omega, leaf (min3 bf (r2.getD j 0 + 1) (r2.getD (j + 1) 0 + 1)) ?_ _ ?_⟩⟩
                · rw [if_neg c4]
                · simp only [go_sem, h.hP, Sf2, Tryd.ntmps68, Nat.reduceEqDiff, reduceCtorEq, Nat.reduceMul, Nat.reduceAdd, Nat.reduceSub, Nat.reduceDiv, Nat.reduceMod, Nat.reduceLeDiff, Nat.reduceLT, Nat.reduceBNe, Nat.reduceBEq, reduceIte, Int.reduceLE, Int.reduceLT, Int.reduceToNat, Int.reduceNeg, Int.reduceAdd, Int.reduceSub, Int.reduceMul, Int.reduceEq]
                  rfl
                · rw [if_pos c4]
                · simp only [go_sem, h.hP, Sf2, Tryd.ntmps68, Nat.reduceEqDiff, reduceCtorEq, Nat.reduceMul, Nat.reduceAdd, Nat.reduceSub, Nat.reduceDiv, Nat.reduceMod, Nat.reduceLeDiff, Nat.reduceLT, Nat.reduceBNe, Nat.reduceBEq, reduceIte, Int.reduceLE, Int.reduceLT, Int.reduceToNat, Int.reduceNeg, Int.reduceAdd, Int.reduceSub, Int.reduceMul, Int.reduceEq]
                  rfl
              · have hj' : j = b.length := by omega
                subst hj'
                rw [List.drop_eq_nil_of_le (Nat.le_refl _), show b.length + 1 = r2.length from m1.symm, List.take_length, List.drop_length] at m5
                have hR : r2 = dRow (a.getD i 0) i b r := by rw [← m5]; exact (List.append_nil _).symm
                refine below_mk _ (r2, i + 1) ⟨m1, by show i + 1 ≤ _; omega, m3, ?_⟩ (by show a.length - (i + 1) < a.length - i; omega) ?_
                · show (dRows b (a.drop (i + 1)) (i + 1) r2).getD b.length 0 = _
                  rw [← k4, drop_getD (l := a) (i := i) hi, hR]
                  rfl
                · simp only [go_sem, h.hP, Sf1, Tryd.ntmps68, Nat.reduceEqDiff, reduceCtorEq, Nat.reduceMul, Nat.reduceAdd, Nat.reduceSub, Nat.reduceDiv, Nat.reduceMod, Nat.reduceLeDiff, Nat.reduceLT, Nat.reduceBNe, Nat.reduceBEq, reduceIte, Int.reduceLE, Int.reduceLT, Int.reduceToNat, Int.reduceNeg, Int.reduceAdd, Int.reduceSub, Int.reduceMul, Int.reduceEq]
                  exact hwi hi
          · have hi : i = a.length := by omega
            subst hi
            rw [List.drop_length] at k4
            exact ⟨by omega, by omega, by omega, a, rfl, b, rfl, k4⟩
end Go.Avc

/- Unquote and the reference's Unquoted: their contracts. No condition. -/
set_option linter.unusedVariables false
set_option linter.unusedSimpArgs false
set_option maxRecDepth 100000
namespace Go.Avc
open Go Go.Proofs

/-- Reading a quoted string. -/
def unqS (s : ByteArray) : Option (List Int × Nat) := if (bl s).head? = some 34 then unqL s.size ((bl s).drop 1) [] else none
def unqOut (s : ByteArray) : AV := match unqS s with
  | some (l, k) => .tcons (.str (strOfNums l)) (.tcons (.i ((s.size : Int) - k + 1)) (.tcons (.i 0) .tnil))
  | none => .tcons (.str ⟨#[]⟩) (.tcons (.i 0) (.tcons (.i 9) .tnil))
theorem escL_le (l : List Int) : 0 ≤ (escL l).2 ∧ (escL l).2 ≤ 3 ∧ (escL l).2.toNat ≤ l.length := by
  unfold escL
  match l with
  | [] => simp
  | [c] => simp only; repeat' split
           all_goals simp
  | [c, a] => simp only; repeat' split
              all_goals simp
  | c :: a :: b :: t =>
    simp only
    repeat' split
    all_goals simp
theorem head_bl {s : ByteArray} (h : 0 < s.size) : (bl s).head? = some (bt s 0) := by
  rw [bt_bl]
  cases hb : bl s with
  | nil => have := bl_length s; rw [hb] at this; simp at this; omega
  | cons c r => rfl
theorem unqS_no {s : ByteArray} (h : ¬ bt s 0 = 34) : unqS s = none := by
  unfold unqS
  rw [if_neg]
  intro e
  by_cases h0 : 0 < s.size
  · rw [head_bl h0] at e; exact h (by simpa using e)
  · have : bl s = [] := List.eq_nil_of_length_eq_zero (by rw [bl_length]; omega)
    rw [this] at e; cases e
theorem unqS_empty {s : ByteArray} (h : s.size = 0) : unqS s = none := by
  unfold unqS
  rw [show bl s = [] from List.eq_nil_of_length_eq_zero (by rw [bl_length]; exact h)]; rfl
theorem out_none {s : ByteArray} (h : unqS s = none) : unqOut s = .tcons (.str ⟨#[]⟩) (.tcons (.i 0) (.tcons (.i 9) .tnil)) := by unfold unqOut; rw [h]
theorem out_some {s : ByteArray} {l : List Int} {k : Nat} (h : unqS s = some (l, k)) : unqOut s = .tcons (.str (strOfNums l)) (.tcons (.i ((s.size : Int) - k + 1)) (.tcons (.i 0) .tnil)) := by unfold unqOut; rw [h]
theorem unqS_yes {s : ByteArray} (h0 : 0 < s.size) (h : bt s 0 = 34) : unqS s = unqL s.size ((bl s).drop 1) [] := by
  unfold unqS
  rw [if_pos (by rw [head_bl h0, h])]
theorem unq_step {s : ByteArray} {i k : Nat} (h : i < s.size) (hk : s.size - i ≤ k) (acc : List Int) : ∃ k', k = k' + 1 ∧ unqL k ((bl s).drop i) acc = if bt s (i : Int) = 34 then some (acc, s.size - i) else
    if bt s (i : Int) = 92 then (if (escL ((bl s).drop (i + 1))).2 = 0 then none else unqL k' ((bl s).drop (i + 1 + (escL ((bl s).drop (i + 1))).2.toNat)) (acc ++ [(escL ((bl s).drop (i + 1))).1]))
    else if hid (bt s (i : Int)) = true ∨ bt s (i : Int) = 10 then none else unqL k' ((bl s).drop (i + 1)) (acc ++ [bt s (i : Int)]) := by
  obtain ⟨k', rfl⟩ : ∃ k', k = k' + 1 := ⟨k - 1, by omega⟩
  refine ⟨k', rfl, ?_⟩
  have hl : i < (bl s).length := by rw [bl_length]; exact h
  rw [drop_getD hl, bt_bl, Int.toNat_natCast]
  conv => lhs; unfold unqL
  rw [List.length_drop, bl_length, show s.size - (i + 1) + 1 = s.size - i by omega, List.drop_drop]
theorem bl_tail (s : ByteArray) (i : Nat) : bl (s.extract i s.size) = (bl s).drop i := by
  rw [bl_extract, ← bl_length, List.take_length]
theorem unq_end {s : ByteArray} {k i : Nat} (h : ¬ i < s.size) (acc : List Int) : unqL k ((bl s).drop i) acc = none := by
  rw [List.drop_eq_nil_of_le (by rw [bl_length]; omega)]
  cases k <;> rfl
def unqSp : Spec where
  pre xs := ∃ s : ByteArray, xs = [.str s] ∧ s.size ≤ 16777216
  post xs r := ∃ s : ByteArray, xs = [.str s] ∧ r = unqOut s
  cost _ := 0
  fresh := true
def unqSf (s : ByteArray) (p : Nat × List Int × Nat) : Sh := ⟨[(0, .str s), (5, .own 5), (6, .i p.1)], [(5, .arr 5 1 (rowsB p.2.1))], 0⟩
def unqJ (s : ByteArray) (p : Nat × List Int × Nat) : Prop := 1 ≤ p.1 ∧ p.1 ≤ s.size ∧ p.2.1.length ≤ p.1 ∧ s.size - p.1 ≤ p.2.2 ∧ unqL p.2.2 ((bl s).drop p.1) p.2.1 = unqS s
theorem unq_ctr {cx : Cx} (h : Seat cx) : Ctr cx 16 unqSp := by
  refine ctr_of (fn := Tryd.f16) (l := [.tmp 2, .tmp 3, .tmp 4]) (envL [(61, hiddenS), (63, escS)]) [0, 2, 3, 4, 5, 6, 7, 8, 9, 16, 20, 30, 37, 49, 58] [] [] (envL_cons (hidden_ctr h) (envL_cons (esc_ctr h) (env0 h.hP))) ?_ (by rw [h.hP]; exact Tryd.func16) rfl (by kernel_rfl) rfl ?_ ?_
  · rw [h.hP]; exact ⟨_, Tryd.func16, by kernel_rfl, by kernel_rfl⟩
  · rintro xs ⟨s, rfl, hs⟩; exact ⟨_, s, rfl, rfl⟩
  · rintro xs ⟨s, rfl, hs⟩
    refine ⟨by rw [Tryd.ntmps16]; simp, ?_⟩
    simp only [go_sem, h.hP, unqSp, hiddenS, escS, str_nil, Tryd.ntmps16, Nat.reduceEqDiff, reduceCtorEq, Nat.reduceMul, Nat.reduceAdd, Nat.reduceSub, Nat.reduceDiv, Nat.reduceMod, Nat.reduceLeDiff, Nat.reduceLT, Nat.reduceBNe, Nat.reduceBEq, reduceIte, Int.reduceLE, Int.reduceLT, Int.reduceToNat, Int.reduceNeg, Int.reduceAdd, Int.reduceSub, Int.reduceMul, Int.reduceEq]
    (repeat' (first | with_reducible apply And.intro | with_reducible intro))
    all_goals try omega
    all_goals first
      | exact (out_none (unqS_empty (by assumption))).symm
      | exact (out_none (unqS_no (by assumption))).symm
      | skip
    · have h34 : bt s 0 = 34 := by assumption
      have h0 : 0 < s.size := by omega
      refine vc_loop _ (unqSf s) (unqJ s) (fun p => s.size - p.1) [(5, 5, 1)] ?_ ?_
      · refine meets_mk _ (1, [], s.size) ⟨Nat.le_refl _, h0, Nat.zero_le _, Nat.sub_le _ _, (unqS_yes h0 h34).symm⟩ ?_
        simp only [go_sem, h.hP, unqSf, Tryd.ntmps16, Nat.reduceEqDiff, reduceCtorEq, Nat.reduceMul, Nat.reduceAdd, Nat.reduceSub, Nat.reduceDiv, Nat.reduceMod, Nat.reduceLeDiff, Nat.reduceLT, Nat.reduceBNe, Nat.reduceBEq, reduceIte, Int.reduceLE, Int.reduceLT, Int.reduceToNat, Int.reduceNeg, Int.reduceAdd, Int.reduceSub, Int.reduceMul, Int.reduceEq]
        exact ⟨rfl, rfl⟩
      · rintro ⟨i, acc, k⟩ ⟨j1, j2, j3, j4, j5⟩
        simp only at j1 j2 j3 j4 j5
        simp only [go_sem, h.hP, unqSf, unqSp, hiddenS, escS, Tryd.ntmps16, Nat.reduceEqDiff, reduceCtorEq, Nat.reduceMul, Nat.reduceAdd, Nat.reduceSub, Nat.reduceDiv, Nat.reduceMod, Nat.reduceLeDiff, Nat.reduceLT, Nat.reduceBNe, Nat.reduceBEq, reduceIte, Int.reduceLE, Int.reduceLT, Int.reduceToNat, Int.reduceNeg, Int.reduceAdd, Int.reduceSub, Int.reduceMul, Int.reduceEq]
        have hw : IntKind.i64.wrap ((i : Int) + 1) = ((i + 1 : Nat) : Int) := i64s (by omega)
        simp only [hw, Int.toNat_natCast, bl_tail, rowsB_len, rows1]
        have hstep : i < s.size → _ := fun hi => unq_step hi j4 acc
        have he := escL_le ((bl s).drop (i + 1))
        rw [List.length_drop, bl_length] at he
        have hnone : unqS s = none → AV.tcons (.str ⟨#[]⟩) (.tcons (.i 0) (.tcons (.i 9) .tnil)) = unqOut s := fun e => (out_none e).symm
        (repeat' (first | with_reducible apply And.intro | with_reducible intro))
        all_goals try omega
        all_goals first
          | exact rowsB_u8 _ _ (by assumption)
          | (rw [ByteArray.size_extract]; omega)
          | (have hi : ¬ i < s.size := by omega
             exact hnone (by rw [← j5, unq_end hi]))
          | (have hi : i < s.size := by omega
             obtain ⟨k', rfl, hst⟩ := hstep hi
             clear hstep
             rw [j5] at hst
             first
               | (rw [if_pos (by omega)] at hst
                  rw [out_some hst, numsOf_rowsB, show ((i + 1 : Nat) : Int) = (s.size : Int) - ((s.size - i : Nat) : Int) + 1 by omega])
               | (refine hnone ?_
                  rw [hst, if_neg (by omega)]
                  first
                    | rw [if_pos (by omega), if_pos (by omega)]
                    | (rw [if_neg (by omega), if_pos]
                       first
                         | exact .inl (by assumption)
                         | exact .inr (by omega)))
               | (rw [if_neg (by omega), if_pos (by omega), if_neg (by omega)] at hst
                  refine below_mk _ (i + 1 + (escL ((bl s).drop (i + 1))).2.toNat, acc ++ [(escL ((bl s).drop (i + 1))).1], k') ⟨by show 1 ≤ _; omega, by show _ ≤ s.size; omega, by show (acc ++ [_]).length ≤ _; simp; omega, by show s.size - _ ≤ k'; omega, hst.symm⟩ (by show s.size - _ < _; omega) ?_
                  simp only [go_sem, h.hP, unqSf, Tryd.ntmps16, Nat.reduceEqDiff, reduceCtorEq, Nat.reduceMul, Nat.reduceAdd, Nat.reduceSub, Nat.reduceDiv, Nat.reduceMod, Nat.reduceLeDiff, Nat.reduceLT, Nat.reduceBNe, Nat.reduceBEq, reduceIte, Int.reduceLE, Int.reduceLT, Int.reduceToNat, Int.reduceNeg, Int.reduceAdd, Int.reduceSub, Int.reduceMul, Int.reduceEq]
                  refine ⟨?_, by rw [rowsB_app]⟩
                  rw [i64w (n := 1 + _) (by omega) (by omega), i64w (by omega) (by omega)]
                  omega)
               | (rw [if_neg (by omega), if_neg (by omega), if_neg (by rintro (e | e) <;> simp_all)] at hst
                  refine below_mk _ (i + 1, acc ++ [bt s (i : Int)], k') ⟨by show 1 ≤ _; omega, by show _ ≤ s.size; omega, by show (acc ++ [_]).length ≤ _; simp; omega, by show s.size - _ ≤ k'; omega, hst.symm⟩ (by show s.size - _ < _; omega) ?_
                  simp only [go_sem, h.hP, unqSf, Tryd.ntmps16, Nat.reduceEqDiff, reduceCtorEq, Nat.reduceMul, Nat.reduceAdd, Nat.reduceSub, Nat.reduceDiv, Nat.reduceMod, Nat.reduceLeDiff, Nat.reduceLT, Nat.reduceBNe, Nat.reduceBEq, reduceIte, Int.reduceLE, Int.reduceLT, Int.reduceToNat, Int.reduceNeg, Int.reduceAdd, Int.reduceSub, Int.reduceMul, Int.reduceEq]
                  first | exact ⟨rfl, by rw [rowsB_app]⟩ | rw [rowsB_app]))
end Go.Avc

/- The distance reckoned from the front (with all three ways at each place) is the distance reckoned from the end (with the short way where the signs are alike). No condition. -/
set_option linter.unusedVariables false
namespace Go.Avc

def ne1 (x y : Int) : Int := if x = y then 0 else 1
/-- all three ways -/
def lv : List Int → List Int → Int
  | [], b => b.length
  | x :: a, [] => a.length + 1
  | x :: a, y :: b => min3 (lv a b + ne1 x y) (lv (x :: a) b + 1) (lv a (y :: b) + 1)
termination_by a b => a.length + b.length
/-- the short way -/
def ed : List Int → List Int → Int
  | [], b => b.length
  | x :: a, [] => a.length + 1
  | x :: a, y :: b => if x = y then ed a b else 1 + min3 (ed a b) (ed a (y :: b)) (ed (x :: a) b)
termination_by a b => a.length + b.length
theorem lv_nil (b : List Int) : lv [] b = b.length := by unfold lv; rfl
theorem lv_nil' (a : List Int) : lv a [] = a.length := by
  cases a with
  | nil => unfold lv; rfl
  | cons x a => unfold lv; rfl
theorem lv_cons (x y : Int) (a b : List Int) : lv (x :: a) (y :: b) = min3 (lv a b + ne1 x y) (lv (x :: a) b + 1) (lv a (y :: b) + 1) := by conv => lhs; unfold lv
theorem min3_spec (x y z : Int) : min3 x y z ≤ x ∧ min3 x y z ≤ y ∧ min3 x y z ≤ z ∧ (min3 x y z = x ∨ min3 x y z = y ∨ min3 x y z = z) := by
  unfold min3
  repeat' split
  all_goals omega
theorem ne1_le (x y : Int) : 0 ≤ ne1 x y ∧ ne1 x y ≤ 1 := by
  unfold ne1
  split <;> omega

/-- a way from the one to the other, and its cost -/
inductive Way : List Int → List Int → Int → Prop
  | nil : Way [] [] 0
  | both (x y : Int) {a b : List Int} {n : Int} : Way a b n → Way (x :: a) (y :: b) (n + ne1 x y)
  | ins (y : Int) {a b : List Int} {n : Int} : Way a b n → Way a (y :: b) (n + 1)
  | del (x : Int) {a b : List Int} {n : Int} : Way a b n → Way (x :: a) b (n + 1)
theorem Way.ins' : ∀ b : List Int, Way [] b b.length
  | [] => .nil
  | y :: b => (Way.ins' b).ins y
theorem Way.del' : ∀ a : List Int, Way a [] a.length
  | [] => .nil
  | x :: a => (Way.del' a).del x
theorem way_lv : ∀ a b : List Int, Way a b (lv a b)
  | [], b => by rw [lv_nil]; exact .ins' b
  | x :: a, [] => by rw [lv_nil']; exact .del' _
  | x :: a, y :: b => by
    rw [lv_cons]
    have h1 := way_lv a b
    have h2 := way_lv (x :: a) b
    have h3 := way_lv a (y :: b)
    rcases (min3_spec (lv a b + ne1 x y) (lv (x :: a) b + 1) (lv a (y :: b) + 1)).2.2.2 with e | e | e
    · rw [e]; exact h1.both x y
    · rw [e]; exact h2.ins y
    · rw [e]; exact h3.del x
termination_by a b => a.length + b.length
theorem lv_ins (y : Int) (a b : List Int) : lv a (y :: b) ≤ lv a b + 1 := by
  cases a with
  | nil => rw [lv_nil, lv_nil, List.length_cons]; omega
  | cons x a => rw [lv_cons]; exact (min3_spec _ _ _).2.1
theorem lv_del (x : Int) (a b : List Int) : lv (x :: a) b ≤ lv a b + 1 := by
  cases b with
  | nil => rw [lv_nil', lv_nil', List.length_cons]; omega
  | cons y b => rw [lv_cons]; exact (min3_spec _ _ _).2.2.1
theorem lv_both (x y : Int) (a b : List Int) : lv (x :: a) (y :: b) ≤ lv a b + ne1 x y := by rw [lv_cons]; exact (min3_spec _ _ _).1
theorem lv_le {a b : List Int} {n : Int} (h : Way a b n) : lv a b ≤ n := by
  induction h with
  | nil => rw [lv_nil]; exact Int.le_refl 0
  | both x y h ih => exact Int.le_trans (lv_both x y _ _) (Int.add_le_add_right ih _)
  | ins y h ih => exact Int.le_trans (lv_ins y _ _) (Int.add_le_add_right ih 1)
  | del x h ih => exact Int.le_trans (lv_del x _ _) (Int.add_le_add_right ih 1)

/-! ### from the end -/
theorem Way.cost {a b : List Int} {n m : Int} (h : Way a b n) (e : n = m) : Way a b m := e ▸ h
theorem Way.bothE (x y : Int) {a b : List Int} {n : Int} (h : Way a b n) : Way (a ++ [x]) (b ++ [y]) (n + ne1 x y) := by
  induction h with
  | nil => exact Way.nil.both x y
  | both x' y' h ih => exact (ih.both x' y').cost (by omega)
  | ins y' h ih => exact (ih.ins y').cost (by omega)
  | del x' h ih => exact (ih.del x').cost (by omega)
theorem Way.insE (y : Int) {a b : List Int} {n : Int} (h : Way a b n) : Way a (b ++ [y]) (n + 1) := by
  induction h with
  | nil => exact Way.nil.ins y
  | both x' y' h ih => exact (ih.both x' y').cost (by omega)
  | ins y' h ih => exact (ih.ins y').cost (by omega)
  | del x' h ih => exact (ih.del x').cost (by omega)
theorem Way.delE (x : Int) {a b : List Int} {n : Int} (h : Way a b n) : Way (a ++ [x]) b (n + 1) := by
  induction h with
  | nil => exact Way.nil.del x
  | both x' y' h ih => exact (ih.both x' y').cost (by omega)
  | ins y' h ih => exact (ih.ins y').cost (by omega)
  | del x' h ih => exact (ih.del x').cost (by omega)
theorem Way.rev {a b : List Int} {n : Int} (h : Way a b n) : Way a.reverse b.reverse n := by
  induction h with
  | nil => exact .nil
  | both x y h ih => rw [List.reverse_cons, List.reverse_cons]; exact ih.bothE x y
  | ins y h ih => rw [List.reverse_cons]; exact ih.insE y
  | del x h ih => rw [List.reverse_cons]; exact ih.delE x
theorem lv_rev (a b : List Int) : lv a.reverse b.reverse = lv a b := by
  apply Int.le_antisymm
  · exact lv_le (way_lv a b).rev
  · have := lv_le (way_lv a.reverse b.reverse).rev
    rwa [List.reverse_reverse, List.reverse_reverse] at this

/-! ### the short way -/
theorem lv_ins_ge (y : Int) : ∀ a b : List Int, lv a b ≤ lv a (y :: b) + 1
  | [], b => by rw [lv_nil, lv_nil, List.length_cons]; omega
  | x :: a, b => by
    rw [lv_cons]
    have h1 := lv_del x a b
    have h2 := ne1_le x y
    have h3 := lv_ins_ge y a b
    have h4 := min3_spec (lv a b + ne1 x y) (lv (x :: a) b + 1) (lv a (y :: b) + 1)
    rcases h4.2.2.2 with e | e | e <;> rw [e] <;> omega
termination_by a b => a.length
theorem lv_del_ge (x : Int) : ∀ b a : List Int, lv a b ≤ lv (x :: a) b + 1
  | [], a => by rw [lv_nil', lv_nil', List.length_cons]; omega
  | y :: b, a => by
    rw [lv_cons]
    have h1 := lv_ins y a b
    have h2 := ne1_le x y
    have h3 := lv_del_ge x b a
    have h4 := min3_spec (lv a b + ne1 x y) (lv (x :: a) b + 1) (lv a (y :: b) + 1)
    rcases h4.2.2.2 with e | e | e <;> rw [e] <;> omega
termination_by b a => b.length
theorem ed_eq : ∀ a b : List Int, ed a b = lv a b
  | [], b => by unfold ed lv; rfl
  | x :: a, [] => by unfold ed lv; rfl
  | x :: a, y :: b => by
    unfold ed
    rw [lv_cons, ed_eq a b, ed_eq a (y :: b), ed_eq (x :: a) b]
    have h1 := lv_ins_ge y a b
    have h2 := lv_del_ge x b a
    unfold ne1 min3
    repeat' split
    all_goals omega
termination_by a b => a.length + b.length

/-! ### the program's rows -/
def tl (pa : List Int) : List Int → List Int → List Int
  | _, [] => []
  | pb, y :: b => lv pa (y :: pb) :: tl pa (y :: pb) b
theorem dStep_tl (x : Int) (pa : List Int) : ∀ (b pb : List Int), dStep x (lv pa pb) (lv (x :: pa) pb) b (tl pa pb b) = tl (x :: pa) pb b
  | [], pb => by unfold dStep tl; rfl
  | y :: b, pb => by
    have e : min3 (if x = y then lv pa pb else lv pa pb + 1) (lv (x :: pa) pb + 1) (lv pa (y :: pb) + 1) = lv (x :: pa) (y :: pb) := by
      rw [lv_cons]
      unfold ne1
      split
      · rw [Int.add_zero]
      · rfl
    unfold tl dStep
    rw [e, dStep_tl x pa b (y :: pb)]
theorem dRow_tl (x : Int) (pa b : List Int) : dRow x pa.length b (lv pa [] :: tl pa [] b) = lv (x :: pa) [] :: tl (x :: pa) [] b := by
  have e : ((pa.length : Nat) : Int) + 1 = lv (x :: pa) [] := by rw [lv_nil', List.length_cons]; omega
  unfold dRow
  rw [e, ← dStep_tl x pa b []]
  rfl
theorem dRows_tl (b : List Int) : ∀ (a pa : List Int), dRows b a pa.length (lv pa [] :: tl pa [] b) = lv (a.reverse ++ pa) [] :: tl (a.reverse ++ pa) [] b
  | [], pa => rfl
  | x :: a, pa => by
    unfold dRows
    rw [dRow_tl]
    have := dRows_tl b a (x :: pa)
    rw [List.length_cons] at this
    rw [this, List.reverse_cons, List.append_assoc]
    rfl
theorem tl_nil : ∀ (b pb : List Int), tl [] pb b = (List.range' (pb.length + 1) b.length).map fun (j : Nat) => (j : Int)
  | [], pb => rfl
  | y :: b, pb => by
    unfold tl
    rw [lv_nil, tl_nil b (y :: pb), List.length_cons, List.length_cons, List.range'_succ]
    rfl
theorem row0_tl (b : List Int) : row0 b.length = lv [] [] :: tl [] [] b := by
  rw [lv_nil, tl_nil]
  unfold row0
  rw [List.range_eq_range', List.range'_succ]
  rfl
theorem tl_get (pa : List Int) : ∀ (b pb : List Int), (lv pa pb :: tl pa pb b).getD b.length 0 = lv pa (b.reverse ++ pb)
  | [], pb => rfl
  | y :: b, pb => by
    unfold tl
    rw [List.reverse_cons, List.append_assoc]
    exact tl_get pa b (y :: pb)
theorem distP_lv (a b : List Int) : distP a b = lv a b := by
  unfold distP
  rw [row0_tl]
  have := dRows_tl b a []
  rw [List.length_nil] at this
  rw [this, List.append_nil, tl_get, List.append_nil, lv_rev]
/-- ██ both distances are one ██ -/
theorem distP_ed (a b : List Int) : distP a b = ed a b := by rw [distP_lv, ed_eq]
theorem ed_nil (b : List Int) : ed [] b = b.length := by unfold ed; rfl
theorem ed_nil' (a : List Int) : ed a [] = a.length := by rw [ed_eq, lv_nil']
theorem ed_cons (x y : Int) (a b : List Int) : ed (x :: a) (y :: b) = if x = y then ed a b else 1 + min3 (ed a b) (ed a (y :: b)) (ed (x :: a) b) := by conv => lhs; unfold ed
theorem ed_range : ∀ a b : List Int, 0 ≤ ed a b ∧ ed a b ≤ a.length + b.length
  | [], b => by rw [ed_nil, List.length_nil]; omega
  | x :: a, [] => by rw [ed_nil', List.length_nil]; omega
  | x :: a, y :: b => by
    have h1 := ed_range a b
    have h2 := ed_range a (y :: b)
    have h3 := ed_range (x :: a) b
    rw [ed_cons]
    have h4 := min3_spec (ed a b) (ed a (y :: b)) (ed (x :: a) b)
    simp only [List.length_cons] at h1 h2 h3 ⊢
    split
    · omega
    · rcases h4.2.2.2 with e | e | e <;> rw [e] <;> omega
termination_by a b => a.length + b.length
end Go.Avc

/- The reference's Unquoted: its contract. No condition. -/
set_option linter.unusedVariables false
set_option linter.unusedSimpArgs false
set_option maxRecDepth 100000
namespace Go.Avc
open Go Go.Proofs

def unqROut (s : ByteArray) : AV := match unqS s with
  | some (l, k) => .tcons (.str (strOfNums l)) (.tcons (.i ((s.size : Int) - k + 1)) (.tcons (.b true) .tnil))
  | none => .tcons (.str ⟨#[]⟩) (.tcons (.i 0) (.tcons (.b false) .tnil))
theorem rout_none {s : ByteArray} (h : unqS s = none) : unqROut s = .tcons (.str ⟨#[]⟩) (.tcons (.i 0) (.tcons (.b false) .tnil)) := by unfold unqROut; rw [h]
theorem rout_some {s : ByteArray} {l : List Int} {k : Nat} (h : unqS s = some (l, k)) : unqROut s = .tcons (.str (strOfNums l)) (.tcons (.i ((s.size : Int) - k + 1)) (.tcons (.b true) .tnil)) := by unfold unqROut; rw [h]
theorem find_at {rest : List Int} {c : Nat} (h1 : ∀ x : Nat, x < c → (q1 (x : Int)).isPrefixOf rest = false) (hc : c < 256) (h2 : (q1 (c : Int)).isPrefixOf rest = true) : findC rest = some (c : Int) := by
  unfold findC
  rw [show ((List.range 256).find? fun (x : Nat) => (q1 (x : Int)).isPrefixOf rest) = some c from ?_]
  · rfl
  · rw [List.find?_eq_some_iff_getElem]
    exact ⟨h2, c, by simpa using hc, by simp, fun j hj => by simp [h1 j hj]⟩
theorem find_no {rest : List Int} (h1 : ∀ x : Nat, x < 256 → (q1 (x : Int)).isPrefixOf rest = false) : findC rest = none := by
  unfold findC
  rw [show ((List.range 256).find? fun (x : Nat) => (q1 (x : Int)).isPrefixOf rest) = none from ?_]
  · rfl
  · rw [List.find?_eq_none]
    intro x hx
    rw [h1 x (by simpa using hx)]
    decide
theorem unqS_R (s : ByteArray) : unqS s = if (bl s).head? = some 34 then unqR s.size ((bl s).drop 1) [] else none := by
  unfold unqS
  rw [unq_same _ _ _ (isBs_drop (bl_bs s) 1)]
theorem unqR_step {t : ByteArray} {k : Nat} (h : 0 < t.size) (hk : t.size ≤ k) (acc : List Int) : ∃ k', k = k' + 1 ∧ unqR k (bl t) acc = if bt t 0 = 34 then some (acc, t.size) else match findC (bl t) with
    | none => none
    | some x => unqR k' ((bl t).drop (q1 x).length) (acc ++ [x]) := by
  obtain ⟨k', rfl⟩ : ∃ k', k = k' + 1 := ⟨k - 1, by omega⟩
  refine ⟨k', rfl, ?_⟩
  rw [bt_bl, ← bl_length]
  have hl : 0 < (bl t).length := by rw [bl_length]; exact h
  cases hb : bl t with
  | nil => rw [hb] at hl; simp at hl
  | cons c r => rfl
theorem unqR_nil {t : ByteArray} (h : t.size = 0) (k : Nat) (acc : List Int) : unqR k (bl t) acc = none := by
  rw [show bl t = [] from List.eq_nil_of_length_eq_zero (by rw [bl_length]; exact h)]
  cases k <;> rfl
theorem bl_quotedF (s : ByteArray) : bl (quotedF s) = quotedL (bl s) := bl_str (quotedL_bs (bl_bs s))
theorem q_size {c : Int} (h : 0 ≤ c ∧ c ≤ 255) : (quotedF (strOfNums [c])).size = (q1 c).length + 2 := by
  rw [← bl_length, bl_quotedF, bl_str (isBs_cons.2 ⟨h, isBs_nil⟩)]
  simp [quotedL]
theorem q_inner {c : Int} (h : 0 ≤ c ∧ c ≤ 255) : bl ((quotedF (strOfNums [c])).extract 1 ((q1 c).length + 1)) = q1 c := by
  rw [bl_extract, bl_quotedF, bl_str (isBs_cons.2 ⟨h, isBs_nil⟩)]
  simp [quotedL]
theorem hasPre34 (s : ByteArray) : hasPre s ⟨#[34]⟩ = true ↔ (bl s).head? = some 34 := by
  unfold hasPre
  rw [show bl ⟨#[34]⟩ = [34] by decide]
  cases bl s with
  | nil => simp
  | cons c r =>
    simp only [List.isPrefixOf, Bool.and_true, beq_iff_eq, List.head?_cons, Option.some.injEq]
    exact ⟨fun e => e.symm, fun e => e.symm⟩
def unqRSp : Spec where
  pre xs := ∃ s : ByteArray, xs = [.str s] ∧ s.size ≤ 16777216
  post xs r := ∃ s : ByteArray, xs = [.str s] ∧ r = unqROut s
  cost _ := 0
  fresh := true
def urSf (s : ByteArray) (p : ByteArray × List Int × Nat) : Sh := ⟨[(0, .str s), (5, .own 5), (6, .str p.1)], [(5, .arr 5 1 (rowsB p.2.1))], 0⟩
def urJ (s : ByteArray) (p : ByteArray × List Int × Nat) : Prop := p.1.size + 1 ≤ s.size ∧ p.2.1.length + p.1.size ≤ s.size ∧ p.1.size ≤ p.2.2 ∧ unqR p.2.2 (bl p.1) p.2.1 = unqS s
def urSi (s t : ByteArray) (acc : List Int) (c : Nat) : Sh := ⟨[(0, .str s), (5, .own 5), (6, .str t), (7, .b false), (28, .i c)], [(5, .arr 5 1 (rowsB acc))], 0⟩
theorem unqr_ctr {cx : Cx} (h : Seat cx) : Ctr cx 17 unqRSp := by
  refine ctr_of (fn := Tryd.f17) (l := [.tmp 2, .tmp 3, .tmp 4]) (envL [(64, hasPreS), (13, quoteS)]) [0, 2, 3, 4, 5, 6, 7, 8, 9, 12, 16, 19, 28, 29, 43, 55] [] [(15, [0, 1, 2, 5, 6, 7, 8], [3, 4, 9, 10, 11])] (envL_cons (hasPre_ctr h) (envL_cons (quoted_ctr h) (env0 h.hP))) ?_ (by rw [h.hP]; exact Tryd.func17) rfl (by kernel_rfl) rfl ?_ ?_
  · rw [h.hP]; exact ⟨_, Tryd.func17, by kernel_rfl, by kernel_rfl⟩
  · rintro xs ⟨s, rfl, hs⟩; exact ⟨_, s, rfl, rfl⟩
  · rintro xs ⟨s, rfl, hs⟩
    refine ⟨by rw [Tryd.ntmps17]; simp, ?_⟩
    simp only [go_sem, h.hP, unqRSp, hasPreS, quoteS, Tryd.ntmps17, Nat.reduceEqDiff, reduceCtorEq, Nat.reduceMul, Nat.reduceAdd, Nat.reduceSub, Nat.reduceDiv, Nat.reduceMod, Nat.reduceLeDiff, Nat.reduceLT, Nat.reduceBNe, Nat.reduceBEq, reduceIte, Int.reduceLE, Int.reduceLT, Int.reduceToNat, Int.reduceNeg, Int.reduceAdd, Int.reduceSub, Int.reduceMul, Int.reduceEq]
    have hhp := hasPre34 s
    have hne : ¬ (bl s).head? = some 34 → unqS s = none := fun e => by unfold unqS; rw [if_neg e]
    have hsz : (bl s).head? = some 34 → 0 < s.size := fun e => by
      rw [← bl_length]
      cases hb : bl s with
      | nil => rw [hb] at e; cases e
      | cons c r => simp
    (repeat' (first | with_reducible apply And.intro | with_reducible intro))
    all_goals first
      | (with_reducible show Go.Avc.vc _ _ _ _ _ _)
      | omega
      | exact (rout_none (hne (by rw [← hhp]; simp_all))).symm
      | (have h34 := hhp.1 (by assumption); have := hsz h34; omega)
      | skip
    have h34 := hhp.1 (by assumption)
    have h0 := hsz h34
    clear hhp hne hsz
    refine vc_loop _ (urSf s) (urJ s) (fun p => p.1.size) [(5, 5, 1)] ?_ ?_
    · refine meets_mk _ (s.extract 1 s.size, [], s.size) ⟨?_, ?_, ?_, ?_⟩ ?_
      · show (s.extract 1 s.size).size + 1 ≤ s.size
        rw [ByteArray.size_extract]; omega
      · show 0 + (s.extract 1 s.size).size ≤ s.size
        rw [ByteArray.size_extract]; omega
      · show (s.extract 1 s.size).size ≤ s.size
        rw [ByteArray.size_extract]; omega
      · show unqR s.size (bl (s.extract 1 s.size)) [] = unqS s
        rw [bl_tail, unqS_R, if_pos h34]
      · simp only [go_sem, h.hP, urSf, Tryd.ntmps17, Nat.reduceEqDiff, reduceCtorEq, Nat.reduceMul, Nat.reduceAdd, Nat.reduceSub, Nat.reduceDiv, Nat.reduceMod, Nat.reduceLeDiff, Nat.reduceLT, Nat.reduceBNe, Nat.reduceBEq, reduceIte, Int.reduceLE, Int.reduceLT, Int.reduceToNat, Int.reduceNeg, Int.reduceAdd, Int.reduceSub, Int.reduceMul, Int.reduceEq]
        rfl
    · rintro ⟨t, acc, k⟩ ⟨j1, j2, j3, j4⟩
      simp only at j1 j2 j3 j4
      simp only [go_sem, h.hP, urSf, unqRSp, hasPreS, quoteS, str_nil, Tryd.ntmps17, Nat.reduceEqDiff, reduceCtorEq, Nat.reduceMul, Nat.reduceAdd, Nat.reduceSub, Nat.reduceDiv, Nat.reduceMod, Nat.reduceLeDiff, Nat.reduceLT, Nat.reduceBNe, Nat.reduceBEq, reduceIte, Int.reduceLE, Int.reduceLT, Int.reduceToNat, Int.reduceNeg, Int.reduceAdd, Int.reduceSub, Int.reduceMul, Int.reduceEq]
      refine ⟨fun c1 => ⟨by omega, fun c2 => ⟨fun x hx => rowsB_u8 _ _ hx, ?_⟩, fun c2 => ?_⟩, fun c1 => ?_⟩
      · obtain ⟨k', rfl, hst⟩ := unqR_step (by omega) j3 acc
        rw [j4, if_pos c2] at hst
        rw [rout_some hst, numsOf_rowsB, i64w (n := (s.size : Int) - t.size) (by omega) (by omega), i64w (by omega) (by omega)]
      · refine vc_loop _ (urSi s t acc) (fun c => c ≤ 256 ∧ ∀ x : Nat, x < c → (q1 (x : Int)).isPrefixOf (bl t) = false) (fun c => 256 - c) [] ?_ ?_
        · refine meets_mk _ 0 ⟨by decide, fun x hx => by omega⟩ ?_
          simp only [go_sem, h.hP, urSi, Tryd.ntmps17, Nat.reduceEqDiff, reduceCtorEq, Nat.reduceMul, Nat.reduceAdd, Nat.reduceSub, Nat.reduceDiv, Nat.reduceMod, Nat.reduceLeDiff, Nat.reduceLT, Nat.reduceBNe, Nat.reduceBEq, reduceIte, Int.reduceLE, Int.reduceLT, Int.reduceToNat, Int.reduceNeg, Int.reduceAdd, Int.reduceSub, Int.reduceMul, Int.reduceEq]
          rfl
        · rintro c ⟨d1, d2⟩
          simp only [go_sem, h.hP, urSi, unqRSp, hasPreS, quoteS, str_nil, Tryd.ntmps17, Nat.reduceEqDiff, reduceCtorEq, Nat.reduceMul, Nat.reduceAdd, Nat.reduceSub, Nat.reduceDiv, Nat.reduceMod, Nat.reduceLeDiff, Nat.reduceLT, Nat.reduceBNe, Nat.reduceBEq, reduceIte, Int.reduceLE, Int.reduceLT, Int.reduceToNat, Int.reduceNeg, Int.reduceAdd, Int.reduceSub, Int.reduceMul, Int.reduceEq]
          have hq1 := q1_len (c : Int)
          refine ⟨fun c3 => ?_, fun c3 => ?_⟩
          · have c3' : c < 256 := by omega
            have hq2 := q_size (c := (c : Int)) ⟨by omega, by omega⟩
            have hq3 := q_inner (c := (c : Int)) ⟨by omega, by omega⟩
            simp only [u8w (n := (c : Int)) (by omega) (by omega), show ∀ n : Int, numsOf [[D.int .u8 n]] = [n] from fun _ => rfl, hq2, show ((((q1 (c : Int)).length + 2 : Nat) : Int) - 1) = (((q1 (c : Int)).length + 1 : Nat) : Int) by omega, i64w (n := (((q1 (c : Int)).length + 1 : Nat) : Int)) (by omega) (by omega), Int.toNat_natCast]
            have hq4 : ((quotedF (strOfNums [(c : Int)])).extract 1 ((q1 (c : Int)).length + 1)).size = (q1 (c : Int)).length := by rw [← bl_length, hq3]
            generalize (quotedF (strOfNums [(c : Int)])).extract 1 ((q1 (c : Int)).length + 1) = q at *
            have hq5 : hasPre t q = (q1 (c : Int)).isPrefixOf (bl t) := by unfold hasPre; rw [hq3]
            rw [hq5, hq4]
            refine ⟨by rw [strOfNums_size]; simp, by omega, by omega, by omega, fun c4 => ?_, fun c4 => ?_⟩
            · have hle := (List.isPrefixOf_iff_prefix.1 c4).length_le
              rw [bl_length] at hle
              refine ⟨by omega, by omega, by omega, by rw [rowsB_len]; omega, by rw [rowsB_len]; omega, ?_⟩
              obtain ⟨k', rfl, hst⟩ := unqR_step (by omega) j3 acc
              rw [j4, if_neg c2, find_at d2 c3' c4] at hst
              have hsz : (t.extract (q1 (c : Int)).length t.size).size = t.size - (q1 (c : Int)).length := by rw [ByteArray.size_extract]; omega
              refine below_mk _ (t.extract (q1 (c : Int)).length t.size, acc ++ [(c : Int)], k') ⟨?_, ?_, ?_, ?_⟩ ?_ ?_
              · show (t.extract _ _).size + 1 ≤ _; omega
              · show (acc ++ [_]).length + (t.extract _ _).size ≤ _; rw [List.length_append, List.length_singleton]; omega
              · show (t.extract _ _).size ≤ k'; omega
              · show unqR k' (bl (t.extract _ _)) _ = _
                rw [bl_tail]; exact hst.symm
              · show (t.extract _ _).size < t.size; omega
              · simp only [go_sem, h.hP, urSf, Tryd.ntmps17, Nat.reduceEqDiff, reduceCtorEq, Nat.reduceMul, Nat.reduceAdd, Nat.reduceSub, Nat.reduceDiv, Nat.reduceMod, Nat.reduceLeDiff, Nat.reduceLT, Nat.reduceBNe, Nat.reduceBEq, reduceIte, Int.reduceLE, Int.reduceLT, Int.reduceToNat, Int.reduceNeg, Int.reduceAdd, Int.reduceSub, Int.reduceMul, Int.reduceEq]
                rw [rowsB_app]; rfl
            · refine below_mk _ (c + 1) ⟨by omega, fun x hx => ?_⟩ (by show 256 - (c + 1) < 256 - c; omega) ?_
              · by_cases e : x = c
                · rw [e]; exact c4
                · exact d2 x (by omega)
              · simp only [go_sem, h.hP, urSi, Tryd.ntmps17, Nat.reduceEqDiff, reduceCtorEq, Nat.reduceMul, Nat.reduceAdd, Nat.reduceSub, Nat.reduceDiv, Nat.reduceMod, Nat.reduceLeDiff, Nat.reduceLT, Nat.reduceBNe, Nat.reduceBEq, reduceIte, Int.reduceLE, Int.reduceLT, Int.reduceToNat, Int.reduceNeg, Int.reduceAdd, Int.reduceSub, Int.reduceMul, Int.reduceEq]
                exact i64s (by omega)
          · obtain ⟨k', rfl, hst⟩ := unqR_step (by omega) j3 acc
            rw [j4, if_neg c2, find_no (fun x hx => d2 x (by omega))] at hst
            exact (rout_none hst).symm
      · exact (rout_none (by rw [← j4, unqR_nil c1])).symm
end Go.Avc

/- The reference's distance of two strings: its contract. No condition. -/
set_option linter.unusedVariables false
set_option linter.unusedSimpArgs false
set_option maxRecDepth 100000
namespace Go.Avc
open Go Go.Proofs

def rptsSf (p : ByteArray × List Int × Nat) : Sh := ⟨[(0, .str p.1), (3, .own 3)], [(3, .arr 3 1 (rowsK .i64 p.2.1))], 0⟩
theorem rpts_ctr {cx : Cx} (h : Seat cx) (hU : Utf8 cx) : Ctr cx 70 (ptsS .i64) := by
  refine ctr_of (fn := Tryd.f70) (l := [.tmp 2]) (envL [(124, decS)]) [0, 2, 3, 4, 5, 7, 18] [] [] (envL_cons (dec_ctr h hU) (env0 h.hP)) ?_ (by rw [h.hP]; exact Tryd.func70) rfl (by kernel_rfl) rfl ?_ ?_
  · rw [h.hP]; exact ⟨_, Tryd.func70, by kernel_rfl, by kernel_rfl⟩
  · rintro xs ⟨s, rfl, hs⟩; exact ⟨_, s, rfl, rfl⟩
  · rintro xs ⟨s, rfl, hs⟩
    refine ⟨by rw [Tryd.ntmps70]; simp, ?_⟩
    simp only [go_sem, h.hP, ptsS, decS, Tryd.ntmps70, Nat.reduceEqDiff, reduceCtorEq, Nat.reduceMul, Nat.reduceAdd, Nat.reduceSub, Nat.reduceDiv, Nat.reduceMod, Nat.reduceLeDiff, Nat.reduceLT, Nat.reduceBNe, Nat.reduceBEq, reduceIte, Int.reduceLE, Int.reduceLT, Int.reduceToNat, Int.reduceNeg, Int.reduceAdd, Int.reduceSub, Int.reduceMul, Int.reduceEq]
    refine vc_loop _ rptsSf (ptsJ s) (fun p => p.1.size) [(3, 3, 1)] ?_ ?_
    · refine meets_mk _ (s, [], s.size) ⟨by show 0 + s.size ≤ s.size; omega, Nat.le_refl _, rfl⟩ ?_
      simp only [go_sem, h.hP, rptsSf, Tryd.ntmps70, Nat.reduceEqDiff, reduceCtorEq, Nat.reduceMul, Nat.reduceAdd, Nat.reduceSub, Nat.reduceDiv, Nat.reduceMod, Nat.reduceLeDiff, Nat.reduceLT, Nat.reduceBNe, Nat.reduceBEq, reduceIte, Int.reduceLE, Int.reduceLT, Int.reduceToNat, Int.reduceNeg, Int.reduceAdd, Int.reduceSub, Int.reduceMul, Int.reduceEq]
      rfl
    · rintro ⟨t, acc, k⟩ ⟨j1, j2, j3⟩
      simp only at j1 j2 j3
      simp only [go_sem, h.hP, rptsSf, ptsS, decS, str_nil, Tryd.ntmps70, Nat.reduceEqDiff, reduceCtorEq, Nat.reduceMul, Nat.reduceAdd, Nat.reduceSub, Nat.reduceDiv, Nat.reduceMod, Nat.reduceLeDiff, Nat.reduceLT, Nat.reduceBNe, Nat.reduceBEq, reduceIte, Int.reduceLE, Int.reduceLT, Int.reduceToNat, Int.reduceNeg, Int.reduceAdd, Int.reduceSub, Int.reduceMul, Int.reduceEq]
      simp only [rowsK_flat, rowsK_len, rowsK_one, Bool.true_eq_false, if_false, D.sl.injEq, AV.dv.injEq, DV.d.injEq]
      have hr := bt_range t 0
      have hw : t.size ≠ 0 → 1 ≤ wid t ∧ wid t ≤ t.size ∧ (Lib.decodeGo t).1 ≤ 1114111 := wid_ge
      have hx : (t.extract (wid t) t.size).size = t.size - wid t := by rw [ByteArray.size_extract]; omega
      have hb : IntKind.i64.wrap (-1 - IntKind.i64.wrap (bt t 0)) = -1 - bt t 0 := by rw [i64w (n := bt t 0) (by omega) (by omega), i64w (by omega) (by omega)]
      have hd : t.size ≠ 0 → IntKind.i64.wrap ((Lib.decodeGo t).1 : Int) = ((Lib.decodeGo t).1 : Int) := fun hne => i64w (by omega) (by have := hw hne; omega)
      have key : t.size ≠ 0 → ∃ k', k = k' + 1 ∧ (acc ++ [ptOf t]) ++ ptsL k' (t.extract (wid t) t.size) = pts s := fun hne => by
        obtain ⟨k', rfl, hst⟩ := ptsL_step hne j2
        rw [hst] at j3
        exact ⟨k', rfl, by rw [List.append_assoc]; exact j3⟩
      have leaf : ∀ c : Int, t.size ≠ 0 → c = ptOf t → ∀ σ, At 35 [(3, 3, 1)] (rptsSf (t.extract (wid t) t.size, acc ++ [c], k - 1)) σ → Below 35 [(3, 3, 1)] rptsSf (ptsJ s) (fun p => p.1.size) t.size σ := fun c hne hc σ hσ => by
        obtain ⟨k', rfl, hk⟩ := key hne
        have h1 := hw hne
        refine below_mk _ _ ⟨?_, ?_, ?_⟩ ?_ hσ
        · show (acc ++ [c]).length + (t.extract (wid t) t.size).size ≤ s.size
          rw [List.length_append, List.length_singleton]; omega
        · show (t.extract (wid t) t.size).size ≤ k' + 1 - 1; omega
        · show (acc ++ [c]) ++ ptsL k' _ = _
          rw [hc]; exact hk
        · show (t.extract (wid t) t.size).size < t.size; omega
      have hwd : (Lib.decodeGo t).2 = wid t := rfl
      rw [hb, hwd]
      clear key
      refine ⟨fun hne => ?_, fun he => ?_⟩
      · have h1 := hw hne
        rw [hd hne]
        clear hd
        refine ⟨fun c1 => ⟨fun c2 => ?_, fun c2 => ?_⟩, fun c1 => ?_⟩
        · refine ⟨by omega, by omega, by omega, by omega, by omega, by omega, leaf (-1 - bt t 0) hne ?_ _ ?_⟩
          · unfold ptOf; rw [if_pos ⟨c1, c2⟩]
          · simp only [go_sem, h.hP, rptsSf, Tryd.ntmps70, Nat.reduceEqDiff, reduceCtorEq, Nat.reduceMul, Nat.reduceAdd, Nat.reduceSub, Nat.reduceDiv, Nat.reduceMod, Nat.reduceLeDiff, Nat.reduceLT, Nat.reduceBNe, Nat.reduceBEq, reduceIte, Int.reduceLE, Int.reduceLT, Int.reduceToNat, Int.reduceNeg, Int.reduceAdd, Int.reduceSub, Int.reduceMul, Int.reduceEq]
            rw [rowsK_app]
        · refine ⟨by omega, by omega, by omega, by omega, by omega, leaf _ hne (?_ : ((Lib.decodeGo t).1 : Int) = _) _ ?_⟩
          · unfold ptOf; rw [if_neg (fun e => c2 e.2)]
          · simp only [go_sem, h.hP, rptsSf, Tryd.ntmps70, Nat.reduceEqDiff, reduceCtorEq, Nat.reduceMul, Nat.reduceAdd, Nat.reduceSub, Nat.reduceDiv, Nat.reduceMod, Nat.reduceLeDiff, Nat.reduceLT, Nat.reduceBNe, Nat.reduceBEq, reduceIte, Int.reduceLE, Int.reduceLT, Int.reduceToNat, Int.reduceNeg, Int.reduceAdd, Int.reduceSub, Int.reduceMul, Int.reduceEq]
            rw [rowsK_app]
        · refine ⟨by omega, by omega, by omega, by omega, by omega, leaf _ hne (?_ : ((Lib.decodeGo t).1 : Int) = _) _ ?_⟩
          · unfold ptOf; rw [if_neg (fun e => c1 e.1)]
          · simp only [go_sem, h.hP, rptsSf, Tryd.ntmps70, Nat.reduceEqDiff, reduceCtorEq, Nat.reduceMul, Nat.reduceAdd, Nat.reduceSub, Nat.reduceDiv, Nat.reduceMod, Nat.reduceLeDiff, Nat.reduceLT, Nat.reduceBNe, Nat.reduceBEq, reduceIte, Int.reduceLE, Int.reduceLT, Int.reduceToNat, Int.reduceNeg, Int.reduceAdd, Int.reduceSub, Int.reduceMul, Int.reduceEq]
            rw [rowsK_app]
      · rw [ptsL_nil he, List.append_nil] at j3
        rw [j3]

def farS : Spec where
  pre xs := ∃ s t : ByteArray, xs = [.str s, .str t] ∧ s.size ≤ 1073741824 ∧ t.size ≤ 1073741824
  post xs r := ∃ s t : ByteArray, xs = [.str s, .str t] ∧ r = .i (ed (pts s) (pts t))
  cost _ := 0
  fresh := true
/-- from place k on the row holds the distances of the i-th end of x from the ends of y -/
def gOk (x y : List Int) (i k : Nat) (r : List Int) : Prop := ∀ t, k ≤ t → t ≤ y.length → r.getD t 0 = ed (x.drop i) (y.drop t)
def Gf0 (x y : List Int) (p : List Int × Nat) : Sh := ⟨[(5, .sl (rowsK .i64 x)), (6, .sl (rowsK .i64 y)), (7, .own 7), (21, .i ((y.length : Int) + 1)), (22, .i p.2)], [(7, .arr 3 1 (rowsK .i64 p.1))], 0⟩
def Gf1 (x y : List Int) (p : List Int × Nat) : Sh := ⟨[(5, .sl (rowsK .i64 x)), (6, .sl (rowsK .i64 y)), (7, .own 7), (9, .i ((p.2 : Int) - 1))], [(7, .arr 3 1 (rowsK .i64 p.1))], 0⟩
def Gf2 (x y r : List Int) (i : Nat) (p : List Int × Nat) : Sh := ⟨[(5, .sl (rowsK .i64 x)), (6, .sl (rowsK .i64 y)), (7, .own 7), (9, .i i), (10, .own 10), (11, .i ((p.2 : Int) - 1))], [(7, .arr 3 1 (rowsK .i64 r)), (10, .arr 3 1 (rowsK .i64 p.1))], 0⟩
theorem far_ctr {cx : Cx} (h : Seat cx) (hU : Utf8 cx) : Ctr cx 22 farS := by
  refine ctr_of (fn := Tryd.f22) (l := [.tmp 4]) (envL [(70, (ptsS .i64))]) [0, 1, 4, 5, 6, 7, 8, 9, 10, 11, 21, 22, 23, 37, 56, 67] [] [] (envL_cons (rpts_ctr h hU) (env0 h.hP)) ?_ (by rw [h.hP]; exact Tryd.func22) rfl (by kernel_rfl) rfl ?_ ?_
  · rw [h.hP]; exact ⟨_, Tryd.func22, by kernel_rfl, by kernel_rfl⟩
  · rintro xs ⟨s, t, rfl, h1, h2⟩; exact ⟨_, s, t, rfl, rfl⟩
  · rintro xs ⟨s, t, rfl, h1, h2⟩
    refine ⟨by rw [Tryd.ntmps22]; simp, ?_⟩
    simp only [go_sem, h.hP, farS, ptsS, rowsK_len, Tryd.ntmps22, Nat.reduceEqDiff, reduceCtorEq, Nat.reduceMul, Nat.reduceAdd, Nat.reduceSub, Nat.reduceDiv, Nat.reduceMod, Nat.reduceLeDiff, Nat.reduceLT, Nat.reduceBNe, Nat.reduceBEq, reduceIte, Int.reduceLE, Int.reduceLT, Int.reduceToNat, Int.reduceNeg, Int.reduceAdd, Int.reduceSub, Int.reduceMul, Int.reduceEq]
    have hp : (pts s).length ≤ s.size := ptsL_len s.size s
    have hq : (pts t).length ≤ t.size := ptsL_len t.size t
    generalize hx : pts s = x at *
    generalize hy : pts t = y at *
    have hw1 : IntKind.i64.wrap ((y.length : Int) + 1) = (y.length : Int) + 1 := i64w (by omega) (by omega)
    rw [hw1]
    refine ⟨by omega, by omega, by omega, by omega, by omega, ?_⟩
    refine vc_loop _ (Gf0 x y) (fun p => p.1.length = y.length + 1 ∧ p.2 ≤ y.length + 1 ∧ ∀ t, t < p.2 → p.1.getD t 0 = (y.length : Int) - t) (fun p => y.length + 1 - p.2) [(7, 3, 1)] ?_ ?_
    · refine meets_mk _ (List.replicate (y.length + 1) 0, 0) ⟨List.length_replicate, Nat.zero_le _, fun t ht => absurd ht (Nat.not_lt_zero t)⟩ ?_
      simp only [go_sem, h.hP, Gf0, Tryd.ntmps22, Nat.reduceEqDiff, reduceCtorEq, Nat.reduceMul, Nat.reduceAdd, Nat.reduceSub, Nat.reduceDiv, Nat.reduceMod, Nat.reduceLeDiff, Nat.reduceLT, Nat.reduceBNe, Nat.reduceBEq, reduceIte, Int.reduceLE, Int.reduceLT, Int.reduceToNat, Int.reduceNeg, Int.reduceAdd, Int.reduceSub, Int.reduceMul, Int.reduceEq]
      refine ⟨by rw [List.length_replicate]; omega, rfl, ?_⟩
      rw [repl_rows, show ((y.length : Int) + 1).toNat = y.length + 1 by omega]
    · rintro ⟨r, k⟩ ⟨k1, k2, k3⟩
      simp only at k1 k2 k3
      simp only [go_sem, h.hP, Gf0, farS, rowsK_len, rowsK_get, rowsK_set, spl_one, k1, Tryd.ntmps22, Nat.reduceEqDiff, reduceCtorEq, Nat.reduceMul, Nat.reduceAdd, Nat.reduceSub, Nat.reduceDiv, Nat.reduceMod, Nat.reduceLeDiff, Nat.reduceLT, Nat.reduceBNe, Nat.reduceBEq, reduceIte, Int.reduceLE, Int.reduceLT, Int.reduceToNat, Int.reduceNeg, Int.reduceAdd, Int.reduceSub, Int.reduceMul, Int.reduceEq]
      refine ⟨fun c1 => ⟨by omega, by omega, by omega, ?_⟩, fun c1 => ?_⟩
      · rw [i64w (n := (y.length : Int) - k) (by omega) (by omega), i64s (n := k) (by omega)]
        refine below_mk _ (r.set k ((y.length : Int) - k), k + 1) ⟨by show (r.set _ _).length = _; rw [List.length_set, k1], by show k + 1 ≤ _; omega, fun t ht => ?_⟩ (by show y.length + 1 - (k + 1) < y.length + 1 - k; omega) ?_
        · show (r.set k _).getD t 0 = _
          rw [set_get (by omega)]
          split
          · rename_i e; rw [e]
          · exact k3 t (by have : t < k + 1 := ht; omega)
        · simp only [go_sem, h.hP, Gf0, Tryd.ntmps22, Nat.reduceEqDiff, reduceCtorEq, Nat.reduceMul, Nat.reduceAdd, Nat.reduceSub, Nat.reduceDiv, Nat.reduceMod, Nat.reduceLeDiff, Nat.reduceLT, Nat.reduceBNe, Nat.reduceBEq, reduceIte, Int.reduceLE, Int.reduceLT, Int.reduceToNat, Int.reduceNeg, Int.reduceAdd, Int.reduceSub, Int.reduceMul, Int.reduceEq]
      · have hk : k = y.length + 1 := by omega
        subst hk
        have hg0 : gOk x y x.length 0 r := fun t _ ht => by
          rw [k3 t (by omega), List.drop_length, ed_nil, List.length_drop]
          omega
        rw [i64w (n := (x.length : Int) - 1) (by omega) (by omega)]
        refine vc_loop _ (Gf1 x y) (fun p => p.1.length = y.length + 1 ∧ p.2 ≤ x.length ∧ gOk x y p.2 0 p.1) (fun p => p.2) [(7, 3, 1)] ?_ ?_
        · refine meets_mk _ (r, x.length) ⟨k1, Nat.le_refl _, hg0⟩ ?_
          simp only [go_sem, h.hP, Gf1, Tryd.ntmps22, Nat.reduceEqDiff, reduceCtorEq, Nat.reduceMul, Nat.reduceAdd, Nat.reduceSub, Nat.reduceDiv, Nat.reduceMod, Nat.reduceLeDiff, Nat.reduceLT, Nat.reduceBNe, Nat.reduceBEq, reduceIte, Int.reduceLE, Int.reduceLT, Int.reduceToNat, Int.reduceNeg, Int.reduceAdd, Int.reduceSub, Int.reduceMul, Int.reduceEq]
        · clear hg0 k3
          rintro ⟨r, i⟩ ⟨k1, k2, k3⟩
          simp only at k1 k2 k3
          simp only [go_sem, h.hP, Gf1, farS, rowsK_len, rowsK_get, rowsK_set, spl_one, k1, hw1, List.length_replicate, repl_rows, Tryd.ntmps22, Nat.reduceEqDiff, reduceCtorEq, Nat.reduceMul, Nat.reduceAdd, Nat.reduceSub, Nat.reduceDiv, Nat.reduceMod, Nat.reduceLeDiff, Nat.reduceLT, Nat.reduceBNe, Nat.reduceBEq, reduceIte, Int.reduceLE, Int.reduceLT, Int.reduceToNat, Int.reduceNeg, Int.reduceAdd, Int.reduceSub, Int.reduceMul, Int.reduceEq]
          refine ⟨fun c2 => ?_, fun c2 => ?_⟩
          · obtain ⟨i, rfl⟩ : ∃ j, i = j + 1 := ⟨i - 1, by omega⟩
            have e1 : ((i + 1 : Nat) : Int) - 1 = i := by omega
            rw [e1]
            clear c2
            refine ⟨by omega, by omega, by omega, by omega, by omega, by omega, ?_⟩
            refine vc_loop _ (Gf2 x y r i) (fun p => p.1.length = y.length + 1 ∧ p.2 ≤ y.length ∧ gOk x y i p.2 p.1) (fun p => p.2) [(7, 3, 1), (10, 3, 1)] ?_ ?_
            · refine meets_mk _ ((List.replicate (y.length + 1) 0).set y.length ((x.length : Int) - i), y.length) ⟨?_, Nat.le_refl _, ?_⟩ ?_
              · show (List.set _ _ _).length = _
                rw [List.length_set, List.length_replicate]
              · intro t h1 h2
                have : t = y.length := by omega
                subst this
                show (List.set _ _ _).getD _ 0 = _
                rw [set_get (by rw [List.length_replicate]; omega), if_pos rfl, List.drop_length, ed_nil', List.length_drop]
                omega
              · simp only [go_sem, h.hP, Gf2, Tryd.ntmps22, Nat.reduceEqDiff, reduceCtorEq, Nat.reduceMul, Nat.reduceAdd, Nat.reduceSub, Nat.reduceDiv, Nat.reduceMod, Nat.reduceLeDiff, Nat.reduceLT, Nat.reduceBNe, Nat.reduceBEq, reduceIte, Int.reduceLE, Int.reduceLT, Int.reduceToNat, Int.reduceNeg, Int.reduceAdd, Int.reduceSub, Int.reduceMul, Int.reduceEq]
                exact ⟨i64w (by omega) (by omega), by rw [i64w (n := (x.length : Int) - i) (by omega) (by omega), show ((y.length : Int) + 1).toNat = y.length + 1 by omega]⟩
            · rintro ⟨q, k⟩ ⟨m1, m2, m3⟩
              simp only at m1 m2 m3
              simp only [go_sem, h.hP, Gf2, farS, rowsK_len, rowsK_get, rowsK_set, spl_one, k1, m1, Tryd.ntmps22, Nat.reduceEqDiff, reduceCtorEq, Nat.reduceMul, Nat.reduceAdd, Nat.reduceSub, Nat.reduceDiv, Nat.reduceMod, Nat.reduceLeDiff, Nat.reduceLT, Nat.reduceBNe, Nat.reduceBEq, reduceIte, Int.reduceLE, Int.reduceLT, Int.reduceToNat, Int.reduceNeg, Int.reduceAdd, Int.reduceSub, Int.reduceMul, Int.reduceEq]
              refine ⟨fun c3 => ?_, fun c3 => ?_⟩
              · obtain ⟨k, rfl⟩ : ∃ j, k = j + 1 := ⟨k - 1, by omega⟩
                have e2 : ((k + 1 : Nat) : Int) - 1 = k := by omega
                have e3 : IntKind.i64.wrap ((k : Int) + 1) = ((k + 1 : Nat) : Int) := i64s (by omega)
                have e4 : IntKind.i64.wrap ((k : Int) - 1) = (k : Int) - 1 := i64w (by omega) (by omega)
                rw [e2, e3, e4]
                simp only [Int.toNat_natCast]
                clear c3
                have f1 : x.drop i = x.getD i 0 :: x.drop (i + 1) := drop_getD (l := x) (i := i) (by omega)
                have f2 : y.drop k = y.getD k 0 :: y.drop (k + 1) := drop_getD (l := y) (i := k) (by omega)
                have g1 : r.getD (k + 1) 0 = ed (x.drop (i + 1)) (y.drop (k + 1)) := k3 (k + 1) (Nat.zero_le _) m2
                have g2 : r.getD k 0 = ed (x.drop (i + 1)) (y.drop k) := k3 k (Nat.zero_le _) (by omega)
                have g3 : q.getD (k + 1) 0 = ed (x.drop i) (y.drop (k + 1)) := m3 (k + 1) (Nat.le_refl _) m2
                have leaf : ∀ v : Int, v = ed (x.drop i) (y.drop k) → ∀ σ, At 99 [(7, 3, 1), (10, 3, 1)] (Gf2 x y r i (q.set k v, k)) σ →
                    Below 99 [(7, 3, 1), (10, 3, 1)] (Gf2 x y r i) (fun p => p.1.length = y.length + 1 ∧ p.2 ≤ y.length ∧ gOk x y i p.2 p.1) (fun p => p.2) (k + 1) σ := fun v hv σ hσ => by
                  refine below_mk _ _ ⟨?_, ?_, ?_⟩ (by show k < k + 1; omega) hσ
                  · show (q.set _ _).length = _; rw [List.length_set, m1]
                  · show k ≤ _; omega
                  · intro t ht1 ht2
                    show (q.set k v).getD t 0 = _
                    rw [set_get (by omega)]
                    split
                    · rename_i e; rw [e, hv]
                    · exact m3 t (by have : k ≤ t := ht1; omega) ht2
                refine ⟨by omega, by omega, by omega, by omega, fun c4 => ⟨by omega, by omega, by omega, by omega, by omega, by omega, leaf (r.getD (k + 1) 0) ?_ _ ?_⟩, fun c4 => ⟨by omega, by omega, by omega, by omega, by omega, by omega, by omega, by omega, by omega, by omega, by omega, by omega, ?_⟩⟩
                · rw [f1, f2, ed_cons, if_pos c4, g1]
                · simp only [go_sem, h.hP, Gf2, Tryd.ntmps22, Nat.reduceEqDiff, reduceCtorEq, Nat.reduceMul, Nat.reduceAdd, Nat.reduceSub, Nat.reduceDiv, Nat.reduceMod, Nat.reduceLeDiff, Nat.reduceLT, Nat.reduceBNe, Nat.reduceBEq, reduceIte, Int.reduceLE, Int.reduceLT, Int.reduceToNat, Int.reduceNeg, Int.reduceAdd, Int.reduceSub, Int.reduceMul, Int.reduceEq]
                · have hv : 1 + min3 (r.getD (k + 1) 0) (r.getD k 0) (q.getD (k + 1) 0) = ed (x.drop i) (y.drop k) := by rw [f1, f2, ed_cons, if_neg c4, ← f1, ← f2, g1, g2, g3]
                  have hb := ed_range (x.drop i) (y.drop k)
                  have hl1 := List.length_drop (i := i) (l := x)
                  have hl2 := List.length_drop (i := k) (l := y)
                  refine leaf (1 + min3 (r.getD (k + 1) 0) (r.getD k 0) (q.getD (k + 1) 0)) hv _ ?_
                  have hw : IntKind.i64.wrap (1 + min3 (r.getD (k + 1) 0) (r.getD k 0) (q.getD (k + 1) 0)) = 1 + min3 (r.getD (k + 1) 0) (r.getD k 0) (q.getD (k + 1) 0) := i64w (by rw [hv]; omega) (by rw [hv]; omega)
                  simp only [go_sem, h.hP, Gf2, Tryd.ntmps22, Nat.reduceEqDiff, reduceCtorEq, Nat.reduceMul, Nat.reduceAdd, Nat.reduceSub, Nat.reduceDiv, Nat.reduceMod, Nat.reduceLeDiff, Nat.reduceLT, Nat.reduceBNe, Nat.reduceBEq, reduceIte, Int.reduceLE, Int.reduceLT, Int.reduceToNat, Int.reduceNeg, Int.reduceAdd, Int.reduceSub, Int.reduceMul, Int.reduceEq]
                  exact congrArg (fun v => Ob.arr 3 1 (rowsK .i64 (q.set k v))) hw
              · have hk : k = 0 := by omega
                subst hk
                rw [i64w (n := (i : Int) - 1) (by omega) (by omega)]
                refine below_mk _ (q, i) ⟨m1, by show i ≤ _; omega, m3⟩ (by show i < i + 1; omega) ?_
                simp only [go_sem, h.hP, Gf1, Tryd.ntmps22, Nat.reduceEqDiff, reduceCtorEq, Nat.reduceMul, Nat.reduceAdd, Nat.reduceSub, Nat.reduceDiv, Nat.reduceMod, Nat.reduceLeDiff, Nat.reduceLT, Nat.reduceBNe, Nat.reduceBEq, reduceIte, Int.reduceLE, Int.reduceLT, Int.reduceToNat, Int.reduceNeg, Int.reduceAdd, Int.reduceSub, Int.reduceMul, Int.reduceEq]
          · have hi : i = 0 := by omega
            subst hi
            have := k3 0 (Nat.le_refl _) (Nat.zero_le _)
            rw [List.drop_zero, List.drop_zero] at this
            exact ⟨by omega, by omega, this⟩
end Go.Avc
