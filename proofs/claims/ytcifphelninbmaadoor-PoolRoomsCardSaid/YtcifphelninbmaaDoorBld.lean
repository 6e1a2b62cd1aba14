/- strings.Builder's WriteByte and WriteString, walked: what they leave. No condition. -/
import Derived.Test.YtcifphelninbmaaDoorChecked
import Derived.Test.YtcifphelninbmaaDoorFacts
import Derived.Lib.Builder
import Derived.Lib.AppendStr
import Derived.Lib.Strings
import Derived.Lib.Slices
import Derived.Lib.Walk
import Derived.WalkKit
import Derived.Laws.Externs
import Derived.Laws.AppendOwn
import Derived.Maps.AppendAt
import Derived.Test.YtcifphelninbmaaDoorAvc13S
import Derived.KernelRfl
import Derived.Lib.UnsafeStr
import Derived.Shelf.RegionOpenPlain
set_option linter.unusedVariables false
set_option linter.unusedSimpArgs false
namespace Go.Avc
open Go Go.RowKit Go.Proofs

set_option maxHeartbeats 1000000 in
set_option maxRecDepth 100000 in
theorem check_used (b : Nat) (w : World) (h0 : w.cell? ⟨b, 0, none⟩ = some (.pointer (some ⟨b, 0, none⟩))) :
    Calls Tryd.prog 119 #[.pointer (some ⟨b, 0, none⟩)] w fun e w' => e = .returned (.tuple #[]) ∧ w' = w := by
  have hj : ∃ j, Tryd.prog.info? 96 = some j := ⟨Tryd.t96, by kernel_rfl⟩
  obtain ⟨j, hj⟩ := hj
  go_enter Tryd.func119, Tryd.ntmps119
  go_wp2
  rw [Lib.run_neq_ptr_same w _ Tryd.underlying93 hj]
  go_wp2
  go_end0
  exact ⟨rfl, rfl⟩

set_option maxHeartbeats 1000000 in
set_option maxRecDepth 100000 in
theorem check_fresh (b : Nat) (w : World) (h0 : w.cell? ⟨b, 0, none⟩ = some (.pointer none)) (hsh : w.shape? b = some (96, 2)) (hfz : w.frozen? ⟨b, 0, none⟩ = false) :
    Calls Tryd.prog 119 #[.pointer (some ⟨b, 0, none⟩)] w fun e w' => e = .returned (.tuple #[]) ∧ w' = w.setCell ⟨b, 0, none⟩ (.pointer (some ⟨b, 0, none⟩)) := by
  obtain ⟨j, hj, hjs⟩ : ∃ j, Tryd.prog.info? 96 = some j ∧ j.size = 2 := ⟨Tryd.t96, by kernel_rfl, by kernel_rfl⟩
  go_enter Tryd.func119, Tryd.ntmps119
  go_wp2
  rw [Lib.run_to_unsafe w ⟨b, 0, none⟩ Tryd.underlying93 Tryd.underlying181 hj (by rw [hjs]; decide) hsh (Nat.zero_lt_succ 1)]
  simp only [Result.andThen]
  rw [Oper.upon_value]
  go_wp2
  rw [run_callFunc_extern Tryd.func166 (by kernel_rfl) (by kernel_rfl) (by kernel_rfl) (e := Extern.AbiNoEscape.same) (by kernel_rfl)]
  rw [Lib.run_noEscape]
  simp only [Result.andThen]
  rw [Oper.upon_value]
  go_wp2
  rw [Lib.run_from_unsafe w ⟨b, 0, none⟩ Tryd.underlying181 Tryd.underlying93 hj hsh (by kernel_rfl)]
  simp only [Result.andThen]
  rw [Oper.upon_value]
  go_wp2
  go_end0
  exact ⟨rfl, rfl⟩

theorem check_calls (b : Nat) (w : World) (v : Value) (h : Bld w b v) : Calls Tryd.prog 119 #[.pointer (some ⟨b, 0, none⟩)] w fun e w' => e = .returned (.tuple #[]) ∧ w'.heap[b]? = some (.cells #[.pointer (some ⟨b, 0, none⟩), v] 96 (0, 0)) ∧
    w'.os = w.os ∧ w'.tape = w.tape ∧ w'.output = w.output ∧ w'.heap.size = w.heap.size ∧ ∀ k, k ≠ b → w'.heap[k]? = w.heap[k]? := by
  obtain ⟨p, hp, hb⟩ := h
  have hc := Lib.cell_of_heap hb 0
  rcases hp with rfl | rfl
  · refine (check_fresh b w (hc.trans rfl) (by simp [World.shape?, hb]) (Lib.frozen_of_heap hb 0)).mono ?_
    rintro e w' ⟨rfl, rfl⟩
    exact ⟨rfl, by simp [World.setCell, Array.getElem?_modify, hb], rfl, rfl, rfl, by simp [World.setCell], fun k hk => heap_setCell_other _ _ _ _ hk⟩
  · refine (check_used b w (hc.trans rfl)).mono ?_
    rintro e w' ⟨rfl, rfl⟩
    exact ⟨rfl, hb, rfl, rfl, rfl, rfl, fun _ _ => rfl⟩

set_option maxHeartbeats 4000000 in
set_option maxRecDepth 100000 in
theorem writeByte_calls (B b : Nat) (bs : List Value) (c : Int) (w : World) (v : Value) (h : Bld w b v) (hown : w.ownsRow B bE 1 v bs.length bs) (hlen : bs.length + 1 ≤ 140737488355328) (hBw : B ≤ w.heap.size) :
    Calls Tryd.prog 59 #[.pointer (some ⟨b, 0, none⟩), .int .u8 c] w fun e w' => e = .returned .nilIface ∧ Wrote B b w v (bs ++ [.int .u8 c]) w' := by
  have hne : v.ownBlock ≠ some b := by
    obtain ⟨p, _, hb⟩ := h
    exact Lib.ownBlock_ne hown hb (by decide)
  have hlt : b < w.heap.size := by
    obtain ⟨p, _, hb⟩ := h
    exact (Array.getElem?_eq_some_iff.1 hb).1
  go_enter Tryd.func59, Tryd.ntmps59
  go_wp2_with (go_at_call 119; refine (check_calls b _ v h).mono ?_)
  rintro e w1 ⟨rfl, hb1, ho1, ht1, hu1, hs1, hk1⟩
  have hown1 : w1.ownsRow B bE 1 v bs.length bs := hown.kept (row := some b) ⟨ho1, ht1, hu1, by omega, fun k hk hn => hk1 k (fun e => hn (by rw [e]))⟩ (.inr hne)
  have hs2 : w.heap.size ≤ w1.heap.size ∧ w1.heap.size ≤ w.heap.size := by omega
  clear hs1
  have c0 : w1.cell? ⟨b, 0, none⟩ = some (.pointer (some ⟨b, 0, none⟩)) := by rw [Lib.cell_of_heap hb1]; rfl
  have c1 : w1.cell? ⟨b, 1, none⟩ = some v := by rw [Lib.cell_of_heap hb1]; rfl
  have hi : Tryd.prog.info? 5 = some Tryd.t5 := by kernel_rfl
  have hz0 : Tryd.t5.zero = some (.int .u8 0) := by kernel_rfl
  have hz1 : Tryd.t5.size = 1 := by kernel_rfl
  have hz2 : Tryd.t5.bytes = 1 := by kernel_rfl
  go_wp2_with (at_builtin; refine wpList_append_own_at _ rfl _ _ 94 rfl B bE Tryd.t5 (.int .u8 0) 1 1 Tryd.underlying94 hi hz0 hz1 hz2 rfl (by decide) _ _ _ rfl (hown1.alloc _) ⟨w1.heap.size, 0, none⟩ 1 1 [.int .u8 c] rfl rfl ?c1 ?c2 ?c3 ?c4 ?c5 ?_)
  case c1 =>
    intro j u hj
    match j, hj with
    | 0, hj => simp at hj; subst hj; simp [Addr.add]
  case c2 => intro u hu; simp at hu; subst hu; rfl
  case c3 => unfold maxLen; omega
  case c4 => omega
  case c5 => simp; omega
  intro v' w2 hown' hgrow _ hat
  have hb2 : w2.heap[b]? = some (.cells #[.pointer (some ⟨b, 0, none⟩), v] 96 (0, 0)) := by
    rw [hgrow.block b (by simp; omega) (fun e => hne e.symm), Lib.alloc_old w1 _ b (by omega)]
    exact hb1
  have d0 : w2.cell? ⟨b, 0, none⟩ = some (.pointer (some ⟨b, 0, none⟩)) := by rw [Lib.cell_of_heap hb2]; rfl
  have d1 : w2.cell? ⟨b, 1, none⟩ = some v := by rw [Lib.cell_of_heap hb2]; rfl
  have f1 : w2.frozen? ⟨b, 1, none⟩ = false := Lib.frozen_of_heap hb2 1
  obtain ⟨g, cap, rfl⟩ : ∃ g cap, v' = .slice (some ⟨g, 0, none⟩) (bs.length + 1) cap := by
    rcases hown'.2 with ⟨_, h0⟩ | ⟨g, cap, cur, hv, _⟩
    · omega
    · exact ⟨g, cap, hv⟩
  go_wp2
  go_ret
  refine ⟨rfl, ?_⟩
  have hnb : (Value.slice (some ⟨g, 0, none⟩) (bs.length + 1) cap).ownBlock ≠ some b := Lib.ownBlock_ne hown' hb2 (by decide)
  refine ⟨.slice (some ⟨g, 0, none⟩) (bs.length + 1) cap, ?_, ?_, ?_, ?_⟩
  · simp [World.setCell, Array.getElem?_modify, hb2]
  · rw [List.length_append]
    exact hown'.kept (row := some b) ⟨rfl, rfl, rfl, by simp [World.setCell], fun k _ hk => heap_setCell_other _ _ _ _ (fun e => hk (by rw [e]))⟩ (.inr hnb)
  · rcases hat with e | e
    · exact .inr (.inl e)
    · refine .inr (.inr ⟨w1.heap.size + 1, e, by omega, ?_⟩)
      have := (hown'.lt _ e).2
      simpa [World.setCell] using this
  · refine ⟨hgrow.os.trans ho1, hgrow.tape.trans ht1, hgrow.output.trans hu1, ?_, fun k hk hkb hkv => ?_⟩
    · have := hgrow.size
      simp at this
      simp [World.setCell]
      omega
    · rw [heap_setCell_other _ _ _ _ (by exact hkb), hgrow.block k (by simp; omega) (fun e => hkv e.symm), Lib.alloc_old w1 _ k (by omega)]
      exact hk1 k hkb
theorem wpList_app_str {P : Program} {w : World} {ops : Array Oper} {rest : List Oper} {o : Oper} {a : Act} {Q : Exit → Act → World → Prop} (hgd : o.guard = none) (sl x : Operand) (t u : TypeId) (ho : o.op = .call { callee := .builtin .append, args := #[sl, x], argTypes := #[t, u] })
    {base : Nat} {e : TypeId} {i : TypeInfo} (ht : P.underlying t = some (.slice e)) (hu : P.underlying u = some .string) (hi : P.info? e = some i) (hz : i.zero = some (.int .u8 0)) (hsize : i.size = 1) (hby : i.bytes = 1)
    {v : Value} {n : Nat} {xs : List Value} (hs : a.eval sl = v) (hown : w.ownsRow base e 1 v n xs) (s : ByteArray) (hx : a.eval x = .string s) (hb : n + s.size ≤ 140737488355328) (hbase : base ≤ w.heap.size)
    (h : ∀ v' w', w'.ownsRow base e 1 v' (n + s.size) (xs ++ Lib.strCells s) → w.grownBy w' v.ownBlock → (v'.ownBlock = none ∨ v'.ownBlock = v.ownBlock ∨ v'.ownBlock = some w.heap.size) → wpList P ops Q rest (a.put o.dst v') w') : wpList P ops Q (o :: rest) a w := by
  refine wpList_plain hgd fun K hK => ?_
  obtain ⟨v', w', hr, h2, h3, h4⟩ := app_str_run (P := P) (ty := o.type) (w := w) ht hu hi hz hsize hby hown s hb hbase
  unfold Oper.wp execOp
  simp only [ho, resolve, invoke, builtin, Sem.run_bind, Sem.run_pure, Result.andThen_ok, List.map_toArray, List.map_cons, List.map_nil, hs, hx, hr]
  exact hK _ _ (h v' w' h2 h3 h4)

set_option maxHeartbeats 4000000 in
set_option maxRecDepth 100000 in
theorem writeString_calls (B b : Nat) (bs : List Value) (s : ByteArray) (w : World) (v : Value) (h : Bld w b v) (hown : w.ownsRow B bE 1 v bs.length bs) (hlen : bs.length + s.size ≤ 140737488355328) (hBw : B ≤ w.heap.size) :
    Calls Tryd.prog 60 #[.pointer (some ⟨b, 0, none⟩), .string s] w fun e w' => e = .returned (.tuple #[.int .i64 s.size, .nilIface]) ∧ Wrote B b w v (bs ++ Lib.strCells s) w' := by
  have hne : v.ownBlock ≠ some b := by
    obtain ⟨p, _, hb⟩ := h
    exact Lib.ownBlock_ne hown hb (by decide)
  have hlt : b < w.heap.size := by
    obtain ⟨p, _, hb⟩ := h
    exact (Array.getElem?_eq_some_iff.1 hb).1
  go_enter Tryd.func60, Tryd.ntmps60
  go_wp2_with (go_at_call 119; refine (check_calls b _ v h).mono ?_)
  rintro e w1 ⟨rfl, hb1, ho1, ht1, hu1, hs1, hk1⟩
  have hown1 : w1.ownsRow B bE 1 v bs.length bs := hown.kept (row := some b) ⟨ho1, ht1, hu1, by omega, fun k hk hn => hk1 k (fun e => hn (by rw [e]))⟩ (.inr hne)
  have hs2 : w.heap.size ≤ w1.heap.size ∧ w1.heap.size ≤ w.heap.size := by omega
  clear hs1
  have c0 : w1.cell? ⟨b, 0, none⟩ = some (.pointer (some ⟨b, 0, none⟩)) := by rw [Lib.cell_of_heap hb1]; rfl
  have c1 : w1.cell? ⟨b, 1, none⟩ = some v := by rw [Lib.cell_of_heap hb1]; rfl
  have hi : Tryd.prog.info? 5 = some Tryd.t5 := by kernel_rfl
  have hz0 : Tryd.t5.zero = some (.int .u8 0) := by kernel_rfl
  have hz1 : Tryd.t5.size = 1 := by kernel_rfl
  have hz2 : Tryd.t5.bytes = 1 := by kernel_rfl
  go_wp2_with (at_builtin; refine wpList_app_str rfl _ _ 94 9 rfl Tryd.underlying94 Tryd.underlying9 hi hz0 hz1 hz2 rfl hown1 s rfl hlen ?c5 ?_)
  case c5 => omega
  intro v' w2 hown' hgrow hat
  have hb2 : w2.heap[b]? = some (.cells #[.pointer (some ⟨b, 0, none⟩), v] 96 (0, 0)) := by
    rw [hgrow.block b (by omega) (fun e => hne e.symm)]
    exact hb1
  have d0 : w2.cell? ⟨b, 0, none⟩ = some (.pointer (some ⟨b, 0, none⟩)) := by rw [Lib.cell_of_heap hb2]; rfl
  have d1 : w2.cell? ⟨b, 1, none⟩ = some v := by rw [Lib.cell_of_heap hb2]; rfl
  have f1 : w2.frozen? ⟨b, 1, none⟩ = false := Lib.frozen_of_heap hb2 1
  obtain ⟨A', m', c', rfl⟩ : ∃ A m c, v' = .slice A m c := by
    rcases hown'.2 with ⟨rfl, _⟩ | ⟨g, cap, cur, rfl, _⟩
    · exact ⟨_, _, _, rfl⟩
    · exact ⟨_, _, _, rfl⟩
  have hnb : (Value.slice A' m' c').ownBlock ≠ some b := Lib.ownBlock_ne hown' hb2 (by decide)
  go_wp2
  go_ret2
  refine ⟨rfl, .slice A' m' c', ?_, ?_, ?_, ?_⟩
  · simp [World.setCell, Array.getElem?_modify, hb2]
  · rw [List.length_append, Lib.strCells_length]
    exact hown'.kept (row := some b) ⟨rfl, rfl, rfl, by simp [World.setCell], fun k _ hk => heap_setCell_other _ _ _ _ (fun e => hk (by rw [e]))⟩ (.inr hnb)
  · rcases hat with e | e | e
    · exact .inl e
    · exact .inr (.inl e)
    · refine .inr (.inr ⟨w1.heap.size, e, by omega, ?_⟩)
      have := (hown'.lt _ e).2
      simpa [World.setCell] using this
  · refine ⟨hgrow.os.trans ho1, hgrow.tape.trans ht1, hgrow.output.trans hu1, ?_, fun k hk hkb hkv => ?_⟩
    · have := hgrow.size
      simp [World.setCell]
      omega
    · rw [heap_setCell_other _ _ _ _ (by exact hkb), hgrow.block k (by omega) (fun e => hkv e.symm)]
      exact hk1 k hkb

section
variable (B b : Nat) (p v : Value) (l : List UInt8) (w : World)
theorem cells_byte : Tryd.prog.cellsOf 5 = 1 := by kernel_rfl
theorem else_drew : Else w v.ownBlock w.drew := ⟨rfl, rfl, rfl, Nat.le_refl _, fun _ _ _ => rfl⟩
set_option maxHeartbeats 2000000 in
set_option maxRecDepth 100000 in
theorem string_some (h0 : l ≠ []) (hbk : w.heap[b]? = some (.cells #[p, v] bT (0, 0))) (hown : w.ownsRow B bE 1 v l.length (l.map fun x => .int .u8 x.toNat)) :
    Calls Tryd.prog fSt #[.pointer (some ⟨b, 0, none⟩)] w fun e w' => e = .returned (.string ⟨l.toArray⟩) ∧ Else w v.ownBlock w' := by
  have hl0 : l.length ≠ 0 := by simpa using h0
  obtain ⟨g, cap, cur, rfl, hbg, hg, hnc, hcm, hcs, htake⟩ : ∃ g cap cur, v = .slice (some ⟨g, 0, none⟩) l.length cap ∧ B ≤ g ∧ w.heap[g]? = some (.cells cur bE (0, 0)) ∧ l.length ≤ cap ∧ cap ≤ maxLen ∧ cur.size = cap * 1 ∧ cur.toList.take (l.length * 1) = l.map fun x => .int .u8 x.toNat := by
    rcases hown.2 with ⟨_, hz⟩ | ⟨g, cap, cur, hv, r⟩
    · exact absurd hz hl0
    · exact ⟨g, cap, cur, hv, r⟩
  have c1 : w.drew.cell? ⟨b, 1, none⟩ = some (.slice (some ⟨g, 0, none⟩) l.length cap) := by
    have : w.drew.heap[b]? = some (.cells #[p, .slice (some ⟨g, 0, none⟩) l.length cap] bT (0, 0)) := hbk
    rw [Lib.cell_of_heap this]; rfl
  have hSD : (Builtin.unsafeSliceData_ #[94] 148 #[.slice (some ⟨g, 0, none⟩) l.length cap]).run Tryd.prog w.drew = .ok (.pointer (some ⟨g, 0, none⟩)) w.drew :=
    Lib.run_unsafeSliceData_row _ _ _ _ _ _ (by omega)
  have hUS : (Builtin.unsafeString_ #[148, 3] 9 #[.pointer (some ⟨g, 0, none⟩), .int .i64 l.length]).run Tryd.prog w.drew = .ok (.string ⟨l.toArray⟩) (w.drew.freeze ⟨g, 0, none⟩ l.length) := by
    refine Lib.run_unsafeString_row w.drew 148 3 9 5 Tryd.underlying148 cells_byte g cur.size (by have hg' : w.drew.heap[g]? = some (.cells cur bE (0, 0)) := hg; simp [World.shape?, hg']) l h0 (by omega) (by unfold maxLen at hcm; omega) ?_
    intro j x hx
    exact hown.cells (g := g) rfl j (.int .u8 x.toNat) (by simp [hx])
  have hfin : Else w (Value.slice (some ⟨g, 0, none⟩) l.length cap).ownBlock (w.drew.freeze ⟨g, 0, none⟩ l.length) := by
    have hgk : ∀ k, some g ≠ some k → g ≠ k := fun k h e => h (by rw [e])
    unfold World.freeze
    rw [if_neg hl0]
    refine ⟨rfl, rfl, rfl, by simp, fun k hk hne => ?_⟩
    rw [Array.getElem?_modify, if_neg (hgk k hne)]
    rfl
  have mixed : Tryd.prog.follows Departure.mixedOrders = true := by kernel_rfl
  go_enter Tryd.func62, Tryd.ntmps62
  go_wp2
  go_region_o
  all_goals (go_wp2; go_ret; exact ⟨rfl, hfin⟩)
theorem us_none (W : World) (q : Option Addr) : (Builtin.unsafeString_ #[148, 3] 9 #[.pointer q, .int .i64 0]).run Tryd.prog W = .ok (.string .empty) W :=
  Lib.run_unsafeString_none W _ _ _ q
set_option maxHeartbeats 2000000 in
set_option maxRecDepth 100000 in
theorem string_nil (hbk : w.heap[b]? = some (.cells #[p, .slice none 0 0] bT (0, 0))) :
    Calls Tryd.prog fSt #[.pointer (some ⟨b, 0, none⟩)] w fun e w' => e = .returned (.string ⟨#[]⟩) ∧ w' = w.drew := by
  have hUS := us_none
  have c1 : w.drew.cell? ⟨b, 1, none⟩ = some (.slice none 0 0) := by
    have : w.drew.heap[b]? = some (.cells #[p, .slice none 0 0] bT (0, 0)) := hbk
    rw [Lib.cell_of_heap this]; rfl
  have hSD : (Builtin.unsafeSliceData_ #[94] 148 #[.slice none 0 0]).run Tryd.prog w.drew = .ok (.pointer none) w.drew := rfl
  have mixed : Tryd.prog.follows Departure.mixedOrders = true := by kernel_rfl
  go_enter Tryd.func62, Tryd.ntmps62
  go_wp2
  go_region_o
  all_goals (go_wp2; go_ret; exact ⟨rfl, rfl⟩)
set_option maxHeartbeats 2000000 in
set_option maxRecDepth 100000 in
theorem string_noroom (g : Nat) (cur : Array Value) (hbk : w.heap[b]? = some (.cells #[p, .slice (some ⟨g, 0, none⟩) 0 0] bT (0, 0))) (hg : w.heap[g]? = some (.cells cur bE (0, 0))) :
    Calls Tryd.prog fSt #[.pointer (some ⟨b, 0, none⟩)] w fun e w' => e = .returned (.string ⟨#[]⟩) ∧ Else w none w' := by
  have hUS := us_none
  have hlt : b < w.heap.size := (Array.getElem?_eq_some_iff.1 hbk).1
  have c1 : w.drew.cell? ⟨b, 1, none⟩ = some (.slice (some ⟨g, 0, none⟩) 0 0) := by
    have : w.drew.heap[b]? = some (.cells #[p, .slice (some ⟨g, 0, none⟩) 0 0] bT (0, 0)) := hbk
    rw [Lib.cell_of_heap this]; rfl
  have hSD : (Builtin.unsafeSliceData_ #[94] 148 #[.slice (some ⟨g, 0, none⟩) 0 0]).run Tryd.prog w.drew = .ok (.pointer (some ⟨w.drew.heap.size, 0, none⟩)) (w.drew.alloc (.view ⟨g, 0, none⟩ 5)) :=
    Lib.run_unsafeSliceData_zero w.drew _ _ 5 Tryd.underlying148 ⟨g, 0, none⟩ 0 (5, cur.size) (by have hg' : w.drew.heap[g]? = some (.cells cur bE (0, 0)) := hg; simp [World.shape?, hg'])
  have c2 : (w.drew.alloc (.view ⟨g, 0, none⟩ 5)).cell? ⟨b, 1, none⟩ = some (.slice (some ⟨g, 0, none⟩) 0 0) := by
    have : (w.drew.alloc (.view ⟨g, 0, none⟩ 5)).heap[b]? = _ := (Lib.alloc_old w.drew _ b hlt).trans hbk
    rw [Lib.cell_of_heap this]; rfl
  have c3 : (w.alloc (.view ⟨g, 0, none⟩ 5)).drew.cell? ⟨b, 1, none⟩ = some (.slice (some ⟨g, 0, none⟩) 0 0) := c2
  have c0 : w.cell? ⟨b, 1, none⟩ = some (.slice (some ⟨g, 0, none⟩) 0 0) := c1
  have hfin : ∀ o, Else w none (w.drew.alloc o) := fun o => ⟨rfl, rfl, rfl, by simp, fun k hk _ => Lib.alloc_old w.drew _ k hk⟩
  have mixed : Tryd.prog.follows Departure.mixedOrders = true := by kernel_rfl
  go_enter Tryd.func62, Tryd.ntmps62
  go_wp2
  go_region_o
  all_goals (go_wp2; go_ret; exact ⟨rfl, hfin _⟩)
set_option maxHeartbeats 2000000 in
set_option maxRecDepth 100000 in
theorem string_room (g cap : Nat) (hc0 : cap ≠ 0) (hbk : w.heap[b]? = some (.cells #[p, .slice (some ⟨g, 0, none⟩) 0 cap] bT (0, 0))) :
    Calls Tryd.prog fSt #[.pointer (some ⟨b, 0, none⟩)] w fun e w' => e = .returned (.string ⟨#[]⟩) ∧ w' = w.drew := by
  have hUS := us_none
  have c1 : w.drew.cell? ⟨b, 1, none⟩ = some (.slice (some ⟨g, 0, none⟩) 0 cap) := by
    have : w.drew.heap[b]? = some (.cells #[p, .slice (some ⟨g, 0, none⟩) 0 cap] bT (0, 0)) := hbk
    rw [Lib.cell_of_heap this]; rfl
  have hSD : (Builtin.unsafeSliceData_ #[94] 148 #[.slice (some ⟨g, 0, none⟩) 0 cap]).run Tryd.prog w.drew = .ok (.pointer (some ⟨g, 0, none⟩)) w.drew :=
    Lib.run_unsafeSliceData_row _ _ _ _ _ _ hc0
  clear hc0
  have mixed : Tryd.prog.follows Departure.mixedOrders = true := by kernel_rfl
  go_enter Tryd.func62, Tryd.ntmps62
  go_wp2
  go_region_o
  all_goals (go_wp2; go_ret; exact ⟨rfl, rfl⟩)
theorem string_calls (h : Bld w b v) (hown : w.ownsRow B bE 1 v l.length (l.map fun x => .int .u8 x.toNat)) :
    Calls Tryd.prog fSt #[.pointer (some ⟨b, 0, none⟩)] w fun e w' => e = .returned (.string ⟨l.toArray⟩) ∧ Else w v.ownBlock w' := by
  obtain ⟨p, hp, hbk⟩ := h
  cases l with
  | cons x r => exact string_some B b p v (x :: r) w (by simp) hbk hown
  | nil =>
    rcases hown.2 with ⟨rfl, _⟩ | ⟨g, cap, cur, rfl, hbg, hg, _, _, _, _⟩
    · exact (string_nil b p w hbk).mono fun e w' ⟨h1, h2⟩ => ⟨h1, h2 ▸ else_drew _ w⟩
    · by_cases hc0 : cap = 0
      · subst hc0
        exact (string_noroom b p w g cur hbk hg).mono fun e w' ⟨h1, h2⟩ => ⟨h1, h2.1, h2.2.1, h2.2.2.1, h2.2.2.2.1, fun k hk _ => h2.2.2.2.2 k hk (by simp)⟩
      · exact (string_room b p w g cap hc0 hbk).mono fun e w' ⟨h1, h2⟩ => ⟨h1, h2 ▸ else_drew _ w⟩
set_option maxHeartbeats 2000000 in
theorem len_calls (n : Nat) (A : Option Addr) (c : Nat) (hbk : w.heap[b]? = some (.cells #[p, .slice A n c] bT (0, 0))) : Calls Tryd.prog 67 #[.pointer (some ⟨b, 0, none⟩)] w fun e w' => e = .returned (.int .i64 n) ∧ w' = w := by
  have c1 : w.cell? ⟨b, 1, none⟩ = some (.slice A n c) := by rw [Lib.cell_of_heap hbk]; rfl
  go_enter Tryd.func67, Tryd.ntmps67
  go_wp2
  go_ret
  exact ⟨rfl, rfl⟩
end
theorem bldOk : BldOk Tryd.prog where
  mix := by kernel_rfl
  eb := ⟨_, Tryd.func59, by kernel_rfl, by kernel_rfl⟩
  es := ⟨_, Tryd.func60, by kernel_rfl, by kernel_rfl⟩
  et := ⟨_, Tryd.func62, by kernel_rfl, by kernel_rfl⟩
  el := .inr ⟨_, Tryd.func67, by kernel_rfl, by kernel_rfl⟩
  al := ⟨Tryd.t96, by kernel_rfl, by kernel_rfl⟩
  wb := writeByte_calls
  ws := writeString_calls
  st := fun B b l w v h hown _ => string_calls B b v l w h hown
  ln := .inr fun B b bs w v h hown => by
    obtain ⟨p, _, hbk⟩ := h
    rcases hown.2 with ⟨rfl, h0⟩ | ⟨g, cap, cur, rfl, _⟩
    · rw [h0]; exact len_calls b p w 0 none 0 hbk
    · exact len_calls b p w _ _ _ hbk
theorem env0 {cx : Cx} (hP : cx.P = Tryd.prog) : EnvOk cx (envL []) := envL_nil cx (hP ▸ bldOk)
end Go.Avc
