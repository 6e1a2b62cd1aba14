/- A law that begins by laying its stream: its walk out of what the rest of its code asks. No condition. -/
import Derived.Test.YtcifphelninbmaaDoorSeat
import Derived.Below
import Derived.ChangeSame
set_option linter.unusedVariables false
set_option linter.unusedSimpArgs false
namespace Go.Avc
open Go Go.Proofs

theorem getD_put' {a : Act} {d t : Nat} {v : Value} (hd : d < a.tmps.size) : (a.put (some d) v).tmps.getD t undef = if t = d then v else a.tmps.getD t undef := getD_put hd
theorem put_size {a : Act} {d : Option Nat} {v : Value} : (a.put d v).tmps.size = a.tmps.size := by cases d <;> simp [Act.put]
theorem put_defers {a : Act} {d : Option Nat} {v : Value} : (a.put d v).defers = a.defers := by cases d <;> rfl

/-- The result's slot is laid, the stream is built and boxed. -/
theorem head_wp {P : Program} {Q : Exit → Act → World → Prop} {c : Code} {i0 i1 : Nat} {o0 m bo bx sg : Oper} {d x1 x2 x3 x4 : Nat} {ST : TypeId}
    (h0 : o0.op = .assign (.const (.bool false)) ∧ o0.dst = some d ∧ o0.guard = none) (h1 : m.op = .move (.tmp 0) ∧ m.dst = some x1 ∧ m.guard = none)
    (h2 : bo.op = .build ST #[(0, .tmp x1)] ∧ bo.dst = some x2 ∧ bo.guard = none) (h3 : bx.op = .box ST (.tmp x2) ∧ bx.dst = some x3 ∧ bx.guard = none)
    (h4 : sg.op = .assign (.tmp x3) ∧ sg.dst = some x4 ∧ sg.guard = none) (hd : d ≠ 0)
    (hbuild : ∀ (A : Option Addr) (n cp : Nat) (w : World) (ev : Operand → Value) (o : Oper), o.op = .build ST #[(0, .tmp x1)] → ev (.tmp x1) = .slice A n cp → (execOp ev o).run P w = .ok (.value (.agg #[.slice A n cp, .int .i64 0])) w)
    {a : Act} {w : World} {A : Option Addr} {n cp : Nat} (ha : a.tmps.getD 0 undef = .slice A n cp) (hs : d < a.tmps.size ∧ x1 < a.tmps.size ∧ x2 < a.tmps.size ∧ x3 < a.tmps.size ∧ x4 < a.tmps.size)
    (hc : ∀ a' : Act, (∀ t, a'.tmps.getD t undef = if t = x4 then .pointer (some ⟨w.heap.size, 0, none⟩) else if t = x3 then .pointer (some ⟨w.heap.size, 0, none⟩) else if t = x2 then .agg #[.slice A n cp, .int .i64 0] else if t = x1 then .slice A n cp else if t = d then .bool false else a.tmps.getD t undef) →
      a'.tmps.size = a.tmps.size → a'.defers = a.defers → c.wp P Q a' (w.alloc (.cells #[.slice A n cp, .int .i64 0] ST))) :
    (Code.seq (.region i0 #[o0] false) (.seq (.region i1 #[m, bo, bx, sg] false) c)).wp P Q a w := by
  obtain ⟨s0, s1, s2, s3, s4⟩ := hs
  refine wp_seq (wp_region_list ?_)
  refine wpList_plain h0.2.2 fun K hK => ?_
  have r0 : (execOp a.eval o0).run P w = .ok (.value (.bool false)) w := by simp [execOp, h0.1, Act.eval]
  unfold Oper.wp
  rw [r0, Oper.upon_value, h0.2.1]
  refine hK _ _ ?_
  refine wp_seq (wp_region_list ?_)
  have e0 : (a.put (some d) (.bool false)).tmps.getD 0 undef = .slice A n cp := by rw [getD_put' s0, if_neg (fun e => hd e.symm)]; exact ha
  refine wpList_plain h1.2.2 fun K1 hK1 => ?_
  have r1 : (execOp (a.put (some d) (.bool false)).eval m).run P w = .ok (.value (.slice A n cp)) w := by simp [execOp, h1.1, Act.eval, e0]
  unfold Oper.wp
  rw [r1, Oper.upon_value, h1.2.1]
  refine hK1 _ _ ?_
  refine wpList_plain h2.2.2 fun K2 hK2 => ?_
  have e1 : ((a.put (some d) (.bool false)).put (some x1) (.slice A n cp)).eval (.tmp x1) = .slice A n cp := by
    show ((a.put (some d) (.bool false)).put (some x1) (.slice A n cp)).tmps.getD x1 undef = _
    rw [getD_put' (by rw [put_size]; exact s1), if_pos rfl]
  have r2 := hbuild A n cp w _ bo h2.1 e1
  unfold Oper.wp
  rw [r2, Oper.upon_value, h2.2.1]
  refine hK2 _ _ ?_
  refine wpList_plain h3.2.2 fun K3 hK3 => ?_
  have e2 : (((a.put (some d) (.bool false)).put (some x1) (.slice A n cp)).put (some x2) (.agg #[.slice A n cp, .int .i64 0])).eval (.tmp x2) = .agg #[.slice A n cp, .int .i64 0] := by
    show (((a.put (some d) (.bool false)).put (some x1) (.slice A n cp)).put (some x2) (.agg #[.slice A n cp, .int .i64 0])).tmps.getD x2 undef = _
    rw [getD_put' (by rw [put_size, put_size]; exact s2), if_pos rfl]
  have r3 : (execOp (((a.put (some d) (.bool false)).put (some x1) (.slice A n cp)).put (some x2) (.agg #[.slice A n cp, .int .i64 0])).eval bx).run P w = .ok (.value (.pointer (some ⟨w.heap.size, 0, none⟩))) (w.alloc (.cells #[.slice A n cp, .int .i64 0] ST)) := by
    simp only [execOp, h3.1, Instr.box, newVar, newRow, Sem.run_bind, run_newObj, Sem.run_pure, Result.andThen_ok, e2]
    rfl
  unfold Oper.wp
  rw [r3, Oper.upon_value, h3.2.1]
  refine hK3 _ _ ?_
  refine wpList_plain h4.2.2 fun K4 hK4 => ?_
  generalize hA3 : ((((a.put (some d) (.bool false)).put (some x1) (.slice A n cp)).put (some x2) (.agg #[.slice A n cp, .int .i64 0])).put (some x3) (.pointer (some ⟨w.heap.size, 0, none⟩))) = a3
  have hsz : a3.tmps.size = a.tmps.size := by rw [← hA3]; simp only [put_size]
  have e3 : a3.eval (.tmp x3) = .pointer (some ⟨w.heap.size, 0, none⟩) := by
    show a3.tmps.getD x3 undef = _
    rw [← hA3, getD_put' (by simp only [put_size]; exact s3), if_pos rfl]
  have r4 : (execOp a3.eval sg).run P (w.alloc (.cells #[.slice A n cp, .int .i64 0] ST)) = .ok (.value (.pointer (some ⟨w.heap.size, 0, none⟩))) (w.alloc (.cells #[.slice A n cp, .int .i64 0] ST)) := by simp [execOp, h4.1, e3]
  unfold Oper.wp
  rw [r4, Oper.upon_value, h4.2.1]
  refine hK4 _ _ ?_
  refine hc _ (fun t => ?_) (by rw [put_size, hsz]) (by rw [put_defers, ← hA3]; simp only [put_defers])
  rw [getD_put' (by rw [hsz]; exact s4), ← hA3, getD_put' (by simp only [put_size]; exact s3), getD_put' (by simp only [put_size]; exact s2), getD_put' (by simp only [put_size]; exact s1), getD_put' s0]

def intRows (L : List Int) : List (List D) := L.map fun x => [.int .i64 x]
/-- A law's walk: its stream laid, the rest by what its code asks. -/
theorem law_calls {P : Program} {f : FuncId} {fn : Func} {c : Code} {i0 i1 : Nat} {o0 m bo bx sg : Oper} {d x1 x2 x3 x4 : Nat} {ST : TypeId} {E : Env} {B : Nat} {live : List Nat} {HH : List Nat} {hz : List (Nat × List Nat × List Nat)} {ex : List AV} {xv : List Value} {L : List Int} {A : Option Addr} {cp ng : Nat} {glob : Nat → Option (List D)} {W : World}
    (hf : P.funcs[f]? = some fn) (hb : fn.body = some (Code.seq (.region i0 #[o0] false) (.seq (.region i1 #[m, bo, bx, sg] false) c))) (hl : fn.results = [ResultVar.tmp d].toArray) (hok : codeOk fn.ntmps hz c = true)
    (h0 : o0.op = .assign (.const (.bool false)) ∧ o0.dst = some d ∧ o0.guard = none) (h1 : m.op = .move (.tmp 0) ∧ m.dst = some x1 ∧ m.guard = none)
    (h2 : bo.op = .build ST #[(0, .tmp x1)] ∧ bo.dst = some x2 ∧ bo.guard = none) (h3 : bx.op = .box ST (.tmp x2) ∧ bx.dst = some x3 ∧ bx.guard = none)
    (h4 : sg.op = .assign (.tmp x3) ∧ sg.dst = some x4 ∧ sg.guard = none)
    (hbuild : ∀ (A : Option Addr) (n cp : Nat) (w : World) (ev : Operand → Value) (o : Oper), o.op = .build ST #[(0, .tmp x1)] → ev (.tmp x1) = .slice A n cp → (execOp ev o).run P w = .ok (.value (.agg #[.slice A n cp, .int .i64 0])) w)
    (hlt : xv.length < d ∧ d < x1 ∧ x4 < x1 ∧ d < x4 ∧ x1 < x2 ∧ x2 < x3 ∧ x3 < fn.ntmps) (hxl : ex.length = xv.length) (hxr : ∀ (i : Nat) (x : AV) (u : Value), ex[i]? = some x → xv[i]? = some u → flatV1 x = some u)
    (hB : B ≤ 4611686018427387904) (hng : ng ≤ W.heap.size) (hrd : Rd (fun k => k < W.heap.size) W (.sl (intRows L)) (.slice A L.length cp)) (hgl : GlAt ⟨P, none, L, ST, ng, glob⟩ W)
    (hvc : ∀ cx : Cx, cx.P = P → cx.ST = ST → (∀ w, GlAt cx w → GlAt ⟨P, none, L, ST, ng, glob⟩ w) → EnvOk cx E ∧ vc ⟨cx, E, B, fn.ntmps, live, HH, hz⟩ c (Ends P (fun r => r = .b true) true [ResultVar.tmp d] B) (Ends P (fun r => r = .b true) true [ResultVar.tmp d] B) (fun _ _ => False)
      ⟨upd (upd (argS (.un :: ex)) d (.b false)) x4 .st, noO, 0⟩) :
    Calls P f (.slice A L.length cp :: xv).toArray W fun e W' => e = .returned (.bool true) ∧ RowKit.Below W.heap.size W W' := by
  obtain ⟨l1, l2, l3, l4, l5, l6, l7⟩ := hlt
  let cx : Cx := ⟨P, some W.heap.size, L, ST, ng, glob⟩
  let w1 : World := W.alloc (.cells #[.slice A L.length cp, .int .i64 0] ST)
  let F : Fr := ⟨cx, w1, fun k => k < W.heap.size, 0, B, fn.ntmps, w1, fun _ => False⟩
  have hs1 : W.heap.size < w1.heap.size := alloc_size W _
  have hw : ∀ b, b < W.heap.size → w1.heap[b]? = W.heap[b]? := fun b hb => (alloc_gr W _).block b hb (by simp)
  have hF : F.Wf := ⟨fun b hb => ⟨by have : b < W.heap.size := hb; show b < w1.heap.size; omega, fun e => by have h1 : W.heap.size = b := Option.some.inj e; have : b < W.heap.size := hb; omega⟩, fun b hb => by show b < W.heap.size; have : b < ng := hb; omega, fun b hb => by cases hb; exact hs1, by show 0 + B ≤ _; omega⟩
  have hst : StAt cx 0 w1 := fun b hb => by
    cases hb
    exact ⟨hng, A, cp, 0, heap_alloc_new W _, by omega, by omega, hrd.mono (Nat.le_of_lt hs1) (fun k hk _ => hk) (fun k hk _ => hw k hk)⟩
  have hgl0 : GlAt cx W := hgl
  have hgl1 : GlAt cx w1 := fun k l hk => by
    obtain ⟨g0, g1, cs, g2, g3⟩ := hgl0 k l hk
    exact ⟨g0, by omega, cs, fun j u hj => (cell_congr (a := ⟨k, j, none⟩) (hw k g1)).trans (g2 j u hj), g3.mono (Nat.le_of_lt hs1) (fun _ h _ => h) (fun b hb _ => hw b (by have : b < ng := hb; omega))⟩
  obtain ⟨hE, hv⟩ := hvc cx rfl rfl (fun w h => h)
  have hend : ∀ (σ : St) (a : Act) (w : World), Rel F σ a w → Ends P (fun r => r = .b true) true [ResultVar.tmp d] B σ → a.defers = [] ∧ ∃ v, (results fn a.tmps).run P w = .ok v w ∧ Ending.returned v = .returned (.bool true) ∧ RowKit.Below W.heap.size W w := by
    intro σ a w h he
    obtain ⟨M, ρ, h⟩ := h
    obtain ⟨e1, e2⟩ := he
    split at e2
    · rename_i r hr
      obtain ⟨h3, v, h4, h5⟩ := outA_rel hF h hl hr
      subst e2
      have : v = .bool true := by cases (show Rd _ _ (.bool true) v from h5); rfl
      subst this
      refine ⟨h.df, _, h4, rfl, h.gr.os, h.gr.tape, h.gr.output, ?_, fun k hk => ?_⟩
      · have : w1.heap.size ≤ w.heap.size := h.gr.size; omega
      · exact (h.gr.block k (by show k < w1.heap.size; omega) (fun e => by have e' : W.heap.size = k := Option.some.inj e; omega)).trans (hw k hk)
    · exact e2.elim
  refine calls_of_wp hf hb ?_
  have hpd : ∀ t, ((Value.slice A L.length cp :: xv).toArray ++ Array.replicate (fn.ntmps - (Value.slice A L.length cp :: xv).toArray.size) undef).getD t undef = (Value.slice A L.length cp :: xv).getD t undef := by
    intro t
    rw [Array.getD_eq_getD_getElem?, Array.getElem?_append, List.getD_eq_getElem?_getD]
    split
    · rw [List.getElem?_toArray]
    · rename_i h
      rw [Array.getElem?_replicate, List.getElem?_eq_none (by simpa using h)]
      split <;> rfl
  have hsz : ((Value.slice A L.length cp :: xv).toArray ++ Array.replicate (fn.ntmps - (Value.slice A L.length cp :: xv).toArray.size) undef).size = fn.ntmps := by
    simp; omega
  refine head_wp (A := A) (n := L.length) (cp := cp) h0 h1 h2 h3 h4 (by omega) hbuild (by rw [hpd]; rfl) (by simp only [hsz]; omega) fun a' hg hsa hda => ?_
  refine vc_sound (F := F) (live := live) (H := HH) (hz := hz) hE hF c hok _ _ _ _ (fun σ a w h hk => hend σ a w h hk) (fun σ a w h hk => hend σ a w h hk) (fun j σ a w h hk => hk.elim) _ _ _ ?_ hv
  refine ⟨fun _ => False, fun _ => undef, Gr.refl _ _, hst, hgl1, fun b hb => hb.elim, fun t => ?_, (fun k o hk => by cases hk), (fun k k' o o' hk => by cases hk), hda, by rw [hsa, hsz]; exact Nat.le_refl _, ⟨Nat.le_refl _, fun _ _ _ _ => rfl, fun _ hb => hb.elim⟩⟩
  rw [hg]
  show relA _ _ _ _ _ (upd (upd (argS (.un :: ex)) d (.b false)) x4 .st t) _
  simp only [upd_apply]
  by_cases e4 : t = x4
  · rw [if_pos e4, if_pos e4]; exact ⟨_, rfl, rfl⟩
  · rw [if_neg e4, if_neg e4]
    by_cases ed : t = d
    · rw [if_pos ed, if_neg (by omega), if_neg (by omega), if_neg (by omega), if_pos ed]; exact Rd.bool _
    · rw [if_neg ed]
      cases t with
      | zero => exact trivial
      | succ t =>
        show relA _ _ _ _ _ (ex.getD t .un) _
        rw [List.getD_eq_getElem?_getD]
        cases hx : ex[t]? with
        | none => exact trivial
        | some x =>
          have hlt : t < xv.length := by rw [← hxl]; exact (List.getElem?_eq_some_iff.1 hx).1
          have hfl := hxr t x _ hx (List.getElem?_eq_getElem hlt)
          rw [if_neg (by omega), if_neg (by omega), if_neg (by omega), if_neg ed, hpd, List.getD_cons_succ, List.getD_eq_getElem?_getD, List.getElem?_eq_getElem hlt]
          exact relA_of0 (flatV1_mk hfl).1
theorem build_stream {x1 : Nat} (A : Option Addr) (n cp : Nat) (w : World) (ev : Operand → Value) (o : Oper) (ho : o.op = .build 25 #[(0, .tmp x1)]) (he : ev (.tmp x1) = .slice A n cp) : (execOp ev o).run Tryd.prog w = .ok (.value (.agg #[.slice A n cp, .int .i64 0])) w := by
  have hb : Tryd.prog.built 25 [(0, .slice A n cp)] = some #[.slice A n cp, .int .i64 0] := by kernel_rfl
  simp [execOp, ho, he, run_build w 25 _ _ hb]
end Go.Avc
