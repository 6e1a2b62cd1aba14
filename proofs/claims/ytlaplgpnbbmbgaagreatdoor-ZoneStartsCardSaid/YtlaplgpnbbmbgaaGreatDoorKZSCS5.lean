/- ZoneStarts returns true for every slice of numbers, and leaves it as it was; its row's two tables of unicode/utf8 lie as the program lays them. -/
import Derived.Below
import Derived.ChangeSame
import Derived.ChangeSlices
import Derived.ChangeMaps5
import Derived.OpenShut
import Derived.Lib.DecodeN
import Derived.Test.YtlaplgpnbbmbgaaGreatDoorRows
import Derived.Lib.LaidU8
import Derived.Carry
import Derived.LoopN
import Derived.Test.YtlaplgpnbbmbgaaGreatDoorCards
import Derived.Test.YtlaplgpnbbmbgaaGreatDoorTie
import Derived.WalkKit
import Derived.ProofKit
import Derived.Deep.DeepHandedRow
import Derived.Test.YtlaplgpnbbmbgaaGreatDoorKZSCS1
import Derived.Test.YtlaplgpnbbmbgaaGreatDoorKZSCS2
import Derived.Test.YtlaplgpnbbmbgaaGreatDoorKZSCS3
import Derived.Test.YtlaplgpnbbmbgaaGreatDoorKZSCS4
/- A law that begins by laying its stream: its walk out of what the rest of its code asks. No condition. -/
set_option linter.unusedVariables false
set_option linter.unusedSimpArgs false
namespace Go.Avc
open Go Go.Proofs

theorem getD_put' {a : Act} {d t : Nat} {v : Value} (hd : d < a.tmps.size) : (a.put (some d) v).tmps.getD t undef = if t = d then v else a.tmps.getD t undef := getD_put hd
theorem put_size {a : Act} {d : Option Nat} {v : Value} : (a.put d v).tmps.size = a.tmps.size := by cases d <;> simp [Act.put]
theorem put_defers {a : Act} {d : Option Nat} {v : Value} : (a.put d v).defers = a.defers := by cases d <;> rfl

/-- The result's slot is laid, the stream is built and boxed. -/
theorem head_wp {P : Program} {Q : Exit → Act → World → Prop} {c : Code} {i0 i1 : Nat} {o0 m bo bx sg : Oper} {d x1 x2 x3 x4 : Nat} {ST : TypeId}
    (h0 : o0.op = .assign (.const (.bool false)) ∧ o0.dst = some d ∧ o0.guard = none) (h1 : m.op = .move (.tmp 0) ∧ m.dst = some x1 ∧ m.guard = none)
    (h2 : bo.op = .build ST #[(0, .tmp x1)] ∧ bo.dst = some x2 ∧ bo.guard = none) (h3 : bx.op = .box ST (.tmp x2) ∧ bx.dst = some x3 ∧ bx.guard = none)
    (h4 : sg.op = .assign (.tmp x3) ∧ sg.dst = some x4 ∧ sg.guard = none) (hd : d ≠ 0)
    (hbuild : ∀ (A : Option Addr) (n cp : Nat) (w : World) (ev : Operand → Value) (o : Oper), o.op = .build ST #[(0, .tmp x1)] → ev (.tmp x1) = .slice A n cp → (execOp ev o).run P w = .ok (.value (.agg #[.slice A n cp, .int .i64 0])) w)
    {a : Act} {w : World} {A : Option Addr} {n cp : Nat} (ha : a.tmps.getD 0 undef = .slice A n cp) (hs : d < a.tmps.size ∧ x1 < a.tmps.size ∧ x2 < a.tmps.size ∧ x3 < a.tmps.size ∧ x4 < a.tmps.size)
    (hc : ∀ a' : Act, (∀ t, a'.tmps.getD t undef = if t = x4 then .pointer (some ⟨w.heap.size, 0, none⟩) else if t = x3 then .pointer (some ⟨w.heap.size, 0, none⟩) else if t = x2 then .agg #[.slice A n cp, .int .i64 0] else if t = x1 then .slice A n cp else if t = d then .bool false else a.tmps.getD t undef) →
      a'.tmps.size = a.tmps.size → a'.defers = a.defers → c.wp P Q a' (w.alloc (.cells #[.slice A n cp, .int .i64 0] ST))) :
    (Code.seq (.region i0 #[o0] false) (.seq (.region i1 #[m, bo, bx, sg] false) c)).wp P Q a w := by
  obtain ⟨s0, s1, s2, s3, s4⟩ := hs
  refine wp_seq (wp_region_list ?_)
  refine wpList_plain h0.2.2 fun K hK => ?_
  have r0 : (execOp a.eval o0).run P w = .ok (.value (.bool false)) w := by simp [execOp, h0.1, Act.eval]
  unfold Oper.wp
  rw [r0, Oper.upon_value, h0.2.1]
  refine hK _ _ ?_
  refine wp_seq (wp_region_list ?_)
  have e0 : (a.put (some d) (.bool false)).tmps.getD 0 undef = .slice A n cp := by rw [getD_put' s0, if_neg (fun e => hd e.symm)]; exact ha
  refine wpList_plain h1.2.2 fun K1 hK1 => ?_
  have r1 : (execOp (a.put (some d) (.bool false)).eval m).run P w = .ok (.value (.slice A n cp)) w := by simp [execOp, h1.1, Act.eval, e0]
  unfold Oper.wp
  rw [r1, Oper.upon_value, h1.2.1]
  refine hK1 _ _ ?_
  refine wpList_plain h2.2.2 fun K2 hK2 => ?_
  have e1 : ((a.put (some d) (.bool false)).put (some x1) (.slice A n cp)).eval (.tmp x1) = .slice A n cp := by
    show ((a.put (some d) (.bool false)).put (some x1) (.slice A n cp)).tmps.getD x1 undef = _
    rw [getD_put' (by rw [put_size]; exact s1), if_pos rfl]
  have r2 := hbuild A n cp w _ bo h2.1 e1
  unfold Oper.wp
  rw [r2, Oper.upon_value, h2.2.1]
  refine hK2 _ _ ?_
  refine wpList_plain h3.2.2 fun K3 hK3 => ?_
  have e2 : (((a.put (some d) (.bool false)).put (some x1) (.slice A n cp)).put (some x2) (.agg #[.slice A n cp, .int .i64 0])).eval (.tmp x2) = .agg #[.slice A n cp, .int .i64 0] := by
    show (((a.put (some d) (.bool false)).put (some x1) (.slice A n cp)).put (some x2) (.agg #[.slice A n cp, .int .i64 0])).tmps.getD x2 undef = _
    rw [getD_put' (by rw [put_size, put_size]; exact s2), if_pos rfl]
  have r3 : (execOp (((a.put (some d) (.bool false)).put (some x1) (.slice A n cp)).put (some x2) (.agg #[.slice A n cp, .int .i64 0])).eval bx).run P w = .ok (.value (.pointer (some ⟨w.heap.size, 0, none⟩))) (w.alloc (.cells #[.slice A n cp, .int .i64 0] ST)) := by
    simp only [execOp, h3.1, Instr.box, newVar, newRow, Sem.run_bind, run_newObj, Sem.run_pure, Result.andThen_ok, e2]
    rfl
  unfold Oper.wp
  rw [r3, Oper.upon_value, h3.2.1]
  refine hK3 _ _ ?_
  refine wpList_plain h4.2.2 fun K4 hK4 => ?_
  generalize hA3 : ((((a.put (some d) (.bool false)).put (some x1) (.slice A n cp)).put (some x2) (.agg #[.slice A n cp, .int .i64 0])).put (some x3) (.pointer (some ⟨w.heap.size, 0, none⟩))) = a3
  have hsz : a3.tmps.size = a.tmps.size := by rw [← hA3]; simp only [put_size]
  have e3 : a3.eval (.tmp x3) = .pointer (some ⟨w.heap.size, 0, none⟩) := by
    show a3.tmps.getD x3 undef = _
    rw [← hA3, getD_put' (by simp only [put_size]; exact s3), if_pos rfl]
  have r4 : (execOp a3.eval sg).run P (w.alloc (.cells #[.slice A n cp, .int .i64 0] ST)) = .ok (.value (.pointer (some ⟨w.heap.size, 0, none⟩))) (w.alloc (.cells #[.slice A n cp, .int .i64 0] ST)) := by simp [execOp, h4.1, e3]
  unfold Oper.wp
  rw [r4, Oper.upon_value, h4.2.1]
  refine hK4 _ _ ?_
  refine hc _ (fun t => ?_) (by rw [put_size, hsz]) (by rw [put_defers, ← hA3]; simp only [put_defers])
  rw [getD_put' (by rw [hsz]; exact s4), ← hA3, getD_put' (by simp only [put_size]; exact s3), getD_put' (by simp only [put_size]; exact s2), getD_put' (by simp only [put_size]; exact s1), getD_put' s0]

def intRows (L : List Int) : List (List D) := L.map fun x => [.int .i64 x]
/-- A law's walk: its stream laid, the rest by what its code asks. -/
theorem law_calls {P : Program} {f : FuncId} {fn : Func} {c : Code} {i0 i1 : Nat} {o0 m bo bx sg : Oper} {d x1 x2 x3 x4 : Nat} {ST : TypeId} {E : Env} {B : Nat} {live : List Nat} {HH : List Nat} {hz : List (Nat × List Nat × List Nat)} {ex : List AV} {xv : List Value} {L : List Int} {A : Option Addr} {cp ng : Nat} {glob : Nat → Option (List D)} {W : World}
    (hf : P.funcs[f]? = some fn) (hb : fn.body = some (Code.seq (.region i0 #[o0] false) (.seq (.region i1 #[m, bo, bx, sg] false) c))) (hl : fn.results = [ResultVar.tmp d].toArray) (hok : codeOk fn.ntmps hz c = true)
    (h0 : o0.op = .assign (.const (.bool false)) ∧ o0.dst = some d ∧ o0.guard = none) (h1 : m.op = .move (.tmp 0) ∧ m.dst = some x1 ∧ m.guard = none)
    (h2 : bo.op = .build ST #[(0, .tmp x1)] ∧ bo.dst = some x2 ∧ bo.guard = none) (h3 : bx.op = .box ST (.tmp x2) ∧ bx.dst = some x3 ∧ bx.guard = none)
    (h4 : sg.op = .assign (.tmp x3) ∧ sg.dst = some x4 ∧ sg.guard = none)
    (hbuild : ∀ (A : Option Addr) (n cp : Nat) (w : World) (ev : Operand → Value) (o : Oper), o.op = .build ST #[(0, .tmp x1)] → ev (.tmp x1) = .slice A n cp → (execOp ev o).run P w = .ok (.value (.agg #[.slice A n cp, .int .i64 0])) w)
    (hlt : xv.length < d ∧ d < x1 ∧ x4 < x1 ∧ d < x4 ∧ x1 < x2 ∧ x2 < x3 ∧ x3 < fn.ntmps) (hxl : ex.length = xv.length) (hxr : ∀ (i : Nat) (x : AV) (u : Value), ex[i]? = some x → xv[i]? = some u → flatV1 x = some u)
    (hB : B ≤ 4611686018427387904) (hng : ng ≤ W.heap.size) (hrd : Rd (fun k => k < W.heap.size) W (.sl (intRows L)) (.slice A L.length cp)) (hgl : GlAt ⟨P, none, L, ST, ng, glob⟩ W)
    (hvc : ∀ cx : Cx, cx.P = P → cx.ST = ST → (∀ w, GlAt cx w → GlAt ⟨P, none, L, ST, ng, glob⟩ w) → cx.glob = glob → EnvOk cx E ∧ vc ⟨cx, E, B, fn.ntmps, live, HH, hz⟩ c (Ends P (fun r => r = .b true) true [ResultVar.tmp d] B) (Ends P (fun r => r = .b true) true [ResultVar.tmp d] B) (fun _ _ => False)
      ⟨upd (upd (argS (.un :: ex)) d (.b false)) x4 .st, noO, 0⟩) :
    Calls P f (.slice A L.length cp :: xv).toArray W fun e W' => e = .returned (.bool true) ∧ RowKit.Below W.heap.size W W' := by
  obtain ⟨l1, l2, l3, l4, l5, l6, l7⟩ := hlt
  let cx : Cx := ⟨P, some W.heap.size, L, ST, ng, glob⟩
  let w1 : World := W.alloc (.cells #[.slice A L.length cp, .int .i64 0] ST)
  let F : Fr := ⟨cx, w1, fun k => k < W.heap.size, 0, B, fn.ntmps, w1, fun _ => False⟩
  have hs1 : W.heap.size < w1.heap.size := alloc_size W _
  have hw : ∀ b, b < W.heap.size → w1.heap[b]? = W.heap[b]? := fun b hb => (alloc_gr W _).block b hb (by simp)
  have hF : F.Wf := ⟨fun b hb => ⟨by have : b < W.heap.size := hb; show b < w1.heap.size; omega, fun e => by have h1 : W.heap.size = b := Option.some.inj e; have : b < W.heap.size := hb; omega⟩, fun b hb => by show b < W.heap.size; have : b < ng := hb; omega, fun b hb => by cases hb; exact hs1, by show 0 + B ≤ _; omega⟩
  have hst : StAt cx 0 w1 := fun b hb => by
    cases hb
    exact ⟨hng, A, cp, 0, heap_alloc_new W _, by omega, by omega, hrd.mono (Nat.le_of_lt hs1) (fun k hk _ => hk) (fun k hk _ => hw k hk)⟩
  have hgl0 : GlAt cx W := hgl
  have hgl1 : GlAt cx w1 := fun k l hk => by
    obtain ⟨g0, g1, cs, g2, g3⟩ := hgl0 k l hk
    exact ⟨g0, by omega, cs, fun j u hj => (cell_congr (a := ⟨k, j, none⟩) (hw k g1)).trans (g2 j u hj), g3.mono (Nat.le_of_lt hs1) (fun _ h _ => h) (fun b hb _ => hw b (by have : b < ng := hb; omega))⟩
  obtain ⟨hE, hv⟩ := hvc cx rfl rfl (fun w h => h) rfl
  have hend : ∀ (σ : St) (a : Act) (w : World), Rel F σ a w → Ends P (fun r => r = .b true) true [ResultVar.tmp d] B σ → a.defers = [] ∧ ∃ v, (results fn a.tmps).run P w = .ok v w ∧ Ending.returned v = .returned (.bool true) ∧ RowKit.Below W.heap.size W w := by
    intro σ a w h he
    obtain ⟨M, ρ, h⟩ := h
    obtain ⟨e1, e2⟩ := he
    split at e2
    · rename_i r hr
      obtain ⟨h3, v, h4, h5⟩ := outA_rel hF h hl hr
      subst e2
      have : v = .bool true := by cases (show Rd _ _ (.bool true) v from h5); rfl
      subst this
      refine ⟨h.df, _, h4, rfl, h.gr.os, h.gr.tape, h.gr.output, ?_, fun k hk => ?_⟩
      · have : w1.heap.size ≤ w.heap.size := h.gr.size; omega
      · exact (h.gr.block k (by show k < w1.heap.size; omega) (fun e => by have e' : W.heap.size = k := Option.some.inj e; omega)).trans (hw k hk)
    · exact e2.elim
  refine calls_of_wp hf hb ?_
  have hpd : ∀ t, ((Value.slice A L.length cp :: xv).toArray ++ Array.replicate (fn.ntmps - (Value.slice A L.length cp :: xv).toArray.size) undef).getD t undef = (Value.slice A L.length cp :: xv).getD t undef := by
    intro t
    rw [Array.getD_eq_getD_getElem?, Array.getElem?_append, List.getD_eq_getElem?_getD]
    split
    · rw [List.getElem?_toArray]
    · rename_i h
      rw [Array.getElem?_replicate, List.getElem?_eq_none (by simpa using h)]
      split <;> rfl
  have hsz : ((Value.slice A L.length cp :: xv).toArray ++ Array.replicate (fn.ntmps - (Value.slice A L.length cp :: xv).toArray.size) undef).size = fn.ntmps := by
    simp; omega
  refine head_wp (A := A) (n := L.length) (cp := cp) h0 h1 h2 h3 h4 (by omega) hbuild (by rw [hpd]; rfl) (by simp only [hsz]; omega) fun a' hg hsa hda => ?_
  refine vc_sound (F := F) (live := live) (H := HH) (hz := hz) hE hF c hok _ _ _ _ (fun σ a w h hk => hend σ a w h hk) (fun σ a w h hk => hend σ a w h hk) (fun j σ a w h hk => hk.elim) _ _ _ ?_ hv
  refine ⟨fun _ => False, fun _ => undef, Gr.refl _ _, hst, hgl1, fun b hb => hb.elim, fun t => ?_, (fun k o hk => by cases hk), (fun k k' o o' hk => by cases hk), hda, by rw [hsa, hsz]; exact Nat.le_refl _, ⟨Nat.le_refl _, fun _ _ _ _ => rfl, fun _ hb => hb.elim⟩⟩
  rw [hg]
  show relA _ _ _ _ _ (upd (upd (argS (.un :: ex)) d (.b false)) x4 .st t) _
  simp only [upd_apply]
  by_cases e4 : t = x4
  · rw [if_pos e4, if_pos e4]; exact ⟨_, rfl, rfl⟩
  · rw [if_neg e4, if_neg e4]
    by_cases ed : t = d
    · rw [if_pos ed, if_neg (by omega), if_neg (by omega), if_neg (by omega), if_pos ed]; exact Rd.bool _
    · rw [if_neg ed]
      cases t with
      | zero => exact trivial
      | succ t =>
        show relA _ _ _ _ _ (ex.getD t .un) _
        rw [List.getD_eq_getElem?_getD]
        cases hx : ex[t]? with
        | none => exact trivial
        | some x =>
          have hlt : t < xv.length := by rw [← hxl]; exact (List.getElem?_eq_some_iff.1 hx).1
          have hfl := hxr t x _ hx (List.getElem?_eq_getElem hlt)
          rw [if_neg (by omega), if_neg (by omega), if_neg (by omega), if_neg ed, hpd, List.getD_cons_succ, List.getD_eq_getElem?_getD, List.getElem?_eq_getElem hlt]
          exact relA_of0 (flatV1_mk hfl).1
theorem build_stream {x1 : Nat} (A : Option Addr) (n cp : Nat) (w : World) (ev : Operand → Value) (o : Oper) (ho : o.op = .build 25 #[(0, .tmp x1)]) (he : ev (.tmp x1) = .slice A n cp) : (execOp ev o).run Tryz.prog w = .ok (.value (.agg #[.slice A n cp, .int .i64 0])) w := by
  have hb : Tryz.prog.built 25 [(0, .slice A n cp)] = some #[.slice A n cp, .int .i64 0] := by kernel_rfl
  simp [execOp, ho, he, run_build w 25 _ _ hb]
end Go.Avc

/- Function values over data: a closure's contract, what it answers. No condition. -/
set_option linter.unusedVariables false
set_option linter.unusedSimpArgs false
set_option maxRecDepth 100000
namespace Go.Avc
open Go Go.Proofs

theorem Ctr.weaken {cx : Cx} {f : FuncId} {sp sp' : Spec} (h : Ctr cx f sp) (hp : ∀ xs, sp'.pre xs → sp.pre xs) (hq : ∀ xs r, sp'.pre xs → sp.post xs r → sp'.post xs r) (hc : ∀ xs, sp.cost xs ≤ sp'.cost xs) (hf : sp'.fresh = sp.fresh) : Ctr cx f sp' := by
  obtain ⟨h1, h2, h3⟩ := h
  refine ⟨h1, fun xs ha => ?_, fun F xs vals e1 e2 e3 e4 e5 e6 e7 e8 => (h3 F xs vals e1 e2 e3 e4 (Nat.le_trans (hc xs) e5) e6 e7 (hp xs e8)).mono fun e w' hh => ?_⟩
  · obtain ⟨r, hr⟩ := h2 xs (hp xs ha)
    exact ⟨r, hq xs r ha hr⟩
  · obtain ⟨v, r, g1, g2, g3, g4, g5, g6⟩ := hh
    exact ⟨v, r, g1, g2, g3.le (Nat.add_le_add_left (hc xs) _), hq xs r e8 g4, g5, by rw [hf]; exact g6⟩
/-- Does a function value say yes to x? -/
noncomputable def FSpec.holds (sp : FSpec) (x : DV) : Bool := @decide (sp.post [x] (.d (.bool true))) (Classical.propDecidable _)
/-- It takes x, and answers just one thing. -/
def FSpec.det (sp : FSpec) (x : DV) : Prop := sp.pre [x] ∧ ∀ y, sp.post [x] y ↔ y = .d (.bool (sp.holds x))
/-- A closure of one argument that answers a bool, out of what its captured variables hold. -/
def csp {γ α : Type} (F : γ → List (List D)) (f : α → DV) (g : γ → α → Bool) (caps : List (List D)) : FSpec where
  pre xs := ∃ c a, caps = F c ∧ xs = [f a]
  post xs r := ∃ c a, caps = F c ∧ xs = [f a] ∧ r = .d (.bool (g c a))
def cloS {γ α : Type} (F : γ → List (List D)) (f : α → DV) (g : γ → α → Bool) : Spec where
  pre xs := ∃ c a, xs = .dv (f a) :: (F c).map .dp
  post xs r := ∃ c a, xs = .dv (f a) :: (F c).map .dp ∧ r = .b (g c a)
  cost _ := 0
  fresh := true
theorem dp_inj : ∀ {l m : List (List D)}, l.map AV.dp = m.map AV.dp → l = m
  | [], [], _ => rfl
  | [], b :: m, h => by simp at h
  | a :: l, [], h => by simp at h
  | a :: l, b :: m, h => by
    rw [List.map_cons, List.map_cons, List.cons.injEq, AV.dp.injEq] at h
    rw [h.1, dp_inj h.2]
theorem clo_of {cx : Cx} {fn : FuncId} {γ α : Type} {F : γ → List (List D)} {f : α → DV} {g : γ → α → Bool} (h : Ctr cx fn (cloS F f g)) (caps : List (List D)) : Ctr cx fn (clo (csp F f g) caps) := by
  refine h.weaken (fun xs hx => ?_) (fun xs r hx hr => ?_) (fun _ => Nat.le_refl _) rfl
  · obtain ⟨ys, rfl, c, a, rfl, rfl⟩ := hx
    exact ⟨c, a, rfl⟩
  · obtain ⟨ys, rfl, c', a', rfl, rfl⟩ := hx
    obtain ⟨c, a, e, rfl⟩ := hr
    have e2 : AV.dv (f a') :: (F c').map AV.dp = AV.dv (f a) :: (F c).map AV.dp := e
    rw [List.cons.injEq] at e2
    have e3 := dp_inj e2.2
    have e4 : f a' = f a := by simpa using e2.1
    exact ⟨[f a'], _, rfl, rfl, c, a, e3, by rw [e4], rfl⟩
theorem csp_post {γ α : Type} {F : γ → List (List D)} {f : α → DV} {g : γ → α → Bool} (hF : ∀ c d, F c = F d → c = d) (hf : ∀ a b, f a = f b → a = b) (c : γ) (a : α) (y : DV) : (csp F f g (F c)).post [f a] y ↔ y = .d (.bool (g c a)) := by
  constructor
  · rintro ⟨c', a', h1, h2, rfl⟩
    rw [hF _ _ h1, hf a a' (by simpa using h2)]
  · rintro rfl
    exact ⟨c, a, rfl, rfl, rfl⟩
theorem csp_holds {γ α : Type} {F : γ → List (List D)} {f : α → DV} {g : γ → α → Bool} (hF : ∀ c d, F c = F d → c = d) (hf : ∀ a b, f a = f b → a = b) (c : γ) (a : α) : (csp F f g (F c)).holds (f a) = g c a := by
  unfold FSpec.holds
  cases hg : g c a with
  | true => exact @decide_eq_true _ (Classical.propDecidable _) ((csp_post hF hf c a _).2 (by rw [hg]))
  | false => exact @decide_eq_false _ (Classical.propDecidable _) (fun h => by have := (csp_post hF hf c a _).1 h; simp [hg] at this)
theorem csp_det {γ α : Type} {F : γ → List (List D)} {f : α → DV} {g : γ → α → Bool} (hF : ∀ c d, F c = F d → c = d) (hf : ∀ a b, f a = f b → a = b) (c : γ) (a : α) : (csp F f g (F c)).det (f a) :=
  ⟨⟨c, a, rfl, rfl⟩, fun y => by rw [csp_holds hF hf]; exact csp_post hF hf c a y⟩
/-- Nothing captured. -/
def F0 (_ : Unit) : List (List D) := []
theorem F0_inj : ∀ c d, F0 c = F0 d → c = d := fun _ _ _ => rfl
abbrev AV.u8 (c : Int) : AV := .dv (.d (.int .u8 c))
def u8D (c : Int) : DV := .d (.int .u8 c)
theorem u8D_inj : ∀ a b, u8D a = u8D b → a = b := fun a b h => by simpa [u8D] using h
def intD (c : Int) : DV := .d (.int .i64 c)
theorem intD_inj : ∀ a b, intD a = intD b → a = b := fun a b h => by simpa [intD] using h
def strD (c : ByteArray) : DV := .d (.str c)
theorem strD_inj : ∀ a b, strD a = strD b → a = b := fun a b h => by simpa [strD] using h
theorem ag_inj {α : Type} {row : α → List D} (h : ∀ x y, row x = row y → x = y) : ∀ a b, DV.ag (row a) = DV.ag (row b) → a = b := fun a b e => h a b (by simpa using e)

theorem AllR_sw (x : AV) (p : Prop) (k : AV → Prop) : AllR (fun r => r = x ∧ p) k = (p → k x) := propext ⟨fun h hp => h x ⟨rfl, hp⟩, fun h r ⟨e, hp⟩ => e ▸ h hp⟩
theorem AllR_sw' (x : AV) (p : Prop) (k : AV → Prop) : AllR (fun r => r = x ∧ p) k = (p → k x) := AllR_sw x p k
attribute [go_sem] AllR_sw
attribute [go_sem ↓] AllR_sw'
theorem FSpec.det.post {sp : FSpec} {x : DV} (h : sp.det x) (y : DV) : sp.post [x] y = (y = .d (.bool (sp.holds x))) := propext (h.2 y)
theorem FSpec.det.pre {sp : FSpec} {x : DV} (h : sp.det x) : sp.pre [x] = True := eq_true h.1

/-! ### Keys -/
def inB (n lo hi : Int) : Bool := decide (lo ≤ n ∧ n ≤ hi)
def inS  : Spec where
  pre xs := ∃ (n : Int) (lo : Int) (hi : Int), xs = [.i n, .i lo, .i hi]
  post xs y := ∃ (n : Int) (lo : Int) (hi : Int), xs = [.i n, .i lo, .i hi] ∧ y = .b (inB n lo hi)
  cost _ := 0
  fresh := true
theorem inS_c  (xs : List AV) : (inS).cost xs = 0 := nr rfl
theorem inS_f  : (inS).fresh = true := nr rfl
theorem inS_q  (n : Int) (lo : Int) (hi : Int) : (inS).pre [.i n, .i lo, .i hi] = (True) := propext ⟨fun h => by
  have h' : ∃ (n' : Int) (lo' : Int) (hi' : Int), ([.i n, .i lo, .i hi] : List AV) = [.i n', .i lo', .i hi'] := h
  obtain ⟨n', lo', hi', e⟩ := h'
  simp only [List.cons.injEq, AV.dv.injEq, AV.fv.injEq, DV.d.injEq, DV.ag.injEq, D.int.injEq, D.str.injEq, D.bool.injEq, D.sl.injEq, true_and, and_true, intsDi_inj, rowsT_inj, rowsKi_inj] at e
  obtain ⟨rfl, rfl, rfl⟩ := e
  exact trivial, fun h => ⟨n, lo, hi, rfl⟩⟩
theorem inS_p  (n : Int) (lo : Int) (hi : Int) : (inS).post [.i n, .i lo, .i hi] = fun y => y = .b (inB n lo hi) := funext fun y => propext ⟨fun h => by
  have h' : ∃ (n' : Int) (lo' : Int) (hi' : Int), ([.i n, .i lo, .i hi] : List AV) = [.i n', .i lo', .i hi'] ∧ y = .b (inB n' lo' hi') := h
  obtain ⟨n', lo', hi', e, h⟩ := h'
  simp only [List.cons.injEq, AV.dv.injEq, AV.fv.injEq, DV.d.injEq, DV.ag.injEq, D.int.injEq, D.str.injEq, D.bool.injEq, D.sl.injEq, true_and, and_true, intsDi_inj, rowsT_inj, rowsKi_inj] at e
  obtain ⟨rfl, rfl, rfl⟩ := e
  exact h, fun h => ⟨n, lo, hi, rfl, h⟩⟩
def smallC (c : Int) : Bool := decide (97 ≤ c ∧ c ≤ 122)
def digitC (c : Int) : Bool := decide (48 ≤ c ∧ c ≤ 57)
def capitalC (c : Int) : Bool := decide (65 ≤ c ∧ c ≤ 90)
def keyC (c : Int) : Bool := smallC c || digitC c || (c == 45) || (c == 95)
def keyB (s : ByteArray) : Bool := inB s.size 1 40 && smallC (bt s 0) && (bl s).all keyC
def byteS (p : Int → Bool) : Spec where
  pre xs := ∃ (c : Int), xs = [.u8 c]
  post xs y := ∃ (c : Int), xs = [.u8 c] ∧ y = .b (p c)
  cost _ := 0
  fresh := true
theorem byteS_c (p : Int → Bool) (xs : List AV) : (byteS p).cost xs = 0 := nr rfl
theorem byteS_f (p : Int → Bool) : (byteS p).fresh = true := nr rfl
theorem byteS_q (p : Int → Bool) (c : Int) : (byteS p).pre [.u8 c] = (True) := propext ⟨fun h => by
  have h' : ∃ (c' : Int), ([.u8 c] : List AV) = [.u8 c'] := h
  obtain ⟨c', e⟩ := h'
  simp only [List.cons.injEq, AV.dv.injEq, AV.fv.injEq, DV.d.injEq, DV.ag.injEq, D.int.injEq, D.str.injEq, D.bool.injEq, D.sl.injEq, true_and, and_true, intsDi_inj, rowsT_inj, rowsKi_inj] at e
  obtain rfl := e
  exact trivial, fun h => ⟨c, rfl⟩⟩
theorem byteS_p (p : Int → Bool) (c : Int) : (byteS p).post [.u8 c] = fun y => y = .b (p c) := funext fun y => propext ⟨fun h => by
  have h' : ∃ (c' : Int), ([.u8 c] : List AV) = [.u8 c'] ∧ y = .b (p c') := h
  obtain ⟨c', e, h⟩ := h'
  simp only [List.cons.injEq, AV.dv.injEq, AV.fv.injEq, DV.d.injEq, DV.ag.injEq, D.int.injEq, D.str.injEq, D.bool.injEq, D.sl.injEq, true_and, and_true, intsDi_inj, rowsT_inj, rowsKi_inj] at e
  obtain rfl := e
  exact h, fun h => ⟨c, rfl, h⟩⟩
theorem pwithin_ctr {cx : Cx} (h : Seat cx) : Ctr cx 95 inS := by
  refine ctr_of (fn := Tryz.f95) (l := [.tmp 6]) (envL []) [0, 1, 2, 6] [] [] (env0 h.hP) ?_ (by rw [h.hP]; exact Tryz.func95) rfl (by kernel_rfl) rfl ?_ ?_
  · rw [h.hP]; exact ⟨_, Tryz.func95, by kernel_rfl, by kernel_rfl⟩
  · rintro xs ⟨n, lo, hi, rfl⟩; exact ⟨_, n, lo, hi, rfl, rfl⟩
  · rintro xs ⟨n, lo, hi, rfl⟩
    refine ⟨by rw [Tryz.ntmps95]; simp, ?_⟩
    simp only [go_sem, h.hP, inS_q, inS_p, inS_c, inS_f, Tryz.ntmps95, Nat.reduceEqDiff, reduceCtorEq, Nat.reduceMul, Nat.reduceAdd, Nat.reduceSub, Nat.reduceDiv, Nat.reduceMod, Nat.reduceLeDiff, Nat.reduceLT, Nat.reduceBNe, Nat.reduceBEq, reduceIte, Int.reduceLE, Int.reduceLT, Int.reduceToNat, Int.reduceNeg, Int.reduceAdd, Int.reduceSub, Int.reduceMul, Int.reduceEq]
    unfold inB
    exact ⟨fun c => by simp [c], fun c => by simp [c]⟩
theorem in_ctr {cx : Cx} (h : Seat cx) : Ctr cx 53 inS := by
  refine ctr_of (fn := Tryz.f53) (l := [.tmp 6]) (envL []) [0, 1, 2, 6] [] [] (env0 h.hP) ?_ (by rw [h.hP]; exact Tryz.func53) rfl (by kernel_rfl) rfl ?_ ?_
  · rw [h.hP]; exact ⟨_, Tryz.func53, by kernel_rfl, by kernel_rfl⟩
  · rintro xs ⟨n, lo, hi, rfl⟩; exact ⟨_, n, lo, hi, rfl, rfl⟩
  · rintro xs ⟨n, lo, hi, rfl⟩
    refine ⟨by rw [Tryz.ntmps53]; simp, ?_⟩
    simp only [go_sem, h.hP, inS_q, inS_p, inS_c, inS_f, Tryz.ntmps53, Nat.reduceEqDiff, reduceCtorEq, Nat.reduceMul, Nat.reduceAdd, Nat.reduceSub, Nat.reduceDiv, Nat.reduceMod, Nat.reduceLeDiff, Nat.reduceLT, Nat.reduceBNe, Nat.reduceBEq, reduceIte, Int.reduceLE, Int.reduceLT, Int.reduceToNat, Int.reduceNeg, Int.reduceAdd, Int.reduceSub, Int.reduceMul, Int.reduceEq]
    unfold inB
    exact ⟨fun c => by simp [c], fun c => by simp [c]⟩
theorem small_ctr {cx : Cx} (h : Seat cx) : Ctr cx 96 (byteS smallC) := by
  refine ctr_of (fn := Tryz.f96) (l := [.tmp 2]) (envL []) [0, 2] [] [] (env0 h.hP) ?_ (by rw [h.hP]; exact Tryz.func96) rfl (by kernel_rfl) rfl ?_ ?_
  · rw [h.hP]; exact ⟨_, Tryz.func96, by kernel_rfl, by kernel_rfl⟩
  · rintro xs ⟨c, rfl⟩; exact ⟨_, c, rfl, rfl⟩
  · rintro xs ⟨c, rfl⟩
    refine ⟨by rw [Tryz.ntmps96]; simp, ?_⟩
    simp only [go_sem, h.hP, byteS_q, byteS_p, byteS_c, byteS_f, Tryz.ntmps96, Nat.reduceEqDiff, reduceCtorEq, Nat.reduceMul, Nat.reduceAdd, Nat.reduceSub, Nat.reduceDiv, Nat.reduceMod, Nat.reduceLeDiff, Nat.reduceLT, Nat.reduceBNe, Nat.reduceBEq, reduceIte, Int.reduceLE, Int.reduceLT, Int.reduceToNat, Int.reduceNeg, Int.reduceAdd, Int.reduceSub, Int.reduceMul, Int.reduceEq]
    unfold smallC
    exact ⟨fun c => by simp [c], fun c => by simp [c]⟩
theorem digit_ctr {cx : Cx} (h : Seat cx) : Ctr cx 99 (byteS digitC) := by
  refine ctr_of (fn := Tryz.f99) (l := [.tmp 2]) (envL []) [0, 2] [] [] (env0 h.hP) ?_ (by rw [h.hP]; exact Tryz.func99) rfl (by kernel_rfl) rfl ?_ ?_
  · rw [h.hP]; exact ⟨_, Tryz.func99, by kernel_rfl, by kernel_rfl⟩
  · rintro xs ⟨c, rfl⟩; exact ⟨_, c, rfl, rfl⟩
  · rintro xs ⟨c, rfl⟩
    refine ⟨by rw [Tryz.ntmps99]; simp, ?_⟩
    simp only [go_sem, h.hP, byteS_q, byteS_p, byteS_c, byteS_f, Tryz.ntmps99, Nat.reduceEqDiff, reduceCtorEq, Nat.reduceMul, Nat.reduceAdd, Nat.reduceSub, Nat.reduceDiv, Nat.reduceMod, Nat.reduceLeDiff, Nat.reduceLT, Nat.reduceBNe, Nat.reduceBEq, reduceIte, Int.reduceLE, Int.reduceLT, Int.reduceToNat, Int.reduceNeg, Int.reduceAdd, Int.reduceSub, Int.reduceMul, Int.reduceEq]
    unfold digitC
    exact ⟨fun c => by simp [c], fun c => by simp [c]⟩
theorem all_bt (s : ByteArray) (p : Int → Bool) : ((bl s).all p = true) = ∀ j : Nat, (j : Int) < s.size → p (bt s j) = true := by
  apply propext
  rw [List.all_eq_true]
  constructor
  · intro h j hj
    rw [bt_at, List.getD_eq_getElem?_getD, List.getElem?_eq_getElem (by rw [bl_length]; omega)]
    exact h _ (List.getElem_mem _)
  · intro h x hx
    obtain ⟨j, hj, rfl⟩ := List.mem_iff_getElem.1 hx
    have := h j (by rw [bl_length] at hj; omega)
    rwa [bt_at, List.getD_eq_getElem?_getD, List.getElem?_eq_getElem hj] at this
theorem all_bt_no {s : ByteArray} {p : Int → Bool} {i : Int} (h0 : 0 ≤ i) (h1 : i < s.size) (h : p (bt s i) = false) : (bl s).all p = false := by
  cases e : (bl s).all p with
  | false => rfl
  | true =>
    rw [all_bt] at e
    have := e i.toNat (by omega)
    rw [Int.toNat_of_nonneg h0, h] at this
    cases this
/-- all of a string's bytes -/
def allS : Spec where
  pre xs := ∃ (s : ByteArray) (sp : FSpec), xs = [.str s, .fv sp] ∧ (∀ c : Int, 0 ≤ c → c ≤ 255 → sp.det (.d (.int .u8 c))) ∧ s.size ≤ 4611686018427387904
  post xs r := ∃ (s : ByteArray) (sp : FSpec), xs = [.str s, .fv sp] ∧ r = .b ((bl s).all fun c => sp.holds (.d (.int .u8 c)))
  cost _ := 0
  fresh := true
theorem all_ctr {cx : Cx} (h : Seat cx) : Ctr cx 97 allS := by
  refine ctr_of (fn := Tryz.f97) (l := [.tmp 4]) (envL []) [0, 1, 4, 5, 7, 8, 9, 16] [] [] (env0 h.hP) ?_ (by rw [h.hP]; exact Tryz.func97) rfl (by kernel_rfl) rfl ?_ ?_
  · rw [h.hP]; exact ⟨_, Tryz.func97, by kernel_rfl, by kernel_rfl⟩
  · rintro xs ⟨s, sp, rfl, h1, h2⟩; exact ⟨_, s, sp, rfl, rfl⟩
  · rintro xs ⟨s, sp, rfl, h1, h2⟩
    refine ⟨by rw [Tryz.ntmps97]; simp, ?_⟩
    simp only [go_sem, h.hP, allS, Tryz.ntmps97, Nat.reduceEqDiff, reduceCtorEq, Nat.reduceMul, Nat.reduceAdd, Nat.reduceSub, Nat.reduceDiv, Nat.reduceMod, Nat.reduceLeDiff, Nat.reduceLT, Nat.reduceBNe, Nat.reduceBEq, reduceIte, Int.reduceLE, Int.reduceLT, Int.reduceToNat, Int.reduceNeg, Int.reduceAdd, Int.reduceSub, Int.reduceMul, Int.reduceEq]
    have hd : ∀ i, sp.det (.d (.int .u8 (bt s i))) := fun i => h1 _ (bt_range s i).1 (bt_range s i).2
    refine vc_loopS (Int) (fun (i : Int) => [(8, .i i)]) [] (fun (i : Int) => []) (fun (i : Int) => []) (fun (i : Int) => 0) (fun (i : Int) => 0 ≤ i ∧ i ≤ s.size ∧ ∀ j : Nat, (j : Int) < i → sp.holds (.d (.int .u8 (bt s j))) = true) (fun (i : Int) => (s.size - i).toNat) [] ?_ ?_
    · simp only [go_sem, h.hP, List.cons_append, List.nil_append, Meets_e, Below_e, Prod.exists, exists_eq, exists_eq_left, exists_eq_left', exists_eq_right, exists_eq_right', exists_and_left, exists_and_right, Ob.arr.injEq, AV.own.injEq, AV.fv.injEq, Tryz.ntmps97, Nat.reduceEqDiff, reduceCtorEq, Nat.reduceMul, Nat.reduceAdd, Nat.reduceSub, Nat.reduceDiv, Nat.reduceMod, Nat.reduceLeDiff, Nat.reduceLT, Nat.reduceBNe, Nat.reduceBEq, reduceIte, Int.reduceLE, Int.reduceLT, Int.reduceToNat, Int.reduceNeg, Int.reduceAdd, Int.reduceSub, Int.reduceMul, Int.reduceEq]
      exact ⟨Int.natCast_nonneg _, fun j hj => by omega⟩
    · rintro i ⟨j1, j2, j3⟩
      simp only [go_sem, h.hP, List.cons_append, List.nil_append, Meets_e, Below_e, Prod.exists, exists_eq, exists_eq_left, exists_eq_left', exists_eq_right, exists_eq_right', exists_and_left, exists_and_right, Ob.arr.injEq, AV.own.injEq, AV.fv.injEq, allS, fun i => (hd i).pre, fun i => (hd i).post, Tryz.ntmps97, Nat.reduceEqDiff, reduceCtorEq, Nat.reduceMul, Nat.reduceAdd, Nat.reduceSub, Nat.reduceDiv, Nat.reduceMod, Nat.reduceLeDiff, Nat.reduceLT, Nat.reduceBNe, Nat.reduceBEq, reduceIte, Int.reduceLE, Int.reduceLT, Int.reduceToNat, Int.reduceNeg, Int.reduceAdd, Int.reduceSub, Int.reduceMul, Int.reduceEq]
      have hw : i < s.size → IntKind.i64.wrap (i + 1) = i + 1 := fun h => i64w (by omega) (by omega)
      refine ⟨fun c => ⟨j1, c, fun hf => (all_bt_no j1 c hf).symm, fun ht => ?_⟩, fun c => ?_⟩
      · rw [hw c]
        refine ⟨by omega, by omega, fun j hj => ?_, by omega⟩
        by_cases e : (j : Int) = i
        · rw [e]; exact ht
        · exact j3 j (by omega)
      · have := all_bt s fun c => sp.holds (.d (.int .u8 c))
        exact (this.mpr fun j hj => j3 j (by omega)).symm
/-- IsKey -/
def keyΦ : List (List D) → FSpec := csp F0 u8D fun _ c => keyC c
theorem keyΦ_h (c : Int) : (keyΦ []).holds (.d (.int .u8 c)) = keyC c := csp_holds F0_inj u8D_inj () c
theorem keyΦ_d (c : Int) : (keyΦ []).det (.d (.int .u8 c)) := csp_det F0_inj u8D_inj () c
theorem IsKey1_ctr {cx : Cx} (h : Seat cx) : Ctr cx 98 (cloS F0 u8D fun _ c => keyC c) := by
  refine ctr_of (fn := Tryz.f98) (l := [.tmp 2]) (envL [(96, (byteS smallC)), (99, (byteS digitC))]) [0, 2] [] [] (envL_cons (small_ctr h) (envL_cons (digit_ctr h) (env0 h.hP))) ?_ (by rw [h.hP]; exact Tryz.func98) rfl (by kernel_rfl) rfl ?_ ?_
  · rw [h.hP]; exact ⟨_, Tryz.func98, by kernel_rfl, by kernel_rfl⟩
  · rintro xs ⟨c, a, rfl⟩; exact ⟨_, c, a, rfl, rfl⟩
  · rintro xs ⟨c, a, rfl⟩
    refine ⟨by rw [Tryz.ntmps98]; simp [F0], ?_⟩
    simp only [go_sem, h.hP, byteS_q, byteS_p, byteS_c, byteS_f, F0, u8D, cloS, Tryz.ntmps98, Nat.reduceEqDiff, reduceCtorEq, Nat.reduceMul, Nat.reduceAdd, Nat.reduceSub, Nat.reduceDiv, Nat.reduceMod, Nat.reduceLeDiff, Nat.reduceLT, Nat.reduceBNe, Nat.reduceBEq, reduceIte, Int.reduceLE, Int.reduceLT, Int.reduceToNat, Int.reduceNeg, Int.reduceAdd, Int.reduceSub, Int.reduceMul, Int.reduceEq]
    grind [keyC]
def strB (p : ByteArray → Bool) : Spec where
  pre xs := ∃ (s : ByteArray), xs = [.str s] ∧ (s.size ≤ 4611686018427387904)
  post xs y := ∃ (s : ByteArray), xs = [.str s] ∧ y = .b (p s)
  cost _ := 0
  fresh := true
theorem strB_c (p : ByteArray → Bool) (xs : List AV) : (strB p).cost xs = 0 := nr rfl
theorem strB_f (p : ByteArray → Bool) : (strB p).fresh = true := nr rfl
theorem strB_q (p : ByteArray → Bool) (s : ByteArray) : (strB p).pre [.str s] = (s.size ≤ 4611686018427387904) := propext ⟨fun h => by
  have h' : ∃ (s' : ByteArray), ([.str s] : List AV) = [.str s'] ∧ (s'.size ≤ 4611686018427387904) := h
  obtain ⟨s', e, h⟩ := h'
  simp only [List.cons.injEq, AV.dv.injEq, AV.fv.injEq, DV.d.injEq, DV.ag.injEq, D.int.injEq, D.str.injEq, D.bool.injEq, D.sl.injEq, true_and, and_true, intsDi_inj, rowsT_inj, rowsKi_inj] at e
  obtain rfl := e
  exact h, fun h => ⟨s, rfl, h⟩⟩
theorem strB_p (p : ByteArray → Bool) (s : ByteArray) : (strB p).post [.str s] = fun y => y = .b (p s) := funext fun y => propext ⟨fun h => by
  have h' : ∃ (s' : ByteArray), ([.str s] : List AV) = [.str s'] ∧ y = .b (p s') := h
  obtain ⟨s', e, h⟩ := h'
  simp only [List.cons.injEq, AV.dv.injEq, AV.fv.injEq, DV.d.injEq, DV.ag.injEq, D.int.injEq, D.str.injEq, D.bool.injEq, D.sl.injEq, true_and, and_true, intsDi_inj, rowsT_inj, rowsKi_inj] at e
  obtain rfl := e
  exact h, fun h => ⟨s, rfl, h⟩⟩
theorem IsKey_ctr {cx : Cx} (h : Seat cx) : Ctr cx 54 (strB keyB) := by
  refine ctr_of (fn := Tryz.f54) (l := [.tmp 2]) (envF [(96, (byteS smallC)), (95, inS), (97, allS)] [(98, keyΦ)]) [0, 2] [] [] (envF_cons (clo_of (IsKey1_ctr h)) (envF_nil (envL_cons (small_ctr h) (envL_cons (pwithin_ctr h) (envL_cons (all_ctr h) (env0 h.hP)))))) ?_ (by rw [h.hP]; exact Tryz.func54) rfl (by kernel_rfl) rfl ?_ ?_
  · rw [h.hP]; exact ⟨_, Tryz.func54, by kernel_rfl, by kernel_rfl⟩
  · rintro xs ⟨s, rfl, hs⟩; exact ⟨_, s, rfl, rfl⟩
  · rintro xs ⟨s, rfl, hs⟩
    refine ⟨by rw [Tryz.ntmps54]; simp, ?_⟩
    simp only [go_sem, h.hP, List.cons_append, List.nil_append, Meets_e, Below_e, Prod.exists, exists_eq, exists_eq_left, exists_eq_left', exists_eq_right, exists_eq_right', exists_and_left, exists_and_right, Ob.arr.injEq, AV.own.injEq, AV.fv.injEq, byteS_q, byteS_p, byteS_c, byteS_f, strB_q, strB_p, strB_c, strB_f, inS_q, inS_p, inS_c, inS_f, allS, keyΦ_h, keyΦ_d, Tryz.ntmps54, Nat.reduceEqDiff, reduceCtorEq, Nat.reduceMul, Nat.reduceAdd, Nat.reduceSub, Nat.reduceDiv, Nat.reduceMod, Nat.reduceLeDiff, Nat.reduceLT, Nat.reduceBNe, Nat.reduceBEq, reduceIte, Int.reduceLE, Int.reduceLT, Int.reduceToNat, Int.reduceNeg, Int.reduceAdd, Int.reduceSub, Int.reduceMul, Int.reduceEq]
    grind [keyB, inB]
end Go.Avc

/- A slice of numbers that is handed in: it reads as numbers; it reads so still in a world of which all that was there is left. No condition. -/
set_option linter.unusedVariables false
namespace Go.Avc
open Go Go.Proofs Go.ChangeShapes Go.ChangeMaps

theorem cell_spot' {w : World} {a : Addr} {v : Value} (h : w.cell? a = some v) : a.spot = none := by
  obtain ⟨b, o, s⟩ := a
  cases s with
  | none => rfl
  | some x =>
    unfold World.cell? at h
    split at h <;> simp at h
section
variable {H : Type} {enc : TypeId × Value → H} {P : Program} {W : World}
theorem open_nums {t e : TypeId} {r : Reach} {b0 : Nat} {v : Value} {d : DataW H} {ps : List MemPlace} (ht : P.underlying t = some (.slice e)) (he : P.underlying e = some (.int .i64)) (hc : P.cellsOf e = 1)
    (hval : Value.okWide P W r b0 t v) (hd : DataW.Trod enc P W 0 (fun _ => true) true t v d ps) :
    ∃ (A : Option Addr) (L : List Int) (cp : Nat), v = .slice A L.length cp ∧ Rd (fun k => k < W.heap.size) W (.sl (intRows L)) v ∧
      ∀ W', RowKit.Below W.heap.size W W' → ∀ sp : Nat → Bool, (∀ p ∈ ps, sp p.block = true) → DataW.Trod enc P W' 0 sp true t v d ps := by
  obtain ⟨a0, len0, cap0, rfl⟩ := Go.WideShapes.okWide_slice ht hval
  obtain ⟨fuel, hf⟩ := hd
  rcases open_ints ht he hc hf with ⟨h1, h2⟩ | ⟨a, len, cap, zs, h1, hb, hl, hm, hz, hx, hcell, hw⟩
  · have h1' : [Value.slice a0 len0 cap0] = [Value.slice none 0 0] := h1
    simp only [List.cons.injEq, Value.slice.injEq, and_true] at h1'
    obtain ⟨rfl, rfl, rfl⟩ := h1'
    cases h2
    refine ⟨none, [], 0, rfl, .nil none 0, fun W' _ sp _ => ⟨1, ?_⟩⟩
    simp [DataW.trod, Value.cells, ht]
  · have h1' : [Value.slice a0 len0 cap0] = [Value.slice (some a) len cap] := h1
    simp only [List.cons.injEq, Value.slice.injEq, and_true] at h1'
    obtain ⟨rfl, rfl, rfl⟩ := h1'
    simp only [if_true] at hz
    cases hx
    have hin : ∀ i, i < zs.length → a.block < W.heap.size := fun i hi => by
      have := hcell i hi
      by_cases h : a.block < W.heap.size
      · exact h
      · have e : W.heap[(a.add i).block]? = none := by
          rw [Array.getElem?_eq_none]
          rw [block_add]
          omega
        unfold World.cell? at this
        rw [e] at this
        cases this
    refine ⟨some a, zs.take len0, cap0, by rw [List.length_take, Nat.min_eq_left (by omega)], ?_, fun W' hW sp hsp => ⟨2, ?_⟩⟩
    · have hlen : (zs.take len0).length = len0 := by rw [List.length_take, Nat.min_eq_left (by omega)]
      by_cases h0 : len0 = 0
      · subst h0
        rw [List.take_zero]
        exact .nil (some a) cap0
      · have hs : a.spot = none := cell_spot' (a := a.add 0) (hcell 0 (by omega))
        obtain ⟨b, o, s⟩ := a
        have hs' : s = none := hs
        subst hs'
        have hr : Rd (fun k => k < W.heap.size) W (.sl (intRows (zs.take len0))) (.slice (some ⟨b, o, none⟩) (intRows (zs.take len0)).length cap0) := by
          refine .sl (intRows (zs.take len0)) 1 b o cap0 (fun i _ => .int .i64 (zs.getD i 0)) ?_ (hin 0 (by omega)) (hin 0 (by omega)) ?_ ?_ ?_
          · unfold intRows
            rw [List.length_map, hlen]
            exact hl
          · intro i x hx
            unfold intRows at hx
            rw [List.getElem?_map] at hx
            obtain ⟨y, _, rfl⟩ := Option.map_eq_some_iff.1 hx
            rfl
          · intro i x hx j y hy
            unfold intRows at hx
            rw [List.getElem?_map] at hx
            obtain ⟨n, hn, rfl⟩ := Option.map_eq_some_iff.1 hx
            have hi : i < len0 := by
              have := (List.getElem?_eq_some_iff.1 hn).1
              omega
            cases j with
            | zero =>
              have := hcell i (by omega)
              rw [Go.WideShapes.add_plain] at this
              rw [Nat.mul_one, Nat.add_zero]
              exact this
            | succ j => simp at hy
          · intro i x hx j y hy
            unfold intRows at hx
            rw [List.getElem?_map] at hx
            obtain ⟨n, hn, rfl⟩ := Option.map_eq_some_iff.1 hx
            have hi : i < len0 := by
              have := (List.getElem?_eq_some_iff.1 hn).1
              omega
            cases j with
            | zero =>
              have hy' : D.int .i64 n = y := Option.some.inj hy
              subst hy'
              have hn' : zs.getD i 0 = n := by
                rw [List.getElem?_take, if_pos hi] at hn
                rw [List.getD_eq_getElem?_getD, hn]
                rfl
              show Rd _ _ _ (Value.int .i64 (zs.getD i 0))
              rw [hn']
              exact .int _ _
            | succ j => simp at hy
        have hl' : (intRows (zs.take len0)).length = len0 := by unfold intRows; rw [List.length_map, hlen]
        rw [hl'] at hr
        exact hr
    · refine shut_ints 0 ht he hc hb hl hm ?_ (fun i hi => ?_) hw
      · by_cases h0 : cap0 = 0
        · have : len0 = 0 := by omega
          subst h0
          subst this
          rw [hz]
          split <;> rfl
        · have := hsp (.cell a.block (a.off + 0)) (List.mem_map.2 ⟨0, List.mem_range.2 (by omega), rfl⟩)
          have e : sp a.block = true := this
          rw [if_pos e, hz]
      · rw [hW.cell (by rw [block_add]; exact hin i hi)]
        exact hcell i hi
end

section
open Go.RowKit Go.WideShapes
variable {H : Type} {enc : TypeId × Value → H} {P : Program}
theorem post_of_below {f : Func} {s : ChangeSpec} {apart fresh handsOn again : Bool} {W W' : World} {args : Array Value} {v : Value} {ds gs : List (DataW H)} {before pa pv : List MemPlace}
    (hW : DataW.Whole enc P f.params.toList s.vars apart W args.toList ds gs before)
    (hres : ∀ (b : Nat) (sp : Nat → Bool) (hd : Bool), DataW.TrodAll enc P W' b sp hd f.resultTypes.toList (v.resultList f.resultTypes.size) (s.fn H (ds ++ gs)).results [])
    (hargs : ∀ sp : Nat → Bool, (∀ p ∈ before, sp p.block = true) → DataW.TrodAll enc P W' 0 sp true f.params.toList args.toList (s.fn H (ds ++ gs)).args pa)
    (hvars : ∀ sp : Nat → Bool, (∀ p ∈ before, sp p.block = true) → DataW.TrodVars enc P W' sp s.vars (s.fn H (ds ++ gs)).vars pv)
    (hps : before = pa ++ pv) (hb : RowKit.Below W.heap.size W W')
    (hok : ∀ (j : Nat) (t : TypeId) (r : Value), f.resultTypes[j]? = some t → (v.resultList f.resultTypes.size)[j]? = some r → Value.okWide P W' .any 0 t r) :
    s.post enc P f apart fresh handsOn again W args v W' := by
  have hlt : ∀ p ∈ before, p.block < W.heap.size := fun p hp => hW.lt p hp
  have hold : ∀ p ∈ before, (fun b => decide (b < W.heap.size)) p.block = true := fun p hp => by simpa using hlt p hp
  refine ⟨ds, gs, before, [], pa, pv, hW, hres _ _ _, hargs _ hold, hvars _ hold, World.keptBut_mono (fun p hp => ⟨hp, ?_⟩) (hb.frame (· ∈ before)), fun _ => ?_⟩
  · rw [hps, List.mem_append] at hp
    exact Or.inr hp
  · obtain ⟨_, _, _, _, _, hz, hn⟩ := hW
    refine ⟨hok, _, _, ([] ++ pa) ++ pv, ⟨[] ++ pa, pv, trodAll_append (hargs _ (fun _ _ => rfl)) (hres _ _ _), hvars _ (fun _ _ => rfl), rfl, ?_, ?_⟩, ?_⟩
    · intro b off hp
      have hin : MemPlace.cell b off ∈ before := by rw [hps]; simpa using hp
      rw [hb.frozen (hlt _ hin)]
      exact hz b off hin
    · intro ha
      have := hn ha
      rw [hps] at this
      simpa using this
    · intro p hp _
      rw [hps]
      simpa using hp
end
end Go.Avc

/- Small functions of the sending rules: their contracts. No condition. -/
set_option linter.unusedVariables false
set_option linter.unusedSimpArgs false
set_option maxRecDepth 100000
namespace Go.Avc
open Go Go.Proofs

theorem rowsK_inj' {l m : List Int} : intsD l = intsD m ↔ l = m := by
  refine ⟨fun h => ?_, fun h => by rw [h]⟩
  have e : ∀ l : List Int, numsOf (intsD l) = l := fun l => by
    unfold numsOf intsD
    rw [List.map_map]
    induction l with
    | nil => rfl
    | cons x r ih => simp [ih]
  rw [← e l, ← e m, h]
def chanS  : Spec where
  pre xs := ∃ (n : Int), xs = [.i n]
  post xs y := ∃ (n : Int), xs = [.i n] ∧ y = .b (inB n 1 4)
  cost _ := 0
  fresh := true
theorem chanS_c  (xs : List AV) : (chanS).cost xs = 0 := nr rfl
theorem chanS_f  : (chanS).fresh = true := nr rfl
theorem chanS_q  (n : Int) : (chanS).pre [.i n] = (True) := propext ⟨fun h => by
  have h' : ∃ (n' : Int), ([.i n] : List AV) = [.i n'] := h
  obtain ⟨n', e⟩ := h'
  simp only [List.cons.injEq, AV.dv.injEq, AV.fv.injEq, DV.d.injEq, DV.ag.injEq, D.int.injEq, D.str.injEq, D.bool.injEq, D.sl.injEq, true_and, and_true, intsDi_inj, rowsT_inj, rowsKi_inj] at e
  obtain rfl := e
  exact trivial, fun h => ⟨n, rfl⟩⟩
theorem chanS_p  (n : Int) : (chanS).post [.i n] = fun y => y = .b (inB n 1 4) := funext fun y => propext ⟨fun h => by
  have h' : ∃ (n' : Int), ([.i n] : List AV) = [.i n'] ∧ y = .b (inB n' 1 4) := h
  obtain ⟨n', e, h⟩ := h'
  simp only [List.cons.injEq, AV.dv.injEq, AV.fv.injEq, DV.d.injEq, DV.ag.injEq, D.int.injEq, D.str.injEq, D.bool.injEq, D.sl.injEq, true_and, and_true, intsDi_inj, rowsT_inj, rowsKi_inj] at e
  obtain rfl := e
  exact h, fun h => ⟨n, rfl, h⟩⟩
def kindL : List Int := [0, 1, 2, 4, 3]
def kindS  : Spec where
  pre xs := ∃ (n : Int), xs = [.i n] ∧ (0 ≤ n ∧ n ≤ 4)
  post xs y := ∃ (n : Int), xs = [.i n] ∧ y = .i (kindL.getD n.toNat 0)
  cost _ := 0
  fresh := true
theorem kindS_c  (xs : List AV) : (kindS).cost xs = 0 := nr rfl
theorem kindS_f  : (kindS).fresh = true := nr rfl
theorem kindS_q  (n : Int) : (kindS).pre [.i n] = (0 ≤ n ∧ n ≤ 4) := propext ⟨fun h => by
  have h' : ∃ (n' : Int), ([.i n] : List AV) = [.i n'] ∧ (0 ≤ n' ∧ n' ≤ 4) := h
  obtain ⟨n', e, h⟩ := h'
  simp only [List.cons.injEq, AV.dv.injEq, AV.fv.injEq, DV.d.injEq, DV.ag.injEq, D.int.injEq, D.str.injEq, D.bool.injEq, D.sl.injEq, true_and, and_true, intsDi_inj, rowsT_inj, rowsKi_inj] at e
  obtain rfl := e
  exact h, fun h => ⟨n, rfl, h⟩⟩
theorem kindS_p  (n : Int) : (kindS).post [.i n] = fun y => y = .i (kindL.getD n.toNat 0) := funext fun y => propext ⟨fun h => by
  have h' : ∃ (n' : Int), ([.i n] : List AV) = [.i n'] ∧ y = .i (kindL.getD n'.toNat 0) := h
  obtain ⟨n', e, h⟩ := h'
  simp only [List.cons.injEq, AV.dv.injEq, AV.fv.injEq, DV.d.injEq, DV.ag.injEq, D.int.injEq, D.str.injEq, D.bool.injEq, D.sl.injEq, true_and, and_true, intsDi_inj, rowsT_inj, rowsKi_inj] at e
  obtain rfl := e
  exact h, fun h => ⟨n, rfl, h⟩⟩
def isKindS : Spec where
  pre xs := ∃ n : Int, xs = [.i n]
  post xs r := ∃ (n k e : Int), xs = [.i n] ∧ (inB n 1 4 = true → k = kindL.getD n.toNat 0 ∧ e = 0) ∧ (inB n 1 4 = false → k = 0 ∧ e = 4) ∧ r = .tcons (.i k) (.tcons (.i e) .tnil)
  cost _ := 0
  fresh := true
def oddS : Spec where
  pre xs := ∃ lo hi : Int, xs = [.st, .i lo, .i hi] ∧ -1073741824 ≤ lo ∧ lo ≤ 1073741823 ∧ -1073741823 ≤ hi ∧ hi ≤ 1073741823
  post xs r := ∃ lo hi q : Int, xs = [.st, .i lo, .i hi] ∧ -1099511627776 ≤ q ∧ q ≤ 1099511627776 ∧ r = .i q
  cost _ := 2
  fresh := true
theorem odd_ctr {cx : Cx} (h : Seat cx) : Ctr cx 47 oddS := by
  refine ctr_of (fn := Tryz.f47) (l := [.tmp 6]) (envL [(45, flipS), (10, pickS), (25, rangeS)]) [0, 1, 2, 6, 8] [] [] (envL_cons (flip_ctr cx h.hP h.hS) (envL_cons (pick_ctr cx h.hP h.hS) (envL_cons (range_ctr cx h.hP h.hS) (env0 h.hP)))) ?_ (by rw [h.hP]; exact Tryz.func47) rfl (by kernel_rfl) rfl ?_ ?_
  · rw [h.hP]; exact ⟨_, Tryz.func47, by kernel_rfl, by kernel_rfl⟩
  · rintro xs ⟨lo, hi, rfl, h1, h2, h3, h4⟩; exact ⟨_, lo, hi, 0, rfl, by omega, by omega, rfl⟩
  · rintro xs ⟨lo, hi, rfl, h1, h2, h3, h4⟩
    refine ⟨by rw [Tryz.ntmps47]; simp, ?_⟩
    simp only [go_sem, h.hP, flipS, pickS, rangeS, oddS, show ∀ a b c d e f : Int, ([[D.int .i64 a], [D.int .i64 b], [D.int .i64 c], [D.int .i64 d], [D.int .i64 e], [D.int .i64 f]] : List (List D)) = intsD [a, b, c, d, e, f] from fun _ _ _ _ _ _ => rfl, (show ∀ l m : List Int, (intsD l = intsD m) = (l = m) from fun l m => propext rowsK_inj'), Tryz.ntmps47, Nat.reduceEqDiff, reduceCtorEq, Nat.reduceMul, Nat.reduceAdd, Nat.reduceSub, Nat.reduceDiv, Nat.reduceMod, Nat.reduceLeDiff, Nat.reduceLT, Nat.reduceBNe, Nat.reduceBEq, reduceIte, Int.reduceLE, Int.reduceLT, Int.reduceToNat, Int.reduceNeg, Int.reduceAdd, Int.reduceSub, Int.reduceMul, Int.reduceEq]
    rw [i64w (n := lo - 1) (by omega) (by omega), i64w (n := hi + 1) (by omega) (by omega)]
    refine fun a => ⟨fun _ x hx => ?_, fun _ => ⟨by omega, by omega, by omega, by omega, fun x a1 a2 a3 => ⟨x, by omega, ?_, rfl⟩⟩⟩
    · unfold isIn at hx
      simp only [List.mem_cons, List.not_mem_nil, or_false] at hx
      exact ⟨x, by omega, by omega, rfl⟩
    · by_cases c : lo ≤ hi
      · have := a2 c; omega
      · have := a3 (by omega); omega
def isOf (x : ByteArray) (l : List ByteArray) : Prop := x ∈ l
def oneS : Spec where
  pre xs := ∃ l : List ByteArray, xs = [.st, .sl (rowsT l)] ∧ l ≠ [] ∧ l.length ≤ 1073741824
  post xs r := ∃ (l : List ByteArray) (x : ByteArray), xs = [.st, .sl (rowsT l)] ∧ isOf x l ∧ r = .str x
  cost _ := 1
  fresh := true
theorem one_ctr {cx : Cx} (h : Seat cx) : Ctr cx 46 oneS := by
  refine ctr_of (fn := Tryz.f46) (l := [.tmp 4]) (envL [(11, nextS)]) [0, 1, 4] [] [] (envL_cons (next_ctr cx h.hP h.hS) (env0 h.hP)) ?_ (by rw [h.hP]; exact Tryz.func46) rfl (by kernel_rfl) rfl ?_ ?_
  · rw [h.hP]; exact ⟨_, Tryz.func46, by kernel_rfl, by kernel_rfl⟩
  · rintro xs ⟨l, rfl, h1, h2⟩
    exact (match l, h1 with | x :: t, _ => ⟨.str x, x :: t, x, rfl, List.mem_cons_self, rfl⟩)
  · rintro xs ⟨l, rfl, h1, h2⟩
    refine ⟨by rw [Tryz.ntmps46]; simp, ?_⟩
    simp only [go_sem, h.hP, nextS, oneS, rowsT_len, rowsT_get, rowsT_inj, Tryz.ntmps46, Nat.reduceEqDiff, reduceCtorEq, Nat.reduceMul, Nat.reduceAdd, Nat.reduceSub, Nat.reduceDiv, Nat.reduceMod, Nat.reduceLeDiff, Nat.reduceLT, Nat.reduceBNe, Nat.reduceBEq, reduceIte, Int.reduceLE, Int.reduceLT, Int.reduceToNat, Int.reduceNeg, Int.reduceAdd, Int.reduceSub, Int.reduceMul, Int.reduceEq]
    have hl := List.length_pos_iff.2 h1
    refine ⟨by omega, fun a e1 _ => ?_⟩
    have ha := e1 (by omega)
    refine ⟨ha.1, ha.2, ?_⟩
    rw [List.getD_eq_getElem?_getD, List.getElem?_eq_getElem (by omega)]
    exact List.getElem_mem _
/-! ### The stream's functions, as equations -/
theorem nextS_q (m : Int) : nextS.pre [.st, .i m] = (m ≤ 9223372036854775807) := propext ⟨fun ⟨m', e, h⟩ => by
  simp only [List.cons.injEq, AV.dv.injEq, DV.d.injEq, D.int.injEq, true_and, and_true] at e; subst e; exact h, fun h => ⟨m, rfl, h⟩⟩
theorem nextS_p (m : Int) : nextS.post [.st, .i m] = fun y => ∃ q : Int, (1 ≤ m → 0 ≤ q ∧ q < m) ∧ (m < 1 → q = 0) ∧ y = .i q := funext fun y => propext ⟨fun ⟨m', q, e, h⟩ => by
  simp only [List.cons.injEq, AV.dv.injEq, DV.d.injEq, D.int.injEq, true_and, and_true] at e; subst e; exact ⟨q, h⟩, fun ⟨q, h⟩ => ⟨m, q, rfl, h⟩⟩
theorem nextS_c (xs : List AV) : nextS.cost xs = 1 := nr rfl
theorem nextS_f : nextS.fresh = true := nr rfl
theorem flipS_q (m : Int) : flipS.pre [.st, .i m] = (m ≤ 9223372036854775807) := propext ⟨fun ⟨m', e, h⟩ => by
  simp only [List.cons.injEq, AV.dv.injEq, DV.d.injEq, D.int.injEq, true_and, and_true] at e; subst e; exact h, fun h => ⟨m, rfl, h⟩⟩
theorem flipS_p (m : Int) : flipS.post [.st, .i m] = fun y => ∃ b : Bool, y = .b b := funext fun y => propext ⟨fun ⟨m', q, e, h⟩ => ⟨q, h⟩, fun ⟨q, h⟩ => ⟨m, q, rfl, h⟩⟩
theorem flipS_c (xs : List AV) : flipS.cost xs = 1 := nr rfl
theorem flipS_f : flipS.fresh = true := nr rfl
theorem pickS_q (l : List Int) : pickS.pre [.st, .sl (intsD l)] = (l ≠ [] ∧ l.length ≤ 1073741824) := propext ⟨fun ⟨m', e, h⟩ => by
  simp only [List.cons.injEq, AV.dv.injEq, DV.d.injEq, D.sl.injEq, intsDi_inj, true_and, and_true] at e; subst e; exact h, fun h => ⟨l, rfl, h⟩⟩
theorem pickS_p (l : List Int) : pickS.post [.st, .sl (intsD l)] = fun y => ∃ x : Int, isIn x l ∧ y = .i x := funext fun y => propext ⟨fun ⟨m', q, e, h⟩ => by
  simp only [List.cons.injEq, AV.dv.injEq, DV.d.injEq, D.sl.injEq, intsDi_inj, true_and, and_true] at e; subst e; exact ⟨q, h⟩, fun ⟨q, h⟩ => ⟨l, q, rfl, h⟩⟩
theorem pickS_c (xs : List AV) : pickS.cost xs = 1 := nr rfl
theorem pickS_f : pickS.fresh = true := nr rfl
theorem oneS_q (l : List ByteArray) : oneS.pre [.st, .sl (rowsT l)] = (l ≠ [] ∧ l.length ≤ 1073741824) := propext ⟨fun ⟨m', e, h⟩ => by
  simp only [List.cons.injEq, AV.dv.injEq, DV.d.injEq, D.sl.injEq, rowsT_inj, true_and, and_true] at e; subst e; exact h, fun h => ⟨l, rfl, h⟩⟩
theorem oneS_p (l : List ByteArray) : oneS.post [.st, .sl (rowsT l)] = fun y => ∃ x : ByteArray, isOf x l ∧ y = .str x := funext fun y => propext ⟨fun ⟨m', q, e, h⟩ => by
  simp only [List.cons.injEq, AV.dv.injEq, DV.d.injEq, D.sl.injEq, rowsT_inj, true_and, and_true] at e; subst e; exact ⟨q, h⟩, fun ⟨q, h⟩ => ⟨l, q, rfl, h⟩⟩
theorem oneS_c (xs : List AV) : oneS.cost xs = 1 := nr rfl
theorem oneS_f : oneS.fresh = true := nr rfl
theorem rangeS_q (lo hi : Int) : rangeS.pre [.st, .i lo, .i hi] = (-1073741824 ≤ lo ∧ lo ≤ 1073741824 ∧ -1073741824 ≤ hi ∧ hi ≤ 1073741824) := propext ⟨fun ⟨a, b, e, h⟩ => by
  simp only [List.cons.injEq, AV.dv.injEq, DV.d.injEq, D.int.injEq, true_and, and_true] at e; obtain ⟨rfl, rfl⟩ := e; exact h, fun h => ⟨lo, hi, rfl, h⟩⟩
theorem rangeS_p (lo hi : Int) : rangeS.post [.st, .i lo, .i hi] = fun y => ∃ q : Int, lo ≤ q ∧ (lo ≤ hi → q ≤ hi) ∧ (hi < lo → q = lo) ∧ y = .i q := funext fun y => propext ⟨fun ⟨a, b, q, e, h⟩ => by
  simp only [List.cons.injEq, AV.dv.injEq, DV.d.injEq, D.int.injEq, true_and, and_true] at e; obtain ⟨rfl, rfl⟩ := e; exact ⟨q, h⟩, fun ⟨q, h⟩ => ⟨lo, hi, q, rfl, h⟩⟩
theorem rangeS_c (xs : List AV) : rangeS.cost xs = 1 := nr rfl
theorem rangeS_f : rangeS.fresh = true := nr rfl
theorem oddS_q (lo hi : Int) : oddS.pre [.st, .i lo, .i hi] = (-1073741824 ≤ lo ∧ lo ≤ 1073741823 ∧ -1073741823 ≤ hi ∧ hi ≤ 1073741823) := propext ⟨fun ⟨a, b, e, h⟩ => by
  simp only [List.cons.injEq, AV.dv.injEq, DV.d.injEq, D.int.injEq, true_and, and_true] at e; obtain ⟨rfl, rfl⟩ := e; exact h, fun h => ⟨lo, hi, rfl, h⟩⟩
theorem oddS_p (lo hi : Int) : oddS.post [.st, .i lo, .i hi] = fun y => ∃ q : Int, -1099511627776 ≤ q ∧ q ≤ 1099511627776 ∧ y = .i q := funext fun y => propext ⟨fun ⟨a, b, q, e, h⟩ => by
  simp only [List.cons.injEq, AV.dv.injEq, DV.d.injEq, D.int.injEq, true_and, and_true] at e; obtain ⟨rfl, rfl⟩ := e; exact ⟨q, h⟩, fun ⟨q, h⟩ => ⟨lo, hi, q, rfl, h⟩⟩
theorem oddS_c (xs : List AV) : oddS.cost xs = 2 := nr rfl
theorem oddS_f : oddS.fresh = true := nr rfl
end Go.Avc

/- The tables of unicode/utf8 and DecodeRuneInString; a text as its points. No condition. -/
set_option linter.unusedVariables false
set_option linter.unusedSimpArgs false
set_option maxRecDepth 100000
namespace Go.Avc
open Go Go.Proofs

/-- The tables of unicode/utf8 lie as they are laid. -/
def Utf8 (cx : Cx) : Prop := ∀ w, GlAt cx w → Lib.Utf8Tabs 4 5 w
def decS : Spec where
  pre xs := ∃ s : ByteArray, xs = [.str s]
  post xs r := ∃ s : ByteArray, xs = [.str s] ∧ r = .tcons (.dv (.d (.int .i32 (Lib.decodeGo s).1))) (.tcons (.i (Lib.decodeGo s).2) .tnil)
  cost _ := 0
  fresh := true
theorem dec_ctr {cx : Cx} (h : Seat cx) (hU : Utf8 cx) : Ctr cx 201 decS := by
  refine ctr_flat (by rw [h.hP]; exact ⟨_, Tryz.func201, by kernel_rfl, by kernel_rfl⟩) (fun _ => rfl) ?_
  rintro xs ⟨s, rfl⟩
  refine ⟨_, _, _, rfl, ⟨s, rfl, rfl⟩, rfl, fun w hw => ?_⟩
  rw [h.hP]
  exact Tryz.utf8_DecodeRuneInString s w (hU w hw)

theorem spl_one (x y : D) : spl [x] 0 [y] = [y] := rfl

/-- How many bytes the first code point takes. -/
def wid (s : ByteArray) : Nat := (Lib.decodeGo s).2
def ptOf (s : ByteArray) : Int := if ((Lib.decodeGo s).1 : Int) = 65533 ∧ ((Lib.decodeGo s).2 : Int) = 1 then -1 - bt s 0 else ((Lib.decodeGo s).1 : Int)
def ptsL : Nat → ByteArray → List Int
  | 0, _ => []
  | k + 1, s => if s.size = 0 then [] else ptOf s :: ptsL k (s.extract (wid s) s.size)
/-- The code points of a string; a byte that is none is below 0. -/
def pts (s : ByteArray) : List Int := ptsL s.size s
theorem i32w {n : Int} (h1 : -2147483648 ≤ n) (h2 : n ≤ 2147483647) : IntKind.i32.wrap n = n := IntWalk.i32_in _ ⟨h1, h2⟩
theorem decodeN_w (n b0 b1 b2 b3 : Nat) (hn : 1 ≤ n) (hb : b0 < 256) : 1 ≤ (Lib.decodeN n b0 b1 b2 b3).2 ∧ (Lib.decodeN n b0 b1 b2 b3).2 ≤ n ∧ (Lib.decodeN n b0 b1 b2 b3).1 ≤ 1114111 := by
  unfold Lib.decodeN
  repeat' split
  all_goals (simp only; omega)
theorem wid_ge {s : ByteArray} (h : s.size ≠ 0) : 1 ≤ wid s ∧ wid s ≤ s.size ∧ (Lib.decodeGo s).1 ≤ 1114111 := by
  unfold wid Lib.decodeGo
  rw [if_neg h, Lib.decode_at]
  exact decodeN_w _ _ _ _ _ (by omega) (UInt8.toNat_lt _)
theorem ptsL_step {s : ByteArray} {k : Nat} (h : s.size ≠ 0) (hk : s.size ≤ k) : ∃ k', k = k' + 1 ∧ ptsL k s = ptOf s :: ptsL k' (s.extract (wid s) s.size) := by
  obtain ⟨k', rfl⟩ : ∃ k', k = k' + 1 := ⟨k - 1, by omega⟩
  exact ⟨k', rfl, by conv => lhs; unfold ptsL
                     rw [if_neg h]⟩
theorem ptsL_nil {s : ByteArray} (h : s.size = 0) (k : Nat) : ptsL k s = [] := by
  cases k with
  | zero => rfl
  | succ k => unfold ptsL; rw [if_pos h]
theorem ptsL_len : ∀ (k : Nat) (s : ByteArray), (ptsL k s).length ≤ s.size
  | 0, s => Nat.zero_le _
  | k + 1, s => by
    unfold ptsL
    split
    · exact Nat.zero_le _
    · rename_i h
      have h1 := wid_ge h
      have h2 := ptsL_len k (s.extract (wid s) s.size)
      rw [ByteArray.size_extract] at h2
      rw [List.length_cons]
      omega
end Go.Avc

/- Loops that look for the first error, and what the generators' lists hold: plain law. No condition. -/
set_option linter.unusedVariables false
set_option linter.unusedSimpArgs false
namespace Go.Avc
open Go Go.Proofs

/-- The first of some errors. -/
def firstI (n : Nat) (f : Nat → Int) : Int := match (List.range n).find? (fun i => decide (f i ≠ 0)) with
  | some i => f i
  | none => 0
theorem firstI_no {n : Nat} {f : Nat → Int} {i : Int} (h : ∀ j : Nat, (j : Int) < i → f j = 0) (hi : n ≤ i) : firstI n f = 0 := by
  unfold firstI
  rw [List.find?_eq_none.2]
  intro x hx
  simp [h x (by have := List.mem_range.1 hx; omega)]
theorem firstI_at {n : Nat} {f : Nat → Int} {i : Int} (h0 : 0 ≤ i) (h1 : i < n) (h : ∀ j : Nat, (j : Int) < i → f j = 0) (hf : f i.toNat ≠ 0) : firstI n f = f i.toNat := by
  unfold firstI
  obtain ⟨k, rfl⟩ : ∃ k : Nat, i = k := ⟨i.toNat, by omega⟩
  rw [Int.toNat_natCast] at hf ⊢
  have : (List.range n).find? (fun i => decide (f i ≠ 0)) = some k := by
    rw [List.find?_range_eq_some]
    refine ⟨by simpa using hf, List.mem_range.2 (by omega), fun j hj => by simp [h j (by omega)]⟩
  rw [this]
/-- The rounds of a loop that looks for the first error. -/
def Rounds (n : Nat) (f : Nat → Int) (i : Int) : Prop := 0 ≤ i ∧ i ≤ n ∧ ∀ j : Nat, (j : Int) < i → f j = 0
theorem Rounds.start {n : Nat} {f : Nat → Int} : Rounds n f 0 := ⟨by decide, Int.natCast_nonneg _, fun j hj => by omega⟩
theorem Rounds.use {n : Nat} {f : Nat → Int} {i : Int} (h : Rounds n f i) (hn : n ≤ 4611686018427387904) :
    0 ≤ i ∧ (i < n → f i.toNat = 0 → Rounds n f (IntKind.i64.wrap (i + 1))) ∧ (i < n → ((n : Int) - IntKind.i64.wrap (i + 1)).toNat < ((n : Int) - i).toNat) ∧
    (∀ e, i < n → f i.toNat = e → e ≠ 0 → firstI n f = e) ∧ (¬ i < n → firstI n f = 0) := by
  obtain ⟨j1, j2, j3⟩ := h
  refine ⟨j1, fun c hf => ?_, fun c => by rw [i64w (by omega) (by omega)]; omega, fun e c hf he => by subst hf; exact firstI_at j1 c j3 he, fun c => firstI_no j3 (by omega)⟩
  rw [i64w (by omega) (by omega)]
  refine ⟨by omega, by omega, fun j hj => ?_⟩
  by_cases e : (j : Int) = i
  · rw [← e, Int.toNat_natCast] at hf; exact hf
  · exact j3 j (by omega)
theorem any_first {α : Type} (l : List α) (d : α) (q : α → Bool) {e : Int} (he : e ≠ 0) : firstI l.length (fun i => if q (l.getD i d) = true then e else 0) = if l.any q = true then e else 0 := by
  by_cases h : l.any q = true
  · rw [if_pos h]
    have hne : ∃ i, i < l.length ∧ q (l.getD i d) = true := by
      obtain ⟨x, hx, hq⟩ := List.any_eq_true.1 h
      obtain ⟨i, hi, rfl⟩ := List.mem_iff_getElem.1 hx
      exact ⟨i, hi, by rw [List.getD_eq_getElem?_getD, List.getElem?_eq_getElem hi]; exact hq⟩
    unfold firstI
    cases hf : (List.range l.length).find? (fun i => decide ((if q (l.getD i d) = true then e else 0) ≠ 0)) with
    | none =>
      obtain ⟨i, hi, hq⟩ := hne
      have := List.find?_eq_none.1 hf i (List.mem_range.2 hi)
      simp only [decide_eq_true_eq] at this
      rw [if_pos hq] at this
      exact absurd he this
    | some i =>
      have := List.find?_some hf
      simp only [decide_eq_true_eq] at this
      split at this
      · rename_i hq; simp only [hq, if_true]
      · exact absurd rfl this
  · rw [if_neg h]
    refine firstI_no (i := l.length) (fun j hj => ?_) (by omega)
    rw [if_neg]
    intro hq
    have hj' : j < l.length := by omega
    rw [List.getD_eq_getElem?_getD, List.getElem?_eq_getElem hj'] at hq
    exact h (List.any_eq_true.2 ⟨_, List.getElem_mem hj', hq⟩)
theorem inB_iff {n lo hi : Int} : inB n lo hi = true ↔ lo ≤ n ∧ n ≤ hi := by unfold inB; exact decide_eq_true_iff
theorem okL_get {α : Type} {p : α → Prop} {l : List α} {d : α} (h : okL p l) (hd : p d) (i : Nat) : p (l.getD i d) := by
  rw [List.getD_eq_getElem?_getD]
  cases e : l[i]? with
  | none => exact hd
  | some x => exact h.2 x (List.mem_of_getElem? e)
theorem ne_ft {b : Bool} (h : b = true) : ¬ b = false := fun e => by rw [h] at e; cases e
theorem ne_tf {b : Bool} (h : b = false) : ¬ b = true := fun e => by rw [h] at e; cases e
def orE (a b : Int) : Int := if a ≠ 0 then a else b
theorem orE_l {a b : Int} (h : a ≠ 0) : orE a b = a := if_pos h
theorem orE_r {a b : Int} (h : a = 0) : orE a b = b := if_neg (fun e => e h)
theorem firstI_zero {n : Nat} {f : Nat → Int} (h : firstI n f = 0) (i : Nat) (hi : i < n) : f i = 0 := by
  unfold firstI at h
  cases hf : (List.range n).find? (fun i => decide (f i ≠ 0)) with
  | none =>
    have := List.find?_eq_none.1 hf i (List.mem_range.2 hi)
    simpa using this
  | some k =>
    rw [hf] at h
    have := List.find?_some hf
    simp only [decide_eq_true_eq] at this
    exact absurd h this
theorem orE_zero {a b : Int} (h : orE a b = 0) : a = 0 ∧ b = 0 := by
  unfold orE at h
  split at h
  · rename_i c; exact absurd h c
  · rename_i c; exact ⟨Decidable.not_not.1 c, h⟩
theorem isIn_le {x : Int} {l : List Int} (h : isIn x l) {b : Int} (hb : l.all (fun y => decide (-b ≤ y ∧ y ≤ b)) = true) : -b ≤ x ∧ x ≤ b := by
  have := List.all_eq_true.1 hb x h
  simpa using this
theorem isOf_ok {x : ByteArray} {l : List ByteArray} (h : isOf x l) (hb : l.all (fun y => decide (y.size ≤ 1000)) = true) : x.size ≤ 1000 := by
  have := List.all_eq_true.1 hb x h
  simpa using this
theorem okI_of {x : Int} {b : Int} (h : -b ≤ x ∧ x ≤ b) (hb : b ≤ 1125899906842624) : okI x := ⟨by omega, by omega⟩
theorem isIn_ok {x : Int} {l : List Int} (h : isIn x l) (hb : l.all (fun y => decide (-1125899906842624 ≤ y ∧ y ≤ 1125899906842624)) = true) : okI x := isIn_le h hb
theorem okL_app {α : Type} {p : α → Prop} {l : List α} {x : α} (h : ∀ y ∈ l, p y) (hx : p x) : ∀ y ∈ l ++ [x], p y := fun y hy => by
  rcases List.mem_append.1 hy with hy | hy
  · exact h y hy
  · rw [List.mem_singleton] at hy; rw [hy]; exact hx
theorem okL_mem {α : Type} {p : α → Prop} {l : List α} {x y : α} (hm : y ∈ l ++ [x]) (h : ∀ y ∈ l, p y) (hx : p x) : p y := okL_app h hx y hm
theorem okL_one {α : Type} {p : α → Prop} {x : α} (hx : p x) : okL p [x] := ⟨by simp, fun y hy => by rw [List.mem_singleton] at hy; rw [hy]; exact hx⟩
theorem okS_of {s : ByteArray} (h : s.size ≤ 1000) : okS s := by unfold okS; omega
theorem odd_ok {q : Int} (h1 : -1099511627776 ≤ q) (h2 : q ≤ 1099511627776) : okI q := ⟨by omega, by omega⟩
theorem all_get {α : Type} {p : α → Prop} {l : List α} {d : α} (h : ∀ x ∈ l, p x) (hd : p d) (i : Nat) : p (l.getD i d) := by
  rw [List.getD_eq_getElem?_getD]
  cases e : l[i]? with
  | none => exact hd
  | some x => exact h x (List.mem_of_getElem? e)
def okIB (l : List Int) : Bool := decide (l.length ≤ 1048576) && l.all fun y => decide (-1125899906842624 ≤ y ∧ y ≤ 1125899906842624)
theorem okLI_of {l : List Int} (h : okIB l = true) : okL okI l := by
  unfold okIB at h
  rw [Bool.and_eq_true, decide_eq_true_eq, List.all_eq_true] at h
  exact ⟨h.1, fun x hx => by have := h.2 x hx; unfold okI; simpa using this⟩
def okSB (l : List ByteArray) : Bool := decide (l.length ≤ 1048576) && l.all fun y => decide (y.size ≤ 1000)
theorem okLS_of {l : List ByteArray} (h : okSB l = true) : okL okS l := by
  unfold okSB at h
  rw [Bool.and_eq_true, decide_eq_true_eq, List.all_eq_true] at h
  exact ⟨h.1, fun x hx => okS_of (by simpa using h.2 x hx)⟩
theorem okLI_lit {ls : List (List Int)} (h : ls.all okIB = true) (i : Nat) : okL okI (ls.getD i []) := all_get (p := okL okI) (fun x hx => okLI_of (List.all_eq_true.1 h x hx)) (okL_z _) i
theorem okLS_lit {ls : List (List ByteArray)} (h : ls.all okSB = true) (i : Nat) : okL okS (ls.getD i []) := all_get (p := okL okS) (fun x hx => okLS_of (List.all_eq_true.1 h x hx)) (okL_z _) i
theorem okL_snoc {α : Type} {p : α → Prop} {l : List α} {x : α} (h : ∀ y ∈ l, p y) (hl : (l.length : Int) ≤ 1000) (hx : p x) : okL p (l ++ [x]) := ⟨by rw [List.length_append, List.length_singleton]; omega, okL_app h hx⟩
end Go.Avc

/- Keys by the reference: strings.Trim at a cutset of ASCII bytes. No condition. -/
set_option linter.unusedVariables false
set_option linter.unusedSimpArgs false
set_option maxRecDepth 100000
namespace Go.Avc
open Go Go.Proofs

def asciiB (c : ByteArray) : Bool := c.data.toList.all fun b => decide (b.toNat < 128)
def trimF (s c : ByteArray) : ByteArray := ⟨(Lib.trimS s.data.toList c.data.toList).toArray⟩
def trimSp  : Spec where
  pre xs := ∃ (s : ByteArray) (c : ByteArray), xs = [.str s, .str c] ∧ (s.size ≤ 4611686018427387904 ∧ c.size ≤ 1000000 ∧ asciiB c = true)
  post xs y := ∃ (s : ByteArray) (c : ByteArray), xs = [.str s, .str c] ∧ y = .str (trimF s c)
  cost _ := 0
  fresh := true
theorem trimSp_c  (xs : List AV) : (trimSp).cost xs = 0 := nr rfl
theorem trimSp_f  : (trimSp).fresh = true := nr rfl
theorem trimSp_q  (s : ByteArray) (c : ByteArray) : (trimSp).pre [.str s, .str c] = (s.size ≤ 4611686018427387904 ∧ c.size ≤ 1000000 ∧ asciiB c = true) := propext ⟨fun h => by
  have h' : ∃ (s' : ByteArray) (c' : ByteArray), ([.str s, .str c] : List AV) = [.str s', .str c'] ∧ (s'.size ≤ 4611686018427387904 ∧ c'.size ≤ 1000000 ∧ asciiB c' = true) := h
  obtain ⟨s', c', e, h⟩ := h'
  simp only [List.cons.injEq, AV.dv.injEq, AV.fv.injEq, DV.d.injEq, DV.ag.injEq, D.int.injEq, D.str.injEq, D.bool.injEq, D.sl.injEq, true_and, and_true, intsDi_inj, rowsT_inj, rowsKi_inj] at e
  obtain ⟨rfl, rfl⟩ := e
  exact h, fun h => ⟨s, c, rfl, h⟩⟩
theorem trimSp_p  (s : ByteArray) (c : ByteArray) : (trimSp).post [.str s, .str c] = fun y => y = .str (trimF s c) := funext fun y => propext ⟨fun h => by
  have h' : ∃ (s' : ByteArray) (c' : ByteArray), ([.str s, .str c] : List AV) = [.str s', .str c'] ∧ y = .str (trimF s' c') := h
  obtain ⟨s', c', e, h⟩ := h'
  simp only [List.cons.injEq, AV.dv.injEq, AV.fv.injEq, DV.d.injEq, DV.ag.injEq, D.int.injEq, D.str.injEq, D.bool.injEq, D.sl.injEq, true_and, and_true, intsDi_inj, rowsT_inj, rowsKi_inj] at e
  obtain ⟨rfl, rfl⟩ := e
  exact h, fun h => ⟨s, c, rfl, h⟩⟩
theorem trim_ctr {cx : Cx} (h : Seat cx) : Ctr cx 132 trimSp := by
  refine ctr_flat (by rw [h.hP]; exact ⟨_, Tryz.func132, by kernel_rfl, by kernel_rfl⟩) (fun _ => rfl) ?_
  rintro xs ⟨s, c, rfl, h1, h2, h3⟩
  refine ⟨_, _, _, rfl, ⟨s, c, rfl, rfl⟩, rfl, fun w hw => ?_⟩
  rw [h.hP]
  exact Tryz.strings_Trim_ascii s c w (by omega) (by omega) (ascii_of_all h3)
def onlyB (s c : ByteArray) : Bool := s.data.toList.all fun b => c.data.toList.contains b
theorem drop_nil_of {α : Type} {p : α → Bool} : ∀ {l : List α}, l.dropWhile p = [] ↔ l.all p = true
  | [] => by simp
  | x :: l => by
    cases h : p x with
    | true => rw [List.dropWhile_cons_of_pos h, List.all_cons, h, Bool.true_and]; exact drop_nil_of
    | false => rw [List.dropWhile_cons_of_neg (by simp [h]), List.all_cons, h]; simp
theorem drop_head {α : Type} {p : α → Bool} : ∀ {l : List α} {x : α} {r : List α}, l.dropWhile p = x :: r → p x = false
  | [], x, r, h => by simp at h
  | y :: l, x, r, h => by
    cases hy : p y with
    | true => rw [List.dropWhile_cons_of_pos hy] at h; exact drop_head h
    | false => rw [List.dropWhile_cons_of_neg (by simp [hy])] at h; cases h; exact hy
theorem trim_nil (s c : ByteArray) : ((trimF s c).size = 0) = (onlyB s c = true) := by
  apply propext
  unfold trimF onlyB Lib.trimS Lib.trimLeftS Lib.trimRightS
  show (List.toArray _).size = 0 ↔ _
  rw [List.size_toArray, List.length_eq_zero_iff, drop_nil_of, List.all_reverse]
  generalize hp : (fun b : UInt8 => c.data.toList.contains b) = p
  constructor
  · intro h
    have : s.data.toList.reverse.dropWhile p = [] := by
      cases e : s.data.toList.reverse.dropWhile p with
      | nil => rfl
      | cons x r =>
        have h1 := drop_head e
        rw [e] at h
        rw [List.all_cons, h1] at h
        cases h
    rw [drop_nil_of, List.all_reverse] at this
    exact this
  · intro h
    have : s.data.toList.reverse.dropWhile p = [] := by rw [drop_nil_of, List.all_reverse]; exact h
    rw [this]; rfl
def onlyS  : Spec where
  pre xs := ∃ (s : ByteArray) (c : ByteArray), xs = [.str s, .str c] ∧ (s.size ≤ 4611686018427387904 ∧ c.size ≤ 1000000 ∧ asciiB c = true)
  post xs y := ∃ (s : ByteArray) (c : ByteArray), xs = [.str s, .str c] ∧ y = .b (onlyB s c)
  cost _ := 0
  fresh := true
theorem onlyS_c  (xs : List AV) : (onlyS).cost xs = 0 := nr rfl
theorem onlyS_f  : (onlyS).fresh = true := nr rfl
theorem onlyS_q  (s : ByteArray) (c : ByteArray) : (onlyS).pre [.str s, .str c] = (s.size ≤ 4611686018427387904 ∧ c.size ≤ 1000000 ∧ asciiB c = true) := propext ⟨fun h => by
  have h' : ∃ (s' : ByteArray) (c' : ByteArray), ([.str s, .str c] : List AV) = [.str s', .str c'] ∧ (s'.size ≤ 4611686018427387904 ∧ c'.size ≤ 1000000 ∧ asciiB c' = true) := h
  obtain ⟨s', c', e, h⟩ := h'
  simp only [List.cons.injEq, AV.dv.injEq, AV.fv.injEq, DV.d.injEq, DV.ag.injEq, D.int.injEq, D.str.injEq, D.bool.injEq, D.sl.injEq, true_and, and_true, intsDi_inj, rowsT_inj, rowsKi_inj] at e
  obtain ⟨rfl, rfl⟩ := e
  exact h, fun h => ⟨s, c, rfl, h⟩⟩
theorem onlyS_p  (s : ByteArray) (c : ByteArray) : (onlyS).post [.str s, .str c] = fun y => y = .b (onlyB s c) := funext fun y => propext ⟨fun h => by
  have h' : ∃ (s' : ByteArray) (c' : ByteArray), ([.str s, .str c] : List AV) = [.str s', .str c'] ∧ y = .b (onlyB s' c') := h
  obtain ⟨s', c', e, h⟩ := h'
  simp only [List.cons.injEq, AV.dv.injEq, AV.fv.injEq, DV.d.injEq, DV.ag.injEq, D.int.injEq, D.str.injEq, D.bool.injEq, D.sl.injEq, true_and, and_true, intsDi_inj, rowsT_inj, rowsKi_inj] at e
  obtain ⟨rfl, rfl⟩ := e
  exact h, fun h => ⟨s, c, rfl, h⟩⟩
theorem only_ctr {cx : Cx} (h : Seat cx) : Ctr cx 94 onlyS := by
  refine ctr_of (fn := Tryz.f94) (l := [.tmp 4]) (envL [(132, trimSp)]) [0, 1, 4] [] [] (envL_cons (trim_ctr h) (env0 h.hP)) ?_ (by rw [h.hP]; exact Tryz.func94) rfl (by kernel_rfl) rfl ?_ ?_
  · rw [h.hP]; exact ⟨_, Tryz.func94, by kernel_rfl, by kernel_rfl⟩
  · rintro xs ⟨s, c, rfl, h1, h2, h3⟩; exact ⟨_, s, c, rfl, rfl⟩
  · rintro xs ⟨s, c, rfl, h1, h2, h3⟩
    refine ⟨by rw [Tryz.ntmps94]; simp, ?_⟩
    simp only [go_sem, h.hP, List.cons_append, List.nil_append, Meets_e, Below_e, Prod.exists, exists_eq, exists_eq_left, exists_eq_left', exists_eq_right, exists_eq_right', exists_and_left, exists_and_right, Ob.arr.injEq, AV.own.injEq, AV.fv.injEq, onlyS_q, onlyS_p, onlyS_c, onlyS_f, trimSp_q, trimSp_p, trimSp_c, trimSp_f, str_nil, trim_nil, Tryz.ntmps94, Nat.reduceEqDiff, reduceCtorEq, Nat.reduceMul, Nat.reduceAdd, Nat.reduceSub, Nat.reduceDiv, Nat.reduceMod, Nat.reduceLeDiff, Nat.reduceLT, Nat.reduceBNe, Nat.reduceBEq, reduceIte, Int.reduceLE, Int.reduceLT, Int.reduceToNat, Int.reduceNeg, Int.reduceAdd, Int.reduceSub, Int.reduceMul, Int.reduceEq]
    exact ⟨h1, h2, h3, by cases onlyB s c <;> rfl⟩
theorem u8_all {p : UInt8 → Bool} (h : ((List.range 256).all fun n => p (UInt8.ofNat n)) = true) (c : UInt8) : p c = true := by
  rw [List.all_eq_true] at h
  have := h c.toNat (List.mem_range.2 (UInt8.toNat_lt c))
  rwa [UInt8.ofNat_toNat] at this
theorem u8_same {p q : UInt8 → Bool} (h : ((List.range 256).all fun n => p (UInt8.ofNat n) == q (UInt8.ofNat n)) = true) (c : UInt8) : p c = q c := by
  have := u8_all (p := fun c => p c == q c) h c
  simpa using this
theorem bl_all (s : ByteArray) (p : Int → Bool) : (bl s).all p = s.data.toList.all fun c => p (c.toNat : Int) := by
  unfold bl
  rw [List.all_map]; rfl
theorem only_all {c : ByteArray} {p : Int → Bool} (h : ((List.range 256).all fun n => c.data.toList.contains (UInt8.ofNat n) == p (((UInt8.ofNat n).toNat : Nat) : Int)) = true) (s : ByteArray) : onlyB s c = (bl s).all p := by
  rw [bl_all]
  unfold onlyB
  rw [funext (u8_same (p := fun b => c.data.toList.contains b) (q := fun b => p (b.toNat : Int)) h)]
theorem Key_ctr {cx : Cx} (h : Seat cx) : Ctr cx 52 (strB keyB) := by
  refine ctr_of (fn := Tryz.f52) (l := [.tmp 2]) (envL [(53, inS), (94, onlyS)]) [0, 2] [] [] (envL_cons (in_ctr h) (envL_cons (only_ctr h) (env0 h.hP))) ?_ (by rw [h.hP]; exact Tryz.func52) rfl (by kernel_rfl) rfl ?_ ?_
  · rw [h.hP]; exact ⟨_, Tryz.func52, by kernel_rfl, by kernel_rfl⟩
  · rintro xs ⟨s, rfl, hs⟩; exact ⟨_, s, rfl, rfl⟩
  · rintro xs ⟨s, rfl, hs⟩
    refine ⟨by rw [Tryz.ntmps52]; simp, ?_⟩
    simp only [go_sem, h.hP, List.cons_append, List.nil_append, Meets_e, Below_e, Prod.exists, exists_eq, exists_eq_left, exists_eq_left', exists_eq_right, exists_eq_right', exists_and_left, exists_and_right, Ob.arr.injEq, AV.own.injEq, AV.fv.injEq, strB_q, strB_p, strB_c, strB_f, inS_q, inS_p, inS_c, inS_f, onlyS_q, onlyS_p, onlyS_c, onlyS_f, Tryz.ntmps52, Nat.reduceEqDiff, reduceCtorEq, Nat.reduceMul, Nat.reduceAdd, Nat.reduceSub, Nat.reduceDiv, Nat.reduceMod, Nat.reduceLeDiff, Nat.reduceLT, Nat.reduceBNe, Nat.reduceBEq, reduceIte, Int.reduceLE, Int.reduceLT, Int.reduceToNat, Int.reduceNeg, Int.reduceAdd, Int.reduceSub, Int.reduceMul, Int.reduceEq]
    have e1 := only_all (c := ⟨#[97, 98, 99, 100, 101, 102, 103, 104, 105, 106, 107, 108, 109, 110, 111, 112, 113, 114, 115, 116, 117, 118, 119, 120, 121, 122]⟩) (p := smallC) (by decide +kernel) (s.extract 0 1)
    have e2 := only_all (c := ⟨#[97, 98, 99, 100, 101, 102, 103, 104, 105, 106, 107, 108, 109, 110, 111, 112, 113, 114, 115, 116, 117, 118, 119, 120, 121, 122, 48, 49, 50, 51, 52, 53, 54, 55, 56, 57, 45, 95]⟩) (p := keyC) (by decide +kernel) s
    have hx : (s.extract 0 1).size ≤ s.size := by rw [ByteArray.size_extract]; omega
    have e3 : 1 ≤ s.size → (bl (s.extract 0 1)).all smallC = smallC (bt s 0) := fun h1 => by
      have : bl (s.extract 0 1) = [bt s 0] := by
        have h2 : s.data.toList ≠ [] := fun e => by rw [← bl_length] at h1; unfold bl at h1; rw [e] at h1; simp at h1
        cases hd : s.data.toList with
        | nil => exact absurd hd h2
        | cons x r =>
          unfold bl bt
          rw [ByteArray.data_extract, Array.toList_extract, hd]
          simp
      rw [this]; simp
    rw [e1, e2]
    unfold keyB
    refine ⟨fun c1 => ?_, fun c1 => by rw [c1]; rfl⟩
    have h1 : 1 ≤ s.size := by unfold inB at c1; rw [decide_eq_true_eq] at c1; omega
    rw [c1, e3 h1]
    refine ⟨by omega, by omega, by decide +kernel, fun c2 => ⟨hs, by decide +kernel, by rw [c2]; rfl⟩, fun c2 => by rw [c2]; rfl⟩
end Go.Avc

/- The tables of unicode/utf8, from a row's list to what the walks ask. No condition. -/
set_option linter.unusedVariables false
set_option maxRecDepth 100000
namespace Go.Avc
open Go Go.Proofs

def acceptL : List Int := (List.range 16).flatMap fun i => [(Lib.accLo i : Int), (Lib.accHi i : Int)]
def globU : Nat → Option (List D)
  | 4 => some (Lib.firstTab.map (D.int .u8))
  | 5 => some (acceptL.map (D.int .u8))
  | _ => none
theorem glob_first {cs : List Value} {ok : Nat → Prop} {w : World} {l : List Int} (h : RdL ok w (l.map (D.int .u8)) cs) (i : Nat) (hi : i < l.length) : cs[i]? = some (.int .u8 (l.getD i 0)) := by
  obtain ⟨v, hv, hr⟩ := h.get (j := i) (x := D.int .u8 (l.getD i 0)) (by rw [List.getElem?_map, List.getD_eq_getElem?_getD, List.getElem?_eq_getElem hi]; rfl)
  rw [hv]
  cases hr
  rfl
theorem rdL_ints {ok : Nat → Prop} {w : World} (l : List Int) : RdL ok w (l.map (D.int .u8)) (l.map (Value.int .u8)) := ⟨by rw [List.length_map, List.length_map], fun j x v hx hv => by
  rw [List.getElem?_map] at hx hv
  obtain ⟨n, hn, rfl⟩ := Option.map_eq_some_iff.1 hx
  rw [hn] at hv
  cases hv
  exact .int _ _⟩
theorem accept_at : ∀ i, i < 16 → acceptL.getD (2 * i) 0 = Lib.accLo i ∧ acceptL.getD (2 * i + 1) 0 = Lib.accHi i := by decide +kernel
theorem utf8_of_glob {cx : Cx} {W0 : Cx} (hW : W0.glob = globU) (h : ∀ w, GlAt cx w → GlAt W0 w) : Utf8 cx := by
  intro w hw
  have hg := h w hw
  obtain ⟨_, _, cs, hc, hr⟩ := hg 4 _ (by rw [hW]; rfl)
  obtain ⟨_, _, cs', hc', hr'⟩ := hg 5 _ (by rw [hW]; rfl)
  have hl : Lib.firstTab.length = 256 := by unfold Lib.firstTab; rw [List.length_map, List.length_range]
  have hl' : acceptL.length = 32 := by decide +kernel
  refine ⟨fun c hc0 => ?_, fun i hi => ?_⟩
  · have := hc c _ (glob_first hr c (by omega))
    rw [this]
    unfold Lib.firstTab
    rw [List.getD_eq_getElem?_getD, List.getElem?_map, List.getElem?_range hc0]
    rfl
  · obtain ⟨e1, e2⟩ := accept_at i hi
    have h1 := hc' (2 * i) _ (glob_first hr' (2 * i) (by omega))
    have h2 := hc' (2 * i + 1) _ (glob_first hr' (2 * i + 1) (by omega))
    rw [e1] at h1
    rw [e2] at h2
    exact ⟨h1, h2⟩
theorem glAt_of_tabs {W : World} {L : List Int} {ST : TypeId} (h : Lib.Utf8Tabs 4 5 W) : GlAt ⟨Tryz.prog, none, L, ST, 6, globU⟩ W := by
  obtain ⟨h1, h2⟩ := h
  have hin : ∀ (b o : Nat) (v : Value), W.cell? ⟨b, o, none⟩ = some v → b < W.heap.size := fun b o v hv => by
    by_cases hb : b < W.heap.size
    · exact hb
    · unfold World.cell? at hv
      rw [Array.getElem?_eq_none (show W.heap.size ≤ b by omega)] at hv
      cases hv
  intro k l hk
  have hk' : globU k = some l := hk
  have hl' : acceptL.length = 32 := by decide +kernel
  match k, hk' with
  | 4, hk' =>
    cases hk'
    refine ⟨Nat.lt_of_sub_eq_succ rfl, hin _ _ _ (h1 0 (by decide)), Lib.firstTab.map (Value.int .u8), fun j u hj => ?_, rdL_ints _⟩
    rw [List.getElem?_map] at hj
    obtain ⟨n, hn, rfl⟩ := Option.map_eq_some_iff.1 hj
    unfold Lib.firstTab at hn
    rw [List.getElem?_map] at hn
    obtain ⟨c, hc, rfl⟩ := Option.map_eq_some_iff.1 hn
    have hc1 := (List.getElem?_eq_some_iff.1 hc).1
    rw [List.length_range] at hc1
    rw [List.getElem?_range hc1] at hc
    cases hc
    exact h1 _ hc1
  | 5, hk' =>
    cases hk'
    refine ⟨Nat.lt_of_sub_eq_succ rfl, hin _ _ _ (h2 0 (by decide)).1, acceptL.map (Value.int .u8), fun j u hj => ?_, rdL_ints _⟩
    rw [List.getElem?_map] at hj
    obtain ⟨n, hn, rfl⟩ := Option.map_eq_some_iff.1 hj
    have hj1 := (List.getElem?_eq_some_iff.1 hn).1
    have hn' : acceptL.getD j 0 = n := by rw [List.getD_eq_getElem?_getD, hn]; rfl
    obtain ⟨e1, e2⟩ := accept_at (j / 2) (by omega)
    obtain ⟨g1, g2⟩ := h2 (j / 2) (by omega)
    rcases Nat.mod_two_eq_zero_or_one j with hm | hm
    · have hj2 : 2 * (j / 2) = j := by omega
      rw [hj2] at e1 g1
      rw [← hn', e1]
      exact g1
    · have hj2 : 2 * (j / 2) + 1 = j := by omega
      rw [hj2] at e2 g2
      rw [← hn', e2]
      exact g2
theorem u8Extra : U8Extra Tryz.prog Tryz.lays260_ren := ⟨by kernel_rfl, by kernel_rfl, by kernel_rfl, by kernel_rfl, by kernel_rfl, by kernel_rfl, by kernel_rfl⟩
theorem first_eq : YtlaplgpnbbmbgaaGreatDoor.Rows.laid_unicode_utf8_first = Lib.firstData := by kernel_rfl
theorem accept_eq : (YtlaplgpnbbmbgaaGreatDoor.Rows.laid_unicode_utf8_acceptRanges : DataW Unit) = Lib.acceptData := by kernel_rfl
/-- A row that lists the two tables, first of all: they lie so. -/
theorem tabs_of_laid {W : World} (h : laidMet Tryz.prog [("unicode/utf8.acceptRanges", YtlaplgpnbbmbgaaGreatDoor.Rows.laid_unicode_utf8_acceptRanges), ("unicode/utf8.first", YtlaplgpnbbmbgaaGreatDoor.Rows.laid_unicode_utf8_first)] W) : Lib.Utf8Tabs 4 5 W := by
  rw [first_eq, accept_eq] at h
  exact utf8Tabs_of_reads Tryz.lays260 u8Extra (Lib.laidMet.reads h (by simp)) (Lib.laidMet.reads h (by simp))
/-- The package-level variables are there. -/
theorem ng_of_shaped {W : World} (h : W.ShapedOpen Tryz.prog) : 6 ≤ W.heap.size := by
  have h0 : (((begin Tryz.prog (fun _ _ => 0) default).world.heap[5]?).bind Obj.row?).isSome = true := by kernel_rfl
  obtain ⟨⟨zero, t⟩, hz⟩ := Option.isSome_iff_exists.1 h0
  obtain ⟨cs, hc, _⟩ := h.1 5 zero t (of_decide_eq_true (by kernel_rfl)) hz
  have := (Array.getElem?_eq_some_iff.1 hc).1
  omega
/-- A world for a witness: the two tables hold what the program lays. -/
noncomputable def laidWorld (os : Os) : World :=
  { World.holding Tryz.prog os ⟨#[], #[], []⟩ with heap := (((World.holding Tryz.prog os ⟨#[], #[], []⟩).heap.modify 4 (fun o => match o with
      | .cells _ t frozen => .cells (Lib.firstTab.map (Value.int .u8)).toArray t frozen
      | o => o)).modify 5 (fun o => match o with
      | .cells _ t frozen => .cells (acceptL.map (Value.int .u8)).toArray t frozen
      | o => o)) }
theorem laid_met (os : Os) (args : Array Value) : laidMet Tryz.prog [("unicode/utf8.acceptRanges", YtlaplgpnbbmbgaaGreatDoor.Rows.laid_unicode_utf8_acceptRanges), ("unicode/utf8.first", YtlaplgpnbbmbgaaGreatDoor.Rows.laid_unicode_utf8_first)] ((laidWorld os).forCall (fun _ _ => 0) ⟨#[], args, []⟩).memory :=
  laidMet_of_run' 8 (by kernel_rfl) (by kernel_rfl)
end Go.Avc

/- Zones: what is wrong with them, by the program and by the reference; what their clocks show: the program. No condition. -/
set_option linter.unusedVariables false
set_option linter.unusedSimpArgs false
set_option maxRecDepth 100000
namespace Go.Avc
open Go Go.Proofs

def shE (l : List TShift) (i : Nat) : Int := if inB (l.getD i TShift.z).at_ 0 4321439 = false ∨ inB (l.getD i TShift.z).offset (-720) 840 = false then 1 else if i = 0 ∧ ¬ (l.getD i TShift.z).at_ = 0 then 3 else if 0 < (i : Int) ∧ (l.getD i TShift.z).at_ < (l.getD (i - 1) TShift.z).at_ + 1800 then 7 else 0
def zoneF (z : TZone) : Int := if keyB z.name = false then 5 else if z.shifts.length = 0 then 3 else if 100 < (z.shifts.length : Int) then 2 else firstI z.shifts.length (shE z.shifts)
/-- In a round of the loop all shifts behind are in their bounds. -/
theorem shE_in {l : List TShift} {i : Nat} (h : shE l i = 0) : 0 ≤ (l.getD i TShift.z).at_ ∧ (l.getD i TShift.z).at_ ≤ 4321439 ∧ -720 ≤ (l.getD i TShift.z).offset ∧ (l.getD i TShift.z).offset ≤ 840 := by
  unfold shE at h
  split at h
  · cases h
  · rename_i c
    simp only [not_or, Bool.not_eq_false] at c
    have c1 := of_decide_eq_true c.1
    have c2 := of_decide_eq_true c.2
    exact ⟨c1.1, c1.2, c2.1, c2.2⟩
theorem ewithin_ctr {cx : Cx} (h : Seat cx) : Ctr cx 49 inS := by
  refine ctr_of (fn := Tryz.f49) (l := [.tmp 6]) (envL []) [0, 1, 2, 6] [] [] (env0 h.hP) ?_ (by rw [h.hP]; exact Tryz.func49) rfl (by kernel_rfl) rfl ?_ ?_
  · rw [h.hP]; exact ⟨_, Tryz.func49, by kernel_rfl, by kernel_rfl⟩
  · rintro xs ⟨n, a, b, rfl⟩; exact ⟨_, n, a, b, rfl, rfl⟩
  · rintro xs ⟨n, a, b, rfl⟩
    refine ⟨by rw [Tryz.ntmps49]; simp, ?_⟩
    simp only [go_sem, h.hP, List.cons_append, List.nil_append, Meets_e, Below_e, Prod.exists, exists_eq, exists_eq_left, exists_eq_left', exists_eq_right, exists_eq_right', exists_and_left, exists_and_right, Ob.arr.injEq, AV.own.injEq, AV.fv.injEq, inS_q, inS_p, inS_c, inS_f, Tryz.ntmps49, Nat.reduceEqDiff, reduceCtorEq, Nat.reduceMul, Nat.reduceAdd, Nat.reduceSub, Nat.reduceDiv, Nat.reduceMod, Nat.reduceLeDiff, Nat.reduceLT, Nat.reduceBNe, Nat.reduceBEq, reduceIte, Int.reduceLE, Int.reduceLT, Int.reduceToNat, Int.reduceNeg, Int.reduceAdd, Int.reduceSub, Int.reduceMul, Int.reduceEq]
    grind [inB]
def zoneS  : Spec where
  pre xs := ∃ (z : TZone), xs = [.dv (.ag z.row)] ∧ (z.ok)
  post xs y := ∃ (z : TZone), xs = [.dv (.ag z.row)] ∧ y = .i (zoneF z)
  cost _ := 0
  fresh := true
theorem zoneS_c  (xs : List AV) : (zoneS).cost xs = 0 := nr rfl
theorem zoneS_f  : (zoneS).fresh = true := nr rfl
theorem zoneS_q  (z : TZone) : (zoneS).pre [.dv (.ag [.str z.name, .sl (TShift.rows z.shifts)])] = (z.ok) := propext ⟨fun h => by
  have h' : ∃ (z' : TZone), ([.dv (.ag z.row)] : List AV) = [.dv (.ag z'.row)] ∧ (z'.ok) := h
  obtain ⟨z', e, h⟩ := h'
  simp only [List.cons.injEq, AV.dv.injEq, AV.fv.injEq, DV.d.injEq, DV.ag.injEq, D.int.injEq, D.str.injEq, D.bool.injEq, D.sl.injEq, true_and, and_true, intsDi_inj, rowsT_inj, rowsKi_inj, TZone.row_inj, TZone.rows_inj] at e
  obtain rfl := e
  exact h, fun h => ⟨z, rfl, h⟩⟩
theorem zoneS_p  (z : TZone) : (zoneS).post [.dv (.ag [.str z.name, .sl (TShift.rows z.shifts)])] = fun y => y = .i (zoneF z) := funext fun y => propext ⟨fun h => by
  have h' : ∃ (z' : TZone), ([.dv (.ag z.row)] : List AV) = [.dv (.ag z'.row)] ∧ y = .i (zoneF z') := h
  obtain ⟨z', e, h⟩ := h'
  simp only [List.cons.injEq, AV.dv.injEq, AV.fv.injEq, DV.d.injEq, DV.ag.injEq, D.int.injEq, D.str.injEq, D.bool.injEq, D.sl.injEq, true_and, and_true, intsDi_inj, rowsT_inj, rowsKi_inj, TZone.row_inj, TZone.rows_inj] at e
  obtain rfl := e
  exact h, fun h => ⟨z, rfl, h⟩⟩
set_option maxHeartbeats 4000000 in
theorem CheckZone_ctr {cx : Cx} (h : Seat cx) : Ctr cx 15 zoneS := by
  refine ctr_of (fn := Tryz.f15) (l := [.tmp 2]) (envL [(54, (strB keyB)), (49, inS)]) [0, 1, 2, 3, 4, 5, 10, 15, 21, 22, 23, 24, 28, 39, 47] [] [] (envL_cons (IsKey_ctr h) (envL_cons (ewithin_ctr h) (env0 h.hP))) ?_ (by rw [h.hP]; exact Tryz.func15) rfl (by kernel_rfl) rfl ?_ ?_
  · rw [h.hP]; exact ⟨_, Tryz.func15, by kernel_rfl, by kernel_rfl⟩
  · rintro xs ⟨z, rfl, h1⟩; exact ⟨_, z, rfl, rfl⟩
  · rintro xs ⟨z, rfl, h1⟩
    refine ⟨by rw [Tryz.ntmps15]; simp, ?_⟩
    simp only [go_sem, h.hP, List.cons_append, List.nil_append, Meets_e, Below_e, Prod.exists, exists_eq, exists_eq_left, exists_eq_left', exists_eq_right, exists_eq_right', exists_and_left, exists_and_right, Ob.arr.injEq, AV.own.injEq, AV.fv.injEq, zoneS_q, zoneS_p, zoneS_c, zoneS_f, strB_q, strB_p, strB_c, strB_f, TZone.row, TShift.len, Tryz.ntmps15, Nat.reduceEqDiff, reduceCtorEq, Nat.reduceMul, Nat.reduceAdd, Nat.reduceSub, Nat.reduceDiv, Nat.reduceMod, Nat.reduceLeDiff, Nat.reduceLT, Nat.reduceBNe, Nat.reduceBEq, reduceIte, Int.reduceLE, Int.reduceLT, Int.reduceToNat, Int.reduceNeg, Int.reduceAdd, Int.reduceSub, Int.reduceMul, Int.reduceEq]
    obtain ⟨o1, o2⟩ := h1
    unfold okS at o1
    refine ⟨by omega, fun c => (if_pos c).symm, fun c => ⟨fun d => ((if_neg (ne_ft c)).trans (if_pos (by omega))).symm, fun d => ⟨fun e => ((if_neg (ne_ft c)).trans ((if_neg (by omega)).trans (if_pos e))).symm, fun e => ?_⟩⟩⟩
    have hc : zoneF z = firstI z.shifts.length (shE z.shifts) := (if_neg (ne_ft c)).trans ((if_neg (by omega)).trans (if_neg e))
    rw [hc]
    refine vc_loopS (Int) (fun (i : Int) => [(23, .i i)]) [1] (fun (i : Int) => []) (fun (i : Int) => []) (fun (i : Int) => 0) (fun (i : Int) => Rounds z.shifts.length (shE z.shifts) i) (fun (i : Int) => (z.shifts.length - i).toNat) [] ?_ ?_
    · simp only [go_sem, h.hP, List.cons_append, List.nil_append, Meets_e, Below_e, Prod.exists, exists_eq, exists_eq_left, exists_eq_left', exists_eq_right, exists_eq_right', exists_and_left, exists_and_right, Ob.arr.injEq, AV.own.injEq, AV.fv.injEq, Tryz.ntmps15, Nat.reduceEqDiff, reduceCtorEq, Nat.reduceMul, Nat.reduceAdd, Nat.reduceSub, Nat.reduceDiv, Nat.reduceMod, Nat.reduceLeDiff, Nat.reduceLT, Nat.reduceBNe, Nat.reduceBEq, reduceIte, Int.reduceLE, Int.reduceLT, Int.reduceToNat, Int.reduceNeg, Int.reduceAdd, Int.reduceSub, Int.reduceMul, Int.reduceEq]
      exact Rounds.start
    · rintro i hr
      have hP : 0 < i → 0 ≤ (z.shifts.getD (i.toNat - 1) TShift.z).at_ ∧ (z.shifts.getD (i.toNat - 1) TShift.z).at_ ≤ 4321439 := fun a => by
        have := shE_in (hr.2.2 (i.toNat - 1) (by omega))
        exact ⟨this.1, this.2.1⟩
      obtain ⟨hi, hS, hM, hE, hN⟩ := hr.use (by omega)
      have hw : 0 < i → i < z.shifts.length → IntKind.i64.wrap (i - 1) = i - 1 := fun a b => i64w (by omega) (by omega)
      simp only [go_sem, h.hP, List.cons_append, List.nil_append, Meets_e, Below_e, Prod.exists, exists_eq, exists_eq_left, exists_eq_left', exists_eq_right, exists_eq_right', exists_and_left, exists_and_right, Ob.arr.injEq, AV.own.injEq, AV.fv.injEq, zoneS_q, zoneS_p, zoneS_c, zoneS_f, inS_q, inS_p, inS_c, inS_f, TZone.row, TShift.len, TShift.get, TShift.rows_inj, Tryz.ntmps15, Nat.reduceEqDiff, reduceCtorEq, Nat.reduceMul, Nat.reduceAdd, Nat.reduceSub, Nat.reduceDiv, Nat.reduceMod, Nat.reduceLeDiff, Nat.reduceLT, Nat.reduceBNe, Nat.reduceBEq, reduceIte, Int.reduceLE, Int.reduceLT, Int.reduceToNat, Int.reduceNeg, Int.reduceAdd, Int.reduceSub, Int.reduceMul, Int.reduceEq]
      refine ⟨fun q => ?_, fun q => (hN q).symm⟩
      have hq : shE z.shifts i.toNat = if inB (z.shifts.getD i.toNat TShift.z).at_ 0 4321439 = false ∨ inB (z.shifts.getD i.toNat TShift.z).offset (-720) 840 = false then 1 else if i = 0 ∧ ¬ (z.shifts.getD i.toNat TShift.z).at_ = 0 then 3 else if 0 < i ∧ (z.shifts.getD i.toNat TShift.z).at_ < (z.shifts.getD (i.toNat - 1) TShift.z).at_ + 1800 then 7 else 0 := by
        unfold shE
        rw [Int.toNat_of_nonneg hi]
        congr 2
        rw [show (i.toNat = 0) = (i = 0) from propext ⟨fun _ => by omega, fun _ => by omega⟩]
      have A1 : (inB (z.shifts.getD i.toNat TShift.z).at_ 0 4321439 = false ∨ inB (z.shifts.getD i.toNat TShift.z).offset (-720) 840 = false) → 1 = firstI z.shifts.length (shE z.shifts) := fun a => (hE 1 q (hq.trans (if_pos a)) (by decide)).symm
      have no : inB (z.shifts.getD i.toNat TShift.z).at_ 0 4321439 = true → inB (z.shifts.getD i.toNat TShift.z).offset (-720) 840 = true → ¬ (inB (z.shifts.getD i.toNat TShift.z).at_ 0 4321439 = false ∨ inB (z.shifts.getD i.toNat TShift.z).offset (-720) 840 = false) := fun a b c => c.elim (ne_ft a) (ne_ft b)
      have A3 : inB (z.shifts.getD i.toNat TShift.z).at_ 0 4321439 = true → inB (z.shifts.getD i.toNat TShift.z).offset (-720) 840 = true → i = 0 → ¬ (z.shifts.getD i.toNat TShift.z).at_ = 0 → 3 = firstI z.shifts.length (shE z.shifts) := fun a b c d => (hE 3 q (hq.trans ((if_neg (no a b)).trans (if_pos ⟨c, d⟩))) (by decide)).symm
      have A7 : inB (z.shifts.getD i.toNat TShift.z).at_ 0 4321439 = true → inB (z.shifts.getD i.toNat TShift.z).offset (-720) 840 = true → 0 < i → (z.shifts.getD i.toNat TShift.z).at_ < IntKind.i64.wrap ((z.shifts.getD (IntKind.i64.wrap (i - 1)).toNat TShift.z).at_ + 1800) → 7 = firstI z.shifts.length (shE z.shifts) := fun a b c d => by
        rw [hw c q, show (i - 1).toNat = i.toNat - 1 by omega, i64w (by have := hP c; omega) (by have := hP c; omega)] at d
        exact (hE 7 q (hq.trans ((if_neg (no a b)).trans ((if_neg (by omega)).trans (if_pos ⟨c, d⟩)))) (by decide)).symm
      have A0 : inB (z.shifts.getD i.toNat TShift.z).at_ 0 4321439 = true → inB (z.shifts.getD i.toNat TShift.z).offset (-720) 840 = true → (i = 0 → (z.shifts.getD i.toNat TShift.z).at_ = 0) → (0 < i → ¬ (z.shifts.getD i.toNat TShift.z).at_ < IntKind.i64.wrap ((z.shifts.getD (IntKind.i64.wrap (i - 1)).toNat TShift.z).at_ + 1800)) → Rounds z.shifts.length (shE z.shifts) (IntKind.i64.wrap (i + 1)) ∧ ((z.shifts.length : Int) - IntKind.i64.wrap (i + 1)).toNat < ((z.shifts.length : Int) - i).toNat := fun a b c d => by
        refine ⟨hS q (hq.trans ((if_neg (no a b)).trans ((if_neg (fun e => e.2 (c e.1))).trans (if_neg ?_)))), hM q⟩
        rintro ⟨e1, e2⟩
        refine d e1 ?_
        rw [hw e1 q, show (i - 1).toNat = i.toNat - 1 by omega, i64w (by have := hP e1; omega) (by have := hP e1; omega)]
        exact e2
      have W : 0 < i → 0 ≤ IntKind.i64.wrap (i - 1) ∧ IntKind.i64.wrap (i - 1) < z.shifts.length := fun a => by rw [hw a q]; omega
      exact ⟨hi, q, fun a => ⟨fun b => A1 (.inr b), fun b => ⟨fun c => ⟨A3 a b c, fun d => ⟨fun e => ((by omega : False)).elim, fun e => A0 a b (fun _ => d) (fun e' => absurd e' e)⟩⟩, fun c => ⟨fun e => ⟨(W e).1, (W e).2, A7 a b e, fun f => A0 a b (fun c' => absurd c' c) (fun _ => f)⟩, fun e => ((by omega : False)).elim⟩⟩⟩, fun a => A1 (.inl a)⟩
set_option maxHeartbeats 4000000 in
theorem ZoneFault_ctr {cx : Cx} (h : Seat cx) : Ctr cx 14 zoneS := by
  refine ctr_of (fn := Tryz.f14) (l := [.tmp 2]) (envL [(52, (strB keyB)), (53, inS)]) [0, 1, 2, 3, 4, 5, 10, 15, 21, 22, 23, 24, 28, 39, 47] [] [] (envL_cons (Key_ctr h) (envL_cons (in_ctr h) (env0 h.hP))) ?_ (by rw [h.hP]; exact Tryz.func14) rfl (by kernel_rfl) rfl ?_ ?_
  · rw [h.hP]; exact ⟨_, Tryz.func14, by kernel_rfl, by kernel_rfl⟩
  · rintro xs ⟨z, rfl, h1⟩; exact ⟨_, z, rfl, rfl⟩
  · rintro xs ⟨z, rfl, h1⟩
    refine ⟨by rw [Tryz.ntmps14]; simp, ?_⟩
    simp only [go_sem, h.hP, List.cons_append, List.nil_append, Meets_e, Below_e, Prod.exists, exists_eq, exists_eq_left, exists_eq_left', exists_eq_right, exists_eq_right', exists_and_left, exists_and_right, Ob.arr.injEq, AV.own.injEq, AV.fv.injEq, zoneS_q, zoneS_p, zoneS_c, zoneS_f, strB_q, strB_p, strB_c, strB_f, TZone.row, TShift.len, Tryz.ntmps14, Nat.reduceEqDiff, reduceCtorEq, Nat.reduceMul, Nat.reduceAdd, Nat.reduceSub, Nat.reduceDiv, Nat.reduceMod, Nat.reduceLeDiff, Nat.reduceLT, Nat.reduceBNe, Nat.reduceBEq, reduceIte, Int.reduceLE, Int.reduceLT, Int.reduceToNat, Int.reduceNeg, Int.reduceAdd, Int.reduceSub, Int.reduceMul, Int.reduceEq]
    obtain ⟨o1, o2⟩ := h1
    unfold okS at o1
    refine ⟨by omega, fun c => (if_pos c).symm, fun c => ⟨fun d => ((if_neg (ne_ft c)).trans (if_pos (by omega))).symm, fun d => ⟨fun e => ((if_neg (ne_ft c)).trans ((if_neg (by omega)).trans (if_pos e))).symm, fun e => ?_⟩⟩⟩
    have hc : zoneF z = firstI z.shifts.length (shE z.shifts) := (if_neg (ne_ft c)).trans ((if_neg (by omega)).trans (if_neg e))
    rw [hc]
    refine vc_loopS (Int) (fun (i : Int) => [(23, .i i)]) [1] (fun (i : Int) => []) (fun (i : Int) => []) (fun (i : Int) => 0) (fun (i : Int) => Rounds z.shifts.length (shE z.shifts) i) (fun (i : Int) => (z.shifts.length - i).toNat) [] ?_ ?_
    · simp only [go_sem, h.hP, List.cons_append, List.nil_append, Meets_e, Below_e, Prod.exists, exists_eq, exists_eq_left, exists_eq_left', exists_eq_right, exists_eq_right', exists_and_left, exists_and_right, Ob.arr.injEq, AV.own.injEq, AV.fv.injEq, Tryz.ntmps14, Nat.reduceEqDiff, reduceCtorEq, Nat.reduceMul, Nat.reduceAdd, Nat.reduceSub, Nat.reduceDiv, Nat.reduceMod, Nat.reduceLeDiff, Nat.reduceLT, Nat.reduceBNe, Nat.reduceBEq, reduceIte, Int.reduceLE, Int.reduceLT, Int.reduceToNat, Int.reduceNeg, Int.reduceAdd, Int.reduceSub, Int.reduceMul, Int.reduceEq]
      exact Rounds.start
    · rintro i hr
      have hP : 0 < i → 0 ≤ (z.shifts.getD (i.toNat - 1) TShift.z).at_ ∧ (z.shifts.getD (i.toNat - 1) TShift.z).at_ ≤ 4321439 := fun a => by
        have := shE_in (hr.2.2 (i.toNat - 1) (by omega))
        exact ⟨this.1, this.2.1⟩
      obtain ⟨hi, hS, hM, hE, hN⟩ := hr.use (by omega)
      have hw : 0 < i → i < z.shifts.length → IntKind.i64.wrap (i - 1) = i - 1 := fun a b => i64w (by omega) (by omega)
      simp only [go_sem, h.hP, List.cons_append, List.nil_append, Meets_e, Below_e, Prod.exists, exists_eq, exists_eq_left, exists_eq_left', exists_eq_right, exists_eq_right', exists_and_left, exists_and_right, Ob.arr.injEq, AV.own.injEq, AV.fv.injEq, zoneS_q, zoneS_p, zoneS_c, zoneS_f, inS_q, inS_p, inS_c, inS_f, TZone.row, TShift.len, TShift.get, TShift.rows_inj, Tryz.ntmps14, Nat.reduceEqDiff, reduceCtorEq, Nat.reduceMul, Nat.reduceAdd, Nat.reduceSub, Nat.reduceDiv, Nat.reduceMod, Nat.reduceLeDiff, Nat.reduceLT, Nat.reduceBNe, Nat.reduceBEq, reduceIte, Int.reduceLE, Int.reduceLT, Int.reduceToNat, Int.reduceNeg, Int.reduceAdd, Int.reduceSub, Int.reduceMul, Int.reduceEq]
      refine ⟨fun q => ?_, fun q => (hN q).symm⟩
      have hq : shE z.shifts i.toNat = if inB (z.shifts.getD i.toNat TShift.z).at_ 0 4321439 = false ∨ inB (z.shifts.getD i.toNat TShift.z).offset (-720) 840 = false then 1 else if i = 0 ∧ ¬ (z.shifts.getD i.toNat TShift.z).at_ = 0 then 3 else if 0 < i ∧ (z.shifts.getD i.toNat TShift.z).at_ < (z.shifts.getD (i.toNat - 1) TShift.z).at_ + 1800 then 7 else 0 := by
        unfold shE
        rw [Int.toNat_of_nonneg hi]
        congr 2
        rw [show (i.toNat = 0) = (i = 0) from propext ⟨fun _ => by omega, fun _ => by omega⟩]
      have A1 : (inB (z.shifts.getD i.toNat TShift.z).at_ 0 4321439 = false ∨ inB (z.shifts.getD i.toNat TShift.z).offset (-720) 840 = false) → 1 = firstI z.shifts.length (shE z.shifts) := fun a => (hE 1 q (hq.trans (if_pos a)) (by decide)).symm
      have no : inB (z.shifts.getD i.toNat TShift.z).at_ 0 4321439 = true → inB (z.shifts.getD i.toNat TShift.z).offset (-720) 840 = true → ¬ (inB (z.shifts.getD i.toNat TShift.z).at_ 0 4321439 = false ∨ inB (z.shifts.getD i.toNat TShift.z).offset (-720) 840 = false) := fun a b c => c.elim (ne_ft a) (ne_ft b)
      have A3 : inB (z.shifts.getD i.toNat TShift.z).at_ 0 4321439 = true → inB (z.shifts.getD i.toNat TShift.z).offset (-720) 840 = true → i = 0 → ¬ (z.shifts.getD i.toNat TShift.z).at_ = 0 → 3 = firstI z.shifts.length (shE z.shifts) := fun a b c d => (hE 3 q (hq.trans ((if_neg (no a b)).trans (if_pos ⟨c, d⟩))) (by decide)).symm
      have A7 : inB (z.shifts.getD i.toNat TShift.z).at_ 0 4321439 = true → inB (z.shifts.getD i.toNat TShift.z).offset (-720) 840 = true → 0 < i → (z.shifts.getD i.toNat TShift.z).at_ < IntKind.i64.wrap ((z.shifts.getD (IntKind.i64.wrap (i - 1)).toNat TShift.z).at_ + 1800) → 7 = firstI z.shifts.length (shE z.shifts) := fun a b c d => by
        rw [hw c q, show (i - 1).toNat = i.toNat - 1 by omega, i64w (by have := hP c; omega) (by have := hP c; omega)] at d
        exact (hE 7 q (hq.trans ((if_neg (no a b)).trans ((if_neg (by omega)).trans (if_pos ⟨c, d⟩)))) (by decide)).symm
      have A0 : inB (z.shifts.getD i.toNat TShift.z).at_ 0 4321439 = true → inB (z.shifts.getD i.toNat TShift.z).offset (-720) 840 = true → (i = 0 → (z.shifts.getD i.toNat TShift.z).at_ = 0) → (0 < i → ¬ (z.shifts.getD i.toNat TShift.z).at_ < IntKind.i64.wrap ((z.shifts.getD (IntKind.i64.wrap (i - 1)).toNat TShift.z).at_ + 1800)) → Rounds z.shifts.length (shE z.shifts) (IntKind.i64.wrap (i + 1)) ∧ ((z.shifts.length : Int) - IntKind.i64.wrap (i + 1)).toNat < ((z.shifts.length : Int) - i).toNat := fun a b c d => by
        refine ⟨hS q (hq.trans ((if_neg (no a b)).trans ((if_neg (fun e => e.2 (c e.1))).trans (if_neg ?_)))), hM q⟩
        rintro ⟨e1, e2⟩
        refine d e1 ?_
        rw [hw e1 q, show (i - 1).toNat = i.toNat - 1 by omega, i64w (by have := hP e1; omega) (by have := hP e1; omega)]
        exact e2
      have W : 0 < i → 0 ≤ IntKind.i64.wrap (i - 1) ∧ IntKind.i64.wrap (i - 1) < z.shifts.length := fun a => by rw [hw a q]; omega
      exact ⟨hi, q, fun a => ⟨fun b => A1 (.inr b), fun b => ⟨fun c => ⟨A3 a b c, fun d => ⟨fun e => ((by omega : False)).elim, fun e => A0 a b (fun _ => d) (fun e' => absurd e' e)⟩⟩, fun c => ⟨fun e => ⟨(W e).1, (W e).2, A7 a b e, fun f => A0 a b (fun c' => absurd c' c) (fun _ => f)⟩, fun e => ((by omega : False)).elim⟩⟩⟩, fun a => A1 (.inl a)⟩

end Go.Avc

/- The generators of zones: their contracts. No condition. -/
set_option linter.unusedVariables false
set_option linter.unusedSimpArgs false
set_option maxRecDepth 100000
namespace Go.Avc
open Go Go.Proofs

theorem isIn_in {x : Int} {l : List Int} (h : isIn x l) {a b : Int} (hb : l.all (fun y => decide (a ≤ y ∧ y ≤ b)) = true) : a ≤ x ∧ x ≤ b := by
  have := List.all_eq_true.1 hb x h
  simpa using this
def okSh (c : TShift) : Prop := c.ok ∧ 0 ≤ c.at_ ∧ c.at_ ≤ 200000
def zoneG : Spec where
  pre xs := xs = [.st]
  post xs y := ∃ z : TZone, z.ok ∧ (∀ c ∈ z.shifts, okSh c) ∧ (1 ≤ z.shifts.length ∧ z.shifts.length ≤ 4) ∧ y = .dv (.ag z.row)
  cost _ := 100
  fresh := false
set_option maxHeartbeats 16000000 in
theorem RightZone_ctr {cx : Cx} (h : Seat cx) : CtrO cx 44 zoneG 78 2002 := by
  refine ctrZ_of (fn := Tryz.f44) (t := 2) (T := 28) (j := 1) (z := 2) (envL [(10, pickS), (46, oneS)]) [0, 2, 3, 4, 16, 17, 18] [] [] (envL_cons (pick_ctr cx h.hP h.hS) (envL_cons (one_ctr h) (env0 h.hP))) ?_ (by rw [h.hP]; exact Tryz.func44) rfl (by kernel_rfl) rfl ?_ (by decide)
  · rw [h.hP]; exact ⟨_, Tryz.func44, by kernel_rfl, by kernel_rfl⟩
  · rintro xs rfl
    refine ⟨by rw [Tryz.ntmps44]; simp, ?_⟩
    simp only [go_sem, h.hP, List.cons_append, List.nil_append, Meets_e, Below_e, Prod.exists, exists_eq, exists_eq_left, exists_eq_left', exists_eq_right, exists_eq_right', exists_and_left, exists_and_right, Ob.arr.injEq, AV.own.injEq, AV.fv.injEq, zoneG, pickS_q, pickS_p, pickS_c, pickS_f, oneS_q, oneS_p, oneS_c, oneS_f, ints1, intsc, strs1, strsc, intsDi_inj, rowsT_inj, TShift.fold1, Tryz.ntmps44, Nat.reduceEqDiff, reduceCtorEq, Nat.reduceMul, Nat.reduceAdd, Nat.reduceSub, Nat.reduceDiv, Nat.reduceMod, Nat.reduceLeDiff, Nat.reduceLT, Nat.reduceBNe, Nat.reduceBEq, reduceIte, Int.reduceLE, Int.reduceLT, Int.reduceToNat, Int.reduceNeg, Int.reduceAdd, Int.reduceSub, Int.reduceMul, Int.reduceEq]
    intro a ha b hb n hn
    have hn2 := isIn_le hn (b := 3) (by decide)
    have ha2 := okS_of (isOf_ok ha (by decide))
    have hb2 := isIn_ok hb (by decide)
    refine vc_loopS (Int × Int × List TShift) (fun x => [(17, .i x.1), (4, .i x.2.1)]) [2, 3] (fun x => if x.1 = 0 then [(3, 1, .lit 78 (TShift.rows x.2.2))] else [(3, 1, .own 10301)]) (fun x => if x.1 = 0 then [] else [(10301, .arr 78 2 (TShift.rows x.2.2))]) (fun x => 10 + 4 * x.1.toNat) (fun x => 0 ≤ x.1 ∧ x.1 ≤ 3 ∧ 0 ≤ x.2.1 ∧ x.2.1 ≤ 40000 * x.1 ∧ (x.2.2.length : Int) = 1 + x.1 ∧ ∀ c ∈ x.2.2, okSh c) (fun x => (3 - x.1).toNat) [(10301, 78, 2)] ?_ ?_
    · refine meets_mk _ (0, 0, [⟨0, b⟩]) ⟨by simp, by simp, by simp, by simp, by simp, fun c hc => ?_⟩ ?_
      · rw [List.mem_singleton] at hc; rw [hc]; exact ⟨⟨okI_z, hb2⟩, (by dsimp only; omega), by dsimp only; omega⟩
      · simp only [go_sem, h.hP, At, if_true, TShift.rows_inj, Tryz.ntmps44, Nat.reduceEqDiff, reduceCtorEq, Nat.reduceMul, Nat.reduceAdd, Nat.reduceSub, Nat.reduceDiv, Nat.reduceMod, Nat.reduceLeDiff, Nat.reduceLT, Nat.reduceBNe, Nat.reduceBEq, reduceIte, Int.reduceLE, Int.reduceLT, Int.reduceToNat, Int.reduceNeg, Int.reduceAdd, Int.reduceSub, Int.reduceMul, Int.reduceEq]
    · rintro ⟨i, t, l⟩ ⟨j1, j2, j3, j4, j5, j6⟩
      dsimp only at j1 j2 j3 j4 j5 j6
      have hw : i < 3 → IntKind.i64.wrap (i + 1) = i + 1 := fun _ => i64w (by omega) (by omega)
      by_cases e : i = 0
      · subst e
        simp only [go_sem, h.hP, zoneG, pickS_q, pickS_p, pickS_c, pickS_f, oneS_q, oneS_p, oneS_c, oneS_f, ints1, intsc, strs1, strsc, intsDi_inj, rowsT_inj, TShift.fold1, TShift.app', TShift.rows_inj, TShift.zlT, TShift.len, TZone.row, TZone.ex, List.length_append, List.length_singleton, Tryz.ntmps44, Nat.reduceEqDiff, reduceCtorEq, Nat.reduceMul, Nat.reduceAdd, Nat.reduceSub, Nat.reduceDiv, Nat.reduceMod, Nat.reduceLeDiff, Nat.reduceLT, Nat.reduceBNe, Nat.reduceBEq, reduceIte, Int.reduceLE, Int.reduceLT, Int.reduceToNat, Int.reduceNeg, Int.reduceAdd, Int.reduceSub, Int.reduceMul, Int.reduceEq]
        refine ⟨fun c a2 h2 a4 h4 => ⟨by simp [TShift.rows], by omega, by omega, ?_⟩, fun c => ⟨by simp [TShift.rows]; intro e; rw [e] at j5; simp at j5, TShift.flat l, fun i x hi hx => ?_, a, l, ⟨ha2, (by show l.length ≤ _; omega), fun c hc => (j6 c hc).1⟩, j6, by omega, by omega, rfl, rfl⟩⟩
        · have q2 := isIn_in h2 (a := 0) (b := 40000) (by decide)
          have ho : okI (t + a2) := ⟨by omega, by omega⟩
          refine below_mk _ (0 + 1, t + a2, l ++ [⟨t + a2, a4⟩]) ?_ (by dsimp only; omega) ?_
          · dsimp only
            exact ⟨by omega, by omega, by omega, by omega, by simp; omega, okL_app j6 ⟨⟨ho, isIn_ok h4 (by decide)⟩, by dsimp only; omega, by dsimp only; omega⟩⟩
          have w2 : IntKind.i64.wrap (t + a2) = t + a2 := i64w (by omega) (by omega)
          have w1 : IntKind.i64.wrap 1 = 1 := i64w (by omega) (by omega)
          simp only [go_sem, h.hP, At, TShift.rows_inj, w2, w1, Tryz.ntmps44, Nat.reduceEqDiff, reduceCtorEq, Nat.reduceMul, Nat.reduceAdd, Nat.reduceSub, Nat.reduceDiv, Nat.reduceMod, Nat.reduceLeDiff, Nat.reduceLT, Nat.reduceBNe, Nat.reduceBEq, reduceIte, Int.reduceLE, Int.reduceLT, Int.reduceToNat, Int.reduceNeg, Int.reduceAdd, Int.reduceSub, Int.reduceMul, Int.reduceEq]
        · match i, hi, hx with
          | 0, _, hx => cases hx; rfl
          | 1, hi, _ => exact absurd rfl hi
          | n + 2, _, hx => cases hx
      · simp only [go_sem, h.hP, zoneG, pickS_q, pickS_p, pickS_c, pickS_f, oneS_q, oneS_p, oneS_c, oneS_f, ints1, intsc, strs1, strsc, intsDi_inj, rowsT_inj, TShift.fold1, TShift.app', TShift.rows_inj, TShift.zlT, TShift.len, TZone.row, TZone.ex, List.length_append, List.length_singleton, if_neg e, Tryz.ntmps44, Nat.reduceEqDiff, reduceCtorEq, Nat.reduceMul, Nat.reduceAdd, Nat.reduceSub, Nat.reduceDiv, Nat.reduceMod, Nat.reduceLeDiff, Nat.reduceLT, Nat.reduceBNe, Nat.reduceBEq, reduceIte, Int.reduceLE, Int.reduceLT, Int.reduceToNat, Int.reduceNeg, Int.reduceAdd, Int.reduceSub, Int.reduceMul, Int.reduceEq]
        have hc : 10 + 4 * i.toNat ≤ 98 := by omega
        refine ⟨by omega, fun c => ⟨by omega, by omega, by omega, by omega, fun a2 h2 => ⟨by omega, by omega, by omega, by omega, by omega, by omega, by omega, by omega, fun a4 h4 => ⟨by omega, by omega, by omega, by omega, by omega, by omega, by omega, ?_⟩⟩⟩, fun c => ⟨by omega, by omega, TShift.flat l, fun i x hi hx => ?_, a, l, ⟨ha2, (by show l.length ≤ _; omega), fun c hc => (j6 c hc).1⟩, j6, by omega, by omega, rfl, rfl⟩⟩
        · have q2 := isIn_in h2 (a := 0) (b := 40000) (by decide)
          have w2 : IntKind.i64.wrap (t + a2) = t + a2 := i64w (by omega) (by omega)
          have ho : okI (t + a2) := ⟨by omega, by omega⟩
          refine below_mk _ (i + 1, t + a2, l ++ [⟨t + a2, a4⟩]) ?_ (by dsimp only; omega) ?_
          · dsimp only
            exact ⟨by omega, by omega, by omega, by omega, by simp; omega, okL_app j6 ⟨⟨ho, isIn_ok h4 (by decide)⟩, by dsimp only; omega, by dsimp only; omega⟩⟩
          have e1 : ¬ i + 1 = 0 := by omega
          simp only [go_sem, h.hP, At, TShift.rows_inj, w2, hw (by omega), if_neg e1, Tryz.ntmps44, Nat.reduceEqDiff, reduceCtorEq, Nat.reduceMul, Nat.reduceAdd, Nat.reduceSub, Nat.reduceDiv, Nat.reduceMod, Nat.reduceLeDiff, Nat.reduceLT, Nat.reduceBNe, Nat.reduceBEq, reduceIte, Int.reduceLE, Int.reduceLT, Int.reduceToNat, Int.reduceNeg, Int.reduceAdd, Int.reduceSub, Int.reduceMul, Int.reduceEq]
          omega
        · match i, hi, hx with
          | 0, _, hx => cases hx; rfl
          | 1, hi, _ => exact absurd rfl hi
          | n + 2, _, hx => cases hx
def zoneG2 : Spec where
  pre xs := xs = [.st]
  post xs y := ∃ z : TZone, z.ok ∧ y = .dv (.ag z.row)
  cost _ := 110
  fresh := false
set_option maxHeartbeats 16000000 in
theorem Zone_ctr {cx : Cx} (h : Seat cx) : Ctr cx 9 zoneG2 := by
  refine ctr_of (fn := Tryz.f9) (l := [.cell 2 28]) (envO [(45, flipS), (11, nextS), (10, pickS), (46, oneS), (47, oddS)] [] [(44, zoneG, 78, 2002)]) [0, 2, 3, 7, 9, 31, 37, 40] [11] [] (envO_cons (RightZone_ctr h) (envO_nil (envF_nil (envL_cons (flip_ctr cx h.hP h.hS) (envL_cons (next_ctr cx h.hP h.hS) (envL_cons (pick_ctr cx h.hP h.hS) (envL_cons (one_ctr h) (envL_cons (odd_ctr h) (env0 h.hP))))))))) ?_ (by rw [h.hP]; exact Tryz.func9) rfl (by kernel_rfl) rfl ?_ ?_
  · rw [h.hP]; exact ⟨_, Tryz.func9, by kernel_rfl, by kernel_rfl⟩
  · rintro xs rfl; exact ⟨_, TZone.z, TZone.z_ok, rfl⟩
  · rintro xs rfl
    refine ⟨by rw [Tryz.ntmps9]; simp, ?_⟩
    simp only [go_sem, h.hP, List.cons_append, List.nil_append, Meets_e, Below_e, Prod.exists, exists_eq, exists_eq_left, exists_eq_left', exists_eq_right, exists_eq_right', exists_and_left, exists_and_right, Ob.arr.injEq, AV.own.injEq, AV.fv.injEq, zoneG, zoneG2, flipS_q, flipS_p, flipS_c, flipS_f, TZone.row, List.getElem?_cons_succ, List.getElem?_cons_zero, Tryz.ntmps9, Nat.reduceEqDiff, reduceCtorEq, Nat.reduceMul, Nat.reduceAdd, Nat.reduceSub, Nat.reduceDiv, Nat.reduceMod, Nat.reduceLeDiff, Nat.reduceLT, Nat.reduceBNe, Nat.reduceBEq, reduceIte, Int.reduceLE, Int.reduceLT, Int.reduceToNat, Int.reduceNeg, Int.reduceAdd, Int.reduceSub, Int.reduceMul, Int.reduceEq]
    intro z o o' h1 h4
    refine vc_cutT (TZone) (fun (y : TZone) => [(7, .un), (9, .un), (31, .un), (37, .un), (40, .un)]) [2] (fun (y : TZone) => []) (fun (y : TZone) => [(3, .box 28 [.str y.name, .sl (TShift.rows y.shifts)])]) (fun (y : TZone) => 105) (fun (y : TZone) => y.ok) [] ?_ ?_ ?_
    · rfl
    · simp only [go_sem, h.hP, List.cons_append, List.nil_append, Meets_e, Below_e, Prod.exists, exists_eq, exists_eq_left, exists_eq_left', exists_eq_right, exists_eq_right', exists_and_left, exists_and_right, Ob.arr.injEq, AV.own.injEq, AV.fv.injEq, flipS_q, flipS_p, flipS_c, flipS_f, nextS_q, nextS_p, nextS_c, nextS_f, pickS_q, pickS_p, pickS_c, pickS_f, oneS_q, oneS_p, oneS_c, oneS_f, oddS_q, oddS_p, oddS_c, oddS_f, ints1, intsc, strs1, strsc, intsDi_inj, TShift.len, TShift.get, TShift.fold1, TShift.app', TShift.rows_inj, TShift.zlT, List.length_append, List.length_singleton, TZone.ex, Tryz.ntmps9, Nat.reduceEqDiff, reduceCtorEq, Nat.reduceMul, Nat.reduceAdd, Nat.reduceSub, Nat.reduceDiv, Nat.reduceMod, Nat.reduceLeDiff, Nat.reduceLT, Nat.reduceBNe, Nat.reduceBEq, reduceIte, Int.reduceLE, Int.reduceLT, Int.reduceToNat, Int.reduceNeg, Int.reduceAdd, Int.reduceSub, Int.reduceMul, Int.reduceEq]
      have w1 : IntKind.i64.wrap (↑z.shifts.length - 1) = (z.shifts.length - 1 : Nat) := by rw [i64w (by omega) (by omega)]; omega
      refine fun b => ⟨fun _ a a0 a4 => ⟨fun _ s hs => ⟨okS_of (isOf_ok hs (by decide)), o.2⟩, fun _ => ⟨fun _ => ⟨[], rfl, o.1, okL_z _⟩, fun _ => ⟨fun _ s hs => ⟨by omega, by omega, _, TShift.rset z.shifts 0 ⟨s, (z.shifts.getD 0 TShift.z).offset⟩, o.1, ?_⟩, fun _ => ⟨by omega, by omega, by omega, fun s hs q q1 q2 => ⟨by omega, by omega, o.1, ?_⟩⟩⟩⟩⟩, fun _ => o⟩
      · have hz : okI (z.shifts.getD 0 TShift.z).offset := (okL_get o.2 TShift.z_ok 0).2
        refine ⟨by rw [List.length_set]; omega, fun x hx => ?_⟩
        rcases List.mem_or_eq_of_mem_set hx with hx | rfl
        · exact o.2.2 x hx
        · exact ⟨isIn_ok hs (by decide), hz⟩
      · rw [w1, Int.toNat_natCast]
        have hz := all_get (p := okSh) o' (d := TShift.z) ⟨TShift.z_ok, by decide, by decide⟩ (z.shifts.length - 1)
        have hs2 := isIn_le hs (b := 1800) (by decide)
        have hz1 := hz.2.1
        have hz2 := hz.2.2
        rw [i64w (by omega) (by omega)]
        exact okL_snoc o.2.2 (by omega) ⟨⟨by dsimp only; omega, by dsimp only; omega⟩, odd_ok q1 q2⟩
    · rintro y hy
      simp only [go_sem, h.hP, List.cons_append, List.nil_append, Meets_e, Below_e, Prod.exists, exists_eq, exists_eq_left, exists_eq_left', exists_eq_right, exists_eq_right', exists_and_left, exists_and_right, Ob.arr.injEq, AV.own.injEq, AV.fv.injEq, zoneG2, TZone.row, TZone.ex, TShift.rows_inj, Tryz.ntmps9, Nat.reduceEqDiff, reduceCtorEq, Nat.reduceMul, Nat.reduceAdd, Nat.reduceSub, Nat.reduceDiv, Nat.reduceMod, Nat.reduceLeDiff, Nat.reduceLT, Nat.reduceBNe, Nat.reduceBEq, reduceIte, Int.reduceLE, Int.reduceLT, Int.reduceToNat, Int.reduceNeg, Int.reduceAdd, Int.reduceSub, Int.reduceMul, Int.reduceEq]
      exact ⟨_, _, hy, rfl, rfl⟩
end Go.Avc

/- What the clocks of a right zone show: sort.Search and LocalAt; plain law. No condition. -/
set_option linter.unusedVariables false
set_option linter.unusedSimpArgs false
set_option maxRecDepth 100000
namespace Go.Avc
open Go Go.Proofs

/-! ### Plain law -/
def ascZ (l : List TShift) : Prop := ∀ i j : Nat, i ≤ j → j < l.length → (l.getD i TShift.z).at_ ≤ (l.getD j TShift.z).at_
structure OkZ (l : List TShift) : Prop where
  one : 1 ≤ l.length
  few : l.length ≤ 100
  asc : ascZ l
  fst : (l.getD 0 TShift.z).at_ = 0
  offs : ∀ i : Nat, i < l.length → -720 ≤ (l.getD i TShift.z).offset ∧ (l.getD i TShift.z).offset ≤ 840
  tops : ∀ i : Nat, i < l.length → (l.getD i TShift.z).at_ ≤ 4321439
theorem okZ {z : TZone} (h : zoneF z = 0) : OkZ z.shifts := by
  unfold zoneF at h
  split at h
  · cases h
  split at h
  · cases h
  split at h
  · cases h
  rename_i c1 c2 c3
  have hz := firstI_zero h
  have hstep : ∀ i : Nat, i + 1 < z.shifts.length → (z.shifts.getD i TShift.z).at_ ≤ (z.shifts.getD (i + 1) TShift.z).at_ := fun i hi => by
    have := hz (i + 1) hi
    unfold shE at this
    split at this
    · cases this
    split at this
    · cases this
    split at this
    · cases this
    rename_i d1 d2 d3
    rw [Nat.add_sub_cancel] at d3
    have : ¬ (z.shifts.getD (i + 1) TShift.z).at_ < (z.shifts.getD i TShift.z).at_ + 1800 := fun e => d3 ⟨by omega, e⟩
    omega
  refine ⟨by omega, by omega, ?_, ?_, fun i hi => ⟨(shE_in (hz i hi)).2.2.1, (shE_in (hz i hi)).2.2.2⟩, fun i hi => (shE_in (hz i hi)).2.1⟩
  · intro i j hij
    induction j with
    | zero =>
      intro _
      obtain rfl : i = 0 := by omega
      exact Int.le_refl _
    | succ j ih =>
      intro hj
      by_cases e : i = j + 1
      · subst e; exact Int.le_refl _
      · exact Int.le_trans (ih (by omega) (by omega)) (hstep j hj)
  · have := hz 0 (by omega)
    unfold shE at this
    split at this
    · cases this
    split at this
    · cases this
    rename_i d1 d2
    exact Decidable.not_not.1 (fun e => d2 ⟨rfl, e⟩)
/-- The first shift that is still to come. -/
def srchN (l : List TShift) (m : Int) : Nat := l.findIdx fun s => decide (m < s.at_)
theorem srchN_is {l : List TShift} {m i : Int} (h0 : 0 ≤ i) (h1 : i ≤ l.length) (h2 : ∀ k : Nat, (k : Int) < i → (l.getD k TShift.z).at_ ≤ m) (h3 : ∀ k : Nat, i ≤ (k : Int) → k < l.length → m < (l.getD k TShift.z).at_) : i = (srchN l m : Int) := by
  obtain ⟨n, rfl⟩ : ∃ n : Nat, i = n := ⟨i.toNat, by omega⟩
  have h1' : n ≤ l.length := by omega
  congr 1
  symm
  unfold srchN
  have hb : ∀ k : Nat, k < n → ∃ hk : k < l.length, decide (m < (l[k]'hk).at_) = false := fun k hk => by
    have := h2 k (by omega)
    rw [List.getD_eq_getElem?_getD, List.getElem?_eq_getElem (by omega), Option.getD_some] at this
    exact ⟨by omega, decide_eq_false (by omega)⟩
  by_cases e : n = l.length
  · subst e
    rw [List.findIdx_eq_length]
    intro x hx
    obtain ⟨k, hk, rfl⟩ := List.mem_iff_getElem.1 hx
    exact (hb k hk).2
  · have hn : n < l.length := by omega
    rw [List.findIdx_eq hn]
    refine ⟨?_, fun j hj => (hb j hj).2⟩
    have := h3 n (by omega) hn
    rw [List.getD_eq_getElem?_getD, List.getElem?_eq_getElem hn, Option.getD_some] at this
    exact decide_eq_true this
theorem srchN_le (l : List TShift) (m : Int) : srchN l m ≤ l.length := List.findIdx_le_length
theorem srchN_lt {l : List TShift} {m : Int} {k : Nat} (h : k < srchN l m) : (l.getD k TShift.z).at_ ≤ m := by
  have hl : k < l.length := Nat.lt_of_lt_of_le h (srchN_le l m)
  have := List.not_of_lt_findIdx h
  rw [List.getD_eq_getElem?_getD, List.getElem?_eq_getElem hl, Option.getD_some]
  simpa using this
theorem srchN_ge {l : List TShift} {m : Int} (ha : ascZ l) {k : Nat} (h : srchN l m ≤ k) (hk : k < l.length) : m < (l.getD k TShift.z).at_ := by
  have h0 : srchN l m < l.length := Nat.lt_of_le_of_lt h hk
  have := List.findIdx_getElem (w := h0)
  have h2 := ha _ _ h hk
  rw [List.getD_eq_getElem?_getD, List.getElem?_eq_getElem h0, Option.getD_some] at h2
  have := of_decide_eq_true this
  exact Int.lt_of_lt_of_le this h2
theorem srchN_pos {l : List TShift} {m : Int} (h : OkZ l) (hm : 0 ≤ m) : 1 ≤ srchN l m := by
  rcases Nat.eq_zero_or_pos (srchN l m) with e | e
  · have := srchN_ge (m := m) h.asc (k := 0) (by omega) (by have := h.one; omega)
    rw [h.fst] at this
    omega
  · exact e
def locF (l : List TShift) (m : Int) : Int := m + (l.getD (srchN l m - 1) TShift.z).offset
theorem locF_le {l : List TShift} {m : Int} (h : OkZ l) (hm : 0 ≤ m) : m - 720 ≤ locF l m ∧ locF l m ≤ m + 840 := by
  have h1 := srchN_pos h hm
  have h2 := srchN_le l m
  have := h.offs (srchN l m - 1) (by omega)
  unfold locF
  omega
def pairsZ (l : List TShift) : List (Int × Int) := l.map fun s => (s.at_, s.offset)
theorem pairsZ_len (l : List TShift) : (pairsZ l).length = l.length := List.length_map ..
theorem pairsZ_get (l : List TShift) (i : Nat) : (pairsZ l)[i]?.getD (0, 0) = ((l.getD i TShift.z).at_, (l.getD i TShift.z).offset) := by
  unfold pairsZ
  rw [List.getElem?_map, List.getD_eq_getElem?_getD]
  cases l[i]? <;> rfl
/-- The clock goes back from the last shift: it finds the same one. -/
theorem clock_eq {l : List TShift} {m : Int} (h : OkZ l) (hm : 0 ≤ m) (hm2 : m ≤ 4321440) : Clk.clock m (pairsZ l) = locF l m := by
  have h1 := srchN_pos h hm
  have h2 := srchN_le l m
  have ho := h.offs (srchN l m - 1) (by omega)
  have hlast : Clk.upto (Clk.nth (pairsZ l)) (l.length - srchN l m + 1) = Clk.upto (Clk.nth (pairsZ l)) (l.length - srchN l m) ++ [Clk.nth (pairsZ l) (l.length - srchN l m)] := Clk.upto_succ _ _
  have e := Clk.clock_some (m := m) (zs := pairsZ l) (k := l.length - srchN l m + 1) (by rw [pairsZ_len]; omega) hlast ?_ ?_
  · rw [e]
    unfold locF Clk.nth
    dsimp only
    rw [pairsZ_get, pairsZ_len, show l.length - 1 - (l.length - srchN l m) = srchN l m - 1 by omega]
    dsimp only
    unfold RowKit.wrap64
    omega
  · intro p hp
    obtain ⟨j, hj, rfl⟩ := List.mem_map.1 hp
    have hj := List.mem_range.1 hj
    unfold Clk.hit Clk.nth
    dsimp only
    rw [pairsZ_get, pairsZ_len]
    have := srchN_ge (m := m) h.asc (k := l.length - 1 - j) (by omega) (by omega)
    exact decide_eq_false (by dsimp only; omega)
  · unfold Clk.hit Clk.nth
    dsimp only
    rw [pairsZ_get, pairsZ_len]
    have := srchN_lt (l := l) (m := m) (k := l.length - 1 - (l.length - srchN l m)) (by omega)
    exact decide_eq_true (by dsimp only; exact this)
/-! ### The program -/
def locS : Spec where
  pre xs := ∃ (i : Int) (z : TZone) (m : Int), xs = [.i i, .dp z.row, .dp [.int .i64 m]] ∧ 0 ≤ i ∧ i < z.shifts.length
  post xs r := ∃ (i : Int) (z : TZone) (m : Int), xs = [.i i, .dp z.row, .dp [.int .i64 m]] ∧ r = .b (decide (m < (z.shifts.getD i.toNat TShift.z).at_))
  cost _ := 0
  fresh := true
theorem locS_c (xs : List AV) : locS.cost xs = 0 := nr rfl
theorem locS_f : locS.fresh = true := nr rfl
theorem LocalAt1_ctr {cx : Cx} (h : Seat cx) : Ctr cx 93 locS := by
  refine ctr_of (fn := Tryz.f93) (l := [.tmp 4]) (envL []) [0, 1, 2, 4] [] [] (env0 h.hP) ?_ (by rw [h.hP]; exact Tryz.func93) rfl (by kernel_rfl) rfl ?_ ?_
  · rw [h.hP]; exact ⟨_, Tryz.func93, by kernel_rfl, by kernel_rfl⟩
  · rintro xs ⟨i, z, m, rfl, h1⟩; exact ⟨_, i, z, m, rfl, rfl⟩
  · rintro xs ⟨i, z, m, rfl, h1, h2⟩
    refine ⟨by rw [Tryz.ntmps93]; simp, ?_⟩
    simp only [go_sem, h.hP, List.cons_append, List.nil_append, Meets_e, Below_e, Prod.exists, exists_eq, exists_eq_left, exists_eq_left', exists_eq_right, exists_eq_right', exists_and_left, exists_and_right, Ob.arr.injEq, AV.own.injEq, AV.fv.injEq, TZone.row, TShift.len, TShift.get, locS_c, locS_f, Tryz.ntmps93, Nat.reduceEqDiff, reduceCtorEq, Nat.reduceMul, Nat.reduceAdd, Nat.reduceSub, Nat.reduceDiv, Nat.reduceMod, Nat.reduceLeDiff, Nat.reduceLT, Nat.reduceBNe, Nat.reduceBEq, reduceIte, Int.reduceLE, Int.reduceLT, Int.reduceToNat, Int.reduceNeg, Int.reduceAdd, Int.reduceSub, Int.reduceMul, Int.reduceEq]
    exact ⟨h1, h2, i, z, m, rfl, rfl⟩
def locΦ (caps : List (List D)) : FSpec where
  pre xs := ∃ (z : TZone) (m i : Int), caps = [z.row, [.int .i64 m]] ∧ xs = [.d (.int .i64 i)] ∧ 0 ≤ i ∧ i < z.shifts.length
  post xs r := ∃ (z : TZone) (m i : Int), caps = [z.row, [.int .i64 m]] ∧ xs = [.d (.int .i64 i)] ∧ r = .d (.bool (decide (m < (z.shifts.getD i.toNat TShift.z).at_)))
theorem locΦ_of {cx : Cx} {fn : FuncId} (h : Ctr cx fn locS) (caps : List (List D)) : Ctr cx fn (clo locΦ caps) := by
  refine h.weaken (fun xs hx => ?_) (fun xs r hx hr => ?_) (fun _ => Nat.le_refl _) rfl
  · obtain ⟨ys, rfl, z, m, i, rfl, rfl, h1, h2⟩ := hx
    exact ⟨i, z, m, rfl, h1, h2⟩
  · obtain ⟨ys, rfl, z, m, i, rfl, rfl, h1, h2⟩ := hx
    obtain ⟨i', z', m', e, rfl⟩ := hr
    simp only [List.map_cons, List.map_nil, List.cons_append, List.nil_append, List.cons.injEq, AV.dv.injEq, AV.dp.injEq, DV.d.injEq, D.int.injEq, true_and, and_true] at e
    obtain ⟨rfl, e1, rfl⟩ := e
    obtain rfl := TZone.inj e1
    exact ⟨_, _, rfl, rfl, _, _, _, rfl, rfl, rfl⟩
theorem locΦ_pre (z : TZone) (m i : Int) : (locΦ [[.str z.name, .sl (TShift.rows z.shifts)], [.int .i64 m]]).pre [.d (.int .i64 i)] = (0 ≤ i ∧ i < z.shifts.length) := by
  apply propext
  constructor
  · rintro ⟨z', m', i', e1, e2, h1, h2⟩
    simp only [List.cons.injEq, DV.d.injEq, D.int.injEq, true_and, and_true] at e1 e2
    obtain rfl := TZone.inj (x := z) e1.1
    subst e2
    exact ⟨h1, h2⟩
  · rintro ⟨h1, h2⟩
    exact ⟨z, m, i, rfl, rfl, h1, h2⟩
theorem locΦ_post (z : TZone) (m i : Int) (y : DV) : (locΦ [[.str z.name, .sl (TShift.rows z.shifts)], [.int .i64 m]]).post [.d (.int .i64 i)] y = (y = .d (.bool (decide (m < (z.shifts.getD i.toNat TShift.z).at_)))) := by
  apply propext
  constructor
  · rintro ⟨z', m', i', e1, e2, rfl⟩
    simp only [List.cons.injEq, DV.d.injEq, D.int.injEq, true_and, and_true] at e1 e2
    obtain ⟨e1, rfl⟩ := e1
    obtain rfl := TZone.inj (x := z) e1
    subst e2
    rfl
  · rintro rfl
    exact ⟨z, m, i, rfl, rfl, rfl⟩
def searchS : Spec where
  pre xs := ∃ (z : TZone) (m : Int), xs = [.i z.shifts.length, .fv (locΦ [z.row, [.int .i64 m]])] ∧ ascZ z.shifts ∧ z.shifts.length ≤ 100
  post xs r := ∃ (z : TZone) (m : Int), xs = [.i z.shifts.length, .fv (locΦ [z.row, [.int .i64 m]])] ∧ ascZ z.shifts ∧ r = .i (srchN z.shifts m)
  cost _ := 0
  fresh := true
theorem searchS_c (xs : List AV) : searchS.cost xs = 0 := nr rfl
theorem searchS_f : searchS.fresh = true := nr rfl
theorem searchS_q (z : TZone) (m : Int) (h1 : ascZ z.shifts) (h2 : z.shifts.length ≤ 100) : searchS.pre [.i z.shifts.length, .fv (locΦ [[.str z.name, .sl (TShift.rows z.shifts)], [.int .i64 m]])] = True := eq_true ⟨z, m, rfl, h1, h2⟩
theorem searchS_p (z : TZone) (m : Int) (h1 : ascZ z.shifts) : searchS.post [.i z.shifts.length, .fv (locΦ [[.str z.name, .sl (TShift.rows z.shifts)], [.int .i64 m]])] = fun r => r = .i (srchN z.shifts m) := by
  funext r
  apply propext
  constructor
  · rintro ⟨z', m', e, h2, rfl⟩
    simp only [List.cons.injEq, AV.dv.injEq, DV.d.injEq, D.int.injEq, AV.fv.injEq, true_and, and_true] at e
    obtain ⟨e1, e2⟩ := e
    have e1' : z.shifts.length = z'.shifts.length := by omega
    have hd : ∀ k : Nat, (m < (z.shifts.getD k TShift.z).at_) = (m' < (z'.shifts.getD k TShift.z).at_) := fun k => by
      have a1 := locΦ_post z m k (.d (.bool true))
      have a2 := locΦ_post z' m' k (.d (.bool true))
      have e3 : locΦ [[D.str z.name, D.sl (TShift.rows z.shifts)], [D.int IntKind.i64 m]] = locΦ [[D.str z'.name, D.sl (TShift.rows z'.shifts)], [D.int IntKind.i64 m']] := e2
      rw [e3] at a1
      have a3 := a1.symm.trans a2
      simp only [DV.d.injEq, D.bool.injEq, Int.toNat_natCast] at a3
      simpa [eq_comm] using a3
    congr 1
    have hs := srchN_le z'.shifts m'
    have := srchN_is (l := z.shifts) (m := m) (i := srchN z'.shifts m') (by omega) (by omega) (fun k hk => ?_) (fun k hk hl => ?_)
    · rw [this]
    · have := srchN_lt (l := z'.shifts) (m := m') (k := k) (by omega)
      have h := hd k
      exact Int.not_lt.1 (fun w => by rw [h] at w; omega)
    · rw [hd k]
      exact srchN_ge h2 (by omega) (by omega)
  · rintro rfl
    exact ⟨z, m, rfl, h1, rfl⟩
theorem u64z {n : Int} (h1 : 0 ≤ n) (h2 : n ≤ 9223372036854775807) : IntKind.u64.wrap n = n := by rw [IntKind.wrap_u64]; omega
theorem search_ctr {cx : Cx} (h : Seat cx) : Ctr cx 92 searchS := by
  refine ctr_of (fn := Tryz.f92) (l := [.tmp 4]) (envL []) [0, 1, 4, 5, 6, 7, 11, 21] [] [] (env0 h.hP) ?_ (by rw [h.hP]; exact Tryz.func92) rfl (by kernel_rfl) rfl ?_ ?_
  · rw [h.hP]; exact ⟨_, Tryz.func92, by kernel_rfl, by kernel_rfl⟩
  · rintro xs ⟨z, m, rfl, h1⟩; exact ⟨_, z, m, rfl, h1.1, rfl⟩
  · rintro xs ⟨z, m, rfl, h1, h2⟩
    refine ⟨by rw [Tryz.ntmps92]; simp, ?_⟩
    simp only [go_sem, h.hP, List.cons_append, List.nil_append, Meets_e, Below_e, Prod.exists, exists_eq, exists_eq_left, exists_eq_left', exists_eq_right, exists_eq_right', exists_and_left, exists_and_right, Ob.arr.injEq, AV.own.injEq, AV.fv.injEq, searchS_c, searchS_f, TZone.row, Tryz.ntmps92, Nat.reduceEqDiff, reduceCtorEq, Nat.reduceMul, Nat.reduceAdd, Nat.reduceSub, Nat.reduceDiv, Nat.reduceMod, Nat.reduceLeDiff, Nat.reduceLT, Nat.reduceBNe, Nat.reduceBEq, reduceIte, Int.reduceLE, Int.reduceLT, Int.reduceToNat, Int.reduceNeg, Int.reduceAdd, Int.reduceSub, Int.reduceMul, Int.reduceEq]
    refine vc_loopS (Int × Int) (fun (x : Int × Int) => match x with | (i, j) => [(5, .i i), (6, .i j)]) [] (fun (x : Int × Int) => match x with | (i, j) => []) (fun (x : Int × Int) => match x with | (i, j) => []) (fun (x : Int × Int) => match x with | (i, j) => 0) (fun (x : Int × Int) => match x with | (i, j) => 0 ≤ i ∧ i ≤ j ∧ j ≤ z.shifts.length ∧ (∀ k : Nat, (k : Int) < i → (z.shifts.getD k TShift.z).at_ ≤ m) ∧ (∀ k : Nat, j ≤ (k : Int) → k < z.shifts.length → m < (z.shifts.getD k TShift.z).at_)) (fun (x : Int × Int) => match x with | (i, j) => (j - i).toNat) [] ?_ ?_
    · simp only [go_sem, h.hP, List.cons_append, List.nil_append, Meets_e, Below_e, Prod.exists, exists_eq, exists_eq_left, exists_eq_left', exists_eq_right, exists_eq_right', exists_and_left, exists_and_right, Ob.arr.injEq, AV.own.injEq, AV.fv.injEq, TShift.len, Tryz.ntmps92, Nat.reduceEqDiff, reduceCtorEq, Nat.reduceMul, Nat.reduceAdd, Nat.reduceSub, Nat.reduceDiv, Nat.reduceMod, Nat.reduceLeDiff, Nat.reduceLT, Nat.reduceBNe, Nat.reduceBEq, reduceIte, Int.reduceLE, Int.reduceLT, Int.reduceToNat, Int.reduceNeg, Int.reduceAdd, Int.reduceSub, Int.reduceMul, Int.reduceEq]
      exact ⟨by omega, by omega, fun k hk => by omega, fun k a b => by omega⟩
    · rintro ⟨i, j⟩ ⟨j1, j2, j3, j4, j5⟩
      simp only [go_sem, h.hP, List.cons_append, List.nil_append, Meets_e, Below_e, Prod.exists, exists_eq, exists_eq_left, exists_eq_left', exists_eq_right, exists_eq_right', exists_and_left, exists_and_right, Ob.arr.injEq, AV.own.injEq, AV.fv.injEq, searchS_c, searchS_f, locΦ_pre, locΦ_post, TZone.row, Tryz.ntmps92, Nat.reduceEqDiff, reduceCtorEq, Nat.reduceMul, Nat.reduceAdd, Nat.reduceSub, Nat.reduceDiv, Nat.reduceMod, Nat.reduceLeDiff, Nat.reduceLT, Nat.reduceBNe, Nat.reduceBEq, reduceIte, Int.reduceLE, Int.reduceLT, Int.reduceToNat, Int.reduceNeg, Int.reduceAdd, Int.reduceSub, Int.reduceMul, Int.reduceEq]
      refine ⟨fun c => ?_, fun c => ⟨z, m, rfl, h1, by rw [srchN_is j1 (by omega) j4 (fun k a b => j5 k (by omega) b)]⟩⟩
      rw [i64w (n := i + j) (by omega) (by omega), u64z (n := i + j) (by omega) (by omega), i64w (n := (i + j) / 2) (by omega) (by omega)]
      obtain ⟨q, hq⟩ : ∃ q : Int, q = (i + j) / 2 := ⟨_, rfl⟩
      rw [← hq]
      have q1 : i ≤ q := by omega
      have q2 : q < j := by omega
      clear hq
      rw [i64w (n := q + 1) (by omega) (by omega)]
      refine ⟨by omega, by omega, fun d => ⟨by omega, by omega, j3, fun k hk => ?_, j5, by omega⟩, fun d => ⟨j1, q1, by omega, j4, fun k a b => ?_, by omega⟩⟩
      · have := h1 k q.toNat (by omega) (by omega)
        omega
      · have := h1 q.toNat k (by omega) b
        omega
def localS  : Spec where
  pre xs := ∃ (z : TZone) (m : Int), xs = [.dv (.ag z.row), .i m] ∧ (OkZ z.shifts ∧ 0 ≤ m ∧ m ≤ 4321440)
  post xs y := ∃ (z : TZone) (m : Int), xs = [.dv (.ag z.row), .i m] ∧ y = .i (locF z.shifts m)
  cost _ := 0
  fresh := true
theorem localS_c  (xs : List AV) : (localS).cost xs = 0 := nr rfl
theorem localS_f  : (localS).fresh = true := nr rfl
theorem localS_q  (z : TZone) (m : Int) : (localS).pre [.dv (.ag [.str z.name, .sl (TShift.rows z.shifts)]), .i m] = (OkZ z.shifts ∧ 0 ≤ m ∧ m ≤ 4321440) := propext ⟨fun h => by
  have h' : ∃ (z' : TZone) (m' : Int), ([.dv (.ag z.row), .i m] : List AV) = [.dv (.ag z'.row), .i m'] ∧ (OkZ z'.shifts ∧ 0 ≤ m' ∧ m' ≤ 4321440) := h
  obtain ⟨z', m', e, h⟩ := h'
  simp only [List.cons.injEq, AV.dv.injEq, AV.fv.injEq, DV.d.injEq, DV.ag.injEq, D.int.injEq, D.str.injEq, D.bool.injEq, D.sl.injEq, true_and, and_true, intsDi_inj, rowsT_inj, rowsKi_inj, TZone.row_inj, TZone.rows_inj] at e
  obtain ⟨rfl, rfl⟩ := e
  exact h, fun h => ⟨z, m, rfl, h⟩⟩
theorem localS_p  (z : TZone) (m : Int) : (localS).post [.dv (.ag [.str z.name, .sl (TShift.rows z.shifts)]), .i m] = fun y => y = .i (locF z.shifts m) := funext fun y => propext ⟨fun h => by
  have h' : ∃ (z' : TZone) (m' : Int), ([.dv (.ag z.row), .i m] : List AV) = [.dv (.ag z'.row), .i m'] ∧ y = .i (locF z'.shifts m') := h
  obtain ⟨z', m', e, h⟩ := h'
  simp only [List.cons.injEq, AV.dv.injEq, AV.fv.injEq, DV.d.injEq, DV.ag.injEq, D.int.injEq, D.str.injEq, D.bool.injEq, D.sl.injEq, true_and, and_true, intsDi_inj, rowsT_inj, rowsKi_inj, TZone.row_inj, TZone.rows_inj] at e
  obtain ⟨rfl, rfl⟩ := e
  exact h, fun h => ⟨z, m, rfl, h⟩⟩
theorem LocalAt_ctr {cx : Cx} (h : Seat cx) : Ctr cx 50 localS := by
  refine ctr_of (fn := Tryz.f50) (l := [.tmp 4]) (envF [(92, searchS)] [(93, locΦ)]) [0, 1, 2, 3, 4, 5] [] [] (envF_cons (locΦ_of (LocalAt1_ctr h)) (envF_nil (envL_cons (search_ctr h) (env0 h.hP)))) ?_ (by rw [h.hP]; exact Tryz.func50) rfl (by kernel_rfl) rfl ?_ ?_
  · rw [h.hP]; exact ⟨_, Tryz.func50, by kernel_rfl, by kernel_rfl⟩
  · rintro xs ⟨z, m, rfl, h1⟩; exact ⟨_, z, m, rfl, rfl⟩
  · rintro xs ⟨z, m, rfl, h1, h2, h3⟩
    have hq := searchS_q z m h1.asc h1.few
    have hp := searchS_p z m h1.asc
    refine ⟨by rw [Tryz.ntmps50]; simp, ?_⟩
    simp only [go_sem, h.hP, List.cons_append, List.nil_append, Meets_e, Below_e, Prod.exists, exists_eq, exists_eq_left, exists_eq_left', exists_eq_right, exists_eq_right', exists_and_left, exists_and_right, Ob.arr.injEq, AV.own.injEq, AV.fv.injEq, localS_q, localS_p, localS_c, localS_f, searchS_c, searchS_f, hq, hp, TZone.row, TShift.len, TShift.get, Tryz.ntmps50, Nat.reduceEqDiff, reduceCtorEq, Nat.reduceMul, Nat.reduceAdd, Nat.reduceSub, Nat.reduceDiv, Nat.reduceMod, Nat.reduceLeDiff, Nat.reduceLT, Nat.reduceBNe, Nat.reduceBEq, reduceIte, Int.reduceLE, Int.reduceLT, Int.reduceToNat, Int.reduceNeg, Int.reduceAdd, Int.reduceSub, Int.reduceMul, Int.reduceEq]
    have k1 := srchN_pos h1 h2
    have k2 := srchN_le z.shifts m
    have k3 := h1.few
    rw [i64w (n := (srchN z.shifts m : Int) - 1) (by omega) (by omega)]
    have k4 := locF_le h1 h2
    have k5 : ((srchN z.shifts m : Int) - 1).toNat = srchN z.shifts m - 1 := by omega
    rw [k5]
    refine ⟨by omega, by omega, ?_⟩
    unfold locF at *
    exact i64w (by omega) (by omega)
def minF (l : List TShift) (m : Int) : Int := (locF l m + 1440).tmod 1440
def minS  : Spec where
  pre xs := ∃ (z : TZone) (m : Int), xs = [.dv (.ag z.row), .i m] ∧ (OkZ z.shifts ∧ 0 ≤ m ∧ m ≤ 4321440)
  post xs y := ∃ (z : TZone) (m : Int), xs = [.dv (.ag z.row), .i m] ∧ y = .i (minF z.shifts m)
  cost _ := 0
  fresh := true
theorem minS_c  (xs : List AV) : (minS).cost xs = 0 := nr rfl
theorem minS_f  : (minS).fresh = true := nr rfl
theorem minS_q  (z : TZone) (m : Int) : (minS).pre [.dv (.ag [.str z.name, .sl (TShift.rows z.shifts)]), .i m] = (OkZ z.shifts ∧ 0 ≤ m ∧ m ≤ 4321440) := propext ⟨fun h => by
  have h' : ∃ (z' : TZone) (m' : Int), ([.dv (.ag z.row), .i m] : List AV) = [.dv (.ag z'.row), .i m'] ∧ (OkZ z'.shifts ∧ 0 ≤ m' ∧ m' ≤ 4321440) := h
  obtain ⟨z', m', e, h⟩ := h'
  simp only [List.cons.injEq, AV.dv.injEq, AV.fv.injEq, DV.d.injEq, DV.ag.injEq, D.int.injEq, D.str.injEq, D.bool.injEq, D.sl.injEq, true_and, and_true, intsDi_inj, rowsT_inj, rowsKi_inj, TZone.row_inj, TZone.rows_inj] at e
  obtain ⟨rfl, rfl⟩ := e
  exact h, fun h => ⟨z, m, rfl, h⟩⟩
theorem minS_p  (z : TZone) (m : Int) : (minS).post [.dv (.ag [.str z.name, .sl (TShift.rows z.shifts)]), .i m] = fun y => y = .i (minF z.shifts m) := funext fun y => propext ⟨fun h => by
  have h' : ∃ (z' : TZone) (m' : Int), ([.dv (.ag z.row), .i m] : List AV) = [.dv (.ag z'.row), .i m'] ∧ y = .i (minF z'.shifts m') := h
  obtain ⟨z', m', e, h⟩ := h'
  simp only [List.cons.injEq, AV.dv.injEq, AV.fv.injEq, DV.d.injEq, DV.ag.injEq, D.int.injEq, D.str.injEq, D.bool.injEq, D.sl.injEq, true_and, and_true, intsDi_inj, rowsT_inj, rowsKi_inj, TZone.row_inj, TZone.rows_inj] at e
  obtain ⟨rfl, rfl⟩ := e
  exact h, fun h => ⟨z, m, rfl, h⟩⟩
theorem shifts_of {ok : Nat → Prop} {w : World} {l : List TShift} {sv : Value} (h : Rd ok w (.sl (TShift.rows l)) sv) : ∃ A cap, sv = .slice A l.length cap ∧ Clk.Shifts w.heap.size w sv (pairsZ l) := by
  generalize e : TShift.rows l = r at h
  cases h with
  | nil A c =>
    have : l = [] := by simpa [TShift.nil1] using e
    subst this
    exact ⟨A, c, rfl, .inl ⟨A, c, rfl, rfl⟩⟩
  | sl r z b o c u hc hb hlt hz hu hr =>
    subst e
    rw [TShift.len]
    refine ⟨_, _, rfl, ?_⟩
    by_cases e0 : l = []
    · subst e0
      exact .inl ⟨_, _, rfl, rfl⟩
    have hg : ∀ j : Nat, j < l.length → (TShift.rows l)[j]? = some [.int .i64 (l.getD j TShift.z).at_, .int .i64 (l.getD j TShift.z).offset] := fun j hj => by
      unfold TShift.rows
      rw [List.getElem?_map, List.getD_eq_getElem?_getD, List.getElem?_eq_getElem hj]
      rfl
    have hz2 : z = 2 := (hz 0 _ (hg 0 (List.length_pos_iff.2 e0))).symm
    subst hz2
    refine .inr ⟨b, o, c, by rw [pairsZ_len], hlt, fun j hj => ?_⟩
    rw [pairsZ_len] at hj
    rw [pairsZ_get]
    have a1 := hu j _ (hg j hj) 0 _ rfl
    have a2 := hu j _ (hg j hj) 1 _ rfl
    have b1 := hr j _ (hg j hj) 0 _ rfl
    have b2 := hr j _ (hg j hj) 1 _ rfl
    refine ⟨?_, ?_⟩
    · rw [Nat.add_zero] at a1
      rw [a1]
      generalize u j 0 = v at b1
      cases b1
      rfl
    · rw [a2]
      generalize u j 1 = v at b2
      cases b2
      rfl
def clockS  : Spec where
  pre xs := ∃ (z : TZone) (m : Int), xs = [.dv (.ag z.row), .i m] ∧ (OkZ z.shifts ∧ 0 ≤ m ∧ m ≤ 4321440)
  post xs y := ∃ (z : TZone) (m : Int), xs = [.dv (.ag z.row), .i m] ∧ y = .i (locF z.shifts m)
  cost _ := 0
  fresh := true
theorem clockS_c  (xs : List AV) : (clockS).cost xs = 0 := nr rfl
theorem clockS_f  : (clockS).fresh = true := nr rfl
theorem clockS_q  (z : TZone) (m : Int) : (clockS).pre [.dv (.ag [.str z.name, .sl (TShift.rows z.shifts)]), .i m] = (OkZ z.shifts ∧ 0 ≤ m ∧ m ≤ 4321440) := propext ⟨fun h => by
  have h' : ∃ (z' : TZone) (m' : Int), ([.dv (.ag z.row), .i m] : List AV) = [.dv (.ag z'.row), .i m'] ∧ (OkZ z'.shifts ∧ 0 ≤ m' ∧ m' ≤ 4321440) := h
  obtain ⟨z', m', e, h⟩ := h'
  simp only [List.cons.injEq, AV.dv.injEq, AV.fv.injEq, DV.d.injEq, DV.ag.injEq, D.int.injEq, D.str.injEq, D.bool.injEq, D.sl.injEq, true_and, and_true, intsDi_inj, rowsT_inj, rowsKi_inj, TZone.row_inj, TZone.rows_inj] at e
  obtain ⟨rfl, rfl⟩ := e
  exact h, fun h => ⟨z, m, rfl, h⟩⟩
theorem clockS_p  (z : TZone) (m : Int) : (clockS).post [.dv (.ag [.str z.name, .sl (TShift.rows z.shifts)]), .i m] = fun y => y = .i (locF z.shifts m) := funext fun y => propext ⟨fun h => by
  have h' : ∃ (z' : TZone) (m' : Int), ([.dv (.ag z.row), .i m] : List AV) = [.dv (.ag z'.row), .i m'] ∧ y = .i (locF z'.shifts m') := h
  obtain ⟨z', m', e, h⟩ := h'
  simp only [List.cons.injEq, AV.dv.injEq, AV.fv.injEq, DV.d.injEq, DV.ag.injEq, D.int.injEq, D.str.injEq, D.bool.injEq, D.sl.injEq, true_and, and_true, intsDi_inj, rowsT_inj, rowsKi_inj, TZone.row_inj, TZone.rows_inj] at e
  obtain ⟨rfl, rfl⟩ := e
  exact h, fun h => ⟨z, m, rfl, h⟩⟩
theorem Clock_ctr {cx : Cx} (h : Seat cx) : Ctr cx 17 clockS := by
  refine ⟨by rw [h.hP]; exact ⟨_, Tryz.func17, by kernel_rfl, by kernel_rfl⟩, fun xs ⟨z, m, e, _⟩ => ⟨_, z, m, e, rfl⟩, ?_⟩
  rintro F xs us hcx hF hst hgl hco hlen hargs ⟨z, m, rfl, h1, h2, h3⟩
  match us, hlen with
  | [a, b], _ =>
  obtain ⟨cs, rfl, c1, c2⟩ := hargs 0 _ _ rfl rfl
  have hb := hargs 1 _ _ rfl rfl
  cases hb
  match cs, c1 with
  | [n, sv], _ =>
  have d1 := c2 0 _ _ rfl rfl
  have d2 := c2 1 _ _ rfl rfl
  cases d1
  obtain ⟨A, cap, rfl, hI⟩ := shifts_of d2
  rw [h.hP]
  refine ((callsIn_wide (n := 3)).1 (Clk.Clock_in Fence.wide 3 trivial trivial trivial rfl (by decide) z.name A z.shifts.length cap m (pairsZ z.shifts) (by rw [pairsZ_len]; have := h1.few; omega) F.w0 hI)).mono ?_
  rintro e w' ⟨rfl, hb⟩
  rw [clock_eq h1 h2 h3]
  have hm := flatR_mk (cx := cx) (w0 := F.w0) (ok := resOk F clockS.fresh) (ρ := fun _ => undef) (w := w') (a := .i (locF z.shifts m)) (v := .int .i64 (locF z.shifts m)) rfl
  exact ⟨_, _, rfl, ⟨hb.os, hb.tape, hb.output, hb.size, fun b hlt _ => hb.block b hlt⟩, hst.keep hb.size (fun b hlt => hb.block b hlt), ⟨z, m, rfl, rfl⟩, hm.2, hm.1⟩
end Go.Avc

/- Days and moments of zones: by the program and by the reference. No condition. -/
set_option linter.unusedVariables false
set_option linter.unusedSimpArgs false
set_option maxRecDepth 100000
namespace Go.Avc
open Go Go.Proofs

/-! ### Plain law -/
theorem locF_at {l : List TShift} (h : OkZ l) {i : Nat} (hi : i < l.length) {k : Int} (h0 : (l.getD i TShift.z).at_ ≤ k) (h1 : ∀ j : Nat, i < j → j < l.length → k < (l.getD j TShift.z).at_) : locF l k = k + (l.getD i TShift.z).offset := by
  have e := srchN_is (l := l) (m := k) (i := (i : Int) + 1) (by omega) (by omega) (fun j hj => by have := h.asc j i (by omega) hi; omega) (fun j hj hl => h1 j (by omega) hl)
  unfold locF
  rw [show srchN l k - 1 = i by omega]
/-- The local day of a moment. -/
def dayF (l : List TShift) (m : Int) : Int := (locF l m + 1440) / 1440 - 1
/-- The first moment, from one on, at which clocks show at least a minute, or the end. -/
noncomputable def fstM (l : List TShift) (f t : Int) : Int := f + ((List.range (4321440 - f).toNat).findIdx fun k : Nat => decide (t ≤ locF l (f + (k : Int))) : Nat)
theorem fstM_is {l : List TShift} {f t n : Int} (h0 : f ≤ n) (h1 : n ≤ 4321440) (h2 : ∀ k : Int, f ≤ k → k < n → locF l k < t) (h3 : n < 4321440 → t ≤ locF l n) : n = fstM l f t := by
  obtain ⟨d, rfl⟩ : ∃ d : Nat, n = f + d := ⟨(n - f).toNat, by omega⟩
  unfold fstM
  congr 2
  symm
  by_cases e : f + (d : Int) = 4321440
  · have : (List.range (4321440 - f).toNat).length = d := by rw [List.length_range]; omega
    rw [← this]
    rw [List.findIdx_eq_length]
    intro x hx
    have := List.mem_range.1 hx
    have := h2 (f + x) (by omega) (by omega)
    exact decide_eq_false (by omega)
  · have hd : d < (List.range (4321440 - f).toNat).length := by rw [List.length_range]; omega
    rw [List.findIdx_eq hd]
    refine ⟨?_, fun j hj => ?_⟩
    · rw [List.getElem_range]; exact decide_eq_true (h3 (by omega))
    · rw [List.getElem_range]
      have := h2 (f + j) (by omega) (by omega)
      exact decide_eq_false (by omega)
theorem fstM_in {l : List TShift} {f t : Int} (hf : f ≤ 4321440) : f ≤ fstM l f t ∧ fstM l f t ≤ 4321440 := by
  unfold fstM
  have : (List.range (4321440 - f).toNat).findIdx (fun k : Nat => decide (t ≤ locF l (f + (k : Int)))) ≤ (List.range (4321440 - f).toNat).length := List.findIdx_le_length
  rw [List.length_range] at this
  omega
theorem fstM_lt {l : List TShift} {f t k : Int} (hk : f ≤ k) (h : k < fstM l f t) : locF l k < t := by
  obtain ⟨d, rfl⟩ : ∃ d : Nat, k = f + d := ⟨(k - f).toNat, by omega⟩
  unfold fstM at h
  have h' : d < (List.range (4321440 - f).toNat).findIdx (fun k : Nat => decide (t ≤ locF l (f + (k : Int)))) := by omega
  have := List.not_of_lt_findIdx h'
  rw [List.getElem_range] at this
  simpa using this
theorem fstM_at {l : List TShift} {f t : Int} (hf : f ≤ 4321440) (h : fstM l f t < 4321440) : t ≤ locF l (fstM l f t) := by
  have hl : (List.range (4321440 - f).toNat).findIdx (fun k : Nat => decide (t ≤ locF l (f + (k : Int)))) < (List.range (4321440 - f).toNat).length := by
    unfold fstM at h
    rw [List.length_range]
    omega
  have := List.findIdx_getElem (w := hl)
  rw [List.getElem_range] at this
  exact of_decide_eq_true this
/-- Going from a day's first moment finds the same one. -/
theorem fstM_day {l : List TShift} (h : OkZ l) {d t f : Int} (hd : 0 ≤ d) (hd2 : d ≤ 3000) (hf0 : 0 ≤ f) (hf1 : f ≤ 4321440) (hf : ∀ k : Int, 0 ≤ k → k < f → dayF l k < d) (ht : d * 1440 ≤ t) {n : Int} (h0 : f ≤ n) (h1 : n ≤ 4321440) (h2 : ∀ k : Int, f ≤ k → k < n → locF l k < t) (h3 : n < 4321440 → t ≤ locF l n) : n = fstM l 0 t := by
  refine fstM_is (by omega) h1 (fun k k0 k1 => ?_) h3
  by_cases e : f ≤ k
  · exact h2 k e k1
  · have := hf k k0 (by omega)
    unfold dayF at this
    omega
theorem dayF_in {l : List TShift} (h : OkZ l) {m : Int} (h0 : 0 ≤ m) (h1 : m ≤ 4321440) : -1 ≤ dayF l m ∧ dayF l m ≤ 3001 := by
  have := locF_le h h0
  unfold dayF
  omega
/-- Where a shift ends. -/
def atN (l : List TShift) (i : Nat) : Int := if i < l.length then (l.getD i TShift.z).at_ else 4321440
theorem atN_lt {l : List TShift} {i : Nat} (h : i < l.length) : atN l i = (l.getD i TShift.z).at_ := if_pos h
theorem atN_ge {l : List TShift} {i : Nat} (h : ¬ i < l.length) : atN l i = 4321440 := if_neg h
theorem atN_le {l : List TShift} (h : OkZ l) (i : Nat) : atN l i ≤ 4321440 := by
  unfold atN
  split
  · rename_i c; have := h.tops i c; omega
  · omega
theorem reach_step {l : List TShift} (h : OkZ l) {f t : Int} {i : Nat} (hi : i < l.length) {m : Int} (m1 : f ≤ m) (m2 : (l.getD i TShift.z).at_ ≤ m) (m3 : t - (l.getD i TShift.z).offset ≤ m)
    (m4 : ∀ k : Int, f ≤ k → (l.getD i TShift.z).at_ ≤ k → k < m → k < t - (l.getD i TShift.z).offset) (hJ : ∀ k : Int, f ≤ k → k < atN l i → locF l k < t) :
    (m < atN l (i + 1) → m = fstM l f t) ∧ (¬ m < atN l (i + 1) → ∀ k : Int, f ≤ k → k < atN l (i + 1) → locF l k < t) := by
  rw [atN_lt hi] at hJ
  have hloc : ∀ k : Int, (l.getD i TShift.z).at_ ≤ k → k < atN l (i + 1) → locF l k = k + (l.getD i TShift.z).offset := fun k a b => locF_at h hi a fun j hj hl => by
    rw [atN_lt (by omega)] at b
    have := h.asc (i + 1) j (by omega) hl
    omega
  have hle := atN_le h (i + 1)
  refine ⟨fun c => fstM_is m1 (by omega) (fun k a b => ?_) (fun _ => by rw [hloc m m2 c]; omega), fun c k a b => ?_⟩
  · by_cases e : k < (l.getD i TShift.z).at_
    · exact hJ k a e
    · rw [hloc k (by omega) (by omega)]
      have := m4 k a (by omega) b
      omega
  · by_cases e : k < (l.getD i TShift.z).at_
    · exact hJ k a e
    · rw [hloc k (by omega) b]
      have := m4 k a (by omega) (by omega)
      omega
/-! ### The program -/
def dayS  : Spec where
  pre xs := ∃ (z : TZone) (m : Int), xs = [.dv (.ag z.row), .i m] ∧ (OkZ z.shifts ∧ 0 ≤ m ∧ m ≤ 4321440)
  post xs y := ∃ (z : TZone) (m : Int), xs = [.dv (.ag z.row), .i m] ∧ y = .i (dayF z.shifts m)
  cost _ := 0
  fresh := true
theorem dayS_c  (xs : List AV) : (dayS).cost xs = 0 := nr rfl
theorem dayS_f  : (dayS).fresh = true := nr rfl
theorem dayS_q  (z : TZone) (m : Int) : (dayS).pre [.dv (.ag [.str z.name, .sl (TShift.rows z.shifts)]), .i m] = (OkZ z.shifts ∧ 0 ≤ m ∧ m ≤ 4321440) := propext ⟨fun h => by
  have h' : ∃ (z' : TZone) (m' : Int), ([.dv (.ag z.row), .i m] : List AV) = [.dv (.ag z'.row), .i m'] ∧ (OkZ z'.shifts ∧ 0 ≤ m' ∧ m' ≤ 4321440) := h
  obtain ⟨z', m', e, h⟩ := h'
  simp only [List.cons.injEq, AV.dv.injEq, AV.fv.injEq, DV.d.injEq, DV.ag.injEq, D.int.injEq, D.str.injEq, D.bool.injEq, D.sl.injEq, true_and, and_true, intsDi_inj, rowsT_inj, rowsKi_inj, TZone.row_inj, TZone.rows_inj] at e
  obtain ⟨rfl, rfl⟩ := e
  exact h, fun h => ⟨z, m, rfl, h⟩⟩
theorem dayS_p  (z : TZone) (m : Int) : (dayS).post [.dv (.ag [.str z.name, .sl (TShift.rows z.shifts)]), .i m] = fun y => y = .i (dayF z.shifts m) := funext fun y => propext ⟨fun h => by
  have h' : ∃ (z' : TZone) (m' : Int), ([.dv (.ag z.row), .i m] : List AV) = [.dv (.ag z'.row), .i m'] ∧ y = .i (dayF z'.shifts m') := h
  obtain ⟨z', m', e, h⟩ := h'
  simp only [List.cons.injEq, AV.dv.injEq, AV.fv.injEq, DV.d.injEq, DV.ag.injEq, D.int.injEq, D.str.injEq, D.bool.injEq, D.sl.injEq, true_and, and_true, intsDi_inj, rowsT_inj, rowsKi_inj, TZone.row_inj, TZone.rows_inj] at e
  obtain ⟨rfl, rfl⟩ := e
  exact h, fun h => ⟨z, m, rfl, h⟩⟩
theorem DayAt_ctr {cx : Cx} (h : Seat cx) : Ctr cx 51 dayS := by
  refine ctr_of (fn := Tryz.f51) (l := [.tmp 4]) (envL [(50, localS)]) [0, 1, 2, 4, 5, 11] [] [] (envL_cons (LocalAt_ctr h) (env0 h.hP)) ?_ (by rw [h.hP]; exact Tryz.func51) rfl (by kernel_rfl) rfl ?_ ?_
  · rw [h.hP]; exact ⟨_, Tryz.func51, by kernel_rfl, by kernel_rfl⟩
  · rintro xs ⟨z, m, rfl, h1⟩; exact ⟨_, z, m, rfl, rfl⟩
  · rintro xs ⟨z, m, rfl, h1, h2, h3⟩
    refine ⟨by rw [Tryz.ntmps51]; simp, ?_⟩
    simp only [go_sem, h.hP, List.cons_append, List.nil_append, Meets_e, Below_e, Prod.exists, exists_eq, exists_eq_left, exists_eq_left', exists_eq_right, exists_eq_right', exists_and_left, exists_and_right, Ob.arr.injEq, AV.own.injEq, AV.fv.injEq, dayS_q, dayS_p, dayS_c, dayS_f, localS_q, localS_p, localS_c, localS_f, TZone.row, Tryz.ntmps51, Nat.reduceEqDiff, reduceCtorEq, Nat.reduceMul, Nat.reduceAdd, Nat.reduceSub, Nat.reduceDiv, Nat.reduceMod, Nat.reduceLeDiff, Nat.reduceLT, Nat.reduceBNe, Nat.reduceBEq, reduceIte, Int.reduceLE, Int.reduceLT, Int.reduceToNat, Int.reduceNeg, Int.reduceAdd, Int.reduceSub, Int.reduceMul, Int.reduceEq]
    have := locF_le h1 h2
    refine ⟨h1, h2, h3, ?_⟩
    rw [i64w (n := locF z.shifts m + 1440) (by omega) (by omega)]
    unfold dayF
    refine ⟨fun e => by omega, fun _ => ?_⟩
    rw [Int.tdiv_eq_ediv_of_nonneg (by omega)]
    generalize hq : (locF z.shifts m + 1440) / 1440 = q
    rw [i64w (n := q) (by omega) (by omega), i64w (by omega) (by omega)]
theorem tdiv_bd (a : Int) : a / 1440 ≤ a.tdiv 1440 ∧ a.tdiv 1440 ≤ a / 1440 + 1 := by
  rcases Int.le_total 0 a with h | h
  · rw [Int.tdiv_eq_ediv_of_nonneg h]; omega
  · have e : a.tdiv 1440 = -((-a) / 1440) := by
      rw [← Int.tdiv_eq_ediv_of_nonneg (by omega), Int.neg_tdiv, Int.neg_neg]
    rw [e]
    omega
def downS  : Spec where
  pre xs := ∃ (a : Int), xs = [.i a, .i 1440] ∧ (-1000000000 ≤ a ∧ a ≤ 1000000000)
  post xs y := ∃ (a : Int), xs = [.i a, .i 1440] ∧ y = .i (a / 1440)
  cost _ := 0
  fresh := true
theorem downS_c  (xs : List AV) : (downS).cost xs = 0 := nr rfl
theorem downS_f  : (downS).fresh = true := nr rfl
theorem downS_q  (a : Int) : (downS).pre [.i a, .i 1440] = (-1000000000 ≤ a ∧ a ≤ 1000000000) := propext ⟨fun h => by
  have h' : ∃ (a' : Int), ([.i a, .i 1440] : List AV) = [.i a', .i 1440] ∧ (-1000000000 ≤ a' ∧ a' ≤ 1000000000) := h
  obtain ⟨a', e, h⟩ := h'
  simp only [List.cons.injEq, AV.dv.injEq, AV.fv.injEq, DV.d.injEq, DV.ag.injEq, D.int.injEq, D.str.injEq, D.bool.injEq, D.sl.injEq, true_and, and_true, intsDi_inj, rowsT_inj, rowsKi_inj] at e
  obtain rfl := e
  exact h, fun h => ⟨a, rfl, h⟩⟩
theorem downS_p  (a : Int) : (downS).post [.i a, .i 1440] = fun y => y = .i (a / 1440) := funext fun y => propext ⟨fun h => by
  have h' : ∃ (a' : Int), ([.i a, .i 1440] : List AV) = [.i a', .i 1440] ∧ y = .i (a' / 1440) := h
  obtain ⟨a', e, h⟩ := h'
  simp only [List.cons.injEq, AV.dv.injEq, AV.fv.injEq, DV.d.injEq, DV.ag.injEq, D.int.injEq, D.str.injEq, D.bool.injEq, D.sl.injEq, true_and, and_true, intsDi_inj, rowsT_inj, rowsKi_inj] at e
  obtain rfl := e
  exact h, fun h => ⟨a, rfl, h⟩⟩
theorem down_ctr {cx : Cx} (h : Seat cx) : Ctr cx 57 downS := by
  refine ctr_of (fn := Tryz.f57) (l := [.tmp 4]) (envL []) [0, 1, 4, 5, 13] [] [] (env0 h.hP) ?_ (by rw [h.hP]; exact Tryz.func57) rfl (by kernel_rfl) rfl ?_ ?_
  · rw [h.hP]; exact ⟨_, Tryz.func57, by kernel_rfl, by kernel_rfl⟩
  · rintro xs ⟨a, rfl, h1⟩; exact ⟨_, a, rfl, rfl⟩
  · rintro xs ⟨a, rfl, h1, h2⟩
    refine ⟨by rw [Tryz.ntmps57]; simp, ?_⟩
    simp only [go_sem, h.hP, List.cons_append, List.nil_append, Meets_e, Below_e, Prod.exists, exists_eq, exists_eq_left, exists_eq_left', exists_eq_right, exists_eq_right', exists_and_left, exists_and_right, Ob.arr.injEq, AV.own.injEq, AV.fv.injEq, downS_q, downS_p, downS_c, downS_f, Tryz.ntmps57, Nat.reduceEqDiff, reduceCtorEq, Nat.reduceMul, Nat.reduceAdd, Nat.reduceSub, Nat.reduceDiv, Nat.reduceMod, Nat.reduceLeDiff, Nat.reduceLT, Nat.reduceBNe, Nat.reduceBEq, reduceIte, Int.reduceLE, Int.reduceLT, Int.reduceToNat, Int.reduceNeg, Int.reduceAdd, Int.reduceSub, Int.reduceMul, Int.reduceEq]
    have hb := tdiv_bd a
    rw [i64w (n := a.tdiv 1440) (by omega) (by omega)]
    refine vc_loopS (Int) (fun (n : Int) => [(5, .i n)]) [] (fun (n : Int) => []) (fun (n : Int) => []) (fun (n : Int) => 0) (fun (n : Int) => a / 1440 ≤ n ∧ n ≤ a / 1440 + 1) (fun (n : Int) => (n - a / 1440).toNat) [] ?_ ?_
    · simp only [go_sem, h.hP, List.cons_append, List.nil_append, Meets_e, Below_e, Prod.exists, exists_eq, exists_eq_left, exists_eq_left', exists_eq_right, exists_eq_right', exists_and_left, exists_and_right, Ob.arr.injEq, AV.own.injEq, AV.fv.injEq, Tryz.ntmps57, Nat.reduceEqDiff, reduceCtorEq, Nat.reduceMul, Nat.reduceAdd, Nat.reduceSub, Nat.reduceDiv, Nat.reduceMod, Nat.reduceLeDiff, Nat.reduceLT, Nat.reduceBNe, Nat.reduceBEq, reduceIte, Int.reduceLE, Int.reduceLT, Int.reduceToNat, Int.reduceNeg, Int.reduceAdd, Int.reduceSub, Int.reduceMul, Int.reduceEq]
      exact hb
    · rintro n ⟨n0, n1⟩
      simp only [go_sem, h.hP, List.cons_append, List.nil_append, Meets_e, Below_e, Prod.exists, exists_eq, exists_eq_left, exists_eq_left', exists_eq_right, exists_eq_right', exists_and_left, exists_and_right, Ob.arr.injEq, AV.own.injEq, AV.fv.injEq, downS_q, downS_p, downS_c, downS_f, Tryz.ntmps57, Nat.reduceEqDiff, reduceCtorEq, Nat.reduceMul, Nat.reduceAdd, Nat.reduceSub, Nat.reduceDiv, Nat.reduceMod, Nat.reduceLeDiff, Nat.reduceLT, Nat.reduceBNe, Nat.reduceBEq, reduceIte, Int.reduceLE, Int.reduceLT, Int.reduceToNat, Int.reduceNeg, Int.reduceAdd, Int.reduceSub, Int.reduceMul, Int.reduceEq]
      rw [i64w (n := n * 1440) (by omega) (by omega), i64w (n := n - 1) (by omega) (by omega)]
      exact ⟨fun e => ⟨by omega, by omega, by omega⟩, fun e => by omega⟩
theorem DayOf_ctr {cx : Cx} (h : Seat cx) : Ctr cx 18 dayS := by
  refine ctr_of (fn := Tryz.f18) (l := [.tmp 4]) (envL [(17, clockS), (57, downS)]) [0, 1, 2, 4] [] [] (envL_cons (Clock_ctr h) (envL_cons (down_ctr h) (env0 h.hP))) ?_ (by rw [h.hP]; exact Tryz.func18) rfl (by kernel_rfl) rfl ?_ ?_
  · rw [h.hP]; exact ⟨_, Tryz.func18, by kernel_rfl, by kernel_rfl⟩
  · rintro xs ⟨z, m, rfl, h1⟩; exact ⟨_, z, m, rfl, rfl⟩
  · rintro xs ⟨z, m, rfl, h1, h2, h3⟩
    refine ⟨by rw [Tryz.ntmps18]; simp, ?_⟩
    simp only [go_sem, h.hP, List.cons_append, List.nil_append, Meets_e, Below_e, Prod.exists, exists_eq, exists_eq_left, exists_eq_left', exists_eq_right, exists_eq_right', exists_and_left, exists_and_right, Ob.arr.injEq, AV.own.injEq, AV.fv.injEq, dayS_q, dayS_p, dayS_c, dayS_f, clockS_q, clockS_p, clockS_c, clockS_f, downS_q, downS_p, downS_c, downS_f, TZone.row, Tryz.ntmps18, Nat.reduceEqDiff, reduceCtorEq, Nat.reduceMul, Nat.reduceAdd, Nat.reduceSub, Nat.reduceDiv, Nat.reduceMod, Nat.reduceLeDiff, Nat.reduceLT, Nat.reduceBNe, Nat.reduceBEq, reduceIte, Int.reduceLE, Int.reduceLT, Int.reduceToNat, Int.reduceNeg, Int.reduceAdd, Int.reduceSub, Int.reduceMul, Int.reduceEq]
    have := locF_le h1 h2
    exact ⟨h1, h2, h3, by omega, by omega, by unfold dayF; omega⟩
def localE (z : TZone) (m : Int) : Int := if zoneF z ≠ 0 then zoneF z else if inB m 0 4321439 = false then 1 else 0
def localN (z : TZone) (m : Int) : Int := if localE z m = 0 then locF z.shifts m else 0
def dayN (z : TZone) (m : Int) : Int := if localE z m = 0 then dayF z.shifts m else 0
theorem localE_use {z : TZone} {m : Int} (h : localE z m = 0) : OkZ z.shifts ∧ 0 ≤ m ∧ m ≤ 4321439 := by
  unfold localE at h
  split at h
  · rename_i c; exact absurd h c
  split at h
  · cases h
  rename_i c d
  have e := inB_iff.1 (by simpa using d : inB m 0 4321439 = true)
  exact ⟨okZ (Decidable.not_not.1 c), e.1, e.2⟩
def localNS  : Spec where
  pre xs := ∃ (z : TZone) (m : Int), xs = [.dv (.ag z.row), .i m] ∧ (z.ok)
  post xs y := ∃ (z : TZone) (m : Int), xs = [.dv (.ag z.row), .i m] ∧ y = .tcons (.i (localN z m)) (.tcons (.i (localE z m)) .tnil)
  cost _ := 0
  fresh := true
theorem localNS_c  (xs : List AV) : (localNS).cost xs = 0 := nr rfl
theorem localNS_f  : (localNS).fresh = true := nr rfl
theorem localNS_q  (z : TZone) (m : Int) : (localNS).pre [.dv (.ag [.str z.name, .sl (TShift.rows z.shifts)]), .i m] = (z.ok) := propext ⟨fun h => by
  have h' : ∃ (z' : TZone) (m' : Int), ([.dv (.ag z.row), .i m] : List AV) = [.dv (.ag z'.row), .i m'] ∧ (z'.ok) := h
  obtain ⟨z', m', e, h⟩ := h'
  simp only [List.cons.injEq, AV.dv.injEq, AV.fv.injEq, DV.d.injEq, DV.ag.injEq, D.int.injEq, D.str.injEq, D.bool.injEq, D.sl.injEq, true_and, and_true, intsDi_inj, rowsT_inj, rowsKi_inj, TZone.row_inj, TZone.rows_inj] at e
  obtain ⟨rfl, rfl⟩ := e
  exact h, fun h => ⟨z, m, rfl, h⟩⟩
theorem localNS_p  (z : TZone) (m : Int) : (localNS).post [.dv (.ag [.str z.name, .sl (TShift.rows z.shifts)]), .i m] = fun y => y = .tcons (.i (localN z m)) (.tcons (.i (localE z m)) .tnil) := funext fun y => propext ⟨fun h => by
  have h' : ∃ (z' : TZone) (m' : Int), ([.dv (.ag z.row), .i m] : List AV) = [.dv (.ag z'.row), .i m'] ∧ y = .tcons (.i (localN z' m')) (.tcons (.i (localE z' m')) .tnil) := h
  obtain ⟨z', m', e, h⟩ := h'
  simp only [List.cons.injEq, AV.dv.injEq, AV.fv.injEq, DV.d.injEq, DV.ag.injEq, D.int.injEq, D.str.injEq, D.bool.injEq, D.sl.injEq, true_and, and_true, intsDi_inj, rowsT_inj, rowsKi_inj, TZone.row_inj, TZone.rows_inj] at e
  obtain ⟨rfl, rfl⟩ := e
  exact h, fun h => ⟨z, m, rfl, h⟩⟩
theorem Local_ctr {cx : Cx} (h : Seat cx) : Ctr cx 12 localNS := by
  refine ctr_of (fn := Tryz.f12) (l := [.tmp 4, .tmp 5]) (envL [(15, zoneS), (49, inS), (50, localS)]) [0, 1, 2, 4, 5, 6, 10, 14] [] [] (envL_cons (CheckZone_ctr h) (envL_cons (ewithin_ctr h) (envL_cons (LocalAt_ctr h) (env0 h.hP)))) ?_ (by rw [h.hP]; exact Tryz.func12) rfl (by kernel_rfl) rfl ?_ ?_
  · rw [h.hP]; exact ⟨_, Tryz.func12, by kernel_rfl, by kernel_rfl⟩
  · rintro xs ⟨z, m, rfl, h1⟩; exact ⟨_, z, m, rfl, rfl⟩
  · rintro xs ⟨z, m, rfl, h1⟩
    refine ⟨by rw [Tryz.ntmps12]; simp, ?_⟩
    simp only [go_sem, h.hP, List.cons_append, List.nil_append, Meets_e, Below_e, Prod.exists, exists_eq, exists_eq_left, exists_eq_left', exists_eq_right, exists_eq_right', exists_and_left, exists_and_right, Ob.arr.injEq, AV.own.injEq, AV.fv.injEq, localNS_q, localNS_p, localNS_c, localNS_f, zoneS_q, zoneS_p, zoneS_c, zoneS_f, inS_q, inS_p, inS_c, inS_f, localS_q, localS_p, localS_c, localS_f, TZone.row, Tryz.ntmps12, Nat.reduceEqDiff, reduceCtorEq, Nat.reduceMul, Nat.reduceAdd, Nat.reduceSub, Nat.reduceDiv, Nat.reduceMod, Nat.reduceLeDiff, Nat.reduceLT, Nat.reduceBNe, Nat.reduceBEq, reduceIte, Int.reduceLE, Int.reduceLT, Int.reduceToNat, Int.reduceNeg, Int.reduceAdd, Int.reduceSub, Int.reduceMul, Int.reduceEq]
    have e1 : ¬ zoneF z = 0 → localE z m = zoneF z := fun c => if_pos c
    have e2 : zoneF z = 0 → inB m 0 4321439 = false → localE z m = 1 := fun c d => (if_neg (fun e => e c)).trans (if_pos d)
    have e3 : zoneF z = 0 → inB m 0 4321439 = true → localE z m = 0 := fun c d => (if_neg (fun e => e c)).trans (if_neg (ne_ft d))
    refine ⟨h1, fun c => ⟨(if_neg (by rw [e1 c]; exact c)).symm, (e1 c).symm⟩, fun c => ⟨fun d => ⟨(if_neg (by rw [e2 c d]; decide)).symm, (e2 c d).symm⟩, fun d => ?_⟩⟩
    have u := localE_use (e3 c d)
    exact ⟨u.1, u.2.1, by omega, (if_pos (e3 c d)).symm, (e3 c d).symm⟩
def dayNS  : Spec where
  pre xs := ∃ (z : TZone) (m : Int), xs = [.dv (.ag z.row), .i m] ∧ (z.ok)
  post xs y := ∃ (z : TZone) (m : Int), xs = [.dv (.ag z.row), .i m] ∧ y = .tcons (.i (dayN z m)) (.tcons (.i (localE z m)) .tnil)
  cost _ := 0
  fresh := true
theorem dayNS_c  (xs : List AV) : (dayNS).cost xs = 0 := nr rfl
theorem dayNS_f  : (dayNS).fresh = true := nr rfl
theorem dayNS_q  (z : TZone) (m : Int) : (dayNS).pre [.dv (.ag [.str z.name, .sl (TShift.rows z.shifts)]), .i m] = (z.ok) := propext ⟨fun h => by
  have h' : ∃ (z' : TZone) (m' : Int), ([.dv (.ag z.row), .i m] : List AV) = [.dv (.ag z'.row), .i m'] ∧ (z'.ok) := h
  obtain ⟨z', m', e, h⟩ := h'
  simp only [List.cons.injEq, AV.dv.injEq, AV.fv.injEq, DV.d.injEq, DV.ag.injEq, D.int.injEq, D.str.injEq, D.bool.injEq, D.sl.injEq, true_and, and_true, intsDi_inj, rowsT_inj, rowsKi_inj, TZone.row_inj, TZone.rows_inj] at e
  obtain ⟨rfl, rfl⟩ := e
  exact h, fun h => ⟨z, m, rfl, h⟩⟩
theorem dayNS_p  (z : TZone) (m : Int) : (dayNS).post [.dv (.ag [.str z.name, .sl (TShift.rows z.shifts)]), .i m] = fun y => y = .tcons (.i (dayN z m)) (.tcons (.i (localE z m)) .tnil) := funext fun y => propext ⟨fun h => by
  have h' : ∃ (z' : TZone) (m' : Int), ([.dv (.ag z.row), .i m] : List AV) = [.dv (.ag z'.row), .i m'] ∧ y = .tcons (.i (dayN z' m')) (.tcons (.i (localE z' m')) .tnil) := h
  obtain ⟨z', m', e, h⟩ := h'
  simp only [List.cons.injEq, AV.dv.injEq, AV.fv.injEq, DV.d.injEq, DV.ag.injEq, D.int.injEq, D.str.injEq, D.bool.injEq, D.sl.injEq, true_and, and_true, intsDi_inj, rowsT_inj, rowsKi_inj, TZone.row_inj, TZone.rows_inj] at e
  obtain ⟨rfl, rfl⟩ := e
  exact h, fun h => ⟨z, m, rfl, h⟩⟩
theorem Day_ctr {cx : Cx} (h : Seat cx) : Ctr cx 13 dayNS := by
  refine ctr_of (fn := Tryz.f13) (l := [.tmp 4, .tmp 5]) (envL [(15, zoneS), (49, inS), (51, dayS)]) [0, 1, 2, 4, 5, 6, 10, 14] [] [] (envL_cons (CheckZone_ctr h) (envL_cons (ewithin_ctr h) (envL_cons (DayAt_ctr h) (env0 h.hP)))) ?_ (by rw [h.hP]; exact Tryz.func13) rfl (by kernel_rfl) rfl ?_ ?_
  · rw [h.hP]; exact ⟨_, Tryz.func13, by kernel_rfl, by kernel_rfl⟩
  · rintro xs ⟨z, m, rfl, h1⟩; exact ⟨_, z, m, rfl, rfl⟩
  · rintro xs ⟨z, m, rfl, h1⟩
    refine ⟨by rw [Tryz.ntmps13]; simp, ?_⟩
    simp only [go_sem, h.hP, List.cons_append, List.nil_append, Meets_e, Below_e, Prod.exists, exists_eq, exists_eq_left, exists_eq_left', exists_eq_right, exists_eq_right', exists_and_left, exists_and_right, Ob.arr.injEq, AV.own.injEq, AV.fv.injEq, dayNS_q, dayNS_p, dayNS_c, dayNS_f, zoneS_q, zoneS_p, zoneS_c, zoneS_f, inS_q, inS_p, inS_c, inS_f, dayS_q, dayS_p, dayS_c, dayS_f, TZone.row, Tryz.ntmps13, Nat.reduceEqDiff, reduceCtorEq, Nat.reduceMul, Nat.reduceAdd, Nat.reduceSub, Nat.reduceDiv, Nat.reduceMod, Nat.reduceLeDiff, Nat.reduceLT, Nat.reduceBNe, Nat.reduceBEq, reduceIte, Int.reduceLE, Int.reduceLT, Int.reduceToNat, Int.reduceNeg, Int.reduceAdd, Int.reduceSub, Int.reduceMul, Int.reduceEq]
    have e1 : ¬ zoneF z = 0 → localE z m = zoneF z := fun c => if_pos c
    have e2 : zoneF z = 0 → inB m 0 4321439 = false → localE z m = 1 := fun c d => (if_neg (fun e => e c)).trans (if_pos d)
    have e3 : zoneF z = 0 → inB m 0 4321439 = true → localE z m = 0 := fun c d => (if_neg (fun e => e c)).trans (if_neg (ne_ft d))
    refine ⟨h1, fun c => ⟨(if_neg (by rw [e1 c]; exact c)).symm, (e1 c).symm⟩, fun c => ⟨fun d => ⟨(if_neg (by rw [e2 c d]; decide)).symm, (e2 c d).symm⟩, fun d => ?_⟩⟩
    have u := localE_use (e3 c d)
    exact ⟨u.1, u.2.1, by omega, (if_pos (e3 c d)).symm, (e3 c d).symm⟩
noncomputable def reachN (l : List TShift) (f t : Int) : Int := if fstM l f t < 4321440 then fstM l f t else 0
def reachS  : Spec where
  pre xs := ∃ (z : TZone) (f : Int) (t : Int), xs = [.dv (.ag z.row), .i f, .i t] ∧ (OkZ z.shifts ∧ 0 ≤ f ∧ f ≤ 4321440 ∧ -1000000000 ≤ t ∧ t ≤ 1000000000)
  post xs y := ∃ (z : TZone) (f : Int) (t : Int), xs = [.dv (.ag z.row), .i f, .i t] ∧ y = .tcons (.i (reachN z.shifts f t)) (.tcons (.b (decide (fstM z.shifts f t < 4321440))) .tnil)
  cost _ := 0
  fresh := true
theorem reachS_c  (xs : List AV) : (reachS).cost xs = 0 := nr rfl
theorem reachS_f  : (reachS).fresh = true := nr rfl
theorem reachS_q  (z : TZone) (f : Int) (t : Int) : (reachS).pre [.dv (.ag [.str z.name, .sl (TShift.rows z.shifts)]), .i f, .i t] = (OkZ z.shifts ∧ 0 ≤ f ∧ f ≤ 4321440 ∧ -1000000000 ≤ t ∧ t ≤ 1000000000) := propext ⟨fun h => by
  have h' : ∃ (z' : TZone) (f' : Int) (t' : Int), ([.dv (.ag z.row), .i f, .i t] : List AV) = [.dv (.ag z'.row), .i f', .i t'] ∧ (OkZ z'.shifts ∧ 0 ≤ f' ∧ f' ≤ 4321440 ∧ -1000000000 ≤ t' ∧ t' ≤ 1000000000) := h
  obtain ⟨z', f', t', e, h⟩ := h'
  simp only [List.cons.injEq, AV.dv.injEq, AV.fv.injEq, DV.d.injEq, DV.ag.injEq, D.int.injEq, D.str.injEq, D.bool.injEq, D.sl.injEq, true_and, and_true, intsDi_inj, rowsT_inj, rowsKi_inj, TZone.row_inj, TZone.rows_inj] at e
  obtain ⟨rfl, rfl, rfl⟩ := e
  exact h, fun h => ⟨z, f, t, rfl, h⟩⟩
theorem reachS_p  (z : TZone) (f : Int) (t : Int) : (reachS).post [.dv (.ag [.str z.name, .sl (TShift.rows z.shifts)]), .i f, .i t] = fun y => y = .tcons (.i (reachN z.shifts f t)) (.tcons (.b (decide (fstM z.shifts f t < 4321440))) .tnil) := funext fun y => propext ⟨fun h => by
  have h' : ∃ (z' : TZone) (f' : Int) (t' : Int), ([.dv (.ag z.row), .i f, .i t] : List AV) = [.dv (.ag z'.row), .i f', .i t'] ∧ y = .tcons (.i (reachN z'.shifts f' t')) (.tcons (.b (decide (fstM z'.shifts f' t' < 4321440))) .tnil) := h
  obtain ⟨z', f', t', e, h⟩ := h'
  simp only [List.cons.injEq, AV.dv.injEq, AV.fv.injEq, DV.d.injEq, DV.ag.injEq, D.int.injEq, D.str.injEq, D.bool.injEq, D.sl.injEq, true_and, and_true, intsDi_inj, rowsT_inj, rowsKi_inj, TZone.row_inj, TZone.rows_inj] at e
  obtain ⟨rfl, rfl, rfl⟩ := e
  exact h, fun h => ⟨z, f, t, rfl, h⟩⟩
theorem Reach_ctr {cx : Cx} (h : Seat cx) : Ctr cx 58 reachS := by
  refine ctr_of (fn := Tryz.f58) (l := [.tmp 6, .tmp 7]) (envL []) [0, 1, 2, 3, 6, 7, 8, 9, 10, 11, 13, 14, 15, 16, 25, 43] [] [] (env0 h.hP) ?_ (by rw [h.hP]; exact Tryz.func58) rfl (by kernel_rfl) rfl ?_ ?_
  · rw [h.hP]; exact ⟨_, Tryz.func58, by kernel_rfl, by kernel_rfl⟩
  · rintro xs ⟨z, f, t, rfl, h1⟩; exact ⟨_, z, f, t, rfl, rfl⟩
  · rintro xs ⟨z, f, t, rfl, h1, h2, h3, h4, h5⟩
    refine ⟨by rw [Tryz.ntmps58]; simp, ?_⟩
    simp only [go_sem, h.hP, List.cons_append, List.nil_append, Meets_e, Below_e, Prod.exists, exists_eq, exists_eq_left, exists_eq_left', exists_eq_right, exists_eq_right', exists_and_left, exists_and_right, Ob.arr.injEq, AV.own.injEq, AV.fv.injEq, reachS_q, reachS_p, reachS_c, reachS_f, TZone.row, TShift.len, Tryz.ntmps58, Nat.reduceEqDiff, reduceCtorEq, Nat.reduceMul, Nat.reduceAdd, Nat.reduceSub, Nat.reduceDiv, Nat.reduceMod, Nat.reduceLeDiff, Nat.reduceLT, Nat.reduceBNe, Nat.reduceBEq, reduceIte, Int.reduceLE, Int.reduceLT, Int.reduceToNat, Int.reduceNeg, Int.reduceAdd, Int.reduceSub, Int.reduceMul, Int.reduceEq]
    have hl := h1.few
    refine vc_loopS (Int) (fun (i : Int) => [(15, .i i)]) [3] (fun (i : Int) => []) (fun (i : Int) => []) (fun (i : Int) => 0) (fun (i : Int) => 0 ≤ i ∧ i ≤ z.shifts.length ∧ ∀ k : Int, f ≤ k → k < atN z.shifts i.toNat → locF z.shifts k < t) (fun (i : Int) => (z.shifts.length - i).toNat) [] ?_ ?_
    · simp only [go_sem, h.hP, List.cons_append, List.nil_append, Meets_e, Below_e, Prod.exists, exists_eq, exists_eq_left, exists_eq_left', exists_eq_right, exists_eq_right', exists_and_left, exists_and_right, Ob.arr.injEq, AV.own.injEq, AV.fv.injEq, Tryz.ntmps58, Nat.reduceEqDiff, reduceCtorEq, Nat.reduceMul, Nat.reduceAdd, Nat.reduceSub, Nat.reduceDiv, Nat.reduceMod, Nat.reduceLeDiff, Nat.reduceLT, Nat.reduceBNe, Nat.reduceBEq, reduceIte, Int.reduceLE, Int.reduceLT, Int.reduceToNat, Int.reduceNeg, Int.reduceAdd, Int.reduceSub, Int.reduceMul, Int.reduceEq]
      refine ⟨by omega, fun k a b => ?_⟩
      rw [atN_lt (by have := h1.one; omega), h1.fst] at b
      omega
    · rintro i ⟨i0, i1, i2⟩
      have hw : i < z.shifts.length → IntKind.i64.wrap (i + 1) = i + 1 := fun a => i64w (by omega) (by omega)
      simp only [go_sem, h.hP, List.cons_append, List.nil_append, Meets_e, Below_e, Prod.exists, exists_eq, exists_eq_left, exists_eq_left', exists_eq_right, exists_eq_right', exists_and_left, exists_and_right, Ob.arr.injEq, AV.own.injEq, AV.fv.injEq, reachS_q, reachS_p, reachS_c, reachS_f, TZone.row, TShift.len, TShift.get, Tryz.ntmps58, Nat.reduceEqDiff, reduceCtorEq, Nat.reduceMul, Nat.reduceAdd, Nat.reduceSub, Nat.reduceDiv, Nat.reduceMod, Nat.reduceLeDiff, Nat.reduceLT, Nat.reduceBNe, Nat.reduceBEq, reduceIte, Int.reduceLE, Int.reduceLT, Int.reduceToNat, Int.reduceNeg, Int.reduceAdd, Int.reduceSub, Int.reduceMul, Int.reduceEq]
      refine ⟨fun q => ?_, fun q => ?_⟩
      · have hin : i.toNat < z.shifts.length := by omega
        have ho := h1.offs i.toNat hin
        rw [hw q, i64w (n := t - (z.shifts.getD i.toNat TShift.z).offset) (by omega) (by omega), show (i + 1).toNat = i.toNat + 1 by omega]
        generalize hm : (if (if f < (z.shifts.getD i.toNat TShift.z).at_ then (z.shifts.getD i.toNat TShift.z).at_ else f) < t - (z.shifts.getD i.toNat TShift.z).offset then t - (z.shifts.getD i.toNat TShift.z).offset else if f < (z.shifts.getD i.toNat TShift.z).at_ then (z.shifts.getD i.toNat TShift.z).at_ else f) = m
        have m1 : f ≤ m := by rw [← hm]; split <;> split at * <;> omega
        have m2 : (z.shifts.getD i.toNat TShift.z).at_ ≤ m := by rw [← hm]; split <;> split at * <;> omega
        have m3 : t - (z.shifts.getD i.toNat TShift.z).offset ≤ m := by rw [← hm]; split <;> split at * <;> omega
        have m4 : ∀ k : Int, f ≤ k → (z.shifts.getD i.toNat TShift.z).at_ ≤ k → k < m → k < t - (z.shifts.getD i.toNat TShift.z).offset := fun k a b c => by
          rw [← hm] at c
          split at c
          · split at c <;> omega
          · split at c <;> omega
        obtain ⟨s1, s2⟩ := reach_step h1 hin m1 m2 m3 m4 i2
        have hle := atN_le h1 (i.toNat + 1)
        have hres : m < atN z.shifts (i.toNat + 1) → m = reachN z.shifts f t ∧ true = decide (fstM z.shifts f t < 4321440) := fun c => by
          have e := s1 c
          unfold reachN
          rw [← e, if_pos (by omega)]
          exact ⟨rfl, (decide_eq_true (by omega)).symm⟩
        refine ⟨i0, q, fun c => ?_, fun c => ?_⟩
        · have ea : atN z.shifts (i.toNat + 1) = (z.shifts.getD (i.toNat + 1) TShift.z).at_ := atN_lt (by omega)
          rw [← ea]
          exact ⟨by omega, c, hres, fun d => ⟨by omega, by omega, s2 d, by omega⟩⟩
        · have ea : atN z.shifts (i.toNat + 1) = 4321440 := atN_ge (by omega)
          exact ⟨fun d => hres (by rw [ea]; exact d), fun d => ⟨by omega, by omega, s2 (by rw [ea]; exact d), by omega⟩⟩
      · have e := fstM_is (l := z.shifts) (t := t) h3 (Int.le_refl _) (fun k a b => i2 k a (by rw [atN_ge (by omega)]; exact b)) (fun e => absurd e (by omega))
        unfold reachN
        rw [← e]
        exact ⟨rfl, rfl⟩
def startE (z : TZone) (d m : Int) : Int := if zoneF z ≠ 0 then zoneF z else if inB d 0 3000 = false ∨ inB m 0 1439 = false then 1 else 0
noncomputable def momE (z : TZone) (d m : Int) : Int := if startE z d m ≠ 0 then startE z d m else if fstM z.shifts 0 (d * 1440 + m) < 4321440 then 0 else 8
noncomputable def momN (z : TZone) (d m : Int) : Int := if startE z d m ≠ 0 then 0 else reachN z.shifts 0 (d * 1440 + m)
def momNS  : Spec where
  pre xs := ∃ (z : TZone) (d : Int) (m : Int), xs = [.dv (.ag z.row), .i d, .i m] ∧ (z.ok)
  post xs y := ∃ (z : TZone) (d : Int) (m : Int), xs = [.dv (.ag z.row), .i d, .i m] ∧ y = .tcons (.i (momN z d m)) (.tcons (.i (momE z d m)) .tnil)
  cost _ := 0
  fresh := true
theorem momNS_c  (xs : List AV) : (momNS).cost xs = 0 := nr rfl
theorem momNS_f  : (momNS).fresh = true := nr rfl
theorem momNS_q  (z : TZone) (d : Int) (m : Int) : (momNS).pre [.dv (.ag [.str z.name, .sl (TShift.rows z.shifts)]), .i d, .i m] = (z.ok) := propext ⟨fun h => by
  have h' : ∃ (z' : TZone) (d' : Int) (m' : Int), ([.dv (.ag z.row), .i d, .i m] : List AV) = [.dv (.ag z'.row), .i d', .i m'] ∧ (z'.ok) := h
  obtain ⟨z', d', m', e, h⟩ := h'
  simp only [List.cons.injEq, AV.dv.injEq, AV.fv.injEq, DV.d.injEq, DV.ag.injEq, D.int.injEq, D.str.injEq, D.bool.injEq, D.sl.injEq, true_and, and_true, intsDi_inj, rowsT_inj, rowsKi_inj, TZone.row_inj, TZone.rows_inj] at e
  obtain ⟨rfl, rfl, rfl⟩ := e
  exact h, fun h => ⟨z, d, m, rfl, h⟩⟩
theorem momNS_p  (z : TZone) (d : Int) (m : Int) : (momNS).post [.dv (.ag [.str z.name, .sl (TShift.rows z.shifts)]), .i d, .i m] = fun y => y = .tcons (.i (momN z d m)) (.tcons (.i (momE z d m)) .tnil) := funext fun y => propext ⟨fun h => by
  have h' : ∃ (z' : TZone) (d' : Int) (m' : Int), ([.dv (.ag z.row), .i d, .i m] : List AV) = [.dv (.ag z'.row), .i d', .i m'] ∧ y = .tcons (.i (momN z' d' m')) (.tcons (.i (momE z' d' m')) .tnil) := h
  obtain ⟨z', d', m', e, h⟩ := h'
  simp only [List.cons.injEq, AV.dv.injEq, AV.fv.injEq, DV.d.injEq, DV.ag.injEq, D.int.injEq, D.str.injEq, D.bool.injEq, D.sl.injEq, true_and, and_true, intsDi_inj, rowsT_inj, rowsKi_inj, TZone.row_inj, TZone.rows_inj] at e
  obtain ⟨rfl, rfl, rfl⟩ := e
  exact h, fun h => ⟨z, d, m, rfl, h⟩⟩
theorem Moment_ctr {cx : Cx} (h : Seat cx) : Ctr cx 20 momNS := by
  refine ctr_of (fn := Tryz.f20) (l := [.tmp 6, .tmp 7]) (envL [(15, zoneS), (49, inS), (58, reachS)]) [0, 1, 2, 3, 6, 7, 8, 9, 10, 14, 23, 34] [] [] (envL_cons (CheckZone_ctr h) (envL_cons (ewithin_ctr h) (envL_cons (Reach_ctr h) (env0 h.hP)))) ?_ (by rw [h.hP]; exact Tryz.func20) rfl (by kernel_rfl) rfl ?_ ?_
  · rw [h.hP]; exact ⟨_, Tryz.func20, by kernel_rfl, by kernel_rfl⟩
  · rintro xs ⟨z, d, m, rfl, h1⟩; exact ⟨_, z, d, m, rfl, rfl⟩
  · rintro xs ⟨z, d, m, rfl, h1⟩
    refine ⟨by rw [Tryz.ntmps20]; simp, ?_⟩
    simp only [go_sem, h.hP, List.cons_append, List.nil_append, Meets_e, Below_e, Prod.exists, exists_eq, exists_eq_left, exists_eq_left', exists_eq_right, exists_eq_right', exists_and_left, exists_and_right, Ob.arr.injEq, AV.own.injEq, AV.fv.injEq, momNS_q, momNS_p, momNS_c, momNS_f, zoneS_q, zoneS_p, zoneS_c, zoneS_f, inS_q, inS_p, inS_c, inS_f, reachS_q, reachS_p, reachS_c, reachS_f, TZone.row, Tryz.ntmps20, Nat.reduceEqDiff, reduceCtorEq, Nat.reduceMul, Nat.reduceAdd, Nat.reduceSub, Nat.reduceDiv, Nat.reduceMod, Nat.reduceLeDiff, Nat.reduceLT, Nat.reduceBNe, Nat.reduceBEq, reduceIte, Int.reduceLE, Int.reduceLT, Int.reduceToNat, Int.reduceNeg, Int.reduceAdd, Int.reduceSub, Int.reduceMul, Int.reduceEq]
    have e1 : ¬ zoneF z = 0 → startE z d m = zoneF z := fun c => if_pos c
    have e2 : zoneF z = 0 → (inB d 0 3000 = false ∨ inB m 0 1439 = false) → startE z d m = 1 := fun c d => (if_neg (fun e => e c)).trans (if_pos d)
    have e3 : zoneF z = 0 → inB d 0 3000 = true → inB m 0 1439 = true → startE z d m = 0 := fun c d e => (if_neg (fun e => e c)).trans (if_neg (fun x => x.elim (ne_ft d) (ne_ft e)))
    have bad : ∀ {e : Int}, ¬ e = 0 → startE z d m = e → 0 = momN z d m ∧ e = momE z d m := fun {e} n c => by
      unfold momN momE
      rw [c, if_pos n, if_pos n]
      exact ⟨rfl, rfl⟩
    refine ⟨h1, fun c => bad c (e1 c), fun c => ⟨fun a => ⟨fun b => bad (by decide) (e2 c (.inr b)), fun b => ?_⟩, fun a => bad (by decide) (e2 c (.inl a))⟩⟩
    have a' := inB_iff.1 a
    have b' := inB_iff.1 b
    have es := e3 c a b
    rw [i64w (n := d * 1440) (by omega) (by omega), i64w (n := d * 1440 + m) (by omega) (by omega)]
    have hN : momN z d m = reachN z.shifts 0 (d * 1440 + m) := if_neg (fun e => e es)
    have hE : momE z d m = if fstM z.shifts 0 (d * 1440 + m) < 4321440 then 0 else 8 := if_neg (fun e => e es)
    rw [hN, hE]
    exact ⟨okZ c, by omega, by omega, fun e => ⟨(if_neg e).symm, (if_neg e).symm⟩, fun e => ⟨rfl, (if_pos e).symm⟩⟩
def startS  : Spec where
  pre xs := ∃ (z : TZone) (d : Int), xs = [.dv (.ag z.row), .i d] ∧ (z.ok)
  post xs y := ∃ (z : TZone) (d : Int), xs = [.dv (.ag z.row), .i d] ∧ y = .tcons (.i (momN z d 0)) (.tcons (.i (momE z d 0)) .tnil)
  cost _ := 0
  fresh := true
theorem startS_c  (xs : List AV) : (startS).cost xs = 0 := nr rfl
theorem startS_f  : (startS).fresh = true := nr rfl
theorem startS_q  (z : TZone) (d : Int) : (startS).pre [.dv (.ag [.str z.name, .sl (TShift.rows z.shifts)]), .i d] = (z.ok) := propext ⟨fun h => by
  have h' : ∃ (z' : TZone) (d' : Int), ([.dv (.ag z.row), .i d] : List AV) = [.dv (.ag z'.row), .i d'] ∧ (z'.ok) := h
  obtain ⟨z', d', e, h⟩ := h'
  simp only [List.cons.injEq, AV.dv.injEq, AV.fv.injEq, DV.d.injEq, DV.ag.injEq, D.int.injEq, D.str.injEq, D.bool.injEq, D.sl.injEq, true_and, and_true, intsDi_inj, rowsT_inj, rowsKi_inj, TZone.row_inj, TZone.rows_inj] at e
  obtain ⟨rfl, rfl⟩ := e
  exact h, fun h => ⟨z, d, rfl, h⟩⟩
theorem startS_p  (z : TZone) (d : Int) : (startS).post [.dv (.ag [.str z.name, .sl (TShift.rows z.shifts)]), .i d] = fun y => y = .tcons (.i (momN z d 0)) (.tcons (.i (momE z d 0)) .tnil) := funext fun y => propext ⟨fun h => by
  have h' : ∃ (z' : TZone) (d' : Int), ([.dv (.ag z.row), .i d] : List AV) = [.dv (.ag z'.row), .i d'] ∧ y = .tcons (.i (momN z' d' 0)) (.tcons (.i (momE z' d' 0)) .tnil) := h
  obtain ⟨z', d', e, h⟩ := h'
  simp only [List.cons.injEq, AV.dv.injEq, AV.fv.injEq, DV.d.injEq, DV.ag.injEq, D.int.injEq, D.str.injEq, D.bool.injEq, D.sl.injEq, true_and, and_true, intsDi_inj, rowsT_inj, rowsKi_inj, TZone.row_inj, TZone.rows_inj] at e
  obtain ⟨rfl, rfl⟩ := e
  exact h, fun h => ⟨z, d, rfl, h⟩⟩
theorem Start_ctr {cx : Cx} (h : Seat cx) : Ctr cx 19 startS := by
  refine ctr_of (fn := Tryz.f19) (l := [.tmp 4, .tmp 5]) (envL [(20, momNS)]) [0, 1, 2, 4, 5] [] [] (envL_cons (Moment_ctr h) (env0 h.hP)) ?_ (by rw [h.hP]; exact Tryz.func19) rfl (by kernel_rfl) rfl ?_ ?_
  · rw [h.hP]; exact ⟨_, Tryz.func19, by kernel_rfl, by kernel_rfl⟩
  · rintro xs ⟨z, d, rfl, h1⟩; exact ⟨_, z, d, rfl, rfl⟩
  · rintro xs ⟨z, d, rfl, h1⟩
    refine ⟨by rw [Tryz.ntmps19]; simp, ?_⟩
    simp only [go_sem, h.hP, List.cons_append, List.nil_append, Meets_e, Below_e, Prod.exists, exists_eq, exists_eq_left, exists_eq_left', exists_eq_right, exists_eq_right', exists_and_left, exists_and_right, Ob.arr.injEq, AV.own.injEq, AV.fv.injEq, startS_q, startS_p, startS_c, startS_f, momNS_q, momNS_p, momNS_c, momNS_f, TZone.row, Tryz.ntmps19, Nat.reduceEqDiff, reduceCtorEq, Nat.reduceMul, Nat.reduceAdd, Nat.reduceSub, Nat.reduceDiv, Nat.reduceMod, Nat.reduceLeDiff, Nat.reduceLT, Nat.reduceBNe, Nat.reduceBEq, reduceIte, Int.reduceLE, Int.reduceLT, Int.reduceToNat, Int.reduceNeg, Int.reduceAdd, Int.reduceSub, Int.reduceMul, Int.reduceEq]
    exact h1
def momOfS  : Spec where
  pre xs := ∃ (z : TZone) (d : Int) (m : Int), xs = [.dv (.ag z.row), .i d, .i m] ∧ (OkZ z.shifts ∧ 0 ≤ d ∧ d ≤ 3000 ∧ 0 ≤ m ∧ m ≤ 1439)
  post xs y := ∃ (z : TZone) (d : Int) (m : Int), xs = [.dv (.ag z.row), .i d, .i m] ∧ y = .tcons (.i (fstM z.shifts 0 (d * 1440 + m))) (.tcons (.b (decide (fstM z.shifts 0 (d * 1440 + m) < 4321440))) .tnil)
  cost _ := 0
  fresh := true
theorem momOfS_c  (xs : List AV) : (momOfS).cost xs = 0 := nr rfl
theorem momOfS_f  : (momOfS).fresh = true := nr rfl
theorem momOfS_q  (z : TZone) (d : Int) (m : Int) : (momOfS).pre [.dv (.ag [.str z.name, .sl (TShift.rows z.shifts)]), .i d, .i m] = (OkZ z.shifts ∧ 0 ≤ d ∧ d ≤ 3000 ∧ 0 ≤ m ∧ m ≤ 1439) := propext ⟨fun h => by
  have h' : ∃ (z' : TZone) (d' : Int) (m' : Int), ([.dv (.ag z.row), .i d, .i m] : List AV) = [.dv (.ag z'.row), .i d', .i m'] ∧ (OkZ z'.shifts ∧ 0 ≤ d' ∧ d' ≤ 3000 ∧ 0 ≤ m' ∧ m' ≤ 1439) := h
  obtain ⟨z', d', m', e, h⟩ := h'
  simp only [List.cons.injEq, AV.dv.injEq, AV.fv.injEq, DV.d.injEq, DV.ag.injEq, D.int.injEq, D.str.injEq, D.bool.injEq, D.sl.injEq, true_and, and_true, intsDi_inj, rowsT_inj, rowsKi_inj, TZone.row_inj, TZone.rows_inj] at e
  obtain ⟨rfl, rfl, rfl⟩ := e
  exact h, fun h => ⟨z, d, m, rfl, h⟩⟩
theorem momOfS_p  (z : TZone) (d : Int) (m : Int) : (momOfS).post [.dv (.ag [.str z.name, .sl (TShift.rows z.shifts)]), .i d, .i m] = fun y => y = .tcons (.i (fstM z.shifts 0 (d * 1440 + m))) (.tcons (.b (decide (fstM z.shifts 0 (d * 1440 + m) < 4321440))) .tnil) := funext fun y => propext ⟨fun h => by
  have h' : ∃ (z' : TZone) (d' : Int) (m' : Int), ([.dv (.ag z.row), .i d, .i m] : List AV) = [.dv (.ag z'.row), .i d', .i m'] ∧ y = .tcons (.i (fstM z'.shifts 0 (d' * 1440 + m'))) (.tcons (.b (decide (fstM z'.shifts 0 (d' * 1440 + m') < 4321440))) .tnil) := h
  obtain ⟨z', d', m', e, h⟩ := h'
  simp only [List.cons.injEq, AV.dv.injEq, AV.fv.injEq, DV.d.injEq, DV.ag.injEq, D.int.injEq, D.str.injEq, D.bool.injEq, D.sl.injEq, true_and, and_true, intsDi_inj, rowsT_inj, rowsKi_inj, TZone.row_inj, TZone.rows_inj] at e
  obtain ⟨rfl, rfl, rfl⟩ := e
  exact h, fun h => ⟨z, d, m, rfl, h⟩⟩
theorem MomentOf_ctr {cx : Cx} (h : Seat cx) : Ctr cx 22 momOfS := by
  refine ctr_of (fn := Tryz.f22) (l := [.tmp 6, .tmp 7]) (envL [(18, dayS), (17, clockS)]) [0, 1, 2, 3, 6, 7, 8, 21, 35] [4] [] (envL_cons (DayOf_ctr h) (envL_cons (Clock_ctr h) (env0 h.hP))) ?_ (by rw [h.hP]; exact Tryz.func22) rfl (by kernel_rfl) rfl ?_ ?_
  · rw [h.hP]; exact ⟨_, Tryz.func22, by kernel_rfl, by kernel_rfl⟩
  · rintro xs ⟨z, d, m, rfl, h1⟩; exact ⟨_, z, d, m, rfl, rfl⟩
  · rintro xs ⟨z, d, m, rfl, h1, h2, h3, h4, h5⟩
    refine ⟨by rw [Tryz.ntmps22]; simp, ?_⟩
    simp only [go_sem, h.hP, List.cons_append, List.nil_append, Meets_e, Below_e, Prod.exists, exists_eq, exists_eq_left, exists_eq_left', exists_eq_right, exists_eq_right', exists_and_left, exists_and_right, Ob.arr.injEq, AV.own.injEq, AV.fv.injEq, momOfS_q, momOfS_p, momOfS_c, momOfS_f, TZone.row, Tryz.ntmps22, Nat.reduceEqDiff, reduceCtorEq, Nat.reduceMul, Nat.reduceAdd, Nat.reduceSub, Nat.reduceDiv, Nat.reduceMod, Nat.reduceLeDiff, Nat.reduceLT, Nat.reduceBNe, Nat.reduceBEq, reduceIte, Int.reduceLE, Int.reduceLT, Int.reduceToNat, Int.reduceNeg, Int.reduceAdd, Int.reduceSub, Int.reduceMul, Int.reduceEq]
    rw [i64w (n := d * 1440) (by omega) (by omega), i64w (n := d * 1440 - 2000) (by omega) (by omega)]
    have hday : ∀ k : Int, 0 ≤ k → k < d * 1440 - 2000 → dayF z.shifts k < d := fun k a b => by
      have := locF_le h1 a
      unfold dayF
      omega
    refine vc_cutS (Int) (fun (n : Int) => [(8, .i n)]) [3] (fun (n : Int) => []) (fun (n : Int) => []) (fun (n : Int) => 0) (fun (n : Int) => 0 ≤ n ∧ n ≤ 4321440 ∧ ∀ k : Int, 0 ≤ k → k < n → dayF z.shifts k < d) [] ?_ ?_ ?_
    · rfl
    · simp only [go_sem, h.hP, Tryz.ntmps22, Nat.reduceEqDiff, reduceCtorEq, Nat.reduceMul, Nat.reduceAdd, Nat.reduceSub, Nat.reduceDiv, Nat.reduceMod, Nat.reduceLeDiff, Nat.reduceLT, Nat.reduceBNe, Nat.reduceBEq, reduceIte, Int.reduceLE, Int.reduceLT, Int.reduceToNat, Int.reduceNeg, Int.reduceAdd, Int.reduceSub, Int.reduceMul, Int.reduceEq]
      refine vc_loopS (Int) (fun (n : Int) => [(8, .i n)]) [3] (fun (n : Int) => []) (fun (n : Int) => []) (fun (n : Int) => 0) (fun (n : Int) => 0 ≤ n ∧ n ≤ 4321440 ∧ ∀ k : Int, 0 ≤ k → k < n → dayF z.shifts k < d) (fun (n : Int) => (4321440 - n).toNat) [] ?_ ?_
      · simp only [go_sem, h.hP, List.cons_append, List.nil_append, Meets_e, Below_e, Prod.exists, exists_eq, exists_eq_left, exists_eq_left', exists_eq_right, exists_eq_right', exists_and_left, exists_and_right, Ob.arr.injEq, AV.own.injEq, AV.fv.injEq, Tryz.ntmps22, Nat.reduceEqDiff, reduceCtorEq, Nat.reduceMul, Nat.reduceAdd, Nat.reduceSub, Nat.reduceDiv, Nat.reduceMod, Nat.reduceLeDiff, Nat.reduceLT, Nat.reduceBNe, Nat.reduceBEq, reduceIte, Int.reduceLE, Int.reduceLT, Int.reduceToNat, Int.reduceNeg, Int.reduceAdd, Int.reduceSub, Int.reduceMul, Int.reduceEq]
        refine ⟨by split <;> omega, by split <;> omega, fun k a b => ?_⟩
        split at b
        · exact hday k a b
        · omega
      · rintro n ⟨n0, n1, n2⟩
        have hw : n < 4321440 → IntKind.i64.wrap (n + 1) = n + 1 := fun _ => i64w (by omega) (by omega)
        simp only [go_sem, h.hP, List.cons_append, List.nil_append, Meets_e, Below_e, Prod.exists, exists_eq, exists_eq_left, exists_eq_left', exists_eq_right, exists_eq_right', exists_and_left, exists_and_right, Ob.arr.injEq, AV.own.injEq, AV.fv.injEq, momOfS_q, momOfS_p, momOfS_c, momOfS_f, dayS_q, dayS_p, dayS_c, dayS_f, TZone.row, Tryz.ntmps22, Nat.reduceEqDiff, reduceCtorEq, Nat.reduceMul, Nat.reduceAdd, Nat.reduceSub, Nat.reduceDiv, Nat.reduceMod, Nat.reduceLeDiff, Nat.reduceLT, Nat.reduceBNe, Nat.reduceBEq, reduceIte, Int.reduceLE, Int.reduceLT, Int.reduceToNat, Int.reduceNeg, Int.reduceAdd, Int.reduceSub, Int.reduceMul, Int.reduceEq]
        refine ⟨fun q => ⟨h1, n0, n1, fun a => ?_, fun a => ⟨n0, n1, n2⟩⟩, fun q => ⟨n0, n1, n2⟩⟩
        rw [hw q]
        refine ⟨by omega, by omega, fun k k0 k1 => ?_, by omega⟩
        by_cases e : k = n
        · rw [e]; exact a
        · exact n2 k k0 (by omega)
    · rintro n ⟨n0, n1, n2⟩
      simp only [go_sem, h.hP, Tryz.ntmps22, Nat.reduceEqDiff, reduceCtorEq, Nat.reduceMul, Nat.reduceAdd, Nat.reduceSub, Nat.reduceDiv, Nat.reduceMod, Nat.reduceLeDiff, Nat.reduceLT, Nat.reduceBNe, Nat.reduceBEq, reduceIte, Int.reduceLE, Int.reduceLT, Int.reduceToNat, Int.reduceNeg, Int.reduceAdd, Int.reduceSub, Int.reduceMul, Int.reduceEq]
      refine vc_loopS (Int) (fun (n : Int) => [(8, .i n)]) [3] (fun (n : Int) => []) (fun (n : Int) => []) (fun (n : Int) => 0) (fun (n : Int) => 0 ≤ n ∧ n ≤ 4321440 ∧ ∀ k : Int, 0 ≤ k → k < n → locF z.shifts k < d * 1440 + m) (fun (n : Int) => (4321440 - n).toNat) [] ?_ ?_
      · simp only [go_sem, h.hP, List.cons_append, List.nil_append, Meets_e, Below_e, Prod.exists, exists_eq, exists_eq_left, exists_eq_left', exists_eq_right, exists_eq_right', exists_and_left, exists_and_right, Ob.arr.injEq, AV.own.injEq, AV.fv.injEq, Tryz.ntmps22, Nat.reduceEqDiff, reduceCtorEq, Nat.reduceMul, Nat.reduceAdd, Nat.reduceSub, Nat.reduceDiv, Nat.reduceMod, Nat.reduceLeDiff, Nat.reduceLT, Nat.reduceBNe, Nat.reduceBEq, reduceIte, Int.reduceLE, Int.reduceLT, Int.reduceToNat, Int.reduceNeg, Int.reduceAdd, Int.reduceSub, Int.reduceMul, Int.reduceEq]
        refine ⟨n0, n1, fun k a b => ?_⟩
        have := n2 k a b
        unfold dayF at this
        omega
      · rintro n ⟨p0, p1, p2⟩
        have hw : n < 4321440 → IntKind.i64.wrap (n + 1) = n + 1 := fun _ => i64w (by omega) (by omega)
        have hw2 : IntKind.i64.wrap (IntKind.i64.wrap (d * 1440) + m) = d * 1440 + m := by rw [i64w (n := d * 1440) (by omega) (by omega), i64w (by omega) (by omega)]
        simp only [go_sem, h.hP, List.cons_append, List.nil_append, Meets_e, Below_e, Prod.exists, exists_eq, exists_eq_left, exists_eq_left', exists_eq_right, exists_eq_right', exists_and_left, exists_and_right, Ob.arr.injEq, AV.own.injEq, AV.fv.injEq, momOfS_q, momOfS_p, momOfS_c, momOfS_f, clockS_q, clockS_p, clockS_c, clockS_f, TZone.row, hw2, Tryz.ntmps22, Nat.reduceEqDiff, reduceCtorEq, Nat.reduceMul, Nat.reduceAdd, Nat.reduceSub, Nat.reduceDiv, Nat.reduceMod, Nat.reduceLeDiff, Nat.reduceLT, Nat.reduceBNe, Nat.reduceBEq, reduceIte, Int.reduceLE, Int.reduceLT, Int.reduceToNat, Int.reduceNeg, Int.reduceAdd, Int.reduceSub, Int.reduceMul, Int.reduceEq]
        have fin : (n < 4321440 → d * 1440 + m ≤ locF z.shifts n) → n = fstM z.shifts 0 (d * 1440 + m) ∧ decide (n < 4321440) = decide (fstM z.shifts 0 (d * 1440 + m) < 4321440) := fun c => by
          have e := fstM_is p0 p1 p2 c
          rw [← e]
          exact ⟨rfl, rfl⟩
        refine ⟨fun q => ⟨h1, p0, p1, fun a => ?_, fun a => fin fun _ => Int.not_lt.1 a⟩, fun q => fin fun e => absurd e q⟩
        rw [hw q]
        refine ⟨by omega, by omega, fun k k0 k1 => ?_, by omega⟩
        by_cases e : k = n
        · rw [e]; exact a
        · exact p2 k k0 (by omega)
end Go.Avc

/- event.Pack of no events: its walk. No condition. -/
set_option linter.unusedVariables false
set_option linter.unusedSimpArgs false
namespace Go.Avc
open Go Go.RowKit Go.Proofs

set_option maxHeartbeats 1000000 in
set_option maxRecDepth 100000 in
theorem check_nil (A : Option Addr) (c : Nat) (w : World) : Calls Tryz.prog 100 #[.slice A 0 c] w fun e w' => e = .returned (.int .i64 0) ∧ w' = w.alloc (.map #[] 0) := by
  have hmm := @run_makeMap Tryz.prog
  go_enter Tryz.func100, Tryz.ntmps100
  go_wp2
  go_loopw [13] (fun i wr => i = .int .i64 0 ∧ wr = w.alloc (.map #[] 0)) (fun _ _ => 0)
  case atStart => exact ⟨rfl, rfl⟩
  case round =>
    obtain ⟨rfl, rfl⟩ := hrel
    go_wp2
    go_ret
    exact ⟨rfl, rfl⟩
set_option maxHeartbeats 4000000 in
set_option maxRecDepth 100000 in
theorem varint_nil (b : Nat) (m : Value) (w : World) (h : w.heap[b]? = some (.cells #[.slice none 0 0, m] 145 (0, 0))) :
    Calls Tryz.prog 101 #[.pointer (some ⟨b, 0, none⟩), .int .i64 0] w fun e w' => e = .returned (.tuple #[]) ∧ ∃ g cap, w'.heap[b]? = some (.cells #[.slice (some ⟨g, 0, none⟩) 1 cap, m] 145 (0, 0)) ∧
      w'.ownsRow w.heap.size bE 1 (.slice (some ⟨g, 0, none⟩) 1 cap) 1 [.int .u8 0] ∧ w'.os = w.os ∧ w'.tape = w.tape ∧ w'.output = w.output ∧ w.heap.size ≤ w'.heap.size ∧ ∀ k, k < w.heap.size → k ≠ b → w'.heap[k]? = w.heap[k]? := by
  have hlt : b < w.heap.size := (Array.getElem?_eq_some_iff.1 h).1
  have c0 : w.cell? ⟨b, 0, none⟩ = some (.slice none 0 0) := by rw [Lib.cell_of_heap h]; rfl
  go_enter Tryz.func101, Tryz.ntmps101
  go_wp2
  go_loopw [1] (fun i wr => i = .int .i64 0 ∧ wr = w) (fun _ _ => 0)
  case atStart => exact ⟨rfl, rfl⟩
  case round =>
    obtain ⟨rfl, rfl⟩ := hrel
    have hi : Tryz.prog.info? 5 = some Tryz.t5 := by kernel_rfl
    have hz0 : Tryz.t5.zero = some (.int .u8 0) := by kernel_rfl
    have hz1 : Tryz.t5.size = 1 := by kernel_rfl
    have hz2 : Tryz.t5.bytes = 1 := by kernel_rfl
    have hown1 : wr.ownsRow wr.heap.size bE 1 (.slice none 0 0) 0 [] := World.ownsRow_nil ..
    go_wp2_with (at_builtin; refine wpList_append_own_at _ rfl _ _ 143 rfl wr.heap.size bE Tryz.t5 (.int .u8 0) 1 1 Tryz.underlying143 hi hz0 hz1 hz2 rfl (by decide) _ _ _ rfl (hown1.alloc _) ⟨wr.heap.size, 0, none⟩ 1 1 [.int .u8 0] rfl rfl ?c1 ?c2 ?c3 ?c4 ?c5 ?_)
    case c1 =>
      intro j u hj
      match j, hj with
      | 0, hj => simp at hj; subst hj; simp [Addr.add]
    case c2 => intro u hu; simp at hu; subst hu; rfl
    case c3 => unfold maxLen; omega
    case c4 => omega
    case c5 => simp
    intro v' w2 hown' hgrow _ hat
    have hne : (Value.slice none 0 0).ownBlock ≠ some b := by simp [Value.ownBlock]
    have hs2 : wr.heap.size + 1 ≤ w2.heap.size := by have := hgrow.size; simpa using this
    have hb2 : w2.heap[b]? = some (.cells #[.slice none 0 0, m] 145 (0, 0)) := by
      rw [hgrow.block b (by simp; omega) (fun e => hne e.symm), Lib.alloc_old wr _ b (by omega)]
      exact h
    have d0 : w2.cell? ⟨b, 0, none⟩ = some (.slice none 0 0) := by rw [Lib.cell_of_heap hb2]; rfl
    have f0 : w2.frozen? ⟨b, 0, none⟩ = false := Lib.frozen_of_heap hb2 0
    obtain ⟨g, cap, rfl⟩ : ∃ g cap, v' = .slice (some ⟨g, 0, none⟩) 1 cap := by
      rcases hown'.2 with ⟨_, h0⟩ | ⟨g, cap, cur, hv, _⟩
      · omega
      · exact ⟨g, cap, hv⟩
    go_wp2
    go_end0
    refine ⟨rfl, g, cap, ?_, ?_, hgrow.os, hgrow.tape, hgrow.output, ?_, fun k hk hkb => ?_⟩
    · simp [World.setCell, Array.getElem?_modify, hb2]
    · have hnb : (Value.slice (some ⟨g, 0, none⟩) 1 cap).ownBlock ≠ some b := Lib.ownBlock_ne hown' hb2 (by decide)
      exact hown'.kept (row := some b) ⟨rfl, rfl, rfl, by simp [World.setCell], fun k _ hk => heap_setCell_other _ _ _ _ (fun e => hk (by rw [e]))⟩ (.inr hnb)
    · simp [World.setCell]; omega
    · rw [heap_setCell_other _ _ _ _ (by exact hkb), hgrow.block k (by simp; omega) (by simp [Value.ownBlock]), Lib.alloc_old wr _ k (by omega)]
set_option maxHeartbeats 4000000 in
set_option maxRecDepth 100000 in
theorem pack_nil (A : Option Addr) (c : Nat) (w : World) : Calls Tryz.prog 55 #[.slice A 0 c] w fun e w' => e = .returned (.tuple #[.string ⟨#[0]⟩, .int .i64 0]) ∧ RowKit.Below w.heap.size w w' := by
  have hmm := @run_makeMap Tryz.prog
  go_enter Tryz.func55, Tryz.ntmps55
  go_wp2_with (go_at_call 100; refine (check_nil A c w).mono ?_)
  rintro e w1 ⟨rfl, rfl⟩
  have hb : (((w.alloc (.map #[] 0)).alloc (.map #[] 0)).alloc (.cells #[.slice none 0 0, .map (some (w.heap.size + 1))] 145)).heap[w.heap.size + 1 + 1]? = some (.cells #[.slice none 0 0, .map (some (w.heap.size + 1))] 145 (0, 0)) := by
    simp only [World.alloc, Array.getElem?_push, Array.size_push, if_true]
  go_wp2_with (go_at_call 101; refine (varint_nil _ _ _ hb).mono ?_)
  rintro e w2 ⟨rfl, g, cap, hb2, hown, ho, ht, hu, hs, hk⟩
  have hs' : w.heap.size + 1 + 1 + 1 ≤ w2.heap.size := by simpa using hs
  have hkeep : ∀ k, k < w.heap.size → w2.heap[k]? = w.heap[k]? := fun k hk0 => by
    rw [hk k (by simp; omega) (by omega)]
    rw [Lib.alloc_old _ _ k (by simp; omega), Lib.alloc_old _ _ k (by simp; omega), Lib.alloc_old _ _ k hk0]
  have d0 : w2.cell? ⟨w.heap.size + 1 + 1, 0, none⟩ = some (.slice (some ⟨g, 0, none⟩) 1 cap) := by rw [Lib.cell_of_heap hb2]; rfl
  go_wp2
  go_loopw [25] (fun i wr => i = .int .i64 0 ∧ wr = w2) (fun _ _ => 0)
  case atStart => exact ⟨rfl, rfl⟩
  case round =>
    obtain ⟨rfl, rfl⟩ := hrel
    go_wp2
    have hcell : ∀ i, i < 1 → wr.cell? ⟨g, 0 + i, none⟩ = some (.int .u8 ((numsOf [[D.int .u8 0]]).getD i 0)) := fun i hi => by
      obtain rfl : i = 0 := by omega
      exact ownsRow_cells hown rfl 0 (.int .u8 0) rfl
    have hcv := bytes_run (P := Tryz.prog) (w := wr) (s := 143) (e := 5) (t := 9) Tryz.underlying143 Tryz.underlying5 Tryz.underlying9 (l := [[D.int .u8 0]]) (fun x hx => ⟨0, List.mem_singleton.1 hx⟩) (A := some ⟨g, 0, none⟩) (c := cap) (fun _ => ⟨g, 0, rfl, hcell⟩)
    rw [show (Value.slice (some ⟨g, 0, none⟩) 1 cap) = .slice (some ⟨g, 0, none⟩) ([[D.int .u8 0]] : List (List D)).length cap from rfl, hcv]
    simp only [Result.andThen]
    rw [Oper.upon_value]
    go_wp2
    go_ret2
    refine ⟨rfl, ho, ht, hu, by omega, hkeep⟩
/-- Pack of no events. -/
def packNilS : Spec where
  pre xs := xs = [.sl []]
  post xs r := r = .tcons (.str ⟨#[0]⟩) (.tcons (.i 0) .tnil)
  cost _ := 0
  fresh := true
theorem packNilS_q : packNilS.pre [.sl []] = True := eq_true rfl
theorem packNilS_p (xs : List AV) : packNilS.post xs = fun r => r = .tcons (.str ⟨#[0]⟩) (.tcons (.i 0) .tnil) := rfl
theorem packNilS_c (xs : List AV) : packNilS.cost xs = 0 := nr rfl
theorem packNilS_f : packNilS.fresh = true := nr rfl
theorem rd_nil_inv {ok : Nat → Prop} {w : World} {v : Value} (h : Rd ok w (.sl []) v) : ∃ A c, v = .slice A 0 c := by
  generalize e : ([] : List (List D)) = r at h
  cases h with
  | nil A c => exact ⟨A, c, rfl⟩
  | sl r z b o c u hc hb hlt hz hu hr => subst e; exact ⟨_, _, rfl⟩
theorem Pack_nil_ctr {cx : Cx} (h : Seat cx) : Ctr cx 55 packNilS := by
  refine ⟨by rw [h.hP]; exact ⟨_, Tryz.func55, by kernel_rfl, by kernel_rfl⟩, fun xs _ => ⟨_, rfl⟩, ?_⟩
  rintro F xs us hcx hF hst hgl hco hlen hargs rfl
  match us, hlen with
  | [a], _ =>
  obtain ⟨A, c, rfl⟩ := rd_nil_inv (show Rd _ _ (.sl []) a from hargs 0 _ _ rfl rfl)
  rw [h.hP]
  refine (pack_nil A c F.w0).mono ?_
  rintro e w' ⟨rfl, hb⟩
  exact ⟨_, .tcons (.str ⟨#[0]⟩) (.tcons (.i 0) .tnil), rfl, ⟨hb.os, hb.tape, hb.output, hb.size, fun b hlt _ => hb.block b hlt⟩, hst.keep hb.size (fun b hlt => hb.block b hlt), rfl, rfl, ⟨[.string ⟨#[0]⟩, .int .i64 0], rfl, _, _, rfl, Rd.str _, _, _, rfl, Rd.int .i64 _, rfl⟩⟩
theorem hap_zone : zoneF ⟨⟨#[117, 116, 99]⟩, [⟨0, 0⟩]⟩ = 0 := by decide +kernel
def happeningsS  : Spec where
  pre xs := xs = []
  post xs y := xs = [] ∧ y = .b true
  cost _ := 0
  fresh := true
theorem happeningsS_c  (xs : List AV) : (happeningsS).cost xs = 0 := nr rfl
theorem happeningsS_f  : (happeningsS).fresh = true := nr rfl
theorem happeningsS_q  : (happeningsS).pre [] = (([] : List AV) = []) := nr rfl
theorem happeningsS_p  : (happeningsS).post [] = fun y => y = .b true := funext fun y => propext ⟨fun h => h.2, fun h => ⟨rfl, h⟩⟩
theorem happenings_ctr {cx : Cx} (h : Seat cx) : Ctr cx 16 happeningsS := by
  refine ctr_of (fn := Tryz.f16) (l := [.tmp 0]) (envL [(13, dayNS), (55, packNilS)]) [0, 1, 2, 3, 4] [] [] (envL_cons (Day_ctr h) (envL_cons (Pack_nil_ctr h) (env0 h.hP))) ?_ (by rw [h.hP]; exact Tryz.func16) rfl (by kernel_rfl) rfl ?_ ?_
  · rw [h.hP]; exact ⟨_, Tryz.func16, by kernel_rfl, by kernel_rfl⟩
  · rintro xs ⟨rfl, h1⟩; exact ⟨_, rfl, rfl⟩
  · rintro xs ⟨rfl, h1⟩
    refine ⟨by rw [Tryz.ntmps16]; simp, ?_⟩
    have hz : (⟨⟨#[117, 116, 99]⟩, [⟨0, 0⟩]⟩ : TZone).ok := ⟨by unfold okS; decide, okL_one ⟨okI_z, okI_z⟩⟩
    have hq : dayNS.pre [.dv (.ag [.str ⟨#[117, 116, 99]⟩, .sl [[.int .i64 0, .int .i64 0]]]), .i 3000] = True := (dayNS_q ⟨⟨#[117, 116, 99]⟩, [⟨0, 0⟩]⟩ 3000).trans (eq_true hz)
    have he : localE ⟨⟨#[117, 116, 99]⟩, [⟨0, 0⟩]⟩ 3000 = 0 := by decide +kernel
    have hn : dayN ⟨⟨#[117, 116, 99]⟩, [⟨0, 0⟩]⟩ 3000 = 2 := by decide +kernel
    have hp : dayNS.post [.dv (.ag [.str ⟨#[117, 116, 99]⟩, .sl [[.int .i64 0, .int .i64 0]]]), .i 3000] = fun y => y = .tcons (.i 2) (.tcons (.i 0) .tnil) := (dayNS_p ⟨⟨#[117, 116, 99]⟩, [⟨0, 0⟩]⟩ 3000).trans (by rw [hn, he])
    simp only [go_sem, h.hP, List.cons_append, List.nil_append, Meets_e, Below_e, Prod.exists, exists_eq, exists_eq_left, exists_eq_left', exists_eq_right, exists_eq_right', exists_and_left, exists_and_right, Ob.arr.injEq, AV.own.injEq, AV.fv.injEq, happeningsS_q, happeningsS_p, happeningsS_c, happeningsS_f, packNilS_q, packNilS_p, packNilS_c, packNilS_f, hq, hp, dayNS_c, dayNS_f, Tryz.ntmps16, Nat.reduceEqDiff, reduceCtorEq, Nat.reduceMul, Nat.reduceAdd, Nat.reduceSub, Nat.reduceDiv, Nat.reduceMod, Nat.reduceLeDiff, Nat.reduceLT, Nat.reduceBNe, Nat.reduceBEq, reduceIte, Int.reduceLE, Int.reduceLT, Int.reduceToNat, Int.reduceNeg, Int.reduceAdd, Int.reduceSub, Int.reduceMul, Int.reduceEq]
end Go.Avc

/- ZoneStarts: its walk. No condition. -/
set_option linter.unusedVariables false
set_option linter.unusedSimpArgs false
set_option maxRecDepth 100000
namespace Go.Avc
open Go Go.Proofs

/-- What a right answer is. -/
noncomputable def rightB (z : TZone) (d g e f m : Int) : Bool := if f ≠ 0 then decide (e = f ∧ g = 0) else if fstM z.shifts 0 (d * 1440 + m) < 4321440 then decide (e = 0 ∧ g = fstM z.shifts 0 (d * 1440 + m)) else decide (e = 8 ∧ g = 0)
def rightS : Spec where
  pre xs := ∃ (z : TZone) (d g e f m : Int), xs = [.i g, .i e, .i f, .i m, .dp z.row, .dp [.int .i64 d]] ∧ (f = 0 → OkZ z.shifts ∧ 0 ≤ d ∧ d ≤ 3000 ∧ 0 ≤ m ∧ m ≤ 1439)
  post xs r := ∃ (z : TZone) (d g e f m : Int), xs = [.i g, .i e, .i f, .i m, .dp z.row, .dp [.int .i64 d]] ∧ r = .b (rightB z d g e f m)
  cost _ := 0
  fresh := true
theorem rightS_c (xs : List AV) : rightS.cost xs = 0 := nr rfl
theorem rightS_f : rightS.fresh = true := nr rfl
theorem right_ctr {cx : Cx} (h : Seat cx) : Ctr cx 21 rightS := by
  refine ctr_of (fn := Tryz.f21) (l := [.tmp 10]) (envL [(22, momOfS)]) [0, 1, 2, 3, 4, 5, 10, 11, 12, 14, 29] [] [] (envL_cons (MomentOf_ctr h) (env0 h.hP)) ?_ (by rw [h.hP]; exact Tryz.func21) rfl (by kernel_rfl) rfl ?_ ?_
  · rw [h.hP]; exact ⟨_, Tryz.func21, by kernel_rfl, by kernel_rfl⟩
  · rintro xs ⟨z, d, g, e, f, m, rfl, h1⟩; exact ⟨_, z, d, g, e, f, m, rfl, rfl⟩
  · rintro xs ⟨z, d, g, e, f, m, rfl, h1⟩
    refine ⟨by rw [Tryz.ntmps21]; simp, ?_⟩
    have hP : ∀ b : Bool, b = rightB z d g e f m → rightS.post [.i g, .i e, .i f, .i m, .dp [.str z.name, .sl (TShift.rows z.shifts)], .dp [.int .i64 d]] (.dv (.d (.bool b))) := fun b q => ⟨z, d, g, e, f, m, rfl, by rw [q]⟩
    simp only [go_sem, h.hP, List.cons_append, List.nil_append, Meets_e, Below_e, Prod.exists, exists_eq, exists_eq_left, exists_eq_left', exists_eq_right, exists_eq_right', exists_and_left, exists_and_right, Ob.arr.injEq, AV.own.injEq, AV.fv.injEq, momOfS_q, momOfS_p, momOfS_c, momOfS_f, TZone.row, rightS_c, rightS_f, Tryz.ntmps21, Nat.reduceEqDiff, reduceCtorEq, Nat.reduceMul, Nat.reduceAdd, Nat.reduceSub, Nat.reduceDiv, Nat.reduceMod, Nat.reduceLeDiff, Nat.reduceLT, Nat.reduceBNe, Nat.reduceBEq, reduceIte, Int.reduceLE, Int.reduceLT, Int.reduceToNat, Int.reduceNeg, Int.reduceAdd, Int.reduceSub, Int.reduceMul, Int.reduceEq]
    refine ⟨fun c => ⟨fun q => hP _ ?_, fun q => hP _ ?_⟩, fun c => ?_⟩
    · unfold rightB; rw [if_pos c, Bool.eq_iff_iff]; simp [q]
    · unfold rightB; rw [if_pos c, Bool.eq_iff_iff]; simp [q]
    · have u := h1 c
      have n : ¬ (f ≠ 0) := fun q => q c
      refine ⟨u.1, u.2.1, u.2.2.1, u.2.2.2.1, u.2.2.2.2, fun a => ⟨fun q => hP _ ?_, fun q => hP _ ?_⟩, fun a => ⟨fun q => hP _ ?_, fun q => hP _ ?_⟩⟩
      · unfold rightB; rw [if_neg n, if_pos a, Bool.eq_iff_iff]; simp [q]
      · unfold rightB; rw [if_neg n, if_pos a, Bool.eq_iff_iff]; simp [q]
      · unfold rightB; rw [if_neg n, if_neg a, Bool.eq_iff_iff]; simp [q]
      · unfold rightB; rw [if_neg n, if_neg a, Bool.eq_iff_iff]; simp [q]
def rightΦ (caps : List (List D)) : FSpec where
  pre xs := ∃ (z : TZone) (d g e f m : Int), caps = [z.row, [.int .i64 d]] ∧ xs = [.d (.int .i64 g), .d (.int .i64 e), .d (.int .i64 f), .d (.int .i64 m)] ∧ (f = 0 → OkZ z.shifts ∧ 0 ≤ d ∧ d ≤ 3000 ∧ 0 ≤ m ∧ m ≤ 1439)
  post xs r := ∃ (z : TZone) (d g e f m : Int), caps = [z.row, [.int .i64 d]] ∧ xs = [.d (.int .i64 g), .d (.int .i64 e), .d (.int .i64 f), .d (.int .i64 m)] ∧ r = .d (.bool (rightB z d g e f m))
theorem rightΦ_of {cx : Cx} {fn : FuncId} (h : Ctr cx fn rightS) (caps : List (List D)) : Ctr cx fn (clo rightΦ caps) := by
  refine h.weaken (fun xs hx => ?_) (fun xs r hx hr => ?_) (fun _ => Nat.le_refl _) rfl
  · obtain ⟨ys, rfl, z, d, g, e, f, m, rfl, rfl, h1⟩ := hx
    exact ⟨z, d, g, e, f, m, rfl, h1⟩
  · obtain ⟨ys, rfl, z, d, g, e, f, m, rfl, rfl, h1⟩ := hx
    obtain ⟨z', d', g', e', f', m', q, rfl⟩ := hr
    simp only [List.map_cons, List.map_nil, List.cons_append, List.nil_append, List.cons.injEq, AV.dv.injEq, AV.dp.injEq, DV.d.injEq, D.int.injEq, true_and, and_true] at q
    obtain ⟨rfl, rfl, rfl, rfl, q5, rfl⟩ := q
    obtain rfl := TZone.inj q5
    exact ⟨_, _, rfl, rfl, _, _, _, _, _, _, rfl, rfl, rfl⟩
theorem rightΦ_pre (z : TZone) (d g e f m : Int) : (rightΦ [[.str z.name, .sl (TShift.rows z.shifts)], [.int .i64 d]]).pre [.d (.int .i64 g), .d (.int .i64 e), .d (.int .i64 f), .d (.int .i64 m)] = (f = 0 → OkZ z.shifts ∧ 0 ≤ d ∧ d ≤ 3000 ∧ 0 ≤ m ∧ m ≤ 1439) := by
  apply propext
  constructor
  · rintro ⟨z', d', g', e', f', m', q1, q2, h1⟩
    simp only [List.cons.injEq, DV.d.injEq, D.int.injEq, true_and, and_true] at q1 q2
    obtain ⟨q1, rfl⟩ := q1
    obtain ⟨rfl, rfl, rfl, rfl⟩ := q2
    obtain rfl := TZone.inj (x := z) q1
    exact h1
  · intro h1
    exact ⟨z, d, g, e, f, m, rfl, rfl, h1⟩
theorem rightΦ_post (z : TZone) (d g e f m : Int) (y : DV) : (rightΦ [[.str z.name, .sl (TShift.rows z.shifts)], [.int .i64 d]]).post [.d (.int .i64 g), .d (.int .i64 e), .d (.int .i64 f), .d (.int .i64 m)] y = (y = .d (.bool (rightB z d g e f m))) := by
  apply propext
  constructor
  · rintro ⟨z', d', g', e', f', m', q1, q2, rfl⟩
    simp only [List.cons.injEq, DV.d.injEq, D.int.injEq, true_and, and_true] at q1 q2
    obtain ⟨q1, rfl⟩ := q1
    obtain ⟨rfl, rfl, rfl, rfl⟩ := q2
    obtain rfl := TZone.inj (x := z) q1
    rfl
  · rintro rfl
    exact ⟨z, d, g, e, f, m, rfl, rfl, rfl⟩
theorem right_mom (z : TZone) (d m : Int) : rightB z d (momN z d m) (momE z d m) (startE z d m) m = true := by
  unfold rightB momN momE reachN
  by_cases c : startE z d m = 0
  · rw [c]
    by_cases q : fstM z.shifts 0 (d * 1440 + m) < 4321440
    · simp [q]
    · simp [q]
  · simp [c]
def startE0 (z : TZone) (d : Int) : Int := if zoneF z ≠ 0 then zoneF z else if inB d 0 3000 = false then 1 else 0
theorem startE_0 (z : TZone) (d : Int) : startE z d 0 = startE0 z d := by
  unfold startE startE0
  rw [show inB 0 0 1439 = true from rfl]
  simp
theorem startE_use {z : TZone} {d m : Int} (h : startE z d m = 0) : OkZ z.shifts ∧ 0 ≤ d ∧ d ≤ 3000 ∧ 0 ≤ m ∧ m ≤ 1439 := by
  unfold startE at h
  split at h
  · rename_i c; exact absurd h c
  split at h
  · cases h
  rename_i c q
  rw [not_or] at q
  have a := inB_iff.1 (by simpa using q.1 : inB d 0 3000 = true)
  have b := inB_iff.1 (by simpa using q.2 : inB m 0 1439 = true)
  exact ⟨okZ (Decidable.not_not.1 c), a.1, a.2, b.1, b.2⟩
set_option maxHeartbeats 8000000 in
theorem zs_walk {L : List Int} {A : Option Addr} {cp : Nat} {W : World} (hng : 6 ≤ W.heap.size) (hrd : Rd (fun k => k < W.heap.size) W (.sl (intRows L)) (.slice A L.length cp)) {glob : Nat → Option (List D)} (hgl : GlAt ⟨Tryz.prog, none, L, 25, 6, glob⟩ W) :
    Calls Tryz.prog 4 [Value.slice A L.length cp].toArray W fun e W' => e = .returned (.bool true) ∧ RowKit.Below W.heap.size W W' := by
  refine law_calls (E := envF [(9, zoneG2), (10, pickS), (19, startS), (20, momNS), (14, zoneS), (16, happeningsS)] [(21, rightΦ)]) (B := 300) (live := [0, 2, 3, 4, 5, 6, 7, 8, 9, 10, 11, 12, 13, 49, 60]) (HH := [9, 12]) (hz := []) (d := 2) (x1 := 14) (x2 := 15) (x3 := 16) (x4 := 3) (ng := 6) (glob := glob) Tryz.func4 rfl rfl (by kernel_rfl) ⟨rfl, rfl, rfl⟩ ⟨rfl, rfl, rfl⟩ ⟨rfl, rfl, rfl⟩ ⟨rfl, rfl, rfl⟩ ⟨rfl, rfl, rfl⟩ build_stream ⟨by simp, by decide, by decide, by decide, by decide, by decide, by rw [Tryz.ntmps4]; decide⟩ (ex := []) (xv := []) rfl (fun i x u hx hu => by simp at hx) (by decide) hng hrd hgl ?_
  intro cx hP hS hG hGl
  have h : Seat cx := ⟨hP, hS⟩
  refine ⟨envF_cons (rightΦ_of (right_ctr h)) (envF_nil (envL_cons (Zone_ctr h) (envL_cons (pick_ctr cx h.hP h.hS) (envL_cons (Start_ctr h) (envL_cons (Moment_ctr h) (envL_cons (ZoneFault_ctr h) (envL_cons (happenings_ctr h) (env0 h.hP)))))))), ?_⟩
  simp only [go_sem, h.hP, List.cons_append, List.nil_append, Meets_e, Below_e, Prod.exists, exists_eq, exists_eq_left, exists_eq_left', exists_eq_right, exists_eq_right', exists_and_left, exists_and_right, Ob.arr.injEq, AV.own.injEq, AV.fv.injEq, zoneG2, pickS_q, pickS_p, pickS_c, pickS_f, startS_q, startS_p, startS_c, startS_f, momNS_q, momNS_p, momNS_c, momNS_f, zoneS_q, zoneS_p, zoneS_c, zoneS_f, ints1, intsc, TZone.row, Tryz.ntmps4, Nat.reduceEqDiff, reduceCtorEq, Nat.reduceMul, Nat.reduceAdd, Nat.reduceSub, Nat.reduceDiv, Nat.reduceMod, Nat.reduceLeDiff, Nat.reduceLT, Nat.reduceBNe, Nat.reduceBEq, reduceIte, Int.reduceLE, Int.reduceLT, Int.reduceToNat, Int.reduceNeg, Int.reduceAdd, Int.reduceSub, Int.reduceMul, Int.reduceEq]
  intro z hz d hd m hm
  refine ⟨hz, hz, hz, ?_⟩
  refine vc_cutT (Int) (fun (f : Int) => [(11, .i f), (49, .un)]) [4, 5] (fun (f : Int) => []) (fun (f : Int) => []) (fun (f : Int) => 200) (fun (f : Int) => f = startE0 z d) [] ?_ ?_ ?_
  · rfl
  · simp only [go_sem, h.hP, List.cons_append, List.nil_append, Meets_e, Below_e, Prod.exists, exists_eq, exists_eq_left, exists_eq_left', exists_eq_right, exists_eq_right', exists_and_left, exists_and_right, Ob.arr.injEq, AV.own.injEq, AV.fv.injEq, Tryz.ntmps4, Nat.reduceEqDiff, reduceCtorEq, Nat.reduceMul, Nat.reduceAdd, Nat.reduceSub, Nat.reduceDiv, Nat.reduceMod, Nat.reduceLeDiff, Nat.reduceLT, Nat.reduceBNe, Nat.reduceBEq, reduceIte, Int.reduceLE, Int.reduceLT, Int.reduceToNat, Int.reduceNeg, Int.reduceAdd, Int.reduceSub, Int.reduceMul, Int.reduceEq]
    have hc : startE0 z d = if zoneF z ≠ 0 then zoneF z else if inB d 0 3000 = false then 1 else 0 := rfl
    generalize startE0 z d = g at hc
    generalize zoneF z = b at hc
    unfold inB at hc
    clear hd hm
    grind
  · rintro f hf
    simp only [go_sem, h.hP, List.cons_append, List.nil_append, Meets_e, Below_e, Prod.exists, exists_eq, exists_eq_left, exists_eq_left', exists_eq_right, exists_eq_right', exists_and_left, exists_and_right, Ob.arr.injEq, AV.own.injEq, AV.fv.injEq, Tryz.ntmps4, Nat.reduceEqDiff, reduceCtorEq, Nat.reduceMul, Nat.reduceAdd, Nat.reduceSub, Nat.reduceDiv, Nat.reduceMod, Nat.reduceLeDiff, Nat.reduceLT, Nat.reduceBNe, Nat.reduceBEq, reduceIte, Int.reduceLE, Int.reduceLT, Int.reduceToNat, Int.reduceNeg, Int.reduceAdd, Int.reduceSub, Int.reduceMul, Int.reduceEq]
    refine vc_cutT (Int) (fun (o : Int) => [(12, .i o), (60, .un)]) [4, 5] (fun (o : Int) => []) (fun (o : Int) => []) (fun (o : Int) => 200) (fun (o : Int) => o = startE z d m) [] ?_ ?_ ?_
    · rfl
    · simp only [go_sem, h.hP, List.cons_append, List.nil_append, Meets_e, Below_e, Prod.exists, exists_eq, exists_eq_left, exists_eq_left', exists_eq_right, exists_eq_right', exists_and_left, exists_and_right, Ob.arr.injEq, AV.own.injEq, AV.fv.injEq, Tryz.ntmps4, Nat.reduceEqDiff, reduceCtorEq, Nat.reduceMul, Nat.reduceAdd, Nat.reduceSub, Nat.reduceDiv, Nat.reduceMod, Nat.reduceLeDiff, Nat.reduceLT, Nat.reduceBNe, Nat.reduceBEq, reduceIte, Int.reduceLE, Int.reduceLT, Int.reduceToNat, Int.reduceNeg, Int.reduceAdd, Int.reduceSub, Int.reduceMul, Int.reduceEq]
      have hc : startE z d m = if f ≠ 0 then f else if inB m 0 1439 = false then 1 else 0 := by
        rw [hf]
        unfold startE startE0
        by_cases c : zoneF z = 0 <;> by_cases q : inB d 0 3000 = false <;> by_cases r : inB m 0 1439 = false <;> simp [c, q, r]
      generalize startE z d m = g at hc
      unfold inB at hc
      clear hd hm hf
      grind
    · rintro o ho
      have r0 := right_mom z d 0
      have r1 := right_mom z d m
      rw [startE_0, ← hf] at r0
      rw [← ho] at r1
      simp only [go_sem, h.hP, List.cons_append, List.nil_append, Meets_e, Below_e, Prod.exists, exists_eq, exists_eq_left, exists_eq_left', exists_eq_right, exists_eq_right', exists_and_left, exists_and_right, Ob.arr.injEq, AV.own.injEq, AV.fv.injEq, happeningsS_q, happeningsS_p, happeningsS_c, happeningsS_f, TZone.row, rightΦ_pre, rightΦ_post, Tryz.ntmps4, Nat.reduceEqDiff, reduceCtorEq, Nat.reduceMul, Nat.reduceAdd, Nat.reduceSub, Nat.reduceDiv, Nat.reduceMod, Nat.reduceLeDiff, Nat.reduceLT, Nat.reduceBNe, Nat.reduceBEq, reduceIte, Int.reduceLE, Int.reduceLT, Int.reduceToNat, Int.reduceNeg, Int.reduceAdd, Int.reduceSub, Int.reduceMul, Int.reduceEq]
      refine ⟨fun c => ?_, fun _ => ⟨fun c => startE_use (by rw [← ho, c]), fun e => ne_ft r1 e⟩, fun e => ne_ft r0 e⟩
      have u := startE_use (z := z) (d := d) (m := 0) (by rw [startE_0, ← hf, c])
      exact ⟨u.1, u.2.1, u.2.2.1⟩
end Go.Avc

/- ZoneStarts returns true for every slice of numbers, and leaves it as it was; its row's two tables of unicode/utf8 lie as the program lays them. -/
set_option linter.unusedVariables false
set_option linter.unusedSimpArgs false
set_option maxRecDepth 100000
namespace Go.Proofs.YtlaplgpnbbmbgaaGreatDoor.zoneStarts
open Go.ChangeShapes Go.ChangeMaps Go.WideShapes Go.ChangeAt Go.RowKit Go.Avc

theorem own : ownKnob Tryz.prog.godebug = none := by kernel_rfl
theorem one3 : Tryz.prog.cellsOf 3 = 1 := by kernel_rfl

/-- WHAT THE WALK GIVES. -/
theorem contract (H : Type) (enc : TypeId × Value → H) (W : World) (base : Nat) (args : Array Value) (ds gs : List (DataW H)) (before : List MemPlace)
    (hval : ∀ (j : Nat) t v, Tryz.f4.params[j]? = some t → args[j]? = some v → Value.okWide Tryz.prog W .any base t v)
    (hW : DataW.Whole enc Tryz.prog Tryz.f4.params.toList Rows.zoneStartsSpec.vars false W args.toList ds gs before) (hL : laidMetH Tryz.prog Rows.zoneStartsRow.laid W) (hSh : W.ShapedOpen Tryz.prog) :
    Calls Tryz.prog 4 args W fun e W' => ∃ v, e = .returned v ∧ Rows.zoneStartsSpec.post enc Tryz.prog Tryz.f4 false true false false W args v W' := by
  have hW' := hW
  obtain ⟨p, q, hA0, hV, rfl, hfz, hnd⟩ := hW
  have hA : DataW.TrodAll enc Tryz.prog W 0 (fun _ => true) true Tryz.f4.params.toList args.toList ds p := hA0
  rw [Tryz.params4] at hA hval
  obtain ⟨v0, vs0, d0, ds0, p0, q0, hargs, rfl, rfl, h0, r0⟩ := trodAll_cons hA
  obtain ⟨rfl, rfl, rfl⟩ := trodAll_nil r0
  obtain rfl : args = #[v0] := by cases args; simp_all
  obtain ⟨rfl, rfl⟩ := trodVars_none hV
  obtain ⟨A, L, cp, rfl, hrd, hsh⟩ := open_nums Tryz.underlying22 Tryz.underlying3 one3 (hval 0 22 v0 rfl rfl) h0
  clear hA0
  simp only [List.append_nil] at hW'
  have hg := glAt_of_tabs (L := L) (ST := 25) (tabs_of_laid hL)
  refine (zs_walk (ng_of_shaped hSh) hrd hg).mono fun e W' ⟨he, hbl⟩ => ?_
  subst he
  refine ⟨_, rfl, post_of_below (pa := p0) (pv := []) hW' (fun _ _ _ => trodAll_cons_mk (shut_bool Tryz.underlying4 _) trodAll_mk0)
    (fun sp hsp => ?_) (fun _ _ => rfl) (List.append_nil _).symm hbl (ok_one (by kernel_rfl) rfl (okWide_bool_mk Tryz.underlying4 _))⟩
  have := trodAll_cons_mk (hsh W' hbl sp hsp) (trodAll_mk0 (w := W') (base := 0) (spare := sp) (held := true) (enc := enc))
  rw [List.append_nil] at this
  exact this
theorem reads (os : Os) {H : Type} (enc : TypeId × Value → H) : ∃ places, DataW.whole enc Tryz.prog ((laidWorld os).forCall (fun _ _ => 0) ⟨#[], #[.slice none 0 0], []⟩).memory Tryz.f4.params.toList Rows.zoneStartsSpec.vars false #[Value.slice none 0 0].toList 8 = some ([.nil], [], places) :=
  ⟨[], by kernel_rfl⟩
theorem lifted (os : Os) (started : os.Started) (H : Type) (enc : TypeId × Value → H) (F : Stop.Interp) :
    ReturnsInHanded {} Tryz.checked os 4 .any ((OpenSpec.ofChange Rows.zoneStartsSpec).preRow enc Tryz.prog Tryz.f4 Rows.zoneStartsRow.domain false Rows.zoneStartsRow.laid) (((OpenSpec.ofChange Rows.zoneStartsSpec).at F).post enc Tryz.prog Tryz.f4 false true false false) := by
  obtain ⟨places, hx⟩ := reads os enc
  refine returnsInHanded_of_row (C := Tryz.checked) (s := OpenSpec.ofChange Rows.zoneStartsSpec) own started (by kernel_rfl) Tryz.func4
    (witness_row_at (enc := enc) (C := Tryz.checked) false (laidWorld os) #[.slice none 0 0] rfl (by kernel_rfl) (by kernel_rfl) (by kernel_rfl)
      (OpenSpec.preRow_of_cond 8 hx (by kernel_rfl) (fun k hk => by cases hk) (by kernel_rfl) (laid_met os _))) ?_
  intro W base args ds gs before hval hW _ _ _ hL hSh _
  exact contract H enc W base args ds gs before hval hW hL hSh
theorem said : Rows.ZoneStartsSaid :=
  OpenClaim.holds_of_cond 4 Tryz.f4 rfl rfl rfl rfl rfl rfl rfl ⟨rfl, rfl, rfl, rfl, rfl⟩ rfl rfl rfl rfl rfl (by kernel_rfl) Tryz.func4 (by kernel_rfl)
    (of_decide_eq_true (by kernel_rfl)) (by unfold Func.isWrapper; first | (rw [if_pos (by decide +kernel)]; kernel_rfl) | (rw [if_neg (by decide +kernel)]; exact ⟨rfl, rfl⟩))
    (fun os started H enc _ F => by rw [OpenClaim.pre_eq_preRow]; exact lifted os started H enc F)
theorem plain (f : FuncId) (fn : Func) (hf : Tryz.pinned.checked.prog.funcNamed "handbill/handlaw2.ZoneStarts" = some f) (hfn : Tryz.pinned.checked.prog.funcs[f]? = some fn) :
    false = Tryz.pinned.checked.prog.looks [] ∧ ∀ (j : Nat) t, fn.params[j]? = some t → Tryz.pinned.checked.prog.wantsStandIn t = false := by
  obtain rfl : f = 4 := Option.some.inj ((show Tryz.prog.funcNamed "handbill/handlaw2.ZoneStarts" = some 4 by kernel_rfl).symm.trans hf) |>.symm
  obtain rfl : fn = Tryz.f4 := (Option.some.inj (Tryz.func4.symm.trans hfn)).symm
  refine ⟨by kernel_rfl, fun j t ht => ?_⟩
  rw [Tryz.params4] at ht
  obtain rfl : t = 22 := by simpa using Array.mem_of_getElem? ht
  exact (show Tryz.prog.wantsStandIn 22 = false by kernel_rfl)
theorem card : Rows.ZoneStartsCardSaid :=
  Claim7.holds_tied_plain_at .later [] _ _ _ _ said (fun _ h => by cases h) (by kernel_rfl) (fun _ h => by cases h) zoneStarts_row_tie rfl ⟨rfl, rfl⟩ (by kernel_rfl) rfl plain (by kernel_rfl)
end Go.Proofs.YtlaplgpnbbmbgaaGreatDoor.zoneStarts
