/- The calculus: the operations that make or change memory, each with its meaning. No condition. -/
import Derived.Test.YtcifphelninbmaaDoorAvc10
import Derived.Deep.OwnRows
set_option linter.unusedVariables false
set_option linter.unusedSimpArgs false
namespace Go.Avc
open Go

/-- A type's zero value, as cells of a variable. -/
def TzeroA (P : Program) (t : TypeId) : Option (List AV) := match P.info? t with
  | some i => match i.zero with
    | some z => some (z.cells.toList.map cv)
    | none => none
  | none => none
/-- A type's zero value, if it has one cell; and its bytes. -/
def Tone (P : Program) (t : TypeId) : Option (D × Nat) := match P.info? t with
  | some i => match i.zero with
    | some z => if i.size = 1 then (match cvD z with
      | some x => some (x, i.bytes)
      | none => none) else none
    | none => none
  | none => none
def hasUn : List AV → Bool
  | [] => false
  | .un :: _ => true
  | _ :: r => hasUn r

def exBox (cx : Cx) (σ : St) (T : TypeId) (x : Operand) (d : Option Tmp) (K : St → Prop) : Prop := match d, cellsS σ (ev0 cx σ x) with
  | some d, some cs => K (σ.newOb d d (.ptr d 0) (.box T (cs.map (purgeA d))))
  | _, _ => False
def exAlloc (cx : Cx) (σ : St) (T : TypeId) (d : Option Tmp) (K : St → Prop) : Prop := match d, TzeroA cx.P T with
  | some d, some cs => hasUn cs = false ∧ K (σ.newOb d d (.ptr d 0) (.box T cs))
  | _, _ => False
def exMake (cx : Cx) (σ : St) (t : TypeId) (n m : Operand) (d : Option Tmp) (K : St → Prop) : Prop := match d, cx.P.underlying t, ev cx σ n, ev cx σ m with
  | some d, some (.slice e), .dv (.d (.int _ n)), .dv (.d (.int _ m)) => match Tone cx.P e with
    | some (x, bytes) => n = m ∧ 0 ≤ n ∧ n ≤ 9223372036854775807 ∧ bytes * n.toNat ≤ 281474976710656 ∧ K (σ.newOb d d (.own d) (.arr e 1 (List.replicate n.toNat [x])))
    | none => False
  | _, _, _, _ => False
def exStore (cx : Cx) (σ : St) (t : TypeId) (p x : Operand) (d : Option Tmp) (K : St → Prop) : Prop := match d, ev0 cx σ p with
  | none, .ptr k o => match σ.o k, cellsS σ (ev0 cx σ x) with
    | some (.box T cs), some ys => ys.length = cx.P.cellsOf t ∧ cx.P.cellsOf t ≠ 0 ∧ o + ys.length ≤ cs.length ∧ K { σ with o := upd σ.o k (some (.box T (spl cs o ys))) }
    | _, _ => False
  | none, .eptr k i z o => match σ.o k, ev cx σ x with
    | some (.arr e z' l), .dv y => y.cells.length = cx.P.cellsOf t ∧ cx.P.cellsOf t ≠ 0 ∧ z = z' ∧ i < l.length ∧ o + y.cells.length ≤ z ∧ K { σ with o := upd σ.o k (some (.arr e z' (l.set i (spl (l.getD i (zRow cx.P e)) o y.cells)))) }
    | _, _ => False
  | _, _ => False
/-- append: to a nil slice, to one of the call's own, to one written out. -/
def exAppend (cx : Cx) (σ : St) (t u : TypeId) (s x : Operand) (d : Option Tmp) (K : St → Prop) : Prop := match d, cx.P.underlying t with
  | some d, some (.slice e) => match (match cx.P.underlying u, toD σ (ev cx σ x) with
      | some (.slice _), .dv (.d (.sl ys)) => if t = u then some ys else none
      | _, _ => none) with
    | some ys => cx.P.cellsOf e ≠ 0 ∧ (match Tzero cx.P e with | some zl => zl.length = cx.P.cellsOf e | none => False) ∧ (∀ y ∈ ys, y.length = cx.P.cellsOf e) ∧ (match ev0 cx σ s with
      | .nil => ys.length * cx.P.bytesOf e ≤ 140737488355328 ∧ ys.length ≤ 9223372036854775807 ∧ K (σ.newOb d d (.own d) (.arr e (cx.P.cellsOf e) ys))
      | .own k => match σ.o k with
        | some (.arr e' z l) => e' = e ∧ z = cx.P.cellsOf e ∧ (l.length + ys.length) * cx.P.bytesOf e ≤ 140737488355328 ∧ l.length + ys.length ≤ 9223372036854775807 ∧ K (σ.newOb k d (.own k) (.arr e z (l ++ ys)))
        | _ => False
      | .lit l => ys ≠ [] ∧ (∀ y ∈ l, y.length = cx.P.cellsOf e) ∧ (l.length + ys.length) * cx.P.bytesOf e ≤ 140737488355328 ∧ l.length + ys.length ≤ 9223372036854775807 ∧ K (σ.newOb d d (.own d) (.arr e (cx.P.cellsOf e) (l ++ ys)))
      | _ => False)
    | none => False
  | _, _ => False

/-- A string's bytes as rows of one cell. -/
def strRows (b : ByteArray) : List (List D) := b.data.toList.map fun c => [D.int .u8 (c.toNat : Int)]
theorem strRows_length (b : ByteArray) : (strRows b).length = b.size := by
  rw [strRows, List.length_map, Array.length_toList]; rfl

def exAppS (cx : Cx) (σ : St) (t : TypeId) (s x : Operand) (d : Option Tmp) (K : St → Prop) : Prop := match d, cx.P.underlying t, ev cx σ x with
  | some d, some (.slice e), .dv (.d (.str b)) => Tone cx.P e = some (.int .u8 0, 1) ∧ (match ev0 cx σ s with
      | .nil => b.size ≤ 140737488355328 ∧ K (σ.newOb d d (.own d) (.arr e 1 (strRows b)))
      | .own k => match σ.o k with
        | some (.arr e' z l) => e' = e ∧ z = 1 ∧ l.length + b.size ≤ 140737488355328 ∧ K (σ.newOb k d (.own k) (.arr e 1 (l ++ strRows b)))
        | _ => False
      | .lit l => b.size ≠ 0 ∧ (∀ y ∈ l, y.length = 1) ∧ l.length + b.size ≤ 140737488355328 ∧ K (σ.newOb d d (.own d) (.arr e 1 (l ++ strRows b)))
      | _ => False)
  | _, _, _ => False

def isS : Op → Bool
  | .box _ _ => true
  | .alloc _ => true
  | .makeSlice _ _ _ => true
  | .store _ _ _ => true
  | .call c => match c.callee with
    | .builtin .append => true
    | .value (.func f) => bF f
    | _ => false
  | _ => false

section
variable {F : Fr} {M : Nat → Prop} {ρ : Nat → Value} {σ : St} {a : Act} {w : World} {E : Env} {ok : Nat → Prop}

/-- A new block b of the call's own holds object d. -/
theorem Rel1.fresh (hF : F.Wf) (h : Rel1 F M ρ σ a w) {w' : World} {d dst : Nat} (hd : dst < F.n) {v : Value} {ob : Ob} {r : AV} (hg : Gr none w w') (hv : ∀ b, blkOf v = some b → w.heap.size ≤ b ∧ b < w'.heap.size)
    (hob : Rel1 F M (upd ρ d v) (σ.del d) a w → ObR F (fun b => M b ∨ blkOf v = some b) (upd ρ d v) w' ob v) (hr : r = .own d ∨ (r = .ptr d 0 ∧ ∃ b, v = .pointer (some ⟨b, 0, none⟩))) : Rel F (σ.newOb d dst r ob) (a.put (some dst) v) w' := by
  have h1 : Rel1 F M (upd ρ d v) (σ.del d) a w := h.del fun k hk => by rw [upd_apply, if_neg hk]
  have hdv : upd ρ d v d = v := by rw [upd_apply, if_pos rfl]
  have h2 := h1.repl hF d (B0 := none) (ob := ob) (fun b hb => by cases hb) hg.os hg.tape hg.output hg.size (fun b hb _ => hg.block b hb (by simp)) (fun b hb => by rw [hdv] at hb; exact ⟨.inr (hv b hb).1, (hv b hb).2⟩) (by rw [hdv]; exact hob h1)
  refine ⟨_, _, h2.put (dst := some dst) (r := r) (v := v) (fun e he => by cases he; exact hd) ?_⟩
  rcases hr with rfl | ⟨rfl, b, rfl⟩
  · exact hdv.symm
  · exact ⟨b, hdv, rfl⟩

theorem alloc_gr (w : World) (o : Obj) : Gr none w (w.alloc o) := Gr.alloc none w o
theorem alloc_size (w : World) (o : Obj) : w.heap.size < (w.alloc o).heap.size := by show _ < (w.heap.push _).size; simp

theorem box_ob (hF : F.Wf) (h : Rel1 F M ρ σ a w) {T : TypeId} {cs : List AV} {vs : Array Value} (hl : cs.length = vs.size)
    (hc : ∀ (j : Nat) (y : AV) (u : Value), cs[j]? = some y → vs[j]? = some u → u.oneCell' = true ∧ relA F.cx F.w0 (okM F M) ρ w y u) :
    ObR F (fun b => M b ∨ blkOf (.pointer (some ⟨w.heap.size, 0, none⟩)) = some b) ρ (w.alloc (.cells vs T)) (.box T cs) (.pointer (some ⟨w.heap.size, 0, none⟩)) := by
  refine ⟨w.heap.size, vs, rfl, .inr rfl, heap_alloc_new w _, hl, fun j y u hy hu => ⟨(hc j y u hy hu).1, (hc j y u hy hu).2.mono (Gr.refl _ _) (Nat.le_of_lt (alloc_size w _)) (fun b hb hlt => ⟨hb.1, fun e => ?_⟩) (fun b hb hlt => (alloc_gr w _).block b hlt (by simp))⟩⟩
  rcases e with e | e
  · exact hb.2 e
  · simp only [blkOf, Option.some.injEq] at e; omega

theorem exBox_sound (hF : F.Wf) (h : Rel1 F M ρ σ a w) {o : Oper} {T : TypeId} {x : Operand} (ho : o.op = .box T x) (hn : ∀ d, o.dst = some d → d < F.n) {K : St → Prop} (hx : exBox F.cx σ T x o.dst K)
    {K' : Act → World → Prop} {Q : Exit → Act → World → Prop} (hK : ∀ σ' a' w', Rel F σ' a' w' → K σ' → K' a' w') : Oper.wp F.cx.P o a w K' Q := by
  unfold exBox at hx
  split at hx
  · rename_i d cs hd hcs
    obtain ⟨h1, h2⟩ := cellsS_rel h hcs (ev0_rel hF h x)
    have hrun : (execOp a.eval o).run F.cx.P w = .ok (.value (.pointer (some ⟨w.heap.size, 0, none⟩))) (w.alloc (.cells (a.eval x).cells T)) := by
      simp only [execOp, ho, Instr.box, newVar, newRow, Sem.run_bind, run_newObj, Sem.run_pure, Result.andThen_ok]
      rfl
    unfold Oper.wp
    rw [hrun, Oper.upon_value, hd]
    refine hK _ _ _ (h.fresh hF (hn d hd) (alloc_gr w _) (fun b hb => ?_) (fun h' => ?_) (.inr ⟨rfl, _, rfl⟩)) hx
    · simp only [blkOf, Option.some.injEq] at hb
      subst hb
      exact ⟨Nat.le_refl _, alloc_size w _⟩
    · refine box_ob hF h' (by rw [List.length_map]; exact h1) (fun j y u hy hu => ?_)
      rw [List.getElem?_map, Option.map_eq_some_iff] at hy
      obtain ⟨z, hz, rfl⟩ := hy
      exact ⟨(h2 j z u hz hu).1, relA_del (h2 j z u hz hu).2 (fun k hk => by rw [upd_apply, if_neg hk])⟩
  · exact hx.elim

theorem exAlloc_sound (hF : F.Wf) (h : Rel1 F M ρ σ a w) {o : Oper} {T : TypeId} (ho : o.op = .alloc T) (hn : ∀ d, o.dst = some d → d < F.n) {K : St → Prop} (hx : exAlloc F.cx σ T o.dst K)
    {K' : Act → World → Prop} {Q : Exit → Act → World → Prop} (hK : ∀ σ' a' w', Rel F σ' a' w' → K σ' → K' a' w') : Oper.wp F.cx.P o a w K' Q := by
  unfold exAlloc at hx
  split at hx
  · rename_i d cs hd hcs
    obtain ⟨hun, hx⟩ := hx
    unfold TzeroA at hcs
    split at hcs
    · rename_i i hi
      split at hcs
      · rename_i z hz
        simp only [Option.some.injEq] at hcs
        subst hcs
        have hrun : (execOp a.eval o).run F.cx.P w = .ok (.value (.pointer (some ⟨w.heap.size, 0, none⟩))) (w.alloc (.cells z.cells T)) := by
          simp only [execOp, ho, Instr.alloc, zeroValue, run_typeInfo w hi, hz, newVar, newRow, Sem.run_bind, run_newObj, Sem.run_pure, Result.andThen_ok]
          rfl
        unfold Oper.wp
        rw [hrun, Oper.upon_value, hd]
        refine hK _ _ _ (h.fresh hF (hn d hd) (alloc_gr w _) (fun b hb => ?_) (fun h' => ?_) (.inr ⟨rfl, _, rfl⟩)) hx
        · simp only [blkOf, Option.some.injEq] at hb
          subst hb
          exact ⟨Nat.le_refl _, alloc_size w _⟩
        · refine box_ob hF h' (by simp) (fun j y u hy hu => ?_)
          rw [List.getElem?_map, Option.map_eq_some_iff] at hy
          obtain ⟨v, hv, rfl⟩ := hy
          rw [Array.getElem?_toList] at hv
          rw [hv] at hu
          obtain rfl : v = u := Option.some.inj hu
          refine ⟨?_, cv_rel v⟩
          have hne : ∀ l : List Value, hasUn (l.map cv) = false → ∀ v ∈ l, cv v ≠ .un := by
            intro l
            induction l with
            | nil => intro _ v hv; cases hv
            | cons x r ih =>
              intro h v hv
              rw [List.map_cons] at h
              have hx : cv x ≠ .un := fun e => by rw [e] at h; simp [hasUn] at h
              have hr : hasUn (r.map cv) = false := by
                cases hc : cv x <;> rw [hc] at h <;> first | exact h | (simp [hasUn] at h)
              rcases List.mem_cons.1 hv with rfl | hv
              · exact hx
              · exact ih hr v hv
          have := hne _ hun v (List.mem_of_getElem? (by rw [Array.getElem?_toList]; exact hv))
          cases v <;> first | rfl | exact absurd rfl this
      · cases hcs
    · cases hcs
  · exact hx.elim

theorem exMake_sound (hF : F.Wf) (h : Rel1 F M ρ σ a w) {o : Oper} {t : TypeId} {n m : Operand} (ho : o.op = .makeSlice t n m) (hn : ∀ d, o.dst = some d → d < F.n) {K : St → Prop} (hx : exMake F.cx σ t n m o.dst K)
    {K' : Act → World → Prop} {Q : Exit → Act → World → Prop} (hK : ∀ σ' a' w', Rel F σ' a' w' → K σ' → K' a' w') : Oper.wp F.cx.P o a w K' Q := by
  unfold exMake at hx
  split at hx
  · rename_i d e k1 n1 k2 n2 hd hu e1 e2
    split at hx
    · rename_i x bytes hone
      obtain ⟨rfl, h0, h63, hb, hx⟩ := hx
      have hrn := ev_rel hF h n
      have hrm := ev_rel hF h m
      rw [e1] at hrn
      rw [e2] at hrm
      obtain ⟨vn, en⟩ : ∃ v, a.eval n = v := ⟨_, rfl⟩
      obtain ⟨vm, em⟩ : ∃ v, a.eval m = v := ⟨_, rfl⟩
      rw [en] at hrn
      rw [em] at hrm
      cases (show Rd _ _ (.int k1 n1) vn from hrn)
      cases (show Rd _ _ (.int k2 n1) vm from hrm)
      unfold Tone at hone
      split at hone
      · rename_i i hi
        split at hone
        · rename_i z hz
          split at hone
          · rename_i hs
            split at hone
            · rename_i x' hx'
              simp only [Option.some.injEq, Prod.mk.injEq] at hone
              obtain ⟨rfl, rfl⟩ := hone
              obtain ⟨q, rfl⟩ := Int.eq_ofNat_of_zero_le h0
              simp only [Int.toNat_natCast] at hb hx
              have hzr : Rd (fun _ => True) w x' z := by
                have := cvD_rd (ok := fun _ => True) (w := w) (cs := [z]) (l := [x']) (by simp [hx'])
                exact this.2 0 _ _ rfl rfl
              have hmk := run_make_row t e i z hu hi hz hs hzr.one.1 k1 k2 q hb (by omega) w
              have hrun : (execOp a.eval o).run F.cx.P w = .ok (.value (.slice (some ⟨w.heap.size, 0, none⟩) q q)) (w.alloc (.cells (madeCells #[z] q) e)) := by
                simp only [execOp, ho, en, em, Sem.run_bind, hmk, Result.andThen_ok, Sem.run_pure]
              have hz1 : z.oneCell' = true := hzr.one.2
              unfold Oper.wp
              rw [hrun, Oper.upon_value, hd]
              refine hK _ _ _ (h.fresh hF (hn d hd) (alloc_gr w _) (fun b hb => ?_) (fun h' => ?_) (.inl rfl)) hx
              · simp only [blkOf, Option.some.injEq] at hb
                subst hb
                exact ⟨Nat.le_refl _, alloc_size w _⟩
              · have hml : (madeCells #[z] q).toList = List.replicate q z := by
                  apply List.ext_getElem
                  · simp [madeCells]
                  · intro i h1 h2
                    simp [madeCells, Nat.mod_one]
                refine ⟨List.replicate q z, ⟨by simp, .inr ⟨w.heap.size, q, madeCells #[z] q, by simp, h.gr.size, heap_alloc_new w _, by simp, by simp only [maxLen]; omega, by simp [madeCells], by rw [hml]; simp⟩⟩, fun b hb => .inr (by simpa [Value.ownBlock, blkOf] using hb), fun i y hy => ?_, ?_⟩
                · rw [List.getElem?_replicate] at hy
                  split at hy
                  · cases hy; rfl
                  · cases hy
                · refine ⟨by simp, fun j y u hy hu => ?_⟩
                  have hflat : (List.replicate q [x']).flatten = List.replicate q x' := by
                    induction q with
                    | zero => rfl
                    | succ q ih => simp [List.replicate_succ]
                  rw [hflat, List.getElem?_replicate] at hy
                  rw [List.getElem?_replicate] at hu
                  split at hy
                  · rename_i hj
                    rw [if_pos hj] at hu
                    cases hy
                    cases hu
                    have := cvD_rd (ok := okM F (fun b => M b ∨ blkOf (Value.slice (some ⟨w.heap.size, 0, none⟩) q q) = some b)) (w := w.alloc (.cells (madeCells #[z] q) e)) (cs := [z]) (l := [x']) (by simp [hx'])
                    exact this.2 0 _ _ rfl rfl
                  · cases hy
            · cases hone
          · cases hone
        · cases hone
      · cases hone
    · exact hx.elim
  · exact hx.elim
end
end Go.Avc
