/- The calculus: fields, elements, loads, cuts, conversions, lengths: what they compute. No condition. -/
import Derived.Test.YtcifphelninbmaaDoorAvc3
import Derived.Laws.Cells
import Derived.Laws.BytesArg
import Derived.Laws.Rows
set_option linter.unusedVariables false
set_option linter.unusedSimpArgs false
namespace Go.Avc
open Go

/-- Is a type a struct or an array (true), another known type (false)? -/
def Tk (P : Program) (t : TypeId) : Option Bool := match P.underlying t with
  | some (.struct _) => some true
  | some (.array _ _) => some true
  | some _ => some false
  | none => none

theorem Tk_agg {P : Program} {t : TypeId} {b : Bool} (h : Tk P t = some b) (w : World) : (isAgg t).run P w = .ok b w := by
  unfold Tk at h
  cases hu : P.underlying t with
  | none => rw [hu] at h; cases h
  | some d =>
    rw [hu] at h
    cases d <;> simp only [Option.some.injEq] at h <;> subst h <;> simp [isAgg, run_underlying hu]
theorem size_run {P : Program} {t : TypeId} (h : P.cellsOf t ≠ 0) (w : World) : (sizeOf t).run P w = .ok (P.cellsOf t) w := by
  unfold Program.cellsOf at h
  cases hi : P.info? t with
  | none => rw [hi] at h; simp at h
  | some i => exact run_sizeOf w hi

def cvD : Value → Option D
  | .int k n => some (.int k n)
  | .bool b => some (.bool b)
  | .string s => some (.str s)
  | .slice _ 0 _ => some (.sl [])
  | _ => none
/-- A type's zero value, as cells. -/
def Tzero (P : Program) (t : TypeId) : Option (List D) := match P.info? t with
  | some i => match i.zero with
    | some z => z.cells.toList.mapM cvD
    | none => none
  | none => none
/-- The cells of a type's zero value. -/
def zRow (P : Program) (t : TypeId) : List D := match Tzero P t with
  | some z => z
  | none => []
/-- The first cell of a type's zero value. -/
def zD (P : Program) (t : TypeId) : D := match Tzero P t with
  | some (x :: _) => x
  | _ => .bool false
/-- The part of type t at the head of some cells. -/
def partD (P : Program) (t : TypeId) (l : List D) : Option (Prop × DV) := match Tk P t with
  | some true => some (P.cellsOf t ≠ 0 ∧ P.cellsOf t ≤ l.length, .ag (l.take (P.cellsOf t)))
  | some false => some (l ≠ [], .d (l.headD (zD P t)))
  | none => none

section
variable {F : Fr} {M : Nat → Prop} {ρ : Nat → Value} {σ : St} {a : Act} {w : World} {ok : Nat → Prop}

theorem RdL.take {l : List D} {cs : List Value} (h : RdL ok w l cs) (n : Nat) : RdL ok w (l.take n) (cs.take n) := by
  have := h.slice 0 n
  simpa using this
theorem RdL.drop {l : List D} {cs : List Value} (h : RdL ok w l cs) (n : Nat) : RdL ok w (l.drop n) (cs.drop n) := by
  have := h.slice n l.length
  rw [List.take_of_length_le (by simp), List.take_of_length_le (by simp [h.1])] at this
  exact this

theorem part_run {P : Program} {t : TypeId} {l : List D} {cs : List Value} {off : Nat} (hl : RdL ok w l cs) {p : Prop} {x : DV} (h : partD P t (l.drop off) = some (p, x)) (hp : p) :
    ∃ v, (part t cs.toArray off).run P w = .ok v w ∧ RdV ok w x v := by
  unfold partD at h
  have hd := hl.drop off
  split at h
  · rename_i hk
    simp only [Option.some.injEq, Prod.mk.injEq] at h
    obtain ⟨rfl, rfl⟩ := h
    refine ⟨.agg (cs.toArray.extract off (off + P.cellsOf t)), by simp [part, Tk_agg hk, size_run hp.1], (cs.drop off).take (P.cellsOf t), ?_, hd.take _⟩
    congr 1
    apply Array.ext'
    simp [List.extract_eq_take_drop]
  · rename_i hk
    simp only [Option.some.injEq, Prod.mk.injEq] at h
    obtain ⟨rfl, rfl⟩ := h
    cases e : l.drop off with
    | nil => exact absurd e hp
    | cons y r =>
      rw [List.headD_cons]
      have h0 : l[off]? = some y := by
        have := List.getElem?_drop (xs := l) (i := off) (j := 0)
        rw [e] at this
        simpa using this.symm
      obtain ⟨v, hv, hr⟩ := hl.get h0
      exact ⟨v, by simp [part, Tk_agg hk, hv], hr⟩
  · cases h

theorem load_run {P : Program} {t : TypeId} {l : List D} {cs : List Value} {b o : Nat} (hl : RdL ok w l cs) (hc : ∀ (j : Nat) (u : Value), cs[j]? = some u → w.cell? ⟨b, o + j, none⟩ = some u)
    {p : Prop} {x : DV} (h : partD P t l = some (p, x)) (hp : p) : ∃ v, (loadVar t ⟨b, o, none⟩).run P w = .ok v w ∧ RdV ok w x v := by
  unfold partD at h
  split at h
  · rename_i hk
    simp only [Option.some.injEq, Prod.mk.injEq] at h
    obtain ⟨rfl, rfl⟩ := h
    have hr := run_loadCells_list (P := P) w ⟨b, o, none⟩ (cs.take (P.cellsOf t)) (fun j v hj => by
      rw [Addr.add_lit]
      rw [List.getElem?_take] at hj
      split at hj
      · exact hc j v hj
      · cases hj)
    rw [List.length_take, ← hl.1, Nat.min_eq_left hp.2] at hr
    exact ⟨.agg (cs.take (P.cellsOf t)).toArray, by simp [loadVar, Tk_agg hk, size_run hp.1, hr], _, rfl, hl.take _⟩
  · rename_i hk
    simp only [Option.some.injEq, Prod.mk.injEq] at h
    obtain ⟨rfl, rfl⟩ := h
    cases l with
    | nil => exact absurd rfl hp
    | cons y r =>
      obtain ⟨v, hv, hr⟩ := hl.get (j := 0) (x := y) rfl
      have hcell := hc 0 v hv
      rw [Nat.add_zero] at hcell
      exact ⟨v, by simp [loadVar, Tk_agg hk, hcell], hr⟩
  · cases h

theorem drop_of_get {l : List D} {off : Nat} (h : off ≤ l.length) : True := trivial

/-! ### Fields -/
def vField (cx : Cx) (σ : St) (t : TypeId) (x : Operand) (j : Nat) : Option (Prop × AV) := match ev cx σ x, Tfld cx.P t j with
  | .dv (.ag l), some (off, ft) => match partD cx.P ft (l.drop off) with
    | some (p, y) => some (p, .dv y)
    | none => none
  | _, _ => none
theorem vField_sound (hF : F.Wf) (h : Rel1 F M ρ σ a w) {o : Oper} {t : TypeId} {x : Operand} {j : Nat} (ho : o.op = .field t x j) {p : Prop} {r : AV} (hv : vField F.cx σ t x j = some (p, r)) (hp : p) :
    ∃ v, Runs F.cx.P a w o v ∧ relA F.cx F.w0 (okM F M) ρ w r v := by
  unfold vField at hv
  have hx := ev_rel hF h x
  obtain ⟨vx, ex⟩ : ∃ v, a.eval x = v := ⟨_, rfl⟩
  rw [ex] at hx
  split at hv
  · rename_i l off ft e1 e2
    rw [e1] at hx
    obtain ⟨cs, rfl, hl⟩ := hx
    split at hv
    · rename_i q y hq
      simp only [Option.some.injEq, Prod.mk.injEq] at hv
      obtain ⟨rfl, rfl⟩ := hv
      obtain ⟨v, h1, h2⟩ := part_run (P := F.cx.P) hl hq hp
      unfold Tfld at e2
      split at e2
      · rename_i fs hu
        rw [Option.map_eq_some_iff] at e2
        obtain ⟨f, hf, hfe⟩ := e2
        simp only [Prod.mk.injEq] at hfe
        obtain ⟨rfl, rfl⟩ := hfe
        exact ⟨v, by simp [Runs, execOp, ho, ex, Instr.field, run_underlying hu, hf, asAgg, h1], h2⟩
      · cases e2
    · cases hv
  · cases hv

def vFaddr (cx : Cx) (σ : St) (t : TypeId) (x : Operand) (j : Nat) : Option (Prop × AV) := match Tfld cx.P t j with
  | some (off, ft) => match ev cx σ x with
    | .ptr k o => some (cx.P.cellsOf ft ≠ 0, .ptr k (o + off))
    | .eptr k i z o => some (cx.P.cellsOf ft ≠ 0, .eptr k i z (o + off))
    | .dp l => some (cx.P.cellsOf ft ≠ 0, .dp (l.drop off))
    | _ => none
  | none => none
theorem faddr_run {P : Program} {t ft : TypeId} {j off b o : Nat} (he : Tfld P t j = some (off, ft)) (hs : P.cellsOf ft ≠ 0) : (Instr.fieldAt t (.pointer (some ⟨b, o, none⟩)) j).run P w = .ok (.pointer (some ⟨b, o + off, none⟩)) w := by
  unfold Tfld at he
  split at he
  · rename_i fs hu
    rw [Option.map_eq_some_iff] at he
    obtain ⟨f, hf, hfe⟩ := he
    simp only [Prod.mk.injEq] at hfe
    obtain ⟨rfl, rfl⟩ := hfe
    simp [Instr.fieldAt, run_underlying hu, hf, Instr.sureAddr, fieldPlace, size_run hs, hs, Addr.add_lit]
  · cases he
theorem vFaddr_sound (hF : F.Wf) (h : Rel1 F M ρ σ a w) {o : Oper} {t : TypeId} {x : Operand} {j : Nat} (ho : o.op = .fieldAddr t x j) {p : Prop} {r : AV} (hv : vFaddr F.cx σ t x j = some (p, r)) (hp : p) :
    ∃ v, Runs F.cx.P a w o v ∧ relA F.cx F.w0 (okM F M) ρ w r v := by
  unfold vFaddr at hv
  have hx := ev_rel hF h x
  obtain ⟨vx, ex⟩ : ∃ v, a.eval x = v := ⟨_, rfl⟩
  rw [ex] at hx
  split at hv
  · rename_i off ft he
    split at hv <;> rename_i e <;> (try cases hv) <;> rw [e] at hx
    · obtain ⟨b, h1, rfl⟩ := hx
      exact ⟨_, by simp [Runs, execOp, ho, ex, faddr_run he hp], b, h1, rfl⟩
    · obtain ⟨b, n, c, h1, rfl⟩ := hx
      exact ⟨_, (by simp [Runs, execOp, ho, ex, faddr_run he hp]; rfl), b, n, c, h1, by rw [Nat.add_assoc]⟩
    · obtain ⟨b, o', cs, rfl, hb, hlt, hc, hl⟩ := hx
      refine ⟨.pointer (some ⟨b, o' + off, none⟩), by simp [Runs, execOp, ho, ex, faddr_run he hp], b, o' + off, cs.drop off, rfl, hb, hlt, fun i u hi => ?_, hl.drop _⟩
      rw [List.getElem?_drop] at hi
      have := hc _ u hi
      rwa [← Nat.add_assoc] at this
  · cases hv

/-! ### A byte of a string -/
def bt (s : ByteArray) (i : Int) : Int := ((s.data.toList.getD i.toNat 0).toNat : Int)
def vIndex (cx : Cx) (σ : St) (t : TypeId) (x i : Operand) : Option (Prop × AV) := match cx.P.underlying t, ev cx σ x, ev cx σ i with
  | some .string, .dv (.d (.str s)), .dv (.d (.int _ n)) => some (0 ≤ n ∧ n < s.size, .dv (.d (.int .u8 (bt s n))))
  | some (.array m e), .dv (.ag l), .dv (.d (.int _ n)) => match Tk cx.P e with
    | some false => some (0 ≤ n ∧ n < (m : Int) ∧ n < (l.length : Int) ∧ cx.P.cellsOf e = 1, .dv (.d (l.getD n.toNat (zD cx.P e))))
    | _ => none
  | _, _, _ => none
theorem vIndex_sound (hF : F.Wf) (h : Rel1 F M ρ σ a w) {o : Oper} {t : TypeId} {x i : Operand} (ho : o.op = .index t x i) {p : Prop} {r : AV} (hv : vIndex F.cx σ t x i = some (p, r)) (hp : p) :
    ∃ v, Runs F.cx.P a w o v ∧ relA F.cx F.w0 (okM F M) ρ w r v := by
  unfold vIndex at hv
  have hx := ev_rel hF h x
  have hi := ev_rel hF h i
  obtain ⟨vx, ex⟩ : ∃ v, a.eval x = v := ⟨_, rfl⟩
  obtain ⟨vi, ei⟩ : ∃ v, a.eval i = v := ⟨_, rfl⟩
  rw [ex] at hx
  rw [ei] at hi
  split at hv
  · rename_i s k n hu e1 e2
    rw [e1] at hx
    rw [e2] at hi
    cases (show Rd _ _ (.str s) vx from hx)
    cases (show Rd _ _ (.int k n) vi from hi)
    simp only [Option.some.injEq, Prod.mk.injEq] at hv
    obtain ⟨rfl, rfl⟩ := hv
    have hlt : n.toNat < s.size := by omega
    refine ⟨.int .u8 (bt s n), ?_, Rd.int _ _⟩
    have hb : s[n.toNat]? = some (s.data.toList.getD n.toNat 0) := by
      rw [getElem?_pos s n.toNat hlt]
      congr 1
      have hlt' : n.toNat < s.data.toList.length := by simpa using hlt
      rw [List.getD_eq_getElem?_getD, List.getElem?_eq_getElem hlt']
      rfl
    simp [Runs, execOp, ho, ex, ei, Instr.index, run_underlying hu, asIntOf, hp.1, hb, bt]
  · rename_i m e l k n hu e1 e2
    rw [e1] at hx
    rw [e2] at hi
    split at hv
    · rename_i hk
      cases (show Rd _ _ (.int k n) vi from hi)
      obtain ⟨cs, rfl, hl⟩ := hx
      simp only [Option.some.injEq, Prod.mk.injEq] at hv
      obtain ⟨rfl, rfl⟩ := hv
      obtain ⟨p1, p2, p3, p4⟩ := hp
      have hlt : n.toNat < l.length := by omega
      obtain ⟨v, hv1, hr⟩ := hl.get (x := l.getD n.toNat (zD F.cx.P e)) (by rw [List.getD_eq_getElem?_getD, List.getElem?_eq_getElem hlt]; rfl)
      have hs := size_run (P := F.cx.P) (t := e) (by omega) w
      rw [p4] at hs
      exact ⟨v, by simp [Runs, execOp, ho, ex, ei, Instr.index, run_underlying hu, asIntOf, p1, p2, hs, part, Tk_agg hk, hv1], hr⟩
    · cases hv
  · cases hv

/-! ### The address of an element -/
def vIdxA (cx : Cx) (σ : St) (t : TypeId) (x i : Operand) : Option (Prop × AV) := match ev cx σ i with
  | .dv (.d (.int _ n)) => match cx.P.underlying t, ev cx σ x with
    | some (.slice e), .dv (.d (.sl l)) => some (0 ≤ n ∧ n < (l.length : Int) ∧ cx.P.cellsOf e ≠ 0 ∧ (l.getD n.toNat (zRow cx.P e)).length = cx.P.cellsOf e, .dp (l.getD n.toNat (zRow cx.P e)))
    | some (.slice e), .own k => match σ.o k with
      | some (.arr _ z l) => some (0 ≤ n ∧ n < (l.length : Int) ∧ cx.P.cellsOf e ≠ 0 ∧ cx.P.cellsOf e = z, .eptr k n.toNat z 0)
      | _ => none
    | some (.array m e), .dp l => some (0 ≤ n ∧ n < (m : Int) ∧ cx.P.cellsOf e ≠ 0, .dp (l.drop (n.toNat * cx.P.cellsOf e)))
    | some (.array m e), .ptr k o => some (0 ≤ n ∧ n < (m : Int) ∧ cx.P.cellsOf e ≠ 0, .ptr k (o + n.toNat * cx.P.cellsOf e))
    | _, _ => none
  | _ => none

theorem flatten_get {l : List (List D)} {z : Nat} (hz : ∀ (i : Nat) (x : List D), l[i]? = some x → x.length = z) : ∀ {i : Nat} {x : List D}, l[i]? = some x → (l.flatten.drop (i * z)).take z = x := by
  induction l with
  | nil => intro i x h; simp at h
  | cons y r ih =>
    intro i x h
    have hy : y.length = z := hz 0 y rfl
    have hr : ∀ (i : Nat) (x : List D), r[i]? = some x → x.length = z := fun i x h => hz (i + 1) x (by simpa using h)
    cases i with
    | zero =>
      simp only [List.getElem?_cons_zero, Option.some.injEq] at h
      subst h
      simp only [Nat.zero_mul, List.drop_zero, List.flatten_cons]
      rw [← hy, List.take_left]
    | succ i =>
      simp only [List.getElem?_cons_succ] at h
      rw [List.flatten_cons, Nat.succ_mul, List.drop_append, hy, show i * z + z - z = i * z by omega, List.drop_eq_nil_of_le (by omega), List.nil_append]
      exact ih hr h

theorem getD_some {l : List (List D)} {i : Nat} {d : List D} (h : i < l.length) : l[i]? = some (l.getD i d) := by
  rw [List.getD_eq_getElem?_getD, List.getElem?_eq_getElem h]
  rfl

theorem vIdxA_sound (hF : F.Wf) (h : Rel1 F M ρ σ a w) {o : Oper} {t : TypeId} {x i : Operand} (ho : o.op = .indexAddr t x i) {p : Prop} {r : AV} (hv : vIdxA F.cx σ t x i = some (p, r)) (hp : p) :
    ∃ v, Runs F.cx.P a w o v ∧ relA F.cx F.w0 (okM F M) ρ w r v := by
  unfold vIdxA at hv
  have hx := ev_rel hF h x
  have hi := ev_rel hF h i
  obtain ⟨vx, ex⟩ : ∃ v, a.eval x = v := ⟨_, rfl⟩
  obtain ⟨vi, ei⟩ : ∃ v, a.eval i = v := ⟨_, rfl⟩
  rw [ex] at hx
  rw [ei] at hi
  split at hv
  · rename_i k n e2
    rw [e2] at hi
    cases (show Rd _ _ (.int k n) vi from hi)
    split at hv
    · rename_i e l hu e1
      rw [e1] at hx
      simp only [Option.some.injEq, Prod.mk.injEq] at hv
      obtain ⟨rfl, rfl⟩ := hv
      obtain ⟨h0, h1, h2, h3⟩ := hp
      have hlt : n.toNat < l.length := by omega
      cases (show Rd _ _ (.sl l) vx from hx) with
      | nil A c => simp at hlt
      | sl _ z b o' c u hc hb hblt hz hu' hr =>
        have hgi := getD_some (d := zRow F.cx.P e) hlt
        have hzz : z = F.cx.P.cellsOf e := (hz _ _ hgi).symm.trans h3
        subst hzz
        refine ⟨.pointer (some ⟨b, o' + n.toNat * F.cx.P.cellsOf e, none⟩), by simp [Runs, execOp, ho, ex, ei, Instr.indexAt, asIntOf, run_underlying hu, h0, h1, size_run h2, Addr.add_lit],
          b, o' + n.toNat * F.cx.P.cellsOf e, (List.range (F.cx.P.cellsOf e)).map (u n.toNat), rfl, hb, hblt, fun j v hj => ?_, ?_, fun j y v hy hv => ?_⟩
        · rw [List.getElem?_map, Option.map_eq_some_iff] at hj
          obtain ⟨q, hq, rfl⟩ := hj
          obtain ⟨hq1, hq2⟩ := List.getElem?_eq_some_iff.1 hq
          simp only [List.length_range] at hq1
          simp only [List.getElem_range] at hq2
          subst hq2
          exact hu' _ _ hgi j _ (List.getElem?_eq_getElem (by rw [h3]; exact hq1))
        · rw [List.length_map, List.length_range, h3]
        · rw [List.getElem?_map, Option.map_eq_some_iff] at hv
          obtain ⟨q, hq, rfl⟩ := hv
          obtain ⟨hq1, hq2⟩ := List.getElem?_eq_some_iff.1 hq
          simp only [List.getElem_range] at hq2
          subst hq2
          exact hr _ _ hgi j y hy
    · rename_i e k' hu e1
      rw [e1] at hx
      split at hv
      · rename_i e' z l hk
        simp only [Option.some.injEq, Prod.mk.injEq] at hv
        obtain ⟨rfl, rfl⟩ := hv
        obtain ⟨h0, h1, h2, h3⟩ := hp
        obtain ⟨cs, ho', hM, hz, hl⟩ := h.ob k' _ hk
        have hvx : vx = ρ k' := hx
        rcases ho'.2 with ⟨hnil, hn⟩ | ⟨g, cap, cur, hg, _⟩
        · exfalso; omega
        · refine ⟨.pointer (some ⟨g, n.toNat * z + 0, none⟩), ?_, g, l.length, cap, hg, rfl⟩
          rw [hg] at hvx
          subst hvx
          simp [Runs, execOp, ho, ex, ei, Instr.indexAt, asIntOf, run_underlying hu, h0, h1, size_run h2, Addr.add_lit, h3]
      · cases hv
    · rename_i m e l hu e1
      rw [e1] at hx
      simp only [Option.some.injEq, Prod.mk.injEq] at hv
      obtain ⟨rfl, rfl⟩ := hv
      obtain ⟨h0, h1, h2⟩ := hp
      obtain ⟨b, o', cs, rfl, hb, hlt, hc, hl⟩ := hx
      refine ⟨.pointer (some ⟨b, o' + n.toNat * F.cx.P.cellsOf e, none⟩), by simp [Runs, execOp, ho, ex, ei, Instr.indexAt, asIntOf, run_underlying hu, h0, h1, size_run h2, Addr.add_lit, Instr.sureAddr],
        b, _, cs.drop (n.toNat * F.cx.P.cellsOf e), rfl, hb, hlt, fun j u hj => ?_, hl.drop _⟩
      rw [List.getElem?_drop] at hj
      have := hc _ u hj
      rwa [← Nat.add_assoc] at this
    · rename_i m e k' o' hu e1
      rw [e1] at hx
      simp only [Option.some.injEq, Prod.mk.injEq] at hv
      obtain ⟨rfl, rfl⟩ := hv
      obtain ⟨h0, h1, h2⟩ := hp
      obtain ⟨b, h3, rfl⟩ := hx
      exact ⟨.pointer (some ⟨b, o' + n.toNat * F.cx.P.cellsOf e, none⟩), by simp [Runs, execOp, ho, ex, ei, Instr.indexAt, asIntOf, run_underlying hu, h0, h1, size_run h2, Addr.add_lit, Instr.sureAddr], b, h3, rfl⟩
    · cases hv
  · cases hv
end
end Go.Avc
