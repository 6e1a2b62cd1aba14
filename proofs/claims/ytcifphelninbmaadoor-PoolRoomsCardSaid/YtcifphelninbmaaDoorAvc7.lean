/- The calculus: slices written out and calls: operations that make memory and leave all that was as it was. No condition. -/
import Derived.Test.YtcifphelninbmaaDoorAvc6
set_option linter.unusedVariables false
set_option linter.unusedSimpArgs false
namespace Go.Avc
open Go

/-- An operation's meaning: what it asks, what it yields, how often it asks the stream. -/
structure GO where
  pre : Prop
  post : AV → Prop
  cost : Nat

section
variable {F : Fr} {M : Nat → Prop} {ρ : Nat → Value} {σ : St} {a : Act} {w : World} {ok : Nat → Prop}

/-- The operation does what g says, all that was staying as it was. -/
def Does (F : Fr) (M : Nat → Prop) (ρ : Nat → Value) (σ : St) (a : Act) (w : World) (o : Oper) (g : GO) : Prop :=
  g.pre → ∀ (K : Act → World → Prop) (Q : Exit → Act → World → Prop), (∀ r v w', g.post r → Gr F.cx.g w w' → StAt F.cx (F.N + (σ.c + g.cost)) w' → relA F.cx F.w0 (okM F M) ρ w' r v → K (a.put o.dst v) w') → Oper.wp F.cx.P o a w K Q

def lift : Option (Prop × AV) → Option GO
  | some (p, r) => some ⟨p, fun x => x = r, 0⟩
  | none => none

theorem Does.of_runs (h : Rel1 F M ρ σ a w) {o : Oper} {p : Prop} {r : AV} (hr : p → ∃ v, Runs F.cx.P a w o v ∧ relA F.cx F.w0 (okM F M) ρ w r v) : Does F M ρ σ a w o ⟨p, fun x => x = r, 0⟩ := by
  intro hp
  intro K Q hK
  obtain ⟨v, h1, h2⟩ := hr hp
  unfold Oper.wp
  rw [show (execOp a.eval o).run F.cx.P w = _ from h1]
  exact hK r v w rfl (Gr.refl _ _) h.st h2

theorem Does.of_lift (h : Rel1 F M ρ σ a w) {o : Oper} {x : Option (Prop × AV)} {g : GO} (hg : lift x = some g) (hr : ∀ p r, x = some (p, r) → p → ∃ v, Runs F.cx.P a w o v ∧ relA F.cx F.w0 (okM F M) ρ w r v) : Does F M ρ σ a w o g := by
  unfold lift at hg
  split at hg
  · rename_i p r
    simp only [Option.some.injEq] at hg
    subst hg
    exact Does.of_runs h (hr p r rfl)
  · cases hg

/-! ### Rows of data in a block -/
theorem flat_at {l : List (List D)} {z : Nat} (hz : ∀ (i : Nat) (x : List D), l[i]? = some x → x.length = z) {i : Nat} {x : List D} (hi : l[i]? = some x) {j : Nat} {y : D} (hj : x[j]? = some y) : l.flatten[i * z + j]? = some y := by
  have h1 := flatten_get hz hi
  rw [← h1, List.getElem?_take] at hj
  split at hj
  · rw [List.getElem?_drop] at hj
    exact hj
  · cases hj

theorem Rd.of_flat {l : List (List D)} {z b c : Nat} {cs : List Value} (hz : ∀ (i : Nat) (x : List D), l[i]? = some x → x.length = z) (hl : RdL ok w l.flatten cs)
    (hc : ∀ (j : Nat) (u : Value), cs[j]? = some u → w.cell? ⟨b, j, none⟩ = some u) (hb : ok b) (hlt : b < w.heap.size) (hcap : l.length ≤ c) : Rd ok w (.sl l) (.slice (some ⟨b, 0, none⟩) l.length c) := by
  refine .sl l z b 0 c (fun i j => cs.getD (i * z + j) undef) hcap hb hlt hz (fun i x hi j y hj => ?_) (fun i x hi j y hj => ?_)
  · obtain ⟨v, h1, _⟩ := hl.get (flat_at hz hi hj)
    rw [Nat.zero_add, hc _ v h1, List.getD_eq_getElem?_getD, h1]
    rfl
  · obtain ⟨v, h1, h2⟩ := hl.get (flat_at hz hi hj)
    rw [List.getD_eq_getElem?_getD, h1]
    exact h2

theorem own_data (hF : F.Wf) {e : TypeId} {z : Nat} {l : List (List D)} {v : Value} (h : ObR F M ρ w (.arr e z l) v) {ok' : Nat → Prop} (hm : ∀ b, M b → F.w0.heap.size ≤ b ∧ b < w.heap.size) (hk : ∀ b, okM F M b → ok' b) (hM : ∀ b, v.ownBlock = some b → M b → ok' b) : Rd ok' w (.sl l) v := by
  obtain ⟨cs, hown, hb, hz, hl⟩ := h
  have hl' : RdL ok' w l.flatten cs := hl.mono (Nat.le_refl _) (fun b h _ => hk b h) (fun _ _ _ => rfl)
  rcases hown.2 with ⟨rfl, hn⟩ | ⟨g, cap, cur, hg, _, _, hcap, _⟩
  · have : l = [] := List.eq_nil_of_length_eq_zero hn
    subst this
    exact .nil _ _
  · have hMg := hb g (by rw [hg]; rfl)
    rw [hg]
    exact Rd.of_flat hz hl' (ownsRow_cells hown hg) (hM g (by rw [hg]; rfl) hMg) (hm g hMg).2 hcap

/-! ### A slice written out -/
def idxOk : Nat → List (Nat × DV) → Bool
  | _, [] => true
  | k, (i, _) :: r => (i == k) && idxOk (k + 1) r
def gBuildS (cx : Cx) (σ : St) (t : TypeId) (n : Nat) (parts : Array (Nat × Operand)) : Option GO := match cx.P.underlying t, argsD cx σ parts.toList with
  | some (.slice e), some ps => match Tzero cx.P e with
    | some z => if noOwn cx σ parts.toList && idxOk 0 ps && (ps.length == n) && decide (n * cx.P.cellsOf e ≤ 16777216) && (z.length == cx.P.cellsOf e) && (cx.P.cellsOf e != 0) then
        some ⟨∀ p ∈ ps, p.2.cells.length = cx.P.cellsOf e, fun r => r = .lit (ps.map fun p => p.2.cells), 0⟩ else none
    | none => none
  | _, _ => none

theorem fillD_all {z : Nat} : ∀ {ps : List (Nat × DV)} {k : Nat} {l : List D}, idxOk k ps = true → (∀ p ∈ ps, p.2.cells.length = z) → l.length = (k + ps.length) * z →
    fillD (fun i => some (i * z, z)) l ps = some (l.take (k * z) ++ (ps.map fun p => p.2.cells).flatten)
  | [], k, l, _, _, hl => by
    simp only [fillD, List.map_nil, List.flatten_nil, List.append_nil, Option.some.injEq]
    rw [List.take_of_length_le (by rw [hl]; simp)]
  | (i, x) :: r, k, l, hk, hz, hl => by
    unfold idxOk at hk
    rw [Bool.and_eq_true, beq_iff_eq] at hk
    obtain ⟨rfl, hk⟩ := hk
    have hx : x.cells.length = z := hz _ List.mem_cons_self
    simp only [List.length_cons] at hl
    have h1 : i * z + z ≤ l.length := by
      rw [hl, show i + (r.length + 1) = (i + 1) + r.length by omega, Nat.add_mul, Nat.succ_mul]
      omega
    have hs : (spl l (i * z) x.cells).length = (i + 1 + r.length) * z := by
      simp only [spl, List.length_append, List.length_take, List.length_drop, hx]
      rw [Nat.min_eq_left (by omega)]
      have : (i + 1 + r.length) * z = l.length := by rw [hl]; congr 1; omega
      omega
    unfold fillD
    simp only [hx, true_and, h1, if_true]
    rw [fillD_all hk (fun p hp => hz p (List.mem_cons_of_mem _ hp)) hs]
    congr 1
    rw [List.map_cons, List.flatten_cons, ← List.append_assoc]
    congr 1
    have ht : (l.take (i * z)).length = i * z := by rw [List.length_take, Nat.min_eq_left (by omega)]
    simp only [spl, hx]
    rw [Nat.succ_mul, List.append_assoc, List.take_append, ht, List.take_of_length_le (l := l.take (i * z)) (i := i * z + z) (by rw [ht]; omega), show i * z + z - i * z = z by omega, List.take_append, hx, Nat.sub_self, List.take_zero, List.append_nil,
      List.take_of_length_le (l := x.cells) (i := z) (by rw [hx]; exact Nat.le_refl _)]

theorem gBuildS_sound (hF : F.Wf) (h : Rel1 F M ρ σ a w) {o : Oper} {t : TypeId} {n : Nat} {parts : Array (Nat × Operand)} (ho : o.op = .buildSlice t n parts) {g : GO} (hg : gBuildS F.cx σ t n parts = some g) : Does F M ρ σ a w o g := by
  unfold gBuildS at hg
  split at hg
  · rename_i e ps hu hps
    split at hg
    · rename_i z hz
      split at hg
      · rename_i hc
        simp only [Bool.and_eq_true, beq_iff_eq, bne_iff_ne, decide_eq_true_eq] at hc
        obtain ⟨⟨⟨⟨⟨hn, hi⟩, hlen⟩, hsz⟩, hzl⟩, hs0⟩ := hc
        simp only [Option.some.injEq] at hg
        subst hg
        intro hp
        intro K Q hK
        obtain ⟨h1, h2⟩ := argsD_rd hF h hps hn
        unfold Tzero at hz
        split at hz
        · rename_i ie hie
          split at hz
          · rename_i zv hzv
            have hzr : RdL (okM F M) w z zv.cells.toList := cvD_rd hz
            have hzs : zv.cells.size = F.cx.P.cellsOf e := by
              rw [← hzl, hzr.1, Array.length_toList]
            have hce : ie.size = F.cx.P.cellsOf e := by simp [Program.cellsOf, hie]
            have hrows : RdL (okM F M) w (List.replicate n z).flatten ((Array.range (n * F.cx.P.cellsOf e)).map ((if n * F.cx.P.cellsOf e = 0 then #[] else zv.cells)[· % (if n * F.cx.P.cellsOf e = 0 then #[] else zv.cells).size]!)).toList := by
              by_cases hn0 : n = 0
              · subst hn0
                simp
                exact RdL.nil
              · have hne : ¬ n * F.cx.P.cellsOf e = 0 := by
                  rw [Nat.mul_eq_zero]
                  omega
                rw [if_neg hne]
                refine ⟨by simp [hzl], fun j x v hx hv => ?_⟩
                rw [Array.getElem?_toList, Array.getElem?_map, Option.map_eq_some_iff] at hv
                obtain ⟨q, hq, rfl⟩ := hv
                have hq2 := (Array.getElem?_eq_some_iff.1 hq)
                obtain ⟨hq3, hq4⟩ := hq2
                simp only [Array.getElem_range] at hq4
                subst hq4
                simp only [Array.size_range] at hq3
                have hpos : 0 < F.cx.P.cellsOf e := by omega
                have hmod : j % F.cx.P.cellsOf e < F.cx.P.cellsOf e := Nat.mod_lt _ hpos
                have hdiv : j / F.cx.P.cellsOf e < n := Nat.div_lt_of_lt_mul (by rw [Nat.mul_comm]; exact hq3)
                have hrep : (List.replicate n z)[j / F.cx.P.cellsOf e]? = some z := by simp [hdiv]
                have hz' : ∀ (i : Nat) (x : List D), (List.replicate n z)[i]? = some x → x.length = F.cx.P.cellsOf e := fun i x hx => by
                  rw [List.getElem?_replicate] at hx
                  split at hx
                  · cases hx; exact hzl
                  · cases hx
                have hx0 : z[j % F.cx.P.cellsOf e]? = some (z[j % F.cx.P.cellsOf e]'(by omega)) := List.getElem?_eq_getElem _
                have h3 := flat_at hz' hrep hx0
                rw [Nat.div_add_mod' j] at h3
                rw [h3] at hx
                cases hx
                obtain ⟨v, h4, h5⟩ := hzr.get hx0
                rw [hzs]
                have h6 : zv.cells[j % F.cx.P.cellsOf e]! = v := by
                  rw [Array.getElem?_toList] at h4
                  simp [getElem!_def, h4]
                rw [h6]
                exact h5
            have hfd := fillD_all (z := F.cx.P.cellsOf e) (k := 0) (l := (List.replicate n z).flatten) hi hp (by simp [hzl, hlen])
            simp only [Nat.zero_mul, List.take_zero, List.nil_append] at hfd
            obtain ⟨cs', hf, hr⟩ := fill_rd hfd hrows h1 h2
            have hz3 : ∀ (i : Nat) (x : List D), (ps.map fun p => p.2.cells)[i]? = some x → x.length = F.cx.P.cellsOf e := fun i x hx => by
              rw [List.getElem?_map, Option.map_eq_some_iff] at hx
              obtain ⟨p, hp1, rfl⟩ := hx
              exact hp p (List.mem_of_getElem? hp1)
            have hnew : okM F M w.heap.size := ⟨.inr h.gr.size, fun hM => by have := (h.mb _ hM).2; omega⟩
            have hgr := Gr.alloc F.cx.g w (.cells cs' e)
            have hres : Rd (okM F M) (w.alloc (.cells cs' e)) (.sl (ps.map fun p => p.2.cells)) (.slice (some ⟨w.heap.size, 0, none⟩) n n) := by
              have := Rd.of_flat (b := w.heap.size) (c := n) (w := w.alloc (.cells cs' e)) hz3 (hr.mono hgr.size (fun _ h _ => h) (fun b hb hlt => hgr.block b hlt (okM_ne hF hb)))
                (fun j u hj => by
                  unfold World.cell?
                  have : (w.alloc (.cells cs' e)).heap[w.heap.size]? = some (.cells cs' e (0, 0)) := heap_alloc_new w _
                  rw [this]
                  simpa using hj) hnew (by show w.heap.size < (w.heap.push _).size; simp) (by simp [hlen])
              simpa [hlen] using this
            have hpt : (parts.map fun (i, x) => (i, a.eval x)).toList = parts.toList.map fun p => (p.1, a.eval p.2) := by rw [Array.toList_map]
            have hrun : (Instr.buildSlice t n (parts.map fun (i, x) => (i, a.eval x))).run F.cx.P w = .ok (.slice (some ⟨w.heap.size, 0, none⟩) n n) (w.alloc (.cells cs' e)) := by
              unfold Instr.buildSlice
              simp only [Sem.run_bind, run_underlying hu, Result.andThen_ok, size_run hs0]
              rw [if_neg (by omega)]
              by_cases hz0 : n * F.cx.P.cellsOf e = 0
              · simp only [hz0, if_true] at hf ⊢
                simp only [Sem.run_bind, Sem.run_pure, Result.andThen_ok]
                rw [hpt, hf]
                simp only [newRow, Sem.run_bind, run_newObj, Sem.run_pure, Result.andThen_ok]
                rfl
              · simp only [hz0, if_false] at hf ⊢
                have hzv' : (zeroValue e).run F.cx.P w = .ok zv w := by simp [zeroValue, typeInfo, hie, hzv]
                simp only [Sem.run_bind, hzv', Sem.run_pure, Result.andThen_ok]
                rw [hpt, hf]
                simp only [newRow, Sem.run_bind, run_newObj, Sem.run_pure, Result.andThen_ok]
                rfl
            unfold Oper.wp
            have hex : (execOp a.eval o).run F.cx.P w = .ok (.value (.slice (some ⟨w.heap.size, 0, none⟩) n n)) (w.alloc (.cells cs' e)) := by
              simp only [execOp, ho, Sem.run_bind, hrun, Result.andThen_ok, Sem.run_pure]
            rw [hex]
            exact hK _ _ _ rfl hgr (h.st.keep hgr.size (fun b hb => (Gr.alloc none w (.cells cs' e)).block b hb (by simp))) ⟨⟨_, by rw [List.length_map, hlen]⟩, hres⟩
          · cases hz
        · cases hz
      · cases hg
    · cases hg
  · cases hg
end
end Go.Avc
