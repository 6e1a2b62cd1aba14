/- The calculus: stores, and that they do what they are told to. No condition. -/
import Derived.Test.YtcifphelninbmaaDoorAvc11
set_option linter.unusedVariables false
set_option linter.unusedSimpArgs false
namespace Go.Avc
open Go

theorem spl_pair {α β : Type} {P : α → β → Prop} {l x : List α} {m y : List β} {o : Nat} (hl : l.length = m.length) (hx : x.length = y.length) (h1 : ∀ (j : Nat) (a : α) (b : β), l[j]? = some a → m[j]? = some b → P a b)
    (h2 : ∀ (j : Nat) (a : α) (b : β), x[j]? = some a → y[j]? = some b → P a b) (j : Nat) (a : α) (b : β) (ha : (spl l o x)[j]? = some a) (hb : (spl m o y)[j]? = some b) : P a b := by
  unfold spl at ha hb
  rw [List.append_assoc] at ha hb
  by_cases c1 : j < (l.take o).length
  · rw [List.getElem?_append_left c1, List.getElem?_take] at ha
    rw [List.getElem?_append_left (by rw [List.length_take] at c1 ⊢; omega), List.getElem?_take] at hb
    split at ha
    · rename_i c
      rw [if_pos c] at hb
      exact h1 j a b ha hb
    · cases ha
  · have c1' : ¬ j < (m.take o).length := by rw [List.length_take] at c1 ⊢; omega
    have e1 : (m.take o).length = (l.take o).length := by rw [List.length_take, List.length_take]; omega
    rw [List.getElem?_append_right (by omega)] at ha hb
    rw [e1] at hb
    by_cases c2 : j - (l.take o).length < x.length
    · rw [List.getElem?_append_left c2] at ha
      rw [List.getElem?_append_left (by omega)] at hb
      exact h2 _ a b ha hb
    · rw [List.getElem?_append_right (by omega), List.getElem?_drop] at ha
      rw [List.getElem?_append_right (by omega), List.getElem?_drop, ← hx] at hb
      exact h1 _ a b ha hb

theorem spl_length {α : Type} {l x : List α} {o : Nat} (h : o + x.length ≤ l.length) : (spl l o x).length = l.length := by
  unfold spl
  simp only [List.length_append, List.length_take, List.length_drop]
  omega

theorem flatten_set {z : Nat} {d : List D} : ∀ {l : List (List D)} {i : Nat} {o : Nat} {x : List D}, (∀ (i : Nat) (y : List D), l[i]? = some y → y.length = z) → i < l.length → o + x.length ≤ z →
    (l.set i (spl (l.getD i d) o x)).flatten = spl l.flatten (i * z + o) x
  | y :: r, 0, o, x, hz, hi, ho => by
    have hy : y.length = z := hz 0 y rfl
    simp only [List.set_cons_zero, List.getD_cons_zero, List.flatten_cons, Nat.zero_mul, Nat.zero_add, spl]
    rw [List.take_append_of_le_length (by omega), List.drop_append_of_le_length (by omega)]
    simp only [List.append_assoc]
  | y :: r, i + 1, o, x, hz, hi, ho => by
    have hy : y.length = z := hz 0 y rfl
    have ih := flatten_set (d := d) (l := r) (i := i) (o := o) (x := x) (fun j w h => hz (j + 1) w (by simpa using h)) (by simpa using hi) ho
    simp only [List.set_cons_succ, List.getD_cons_succ, List.flatten_cons, ih]
    unfold spl
    have e1 : (i + 1) * z + o = y.length + (i * z + o) := by rw [Nat.succ_mul, hy]; omega
    rw [e1, List.take_length_add_append, Nat.add_assoc y.length, List.drop_length_add_append]
    simp only [List.append_assoc]

section
variable {F : Fr} {M : Nat → Prop} {ρ : Nat → Value} {σ : St} {a : Act} {w : World} {E : Env} {ok : Nat → Prop}

theorem store_run {P : Program} {t : TypeId} {b o : Nat} {v : Value} {T : TypeId} {cur : Array Value} (hh : w.heap[b]? = some (.cells cur T (0, 0))) (hs : v.cells.size = P.cellsOf t) (h0 : P.cellsOf t ≠ 0) (hfit : o + v.cells.size ≤ cur.size)
    (h1 : ∀ u ∈ v.cells.toList, u.oneCell' = true) : (Instr.storeAt t (.pointer (some ⟨b, o, none⟩)) v).run P w = .ok () (w.setRow b (spl cur.toList o v.cells.toList).toArray) := by
  have hst := run_storeCells_at P b o T v.cells.toList 0 cur w hh (by rw [Array.length_toList]; omega) h1
  simp only [Nat.add_zero] at hst
  simp only [Instr.storeAt, Instr.sureAddr, storeVar, Sem.run_bind, Sem.run_pure, Result.andThen_ok, size_run h0, hs, ne_eq, not_true_eq_false, if_false, spl]
  exact hst

theorem exStore_sound (hF : F.Wf) (h : Rel1 F M ρ σ a w) {o : Oper} {t : TypeId} {p x : Operand} (ho : o.op = .store t p x) {K : St → Prop} (hx : exStore F.cx σ t p x o.dst K)
    {K' : Act → World → Prop} {Q : Exit → Act → World → Prop} (hK : ∀ σ' a' w', Rel F σ' a' w' → K σ' → K' a' w') : Oper.wp F.cx.P o a w K' Q := by
  unfold exStore at hx
  have hp := ev0_rel hF h p
  split at hx
  · rename_i k off hd e1
    rw [e1] at hp
    split at hx
    · rename_i T cs ys hk hys
      obtain ⟨hl, h0, hfit, hx⟩ := hx
      obtain ⟨h1, h2⟩ := cellsS_rel h hys (ev0_rel hF h x)
      obtain ⟨b, hρ, hpv⟩ := hp
      obtain ⟨b', vs, h3, h4, h5, h6, h7⟩ := h.ob k _ hk
      rw [hρ] at h3
      simp only [Value.pointer.injEq, Option.some.injEq, Addr.mk.injEq, and_true] at h3
      subst h3
      have hrun : (execOp a.eval o).run F.cx.P w = .ok .skip (w.setRow b (spl vs.toList off (a.eval x).cells.toList).toArray) := by
        have := store_run (P := F.cx.P) (t := t) (o := off) h5 (v := a.eval x) (by omega) h0 (by omega) (fun u hu => by
          obtain ⟨j, hj, rfl⟩ := List.mem_iff_getElem.1 hu
          rw [Array.length_toList] at hj
          exact (h2 j (ys[j]'(by omega)) _ (List.getElem?_eq_getElem _) (by simp)).1)
        simp only [execOp, ho, hpv, Sem.run_bind, this, Result.andThen_ok, Sem.run_pure]
      unfold Oper.wp
      rw [hrun, Oper.upon_skip, hd]
      have hbk : blkOf (ρ k) = some b := by rw [hρ]; rfl
      have hblt := (h.mb b h4).2
      have hrep := h.repl hF k (B0 := some b) (ob := .box T (spl cs off ys)) (w' := w.setRow b (spl vs.toList off (a.eval x).cells.toList).toArray)
        (fun c hc => by cases hc; exact ⟨h4, fun k' o' hk' hne => h.ne k k' _ o' hk hk' (Ne.symm hne) b hbk⟩) rfl rfl rfl (by simp) (fun c hc hne => setRow_other w b c _ (fun e => hne (by rw [e])))
        (fun c hc => by rw [hbk] at hc; exact ⟨.inl hc, by cases hc; simpa using hblt⟩)
        ⟨b, _, hρ, .inl h4, setRow_heap w b vs _ T _ h5, by rw [List.size_toArray, spl_length hfit, spl_length (by simp; omega), h6]; simp, fun j y u hy hu => by
          rw [List.getElem?_toArray] at hu
          refine spl_pair (P := fun y u => u.oneCell' = true ∧ relA F.cx F.w0 (okM F fun c => M c ∨ blkOf (ρ k) = some c) ρ (w.setRow b (spl vs.toList off (a.eval x).cells.toList).toArray) y u) (by simp [h6]) (by simp [h1]) ?_ ?_ j y u hy hu
          · intro j y u hy hu
            rw [Array.getElem?_toList] at hu
            exact ⟨(h7 j y u hy hu).1, (h7 j y u hy hu).2.mono (Gr.refl _ _) (by simp) (fun c hc hlt => ⟨hc.1, fun e => hc.2 (by rcases e with e | e; exact e; rw [hbk] at e; cases e; exact h4)⟩) (fun c hc hlt => setRow_other w b c _ (fun e => hc.2 (e ▸ h4)))⟩
          · intro j y u hy hu
            rw [Array.getElem?_toList] at hu
            exact ⟨(h2 j y u hy hu).1, (h2 j y u hy hu).2.mono (Gr.refl _ _) (by simp) (fun c hc hlt => ⟨hc.1, fun e => hc.2 (by rcases e with e | e; exact e; rw [hbk] at e; cases e; exact h4)⟩) (fun c hc hlt => setRow_other w b c _ (fun e => hc.2 (e ▸ h4)))⟩⟩
      exact hK _ _ _ ⟨_, _, hrep⟩ hx
    · exact hx.elim
  · rename_i k i z off hd e1
    rw [e1] at hp
    split at hx
    · rename_i e z' l y hk hy
      obtain ⟨hl, h0, rfl, hi, hfit, hx⟩ := hx
      have hyr := ev_rel hF h x
      rw [hy] at hyr
      have hyc := RdV.cells (show RdV _ _ y _ from hyr)
      obtain ⟨b, n, c, hρ, hpv⟩ := hp
      obtain ⟨cs, hown, hM, hz, hR⟩ := h.ob k _ hk
      rcases hown.2 with ⟨h3, h4⟩ | ⟨g, cap, cur, h3, h4, h5, h6, h7, h8, h9⟩
      · omega
      · rw [hρ] at h3
        simp only [Value.slice.injEq, Option.some.injEq, Addr.mk.injEq, and_true] at h3
        obtain ⟨rfl, rfl, rfl⟩ := h3
        have hMb := hM b (by rw [hρ]; rfl)
        have hvs : (a.eval x).cells.size = y.cells.length := (Array.length_toList (xs := (a.eval x).cells)).symm.trans hyc.1.symm
        have hmul : i * z + z ≤ l.length * z := by rw [← Nat.succ_mul]; exact Nat.mul_le_mul_right z hi
        have hmul2 : l.length * z ≤ c * z := Nat.mul_le_mul_right z h6
        have hrun : (execOp a.eval o).run F.cx.P w = .ok .skip (w.setRow b (spl cur.toList (i * z + off) (a.eval x).cells.toList).toArray) := by
          have := store_run (P := F.cx.P) (t := t) (o := i * z + off) h5 (v := a.eval x) (by omega) h0 (by omega) hyc.oneCell
          simp only [execOp, ho, hpv, Sem.run_bind, this, Result.andThen_ok, Sem.run_pure]
        unfold Oper.wp
        rw [hrun, Oper.upon_skip, hd]
        have hbk : blkOf (ρ k) = some b := by rw [hρ]; rfl
        have hblt := (h.mb b hMb).2
        have hcslen : cs.length = l.length * z := hown.1
        have hmono : ∀ {l' : List D} {cs' : List Value}, RdL (okM F M) w l' cs' → RdL (okM F fun c => M c ∨ blkOf (ρ k) = some c) (w.setRow b (spl cur.toList (i * z + off) (a.eval x).cells.toList).toArray) l' cs' := fun hr =>
          hr.mono (by simp) (fun c hc hlt => ⟨hc.1, fun e => hc.2 (by rcases e with e | e; exact e; rw [hbk] at e; cases e; exact hMb)⟩) (fun c hc hlt => setRow_other w b c _ (fun e => hc.2 (e ▸ hMb)))
        have hrep := h.repl hF k (B0 := some b) (ob := .arr e z (l.set i (spl (l.getD i (zRow F.cx.P e)) off y.cells))) (w' := w.setRow b (spl cur.toList (i * z + off) (a.eval x).cells.toList).toArray)
          (fun c hc => by cases hc; exact ⟨hMb, fun k' o' hk' hne => h.ne k k' _ o' hk hk' (Ne.symm hne) b hbk⟩) rfl rfl rfl (by simp) (fun c hc hne => setRow_other w b c _ (fun e => hne (by rw [e])))
          (fun c hc => by rw [hbk] at hc; exact ⟨.inl hc, by cases hc; simpa using hblt⟩)
          ⟨spl cs (i * z + off) (a.eval x).cells.toList, ⟨by rw [spl_length (by simp; omega), hcslen, List.length_set], .inr ⟨b, c, (spl cur.toList (i * z + off) (a.eval x).cells.toList).toArray, by rw [hρ, List.length_set], h4, setRow_heap w b cur _ e _ h5, by rw [List.length_set]; exact h6, h7, by rw [List.size_toArray, spl_length (by simp; omega)]; simpa using h8, by
            rw [List.length_set, ← h9]
            unfold spl
            simp only [List.take_take, List.drop_take, List.length_append, List.length_take]
            rw [Nat.min_eq_left (show i * z + off ≤ l.length * z by omega)]
            rw [List.take_append, List.take_append]
            have e1 : (List.take (i * z + off) cur.toList).length = i * z + off := by rw [List.length_take, Array.length_toList, h8]; omega
            rw [List.take_of_length_le (l := List.take (i * z + off) cur.toList) (by rw [e1]; omega), List.take_of_length_le (l := (a.eval x).cells.toList) (by rw [e1, Array.length_toList]; omega)]
            congr 2
            all_goals (rw [List.length_append, e1, Array.length_toList])⟩⟩, fun c hc => .inl (hM c hc), fun j r hj => by
              by_cases eij : i = j
              · subst eij
                rw [List.getElem?_set_self hi] at hj
                cases hj
                rw [spl_length (by rw [hz i _ (getD_some hi)]; exact hfit)]
                exact hz i _ (getD_some hi)
              · rw [List.getElem?_set_ne eij] at hj
                exact hz j r hj, by
              rw [flatten_set hz hi hfit]
              exact hmono (hR.spl hyc _)⟩
        exact hK _ _ _ ⟨_, _, hrep⟩ hx
    · exact hx.elim
  · exact hx.elim
end
end Go.Avc
