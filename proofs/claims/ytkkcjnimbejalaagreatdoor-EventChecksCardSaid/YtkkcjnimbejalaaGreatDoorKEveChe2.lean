/- The calculus: append, and that it does what it is told to. No condition. -/
import Derived.Lib.AppendStr
import Derived.Lib.Builder
import Derived.Orders
import Derived.RegionTactic
import Derived.Test.YtkkcjnimbejalaaGreatDoorKEveChe1
set_option linter.unusedVariables false
set_option linter.unusedSimpArgs false
namespace Go.Avc
open Go
section
variable {F : Fr} {M : Nat → Prop} {ρ : Nat → Value} {σ : St} {a : Act} {w : World} {E : Env} {ok : Nat → Prop}

/-- A slice's cells, in a row. -/
def SlCells (F : Fr) (M : Nat → Prop) (w : World) (v : Value) (ys : List (List D)) (news : List Value) : Prop := ∃ A c, v = .slice A ys.length c ∧ RdL (okM F M) w ys.flatten news ∧
  (ys ≠ [] → ∃ b o, A = some ⟨b, o, none⟩ ∧ ∀ (j : Nat) (u : Value), news[j]? = some u → w.cell? ⟨b, o + j, none⟩ = some u)

theorem flat_index {z : Nat} (hz0 : 0 < z) : ∀ {l : List (List D)}, (∀ (i : Nat) (x : List D), l[i]? = some x → x.length = z) → l.flatten.length = l.length * z ∧ ∀ q, q < l.length * z → ∃ x, l[q / z]? = some x ∧ l.flatten[q]? = x[q % z]? ∧ q % z < x.length := by
  intro l hz
  have hlen : l.flatten.length = l.length * z := by
    induction l with
    | nil => simp
    | cons y r ih =>
      rw [List.flatten_cons, List.length_append, ih (fun i x h => hz (i + 1) x (by simpa using h)), hz 0 y rfl, List.length_cons, Nat.succ_mul, Nat.add_comm]
  refine ⟨hlen, fun q hq => ?_⟩
  have hdiv : q / z < l.length := Nat.div_lt_of_lt_mul (by rw [Nat.mul_comm]; exact hq)
  have hmod : q % z < z := Nat.mod_lt _ hz0
  have hx : l[q / z]? = some l[q / z] := List.getElem?_eq_getElem hdiv
  have hxl := hz _ _ hx
  refine ⟨_, hx, ?_, by omega⟩
  have hj : (l[q / z])[q % z]? = some ((l[q / z])[q % z]'(by omega)) := List.getElem?_eq_getElem _
  have := flat_at hz hx hj
  rw [Nat.div_add_mod' q] at this
  rw [this, hj]

theorem data_cells {ys : List (List D)} {v : Value} {z : Nat} (hz0 : 0 < z) (hz : ∀ y ∈ ys, y.length = z) (h : Rd (okM F M) w (.sl ys) v) : ∃ news, SlCells F M w v ys news := by
  cases h with
  | nil A c => exact ⟨[], A, c, rfl, RdL.nil, fun e => absurd rfl e⟩
  | sl _ z' b o c u hc hb hlt hz' hu hr =>
    by_cases hn : ys = []
    · subst hn
      exact ⟨[], _, c, rfl, RdL.nil, fun e => absurd rfl e⟩
    · have hzz : z' = z := by
        cases ys with
        | nil => exact absurd rfl hn
        | cons y r => exact (hz' 0 y rfl).symm.trans (hz y List.mem_cons_self)
      subst hzz
      obtain ⟨hlen, hidx⟩ := flat_index hz0 hz'
      refine ⟨(List.range (ys.length * z')).map fun q => u (q / z') (q % z'), _, c, rfl, ⟨by simp [hlen], fun q x v hx hv => ?_⟩, fun _ => ⟨b, o, rfl, fun q v hv => ?_⟩⟩
      · rw [List.getElem?_map, Option.map_eq_some_iff] at hv
        obtain ⟨q', hq', rfl⟩ := hv
        obtain ⟨h1, h2⟩ := List.getElem?_eq_some_iff.1 hq'
        simp only [List.getElem_range] at h2
        subst h2
        simp only [List.length_range] at h1
        obtain ⟨y, h3, h4, h5⟩ := hidx q h1
        rw [h4] at hx
        exact hr _ y h3 _ x hx
      · rw [List.getElem?_map, Option.map_eq_some_iff] at hv
        obtain ⟨q', hq', rfl⟩ := hv
        obtain ⟨h1, h2⟩ := List.getElem?_eq_some_iff.1 hq'
        simp only [List.getElem_range] at h2
        subst h2
        simp only [List.length_range] at h1
        obtain ⟨y, h3, h4, h5⟩ := hidx q h1
        have := hu _ y h3 _ _ (List.getElem?_eq_getElem h5)
        rwa [Nat.add_assoc, Nat.div_add_mod' q] at this

theorem arg_cells (hF : F.Wf) (h : Rel1 F M ρ σ a w) {x : AV} {v : Value} {ys : List (List D)} {z : Nat} (hz0 : 0 < z) (hz : ∀ y ∈ ys, y.length = z) (hx : relA F.cx F.w0 (okM F M) ρ w x v) (hd : toD σ x = .dv (.d (.sl ys))) : ∃ news, SlCells F M w v ys news := by
  cases x with
  | own k =>
    simp only [toD] at hd
    split at hd
    · rename_i e z' l hk
      simp only [AV.dv.injEq, DV.d.injEq, D.sl.injEq] at hd
      subst hd
      obtain ⟨cs, hown, hM, hz', hR⟩ := h.ob k _ hk
      have hv : v = ρ k := hx
      rcases hown.2 with ⟨h1, h2⟩ | ⟨g, cap, cur, h1, _⟩
      · refine ⟨cs, none, 0, by rw [hv, h1, h2], hR, fun e => absurd (List.eq_nil_of_length_eq_zero h2) e⟩
      · refine ⟨cs, _, cap, by rw [hv, h1], hR, fun _ => ⟨g, 0, rfl, fun j u hj => ?_⟩⟩
        rw [Nat.zero_add]
        exact ownsRow_cells hown h1 j u hj
    · cases hd
  | dv y =>
    cases y with
    | ag m => simp [toD] at hd
    | d y =>
      simp only [toD, AV.dv.injEq, DV.d.injEq] at hd
      subst hd
      exact data_cells hz0 hz (show Rd _ _ (.sl ys) v from hx)
  | _ => simp [toD] at hd

/-- append's outcome: a row of the call's own, in its old block or in a new one. -/
def Appended (base : Nat) (w : World) (e : TypeId) (z : Nat) (old : Option Nat) (n : Nat) (cs : List Value) (r : Result Value) : Prop :=
  ∃ v' w', r = .ok v' w' ∧ w'.ownsRow base e z v' n cs ∧ w.grownBy w' old ∧ (v'.ownBlock = none ∨ v'.ownBlock = old ∨ v'.ownBlock = some w.heap.size)

theorem append_own_run {P : Program} {base : Nat} {t ty e : TypeId} {i : TypeInfo} {zv : Value} (ht : P.underlying t = some (.slice e)) (hi : P.info? e = some i) (hzv : i.zero = some zv) (hzs : zv.cells.size = i.size) (hs0 : 0 < i.size)
    {v : Value} {n : Nat} {xs : List Value} (hown : w.ownsRow base e i.size v n xs) {A : Option Addr} {m c : Nat} {news : List Value} (hl : news.length = m * i.size) (hA : m ≠ 0 → ∃ b o, A = some ⟨b, o, none⟩ ∧ ∀ (j : Nat) (u : Value), news[j]? = some u → w.cell? ⟨b, o + j, none⟩ = some u)
    (h1 : ∀ u ∈ news, u.oneCell' = true) (h63 : n + m ≤ 9223372036854775807) (hb : (n + m) * i.bytes ≤ 140737488355328) (hbase : base ≤ w.heap.size) :
    Appended base w e i.size v.ownBlock (n + m) (xs ++ news) ((Builtin.append_ #[t, t] ty #[v, .slice A m c]).run P w) := by
  by_cases hm : m = 0
  · subst hm
    have hn : news = [] := List.eq_nil_of_length_eq_zero (by simpa using hl)
    subst hn
    refine ⟨v, w, ?_, by simpa using hown, ⟨rfl, rfl, rfl, Nat.le_refl _, fun _ _ _ => rfl⟩, .inr (.inl rfl)⟩
    have hff : (Builtin.firstCells i.size 0 (.slice A 0 c)).run P w = .ok #[] w := by
      cases A <;> simp [Builtin.firstCells, loadCells, loadCellsFrom]
    rcases hown.2 with ⟨rfl, rfl⟩ | ⟨g, cap, cur, rfl, _, hg, hnc, _⟩
    · simp [Builtin.append_, run_underlying ht, sizeOf, typeInfo, hi, Builtin.lenOf, hff]
    · simp [Builtin.append_, run_underlying ht, sizeOf, typeInfo, hi, Builtin.lenOf, hff, hnc, storeCells]
  · obtain ⟨b, o, rfl, hc⟩ := hA hm
    obtain ⟨v', w', h2, h3, h4, _, h5⟩ := run_append_own_at (P := P) w base t ty e i zv i.size i.bytes ht hi hzv rfl rfl hzs hs0 v n xs hown ⟨b, o, none⟩ m c news hl (fun j u hj => by rw [Addr.add_lit]; exact hc j u hj) h1 (by simp only [maxLen]; omega) hb hbase
    exact ⟨v', w', h2, h3, h4, .inr h5⟩

theorem append_lit_run {P : Program} {base : Nat} {t ty e : TypeId} {i : TypeInfo} {zv : Value} (ht : P.underlying t = some (.slice e)) (hi : P.info? e = some i) (hzv : i.zero = some zv) (hzs : zv.cells.size = i.size) (hs0 : 0 < i.size)
    {A0 : Option Addr} {n : Nat} {xs : List Value} (hxl : xs.length = n * i.size) (hA0 : n ≠ 0 → ∃ b o, A0 = some ⟨b, o, none⟩ ∧ ∀ (j : Nat) (u : Value), xs[j]? = some u → w.cell? ⟨b, o + j, none⟩ = some u)
    {b o m c : Nat} {news : List Value} (hl : news.length = m * i.size) (hm : m ≠ 0) (hc : ∀ (j : Nat) (u : Value), news[j]? = some u → w.cell? ⟨b, o + j, none⟩ = some u) (h63 : n + m ≤ 9223372036854775807) (hb : (n + m) * i.bytes ≤ 140737488355328) (hbase : base ≤ w.heap.size) :
    Appended base w e i.size none (n + m) (xs ++ news) ((Builtin.append_ #[t, t] ty #[.slice A0 n n, .slice (some ⟨b, o, none⟩) m c]).run P w) := by
  have hmx : n + m ≤ maxLen := by simp only [maxLen]; omega
  have hres : ∀ old, (w.drew.alloc (.cells (xs.toArray ++ news.toArray ++ Builtin.zeroCells zv.cells (grownCap w (n + m) old e - (n + m))) e)).ownsRow base e i.size (.slice (some ⟨w.heap.size, 0, none⟩) (n + m) (grownCap w (n + m) old e)) (n + m) (xs ++ news) := by
    intro old
    have hge := grownCap_ge w (n + m) old e
    have hlen : (xs ++ news).length = (n + m) * i.size := by rw [List.length_append, hxl, hl, Nat.add_mul]
    refine ⟨hlen, .inr ⟨w.heap.size, _, _, rfl, hbase, heap_alloc_new w.drew _, hge, grownCap_le_maxLen w (n + m) old e hmx, ?_, ?_⟩⟩
    · simp only [Array.size_append, List.size_toArray, size_zeroCells, hzs, hxl, hl, ← Nat.add_mul]
      congr 1
      omega
    · simp only [Array.toList_append, List.append_assoc]
      rw [← List.append_assoc, ← hlen]
      exact List.take_left
  have hgr : ∀ o', w.grownBy (w.drew.alloc o') none := fun o' => ⟨rfl, rfl, rfl, by simp, fun k hk _ => by show (w.heap.push _)[k]? = _; rw [Array.getElem?_push, if_neg (Nat.ne_of_lt hk)]⟩
  cases A0 with
  | none =>
    have hn0 : n = 0 := by
      by_cases h : n = 0
      · exact h
      · obtain ⟨b, o, h2, _⟩ := hA0 h; cases h2
    subst hn0
    have hx0 : xs = [] := List.eq_nil_of_length_eq_zero (by simpa using hxl)
    subst hx0
    have hr := run_append_nil (P := P) w t ty e i zv ht hi hzv ⟨b, o, none⟩ m c news hl (fun j u hj => by rw [Addr.add_lit]; exact hc j u hj) (by omega) (by omega) (by simp only [Nat.zero_add] at hb; omega)
    have h3 := hres 0
    simp only [Nat.zero_add, List.nil_append, Array.empty_append] at h3 ⊢
    exact ⟨_, _, hr, h3, hgr _, .inr (.inr rfl)⟩
  | some a0 =>
    have holds : ∀ (j : Nat) (u : Value), xs[j]? = some u → w.cell? (a0.add j) = some u := fun j u hj => by
      have hn : n ≠ 0 := by
        intro e0
        subst e0
        have : xs = [] := List.eq_nil_of_length_eq_zero (by simpa using hxl)
        subst this
        cases hj
      obtain ⟨b', o', h2, h3⟩ := hA0 hn
      cases h2
      rw [Addr.add_lit]
      exact h3 j u hj
    have hr := run_append_grow (P := P) w t ty e i zv ht hi hzv a0 n n xs hxl holds ⟨b, o, none⟩ m c news hl (fun j u hj => by rw [Addr.add_lit]; exact hc j u hj) (by omega) (by omega) (growslice_fits (by omega) hb)
    exact ⟨_, _, hr, hres n, hgr _, .inr (.inr rfl)⟩

/-- The frame behind an append. -/
theorem append_rel (hF : F.Wf) (h : Rel1 F M ρ σ a w) {k d : Nat} {e : TypeId} {z : Nat} {l : List (List D)} {cs : List Value} {r : Result Value} {old : Option Nat} (hd : d < F.n)
    (hr : Appended F.w0.heap.size w e z old l.length cs r) (hold : ∀ b, old = some b → M b ∧ ∀ k' o', σ.o k' = some o' → k' ≠ k → blkOf (ρ k') ≠ some b) (hz : ∀ (i : Nat) (x : List D), l[i]? = some x → x.length = z) (hl : RdL (okM F M) w l.flatten cs) :
    ∃ v' w', r = .ok v' w' ∧ Rel F (σ.newOb k d (.own k) (.arr e z l)) (a.put (some d) v') w' := by
  obtain ⟨v', w', hr, hown, hg, hat⟩ := hr
  refine ⟨v', w', hr, ?_⟩
  have hbk : ∀ b, blkOf v' = some b → v'.ownBlock = some b := fun b hb => by
    rcases hown.2 with ⟨h1, _⟩ | ⟨g, cap, cur, h1, _⟩
    · rw [h1] at hb; simp [blkOf] at hb
    · rw [h1] at hb ⊢; exact hb
  have h1 : Rel1 F M (upd ρ k v') (σ.del k) a w := h.del fun j hj => by rw [upd_apply, if_neg hj]
  have hkv : upd ρ k v' k = v' := by rw [upd_apply, if_pos rfl]
  have h2 := h1.repl hF k (B0 := old) (ob := .arr e z l) (w' := w') (fun b hb => ⟨(hold b hb).1, fun k' o' hk' hne => by
      simp only [St.del, if_neg hne, Option.map_eq_some_iff] at hk'
      obtain ⟨o'', ho'', _⟩ := hk'
      rw [upd_apply, if_neg hne]
      exact (hold b hb).2 k' o'' ho'' hne⟩) hg.os hg.tape hg.output hg.size (fun b hb hne => hg.block b hb (fun e => hne e.symm)) (fun b hb => by
      rw [hkv] at hb
      have hb' := hbk b hb
      refine ⟨?_, (hown.lt b hb').2⟩
      rcases hat with e | e | e
      · rw [e] at hb'; cases hb'
      · exact .inl (e ▸ hb')
      · rw [e] at hb'
        cases hb'
        exact .inr (Nat.le_refl _)) (by
      rw [hkv]
      refine ⟨cs, hown, fun b hb => .inr ?_, hz, hl.mono hg.size (fun b hb hlt => ⟨hb.1, fun e => ?_⟩) (fun b hb hlt => hg.block b hlt (fun e => hb.2 (hold b e.symm).1))⟩
      · rcases hown.2 with ⟨h3, _⟩ | ⟨g, cap, cur, h3, _⟩
        · rw [h3] at hb; simp [Value.ownBlock] at hb
        · rw [h3] at hb ⊢; exact hb
      · rcases e with e | e
        · exact hb.2 e
        · have hb' := hbk b e
          rcases hat with e2 | e2 | e2
          · rw [e2] at hb'; cases hb'
          · rw [e2] at hb'; exact hb.2 (hold b hb').1
          · rw [e2] at hb'; cases hb'; omega)
  exact ⟨_, _, h2.put (dst := some d) (r := .own k) (v := v') (fun e he => by cases he; exact hd) hkv.symm⟩

theorem exAppend_sound (hF : F.Wf) (h : Rel1 F M ρ σ a w) {o : Oper} {t u : TypeId} {s x : Operand} (ho : o.op = .call { callee := .builtin .append, args := #[s, x], argTypes := #[t, u] }) (hn : ∀ d, o.dst = some d → d < F.n) {K : St → Prop} (hx : exAppend F.cx σ t u s x o.dst K)
    {K' : Act → World → Prop} {Q : Exit → Act → World → Prop} (hK : ∀ σ' a' w', Rel F σ' a' w' → K σ' → K' a' w') : Oper.wp F.cx.P o a w K' Q := by
  unfold exAppend at hx
  split at hx
  · rename_i d e hd hu
    split at hx
    · rename_i ys hys
      obtain ⟨h0, hzero, hyz, hx⟩ := hx
      have htu : t = u ∧ toD σ (ev F.cx σ x) = .dv (.d (.sl ys)) := by
        split at hys
        · rename_i e' zs h1 h2
          split at hys
          · rename_i htu
            simp only [Option.some.injEq] at hys
            subst hys
            exact ⟨htu, h2⟩
          · cases hys
        · cases hys
      obtain ⟨rfl, hxd⟩ := htu
      obtain ⟨news, A, c, hvx, hnews, hAc⟩ := arg_cells hF h (Nat.pos_of_ne_zero h0) hyz (ev_rel hF h x) hxd
      split at hzero
      case h_2 => exact hzero.elim
      rename_i zl hzl
      unfold Tzero at hzl
      split at hzl
      · rename_i i hi
        split at hzl
        · rename_i zv hzv
          have hce : F.cx.P.cellsOf e = i.size := by simp [Program.cellsOf, hi]
          have hbe : F.cx.P.bytesOf e = i.bytes := by simp [Program.bytesOf, hi]
          rw [hce] at h0 hyz hx
          rw [hbe] at hx
          have hs0 : 0 < i.size := Nat.pos_of_ne_zero h0
          have hyz' : ∀ (j : Nat) (y : List D), ys[j]? = some y → y.length = i.size := fun j y hj => hyz y (List.mem_of_getElem? hj)
          have hnl : news.length = ys.length * i.size := hnews.1.symm.trans (flat_index hs0 hyz').1
          have hA' : ys.length ≠ 0 → ∃ b o, A = some ⟨b, o, none⟩ ∧ ∀ (j : Nat) (u : Value), news[j]? = some u → w.cell? ⟨b, o + j, none⟩ = some u := fun hne => hAc (fun e => hne (by rw [e]; rfl))
          have hrun0 : (execOp a.eval o).run F.cx.P w = ((Builtin.append_ #[t, t] o.type #[a.eval s, a.eval x]).run F.cx.P w).andThen fun v w' => .ok (.value v) w' := by
            simp only [execOp, ho, resolve, invoke, builtin, Sem.run_bind, Sem.run_pure, Result.andThen_ok, List.map_toArray, List.map_cons, List.map_nil]
          have hzsz : zv.cells.size = i.size ∨ True := .inr trivial
          have hs := ev0_rel hF h s
          have hzr : RdL (okM F M) w zl zv.cells.toList := cvD_rd hzl
          have hzs : zv.cells.size = i.size := by
            have h1 : zl.length = zv.cells.size := hzr.1.trans (Array.length_toList ..)
            omega
          · split at hx
            · rename_i e1
              rw [e1] at hs
              obtain ⟨hb, h63, hx⟩ := hx
              have hvs : a.eval s = .slice none 0 0 := hs
              have hap := append_own_run (P := F.cx.P) (ty := o.type) (w := w) hu hi hzv hzs hs0 (World.ownsRow_nil w F.w0.heap.size e i.size) (A := A) (c := c) hnl hA' hnews.oneCell (by omega) (by simpa using hb) h.gr.size
              simp only [Nat.zero_add, List.nil_append] at hap
              obtain ⟨v', w', hr, hrel⟩ := append_rel hF h (k := d) (hn d hd) hap (fun b hb => by simp [Value.ownBlock] at hb) hyz' hnews
              unfold Oper.wp
              rw [hrun0, hvs, hvx, hr, Result.andThen_ok, Oper.upon_value, hd]
              exact hK _ _ _ hrel hx
            · rename_i k e1
              rw [e1] at hs
              split at hx
              · rename_i e' z l hk
                obtain ⟨rfl, rfl, hb, h63, hx⟩ := hx
                obtain ⟨cs, hown, hM, hz, hR⟩ := h.ob k _ hk
                have hvs : a.eval s = ρ k := hs
                have hap := append_own_run (P := F.cx.P) (ty := o.type) (w := w) hu hi hzv hzs hs0 hown (A := A) (c := c) hnl hA' hnews.oneCell h63 hb h.gr.size
                obtain ⟨v', w', hr, hrel⟩ := append_rel hF h (k := k) (l := l ++ ys) (hn d hd) (by rw [List.length_append]; exact hap) (fun b hb => ⟨hM b hb, fun k' o' hk' hne => h.ne k k' _ o' hk hk' (Ne.symm hne) b (by
                    rcases hown.2 with ⟨h3, _⟩ | ⟨g, cap, cur, h3, _⟩
                    · rw [h3] at hb; simp [Value.ownBlock] at hb
                    · rw [h3] at hb ⊢; exact hb)⟩) (fun j y hj => by
                    by_cases hjl : j < l.length
                    · rw [List.getElem?_append_left hjl] at hj; exact hz j y hj
                    · rw [List.getElem?_append_right (by omega)] at hj; exact hyz' _ y hj) (by rw [List.flatten_append]; exact hR.append hnews)
                unfold Oper.wp
                rw [hrun0, hvs, hvx, hr, Result.andThen_ok, Oper.upon_value, hd]
                exact hK _ _ _ hrel hx
              · exact hx.elim
            · rename_i l e1
              rw [e1] at hs
              obtain ⟨hne, hlz, hb, h63, hx⟩ := hx
              obtain ⟨⟨A0, hvs⟩, hrd, _⟩ := hs
              obtain ⟨news0, A1, c1, hv1, hn0, hA1⟩ := data_cells (F := F) (M := M) hs0 hlz hrd
              have hlz' : ∀ (j : Nat) (y : List D), l[j]? = some y → y.length = i.size := fun j y hj => hlz y (List.mem_of_getElem? hj)
              rw [hvs] at hv1
              simp only [Value.slice.injEq] at hv1
              obtain ⟨rfl, _, rfl⟩ := hv1
              obtain ⟨b, o', rfl, hc⟩ := hAc hne
              have hap := append_lit_run (P := F.cx.P) (ty := o.type) (w := w) (base := F.w0.heap.size) (c := c) hu hi hzv hzs hs0 (A0 := A0) (n := l.length) (xs := news0) (hn0.1.symm.trans (flat_index hs0 hlz').1) (fun hne => hA1 (fun e => hne (by rw [e]; rfl))) hnl (fun e => hne (List.eq_nil_of_length_eq_zero e)) hc h63 hb h.gr.size
              obtain ⟨v', w', hr, hrel⟩ := append_rel hF h (k := d) (l := l ++ ys) (hn d hd) (by rw [List.length_append]; exact hap) (fun b hb => by cases hb) (fun j y hj => by
                    by_cases hjl : j < l.length
                    · rw [List.getElem?_append_left hjl] at hj; exact hlz' j y hj
                    · rw [List.getElem?_append_right (by omega)] at hj; exact hyz' _ y hj) (by rw [List.flatten_append]; exact hn0.append hnews)
              unfold Oper.wp
              rw [hrun0, hvs, hvx, hr, Result.andThen_ok, Oper.upon_value, hd]
              exact hK _ _ _ hrel hx
            · exact hx.elim
        · cases hzl
      · cases hzl
    · exact hx.elim
  · exact hx.elim
end
end Go.Avc

namespace Go.Avc
open Go Go.Lib

section
variable {F : Fr} {M : Nat → Prop} {ρ : Nat → Value} {σ : St} {a : Act} {w : World} {ok : Nat → Prop}

theorem strRows_rd (b : ByteArray) : RdL ok w (strRows b).flatten (strCells b) := by
  unfold strRows strCells
  generalize b.data.toList = l
  refine ⟨?_, ?_⟩
  · induction l with
    | nil => rfl
    | cons x r ih => simpa using ih
  · intro i x v hx hv
    have hf : (List.map (fun c : UInt8 => [D.int .u8 (c.toNat : Int)]) l).flatten = l.map fun c => D.int .u8 (c.toNat : Int) := by
      clear hx hv
      induction l with
      | nil => rfl
      | cons x r ih => simpa using ih
    rw [hf, List.getElem?_map, Option.map_eq_some_iff] at hx
    rw [List.getElem?_map, Option.map_eq_some_iff] at hv
    obtain ⟨c, h1, rfl⟩ := hx
    obtain ⟨c', h2, rfl⟩ := hv
    rw [h1] at h2
    cases h2
    exact Rd.int _ _

theorem app_str_new {P : Program} {base : Nat} {e : TypeId} {n : Nat} {xs : List Value} (hxl : xs.length = n) (s : ByteArray) (hbase : base ≤ w.heap.size) (h63 : n + s.size ≤ maxLen) (old : Nat) :
    (w.drew.alloc (.cells (xs.toArray ++ (strCells s).toArray ++ Builtin.zeroCells (Value.int .u8 0).cells (grownCap w (n + s.size) old e - (n + s.size))) e)).ownsRow base e 1
        (.slice (some ⟨w.heap.size, 0, none⟩) (n + s.size) (grownCap w (n + s.size) old e)) (n + s.size) (xs ++ strCells s) := by
  have hge := grownCap_ge w (n + s.size) old e
  have hlen : (xs ++ strCells s).length = (n + s.size) * 1 := by rw [List.length_append, hxl, strCells_length, Nat.mul_one]
  refine ⟨hlen, .inr ⟨w.heap.size, _, _, rfl, hbase, heap_alloc_new w.drew _, hge, grownCap_le_maxLen w (n + s.size) old e h63, ?_, ?_⟩⟩
  · have hz1 : (Value.int IntKind.u8 0).cells.size = 1 := rfl
    simp only [Array.size_append, List.size_toArray, size_zeroCells, hz1, hxl, strCells_length]
    omega
  · simp only [Array.toList_append, List.append_assoc]
    rw [← List.append_assoc, ← hlen]
    exact List.take_left

theorem app_gr (o' : Obj) (row : Option Nat) : w.grownBy (w.drew.alloc o') row := ⟨rfl, rfl, rfl, by simp, fun k hk _ => by show (w.heap.push _)[k]? = _; rw [Array.getElem?_push, if_neg (Nat.ne_of_lt hk)]⟩

theorem app_str_run {P : Program} {base : Nat} {t u ty e : TypeId} {i : TypeInfo} (ht : P.underlying t = some (.slice e)) (hu : P.underlying u = some .string) (hi : P.info? e = some i) (hz : i.zero = some (.int .u8 0))
    (hsize : i.size = 1) (hby : i.bytes = 1) {v : Value} {n : Nat} {xs : List Value} (hown : w.ownsRow base e 1 v n xs) (s : ByteArray) (hb : n + s.size ≤ 140737488355328) (hbase : base ≤ w.heap.size) :
    Appended base w e 1 v.ownBlock (n + s.size) (xs ++ strCells s) ((Builtin.append_ #[t, u] ty #[v, .string s]).run P w) := by
  have hmx : n + s.size ≤ maxLen := by simp only [maxLen]; omega
  have hxl : xs.length = n := by simpa using hown.1
  have hlen : (xs ++ strCells s).length = (n + s.size) * 1 := by rw [List.length_append, hxl, strCells_length, Nat.mul_one]
  have hgr := fun old => app_str_new (P := P) (e := e) hxl s hbase hmx old
  rcases hown.2 with ⟨rfl, rfl⟩ | ⟨g, cap, cur, rfl, hbg, hg, hnc, hcm, hcs, htake⟩
  · have hx : xs = [] := List.eq_nil_of_length_eq_zero hxl
    subst hx
    by_cases hm : s.size = 0
    · have hn : strCells s = [] := List.eq_nil_of_length_eq_zero (by rw [strCells_length]; exact hm)
      refine ⟨.slice none 0 0, w, ?_, by rw [hm, hn]; exact World.ownsRow_nil w base e 1, ⟨rfl, rfl, rfl, Nat.le_refl _, fun _ _ _ => rfl⟩, .inl rfl⟩
      have hf := run_firstCells_string (P := P) w 1 s
      rw [hm] at hf
      simp [Builtin.append_, run_underlying ht, run_underlying hu, sizeOf, typeInfo, hi, hsize, Builtin.lenOf, hm, hf]
    · have hr := run_append_nil_string (P := P) w t u ty e i (.int .u8 0) ht hu hi hz s (by omega) (by omega) (by rw [hby]; omega)
      have h3 := hgr 0
      simp only [Nat.zero_add, List.nil_append, Array.empty_append] at h3 ⊢
      have e1 : (s.data.map fun b => Value.int .u8 b.toNat) = (strCells s).toArray := by
        apply Array.ext'
        simp [strCells]
      rw [e1] at hr
      exact ⟨_, _, hr, h3, app_gr _ _, .inr (.inr rfl)⟩
  · by_cases hroom : n + s.size ≤ cap
    · have hcs' : cur.size = cap := by simpa using hcs
      have hr := run_append_room_string (P := P) w t u ty e i ht hu hi hsize g n cap cur hg s hroom (by omega)
      refine ⟨_, _, hr, ⟨hlen, .inr ⟨g, cap, _, rfl, hbg, setRow_heap w g cur _ e _ hg, hroom, hcm, ?_, ?_⟩⟩, ⟨rfl, rfl, rfl, by simp, fun k _ hk => setRow_other w g k _ (fun e => hk (by simp [Value.ownBlock, e]))⟩, .inr (.inl rfl)⟩
      · simp only [List.size_toArray, List.length_append, List.length_take, List.length_drop, Array.length_toList, strCells_length]
        omega
      · have ht' : cur.toList.take n = xs := by simpa using htake
        rw [ht', ← hlen]
        exact List.take_left
    · have holds : ∀ j u, xs[j]? = some u → w.cell? ((⟨g, 0, none⟩ : Addr).add j) = some u := hown.cells (g := g) rfl
      have hr := run_append_grow_string (P := P) w t u ty e i (.int .u8 0) ht hu hi hz ⟨g, 0, none⟩ n cap xs (by rw [hsize]; simpa using hxl) holds s (by omega) (by omega) (by rw [hby]; exact growslice_fits (by omega) (by omega))
      exact ⟨_, _, hr, hgr cap, app_gr _ _, .inr (.inr rfl)⟩

theorem app_str_lit {P : Program} {base : Nat} {t u ty e : TypeId} {i : TypeInfo} (ht : P.underlying t = some (.slice e)) (hu : P.underlying u = some .string) (hi : P.info? e = some i) (hz : i.zero = some (.int .u8 0))
    (hsize : i.size = 1) (hby : i.bytes = 1) {A0 : Option Addr} {n : Nat} {xs : List Value} (hxl : xs.length = n) (hA0 : n ≠ 0 → ∃ b o, A0 = some ⟨b, o, none⟩ ∧ ∀ (j : Nat) (u : Value), xs[j]? = some u → w.cell? ⟨b, o + j, none⟩ = some u)
    (s : ByteArray) (hm : s.size ≠ 0) (hb : n + s.size ≤ 140737488355328) (hbase : base ≤ w.heap.size) :
    Appended base w e 1 none (n + s.size) (xs ++ strCells s) ((Builtin.append_ #[t, u] ty #[.slice A0 n n, .string s]).run P w) := by
  have hmx : n + s.size ≤ maxLen := by simp only [maxLen]; omega
  have hgr := fun old => app_str_new (P := P) (e := e) hxl s hbase hmx old
  cases A0 with
  | none =>
    have hn0 : n = 0 := by
      by_cases h : n = 0
      · exact h
      · obtain ⟨b, o, h2, _⟩ := hA0 h; cases h2
    subst hn0
    have hx0 : xs = [] := List.eq_nil_of_length_eq_zero hxl
    subst hx0
    have hr := run_append_nil_string (P := P) w t u ty e i (.int .u8 0) ht hu hi hz s (by omega) (by omega) (by rw [hby]; omega)
    have h3 := hgr 0
    simp only [Nat.zero_add, List.nil_append, Array.empty_append] at h3 ⊢
    have e1 : (s.data.map fun b => Value.int .u8 b.toNat) = (strCells s).toArray := by
      apply Array.ext'
      simp [strCells]
    rw [e1] at hr
    exact ⟨_, _, hr, h3, app_gr _ _, .inr (.inr rfl)⟩
  | some a0 =>
    have holds : ∀ (j : Nat) (u : Value), xs[j]? = some u → w.cell? (a0.add j) = some u := fun j u hj => by
      have hn : n ≠ 0 := by
        intro e0
        subst e0
        have : xs = [] := List.eq_nil_of_length_eq_zero hxl
        subst this
        cases hj
      obtain ⟨b', o', h2, h3⟩ := hA0 hn
      cases h2
      rw [Addr.add_lit]
      exact h3 j u hj
    have hr := run_append_grow_string (P := P) w t u ty e i (.int .u8 0) ht hu hi hz a0 n n xs (by rw [hsize]; simpa using hxl) holds s (by omega) (by omega) (by rw [hby]; exact growslice_fits (by omega) (by omega))
    exact ⟨_, _, hr, hgr n, app_gr _ _, .inr (.inr rfl)⟩

theorem exAppS_sound (hF : F.Wf) (h : Rel1 F M ρ σ a w) {o : Oper} {t u : TypeId} {s x : Operand} (ho : o.op = .call { callee := .builtin .append, args := #[s, x], argTypes := #[t, u] }) (hu : F.cx.P.underlying u = some .string) (hn : ∀ d, o.dst = some d → d < F.n) {K : St → Prop} (hx : exAppS F.cx σ t s x o.dst K)
    {K' : Act → World → Prop} {Q : Exit → Act → World → Prop} (hK : ∀ σ' a' w', Rel F σ' a' w' → K σ' → K' a' w') : Oper.wp F.cx.P o a w K' Q := by
  unfold exAppS at hx
  split at hx
  · rename_i d e b hd ht ex
    obtain ⟨hone, hx⟩ := hx
    have hxr := ev_rel hF h x
    rw [ex] at hxr
    have hvx : a.eval x = .string b := by
      have hxr' : Rd (okM F M) w (.str b) (a.eval x) := hxr
      generalize a.eval x = v at hxr'
      cases hxr'
      rfl
    unfold Tone at hone
    split at hone
    · rename_i i hi
      split at hone
      · rename_i zv hzv
        split at hone
        · rename_i hsize
          split at hone
          · rename_i y hy
            simp only [Option.some.injEq, Prod.mk.injEq] at hone
            obtain ⟨rfl, hby⟩ := hone
            have hz : i.zero = some (.int .u8 0) := by
              rw [hzv]
              unfold cvD at hy
              split at hy <;> simp at hy
              obtain ⟨rfl, rfl⟩ := hy
              rfl
            have hrun0 : (execOp a.eval o).run F.cx.P w = ((Builtin.append_ #[t, u] o.type #[a.eval s, .string b]).run F.cx.P w).andThen fun v w' => .ok (.value v) w' := by
              simp only [execOp, ho, resolve, invoke, builtin, Sem.run_bind, Sem.run_pure, Result.andThen_ok, List.map_toArray, List.map_cons, List.map_nil, hvx]
            have hs := ev0_rel hF h s
            have hrows : ∀ (j : Nat) (y : List D), (strRows b)[j]? = some y → y.length = 1 := fun j y hj => by
              unfold strRows at hj
              rw [List.getElem?_map, Option.map_eq_some_iff] at hj
              obtain ⟨c, _, rfl⟩ := hj
              rfl
            split at hx
            · rename_i e1
              rw [e1] at hs
              obtain ⟨hb, hx⟩ := hx
              have hvs : a.eval s = .slice none 0 0 := hs
              have hap := app_str_run (P := F.cx.P) (ty := o.type) (w := w) ht hu hi hz hsize hby (World.ownsRow_nil w F.w0.heap.size e 1) b (by omega) h.gr.size
              simp only [Nat.zero_add, List.nil_append] at hap
              obtain ⟨v', w', hr, hrel⟩ := append_rel hF h (k := d) (l := strRows b) (hn d hd) (by rw [strRows_length]; exact hap) (fun b hb => by simp [Value.ownBlock] at hb) hrows (strRows_rd b)
              unfold Oper.wp
              rw [hrun0, hvs, hr, Result.andThen_ok, Oper.upon_value, hd]
              exact hK _ _ _ hrel hx
            · rename_i k e1
              rw [e1] at hs
              split at hx
              · rename_i e' z l hk
                obtain ⟨rfl, rfl, hb, hx⟩ := hx
                obtain ⟨cs, hown, hM, hzz, hR⟩ := h.ob k _ hk
                have hvs : a.eval s = ρ k := hs
                have hap := app_str_run (P := F.cx.P) (ty := o.type) (w := w) ht hu hi hz hsize hby hown b hb h.gr.size
                obtain ⟨v', w', hr, hrel⟩ := append_rel hF h (k := k) (l := l ++ strRows b) (hn d hd) (by rw [List.length_append, strRows_length]; exact hap) (fun b hb => ⟨hM b hb, fun k' o' hk' hne => h.ne k k' _ o' hk hk' (Ne.symm hne) b (by
                    rcases hown.2 with ⟨h3, _⟩ | ⟨g, cap, cur, h3, _⟩
                    · rw [h3] at hb; simp [Value.ownBlock] at hb
                    · rw [h3] at hb ⊢; exact hb)⟩) (fun j y hj => by
                    by_cases hjl : j < l.length
                    · rw [List.getElem?_append_left hjl] at hj; exact hzz j y hj
                    · rw [List.getElem?_append_right (by omega)] at hj; exact hrows _ y hj) (by rw [List.flatten_append]; exact hR.append (strRows_rd b))
                unfold Oper.wp
                rw [hrun0, hvs, hr, Result.andThen_ok, Oper.upon_value, hd]
                exact hK _ _ _ hrel hx
              · exact hx.elim
            · rename_i l e1
              rw [e1] at hs
              obtain ⟨hne, hlz, hb, hx⟩ := hx
              obtain ⟨⟨A0, hvs⟩, hrd, _⟩ := hs
              obtain ⟨news0, A1, c1, hv1, hn0, hA1⟩ := data_cells (F := F) (M := M) (z := 1) (by omega) hlz hrd
              have hlz' : ∀ (j : Nat) (y : List D), l[j]? = some y → y.length = 1 := fun j y hj => hlz y (List.mem_of_getElem? hj)
              rw [hvs] at hv1
              simp only [Value.slice.injEq] at hv1
              obtain ⟨rfl, _, rfl⟩ := hv1
              have hap := app_str_lit (P := F.cx.P) (ty := o.type) (w := w) (base := F.w0.heap.size) ht hu hi hz hsize hby (A0 := A0) (n := l.length) (xs := news0) ((hn0.1.symm.trans (flat_index (by omega) hlz').1).trans (Nat.mul_one _)) (fun hne => hA1 (fun e => hne (by rw [e]; rfl))) b hne hb h.gr.size
              obtain ⟨v', w', hr, hrel⟩ := append_rel hF h (k := d) (l := l ++ strRows b) (hn d hd) (by rw [List.length_append, strRows_length]; exact hap) (fun b hb => by cases hb) (fun j y hj => by
                    by_cases hjl : j < l.length
                    · rw [List.getElem?_append_left hjl] at hj; exact hlz' j y hj
                    · rw [List.getElem?_append_right (by omega)] at hj; exact hrows _ y hj) (by rw [List.flatten_append]; exact hn0.append (strRows_rd b))
              unfold Oper.wp
              rw [hrun0, hvs, hr, Result.andThen_ok, Oper.upon_value, hd]
              exact hK _ _ _ hrel hx
            · exact hx.elim
          · cases hone
        · cases hone
      · cases hone
    · cases hone
  · exact hx.elim
end
end Go.Avc

namespace Go.Avc
open Go
def SK (v : Option (Prop × St)) (k : St → Prop) : Prop := match v with
  | some (p, x) => p ∧ k x
  | none => False
theorem Rd.int_inv {ok : Nat → Prop} {w : World} {k : IntKind} {n : Int} {v : Value} (h : Rd ok w (.int k n) v) : v = .int k n := by cases h; rfl
theorem Rd.str_inv {ok : Nat → Prop} {w : World} {s : ByteArray} {v : Value} (h : Rd ok w (.str s) v) : v = .string s := by cases h; rfl
/-- The key of a builder's buffer. -/
def kB (d : Nat) : Nat := d + 5000
def St.newO (σ : St) (k : Nat) (ob : Ob) : St := { σ.del k with o := upd (σ.del k).o k (some ob) }
def St.wrB (σ : St) (k k' : Nat) (l : List (List D)) : St := { σ.del k' with o := upd (upd (σ.del k').o k' (some (.arr bE 1 l))) k (some (.bld bT k')) }
def sAllocB (σ : St) (d : Option Tmp) : Option (Prop × St) := match d with
  | some d => some (True, (σ.newO (kB d) (.arr bE 1 [])).newOb d d (.ptr d 0) (.bld bT (kB d)))
  | none => none
def bldArg (cx : Cx) (σ : St) (p : Operand) : Option (Nat × Nat × List (List D)) := match ev0 cx σ p with
  | .ptr k off => match σ.o k with
    | some (.bld T k') => match σ.o k' with
      | some (.arr e z l) => if off = 0 ∧ T = bT ∧ e = bE ∧ z = 1 ∧ k ≠ k' then some (k, k', l) else none
      | _ => none
    | _ => none
  | _ => none
def sBld (cx : Cx) (σ : St) (f : FuncId) (args : List Operand) (d : Option Tmp) : Option (Prop × St) := match args with
  | [] => none
  | p :: r => match bldArg cx σ p with
    | none => none
    | some (k, k', l) =>
      if f = fWB then (match r.map (ev cx σ) with
        | [.dv (.d (.int .u8 n))] => some (fWB ≠ 999996 ∧ l.length + 1 ≤ 140737488355328, (σ.wrB k k' (l ++ [[.int .u8 n]])).put d .un)
        | _ => none)
      else if f = fWS then (match r.map (ev cx σ) with
        | [.dv (.d (.str s))] => some (l.length + s.size ≤ 140737488355328, (σ.wrB k k' (l ++ strRows s)).put d (.tcons (.i s.size) (.tcons .un .tnil)))
        | _ => none)
      else if f = fSt then (match r with
        | [] => some (∀ x ∈ l, ∃ n : Int, x = [D.int .u8 n] ∧ 0 ≤ n ∧ n ≤ 255, (σ.newO k' (.arr bE 1 [])).put d (.str (strOfNums (numsOf l))))
        | _ => none)
      else if f = fLn then (match r with
        | [] => some (fLn ≠ 999999, σ.put d (.i l.length))
        | _ => none)
      else none
section
variable {F : Fr} {M : Nat → Prop} {ρ : Nat → Value} {σ : St} {a : Act} {w : World}

theorem Rel1.toNil (hF : F.Wf) (h : Rel1 F M ρ σ a w) (k : Nat) {e : TypeId} {w' : World} {B0 : Option Nat} (hB : ∀ b, B0 = some b → M b ∧ ∀ k' o', σ.o k' = some o' → k' ≠ k → blkOf (ρ k') ≠ some b) (hE : Else w B0 w') :
    ∃ M', Rel1 F M' (upd ρ k (.slice none 0 0)) (σ.newO k (.arr e 1 [])) a w' := by
  have hk : upd ρ k (Value.slice none 0 0) k = .slice none 0 0 := by rw [upd_apply, if_pos rfl]
  have h1 : Rel1 F M (upd ρ k (.slice none 0 0)) (σ.del k) a w := h.del fun j hj => by rw [upd_apply, if_neg hj]
  obtain ⟨e1, e2, e3, e4, e5⟩ := hE
  refine ⟨_, h1.repl hF k (B0 := B0) (ob := .arr e 1 []) (fun b hb => ⟨(hB b hb).1, fun k' o' hk' hne => by
      simp only [St.del, if_neg hne, Option.map_eq_some_iff] at hk'
      obtain ⟨o'', ho'', _⟩ := hk'
      rw [upd_apply, if_neg hne]
      exact (hB b hb).2 k' o'' ho'' hne⟩) e1 e2 e3 e4 (fun b hb hne => e5 b hb hne) (fun b hb => by rw [hk] at hb; simp [blkOf] at hb) ?_⟩
  rw [hk]
  exact ⟨[], World.ownsRow_nil .., fun b hb => by simp [Value.ownBlock] at hb, fun i x hx => by simp at hx, RdL.nil⟩

theorem own_blk {base : Nat} {e : TypeId} {z : Nat} {v : Value} {n : Nat} {cs : List Value} (h : w.ownsRow base e z v n cs) (b : Nat) : blkOf v = some b ↔ v.ownBlock = some b := by
  rcases h.2 with ⟨h1, _⟩ | ⟨g, cap, cur, h1, _⟩
  · rw [h1]; simp [blkOf, Value.ownBlock]
  · rw [h1]; simp [blkOf, Value.ownBlock]

theorem Rel1.wrB (hF : F.Wf) (h : Rel1 F M ρ σ a w) {k k' : Nat} {l l' : List (List D)} (hk : σ.o k = some (.bld bT k')) (hk' : σ.o k' = some (.arr bE 1 l)) (hne : k ≠ k') {b : Nat} (hb : ρ k = .pointer (some ⟨b, 0, none⟩)) {bs' : List Value} {w' : World}
    (hw : Wrote F.w0.heap.size b w (ρ k') bs' w') (hz : ∀ (i : Nat) (x : List D), l'[i]? = some x → x.length = 1) (hl : RdL (okM F M) w l'.flatten bs') (hlen : l'.length = bs'.length) : ∃ M' ρ', Rel1 F M' ρ' (σ.wrB k k' l') a w' := by
  obtain ⟨v', hbv, hown', hat, hos, htp, hout, hsz, hframe⟩ := hw
  obtain ⟨b', p, hb1, hMb, hbh, hp, hone⟩ := h.ob k _ hk
  obtain ⟨cs, hown, hMa, hza, hla⟩ := h.ob k' _ hk'
  have hbb : b' = b := by rw [hb] at hb1; simpa using hb1.symm
  subst hbb
  have hTE : bT ≠ bE := by decide
  have hnb' : v'.ownBlock ≠ some b' := Lib.ownBlock_ne hown' hbv hTE
  have hnb : (ρ k').ownBlock ≠ some b' := Lib.ownBlock_ne hown hbh hTE
  have hblt : b' < w.heap.size := (h.mb b' hMb).2
  let wA : World := { w' with heap := w'.heap.setIfInBounds b' (.cells #[p, ρ k'] bT (0, 0)) }
  have hA : ∀ j, j ≠ b' → wA.heap[j]? = w'.heap[j]? := fun j hj => by
    show (w'.heap.setIfInBounds b' _)[j]? = _
    rw [Array.getElem?_setIfInBounds, if_neg (Ne.symm hj)]
  have hAb : wA.heap[b']? = some (.cells #[p, ρ k'] bT (0, 0)) := by
    show (w'.heap.setIfInBounds b' _)[b']? = _
    rw [Array.getElem?_setIfInBounds, if_pos rfl, if_pos (by omega)]
  have hAs : wA.heap.size = w'.heap.size := Array.size_setIfInBounds ..
  have hownA : wA.ownsRow F.w0.heap.size bE 1 v' bs'.length bs' := hown'.kept (row := some b') ⟨rfl, rfl, rfl, Nat.le_of_eq hAs.symm, fun j _ hj => hA j (fun e => hj (by rw [e]))⟩ (.inr hnb')
  have hblk' : ∀ j, blkOf v' = some j ↔ v'.ownBlock = some j := own_blk hown'
  have h1 : Rel1 F M (upd ρ k' v') (σ.del k') a w := h.del fun j hj => by rw [upd_apply, if_neg hj]
  have hkv : upd ρ k' v' k' = v' := by rw [upd_apply, if_pos rfl]
  have hkk : upd ρ k' v' k = .pointer (some ⟨b', 0, none⟩) := by rw [upd_apply, if_neg hne]; exact hb
  have hpos : ∀ j, v'.ownBlock = some j → ((ρ k').ownBlock = some j ∨ w.heap.size ≤ j) ∧ j < wA.heap.size := fun j hj => by
    rw [hAs]
    rcases hat with e | e | ⟨g, e, e1, e2⟩
    · rw [e] at hj; cases hj
    · refine ⟨.inl (e ▸ hj), ?_⟩
      have := (hown.lt j (e ▸ hj)).2
      omega
    · rw [e] at hj; cases hj
      exact ⟨.inr e1, e2⟩
  have h2 := h1.repl hF k' (w' := wA) (B0 := (ρ k').ownBlock) (ob := .arr bE 1 l') (fun j hj => ⟨hMa j hj, fun k2 o2 hk2 hn2 => by
      simp only [St.del, if_neg hn2, Option.map_eq_some_iff] at hk2
      obtain ⟨o3, ho3, _⟩ := hk2
      rw [upd_apply, if_neg hn2]
      exact h.ne k' k2 _ o3 hk' ho3 (Ne.symm hn2) j ((own_blk hown j).2 hj)⟩) hos htp hout (by rw [hAs]; exact hsz) (fun j hj hn => by
        by_cases e : j = b'
        · rw [e, hAb]; exact hbh.symm
        · rw [hA j e]; exact hframe j hj e hn) (fun j hj => by rw [hkv] at hj; exact hpos j ((hblk' j).1 hj)) (by
      rw [hkv]
      refine ⟨bs', by rw [hlen]; exact hownA, fun j hj => .inr ((hblk' j).2 hj), hz, hl.mono (by rw [hAs]; exact hsz) (fun j hj hlt => ⟨hj.1, fun e => ?_⟩) (fun j hj hlt => ?_)⟩
      · rcases e with e | e
        · exact hj.2 e
        · rcases (hpos j ((hblk' j).1 e)).1 with e2 | e2
          · exact hj.2 (hMa j e2)
          · omega
      · by_cases e : j = b'
        · exact absurd (e ▸ hMb) hj.2
        · rw [hA j e]; exact hframe j hlt e (fun e2 => hj.2 (hMa j e2)))
  have h3 := h2.repl hF k (w' := w') (B0 := some b') (ob := .bld bT k') (fun j hj => by
      cases hj
      refine ⟨.inl hMb, fun k2 o2 hk2 hn2 => ?_⟩
      have hok : ({ σ.del k' with o := upd (σ.del k').o k' (some (.arr bE 1 l')) } : St).o k = some (.box bT [.un, .un]) := by
        simp only [upd_apply, if_neg hne, St.del, hk, Option.map_some, purgeO, if_true]
      exact h2.ne k k2 _ o2 hok hk2 (Ne.symm hn2) b' (by rw [hkk]; rfl)) rfl rfl rfl (Nat.le_of_eq hAs) (fun j hj hn => (hA j (fun e => hn (by rw [e]))).symm)
      (fun j hj => by rw [hkk] at hj; simp only [blkOf, Option.some.injEq] at hj; subst hj; exact ⟨.inl rfl, by omega⟩)
      (by
        refine ⟨b', .pointer (some ⟨b', 0, none⟩), hkk, .inl (.inl hMb), by rw [hkv]; exact hbv, .inr rfl, ?_⟩
        rw [hkv]
        rcases hown'.2 with ⟨e, _⟩ | ⟨g, cap, cur, e, _⟩ <;> rw [e] <;> rfl)
  exact ⟨_, _, h3⟩

theorem bldArg_spec {cx : Cx} {p : Operand} {k k' : Nat} {l : List (List D)} (h : bldArg cx σ p = some (k, k', l)) : ev0 cx σ p = .ptr k 0 ∧ σ.o k = some (.bld bT k') ∧ σ.o k' = some (.arr bE 1 l) ∧ k ≠ k' := by
  unfold bldArg at h
  split at h
  · rename_i k0 o0 e0
    split at h
    · rename_i T k1 e1
      split at h
      · rename_i e z l0 e2
        split at h
        · rename_i hc
          obtain ⟨rfl, rfl, rfl, rfl, hne⟩ := hc
          simp only [Option.some.injEq, Prod.mk.injEq] at h
          obtain ⟨rfl, rfl, rfl⟩ := h
          exact ⟨e0, e1, e2, hne⟩
        · cases h
      · cases h
    · cases h
  · cases h

theorem byteRows {l : List (List D)} (h : ∀ x ∈ l, ∃ n : Int, x = [D.int .u8 n] ∧ 0 ≤ n ∧ n ≤ 255) : ∃ bs : List UInt8, l = bs.map fun c => [D.int .u8 (c.toNat : Int)] := by
  induction l with
  | nil => exact ⟨[], rfl⟩
  | cons x r ih =>
    obtain ⟨n, rfl, h0, h1⟩ := h x (List.mem_cons_self ..)
    obtain ⟨bs, rfl⟩ := ih fun y hy => h y (List.mem_cons_of_mem _ hy)
    refine ⟨UInt8.ofNat n.toNat :: bs, ?_⟩
    rw [List.map_cons]
    congr 3
    simp only [UInt8.toNat_ofNat', Nat.reducePow]
    omega

theorem rd_bytes {ok : Nat → Prop} : ∀ {bs : List UInt8} {cs : List Value}, RdL ok w (bs.map fun c => [D.int .u8 (c.toNat : Int)]).flatten cs → cs = bs.map fun c => .int .u8 c.toNat := by
  intro bs cs h
  have hf : (bs.map fun c => [D.int .u8 (c.toNat : Int)]).flatten = bs.map fun c => D.int .u8 (c.toNat : Int) := by
    clear h
    induction bs with
    | nil => rfl
    | cons x r ih => simpa using ih
  rw [hf] at h
  apply List.ext_getElem
  · rw [← h.1]; simp
  · intro i h1 h2
    have hb : i < bs.length := by simpa using h2
    have := h.2 i (.int .u8 (bs[i].toNat : Int)) cs[i] (by simp [List.getElem?_map, List.getElem?_eq_getElem hb]) (List.getElem?_eq_getElem h1)
    rw [this.int_inv]
    simp

theorem str_nums (bs : List UInt8) : strOfNums (numsOf (bs.map fun c => [D.int .u8 (c.toNat : Int)])) = ⟨bs.toArray⟩ := by
  unfold strOfNums numsOf
  congr 1
  simp only [List.map_map, Function.comp_def]
  apply Array.ext'
  simp

theorem sBld_sound (hB : BldOk F.cx.P) (hF : F.Wf) (h : Rel1 F M ρ σ a w) {o : Oper} {f : FuncId} {args : Array Operand} {ts : Array TypeId} (ho : o.op = .call { callee := .value (.func f), args := args, argTypes := ts }) (hn : ∀ d, o.dst = some d → d < F.n) {K : St → Prop}
    (hx : SK (sBld F.cx σ f args.toList o.dst) K) {K' : Act → World → Prop} {Q : Exit → Act → World → Prop} (hK : ∀ σ' a' w', Rel F σ' a' w' → K σ' → K' a' w') : Oper.wp F.cx.P o a w K' Q := by
  have key : ∀ {vs : List Value} {R : Ending → World → Prop}, Enters F.cx.P f → (args.map a.eval).toList = vs → Calls F.cx.P f vs.toArray w R → (∀ e w', R e w' → ∃ v, e = .returned v ∧ K' (a.put o.dst v) w') → Oper.wp F.cx.P o a w K' Q := by
    intro vs R hen hvs hc hR
    have hrun : (execOp a.eval o).run F.cx.P w = .ok (.enter f (args.map a.eval)) w := by
      simp only [execOp, ho, resolve, Deferred.ofValue, Act.eval, Sem.run_bind, Sem.run_pure, Result.andThen_ok, invoke, callFunc_run hen]
      simp
    unfold Oper.wp
    rw [hrun]
    show Calls _ _ _ _ _
    rw [← hvs, Array.toArray_toList] at hc
    refine hc.mono fun e w' he => ?_
    obtain ⟨v, rfl, hk⟩ := hR e w' he
    exact hk
  have hmap : (args.map a.eval).toList = args.toList.map a.eval := by simp
  unfold SK at hx
  split at hx
  · rename_i pr σ' hs
    unfold sBld at hs
    split at hs
    · cases hs
    · rename_i p r hargs
      split at hs
      · cases hs
      · rename_i k k' l hba
        obtain ⟨e0, e1, e2, hne⟩ := bldArg_spec hba
        obtain ⟨b, p0, hb1, hMb, hbh, hp, hone⟩ := h.ob k _ e1
        obtain ⟨cs, hown, hMa, hza, hla⟩ := h.ob k' _ e2
        have hv0 : a.eval p = .pointer (some ⟨b, 0, none⟩) := by
          have := ev0_rel hF h p
          rw [e0] at this
          obtain ⟨b2, h1, h2⟩ := this
          rw [h1] at hb1
          simp only [Value.pointer.injEq, Option.some.injEq, Addr.mk.injEq, and_true] at hb1
          rw [h2, hb1]
        have hcl : cs.length = l.length := by have := hown.1; omega
        have hown' : w.ownsRow F.w0.heap.size bE 1 (ρ k') cs.length cs := by rw [hcl]; exact hown
        have hbld : Bld w b (ρ k') := ⟨p0, hp, hbh⟩
        have hval : ∀ x : Operand, relA F.cx F.w0 (okM F M) ρ w (ev F.cx σ x) (a.eval x) := fun x => ev_rel hF h x
        split at hs
        · rename_i hf
          subst hf
          split at hs
          · rename_i n hr
            simp only [Option.some.injEq, Prod.mk.injEq] at hs
            obtain ⟨rfl, rfl⟩ := hs
            obtain ⟨⟨hne9, hlen⟩, hx⟩ := hx
            have hwb := hB.wb.resolve_left hne9
            have heb := hB.eb.resolve_left hne9
            obtain ⟨x, rfl, hxe⟩ : ∃ x, r = [x] ∧ ev F.cx σ x = .dv (.d (.int .u8 n)) := by
              cases r with
              | nil => cases hr
              | cons x t =>
                cases t with
                | nil => simp at hr; exact ⟨x, rfl, hr⟩
                | cons y t => simp at hr
            have hvx : a.eval x = .int .u8 n := by
              have := hval x
              rw [hxe] at this
              exact Rd.int_inv (show Rd _ _ (.int .u8 n) (a.eval x) from this)
            refine key heb (by rw [hmap, hargs]; simp only [List.map_cons, List.map_nil, hv0, hvx]) (hwb _ b cs n w (ρ k') hbld hown' (by omega) h.gr.size) ?_
            rintro e w' ⟨rfl, hw⟩
            obtain ⟨M', ρ', hr'⟩ := h.wrB hF e1 e2 hne hb1 hw (l' := l ++ [[D.int .u8 n]]) (fun i y hy => by
              by_cases hi : i < l.length
              · rw [List.getElem?_append_left hi] at hy; exact hza i y hy
              · rw [List.getElem?_append_right (by omega)] at hy
                have := List.mem_of_getElem? hy
                simp at this
                rw [this]; rfl) (by rw [List.flatten_append]; exact hla.append (RdL.one (.int .u8 n))) (by simp [hcl])
            exact ⟨_, rfl, hK _ _ _ ⟨M', ρ', hr'.put hn (r := .un) trivial⟩ hx⟩
          · cases hs
        · split at hs
          · rename_i hf
            subst hf
            split at hs
            · rename_i s hr
              simp only [Option.some.injEq, Prod.mk.injEq] at hs
              obtain ⟨rfl, rfl⟩ := hs
              obtain ⟨hlen, hx⟩ := hx
              obtain ⟨x, rfl, hxe⟩ : ∃ x, r = [x] ∧ ev F.cx σ x = .str s := by
                cases r with
                | nil => cases hr
                | cons x t =>
                  cases t with
                  | nil => simp at hr; exact ⟨x, rfl, hr⟩
                  | cons y t => simp at hr
              have hvx : a.eval x = .string s := by
                have := hval x
                rw [hxe] at this
                exact Rd.str_inv (show Rd _ _ (.str s) (a.eval x) from this)
              refine key hB.es (by rw [hmap, hargs]; simp only [List.map_cons, List.map_nil, hv0, hvx]) (hB.ws _ b cs s w (ρ k') hbld hown' (by omega) h.gr.size) ?_
              rintro e w' ⟨rfl, hw⟩
              obtain ⟨M', ρ', hr'⟩ := h.wrB hF e1 e2 hne hb1 hw (l' := l ++ strRows s) (fun i y hy => by
                by_cases hi : i < l.length
                · rw [List.getElem?_append_left hi] at hy; exact hza i y hy
                · rw [List.getElem?_append_right (by omega)] at hy
                  have := List.mem_of_getElem? hy
                  unfold strRows at this
                  rw [List.mem_map] at this
                  obtain ⟨c, _, rfl⟩ := this
                  rfl) (by rw [List.flatten_append]; exact hla.append (strRows_rd s)) (by simp [hcl, strRows_length, Lib.strCells_length])
              exact ⟨_, rfl, hK _ _ _ ⟨M', ρ', hr'.put hn (r := .tcons (.i s.size) (.tcons .un .tnil)) ⟨[.int .i64 s.size, .nilIface], rfl, _, _, rfl, .int .i64 _, _, _, rfl, trivial, rfl⟩⟩ hx⟩
            · cases hs
          · split at hs
            · rename_i hf
              subst hf
              split at hs
              · simp only [Option.some.injEq, Prod.mk.injEq] at hs
                obtain ⟨rfl, rfl⟩ := hs
                obtain ⟨hby, hx⟩ := hx
                obtain ⟨bs, rfl⟩ := byteRows hby
                have hcs := rd_bytes hla
                subst hcs
                refine key hB.et (by rw [hmap, hargs]; simp only [List.map_cons, List.map_nil, hv0]) (hB.st F.w0.heap.size b bs w (ρ k') hbld (by simpa using hown') h.gr.size) ?_
                rintro e w' ⟨rfl, hw⟩
                obtain ⟨M', hr'⟩ := h.toNil hF k' (e := bE) (fun j hj => ⟨hMa j hj, fun k2 o2 hk2 hn2 => h.ne k' k2 _ o2 e2 hk2 (Ne.symm hn2) j ((own_blk hown j).2 hj)⟩) hw
                refine ⟨_, rfl, hK _ _ _ ⟨M', _, hr'.put hn (r := .str _) ?_⟩ hx⟩
                rw [str_nums]
                exact Rd.str _
              · cases hs
            · split at hs
              · rename_i hf
                subst hf
                split at hs
                · simp only [Option.some.injEq, Prod.mk.injEq] at hs
                  obtain ⟨rfl, rfl⟩ := hs
                  obtain ⟨hne9, hx⟩ := hx
                  rcases hB.ln with e | hln
                  · exact absurd e hne9
                  · rcases hB.el with e | hel
                    · exact absurd e hne9
                    · refine key hel (by rw [hmap, hargs]; simp only [List.map_cons, List.map_nil, hv0]) (hln F.w0.heap.size b cs w (ρ k') hbld hown') ?_
                      rintro e w' ⟨rfl, rfl⟩
                      refine ⟨_, rfl, hK _ _ _ ⟨M, ρ, h.put hn (r := .i l.length) ?_⟩ hx⟩
                      rw [hcl]
                      exact Rd.int .i64 _
                · cases hs
              · cases hs
  · exact hx.elim

theorem sAllocB_sound (hB : BldOk F.cx.P) (hF : F.Wf) (h : Rel1 F M ρ σ a w) {o : Oper} (ho : o.op = .alloc bT) (hn : ∀ d, o.dst = some d → d < F.n) {K : St → Prop} (hx : SK (sAllocB σ o.dst) K)
    {K' : Act → World → Prop} {Q : Exit → Act → World → Prop} (hK : ∀ σ' a' w', Rel F σ' a' w' → K σ' → K' a' w') : Oper.wp F.cx.P o a w K' Q := by
  unfold SK sAllocB at hx
  split at hx
  · rename_i pr σ' hs
    split at hs
    · rename_i d hd
      simp only [Option.some.injEq, Prod.mk.injEq] at hs
      obtain ⟨rfl, rfl⟩ := hs
      obtain ⟨i, hi, hz⟩ := hB.al
      have hrun : (execOp a.eval o).run F.cx.P w = .ok (.value (.pointer (some ⟨w.heap.size, 0, none⟩))) (w.alloc (.cells #[.pointer none, .slice none 0 0] bT)) := by
        simp only [execOp, ho, Instr.alloc, zeroValue, run_typeInfo w hi, hz, newVar, newRow, Sem.run_bind, run_newObj, Sem.run_pure, Result.andThen_ok]
        rfl
      unfold Oper.wp
      rw [hrun, Oper.upon_value, hd]
      obtain ⟨M1, h1⟩ := h.toNil hF (kB d) (e := bE) (B0 := none) (w' := w) (fun b hb => by cases hb) ⟨rfl, rfl, rfl, Nat.le_refl _, fun _ _ _ => rfl⟩
      refine hK _ _ _ (h1.fresh hF (hn d hd) (alloc_gr w _) (fun b hb => ?_) (fun h' => ?_) (.inr ⟨rfl, _, rfl⟩)) hx.2
      · simp only [blkOf, Option.some.injEq] at hb
        subst hb
        exact ⟨Nat.le_refl _, alloc_size w _⟩
      · have hkd : kB d ≠ d := by unfold kB; omega
        have hk : upd (upd ρ (kB d) (.slice none 0 0)) d (.pointer (some ⟨w.heap.size, 0, none⟩)) (kB d) = .slice none 0 0 := by rw [upd_apply, if_neg hkd, upd_apply, if_pos rfl]
        refine ⟨w.heap.size, .pointer none, rfl, .inr rfl, ?_, .inl rfl, ?_⟩
        · rw [hk]; exact heap_alloc_new w _
        · rw [hk]; rfl
    · cases hs
  · exact hx.elim
end
end Go.Avc

namespace Go.Avc
open Go
/-- A map is made. -/
def sMM (cx : Cx) (σ : St) (t : TypeId) (d : Option Tmp) : Option (Prop × St) := match d, cx.P.underlying t with
  | some d, some (.map _ _) => some (True, σ.newOb d d (.own d) (.mp t []))
  | _, _ => some (True, σ.put d .un)
/-- An entry is written. -/
def sMU (cx : Cx) (σ : St) (t : TypeId) (m k x : Operand) (d : Option Tmp) : Option (Prop × St) := match d, ev cx σ m, ev cx σ k, ev cx σ x with
  | none, .own c, .dv key, .dv (.d val) => match σ.o c with
    | some (.mp t' l) => some (t' = t ∧ mKey cx.P t (dK key) = true ∧ mFlat val = true, { σ with o := upd σ.o c (some (.mp t' (mput l (dK key) val))) })
    | _ => none
  | _, _, _, _ => none
section
variable {F : Fr} {M : Nat → Prop} {ρ : Nat → Value} {σ : St} {a : Act} {w : World} {E : Env}
theorem sMM_sound (hF : F.Wf) (h : Rel1 F M ρ σ a w) {o : Oper} {t : TypeId} (ho : o.op = .makeMap t none) (hn : ∀ d, o.dst = some d → d < F.n) {K : St → Prop} (hx : SK (sMM F.cx σ t o.dst) K)
    {K' : Act → World → Prop} {Q : Exit → Act → World → Prop} (hK : ∀ σ' a' w', Rel F σ' a' w' → K σ' → K' a' w') : Oper.wp F.cx.P o a w K' Q := by
  have hrun : (execOp a.eval o).run F.cx.P w = .ok (.value (.map (some w.heap.size))) (w.alloc (.map #[] 0)) := by
    simp only [execOp, ho, Option.map_none, Sem.run_bind, show (Instr.makeMap t none).run F.cx.P w = .ok (.map (some w.heap.size)) (w.alloc (.map #[] 0)) from rfl, Result.andThen_ok, Sem.run_pure]
  unfold Oper.wp
  rw [hrun, Oper.upon_value]
  unfold sMM at hx
  split at hx
  · rename_i d K0 V hd hu
    have hx : True ∧ K _ := hx
    rw [hd]
    refine hK _ _ _ (h.fresh hF (hn d hd) (v := .map (some w.heap.size)) (ob := .mp t []) (alloc_gr w _) (fun b hb => ?_) (fun h' => ?_) (.inl rfl)) hx.2
    · simp only [blkOf, Option.some.injEq] at hb
      subst hb
      exact ⟨Nat.le_refl _, alloc_size w _⟩
    · exact ⟨w.heap.size, #[], 0, rfl, .inr rfl, heap_alloc_new w _, rfl, rfl⟩
  · have hx : True ∧ K (σ.put o.dst .un) := hx
    have hg := Gr.alloc F.cx.g w (.map #[] 0)
    have h2 := h.grow (k := 0) hF hg (h.st.keep hg.size fun b hb => (Gr.alloc none w (.map #[] 0)).block b hb (by simp))
    exact hK _ _ _ ⟨M, ρ, h2.put (dst := o.dst) (r := .un) hn trivial⟩ hx.2
theorem assoc_push {es : Array MapEntry} {l : List (D × D)} (h : es.toList.map (fun e => (e.key, e.val)) = l.map (fun p => (mV p.1, mV p.2))) (k v : D) (c : Nat) : (es.push { key := mV k, val := mV v, born := c }).toList.map (fun e => (e.key, e.val)) = (l ++ [(k, v)]).map (fun p => (mV p.1, mV p.2)) := by
  rw [Array.toList_push, List.map_append, List.map_append, h]
  rfl
theorem assoc_set {es : Array MapEntry} {l : List (D × D)} (h : es.toList.map (fun e => (e.key, e.val)) = l.map (fun p => (mV p.1, mV p.2))) (k v : D) (j : Nat) : (es.modify j fun e => { e with key := mV k, val := mV v }).toList.map (fun e => (e.key, e.val)) = (l.set j (k, v)).map (fun p => (mV p.1, mV p.2)) := by
  apply List.ext_getElem?
  intro i
  have hi := congrArg (fun q => q[i]?) h
  simp only [List.getElem?_map] at hi
  rw [List.getElem?_map, List.getElem?_map, Array.getElem?_toList, Array.getElem?_modify, List.getElem?_set]
  rw [Array.getElem?_toList] at hi
  have hl : es.size = l.length := by
    have := congrArg List.length h
    simpa using this
  by_cases e : j = i
  · subst e
    rw [if_pos rfl, if_pos rfl]
    by_cases hlt : j < es.size
    · rw [Array.getElem?_eq_getElem hlt, if_pos (by omega)]
      rfl
    · rw [Array.getElem?_eq_none (by omega), if_neg (by omega)]
      rfl
  · rw [if_neg e, if_neg e]
    exact hi
theorem sMU_sound (hF : F.Wf) (h : Rel1 F M ρ σ a w) {o : Oper} {t : TypeId} {m k x : Operand} (ho : o.op = .mapUpdate t m k x ∨ o.op = .insert t m k x) {K : St → Prop} (hx : SK (sMU F.cx σ t m k x o.dst) K)
    {K' : Act → World → Prop} {Q : Exit → Act → World → Prop} (hK : ∀ σ' a' w', Rel F σ' a' w' → K σ' → K' a' w') : Oper.wp F.cx.P o a w K' Q := by
  unfold sMU at hx
  split at hx
  · rename_i c key val hd e1 e2 e3
    split at hx
    · rename_i t' l e4
      obtain ⟨⟨rfl, hk, hv⟩, hx⟩ := hx
      obtain ⟨Kt, V, hu, u3⟩ := mKey_spec hk
      have hm := ev_rel hF h m
      rw [e1] at hm
      have hm : a.eval m = ρ c := hm
      have hi := ev_rel hF h k
      rw [e2] at hi
      have hi : a.eval k = mV (dK key) := key_val u3 (show RdV (okM F M) w key (a.eval k) from hi)
      have hj := ev_rel hF h x
      rw [e3] at hj
      have hj : a.eval x = mV val := rd_mV (show Rd (okM F M) w val (a.eval x) from hj) hv
      obtain ⟨b, es, clk, g1, g2, g3, g4, g5⟩ := h.ob c _ e4
      have hall := all_key g5 hu
      have hck := key_check u3 w false
      generalize dK key = key at *
      have hup : ∃ es' clk', (Instr.mapUpdate t' (a.eval m) (a.eval k) (a.eval x)).run F.cx.P w = .ok () { w with heap := w.heap.setIfInBounds b (.map es' clk') } ∧ es'.toList.map (fun e => (e.key, e.val)) = (mput l key val).map (fun p => (mV p.1, mV p.2)) ∧ ((mput l key val).all fun p => mKey F.cx.P t' p.1 && mFlat p.2) = true := by
        rw [hm, hi, hj, g1]
        have hkv : (mKey F.cx.P t' key && mFlat val) = true := by rw [hk, hv]; rfl
        rcases key_find u3 val w l es.toList g4 (fun p hp => (hall p hp).1) with ⟨f1, f2, f3⟩ | ⟨j, u, f1, f2, f3, f4⟩
        · refine ⟨es.push { key := mV key, val := mV val, born := clk }, clk + 1, ?_, ?_, ?_⟩
          · simp [Instr.mapUpdate, run_underlying hu, MapKept.run_getObj_map g3, hck, f2, MapKept.run_setObj_map _ g3, Result.andThen]
          · rw [f3]; exact assoc_push g4 key val clk
          · rw [f3, List.all_append, g5]
            simp [hkv]
        · refine ⟨es.modify j (fun e => { e with key := mV key, val := mV val }), clk, ?_, ?_, ?_⟩
          · have hkey : ((es[j]?).map (·.key)).getD (mV key) = mV key := by
              have := congrArg (fun q => q[j]?) g4
              simp only [List.getElem?_map, f3, Array.getElem?_toList] at this
              cases hx2 : es[j]? with
              | none => rfl
              | some e0 =>
                rw [hx2] at this
                simp only [Option.map_some, Option.some.injEq, Prod.mk.injEq] at this
                exact this.1
            have hsame := key_stays u3
            simp [Instr.mapUpdate, run_underlying hu, MapKept.run_getObj_map g3, hck, f2, MapKept.run_setObj_map _ g3, Result.andThen, hkey, Instr.keyThatStays, hsame]
          · rw [f4]; exact assoc_set g4 key val j
          · rw [f4, List.all_eq_true]
            intro p hp
            rcases List.mem_or_eq_of_mem_set hp with hp | rfl
            · exact List.all_eq_true.1 g5 p hp
            · exact hkv
      obtain ⟨es', clk', h1, h2, h3⟩ := hup
      have hlt : b < w.heap.size := (h.mb b g2).2
      have hrun : (execOp a.eval o).run F.cx.P w = .ok .skip { w with heap := w.heap.setIfInBounds b (.map es' clk') } := by
        rcases ho with ho | ho <;> simp only [execOp, ho, Sem.run_bind, h1, Result.andThen_ok, Sem.run_pure]
      unfold Oper.wp
      rw [hrun, Oper.upon_skip, hd]
      have hrep := h.repl hF c (B0 := some b) (ob := .mp t' (mput l key val)) (w' := { w with heap := w.heap.setIfInBounds b (.map es' clk') }) (fun b' hb' => by
          cases hb'
          exact ⟨g2, fun k' o' hk' hne hb2 => h.ne k' c _ _ hk' e4 hne b hb2 (by rw [g1]; rfl)⟩) rfl rfl rfl (by show _ ≤ (w.heap.setIfInBounds b _).size; rw [Array.size_setIfInBounds]; exact Nat.le_refl _)
        (fun b' hb' hne => by
          show (w.heap.setIfInBounds b _)[b']? = _
          rw [Array.getElem?_setIfInBounds, if_neg (fun e => hne (by rw [e]))])
        (fun b' hb' => by
          rw [g1] at hb'
          simp only [blkOf, Option.some.injEq] at hb'
          subst hb'
          exact ⟨.inl rfl, by show _ < (w.heap.setIfInBounds b _).size; rw [Array.size_setIfInBounds]; exact hlt⟩)
        ⟨b, es', clk', g1, .inl g2, by show (w.heap.setIfInBounds b _)[b]? = _; rw [Array.getElem?_setIfInBounds, if_pos rfl, if_pos hlt], h2, h3⟩
      exact hK _ _ _ ⟨_, ρ, hrep⟩ hx
    · exact hx.elim
  · exact hx.elim
end
end Go.Avc

namespace Go.Avc
open Go
/-- The first argument, as it lies. -/
def muA (cx : Cx) (σ : St) : List Operand → AV
  | s :: _ => ev0 cx σ s
  | [] => .un
/-- Is it an own row (of type e, z cells each)? -/
def isOwnA (e z : Nat) (σ : St) : AV → Prop
  | .own k => match σ.o k with
    | some (.arr e' z' _) => e' = e ∧ z' = z
    | _ => False
  | _ => False
def gOwn (cx : Cx) (E : Env) (σ : St) (f : FuncId) (args : Array Operand) : Option GO := match E.Ω f with
  | some (sp, e, z) => some ⟨sp.pre (args.toList.map fun x => argA E σ (ev cx σ x)) ∧ (z < 1000000 → sp.fresh = true ∨ (args.toList.any fun x => lent (ev cx σ x)) = false) ∧ (1000000 ≤ z → (args.toList.tail.any fun x => if 2000000 ≤ z then lentX (ev cx σ x) else lent (ev cx σ x)) = false ∧ isOwnA e (if 2000000 ≤ z then z - 2000000 else z - 1000000) σ (muA cx σ args.toList)), sp.post (args.toList.map fun x => argA E σ (ev cx σ x)), sp.cost (args.toList.map fun x => argA E σ (ev cx σ x))⟩
  | none => none
def OwnK (v : Option (Spec × TypeId × Nat)) (x : AV) (k : TypeId → Nat → DV → Prop) : Prop := match v, x with
  | some (_, e, z), .dv x => k e z x
  | _, _ => False
/-- The caller goes on with what was handed over. -/
def owD0 (σ : St) (d : Option Tmp) (e : TypeId) (z : Nat) (x : DV) : St := match d, x with
  | some d, .d (.sl l) => σ.newOb d d (.own d) (.arr e z l)
  | some d, .ag L => match L[z / 1000 - 1]? with
    | some (.sl l) => σ.newOb d d (.ago L (z / 1000 - 1) d) (.arr e (z % 1000) l)
    | _ => σ
  | _, _ => σ
/-- The row that was handed over holds something else now. -/
def muD (σ : St) (d : Option Tmp) (u : AV) (e : TypeId) (z : Nat) (x : DV) : St := match u, x with
  | .own k, .d (.sl l) => { σ with o := upd σ.o k (some (.arr e z l)) }.put d .tnil
  | _, _ => σ
/-- A row stands in the place of the one that was handed over. -/
def coD (σ : St) (d : Option Tmp) (u : AV) (e : TypeId) (z : Nat) (x : DV) : St := match u, x with
  | .own k, .d (.sl l) => (σ.newO k (.arr e z l)).put d (.own k)
  | _, _ => σ
def owD (σ : St) (d : Option Tmp) (u : AV) (e : TypeId) (z : Nat) (x : DV) : St := if 2000000 ≤ z then coD σ d u e (z - 2000000) x else if 1000000 ≤ z then muD σ d u e (z - 1000000) x else owD0 σ d e z x
def exO (cx : Cx) (E : Env) (B : Nat) (σ : St) (f : FuncId) (args : Array Operand) (d : Option Tmp) (K : St → Prop) : Prop := match gOwn cx E σ f args with
  | none => False
  | some g => g.pre ∧ σ.c + g.cost ≤ B ∧ ∀ r, g.post r → OwnK (E.Ω f) r fun e z x => K (owD { σ with c := σ.c + g.cost } d (muA cx σ args.toList) e z x)
def exS (cx : Cx) (E : Env) (B : Nat) (σ : St) (o : Oper) (K : St → Prop) : Prop := match o.op with
  | .box T x => exBox cx σ T x o.dst K
  | .alloc T => if T = bT then SK (sAllocB σ o.dst) K else exAlloc cx σ T o.dst K
  | .makeSlice t n m => exMake cx σ t n m o.dst K
  | .makeMap t none => SK (sMM cx σ t o.dst) K
  | .mapUpdate t m k x => SK (sMU cx σ t m k x o.dst) K
  | .insert t m k x => SK (sMU cx σ t m k x o.dst) K
  | .store t p x => exStore cx σ t p x o.dst K
  | .call c => match c.callee with
    | .value (.func f) => if bF f = true then SK (sBld cx σ f c.args.toList o.dst) K else exO cx E B σ f c.args o.dst K
    | .builtin .append => (match c.args.toList, c.argTypes.toList with
      | [s, x], [t, u] => (match cx.P.underlying u with
        | some .string => exAppS cx σ t s x o.dst K
        | _ => exAppend cx σ t u s x o.dst K)
      | _, _ => False)
    | _ => False
  | _ => False
section
variable {F : Fr} {M : Nat → Prop} {ρ : Nat → Value} {σ : St} {a : Act} {w w' : World} {E : Env}

theorem gr_split {g : Option Nat} (hg : Gr g w w') (hlt : ∀ b, g = some b → b < w.heap.size) : ∃ w1, Gr none w w1 ∧ Gr g w1 w' ∧ w1.heap.size = w'.heap.size ∧ ∀ b, w.heap.size ≤ b → w1.heap[b]? = w'.heap[b]? := by
  cases g with
  | none => exact ⟨w', hg, Gr.refl _ _, rfl, fun _ _ => rfl⟩
  | some g =>
    have hb := hlt g rfl
    refine ⟨{ w' with heap := w'.heap.setIfInBounds g w.heap[g] }, ⟨hg.os, hg.tape, hg.output, ?_, fun b hb' _ => ?_⟩, ⟨rfl, rfl, rfl, ?_, fun b hb' hn => ?_⟩, Array.size_setIfInBounds .., fun b hb' => ?_⟩
    · show _ ≤ (w'.heap.setIfInBounds g _).size
      rw [Array.size_setIfInBounds]; exact hg.size
    · show (w'.heap.setIfInBounds g _)[b]? = _
      rw [Array.getElem?_setIfInBounds]
      by_cases e : g = b
      · subst e
        rw [if_pos rfl, if_pos (Nat.lt_of_lt_of_le hb hg.size), Array.getElem?_eq_getElem hb]
      · rw [if_neg e]; exact hg.block b hb' (fun e2 => e (Option.some.inj e2))
    · show (w'.heap.setIfInBounds g _).size ≤ _
      rw [Array.size_setIfInBounds]; exact Nat.le_refl _
    · show _ = (w'.heap.setIfInBounds g _)[b]?
      rw [Array.getElem?_setIfInBounds, if_neg (fun e => hn (by rw [e]))]
    · show (w'.heap.setIfInBounds g _)[b]? = _
      rw [Array.getElem?_setIfInBounds, if_neg (by omega)]

/-- What an answer may read is none of the caller's own memory. -/
theorem res_okM (hF : F.Wf) (h : Rel1 F M ρ σ a w) {fr : Bool} {v : Value} {N B : Nat} (hbl : ∀ b, blkOf v = some b ↔ v.ownBlock = some b) {b : Nat} (hb : resOk ⟨F.cx, w, okC F M w fr, N, B, 0, w, fun _ => False⟩ fr b ∧ v.ownBlock ≠ some b) : okM F (fun b => M b ∨ blkOf v = some b) b := by
  obtain ⟨hb, hv⟩ := hb
  rcases hb with ⟨h1, h2⟩ | h2
  · have h2 : okC F M w fr b := h2
    exact ⟨h2.1.1, fun e => e.elim (h2.1.2 h1) (fun e => hv ((hbl b).1 e))⟩
  · have h2 : w.heap.size ≤ b := h2
    exact ⟨.inr (Nat.le_trans h.gr.size h2), fun e => e.elim (fun e => by have := (h.mb b e).2; omega) (fun e => hv ((hbl b).1 e))⟩
theorem res_same {w1 : World} {fr : Bool} {N B : Nat} (g1 : Gr none w w1) (hg : Gr F.cx.g w w') (g4 : ∀ b, w.heap.size ≤ b → w1.heap[b]? = w'.heap[b]?) {b : Nat} (hb : resOk ⟨F.cx, w, okC F M w fr, N, B, 0, w, fun _ => False⟩ fr b) : w1.heap[b]? = w'.heap[b]? := by
  rcases hb with ⟨_, h2⟩ | h2
  · have h2 : okC F M w fr b := h2
    rw [g1.block b h2.2.1 (by simp), hg.block b h2.2.1 h2.2.2]
  · exact g4 b h2

theorem exM_sound (hE : EnvOk F.cx E) (hF : F.Wf) (h : Rel1 F M ρ σ a w) {o : Oper} {f : FuncId} {args : Array Operand} {ts : Array TypeId} (ho : o.op = .call { callee := .value (.func f), args := args, argTypes := ts }) (hn : ∀ d, o.dst = some d → d < F.n) {sp : Spec} {e : TypeId} {z : Nat} (hen : Enters F.cx.P f) (hcm : CtrM F.cx f sp e z)
    (hpre : sp.pre (args.toList.map fun x => argA E σ (ev F.cx σ x))) (hnl : (args.toList.tail.any fun x => lent (ev F.cx σ x)) = false) (hown : isOwnA e z σ (muA F.cx σ args.toList)) {K : St → Prop}
    (hB : σ.c + sp.cost (args.toList.map fun x => argA E σ (ev F.cx σ x)) ≤ F.B) (hpost : ∀ l', sp.post (args.toList.map fun x => argA E σ (ev F.cx σ x)) (.sl l') → K (muD { σ with c := σ.c + sp.cost (args.toList.map fun x => argA E σ (ev F.cx σ x)) } o.dst (muA F.cx σ args.toList) e z (.d (.sl l'))))
    {K' : Act → World → Prop} {Q : Exit → Act → World → Prop} (hK : ∀ σ' a' w', Rel F σ' a' w' → K σ' → K' a' w') : Oper.wp F.cx.P o a w K' Q := by
  cases hl : args.toList with
  | nil => rw [hl] at hown; exact hown.elim
  | cons s r =>
    rw [hl] at hpre hnl hown hpost
    cases hs : ev0 F.cx σ s with
    | own k =>
      simp only [muA, hs] at hown hpost
      have hown : match σ.o k with
        | some (.arr e' z' _) => e' = e ∧ z' = z
        | _ => False := hown
      cases hk : σ.o k with
      | none => rw [hk] at hown; exact False.elim hown
      | some ob =>
        rw [hk] at hown
        cases ob with
        | box T cs => exact False.elim hown
        | bld T k' => exact False.elim hown
        | mp T l => exact False.elim hown
        | arr e' z' l =>
          obtain ⟨rfl, rfl⟩ := (show e' = e ∧ z' = z from hown)
          have hev : ev F.cx σ s = .own k := by unfold ev; rw [hs]; rfl
          have hvs : a.eval s = ρ k := by
            have := ev_rel hF h s
            rw [hev] at this
            exact this
          have ha0 : argA E σ (ev F.cx σ s) = .sl l := by rw [hev]; simp only [argA, toD, hk]
          rw [List.map_cons, ha0] at hpre hpost
          obtain ⟨xs, hrow, hbM, hz, hR⟩ := h.ob k _ hk
          have hbl := own_blk hrow
          let as : List AV := r.map fun x => argA E σ (ev F.cx σ x)
          let F' : Fr := ⟨F.cx, w, okC F M w false, F.N + σ.c, 0, 0, w, fun _ => False⟩
          have hF' : F'.Wf := ⟨fun b hb => hb.2, fun b hb => okC_of hF ⟨.inl (hF.gl b hb), fun hM => by have := (h.mb b hM).1; have := (hF.ok b (hF.gl b hb)).1; omega⟩ (by have := (hF.ok b (hF.gl b hb)).1; have := h.gr.size; omega),
            fun b hb => h.st.lt hb, by show F.N + σ.c + 0 ≤ _; have := hF.nb; have := hB; omega⟩
          have hcall := hcm F' F.w0.heap.size l xs (ρ k) as (r.map a.eval) rfl hF' h.st h.gl (by simp [as]) (fun i x u hx hu => by
            rw [List.getElem?_map, Option.map_eq_some_iff] at hx
            obtain ⟨y, hy, rfl⟩ := hx
            rw [List.getElem?_map, hy] at hu
            cases hu
            exact argA_rel hE hF h (ev_rel hF h y) (fun hl' => absurd (List.any_eq_true.2 ⟨y, List.mem_of_getElem? hy, hl'⟩) (by rw [show r = (s :: r).tail from rfl, hnl]; decide))) h.gr.size hrow
            (fun b hb => ⟨fun hc => hc.1.2 rfl (hbM b hb), M_ne hF (h.mb b (hbM b hb)).1⟩) hz (hR.mono (Nat.le_refl _) (fun b hb hlt => okC_of hF hb hlt) (fun _ _ _ => rfl)) hpre
          have hrun : (execOp a.eval o).run F.cx.P w = .ok (.enter f (args.map a.eval)) w := by
            simp only [execOp, ho, resolve, Deferred.ofValue, Act.eval, Sem.run_bind, Sem.run_pure, Result.andThen_ok, invoke, callFunc_run hen]
            simp
          unfold Oper.wp
          rw [hrun]
          show Calls _ _ _ _ _
          have hargs : args.map a.eval = (ρ k :: r.map a.eval).toArray := by
            apply Array.ext'
            rw [Array.toList_map, hl, List.map_cons, hvs]
          rw [hargs]
          refine hcall.mono fun e' w' ⟨l', xs', he, hpo, ⟨e1, e2, e3, e4, e5⟩, hrow', hz', hR'⟩ => ?_
          subst he
          have hk' := hpost l' hpo
          have hrep := h.repl hF k (B0 := (ρ k).ownBlock) (ob := .arr e' z' l') (w' := w') (fun b hb => ⟨hbM b hb, fun k' o' hk' hne hb' => h.ne k' k _ _ hk' hk hne b hb' ((hbl b).2 hb)⟩) e1 e2 e3 e4 (fun b hb hne => e5 b hb hne)
            (fun b hb => ⟨.inl ((hbl b).1 hb), Nat.lt_of_lt_of_le (h.mb b (hbM b ((hbl b).1 hb))).2 e4⟩)
            ⟨xs', hrow', fun b hb => .inl (hbM b hb), hz', hR'.mono (Nat.le_refl _) (fun b hb _ => ⟨hb.1.1, fun hM => hM.elim (fun hM => hb.1.2 rfl hM) (fun e => hb.1.2 rfl (hbM b ((hbl b).1 e)))⟩) (fun _ _ _ => rfl)⟩
          have hst : StAt F.cx (F.N + (σ.c + sp.cost (.sl l :: as))) w' := hrep.st.le (by show F.N + σ.c ≤ _; omega)
          have hg2 := hrep.grow (k := sp.cost (.sl l :: as)) hF (Gr.refl F.cx.g w') hst
          exact hK _ _ _ ⟨_, ρ, hg2.put (dst := o.dst) (r := .tnil) hn rfl⟩ hk'
    | _ => simp only [muA, hs] at hown; exact False.elim hown

theorem clo_callableX (hE : EnvOk F.cx E) (hF : F.Wf) (h : Rel1 F M ρ σ a w) {B : Option Nat} (hBM : ∀ b, B = some b → M b) {f : FuncId} {ks : List Nat} {φ : List (List D) → FSpec} {caps : List (List D)} (hφ : E.Φ f = some φ) (hc : capsD σ ks = some caps) (hks : ∀ k ∈ ks, ∀ b, ρ k = .pointer (some ⟨b, 0, none⟩) → B ≠ some b) :
    CallableX F.cx w B (φ caps) (.func (.func f) #[] (ks.map ρ).toArray) := by
  obtain ⟨hen, _, hct⟩ := hE.cl f φ caps hφ
  obtain ⟨hlen, hcap⟩ := caps_dp hF h hc
  refine ⟨f, _, rfl, hen, fun w' N ok as vals hg hst hgl hN hok hng hal hrel hpre => ?_⟩
  obtain ⟨hgs, _, _, _, hgb⟩ := hg
  let F' : Fr := ⟨F.cx, w', fun b => b < w'.heap.size ∧ F.cx.g ≠ some b, N, 0, 0, w', fun _ => False⟩
  have hF' : F'.Wf := ⟨fun b hb => hb, fun b hb => hok b (hng b hb), fun b hb => hst.lt hb, by show N + 0 ≤ _; omega⟩
  have hcall := hct F' (as.map .dv ++ caps.map .dp) (vals ++ ks.map ρ) rfl hF' hst hgl (Nat.zero_le _) (by simp [hal, hlen]) (fun i x u hx hu => ?_) ⟨as, rfl, hpre⟩
  · rw [show (vals ++ ks.map ρ).toArray = vals.toArray ++ (ks.map ρ).toArray by simp] at hcall
    refine hcall.mono fun e w'' ⟨v, r, he, hg2, hst2, ⟨xs, y, hxs, hr, hpost⟩, _, hv⟩ => ?_
    have hxy : xs = as := by
      have h1 := congrArg (fun l : List AV => l.take as.length) hxs
      have h2 : xs.length = as.length := by
        have := congrArg List.length hxs
        simp at this
        omega
      simp only [List.take_append_of_le_length (show as.length ≤ (as.map AV.dv).length by simp)] at h1
      rw [List.take_append_of_le_length (by simp [h2])] at h1
      rw [List.take_of_length_le (by simp), List.take_of_length_le (by simp [h2])] at h1
      have h3 : ∀ (p q : List DV), p.map AV.dv = q.map AV.dv → q = p := by
        intro p
        induction p with
        | nil => intro q hq; cases q with
          | nil => rfl
          | cons y r => cases hq
        | cons x r ih => intro q hq; cases q with
          | nil => cases hq
          | cons y r' =>
            simp only [List.map_cons, List.cons.injEq, AV.dv.injEq] at hq
            rw [hq.1, ih r' hq.2]
      exact h3 _ _ h1
    subst hxy
    subst hr
    refine ⟨v, y, he, hpost, RdV.mono hv (Nat.le_refl _) (fun b hb _ => ?_) (fun _ _ _ => rfl), hg2, hst2⟩
    rcases hb with ⟨hb, _⟩ | hb
    · cases hb
    · exact .inr hb
  · by_cases hi : i < as.length
    · rw [List.getElem?_append_left (by simpa using hi), List.getElem?_map, Option.map_eq_some_iff] at hx
      rw [List.getElem?_append_left (by omega)] at hu
      obtain ⟨y, hy, rfl⟩ := hx
      exact RdV.mono (hrel i y u hy hu) (Nat.le_refl _) (fun b hb _ => hok b hb) (fun _ _ _ => rfl)
    · rw [List.getElem?_append_right (by simpa using hi), List.getElem?_map, Option.map_eq_some_iff] at hx
      rw [List.getElem?_append_right (by omega), List.getElem?_map, Option.map_eq_some_iff] at hu
      obtain ⟨l, hl, rfl⟩ := hx
      obtain ⟨k, hk, rfl⟩ := hu
      rw [List.length_map, hal] at hl
      obtain ⟨b, cs, h1, h2, h3, h4, h5⟩ := hcap _ k l hk hl
      have hgne : F.cx.g ≠ some b := M_ne hF (h.mb b h2).1
      have hlt : b < w'.heap.size := by omega
      have hbB : B ≠ some b := hks k (List.mem_of_getElem? hk) b h1
      exact ⟨b, 0, cs, h1, ⟨hlt, hgne⟩, hlt, fun j u hj => (cell_congr (a := ⟨b, 0 + j, none⟩) (hgb b h3 hgne hbB)).trans (h4 j u hj),
        h5.mono hgs (fun b hb hlt => ⟨by omega, okM_ne hF hb⟩) (fun b hb hlt => hgb b hlt (okM_ne hF hb) (fun e => hb.2 (hBM b e)))⟩
/-- The variables that a closure holds are other objects than a row. -/
theorem caps_box (h : Rel1 F M ρ σ a w) {k0 : Nat} {e : TypeId} {z : Nat} {l0 : List (List D)} (hk0 : σ.o k0 = some (.arr e z l0)) (hbl : ∀ b, blkOf (ρ k0) = some b ↔ (ρ k0).ownBlock = some b) : ∀ {ks : List Nat} {caps : List (List D)}, capsD σ ks = some caps → ∀ k ∈ ks, ∀ b, ρ k = .pointer (some ⟨b, 0, none⟩) → (ρ k0).ownBlock ≠ some b
  | [], caps, hc => fun k hk => by cases hk
  | k1 :: r, caps, hc => by
    unfold capsD at hc
    split at hc
    · rename_i l m e1 e2
      intro k hk b hb
      rcases List.mem_cons.1 hk with rfl | hk
      · unfold boxD at e1
        split at e1
        · rename_i T cs hcs
          intro e3
          have hne : k ≠ k0 := fun e => by rw [e, hk0] at hcs; cases hcs
          exact h.ne k k0 _ _ hcs hk0 hne b (by rw [hb]; rfl) ((hbl b).2 e3)
        · cases e1
      · exact caps_box h hk0 hbl e2 k hk b hb
    · cases hc
theorem argX_rel (hE : EnvOk F.cx E) (hF : F.Wf) (h : Rel1 F M ρ σ a w) {k0 : Nat} {e : TypeId} {z : Nat} {l0 : List (List D)} (hk0 : σ.o k0 = some (.arr e z l0)) (hbM : ∀ b, (ρ k0).ownBlock = some b → M b) (hbl : ∀ b, blkOf (ρ k0) = some b ↔ (ρ k0).ownBlock = some b) {x : AV} {v : Value} (hx : relA F.cx F.w0 (okM F M) ρ w x v) (hl : lentX x = false) :
    relX F.cx w (ρ k0).ownBlock (okC F M w false) (argA E σ x) v := by
  by_cases hl2 : lent x = true
  · cases x with
    | own k => cases hl
    | ptr k o => cases hl
    | fn f ks =>
      cases ks with
      | nil => cases hl2
      | cons k ks =>
        simp only [argA]
        split
        · rename_i φ caps hφ hc
          have := clo_callableX hE hF h hbM hφ hc (caps_box h hk0 hbl hc)
          rw [show v = _ from hx]
          exact this
        · exact trivial
    | _ => cases hl2
  · have h0 := argA_rel hE hF h hx (l := false) (fun e => absurd e hl2)
    cases x with
    | fv sp =>
      obtain ⟨f, caps, hv, hen, hc⟩ := (show Callable F.cx F.w0 sp v from hx)
      exact ⟨f, caps, hv, hen, fun w' N ok as vals hg => hc w' N ok as vals ⟨hg.2.1.trans h.gr.os, hg.2.2.1.trans h.gr.tape, hg.2.2.2.1.trans h.gr.output, Nat.le_trans h.gr.size hg.1, fun b hb hgb => (hg.2.2.2.2 b (Nat.lt_of_lt_of_le hb h.gr.size) hgb (fun e => by have := (h.mb b (hbM b e)).1; omega)).trans (h.gr.block b hb hgb)⟩⟩
    | fn f ks =>
      cases ks with
      | cons k ks => exact absurd rfl hl2
      | nil =>
        simp only [argA] at h0 ⊢
        split
        · rename_i φ hφ
          have := clo_callableX (ks := []) hE hF h hbM hφ rfl (fun k hk => by cases hk)
          rw [show v = _ from hx]
          exact this
        · exact hx
    | own k => exact absurd rfl hl2
    | ptr k o => exact absurd rfl hl2
    | _ => exact h0
theorem exC_sound (hE : EnvOk F.cx E) (hF : F.Wf) (h : Rel1 F M ρ σ a w) {o : Oper} {f : FuncId} {args : Array Operand} {ts : Array TypeId} (ho : o.op = .call { callee := .value (.func f), args := args, argTypes := ts }) (hn : ∀ d, o.dst = some d → d < F.n) {sp : Spec} {e : TypeId} {z : Nat} (hen : Enters F.cx.P f) (hcm : CtrC F.cx f sp e z)
    (hpre : sp.pre (args.toList.map fun x => argA E σ (ev F.cx σ x))) (hnl : (args.toList.tail.any fun x => lentX (ev F.cx σ x)) = false) (hown : isOwnA e z σ (muA F.cx σ args.toList)) {K : St → Prop}
    (hB : σ.c + sp.cost (args.toList.map fun x => argA E σ (ev F.cx σ x)) ≤ F.B) (hpost : ∀ l', sp.post (args.toList.map fun x => argA E σ (ev F.cx σ x)) (.sl l') → K (coD { σ with c := σ.c + sp.cost (args.toList.map fun x => argA E σ (ev F.cx σ x)) } o.dst (muA F.cx σ args.toList) e z (.d (.sl l'))))
    {K' : Act → World → Prop} {Q : Exit → Act → World → Prop} (hK : ∀ σ' a' w', Rel F σ' a' w' → K σ' → K' a' w') : Oper.wp F.cx.P o a w K' Q := by
  cases hl : args.toList with
  | nil => rw [hl] at hown; exact hown.elim
  | cons s r =>
    rw [hl] at hpre hnl hown hpost
    cases hs : ev0 F.cx σ s with
    | own k =>
      simp only [muA, hs] at hown hpost
      have hown : match σ.o k with
        | some (.arr e' z' _) => e' = e ∧ z' = z
        | _ => False := hown
      cases hk : σ.o k with
      | none => rw [hk] at hown; exact False.elim hown
      | some ob =>
        rw [hk] at hown
        cases ob with
        | box T cs => exact False.elim hown
        | bld T k' => exact False.elim hown
        | mp T l => exact False.elim hown
        | arr e' z' l =>
          obtain ⟨rfl, rfl⟩ := (show e' = e ∧ z' = z from hown)
          have hev : ev F.cx σ s = .own k := by unfold ev; rw [hs]; rfl
          have hvs : a.eval s = ρ k := by
            have := ev_rel hF h s
            rw [hev] at this
            exact this
          have ha0 : argA E σ (ev F.cx σ s) = .sl l := by rw [hev]; simp only [argA, toD, hk]
          rw [List.map_cons, ha0] at hpre hpost
          obtain ⟨xs, hrow, hbM, hz, hR⟩ := h.ob k _ hk
          have hbl := own_blk hrow
          let as : List AV := r.map fun x => argA E σ (ev F.cx σ x)
          let F' : Fr := ⟨F.cx, w, okC F M w false, F.N + σ.c, 0, 0, w, fun _ => False⟩
          have hF' : F'.Wf := ⟨fun b hb => hb.2, fun b hb => okC_of hF ⟨.inl (hF.gl b hb), fun hM => by have := (h.mb b hM).1; have := (hF.ok b (hF.gl b hb)).1; omega⟩ (by have := (hF.ok b (hF.gl b hb)).1; have := h.gr.size; omega),
            fun b hb => h.st.lt hb, by show F.N + σ.c + 0 ≤ _; have := hF.nb; have := hB; omega⟩
          have hcall := hcm F' F.w0.heap.size l xs (ρ k) as (r.map a.eval) rfl hF' h.st h.gl (by simp [as]) (fun i x u hx hu => by
            rw [List.getElem?_map, Option.map_eq_some_iff] at hx
            obtain ⟨y, hy, rfl⟩ := hx
            rw [List.getElem?_map, hy] at hu
            cases hu
            exact argX_rel hE hF h hk hbM hbl (ev_rel hF h y) (Bool.eq_false_iff.2 fun hl' => absurd (List.any_eq_true.2 ⟨y, List.mem_of_getElem? hy, hl'⟩) (by rw [show r = (s :: r).tail from rfl, hnl]; decide))) h.gr.size (fun b hb => hF.g b hb) hrow
            (fun b hb => ⟨fun hc => hc.1.2 rfl (hbM b hb), M_ne hF (h.mb b (hbM b hb)).1⟩) hz (hR.mono (Nat.le_refl _) (fun b hb hlt => okC_of hF hb hlt) (fun _ _ _ => rfl)) hpre
          have hrun : (execOp a.eval o).run F.cx.P w = .ok (.enter f (args.map a.eval)) w := by
            simp only [execOp, ho, resolve, Deferred.ofValue, Act.eval, Sem.run_bind, Sem.run_pure, Result.andThen_ok, invoke, callFunc_run hen]
            simp
          unfold Oper.wp
          rw [hrun]
          show Calls _ _ _ _ _
          have hargs : args.map a.eval = (ρ k :: r.map a.eval).toArray := by
            apply Array.ext'
            rw [Array.toList_map, hl, List.map_cons, hvs]
          rw [hargs]
          refine hcall.mono fun e'' w' ⟨v', l', xs', he, hpo, ⟨e4, e1, e2, e3, e5⟩, hstw, hat, hrow', hz', hR'⟩ => ?_
          subst he
          have hk' := hpost l' hpo
          -- the same world with the stream as it was
          obtain ⟨w1, s1, s2, s3, s4, s5, s6, s7⟩ : ∃ w1 : World, w1.heap.size = w'.heap.size ∧ w1.os = w'.os ∧ w1.tape = w'.tape ∧ w1.output = w'.output ∧ (∀ b, F.cx.g ≠ some b → w1.heap[b]? = w'.heap[b]?) ∧ (∀ b, F.cx.g = some b → w1.heap[b]? = w.heap[b]?) ∧ Gr F.cx.g w1 w' := by
            cases hg : F.cx.g with
            | none => exact ⟨w', rfl, rfl, rfl, rfl, fun _ _ => rfl, fun b hb => absurd hb (by simp), Gr.refl _ _⟩
            | some g =>
              have hglt := h.st.lt hg
              refine ⟨{ w' with heap := w'.heap.setIfInBounds g w.heap[g] }, Array.size_setIfInBounds .., rfl, rfl, rfl, fun b hb => ?_, fun b hb => ?_, rfl, rfl, rfl, ?_, fun b hb hn => ?_⟩
              · show (w'.heap.setIfInBounds g _)[b]? = _
                rw [Array.getElem?_setIfInBounds, if_neg (fun e => hb (by rw [e]))]
              · cases hb
                show (w'.heap.setIfInBounds g _)[g]? = _
                rw [Array.getElem?_setIfInBounds, if_pos rfl, if_pos (Nat.lt_of_lt_of_le hglt e4), Array.getElem?_eq_getElem hglt]
              · show (w'.heap.setIfInBounds g _).size ≤ _
                rw [Array.size_setIfInBounds]; exact Nat.le_refl _
              · show _ = (w'.heap.setIfInBounds g _)[b]?
                rw [Array.getElem?_setIfInBounds, if_neg (fun e => hn (by rw [e]))]
          have hbk : ∀ b, blkOf v' = some b ↔ v'.ownBlock = some b := own_blk hrow'
          have h1 : Rel1 F M (upd ρ k v') (σ.del k) a w := h.del fun j hj => by rw [upd_apply, if_neg hj]
          have hkv : upd ρ k v' k = v' := by rw [upd_apply, if_pos rfl]
          have hin : ∀ b, v'.ownBlock = some b → (ρ k).ownBlock = some b ∨ w.heap.size ≤ b := fun b hb => by
            rcases hat with e | e | ⟨k2, e, hk2⟩
            · rw [e] at hb; cases hb
            · exact .inl (e ▸ hb)
            · rw [e] at hb; cases hb; exact .inr hk2
          have hgne : ∀ b, v'.ownBlock = some b → F.cx.g ≠ some b := fun b hb => M_ne hF (hrow'.lt b hb).1
          have hrow1 : w1.ownsRow F.w0.heap.size e' z' v' l'.length xs' := by
            refine ⟨hrow'.1, hrow'.2.imp id ?_⟩
            rintro ⟨g, cap, cur, q1, q2, q3, q4⟩
            exact ⟨g, cap, cur, q1, q2, (s5 g (hgne g (by rw [q1]; rfl))).trans q3, q4⟩
          have hrep := h1.repl hF k (B0 := (ρ k).ownBlock) (ob := .arr e' z' l') (w' := w1) (fun b hb => ⟨hbM b hb, fun k' o' hk' hne => by
              simp only [St.del, if_neg hne, Option.map_eq_some_iff] at hk'
              obtain ⟨o'', ho'', _⟩ := hk'
              rw [upd_apply, if_neg hne]
              exact fun hb' => h.ne k' k _ _ ho'' hk hne b hb' ((hbl b).2 hb)⟩) (s2.trans e1) (s3.trans e2) (s4.trans e3) (by rw [s1]; exact e4) (fun b hb hne => by
              by_cases hg : F.cx.g = some b
              · exact s6 b hg
              · exact (s5 b hg).trans (e5 b hb hg hne))
            (fun b hb => by
              rw [hkv] at hb
              have hb' := (hbk b).1 hb
              exact ⟨hin b hb', by rw [s1]; exact (hrow'.lt b hb').2⟩)
            (by
              rw [hkv]
              refine ⟨xs', hrow1, fun b hb => .inr ((hbk b).2 hb), hz', hR'.mono (Nat.le_of_eq s1.symm) (fun b hb _ => ⟨hb.1.1, fun hM => hM.elim (fun hM => hb.1.2 rfl hM) (fun e => ?_)⟩) (fun b hb _ => s5 b hb.2.2)⟩
              rcases hin b ((hbk b).1 e) with e6 | e6
              · exact hb.1.2 rfl (hbM b e6)
              · have := hb.2.1; omega)
          have hst : StAt F.cx (F.N + (σ.c + sp.cost (.sl l :: as))) w' := hstw.le (by show F.N + σ.c ≤ _; omega)
          have hg2 := hrep.grow (k := sp.cost (.sl l :: as)) hF s7 hst
          refine hK _ _ _ ⟨_, _, hg2.put (dst := o.dst) (r := .own k) (v := v') hn hkv.symm⟩ ?_
          exact hk'
    | _ => simp only [muA, hs] at hown; exact False.elim hown
theorem exO_sound (hE : EnvOk F.cx E) (hF : F.Wf) (h : Rel1 F M ρ σ a w) {o : Oper} {f : FuncId} {args : Array Operand} {ts : Array TypeId} (ho : o.op = .call { callee := .value (.func f), args := args, argTypes := ts }) (hn : ∀ d, o.dst = some d → d < F.n) {K : St → Prop}
    (hx : exO F.cx E F.B σ f args o.dst K) {K' : Act → World → Prop} {Q : Exit → Act → World → Prop} (hK : ∀ σ' a' w', Rel F σ' a' w' → K σ' → K' a' w') : Oper.wp F.cx.P o a w K' Q := by
  unfold exO at hx
  split at hx
  · exact hx.elim
  · rename_i g hg
    unfold gOwn at hg
    split at hg
    · rename_i sp e z hΩ
      simp only [Option.some.injEq] at hg
      subst hg
      obtain ⟨⟨hpre, hnl, hmu⟩, hB, hpost⟩ := hx
      obtain ⟨hen, hct, hcm⟩ := hE.ow f sp e z hΩ
      by_cases hzc : 2000000 ≤ z
      · refine exC_sound hE hF h ho hn hen ((hcm (by omega)).2 hzc) hpre (by have := (hmu (by omega)).1; simpa only [if_pos hzc] using this) (by have := (hmu (by omega)).2; rwa [if_pos hzc] at this) hB (fun l' hl' => ?_) hK
        have hk := hpost _ hl'
        rw [hΩ] at hk
        have hk : K (owD _ _ _ _ _ _) := hk
        rwa [show ∀ σ d u x, owD σ d u e z x = coD σ d u e (z - 2000000) x from fun σ d u x => if_pos hzc] at hk
      by_cases hzm : 1000000 ≤ z
      · refine exM_sound hE hF h ho hn hen ((hcm hzm).1 (by omega)) hpre (by have := (hmu hzm).1; simpa only [if_neg hzc] using this) (by have := (hmu hzm).2; rwa [if_neg hzc] at this) hB (fun l' hl' => ?_) hK
        have hk := hpost _ hl'
        rw [hΩ] at hk
        have hk : K (owD _ _ _ _ _ _) := hk
        rwa [show ∀ σ d u x, owD σ d u e z x = muD σ d u e (z - 1000000) x from fun σ d u x => (if_neg hzc).trans (if_pos hzm)] at hk
      have hnl := hnl (by omega)
      have hct := hct (by omega)
      have how : ∀ σ d u x, owD σ d u e z x = owD0 σ d e z x := fun σ d u x => (if_neg hzc).trans (if_neg hzm)
      let as : List AV := args.toList.map fun x => argA E σ (ev F.cx σ x)
      have hargs : ∀ (i : Nat) (x : Operand), args.toList[i]? = some x → (args.map a.eval).toList[i]? = some (a.eval x) := fun i x hx => by simp [hx]
      let F' : Fr := ⟨F.cx, w, okC F M w sp.fresh, F.N + σ.c, sp.cost as, 0, w, fun _ => False⟩
      have hF' : F'.Wf := ⟨fun b hb => hb.2, fun b hb => okC_of hF ⟨.inl (hF.gl b hb), fun hM => by have := (h.mb b hM).1; have := (hF.ok b (hF.gl b hb)).1; omega⟩ (by have := (hF.ok b (hF.gl b hb)).1; have := h.gr.size; omega),
        fun b hb => h.st.lt hb, by show F.N + σ.c + sp.cost as ≤ _; have := hF.nb; have : σ.c + sp.cost as ≤ F.B := hB; omega⟩
      have hcall := hct F' as (args.map a.eval).toList rfl hF' h.st h.gl (Nat.le_refl _) (by simp [as]) (fun i x u hx hu => by
        rw [List.getElem?_map, Option.map_eq_some_iff] at hx
        obtain ⟨y, hy, rfl⟩ := hx
        rw [hargs i y hy] at hu
        cases hu
        exact argA_rel hE hF h (ev_rel hF h y) (fun hl => hnl.resolve_right (fun hn => absurd (List.any_eq_true.2 ⟨y, List.mem_of_getElem? hy, hl⟩) (by rw [hn]; decide)))) hpre
      have hrun : (execOp a.eval o).run F.cx.P w = .ok (.enter f (args.map a.eval)) w := by
        simp only [execOp, ho, resolve, Deferred.ofValue, Act.eval, Sem.run_bind, Sem.run_pure, Result.andThen_ok, invoke, callFunc_run hen]
        simp
      unfold Oper.wp
      rw [hrun]
      show Calls _ _ _ _ _
      rw [Array.toArray_toList] at hcall
      refine hcall.mono fun e' w' ⟨v, r, he, hg2, hst2, hpo, hands⟩ => ?_
      subst he
      have hk := hpost _ hpo
      rw [hΩ] at hk
      have hst3 : StAt F.cx (F.N + (σ.c + sp.cost as)) w' := by rw [← Nat.add_assoc]; exact hst2
      rcases hands with ⟨l, xs, hz0, rfl, hown, hz, hrd⟩ | ⟨cs, u, L, l, xs, hz0, rfl, rfl, hLc, hLj, hcj, hown, hz, hrd, hot⟩
      · have hk : K (owD { σ with c := σ.c + sp.cost as } o.dst (muA F.cx σ args.toList) e z (.d (.sl l))) := hk
        rw [how] at hk
        refine hK _ _ _ ?_ hk
        cases hd : o.dst with
        | none => exact ⟨M, ρ, h.grow hF hg2 hst3⟩
        | some d =>
          obtain ⟨w1, g1, g2, g3, g4⟩ := gr_split hg2 (fun b hb => h.st.lt hb)
          have hbl := own_blk hown
          obtain ⟨M', ρ', h2⟩ := h.fresh hF (d := d) (dst := d) (hn d hd) (v := v) (ob := .arr e z l) (r := .own d) g1 (fun b hb => by
              have := hown.lt b ((hbl b).1 hb)
              rw [g3]; exact this) (fun _ => by
              refine ⟨xs, ⟨hown.1, ?_⟩, fun b hb => .inr ((hbl b).2 hb), hz, hrd.mono (Nat.le_of_eq g3.symm) (fun b hb _ => res_okM hF h hbl hb) (fun b hb _ => res_same g1 hg2 g4 hb.1)⟩
              rcases hown.2 with h1 | ⟨g, cap, cur, h1, h2, h3, h4⟩
              · exact .inl h1
              · exact .inr ⟨g, cap, cur, h1, Nat.le_trans h.gr.size h2, (g4 g h2).trans h3, h4⟩) (.inl rfl)
          exact ⟨M', ρ', h2.grow hF g2 (k := sp.cost as) hst3⟩
      · have hk : K (owD { σ with c := σ.c + sp.cost as } o.dst (muA F.cx σ args.toList) e z (.ag L)) := hk
        rw [how] at hk
        refine hK _ _ _ ?_ hk
        cases hd : o.dst with
        | none => exact ⟨M, ρ, h.grow hF hg2 hst3⟩
        | some d =>
          have e0 : owD0 { σ with c := σ.c + sp.cost as } (some d) e z (.ag L) = { σ with c := σ.c + sp.cost as }.newOb d d (.ago L (z / 1000 - 1) d) (.arr e (z % 1000) l) := by
            unfold owD0
            simp only [hLj]
          rw [e0]
          obtain ⟨w1, g1, g2, g3, g4⟩ := gr_split hg2 (fun b hb => h.st.lt hb)
          have hbl := own_blk hown
          obtain ⟨M', ρ', h2⟩ := h.freshZ hF (d := d) (dst := d) (hn d hd) (v := u) (y := .agg cs.toArray) (ob := .arr e (z % 1000) l) (r := .ago L (z / 1000 - 1) d) g1 (fun b hb => by
              have := hown.lt b ((hbl b).1 hb)
              rw [g3]; exact this) (fun _ => by
              refine ⟨xs, ⟨hown.1, ?_⟩, fun b hb => .inr ((hbl b).2 hb), hz, hrd.mono (Nat.le_of_eq g3.symm) (fun b hb _ => hb.elim) (fun b hb _ => hb.elim)⟩
              rcases hown.2 with h1 | ⟨g, cap, cur, h1, h2, h3, h4⟩
              · exact .inl h1
              · exact .inr ⟨g, cap, cur, h1, Nat.le_trans h.gr.size h2, (g4 g h2).trans h3, h4⟩) (fun ρ2 M2 hρ2 => ⟨cs, rfl, hLc, fun y hy => by rw [hcj] at hy; cases hy; exact hρ2.symm, fun i x y hi hx hy => (hot i x y hi hx hy).mono (Nat.le_of_eq g3.symm) (fun b hb _ => hb.elim) (fun b hb _ => hb.elim)⟩)
          exact ⟨M', ρ', h2.grow hF g2 (k := sp.cost as) hst3⟩
    · cases hg
end
end Go.Avc

namespace Go.Avc
open Go

/-- Whether an operation is carried out, where that is known. -/
def guardA (σ : St) (ops : Array Oper) (o : Oper) : Option Bool := match o.guard with
  | none => some true
  | some (g, want) => match (ops[g]?).bind (·.dst) with
    | none => some false
    | some t => match σ.s t with
      | .dv (.d (.bool b)) => some (b == want)
      | .tnil => some false
      | _ => none

def exG (cx : Cx) (E : Env) (B : Nat) (σ : St) (o : Oper) (K : St → Prop) : Prop := match gop cx E σ o with
  | none => False
  | some g => g.pre ∧ σ.c + g.cost ≤ B ∧ ∀ r, g.post r → K ({ σ with c := σ.c + g.cost }.put o.dst r)
def ex (cx : Cx) (E : Env) (B : Nat) (σ : St) (o : Oper) (K : St → Prop) : Prop := if isS o.op then exS cx E B σ o K else exG cx E B σ o K
def vcOp (cx : Cx) (E : Env) (B : Nat) (ops : Array Oper) (o : Oper) (K : St → Prop) (σ : St) : Prop := match guardA σ ops o with
  | none => False
  | some true => ex cx E B σ o K
  | some false => K (σ.put o.dst .tnil)
def vcL (cx : Cx) (E : Env) (B : Nat) (ops : Array Oper) (K : St → Prop) : List Oper → St → Prop
  | [], σ => K σ
  | o :: r, σ => vcOp cx E B ops o (vcL cx E B ops K r) σ

section
variable {F : Fr} {M : Nat → Prop} {ρ : Nat → Value} {σ : St} {a : Act} {w : World} {E : Env} {ops : Array Oper}

theorem exS_sound (hE : EnvOk F.cx E) (hF : F.Wf) (h : Rel1 F M ρ σ a w) {o : Oper} (hn : ∀ d, o.dst = some d → d < F.n) {K : St → Prop} (hx : exS F.cx E F.B σ o K)
    {K' : Act → World → Prop} {Q : Exit → Act → World → Prop} (hK : ∀ σ' a' w', Rel F σ' a' w' → K σ' → K' a' w') : Oper.wp F.cx.P o a w K' Q := by
  unfold exS at hx
  split at hx
  · rename_i ho; exact exBox_sound hF h ho hn hx hK
  · rename_i T ho
    split at hx
    · rename_i e; subst e; exact sAllocB_sound hE.bld hF h ho hn hx hK
    · exact exAlloc_sound hF h ho hn hx hK
  · rename_i ho; exact exMake_sound hF h ho hn hx hK
  · rename_i t ho; exact sMM_sound hF h ho hn hx hK
  · rename_i t m k x ho; exact sMU_sound hF h (.inl ho) hx hK
  · rename_i t m k x ho; exact sMU_sound hF h (.inr ho) hx hK
  · rename_i ho; exact exStore_sound hF h ho hx hK
  · rename_i c ho
    obtain ⟨cal, args, ts⟩ := c
    simp only at hx
    split at hx
    · split at hx
      · exact sBld_sound hE.bld hF h ho hn hx hK
      · exact exO_sound hE hF h ho hn hx hK
    · split at hx
      · rename_i s x t u e1 e2
        have h1 : args = #[s, x] := by apply Array.ext'; exact e1
        have h2 : ts = #[t, u] := by apply Array.ext'; exact e2
        subst h1
        subst h2
        split at hx
        · rename_i hu; exact exAppS_sound hF h ho hu hn hx hK
        · exact exAppend_sound hF h ho hn hx hK
      · exact hx.elim
    · exact hx.elim
  · exact hx.elim

theorem exG_sound (hE : EnvOk F.cx E) (hF : F.Wf) (h : Rel1 F M ρ σ a w) {o : Oper} (hn : ∀ d, o.dst = some d → d < F.n) {K : St → Prop} (hx : exG F.cx E F.B σ o K)
    {K' : Act → World → Prop} {Q : Exit → Act → World → Prop} (hK : ∀ σ' a' w', Rel F σ' a' w' → K σ' → K' a' w') : Oper.wp F.cx.P o a w K' Q := by
  unfold exG at hx
  split at hx
  · exact hx.elim
  · rename_i g hg
    obtain ⟨h1, h2, h3⟩ := hx
    refine gop_sound hE hF h hg h2 h1 K' Q (fun r v w' hr hgr hst hrel => hK _ _ _ ⟨M, ρ, ?_⟩ (h3 r hr))
    exact (h.grow hF hgr hst).put hn hrel

theorem wanted_of (h : Rel1 F M ρ σ a w) {o : Oper} {b : Bool} (hg : guardA σ ops o = some b) : Region.wanted o (yielded ops a.tmps) = b := by
  unfold guardA at hg
  unfold Region.wanted
  split at hg
  · rename_i e
    simp only [Option.some.injEq] at hg
    rw [e]
    exact hg
  · rename_i g want e
    rw [e]
    show (yielded ops a.tmps g == some want) = b
    unfold yielded
    split at hg
    · rename_i e2
      rw [e2]
      simp only [Option.some.injEq] at hg
      subst hg
      rfl
    · rename_i t e2
      rw [e2]
      have hs := h.sl t
      have key : ∀ v : Value, a.tmps.getD t undef = v → v ≠ undef → a.tmps[t]? = some v := fun v hv hne => by
        rw [Array.getD_eq_getD_getElem?] at hv
        cases hx : a.tmps[t]? with
        | none => rw [hx] at hv; exact absurd hv.symm hne
        | some u => rw [hx] at hv; exact congrArg some hv
      split at hg
      · rename_i b' e3
        rw [e3] at hs
        simp only [Option.some.injEq] at hg
        have hv : a.tmps.getD t undef = .bool b' := by
          have hs' : Rd (okM F M) w (.bool b') (a.tmps.getD t undef) := hs
          generalize a.tmps.getD t undef = v at hs'
          cases hs'
          rfl
        rw [Option.bind_some, key _ hv (by simp [undef])]
        subst hg
        cases b' <;> cases want <;> rfl
      · rename_i e3
        rw [e3] at hs
        simp only [Option.some.injEq] at hg
        subst hg
        have hv : a.tmps.getD t undef = .tuple #[] := hs
        rw [Array.getD_eq_getD_getElem?] at hv
        rw [Option.bind_some]
        cases hx : a.tmps[t]? with
        | none => cases want <;> rfl
        | some u => rw [hx] at hv; simp only [Option.getD_some] at hv; subst hv; cases want <;> rfl
      · cases hg

theorem vcOp_sound (hE : EnvOk F.cx E) (hF : F.Wf) (h : Rel F σ a w) {o : Oper} (hn : ∀ d, o.dst = some d → d < F.n) {K : St → Prop} (hx : vcOp F.cx E F.B ops o K σ)
    {K' : Act → World → Prop} {Q : Exit → Act → World → Prop} (hK : ∀ σ' a' w', Rel F σ' a' w' → K σ' → K' a' w') : if Region.wanted o (yielded ops a.tmps) = true then Oper.wp F.cx.P o a w K' Q else K' (a.put o.dst undef) w := by
  obtain ⟨M, ρ, h⟩ := h
  unfold vcOp at hx
  split at hx
  · exact hx.elim
  · rename_i hg
    rw [if_pos (wanted_of h hg)]
    unfold ex at hx
    split at hx
    · exact exS_sound hE hF h hn hx hK
    · exact exG_sound hE hF h hn hx hK
  · rename_i hg
    rw [wanted_of h hg]
    rw [if_neg (by simp)]
    exact hK _ _ _ ⟨M, ρ, h.put hn (by exact (rfl : undef = Value.tuple #[]))⟩ hx

theorem vcL_list (hE : EnvOk F.cx E) (hF : F.Wf) {K : St → Prop} {Q : Exit → Act → World → Prop} (hK : ∀ σ' a' w', Rel F σ' a' w' → K σ' → Q .normal a' w') : ∀ (l : List Oper) (σ : St) (a : Act) (w : World), (∀ o ∈ l, ∀ d, o.dst = some d → d < F.n) → Rel F σ a w → vcL F.cx E F.B ops K l σ → wpList F.cx.P ops Q l a w
  | [], σ, a, w, _, h, hx => hK _ _ _ h hx
  | o :: r, σ, a, w, hn, h, hx => by
    refine wpList_step fun K' hK' => vcOp_sound hE hF h (hn o List.mem_cons_self) hx fun σ' a' w' h' hx' => hK' _ _ (vcL_list hE hF hK r σ' a' w' (fun o' ho' => hn o' (List.mem_cons_of_mem _ ho')) h' hx')
end
end Go.Avc

namespace Go.Avc
open Go

section
variable {cx : Cx} {E : Env} {B : Nat} {σ : St} {ops : Array Oper} {K K' : St → Prop} {o o1 o2 : Oper}

theorem reads_looks {o : Oper} {t : Tmp} (h : t ∈ readsOf o) : t ∈ o.looksAt ops := by
  unfold readsOf at h
  obtain ⟨x, hx, ht⟩ := List.mem_flatMap.1 h
  cases x with
  | tmp u =>
    simp only [tmpOf, List.mem_singleton] at ht
    subst ht
    exact List.mem_append_left _ (List.mem_filterMap.2 ⟨.tmp t, hx, rfl⟩)
  | _ => simp [tmpOf] at ht

def St.adv (σ : St) (k : Nat) (d : Option Tmp) (r : AV) : St := { σ with c := σ.c + k }.put d r

theorem adv_o (k : Nat) (d : Option Tmp) (r : AV) : (σ.adv k d r).o = σ.o := by cases d <;> rfl
theorem adv_c (k : Nat) (d : Option Tmp) (r : AV) : (σ.adv k d r).c = σ.c + k := by cases d <;> rfl
theorem adv_s {k : Nat} {d : Option Tmp} {r : AV} {t : Tmp} (h : ∀ e, d = some e → e ≠ t) : (σ.adv k d r).s t = σ.s t := by
  cases d with
  | none => rfl
  | some e => show upd _ _ _ _ = _; rw [upd_apply, if_neg (fun x => h e rfl x.symm)]

theorem adv_comm {k1 k2 : Nat} {d1 d2 : Option Tmp} {r1 r2 : AV} (h : ∀ e, d1 = some e → d2 ≠ some e) : (σ.adv k1 d1 r1).adv k2 d2 r2 = (σ.adv k2 d2 r2).adv k1 d1 r1 := by
  cases d1 with
  | none =>
    cases d2 with
    | none => simp only [St.adv, St.put, Nat.add_right_comm]
    | some e => simp only [St.adv, St.put, Nat.add_right_comm]
  | some e1 =>
    cases d2 with
    | none => simp only [St.adv, St.put, Nat.add_right_comm]
    | some e2 =>
      have hne : e1 ≠ e2 := fun x => h e1 rfl (x ▸ rfl)
      simp only [St.adv, St.put, Nat.add_right_comm, St.mk.injEq, and_true]
      funext t
      simp only [upd_apply]
      by_cases h1 : t = e1
      · subst h1
        rw [if_pos rfl, if_neg hne, if_pos rfl]
      · rw [if_neg h1, if_neg h1]

theorem guard_adv {k : Nat} {d : Option Tmp} {r : AV} (h : ∀ e, d = some e → e ∉ o.looksAt ops) : guardA (σ.adv k d r) ops o = guardA σ ops o := by
  unfold guardA
  split
  · rfl
  · rename_i g want e
    split
    · rfl
    · rename_i t e2
      rw [adv_s (fun e' he' x => h e' he' (by subst x; simp [Oper.looksAt, e, e2]))]

theorem gop_adv {k : Nat} {d : Option Tmp} {r : AV} (h : ∀ e, d = some e → e ∉ o.looksAt ops) : gop cx E (σ.adv k d r) o = gop cx E σ o :=
  gop_congr (adv_o k d r) fun t ht => adv_s fun e he x => h e he (x ▸ reads_looks ht)

theorem exG_iff : exG cx E B σ o K ↔ ∃ g, gop cx E σ o = some g ∧ g.pre ∧ σ.c + g.cost ≤ B ∧ ∀ r, g.post r → K (σ.adv g.cost o.dst r) := by
  unfold exG
  split
  · rename_i h; simp [h]
  · rename_i g h; simp only [h, Option.some.injEq, exists_eq_left']; exact Iff.rfl

theorem vcOp_G (h : isS o.op = false) : vcOp cx E B ops o K σ ↔ (guardA σ ops o = some true ∧ exG cx E B σ o K) ∨ (guardA σ ops o = some false ∧ K (σ.adv 0 o.dst .tnil)) := by
  unfold vcOp ex
  split
  · rename_i e; simp [e]
  · rename_i e; simp [e, h]
  · rename_i e; simp [e]; exact Iff.rfl

theorem vcOp_mono {o : Oper} (hK : ∀ σ, K σ → K' σ) (h : isS o.op = false) (hx : vcOp cx E B ops o K σ) : vcOp cx E B ops o K' σ := by
  rw [vcOp_G h] at hx ⊢
  rcases hx with ⟨h1, h2⟩ | ⟨h1, h2⟩
  · refine .inl ⟨h1, ?_⟩
    rw [exG_iff] at h2 ⊢
    obtain ⟨g, h3, h4, h5, h6⟩ := h2
    exact ⟨g, h3, h4, h5, fun r hr => hK _ (h6 r hr)⟩
  · exact .inr ⟨h1, hK _ h2⟩

/-- Two operations apart from each other, in either order. -/
theorem vcOp_swap (hE : EnvOk cx E) (h1 : isS o1.op = false) (h2 : isS o2.op = false) (hap : Oper.apart ops o1 o2 = true) (hx : vcOp cx E B ops o1 (vcOp cx E B ops o2 K) σ) : vcOp cx E B ops o2 (vcOp cx E B ops o1 K) σ := by
  obtain ⟨a1, a2, a3⟩ := Oper.apart_spec hap
  rw [vcOp_G h1] at hx
  rw [vcOp_G h2]
  rcases hx with ⟨hg, hx⟩ | ⟨hg, hx⟩
  · rw [exG_iff] at hx
    obtain ⟨g1, e1, p1, c1, hx⟩ := hx
    obtain ⟨r1, hr1⟩ := gop_ne hE e1 p1
    have hx' := fun r hr => (vcOp_G h2).1 (hx r hr)
    simp only [guard_adv a1, exG_iff, gop_adv a1, adv_c] at hx'
    rcases hx' r1 hr1 with ⟨hg2, g2, e2, p2, c2, _⟩ | ⟨hg2, _⟩
    · refine .inl ⟨hg2, ?_⟩
      rw [exG_iff]
      refine ⟨g2, e2, p2, by omega, fun r2 hr2 => ?_⟩
      rw [vcOp_G h1, guard_adv a3]
      refine .inl ⟨hg, ?_⟩
      rw [exG_iff, gop_adv a3, adv_c]
      refine ⟨g1, e1, p1, by omega, fun r hr => ?_⟩
      rcases hx' r hr with ⟨_, g2', e2', _, _, h⟩ | ⟨hg2', _⟩
      · rw [e2] at e2'
        cases e2'
        rw [← adv_comm a2]
        exact h r2 hr2
      · rw [hg2] at hg2'; cases hg2'
    · refine .inr ⟨hg2, ?_⟩
      rw [vcOp_G h1, guard_adv a3]
      refine .inl ⟨hg, ?_⟩
      rw [exG_iff, gop_adv a3, adv_c]
      refine ⟨g1, e1, p1, by omega, fun r hr => ?_⟩
      rcases hx' r hr with ⟨hg2', _⟩ | ⟨_, h⟩
      · rw [hg2] at hg2'; cases hg2'
      · rw [← adv_comm a2]
        exact h
  · rw [vcOp_G h2, guard_adv a1, exG_iff, gop_adv a1, adv_c] at hx
    rcases hx with ⟨hg2, g2, e2, p2, c2, h⟩ | ⟨hg2, h⟩
    · refine .inl ⟨hg2, ?_⟩
      rw [exG_iff]
      refine ⟨g2, e2, p2, by omega, fun r2 hr2 => ?_⟩
      rw [vcOp_G h1, guard_adv a3]
      refine .inr ⟨hg, ?_⟩
      rw [← adv_comm a2]
      exact h r2 hr2
    · refine .inr ⟨hg2, ?_⟩
      rw [vcOp_G h1, guard_adv a3]
      refine .inr ⟨hg, ?_⟩
      rw [← adv_comm a2]
      exact h


/-- An operation that stands apart from all ahead of it, pulled to the front. -/
theorem vcL_front (hE : EnvOk cx E) {r : List Oper} : ∀ (l : List Oper) (σ : St), (∀ x ∈ l, isS x.op = false ∧ isS o.op = false ∧ Oper.apart ops x o = true) → vcL cx E B ops K (l ++ o :: r) σ → vcL cx E B ops K (o :: (l ++ r)) σ
  | [], σ, _, h => h
  | x :: l, σ, hx, h => by
    obtain ⟨h1, h2, h3⟩ := hx x List.mem_cons_self
    have h4 : vcOp cx E B ops x (vcL cx E B ops K (o :: (l ++ r))) σ := vcOp_mono (fun σ' h' => vcL_front hE l σ' (fun y hy => hx y (List.mem_cons_of_mem _ hy)) h') h1 h
    exact vcOp_swap hE h1 h2 h3 h4

/-! ### The static test of a region whose order is drawn -/
def edgeIn (e : Edge) : Bool := Region.binds .any e
def mstep (ms : List Nat) (o : Oper) : List Nat := ms ++ [o.after.foldl (fun m e => if edgeIn e then m ||| (1 <<< e.on) ||| ms.getD e.on 0 else m) 0]
def masks (ops : Array Oper) : List Nat := ops.foldl mstep []
def regOkL (ops : Array Oper) (L : Array Bool) : Bool := (List.range ops.size).all fun i => match ops[i]? with
  | none => true
  | some o => (o.after.all fun e => !edgeIn e || decide (e.on < i)) && (List.range i).all fun a =>
      if ((masks ops).getD i 0).testBit a then o.after.any fun e => edgeIn e && (e.on == a || (decide (a < e.on) && ((masks ops).getD e.on 0).testBit a))
      else L.getD i false || L.getD a false || match ops[a]? with
        | none => true
        | some x => !isS x.op && !isS o.op && Oper.apart ops x o
def regOk (ops : Array Oper) : Bool := regOkL ops #[]
end
end Go.Avc

namespace Go.Avc
open Go

/-- All that an operation waits for is listed. -/
def Down (ops : Array Oper) (listed : Array Bool) : Prop := ∀ i o, ops[i]? = some o → listed.getD i true = true → ∀ e ∈ o.after, edgeIn e = true → listed.getD e.on false = true

def todo (ops : Array Oper) (listed : Array Bool) : List Nat := (List.range ops.size).filter fun i => !listed.getD i true

section
variable {ops : Array Oper} {listed : Array Bool}

structure RegFacts (ops : Array Oper) (L : Array Bool) : Prop where
  edge : ∀ i o, ops[i]? = some o → ∀ e ∈ o.after, edgeIn e = true → e.on < i
  pair : ∀ i a o x, ops[i]? = some o → ops[a]? = some x → a < i → L.getD i false = false → L.getD a false = false → ((masks ops).getD i 0).testBit a = true ∨ (isS x.op = false ∧ isS o.op = false ∧ Oper.apart ops x o = true)
  mask : ∀ i a o, ops[i]? = some o → a < i → ((masks ops).getD i 0).testBit a = true → ∃ e ∈ o.after, edgeIn e = true ∧ (e.on = a ∨ (a < e.on ∧ ((masks ops).getD e.on 0).testBit a = true))

theorem regFacts {L : Array Bool} (h : regOkL ops L = true) : RegFacts ops L := by
  unfold regOkL at h
  simp only [Bool.and_eq_true, Bool.not_eq_true', List.all_eq_true, List.mem_range] at h
  have h2 := h
  have key : ∀ i o, ops[i]? = some o → (o.after.all fun e => !edgeIn e || decide (e.on < i)) = true ∧ ∀ a, a < i → (if ((masks ops).getD i 0).testBit a then o.after.any fun e => edgeIn e && (e.on == a || (decide (a < e.on) && ((masks ops).getD e.on 0).testBit a))
      else L.getD i false || L.getD a false || match ops[a]? with
        | none => true
        | some x => !isS x.op && !isS o.op && Oper.apart ops x o) = true := by
    intro i o hi
    have := h2 i (by
      obtain ⟨hlt, _⟩ := Array.getElem?_eq_some_iff.1 hi
      exact hlt)
    rw [hi] at this
    simp only [Bool.and_eq_true, List.all_eq_true, List.mem_range] at this
    exact this
  refine ⟨fun i o hi e he hb => ?_, fun i a o x hi ha hlt hLi hLa => ?_, fun i a o hi hlt hm => ?_⟩
  · have := (key i o hi).1
    rw [Array.all_eq_true_iff_forall_mem] at this
    have := this e he
    simp only [hb, Bool.not_true, Bool.false_or, decide_eq_true_eq] at this
    exact this
  · have := (key i o hi).2 a hlt
    split at this
    · rename_i hm; exact .inl hm
    · rw [ha, hLi, hLa] at this
      simp only [Bool.false_or, Bool.and_eq_true, Bool.not_eq_true'] at this
      exact .inr ⟨this.1.1, this.1.2, this.2⟩
  · have := (key i o hi).2 a hlt
    rw [if_pos hm, Array.any_eq_true'] at this
    obtain ⟨e, he, h⟩ := this
    simp only [Bool.and_eq_true, Bool.or_eq_true, beq_iff_eq, decide_eq_true_eq] at h
    exact ⟨e, he, h.1, h.2⟩

theorem listed_of_mask {L : Array Bool} (hR : RegFacts ops L) (hd : Down ops listed) (hs : listed.size = ops.size) : ∀ (i a : Nat), a < i → i < ops.size → ((masks ops).getD i 0).testBit a = true → (∀ e : Edge, e ∈ (ops[i]?.map (·.after)).getD #[] → edgeIn e = true → listed.getD e.on false = true) → listed.getD a false = true := by
  intro i
  induction i using Nat.strongRecOn with
  | _ i ih =>
    intro a hlt hi hm hl
    have ho : ops[i]? = some ops[i] := Array.getElem?_eq_getElem hi
    obtain ⟨e, he, hb, h⟩ := hR.mask i a _ ho hlt hm
    have hle := hl e (by rw [ho]; exact he) hb
    rcases h with h | h
    · rw [← h]; exact hle
    · have hei := hR.edge i _ ho e he hb
      refine ih e.on hei a h.1 (by omega) h.2 fun e' he' hb' => ?_
      have ho' : ops[e.on]? = some (ops[e.on]'(by omega)) := Array.getElem?_eq_getElem _
      rw [ho'] at he'
      refine hd e.on _ ho' ?_ e' he' hb'
      have hlt' : e.on < listed.size := by omega
      rw [Array.getD_eq_getD_getElem?, Array.getElem?_eq_getElem hlt'] at hle ⊢
      exact hle
end

section
variable {F : Fr} {E : Env} {ops : Array Oper} {K : St → Prop} {Q : Exit → Act → World → Prop}

def opersOf (ops : Array Oper) (l : List Nat) : List Oper := l.filterMap fun i => ops[i]?

theorem todo_set {listed : Array Bool} {i : Nat} (hs : listed.size = ops.size) (hi : i < ops.size) (hl : listed.getD i true = false) : ∃ A C, todo ops listed = A ++ i :: C ∧ todo ops (listed.setIfInBounds i true) = A ++ C ∧ ∀ x ∈ A, x < i ∧ listed.getD x true = false := by
  have hsp : List.range ops.size = List.range i ++ i :: (List.range' (i + 1) (ops.size - i - 1)) := by
    have h1 : List.range' i (ops.size - i) = i :: List.range' (i + 1) (ops.size - i - 1) := by
      have : ops.size - i = (ops.size - i - 1) + 1 := by omega
      rw [this, List.range'_succ]
      simp
    rw [← h1, List.range_eq_range', List.range_eq_range']
    have h2 := @List.range'_append_1 0 i (ops.size - i)
    rw [Nat.zero_add, show i + (ops.size - i) = ops.size by omega] at h2
    exact h2.symm
  have hne : ∀ x, x ≠ i → (listed.setIfInBounds i true).getD x true = listed.getD x true := fun x hx => by
    rw [Array.getD_eq_getD_getElem?, Array.getD_eq_getD_getElem?, Array.getElem?_setIfInBounds_ne (Ne.symm hx)]
  have hii : (listed.setIfInBounds i true).getD i true = true := by
    rw [Array.getD_eq_getD_getElem?, Array.getElem?_setIfInBounds_self_of_lt (by omega)]
    rfl
  refine ⟨(List.range i).filter fun x => !listed.getD x true, (List.range' (i + 1) (ops.size - i - 1)).filter fun x => !listed.getD x true, ?_, ?_, ?_⟩
  · unfold todo
    rw [hsp, List.filter_append, List.filter_cons, hl]
    rfl
  · unfold todo
    rw [hsp, List.filter_append, List.filter_cons, hii]
    simp only [Bool.not_true, Bool.false_eq_true, if_false]
    congr 1
    · exact List.filter_congr fun x hx => by rw [hne x (by have := List.mem_range.1 hx; omega)]
    · exact List.filter_congr fun x hx => by rw [hne x (by have := List.mem_range'_1.1 hx; omega)]
  · intro x hx
    obtain ⟨h1, h2⟩ := List.mem_filter.1 hx
    exact ⟨List.mem_range.1 h1, by simpa using h2⟩

theorem ready_iff {listed : Array Bool} {i : Nat} : i ∈ Region.ready .any ops listed ↔ i < ops.size ∧ listed.getD i true = false ∧ ∃ o, ops[i]? = some o ∧ ∀ e ∈ o.after, edgeIn e = true → listed.getD e.on false = true := by
  unfold Region.ready
  rw [List.mem_filter, List.mem_range, Bool.and_eq_true, Bool.not_eq_true']
  refine and_congr Iff.rfl (and_congr Iff.rfl ?_)
  cases ops[i]? with
  | none => simp
  | some o =>
    simp only [Option.map_some, Option.getD_some, Array.all_eq_true_iff_forall_mem, Bool.or_eq_true, Bool.not_eq_true', Option.some.injEq, exists_eq_left']
    refine forall_congr' fun e => forall_congr' fun _ => ?_
    unfold edgeIn
    cases Region.binds .any e <;> simp

theorem any_sound (hE : EnvOk F.cx E) (hF : F.Wf) {L : Array Bool} (hR : RegFacts ops L) (hn : ∀ o ∈ ops, ∀ d, o.dst = some d → d < F.n) (hK : ∀ σ' a' w', Rel F σ' a' w' → K σ' → Q .normal a' w') : ∀ (fuel : Nat) (listed : Array Bool) (σ : St) (a : Act) (w : World), listed.size = ops.size → (todo ops listed).length = fuel → Down ops listed → (∀ i, L.getD i false = true → listed.getD i true = true) →
    Rel F σ a w → vcL F.cx E F.B ops K (opersOf ops (todo ops listed)) σ → wpAny F.cx.P .any ops Q fuel listed a w := by
  intro fuel
  induction fuel with
  | zero =>
    intro listed σ a w hs hl hd hsub h hx
    have ht : todo ops listed = [] := List.eq_nil_of_length_eq_zero hl
    rw [ht] at hx
    refine ⟨?_, hK _ _ _ h hx⟩
    rw [List.eq_nil_iff_forall_not_mem]
    intro i hi
    obtain ⟨h1, h2, _⟩ := ready_iff.1 hi
    have : i ∈ todo ops listed := List.mem_filter.2 ⟨List.mem_range.2 h1, by rw [h2]; rfl⟩
    rw [ht] at this
    cases this
  | succ fuel ih =>
    intro listed σ a w hs hl hd hsub h hx
    refine ⟨fun hr => ?_, fun i hi => ?_⟩
    · exfalso
      cases ht : todo ops listed with
      | nil => rw [ht] at hl; cases hl
      | cons i C =>
        have hmem : i ∈ todo ops listed := by rw [ht]; exact List.mem_cons_self
        obtain ⟨h1, h2⟩ := List.mem_filter.1 hmem
        have h2' : listed.getD i true = false := by simpa using h2
        obtain ⟨A, C', h3, _, h5⟩ := todo_set (ops := ops) hs (List.mem_range.1 h1) h2'
        have ho : ops[i]? = some (ops[i]'(List.mem_range.1 h1)) := Array.getElem?_eq_getElem _
        have : i ∈ Region.ready .any ops listed := ready_iff.2 ⟨List.mem_range.1 h1, h2', _, ho, fun e he hb => by
          have hei := hR.edge i _ ho e he hb
          have hlt : e.on < listed.size := by have := List.mem_range.1 h1; omega
          cases hle : listed.getD e.on true with
          | true =>
            rw [Array.getD_eq_getD_getElem?, Array.getElem?_eq_getElem hlt] at hle ⊢
            exact hle
          | false =>
            have hm2 : e.on ∈ todo ops listed := List.mem_filter.2 ⟨List.mem_range.2 (by omega), by rw [hle]; rfl⟩
            have hsort : (todo ops listed).Pairwise (· < ·) := List.Pairwise.filter _ List.pairwise_lt_range
            rw [ht] at hm2 hsort
            rcases List.mem_cons.1 hm2 with e1 | e1
            · omega
            · have := (List.pairwise_cons.1 hsort).1 _ e1
              omega⟩
        rw [hr] at this
        cases this
    · obtain ⟨h1, h2, o, ho, h3⟩ := ready_iff.1 hi
      obtain ⟨A, C, h4, h5, h6⟩ := todo_set hs h1 h2
      have hx' : vcL F.cx E F.B ops K (o :: (opersOf ops A ++ opersOf ops C)) σ := by
        refine vcL_front hE (opersOf ops A) σ (fun x hx => ?_) ?_
        · obtain ⟨j, hj, hjx⟩ := List.mem_filterMap.1 hx
          obtain ⟨hlt, hul⟩ := h6 j hj
          rcases hR.pair i j o x ho hjx hlt (by
            cases hc : L.getD i false with
            | false => rfl
            | true => rw [hsub i hc] at h2; cases h2) (by
            cases hc : L.getD j false with
            | false => rfl
            | true => rw [hsub j hc] at hul; cases hul) with hm | hm
          · have := listed_of_mask hR hd hs i j hlt h1 hm (fun e he hb => h3 e (by rw [ho] at he; exact he) hb)
            have hjlt : j < listed.size := by omega
            rw [Array.getD_eq_getD_getElem?, Array.getElem?_eq_getElem hjlt] at this hul
            rw [Option.getD_some] at this hul
            rw [this] at hul
            cases hul
          · exact hm
        · rw [h4] at hx
          unfold opersOf at hx ⊢
          rw [List.filterMap_append, List.filterMap_cons, ho] at hx
          exact hx
      refine wpOp_step ho fun K' hK' => vcOp_sound hE hF h (hn o (Array.mem_of_getElem? ho)) hx' fun σ' a' w' h' hx' => hK' _ _ (ih _ σ' a' w' (by rw [Array.size_setIfInBounds]; exact hs) (by
          rw [h5]
          rw [h4] at hl
          simp only [List.length_append, List.length_cons] at hl ⊢
          omega) (fun j oj hj hlj e he hb => ?_) (fun j hj => by
          rw [Array.getD_eq_getD_getElem?, Array.getElem?_setIfInBounds]
          split
          · split <;> rfl
          · rw [← Array.getD_eq_getD_getElem?]; exact hsub j hj) h' (by rw [h5]; unfold opersOf at hx' ⊢; rw [List.filterMap_append]; exact hx'))
      by_cases hej : e.on = i
      · have : i < listed.size := by omega
        rw [hej, Array.getD_eq_getD_getElem?, Array.getElem?_setIfInBounds_self_of_lt this]
        rfl
      · rw [Array.getD_eq_getD_getElem?, Array.getElem?_setIfInBounds_ne (Ne.symm hej), ← Array.getD_eq_getD_getElem?]
        by_cases hji : j = i
        · subst hji
          rw [ho] at hj
          cases hj
          exact h3 e he hb
        · rw [Array.getD_eq_getD_getElem?, Array.getElem?_setIfInBounds_ne (Ne.symm hji), ← Array.getD_eq_getD_getElem?] at hlj
          exact hd j oj hj hlj e he hb

/-- A region whose order is drawn. -/
theorem draw_sound (hE : EnvOk F.cx E) (hF : F.Wf) (hR : regOk ops = true) (hn : ∀ o ∈ ops, ∀ d, o.dst = some d → d < F.n) (hK : ∀ σ' a' w', Rel F σ' a' w' → K σ' → Q .normal a' w') {σ : St} {a : Act} {w : World} {id : Nat} (h : Rel F σ a w)
    (hx : vcL F.cx E F.B ops K ops.toList σ) : (Code.region id ops true).wp F.cx.P Q a w := by
  have hRF := regFacts hR
  refine wp_region_draw fun t => ?_
  have hsch : Region.schedule (F.cx.P.follows .mixedOrders) ops t = Region.linearise .any ops t := by
    unfold Region.schedule
    rw [hE.bld.mix]
    simp
  rw [hsch]
  have ht : todo ops (Array.replicate ops.size false) = List.range ops.size := by
    unfold todo
    rw [List.filter_eq_self]
    intro i hi
    rw [Array.getD_eq_getD_getElem?, Array.getElem?_replicate, if_pos (List.mem_range.1 hi)]
    rfl
  have ho : opersOf ops (List.range ops.size) = ops.toList := by
    unfold opersOf
    cases ops with
    | mk l =>
      simp only [List.getElem?_toArray, List.size_toArray]
      have key : ∀ (l m : List Oper), List.filterMap (fun i => (m ++ l)[i]?) (List.range' m.length l.length) = l := by
        intro l
        induction l with
        | nil => intro m; rfl
        | cons x r ih =>
          intro m
          rw [List.length_cons, List.range'_succ, List.filterMap_cons, List.getElem?_append_right (Nat.le_refl _), Nat.sub_self]
          have := ih (m ++ [x])
          rw [List.append_assoc, List.length_append] at this
          simpa using this
      rw [List.range_eq_range']
      exact key l []
  refine wpAny_sound ops.size t _ a _ (any_sound hE hF hRF hn hK ops.size _ σ a _ (by simp) (by rw [ht]; simp) (fun i o hi hl => ?_) (fun i hi => by simp at hi) ?_ (by rw [ht, ho]; exact hx))
  · rw [Array.getD_eq_getD_getElem?, Array.getElem?_replicate] at hl
    obtain ⟨hlt, _⟩ := Array.getElem?_eq_some_iff.1 hi
    rw [if_pos hlt] at hl
    cases hl
  · obtain ⟨M, ρ, h⟩ := h
    have hg : Gr F.cx.g w { w with drawn := w.drawn + 1 } := ⟨rfl, rfl, rfl, Nat.le_refl _, fun _ _ _ => rfl⟩
    exact ⟨M, ρ, h.grow (k := 0) hF hg (h.st.keep2 (Nat.le_refl _) fun _ _ _ _ => rfl)⟩
end
end Go.Avc

namespace Go.Avc
open Go
section
variable {F : Fr} {M : Nat → Prop} {ρ : Nat → Value} {σ : St} {a : Act} {w : World} {E : Env} {ok : Nat → Prop}
theorem intBin_pure {P : Program} {op : BinOp} {t : TypeId} {k : IntKind} {m n : Int} {p : Prop} {r : AV} (hv : intBin op k m n = some (p, r)) (hp : p) :
    ∃ v, (∀ w, (binOp op t (.int k m) (.int k n)).run P w = .ok v w) ∧ ∀ cx w0 ok ρ w, relA cx w0 ok ρ w r v := by
  cases op with
  | quo =>
    simp only [intBin, Option.some.injEq, Prod.mk.injEq] at hv
    obtain ⟨rfl, rfl⟩ := hv
    exact ⟨.int k (k.wrap (m.tdiv n)), fun w => by simp only [binOp, ne_eq, not_true_eq_false, if_false, Op.intDiv]; rw [if_neg hp]; rfl, fun _ _ _ _ _ => Rd.int _ _⟩
  | rem =>
    simp only [intBin, Option.some.injEq, Prod.mk.injEq] at hv
    obtain ⟨rfl, rfl⟩ := hv
    exact ⟨.int k (m.tmod n), fun w => by simp only [binOp, ne_eq, not_true_eq_false, if_false, Op.intDiv]; rw [if_neg hp]; rfl, fun _ _ _ _ _ => Rd.int _ _⟩
  | add | sub | mul =>
    simp only [intBin, Option.some.injEq, Prod.mk.injEq] at hv
    obtain ⟨rfl, rfl⟩ := hv
    exact ⟨_, fun w => by simp only [binOp, ne_eq, not_true_eq_false, if_false, Op.intArith]; rfl, fun _ _ _ _ _ => Rd.int _ _⟩
  | eql | neq | lss | leq | gtr | geq =>
    simp only [intBin, Option.some.injEq, Prod.mk.injEq] at hv
    obtain ⟨rfl, rfl⟩ := hv
    exact ⟨_, fun w => by simp only [binOp, ne_eq, not_true_eq_false, if_false, Op.intCmp]; rfl, fun _ _ _ _ _ => Rd.bool _⟩
  | shr =>
    simp only [intBin, Option.some.injEq, Prod.mk.injEq] at hv
    obtain ⟨rfl, rfl⟩ := hv
    obtain rfl : n = 1 := hp
    exact ⟨.int k (m / 2), fun w => shr_one t k m w, fun _ _ _ _ _ => Rd.int _ _⟩
  | _ => cases hv

theorem strBin_pure {P : Program} {op : BinOp} {t : TypeId} {m n : ByteArray} {p : Prop} {r : AV} (hv : strBin op m n = some (p, r)) (hp : p) :
    ∃ v, (∀ w, (binOp op t (.string m) (.string n)).run P w = .ok v w) ∧ ∀ cx w0 ok ρ w, relA cx w0 ok ρ w r v := by
  cases op <;> simp only [strBin, Option.some.injEq, Prod.mk.injEq, reduceCtorEq] at hv
  all_goals (obtain ⟨rfl, rfl⟩ := hv)
  all_goals first
    | exact ⟨_, fun w => by simp [binOp, Op.stringOp], fun _ _ _ _ _ => Rd.bool _⟩
    | (refine ⟨.string (m ++ n), ?_, fun _ _ _ _ _ => Rd.str _⟩
       intro w
       simp only [binOp, Op.stringOp]
       have hmx : IntKind.i64.max = 9223372036854775807 := by decide
       rw [if_neg (by rw [hmx]; omega)]
       rfl)

theorem boolBin_pure {P : Program} {op : BinOp} {t : TypeId} (ht : P.underlying t = some .bool) {m n : Bool} {p : Prop} {r : AV} (hv : boolBin op m n = some (p, r)) :
    ∃ v, (∀ w, (binOp op t (.bool m) (.bool n)).run P w = .ok v w) ∧ ∀ cx w0 ok ρ w, relA cx w0 ok ρ w r v := by
  have he : ∀ w, (Op.equal t (.bool m) (.bool n)).run P w = .ok (m == n) w := by
    intro w
    have hd : ∀ d, (Op.equalIn (d + 1) t (.bool m) (.bool n)).run P w = .ok (m == n) w := fun d => by
      simp only [Op.equalIn, Sem.run_bind, run_underlying ht, Result.andThen_ok, Sem.run_pure]
    exact hd 9999
  cases op with
  | eql =>
    simp only [boolBin, Option.some.injEq, Prod.mk.injEq] at hv
    obtain ⟨_, rfl⟩ := hv
    exact ⟨.bool (m == n), fun w => by simp only [binOp, Sem.run_bind, he, Result.andThen_ok, Sem.run_pure], fun _ _ _ _ _ => Rd.bool _⟩
  | neq =>
    simp only [boolBin, Option.some.injEq, Prod.mk.injEq] at hv
    obtain ⟨_, rfl⟩ := hv
    exact ⟨.bool (!(m == n)), fun w => by simp only [binOp, Sem.run_bind, he, Result.andThen_ok, Sem.run_pure], fun _ _ _ _ _ => Rd.bool _⟩
  | _ => cases hv

theorem vMove_pure (hF : F.Wf) (h : Rel1 F M ρ σ a w) {o : Oper} {x : Operand} (ho : o.op = .move x ∨ o.op = .assign x) {p : Prop} {r : AV} (hv : vMove F.cx σ x = some (p, r)) (hp : p) :
    ∃ v, (∀ w', Runs F.cx.P a w' o v) ∧ relA F.cx F.w0 (okM F M) ρ w r v := by
  simp only [vMove, Option.some.injEq, Prod.mk.injEq] at hv
  obtain ⟨_, rfl⟩ := hv
  refine ⟨a.eval x, ?_, ev0_rel hF h x⟩
  intro w'
  rcases ho with ho | ho <;> simp [Runs, execOp, ho]

theorem vPick_pure (hF : F.Wf) (h : Rel1 F M ρ σ a w) {o : Oper} {c x y : Operand} (ho : o.op = .pick c x y) {p : Prop} {r : AV} (hv : vPick F.cx σ c x y = some (p, r)) (hp : p) :
    ∃ v, (∀ w', Runs F.cx.P a w' o v) ∧ relA F.cx F.w0 (okM F M) ρ w r v := by
  unfold vPick at hv
  have hc := ev_rel hF h c
  split at hv
  · rename_i t e
    rw [e] at hc
    obtain ⟨v, hv'⟩ : ∃ v, a.eval c = v := ⟨_, rfl⟩
    rw [hv'] at hc
    simp only [Option.some.injEq, Prod.mk.injEq] at hv
    obtain ⟨_, rfl⟩ := hv
    cases (show Rd _ _ (.bool t) v from hc)
    refine ⟨if t = true then a.eval x else a.eval y, fun w' => by simp [Runs, execOp, ho, hv', asBool], ?_⟩
    cases t
    · exact ev0_rel hF h y
    · exact ev0_rel hF h x
  · cases hv

theorem vBin_pure (hF : F.Wf) (h : Rel1 F M ρ σ a w) {o : Oper} {op : BinOp} {t u : TypeId} {x y : Operand} (ho : o.op = .binOp op t x y u) {p : Prop} {r : AV} (hv : vBin F.cx σ op t x y = some (p, r)) (hp : p) :
    ∃ v, (∀ w', Runs F.cx.P a w' o v) ∧ relA F.cx F.w0 (okM F M) ρ w r v := by
  unfold vBin at hv
  have hx := ev_rel hF h x
  have hy := ev_rel hF h y
  obtain ⟨vx, ex⟩ : ∃ v, a.eval x = v := ⟨_, rfl⟩
  obtain ⟨vy, ey⟩ : ∃ v, a.eval y = v := ⟨_, rfl⟩
  rw [ex] at hx
  rw [ey] at hy
  split at hv
  · rename_i k m k' n e1 e2
    rw [e1] at hx
    rw [e2] at hy
    cases (show Rd _ _ (.int k m) vx from hx)
    cases (show Rd _ _ (.int k' n) vy from hy)
    split at hv
    · rename_i hk
      subst hk
      obtain ⟨v, h1, h2⟩ := intBin_pure (P := F.cx.P) (t := t) hv hp
      exact ⟨v, fun w' => by simp [Runs, execOp, ho, ex, ey, eqGuard_scalar (u := .int k m) rfl (by simp), h1], h2 _ _ _ _ _⟩
    · cases hv
  · rename_i m n e1 e2
    rw [e1] at hx
    rw [e2] at hy
    cases (show Rd _ _ (.str m) vx from hx)
    cases (show Rd _ _ (.str n) vy from hy)
    obtain ⟨v, h1, h2⟩ := strBin_pure (P := F.cx.P) (t := t) hv hp
    exact ⟨v, fun w' => by simp [Runs, execOp, ho, ex, ey, eqGuard_scalar (u := .string m) rfl (by simp), h1], h2 _ _ _ _ _⟩
  · rename_i m n e1 e2
    rw [e1] at hx
    rw [e2] at hy
    cases (show Rd _ _ (.bool m) vx from hx)
    cases (show Rd _ _ (.bool n) vy from hy)
    split at hv
    · rename_i ht
      obtain ⟨v, h1, h2⟩ := boolBin_pure ht hv
      exact ⟨v, fun w' => by simp [Runs, execOp, ho, ex, ey, eqGuard_scalar (u := .bool m) rfl (by simp), h1], h2 _ _ _ _ _⟩
    · cases hv
  · rename_i l m e1 e2
    rw [e1] at hx
    rw [e2] at hy
    split at hv
    · rename_i ks ht
      obtain ⟨v, h1, h2⟩ := aggBin_run (x := x) (y := y) ht hv hp (show RdV _ _ (.ag l) vx from hx) (show RdV _ _ (.ag m) vy from hy)
      exact ⟨v, fun w' => by simp [Runs, execOp, ho, ex, ey, (h1 _).1, (h1 _).2], h2 _ _ _ _ _⟩
    · cases hv
  · cases hv

theorem vUn_pure (hF : F.Wf) (h : Rel1 F M ρ σ a w) {o : Oper} {op : UnOp} {t : TypeId} {x : Operand} (ho : o.op = .unOp op t x) {p : Prop} {r : AV} (hv : vUn F.cx σ op x = some (p, r)) (hp : p) :
    ∃ v, (∀ w', Runs F.cx.P a w' o v) ∧ relA F.cx F.w0 (okM F M) ρ w r v := by
  unfold vUn at hv
  have hx := ev_rel hF h x
  obtain ⟨vx, ex⟩ : ∃ v, a.eval x = v := ⟨_, rfl⟩
  rw [ex] at hx
  split at hv
  · rename_i b e
    rw [e] at hx
    cases (show Rd _ _ (.bool b) vx from hx)
    simp only [Option.some.injEq, Prod.mk.injEq] at hv
    obtain ⟨_, rfl⟩ := hv
    exact ⟨_, fun w' => by simp [Runs, execOp, ho, ex, Op.unary], Rd.bool _⟩
  · rename_i k n e
    rw [e] at hx
    cases (show Rd _ _ (.int k n) vx from hx)
    simp only [Option.some.injEq, Prod.mk.injEq] at hv
    obtain ⟨_, rfl⟩ := hv
    exact ⟨_, fun w' => by simp [Runs, execOp, ho, ex, Op.unary, Op.intArith], Rd.int _ _⟩
  · cases hv

theorem vIndex_pure (hF : F.Wf) (h : Rel1 F M ρ σ a w) {o : Oper} {t : TypeId} {x i : Operand} (ho : o.op = .index t x i) {p : Prop} {r : AV} (hv : vIndex F.cx σ t x i = some (p, r)) (hp : p) :
    ∃ v, (∀ w', Runs F.cx.P a w' o v) ∧ relA F.cx F.w0 (okM F M) ρ w r v := by
  unfold vIndex at hv
  have hx := ev_rel hF h x
  have hi := ev_rel hF h i
  obtain ⟨vx, ex⟩ : ∃ v, a.eval x = v := ⟨_, rfl⟩
  obtain ⟨vi, ei⟩ : ∃ v, a.eval i = v := ⟨_, rfl⟩
  rw [ex] at hx
  rw [ei] at hi
  split at hv
  · rename_i s k n hu e1 e2
    rw [e1] at hx
    rw [e2] at hi
    cases (show Rd _ _ (.str s) vx from hx)
    cases (show Rd _ _ (.int k n) vi from hi)
    simp only [Option.some.injEq, Prod.mk.injEq] at hv
    obtain ⟨rfl, rfl⟩ := hv
    have hlt : n.toNat < s.size := by omega
    refine ⟨.int .u8 (bt s n), ?_, Rd.int _ _⟩
    have hb : s[n.toNat]? = some (s.data.toList.getD n.toNat 0) := by
      rw [getElem?_pos s n.toNat hlt]
      congr 1
      have hlt' : n.toNat < s.data.toList.length := by simpa using hlt
      rw [List.getD_eq_getElem?_getD, List.getElem?_eq_getElem hlt']
      rfl
    intro w'
    simp [Runs, execOp, ho, ex, ei, Instr.index, run_underlying hu, asIntOf, hp.1, hb, bt]
  · rename_i m e l k n hu e1 e2
    rw [e1] at hx
    rw [e2] at hi
    split at hv
    · rename_i hk
      cases (show Rd _ _ (.int k n) vi from hi)
      obtain ⟨cs, rfl, hl⟩ := hx
      simp only [Option.some.injEq, Prod.mk.injEq] at hv
      obtain ⟨rfl, rfl⟩ := hv
      obtain ⟨p1, p2, p3, p4⟩ := hp
      have hlt : n.toNat < l.length := by omega
      obtain ⟨v, hv1, hr⟩ := hl.get (x := l.getD n.toNat (zD F.cx.P e)) (by rw [List.getD_eq_getElem?_getD, List.getElem?_eq_getElem hlt]; rfl)
      refine ⟨v, fun w' => ?_, hr⟩
      have hs := size_run (P := F.cx.P) (t := e) (by omega) w'
      rw [p4] at hs
      simp [Runs, execOp, ho, ex, ei, Instr.index, run_underlying hu, asIntOf, p1, p2, hs, part, Tk_agg hk, hv1]
    · cases hv
  · cases hv

theorem vExtract_pure (hF : F.Wf) (h : Rel1 F M ρ σ a w) {o : Oper} {x : Operand} {i : Nat} (ho : o.op = .extract x i) {p : Prop} {r : AV} (hv : vExtract F.cx σ x i = some (p, r)) (hp : p) :
    ∃ v, (∀ w', Runs F.cx.P a w' o v) ∧ relA F.cx F.w0 (okM F M) ρ w r v := by
  unfold vExtract at hv
  have hx := ev_rel hF h x
  obtain ⟨vx, ex⟩ : ∃ v, a.eval x = v := ⟨_, rfl⟩
  rw [ex] at hx
  split at hv
  · rename_i q e
    simp only [Option.some.injEq, Prod.mk.injEq] at hv
    obtain ⟨_, rfl⟩ := hv
    cases hA : ev F.cx σ x with
    | tcons b t =>
      rw [hA] at hx e
      obtain ⟨vs, rfl, ht⟩ := hx
      obtain ⟨v, h1, h2⟩ := nthT_rel e ht
      exact ⟨v, fun w' => by simp [Runs, execOp, ho, ex, Instr.extract, h1], relA_of0 h2⟩
    | _ => rw [hA] at e; simp [nthT] at e
  · cases hv

theorem vLen_pure (hF : F.Wf) (h : Rel1 F M ρ σ a w) {o : Oper} {t : TypeId} {x : Operand} (ho : o.op = .call { callee := .builtin .len, args := #[x], argTypes := #[t] }) {p : Prop} {r : AV} (hv : vLen F.cx σ t x = some (p, r)) (hp : p) :
    ∃ v, (∀ w', Runs F.cx.P a w' o v) ∧ relA F.cx F.w0 (okM F M) ρ w r v := by
  unfold vLen at hv
  have hx := ev_rel hF h x
  obtain ⟨vx, ex⟩ : ∃ v, a.eval x = v := ⟨_, rfl⟩
  rw [ex] at hx
  split at hv
  · rename_i s hu e
    simp only [Option.some.injEq, Prod.mk.injEq] at hv
    obtain ⟨_, rfl⟩ := hv
    have e' : ev F.cx σ x = .dv (.d (.str s)) := by
      cases hA : ev F.cx σ x with
      | own k =>
        rw [hA] at e
        simp only [toD] at e
        split at e <;> cases e
      | _ => rw [hA] at e; exact e
    rw [e'] at hx
    cases (show Rd _ _ (.str s) vx from hx)
    exact ⟨.int .i64 s.size, fun w' => by simp [Runs, execOp, ho, ex, resolve, invoke, builtin, Builtin.len_, run_underlying hu, goInt], Rd.int _ _⟩
  · rename_i e' l hu e
    simp only [Option.some.injEq, Prod.mk.injEq] at hv
    obtain ⟨_, rfl⟩ := hv
    have hf : ∃ A c, vx = .slice A l.length c := by
      cases hA : ev F.cx σ x with
      | own k =>
        rw [hA] at e hx
        simp only [toD] at e
        split at e
        · rename_i hk
          cases e
          obtain ⟨cs, hown, _⟩ := h.ob k _ hk
          have hvx : vx = ρ k := hx
          rcases hown.2 with ⟨h1, h2⟩ | ⟨g, cap, cur, hg, _⟩
          · exact ⟨none, 0, by rw [hvx, h1, h2]⟩
          · exact ⟨_, cap, by rw [hvx, hg]⟩
        · cases e
      | dv y =>
        rw [hA] at e hx
        cases y with
        | ag m => simp [toD] at e
        | d y =>
          simp only [toD, AV.dv.injEq, DV.d.injEq] at e
          subst e
          exact sl_form hx
      | _ => rw [hA] at e; simp [toD] at e
    obtain ⟨A, c, rfl⟩ := hf
    exact ⟨.int .i64 l.length, fun w' => by simp [Runs, execOp, ho, ex, resolve, invoke, builtin, Builtin.len_, run_underlying hu, goInt], Rd.int _ _⟩
  · cases hv

theorem vSlice_pure (hF : F.Wf) (h : Rel1 F M ρ σ a w) {o : Oper} {t : TypeId} {x : Operand} {lo hi : Option Operand} (ho : o.op = .slice t x lo hi none) {p : Prop} {r : AV} (hv : vSlice F.cx σ t x lo hi = some (p, r)) (hp : p) :
    ∃ v, (∀ w', Runs F.cx.P a w' o v) ∧ relA F.cx F.w0 (okM F M) ρ w r v := by
  unfold vSlice at hv
  have hx := ev_rel hF h x
  obtain ⟨vx, ex⟩ : ∃ v, a.eval x = v := ⟨_, rfl⟩
  rw [ex] at hx
  split at hv
  · rename_i s hu e
    have e' : ev F.cx σ x = .dv (.d (.str s)) := by
      cases hA : ev F.cx σ x with
      | own k =>
        rw [hA] at e
        simp only [toD] at e
        split at e <;> cases e
      | _ => rw [hA] at e; exact e
    rw [e'] at hx
    cases (show Rd _ _ (.str s) vx from hx)
    split at hv
    · rename_i l hh e1 e2
      simp only [Option.some.injEq, Prod.mk.injEq] at hv
      obtain ⟨rfl, rfl⟩ := hv
      obtain ⟨p1, p2, p3⟩ := hp
      refine ⟨.string (s.extract l.toNat hh.toNat), ?_, Rd.str _⟩
      rcases bnd_run hF h e1 with ⟨rfl, rfl⟩ | ⟨y1, k1, rfl, ey1⟩ <;> rcases bnd_run hF h e2 with ⟨rfl, rfl⟩ | ⟨y2, k2, rfl, ey2⟩
      · intro w'; simp [Runs, execOp, ho, ex, Instr.sliceAt, Instr.slice, Instr.sliceBounds, Instr.sliceBound, asIntOf, run_underlying hu]
      · intro w'; simp [Runs, execOp, ho, ex, ey2, Instr.sliceAt, Instr.slice, Instr.sliceBounds, Instr.sliceBound, asIntOf, run_underlying hu, p3, show 0 ≤ hh by omega]
      · intro w'; simp [Runs, execOp, ho, ex, ey1, Instr.sliceAt, Instr.slice, Instr.sliceBounds, Instr.sliceBound, asIntOf, run_underlying hu, p1, p2]
      · have hm : max hh 0 = hh := by omega
        intro w'; simp [Runs, execOp, ho, ex, ey1, ey2, Instr.sliceAt, Instr.slice, Instr.sliceBounds, Instr.sliceBound, asIntOf, run_underlying hu, p1, p2, p3, hm, show 0 ≤ hh by omega]
    · cases hv
  · rename_i e0 xs hu e
    split at hv
    · rename_i y0 e3
      rw [e3] at e hx
      have e4 : y0 = .d (.sl xs) := by simpa [toD] using e
      subst e4
      split at hv
      · rename_i l hh e1 e2
        simp only [Option.some.injEq, Prod.mk.injEq] at hv
        obtain ⟨rfl, rfl⟩ := hv
        obtain ⟨p1, p2, p3, p4, p5⟩ := hp
        obtain ⟨A, c, rfl⟩ := sl_form (show Rd _ _ (.sl xs) vx from hx)
        have hc : xs.length ≤ c ∨ xs.length = 0 := by
          cases (show Rd _ _ (.sl xs) _ from hx) with
          | nil A c => exact .inr rfl
          | sl _ _ _ _ _ _ hc => exact .inl hc
        have hres := Rd.cut (show Rd (okM F M) w (.sl xs) _ from hx) (l := l.toNat) (h := hh.toNat) (by omega) (by omega) p5
        refine ⟨_, ?_, hres⟩
        have q1 : hh ≤ (c : Int) := by omega
        rcases bnd_run hF h e1 with ⟨rfl, rfl⟩ | ⟨y1, k1, rfl, ey1⟩ <;> rcases bnd_run hF h e2 with ⟨rfl, rfl⟩ | ⟨y2, k2, rfl, ey2⟩
        · intro w'; simp [Runs, execOp, ho, ex, Instr.sliceAt, Instr.slice, Instr.sliceBounds, Instr.sliceBound, asIntOf, run_underlying hu, size_run p4]
        · intro w'; simp [Runs, execOp, ho, ex, ey2, Instr.sliceAt, Instr.slice, Instr.sliceBounds, Instr.sliceBound, asIntOf, run_underlying hu, size_run p4, q1, show 0 ≤ hh by omega]
        · intro w'; simp [Runs, execOp, ho, ex, ey1, Instr.sliceAt, Instr.slice, Instr.sliceBounds, Instr.sliceBound, asIntOf, run_underlying hu, size_run p4, p1, p2]
        · have hm : max hh 0 = hh := by omega
          intro w'; simp [Runs, execOp, ho, ex, ey1, ey2, Instr.sliceAt, Instr.slice, Instr.sliceBounds, Instr.sliceBound, asIntOf, run_underlying hu, size_run p4, p1, p2, q1, hm, show 0 ≤ hh by omega]
      · cases hv
    · cases hv
  · cases hv

theorem vConv_pure (hF : F.Wf) (h : Rel1 F M ρ σ a w) {o : Oper} {s t : TypeId} {x : Operand} (ho : o.op = .convert s t x) {p : Prop} {r : AV} (hv : vConv F.cx σ s t x = some (p, r)) (hp : p) (hsc : (∃ k n, ev F.cx σ x = .dv (.d (.int k n))) ∨ ∃ b, ev F.cx σ x = .dv (.d (.str b))) :
    ∃ v, (∀ w', Runs F.cx.P a w' o v) ∧ relA F.cx F.w0 (okM F M) ρ w r v := by
  unfold vConv at hv
  have hx := ev_rel hF h x
  obtain ⟨vx, ex⟩ : ∃ v, a.eval x = v := ⟨_, rfl⟩
  rw [ex] at hx
  split at hv
  · rename_i k0 k k1 n h1 h2 e
    rw [toD_int e] at hx
    cases (show Rd _ _ (.int k1 n) vx from hx)
    simp only [Option.some.injEq, Prod.mk.injEq] at hv
    obtain ⟨_, rfl⟩ := hv
    exact ⟨.int k (k.wrap n), fun w' => by simp [Runs, execOp, ho, ex, convert, run_underlying h1, run_underlying h2, Conv.intToInt], Rd.int _ _⟩
  · rename_i k0 k1 n h1 h2 e
    rw [toD_int e] at hx
    cases (show Rd _ _ (.int k1 n) vx from hx)
    simp only [Option.some.injEq, Prod.mk.injEq] at hv
    obtain ⟨_, rfl⟩ := hv
    exact ⟨.string (Utf8.encode n), fun w' => by simp [Runs, execOp, ho, ex, convert, run_underlying h1, run_underlying h2, Conv.intToString], Rd.str _⟩
  · rename_i b h1 h2 e
    rw [toD_str e] at hx
    cases (show Rd _ _ (.str b) vx from hx)
    simp only [Option.some.injEq, Prod.mk.injEq] at hv
    obtain ⟨_, rfl⟩ := hv
    exact ⟨.string b, fun w' => by simp [Runs, execOp, ho, ex, convert, run_underlying h1, run_underlying h2], Rd.str _⟩
  · rename_i e0 l h1 h2 e
    rcases hsc with ⟨k, n, e'⟩ | ⟨b, e'⟩ <;> (rw [e'] at e; simp [toD] at e)
  · cases hv


/-- Operations that may be carried out first. -/
def hkind (o : Oper) : Bool := o.guard.isNone && match o.op with
  | .move _ => true
  | .assign _ => true
  | .pick _ _ _ => true
  | .binOp _ _ _ _ _ => true
  | .unOp _ _ _ => true
  | .convert _ _ _ => true
  | .index _ _ _ => true
  | .extract _ _ => true
  | .slice _ _ _ _ none => true
  | .call c => match c.callee with
    | .builtin .len => true
    | _ => false
  | _ => false
/-- A conversion's operand is no slice. -/
def flatOp (cx : Cx) (σ : St) : Op → Bool
  | .convert _ _ x => match ev cx σ x with
    | .dv (.d (.int _ _)) => true
    | .dv (.d (.str _)) => true
    | _ => false
  | _ => true
theorem hop_pure (hF : F.Wf) (h : Rel1 F M ρ σ a w) {o : Oper} (hk : hkind o = true) (hfl : flatOp F.cx σ o.op = true) {g : GO} (hg : gop F.cx E σ o = some g) (hp : g.pre) :
    g.cost = 0 ∧ ∃ r, g.post r ∧ ∃ v, (∀ w', Runs F.cx.P a w' o v) ∧ relA F.cx F.w0 (okM F M) ρ w r v := by
  have key : ∀ {x : Option (Prop × AV)}, lift x = some g → (∀ p r, x = some (p, r) → p → ∃ v, (∀ w', Runs F.cx.P a w' o v) ∧ relA F.cx F.w0 (okM F M) ρ w r v) → g.cost = 0 ∧ ∃ r, g.post r ∧ ∃ v, (∀ w', Runs F.cx.P a w' o v) ∧ relA F.cx F.w0 (okM F M) ρ w r v := by
    intro x hx hr
    cases x with
    | none => cases hx
    | some q =>
      obtain ⟨p, r⟩ := q
      cases hx
      exact ⟨rfl, r, rfl, hr p r rfl hp⟩
  unfold hkind at hk
  rw [Bool.and_eq_true] at hk
  obtain ⟨hgu, hk⟩ := hk
  unfold gop at hg
  split at hk
  · rename_i x ho; rw [ho] at hg; exact key hg fun p r hv hp => vMove_pure hF h (.inl ho) hv hp
  · rename_i x ho; rw [ho] at hg; exact key hg fun p r hv hp => vMove_pure hF h (.inr ho) hv hp
  · rename_i c x y ho; rw [ho] at hg; exact key hg fun p r hv hp => vPick_pure hF h ho hv hp
  · rename_i op t x y u ho; rw [ho] at hg; exact key hg fun p r hv hp => vBin_pure hF h ho hv hp
  · rename_i op t x ho; rw [ho] at hg; exact key hg fun p r hv hp => vUn_pure hF h ho hv hp
  · rename_i s t x ho
    rw [ho] at hg hfl
    refine key hg fun p r hv hp => vConv_pure hF h ho hv hp ?_
    unfold flatOp at hfl
    simp only at hfl
    split at hfl
    · rename_i e; exact .inl ⟨_, _, e⟩
    · rename_i e; exact .inr ⟨_, e⟩
    · cases hfl
  · rename_i t x i ho; rw [ho] at hg; exact key hg fun p r hv hp => vIndex_pure hF h ho hv hp
  · rename_i x i ho; rw [ho] at hg; exact key hg fun p r hv hp => vExtract_pure hF h ho hv hp
  · rename_i t x lo hi ho; rw [ho] at hg; exact key hg fun p r hv hp => vSlice_pure hF h ho hv hp
  · rename_i c ho
    rw [ho] at hg
    obtain ⟨cal, args, ts⟩ := c
    simp only at hk hg
    split at hk
    · simp only at hg
      split at hg
      · rename_i x t e1 e2
        have h1 : args = #[x] := by apply Array.ext'; exact e1
        have h2 : ts = #[t] := by apply Array.ext'; exact e2
        subst h1
        subst h2
        exact key hg fun p r hv hp => vLen_pure hF h ho hv hp
      · cases hg
    · cases hk
  · cases hk
/-- What is asked of the operations that are carried out first. -/
def vcH (cx : Cx) (E : Env) (B : Nat) (ops : Array Oper) (K : St → Prop) : List Oper → St → Prop
  | [], σ => K σ
  | o :: r, σ => flatOp cx σ o.op = true ∧ vcOp cx E B ops o (vcH cx E B ops K r) σ
def optL (ops : Array Oper) (l : List Nat) : List Oper := l.filterMap fun i => ops[i]?
/-- The static test: these operations, in turn, are ready and stand apart from all that are left. -/
def hoistOk (ops : Array Oper) : List Nat → Array Bool → Bool
  | [], _ => true
  | i :: r, listed => (match ops[i]? with
    | some o => hkind o && !isS o.op
    | none => false) && Region.free .any ops listed i && (Region.ready .any ops listed).contains i && hoistOk ops r (listed.setIfInBounds i true)
def setAll (listed : Array Bool) : List Nat → Array Bool
  | [] => listed
  | i :: r => setAll (listed.setIfInBounds i true) r
def downB (ops : Array Oper) (listed : Array Bool) : Bool := (List.range ops.size).all fun i => match ops[i]? with
  | none => true
  | some o => !listed.getD i true || o.after.all fun e => !edgeIn e || listed.getD e.on false
end
section
variable {F : Fr} {E : Env} {ops : Array Oper} {K : St → Prop} {Q : Exit → Act → World → Prop}
theorem hoist_sound (hE : EnvOk F.cx E) (hF : F.Wf) (hn : ∀ o ∈ ops, ∀ d, o.dst = some d → d < F.n) (hsel : Region.noSelect ops = true) (hQ : ∀ c a w, ¬ Q (.panic c) a w) :
    ∀ (hs : List Nat) (listed : Array Bool) (fuel : Nat) (σ : St) (a : Act) (w : World), listed.size = ops.size → hoistOk ops hs listed = true → (todo ops listed).length = fuel → Rel F σ a w → vcH F.cx E F.B ops K (optL ops hs) σ →
    (∀ σ' a' w', Rel F σ' a' w' → K σ' → wpAny F.cx.P .any ops Q (todo ops (setAll listed hs)).length (setAll listed hs) a' w') → wpAny F.cx.P .any ops Q fuel listed a w
  | [], listed, fuel, σ, a, w, hsz, hh, hfl, h, hx, hK => by subst hfl; exact hK σ a w h hx
  | i :: r, listed, fuel, σ, a, w, hsz, hh, hfl, h, hx, hK => by
    unfold hoistOk at hh
    simp only [Bool.and_eq_true] at hh
    obtain ⟨⟨⟨hk, hfree⟩, hready⟩, hrest⟩ := hh
    have hi : i < ops.size ∧ listed.getD i true = false := by
      have : i ∈ Region.ready .any ops listed := by simpa using hready
      obtain ⟨h1, h2, _⟩ := ready_iff.1 this
      exact ⟨h1, h2⟩
    obtain ⟨A, C, h4, h5, _⟩ := todo_set (ops := ops) hsz hi.1 hi.2
    obtain ⟨fuel', rfl⟩ : ∃ f, fuel = f + 1 := ⟨fuel - 1, by rw [h4] at hfl; simp at hfl; omega⟩
    have ho : ops[i]? = some (ops[i]'hi.1) := Array.getElem?_eq_getElem _
    generalize ops[i]'hi.1 = o at ho
    rw [ho] at hk
    simp only [Bool.and_eq_true, Bool.not_eq_true'] at hk
    have hx' : flatOp F.cx σ o.op = true ∧ vcOp F.cx E F.B ops o (vcH F.cx E F.B ops K (optL ops r)) σ := by
      have : optL ops (i :: r) = o :: optL ops r := by
        unfold optL
        rw [List.filterMap_cons, ho]
      rw [this] at hx
      exact hx
    obtain ⟨hfl', hx'⟩ := hx'
    have hg0 : o.guard = none := by
      have := hk.1
      unfold hkind at this
      simp only [Bool.and_eq_true, Option.isNone_iff_eq_none] at this
      exact this.1
    unfold vcOp guardA at hx'
    rw [hg0] at hx'
    simp only [ex, hk.2, if_false, Bool.false_eq_true] at hx'
    unfold exG at hx'
    split at hx'
    · exact hx'.elim
    · rename_i g hgo
      obtain ⟨hp, hc, hpost⟩ := hx'
      obtain ⟨M, ρ, h⟩ := h
      obtain ⟨hcost, rv, hrv, v, hrun, hrel⟩ := hop_pure (E := E) hF h hk.1 hfl' hgo hp
      have hnext := hpost rv hrv
      rw [hcost, Nat.add_zero] at hnext
      refine wpAny_take ho hsel hfree hready (fun c a w hq => absurd hq (hQ c _ w)) (.inl ⟨by unfold Region.wanted; rw [hg0], hrun⟩) ?_
      refine hoist_sound hE hF hn hsel hQ r _ fuel' _ _ w (by rw [Array.size_setIfInBounds]; exact hsz) hrest ?_ ⟨M, ρ, h.put (hn o (Array.mem_of_getElem? ho)) hrel⟩ hnext hK
      rw [h5]
      rw [h4] at hfl
      simp only [List.length_append, List.length_cons] at hfl ⊢
      omega
theorem size_setAll : ∀ (hs : List Nat) (listed : Array Bool), (setAll listed hs).size = listed.size
  | [], _ => rfl
  | i :: r, listed => by unfold setAll; rw [size_setAll r, Array.size_setIfInBounds]
/-- The static test of a region whose order is drawn: hs first, then rs. -/
def regOkH (ops : Array Oper) (hs rs : List Nat) : Bool :=
  let L0 := Array.replicate ops.size false
  let L := setAll L0 hs
  Region.noSelect ops && hoistOk ops hs L0 && downB ops L && regOkL ops L && (todo ops L == rs)
theorem drawH_sound (hE : EnvOk F.cx E) (hF : F.Wf) {hs rs : List Nat} (hR : regOkH ops hs rs = true) (hn : ∀ o ∈ ops, ∀ d, o.dst = some d → d < F.n) (hK : ∀ σ' a' w', Rel F σ' a' w' → K σ' → Q .normal a' w') {σ : St} {a : Act} {w : World} {id : Nat} (h : Rel F σ a w)
    (hx : vcH F.cx E F.B ops (vcL F.cx E F.B ops K (optL ops rs)) (optL ops hs) σ) : (Code.region id ops true).wp F.cx.P Q a w := by
  unfold regOkH at hR
  simp only [Bool.and_eq_true, beq_iff_eq] at hR
  obtain ⟨⟨⟨⟨hsel, hho⟩, hdn⟩, hreg⟩, htd⟩ := hR
  have hRF := regFacts hreg
  let Q' : Exit → Act → World → Prop := fun e a w => match e with
    | .panic _ => False
    | e => Q e a w
  refine wp_mono (Q := Q') ?_ fun e a w hq => ?_
  · refine wp_region_any hE.bld.mix ?_
    obtain ⟨M, ρ, h⟩ := h
    have hg : Gr F.cx.g w { w with drawn := w.drawn + 1 } := ⟨rfl, rfl, rfl, Nat.le_refl _, fun _ _ _ => rfl⟩
    have h' : Rel F σ a { w with drawn := w.drawn + 1 } := ⟨M, ρ, h.grow (k := 0) hF hg (h.st.keep2 (Nat.le_refl _) fun _ _ _ _ => rfl)⟩
    refine hoist_sound (Q := Q') hE hF hn hsel (fun c a w hq => hq) hs _ ops.size σ a _ (by simp) hho ?_ h' hx fun σ' a' w' h2 hx2 => ?_
    · unfold todo
      rw [List.filter_eq_self.2, List.length_range]
      intro i hi
      rw [Array.getD_eq_getD_getElem?, Array.getElem?_replicate, if_pos (List.mem_range.1 hi)]
      rfl
    · refine any_sound (Q := Q') hE hF hRF hn (fun σ' a' w' h hk => hK σ' a' w' h hk) _ _ σ' a' w' (by rw [size_setAll]; simp) rfl (fun i o hi hl e he hb => ?_) (fun i hi => ?_) h2 (by rw [htd]; exact hx2)
      · unfold downB at hdn
        rw [List.all_eq_true] at hdn
        have := hdn i (List.mem_range.2 (Array.getElem?_eq_some_iff.1 hi).1)
        rw [hi] at this
        simp only [hl, Bool.not_true, Bool.false_or, Array.all_eq_true_iff_forall_mem] at this
        have := this e he
        rw [hb] at this
        simpa using this
      · rw [Array.getD_eq_getD_getElem?] at hi ⊢
        cases hc : (setAll (Array.replicate ops.size false) hs)[i]? with
        | none => rfl
        | some b => rw [hc] at hi; exact hi
  · cases e <;> first | exact hq | exact hq.elim
end
end Go.Avc

namespace Go.Avc
open Go

section
variable {F : Fr} {M : Nat → Prop} {ρ : Nat → Value} {σ : St} {a : Act} {w : World} {E : Env} {ops : Array Oper} {K : St → Prop} {Q : Exit → Act → World → Prop}

/-- Nothing speaks of object d, and slot d is not told. -/
def St.delS (σ : St) (d : Nat) : St := { σ.del d with s := upd (σ.del d).s d .un }
theorem Rel.delS (h : Rel F σ a w) (d : Nat) : Rel F (σ.delS d) a w := by
  obtain ⟨M, ρ, h⟩ := h
  have h1 : Rel1 F M ρ (σ.del d) a w := h.del fun _ _ => rfl
  refine ⟨M, ρ, h1.gr, h1.st, h1.gl, h1.mb, fun t => ?_, h1.ob, h1.ne, h1.df, h1.nt, h1.kx⟩
  show relA _ _ _ _ _ (upd (σ.del d).s d .un t) _
  rw [upd_apply]
  split
  · exact trivial
  · exact h1.sl t

/-- The variable is there already, though nothing is told of it yet. -/
def RelE (F : Fr) (d : Nat) (T : TypeId) (zs : Array Value) (σ : St) (a : Act) (w : World) : Prop := ∃ M ρ b, Rel1 F M ρ σ a w ∧ M b ∧ w.heap[b]? = some (.cells zs T (0, 0)) ∧ a.tmps.getD d undef = .pointer (some ⟨b, 0, none⟩) ∧ ∀ k o, σ.o k = some o → blkOf (ρ k) ≠ some b

theorem put_getD_ne {a : Act} {d : Nat} {e : Option Nat} {v : Value} (he : e ≠ some d) (hs : ∀ x, e = some x → x < a.tmps.size) : (a.put e v).tmps.getD d undef = a.tmps.getD d undef := by
  cases e with
  | none => rfl
  | some x =>
    rw [getD_put (hs x rfl), if_neg]
    intro h
    exact he (by rw [h])
theorem put_o (σ : St) (e : Option Tmp) (r : AV) : (σ.put e r).o = σ.o := by cases e <;> rfl
theorem relE_op (hE : EnvOk F.cx E) (hF : F.Wf) {d : Nat} {T : TypeId} {zs : Array Value} (h : RelE F d T zs σ a w) {o : Oper} (hn : ∀ d, o.dst = some d → d < F.n) (hs : isS o.op = false) (hd : o.dst ≠ some d) (hx : vcOp F.cx E F.B ops o K σ)
    {K' : Act → World → Prop} (hK : ∀ σ' a' w', RelE F d T zs σ' a' w' → K σ' → K' a' w') : if Region.wanted o (yielded ops a.tmps) = true then Oper.wp F.cx.P o a w K' Q else K' (a.put o.dst undef) w := by
  obtain ⟨M, ρ, b, h, hM, hh, ht, hne⟩ := h
  have hsz : ∀ x, o.dst = some x → x < a.tmps.size := fun x hx => Nat.lt_of_lt_of_le (hn x hx) h.nt
  unfold vcOp at hx
  split at hx
  · exact hx.elim
  · rename_i hg
    rw [if_pos (wanted_of h hg)]
    unfold ex at hx
    rw [hs] at hx
    simp only [Bool.false_eq_true, if_false] at hx
    unfold exG at hx
    split at hx
    · exact hx.elim
    · rename_i g hgo
      obtain ⟨h1, h2, h3⟩ := hx
      refine gop_sound hE hF h hgo h2 h1 K' Q (fun r v w' hr hgr hst hrel => hK _ _ _ ⟨M, ρ, b, (h.grow hF hgr hst).put hn hrel, hM, ?_, ?_, ?_⟩ (h3 r hr))
      · exact (hgr.block b (h.mb b hM).2 (M_ne hF (h.mb b hM).1)).trans hh
      · rw [put_getD_ne hd hsz]; exact ht
      · intro k o' hk
        rw [put_o] at hk
        exact hne k o' hk
  · rename_i hg
    rw [wanted_of h hg]
    rw [if_neg (by simp)]
    refine hK _ _ _ ⟨M, ρ, b, h.put hn (by exact (rfl : undef = Value.tuple #[])), hM, hh, ?_, ?_⟩ hx
    · rw [put_getD_ne hd hsz]; exact ht
    · intro k o' hk
      rw [put_o] at hk
      exact hne k o' hk
theorem vcOp_keep {d : Nat} {o : Oper} (hs : isS o.op = false) (hd : o.dst ≠ some d) (hu : σ.s d = .un) (hx : vcOp F.cx E F.B ops o K σ) : vcOp F.cx E F.B ops o (fun σ' => K σ' ∧ σ'.s d = .un) σ := by
  have hp : ∀ (τ : St) (r : AV), τ.s d = .un → (τ.put o.dst r).s d = .un := fun τ r ht => by
    cases e : o.dst with
    | none => exact ht
    | some x =>
      show upd τ.s x r d = .un
      rw [upd_apply, if_neg]
      · exact ht
      · intro h; exact hd (by rw [e, h])
  unfold vcOp at hx ⊢
  split
  · rename_i e; rw [e] at hx; exact hx
  · rename_i e
    rw [e] at hx
    simp only at hx ⊢
    unfold ex at hx ⊢
    rw [hs] at hx ⊢
    simp only [Bool.false_eq_true, if_false] at hx ⊢
    unfold exG at hx ⊢
    split
    · rename_i e2; rw [e2] at hx; exact hx
    · rename_i g e2
      rw [e2] at hx
      exact ⟨hx.1, hx.2.1, fun r hr => ⟨hx.2.2 r hr, hp { σ with c := σ.c + g.cost } r hu⟩⟩
  · rename_i e
    rw [e] at hx
    exact ⟨hx, hp σ _ hu⟩
theorem alloc_cells {P : Program} {T : TypeId} {cs : List AV} (hcs : TzeroA P T = some cs) : ∃ i z, P.info? T = some i ∧ i.zero = some z ∧ cs = z.cells.toList.map cv := by
  unfold TzeroA at hcs
  split at hcs
  · rename_i i hi
    split at hcs
    · rename_i z hz
      exact ⟨i, z, hi, hz, (Option.some.inj hcs).symm⟩
    · cases hcs
  · cases hcs
theorem hasUn_ne : ∀ l : List Value, hasUn (l.map cv) = false → ∀ v ∈ l, cv v ≠ .un
  | [], _, v, hv => by cases hv
  | x :: r, h, v, hv => by
    rw [List.map_cons] at h
    have hx : cv x ≠ .un := fun e => by rw [e] at h; simp [hasUn] at h
    have hr : hasUn (r.map cv) = false := by
      cases hc : cv x <;> rw [hc] at h <;> first | exact h | (simp [hasUn] at h)
    rcases List.mem_cons.1 hv with rfl | hv
    · exact hx
    · exact hasUn_ne r hr v hv
/-- The variable's making is told. -/
theorem relE_alloc {d : Nat} {T : TypeId} {z : Value} (h : RelE F d T z.cells σ a w) (hun : hasUn (z.cells.toList.map cv) = false) : Rel F (σ.newOb d d (.ptr d 0) (.box T (z.cells.toList.map cv))) a w := by
  obtain ⟨M, ρ, b, h, hM, hh, ht, hne⟩ := h
  have h1 : Rel1 F M (upd ρ d (.pointer (some ⟨b, 0, none⟩))) (σ.del d) a w := h.del fun k hk => by rw [upd_apply, if_neg hk]
  have hd : upd ρ d (Value.pointer (some ⟨b, 0, none⟩)) d = .pointer (some ⟨b, 0, none⟩) := by rw [upd_apply, if_pos rfl]
  have hob : ∀ k o, upd (σ.del d).o d (some (Ob.box T (z.cells.toList.map cv))) k = some o → k ≠ d → (σ.del d).o k = some o ∧ ∃ o', σ.o k = some o' := fun k o hk hkd => by
    rw [upd_apply, if_neg hkd] at hk
    refine ⟨hk, ?_⟩
    simp only [St.del, if_neg hkd, Option.map_eq_some_iff] at hk
    obtain ⟨o', ho', _⟩ := hk
    exact ⟨o', ho'⟩
  refine ⟨M, upd ρ d (.pointer (some ⟨b, 0, none⟩)), h1.gr, h1.st, h1.gl, h1.mb, fun t => ?_, fun k o hk => ?_, fun k k' o o' hk hk' hkk => ?_, h1.df, h1.nt, h1.kx⟩
  · show relA _ _ _ _ _ (upd (σ.del d).s d (.ptr d 0) t) _
    rw [upd_apply]
    split
    · rename_i e
      subst e
      exact ⟨b, hd, ht⟩
    · exact h1.sl t
  · by_cases hkd : k = d
    · subst hkd
      have hk2 : upd (σ.del k).o k (some (Ob.box T (z.cells.toList.map cv))) k = some o := hk
      rw [upd_apply, if_pos rfl] at hk2
      cases hk2
      rw [hd]
      refine ⟨b, z.cells, rfl, hM, hh, by simp, fun j y u hy hu => ?_⟩
      rw [List.getElem?_map, Option.map_eq_some_iff] at hy
      obtain ⟨v, hv, rfl⟩ := hy
      rw [Array.getElem?_toList] at hv
      rw [hv] at hu
      obtain rfl : v = u := Option.some.inj hu
      refine ⟨?_, cv_rel v⟩
      have := hasUn_ne _ hun v (List.mem_of_getElem? (by rw [Array.getElem?_toList]; exact hv))
      cases v <;> first | rfl | exact absurd rfl this
    · exact h1.ob k o (hob k o hk hkd).1
  · have key : ∀ k o, upd (σ.del d).o d (some (Ob.box T (z.cells.toList.map cv))) k = some o → k ≠ d → blkOf (upd ρ d (Value.pointer (some ⟨b, 0, none⟩)) k) ≠ some b := fun k o hk hkd => by
      rw [upd_apply, if_neg hkd]
      obtain ⟨_, o', ho'⟩ := hob k o hk hkd
      exact hne k o' ho'
    by_cases hkd : k = d
    · subst hkd
      have hkd' : k' ≠ k := fun e => hkk e.symm
      intro b' hb' hb''
      rw [hd] at hb'
      simp only [blkOf, Option.some.injEq] at hb'
      subst hb'
      exact key k' o' hk' hkd' hb''
    · by_cases hkd' : k' = d
      · subst hkd'
        intro b' hb' hb''
        rw [hd] at hb''
        simp only [blkOf, Option.some.injEq] at hb''
        subst hb''
        exact key k o hk hkd hb'
      · exact h1.ne k k' o o' (hob k o hk hkd).1 (hob k' o' hk' hkd').1 hkk

/-- The static test: operation ia makes a variable that no earlier operation looks at, and all later ones wait for all. -/
structure FreeOk (ops : Array Oper) (ia : Nat) (o : Oper) (T : TypeId) (d : Nat) : Prop where
  here : ops[ia]? = some o
  op : o.op = .alloc T
  dst : o.dst = some d
  gd : o.guard = none
  nb : T ≠ bT
  gop : ∀ j x, j < ia → ops[j]? = some x → isS x.op = false ∧ x.dst ≠ some d
  late : ∀ j x, ia < j → ops[j]? = some x → ∀ k, k < j → ((masks ops).getD j 0).testBit k = true
def freeB (ops : Array Oper) (ia : Nat) : Bool := match ops[ia]? with
  | some o => match o.op, o.dst with
    | .alloc T, some d => o.guard.isNone && decide (T ≠ bT) && ((List.range ops.size).all fun j => match ops[j]? with
        | some x => if j < ia then !isS x.op && decide (x.dst ≠ some d) else if ia < j then (List.range j).all fun k => ((masks ops).getD j 0).testBit k else true
        | none => true) && regOkL ops ((Array.replicate ops.size false).setIfInBounds ia true)
    | _, _ => false
  | none => false
theorem freeOk {ia : Nat} (h : freeB ops ia = true) : (∃ o T d, FreeOk ops ia o T d) ∧ RegFacts ops ((Array.replicate ops.size false).setIfInBounds ia true) := by
  unfold freeB at h
  split at h
  · rename_i o ho
    split at h
    · rename_i T d hop hdst
      simp only [Bool.and_eq_true, decide_eq_true_eq, Option.isNone_iff_eq_none] at h
      obtain ⟨⟨⟨h1, h2⟩, h3⟩, h4⟩ := h
      rw [List.all_eq_true] at h3
      refine ⟨⟨o, T, d, ho, hop, hdst, h1, h2, fun j x hj hx => ?_, fun j x hj hx k hk => ?_⟩, regFacts h4⟩
      · have := h3 j (List.mem_range.2 (Array.getElem?_eq_some_iff.1 hx).1)
        rw [hx] at this
        simp only [if_pos hj, Bool.and_eq_true, Bool.not_eq_true', decide_eq_true_eq] at this
        exact this
      · have := h3 j (List.mem_range.2 (Array.getElem?_eq_some_iff.1 hx).1)
        rw [hx] at this
        simp only [if_neg (Nat.lt_asymm hj), if_pos hj, List.all_eq_true] at this
        exact this k (List.mem_range.2 hk)
    · cases h
  · cases h

theorem ready_ne {L : Array Bool} (hR : RegFacts ops L) {listed : Array Bool} (hs : listed.size = ops.size) (hne : todo ops listed ≠ []) : Region.ready .any ops listed ≠ [] := by
  intro hr
  cases ht : todo ops listed with
  | nil => exact hne ht
  | cons i C =>
    have hmem : i ∈ todo ops listed := by rw [ht]; exact List.mem_cons_self
    obtain ⟨h1, h2⟩ := List.mem_filter.1 hmem
    have h2' : listed.getD i true = false := by simpa using h2
    have ho : ops[i]? = some (ops[i]'(List.mem_range.1 h1)) := Array.getElem?_eq_getElem _
    have : i ∈ Region.ready .any ops listed := ready_iff.2 ⟨List.mem_range.1 h1, h2', _, ho, fun e he hb => by
      have hei := hR.edge i _ ho e he hb
      have hlt : e.on < listed.size := by have := List.mem_range.1 h1; omega
      cases hle : listed.getD e.on true with
      | true =>
        rw [Array.getD_eq_getD_getElem?, Array.getElem?_eq_getElem hlt] at hle ⊢
        exact hle
      | false =>
        have hm2 : e.on ∈ todo ops listed := List.mem_filter.2 ⟨List.mem_range.2 (by omega), by rw [hle]; rfl⟩
        have hsort : (todo ops listed).Pairwise (· < ·) := List.Pairwise.filter _ List.pairwise_lt_range
        rw [ht] at hm2 hsort
        rcases List.mem_cons.1 hm2 with e1 | e1
        · omega
        · have := (List.pairwise_cons.1 hsort).1 _ e1
          omega⟩
    rw [hr] at this
    cases this
theorem down_set {listed : Array Bool} {i : Nat} {o : Oper} (hs : listed.size = ops.size) (hi : i < ops.size) (ho : ops[i]? = some o) (hd : Down ops listed) (h3 : ∀ e ∈ o.after, edgeIn e = true → listed.getD e.on false = true) : Down ops (listed.setIfInBounds i true) := by
  intro j oj hj hlj e he hb
  by_cases hej : e.on = i
  · have : i < listed.size := by omega
    rw [hej, Array.getD_eq_getD_getElem?, Array.getElem?_setIfInBounds_self_of_lt this]
    rfl
  · rw [Array.getD_eq_getD_getElem?, Array.getElem?_setIfInBounds_ne (Ne.symm hej), ← Array.getD_eq_getD_getElem?]
    by_cases hji : j = i
    · subst hji
      rw [ho] at hj
      cases hj
      exact h3 e he hb
    · rw [Array.getD_eq_getD_getElem?, Array.getElem?_setIfInBounds_ne (Ne.symm hji), ← Array.getD_eq_getD_getElem?] at hlj
      exact hd j oj hj hlj e he hb
theorem getD_set {listed : Array Bool} {i j : Nat} {b d : Bool} (hi : i < listed.size) : (listed.setIfInBounds i b).getD j d = if j = i then b else listed.getD j d := by
  rw [Array.getD_eq_getD_getElem?, Array.getElem?_setIfInBounds]
  by_cases h : i = j
  · subst h
    rw [if_pos rfl, if_pos rfl, if_pos hi]
    rfl
  · rw [if_neg h, if_neg (Ne.symm h), ← Array.getD_eq_getD_getElem?]
theorem todo_ext {l1 l2 : Array Bool} (h : ∀ j, l1.getD j true = l2.getD j true) : todo ops l1 = todo ops l2 := by
  unfold todo
  exact List.filter_congr fun j _ => by rw [h j]
theorem any_free (hE : EnvOk F.cx E) (hF : F.Wf) {ia : Nat} {o : Oper} {T : TypeId} {d : Nat} (hf : FreeOk ops ia o T d) (hR : RegFacts ops ((Array.replicate ops.size false).setIfInBounds ia true)) {i0 : TypeInfo} {z : Value} (hi0 : F.cx.P.info? T = some i0) (hz : i0.zero = some z) (hun : hasUn (z.cells.toList.map cv) = false)
    (hn : ∀ o ∈ ops, ∀ d, o.dst = some d → d < F.n) (hK : ∀ σ' a' w', Rel F σ' a' w' → K σ' → Q .normal a' w') : ∀ (fuel : Nat) (listed : Array Bool) (σ : St) (a : Act) (w : World), listed.size = ops.size → (todo ops listed).length = fuel → Down ops listed →
    ((listed.getD ia true = false ∧ Rel F σ a w ∧ σ.s d = .un) ∨ (listed.getD ia true = true ∧ RelE F d T z.cells σ a w)) → vcL F.cx E F.B ops K (opersOf ops (todo ops (listed.setIfInBounds ia false))) σ → wpAny F.cx.P .any ops Q fuel listed a w := by
  have hia : ia < ops.size := (Array.getElem?_eq_some_iff.1 hf.here).1
  have hL : ∀ j, ((Array.replicate ops.size false).setIfInBounds ia true).getD j false = true → j = ia := fun j hj => by
    rw [getD_set (by simpa using hia)] at hj
    split at hj
    · assumption
    · rw [Array.getD_eq_getD_getElem?, Array.getElem?_replicate] at hj
      split at hj <;> cases hj
  intro fuel
  induction fuel with
  | zero =>
    intro listed σ a w hs hl hd hrel hx
    have ht : todo ops listed = [] := List.eq_nil_of_length_eq_zero hl
    have hall : ∀ j, j < ops.size → listed.getD j true = true := fun j hj => by
      cases h : listed.getD j true with
      | true => rfl
      | false =>
        have : j ∈ todo ops listed := List.mem_filter.2 ⟨List.mem_range.2 hj, by rw [h]; rfl⟩
        rw [ht] at this; cases this
    rcases hrel with ⟨h1, _⟩ | ⟨h1, hE2⟩
    · rw [hall ia hia] at h1; cases h1
    · have hV : (listed.setIfInBounds ia false).getD ia true = false := by rw [getD_set (by omega), if_pos rfl]
      obtain ⟨A, C, e1, e2, e3⟩ := todo_set (ops := ops) (listed := listed.setIfInBounds ia false) (by rw [Array.size_setIfInBounds]; exact hs) hia hV
      have e4 : todo ops ((listed.setIfInBounds ia false).setIfInBounds ia true) = todo ops listed := todo_ext fun j => by
        rw [getD_set (by rw [Array.size_setIfInBounds]; omega), getD_set (by omega)]
        split
        · rename_i e; rw [e, h1]
        · rfl
      rw [e4, ht] at e2
      have hA : A = [] := (List.append_eq_nil_iff.1 e2.symm).1
      have hC : C = [] := (List.append_eq_nil_iff.1 e2.symm).2
      subst hA; subst hC
      rw [e1] at hx
      have hx' : vcOp F.cx E F.B ops o (vcL F.cx E F.B ops K []) σ := by
        unfold opersOf at hx
        rw [List.nil_append, List.filterMap_cons, hf.here] at hx
        exact hx
      unfold vcOp guardA at hx'
      rw [hf.gd] at hx'
      simp only at hx'
      unfold ex exS isS at hx'
      simp only [hf.op, if_true, if_neg hf.nb] at hx'
      unfold exAlloc at hx'
      rw [hf.dst] at hx'
      split at hx'
      · rename_i d' cs e5 e6
        cases e5
        obtain ⟨i1, z1, e7, e8, rfl⟩ := alloc_cells e6
        rw [hi0] at e7; cases e7
        rw [hz] at e8; cases e8
        refine ⟨?_, hK _ _ _ (relE_alloc hE2 hun) hx'.2⟩
        rw [List.eq_nil_iff_forall_not_mem]
        intro i hi
        obtain ⟨h1, h2, _⟩ := ready_iff.1 hi
        rw [hall i h1] at h2; cases h2
      · exact hx'.elim
  | succ fuel ih =>
    intro listed σ a w hs hl hd hrel hx
    by_cases hfin : listed.getD ia true = true ∧ ∀ j, j < ia → listed.getD j true = true
    · obtain ⟨h1, h2⟩ := hfin
      rcases hrel with ⟨h1', _⟩ | ⟨_, hE2⟩
      · rw [h1] at h1'; cases h1'
      have hV : (listed.setIfInBounds ia false).getD ia true = false := by rw [getD_set (by omega), if_pos rfl]
      obtain ⟨A, C, e1, e2, e3⟩ := todo_set (ops := ops) (listed := listed.setIfInBounds ia false) (by rw [Array.size_setIfInBounds]; exact hs) hia hV
      have e4 : todo ops ((listed.setIfInBounds ia false).setIfInBounds ia true) = todo ops listed := todo_ext fun j => by
        rw [getD_set (by rw [Array.size_setIfInBounds]; omega), getD_set (by omega)]
        split
        · rename_i e; rw [e, h1]
        · rfl
      rw [e4] at e2
      have hA : A = [] := by
        rw [List.eq_nil_iff_forall_not_mem]
        intro j hj
        obtain ⟨h3, h4⟩ := e3 j hj
        rw [getD_set (by omega), if_neg (by omega), h2 j h3] at h4
        cases h4
      subst hA
      rw [List.nil_append] at e1 e2
      rw [e1] at hx
      have hx' : vcOp F.cx E F.B ops o (vcL F.cx E F.B ops K (opersOf ops C)) σ := by
        unfold opersOf at hx ⊢
        rw [List.filterMap_cons, hf.here] at hx
        exact hx
      unfold vcOp guardA at hx'
      rw [hf.gd] at hx'
      simp only at hx'
      unfold ex exS isS at hx'
      simp only [hf.op, if_true, if_neg hf.nb] at hx'
      unfold exAlloc at hx'
      rw [hf.dst] at hx'
      split at hx'
      · rename_i d' cs e5 e6
        cases e5
        obtain ⟨i1, z1, e7, e8, rfl⟩ := alloc_cells e6
        rw [hi0] at e7; cases e7
        rw [hz] at e8; cases e8
        exact any_sound hE hF hR hn hK _ listed _ a w hs hl hd (fun j hj => by rw [hL j hj]; exact h1) (relE_alloc hE2 hun) (by rw [e2]; exact hx'.2)
      · exact hx'.elim
    · refine ⟨fun hr => absurd hr (ready_ne hR hs (fun e => by rw [e] at hl; cases hl)), fun i hi => ?_⟩
      obtain ⟨h1, h2, o', ho', h3⟩ := ready_iff.1 hi
      have hlen : (todo ops (listed.setIfInBounds i true)).length = fuel := by
        obtain ⟨A, C, e1, e2, _⟩ := todo_set (ops := ops) hs h1 h2
        rw [e1] at hl
        rw [e2]
        simp only [List.length_append, List.length_cons] at hl ⊢
        omega
      have hdown := down_set hs h1 ho' hd h3
      have hs' : (listed.setIfInBounds i true).size = ops.size := by rw [Array.size_setIfInBounds]; exact hs
      rcases Nat.lt_trichotomy i ia with hlt | heq | hgt
      · have hne : i ≠ ia := Nat.ne_of_lt hlt
        obtain ⟨g1, g2⟩ := hf.gop i o' hlt ho'
        have hV : (listed.setIfInBounds ia false).getD i true = false := by rw [getD_set (by omega), if_neg hne]; exact h2
        obtain ⟨A, C, e1, e2, e3⟩ := todo_set (ops := ops) (listed := listed.setIfInBounds ia false) (by rw [Array.size_setIfInBounds]; exact hs) h1 hV
        have e4 : todo ops ((listed.setIfInBounds i true).setIfInBounds ia false) = A ++ C := by
          rw [← e2]
          refine todo_ext fun j => ?_
          rw [getD_set (by omega), getD_set (by omega), getD_set (by rw [Array.size_setIfInBounds]; omega), getD_set (by omega)]
          by_cases ej : j = ia
          · rw [if_pos ej, if_neg (by omega), if_pos ej]
          · rw [if_neg ej, if_neg ej]
        have hx' : vcL F.cx E F.B ops K (o' :: (opersOf ops A ++ opersOf ops C)) σ := by
          refine vcL_front hE (opersOf ops A) σ (fun x hx => ?_) ?_
          · obtain ⟨j, hj, hjx⟩ := List.mem_filterMap.1 hx
            obtain ⟨hjlt, hul⟩ := e3 j hj
            rw [getD_set (by omega), if_neg (by omega)] at hul
            rcases hR.pair i j o' x ho' hjx hjlt (by
              cases hc : ((Array.replicate ops.size false).setIfInBounds ia true).getD i false with
              | false => rfl
              | true => exact absurd (hL i hc) hne) (by
              cases hc : ((Array.replicate ops.size false).setIfInBounds ia true).getD j false with
              | false => rfl
              | true => have := hL j hc; omega) with hm | hm
            · have := listed_of_mask hR hd hs i j hjlt h1 hm (fun e he hb => h3 e (by rw [ho'] at he; exact he) hb)
              have hjl : j < listed.size := by omega
              rw [Array.getD_eq_getD_getElem?, Array.getElem?_eq_getElem hjl] at this hul
              rw [Option.getD_some] at this hul
              rw [this] at hul
              cases hul
            · exact hm
          · rw [e1] at hx
            unfold opersOf at hx ⊢
            rw [List.filterMap_append, List.filterMap_cons, ho'] at hx
            exact hx
        have hfinal : ∀ τ, vcL F.cx E F.B ops K (opersOf ops A ++ opersOf ops C) τ → vcL F.cx E F.B ops K (opersOf ops (todo ops ((listed.setIfInBounds i true).setIfInBounds ia false))) τ := fun τ hτ => by
          rw [e4]
          unfold opersOf at hτ ⊢
          rw [List.filterMap_append]
          exact hτ
        have hkeep : (listed.setIfInBounds i true).getD ia true = listed.getD ia true := by rw [getD_set (by omega), if_neg (Ne.symm hne)]
        rcases hrel with ⟨k1, k2, k3⟩ | ⟨k1, k2⟩
        · refine wpOp_step ho' fun K' hK' => vcOp_sound hE hF k2 (hn o' (Array.mem_of_getElem? ho')) (vcOp_keep g1 g2 k3 hx') fun σ' a' w' h' hx2 => hK' _ _ (ih _ σ' a' w' hs' hlen hdown (.inl ⟨hkeep.trans k1, h', hx2.2⟩) (hfinal _ hx2.1))
        · refine wpOp_step ho' fun K' hK' => relE_op hE hF k2 (hn o' (Array.mem_of_getElem? ho')) g1 g2 hx' fun σ' a' w' h' hx2 => hK' _ _ (ih _ σ' a' w' hs' hlen hdown (.inr ⟨hkeep.trans k1, h'⟩) (hfinal _ hx2))
      · subst heq
        rw [hf.here] at ho'
        cases ho'
        rcases hrel with ⟨k1, k2, k3⟩ | ⟨k1, _⟩
        · obtain ⟨M, ρ, h⟩ := k2
          refine wpOp_step hf.here fun K' hK' => ?_
          rw [if_pos (by unfold Region.wanted; rw [hf.gd])]
          have hrun : (execOp a.eval o).run F.cx.P w = .ok (.value (.pointer (some ⟨w.heap.size, 0, none⟩))) (w.alloc (.cells z.cells T)) := by
            simp only [execOp, hf.op, Instr.alloc, zeroValue, run_typeInfo w hi0, hz, newVar, newRow, Sem.run_bind, run_newObj, Sem.run_pure, Result.andThen_ok]
            rfl
          unfold Oper.wp
          rw [hrun, Oper.upon_value, hf.dst]
          have hdn : d < F.n := hn o (Array.mem_of_getElem? hf.here) d hf.dst
          have hg := Gr.alloc none w (.cells z.cells T)
          have h2' := h.repl hF 0 (B0 := none) (ob := .arr 0 0 []) (w' := w)
          have hnb : ∀ b, M b → b < w.heap.size := fun b hb => (h.mb b hb).2
          have hM' : Rel1 F (fun b => M b ∨ b = w.heap.size) ρ σ (a.put (some d) (.pointer (some ⟨w.heap.size, 0, none⟩))) (w.alloc (.cells z.cells T)) := by
            have hok : ∀ b, okM F M b → b < w.heap.size → okM F (fun b => M b ∨ b = w.heap.size) b := fun b hb hlt => ⟨hb.1, fun e => e.elim hb.2 (fun e => by omega)⟩
            have hgF : Gr F.cx.g w (w.alloc (.cells z.cells T)) := Gr.alloc _ _ _
            refine ⟨h.gr.trans hgF, h.st.keep hgF.size (fun b hb => hg.block b hb (by simp)), h.gl.keep h.st hgF, fun b hb => ?_, fun t => ?_, fun k o2 hk => ?_, h.ne, h.df, by simp [Act.put]; exact h.nt, ?_⟩
            · rcases hb with hb | rfl
              · exact ⟨(h.mb b hb).1, Nat.lt_trans (h.mb b hb).2 (alloc_size w _)⟩
              · exact ⟨h.gr.size, alloc_size w _⟩
            · rw [getD_put (Nat.lt_of_lt_of_le hdn h.nt)]
              split
              · rename_i e
                rw [e, k3]
                exact trivial
              · exact (h.sl t).mono (Gr.refl _ _) hgF.size hok (fun b _ hlt => hg.block b hlt (by simp))
            · have h0 := h.ob k o2 hk
              cases o2 with
              | box T' cs =>
                obtain ⟨b, vs, e1, e2, e3, e4, e5⟩ := h0
                exact ⟨b, vs, e1, .inl e2, (hg.block b (hnb b e2) (by simp)).trans e3, e4, fun j x u hx hu => ⟨(e5 j x u hx hu).1, (e5 j x u hx hu).2.mono (Gr.refl _ _) hgF.size hok (fun b _ hlt => hg.block b hlt (by simp))⟩⟩
              | bld T' k' =>
                obtain ⟨b, p, e1, e2, e3, e4, e5⟩ := h0
                exact ⟨b, p, e1, .inl e2, (hg.block b (hnb b e2) (by simp)).trans e3, e4, e5⟩
              | mp T' l =>
                obtain ⟨b, es, clk, e1, e2, e3, e4⟩ := h0
                exact ⟨b, es, clk, e1, .inl e2, (hg.block b (hnb b e2) (by simp)).trans e3, e4⟩
              | arr e' z' l =>
                obtain ⟨cs, e1, e2, e3, e4⟩ := h0
                refine ⟨cs, ⟨e1.1, ?_⟩, fun b hb => .inl (e2 b hb), e3, e4.mono hgF.size hok (fun b _ hlt => hg.block b hlt (by simp))⟩
                rcases e1.2 with e | ⟨g, cap, cur, f1, f2, f3, f4⟩
                · exact .inl e
                · exact .inr ⟨g, cap, cur, f1, f2, (hg.block g (hnb g (e2 g (by rw [f1]; rfl))) (by simp)).trans f3, f4⟩
            · obtain ⟨q1, q2, q3⟩ := h.kx
              refine ⟨Nat.le_trans q1 hgF.size, fun b hx hnn hb => (hgF.block b (Nat.lt_of_lt_of_le hb q1) hnn).trans (q2 b hx hnn hb), fun b hb => ?_⟩
              rcases hb with hb | rfl
              · exact q3 b hb
              · exact .inr q1
          refine hK' _ _ (ih _ σ _ _ hs' hlen hdown (.inr ⟨by rw [getD_set (by omega), if_pos rfl], _, ρ, w.heap.size, hM', .inr rfl, heap_alloc_new w _, by rw [getD_put (Nat.lt_of_lt_of_le hdn h.nt), if_pos rfl], fun k o2 hk hb => ?_⟩) ?_)
          · have h0 := h.ob k o2 hk
            have : M w.heap.size := ObR.blk h0 hb
            have := hnb _ this
            omega
          · have : todo ops ((listed.setIfInBounds i true).setIfInBounds i false) = todo ops (listed.setIfInBounds i false) := todo_ext fun j => by
              rw [getD_set (by omega), getD_set (by omega), getD_set (by omega)]
              split <;> rfl
            rw [this]
            exact hx
        · rw [k1] at h2; cases h2
      · exfalso
        have hall : ∀ k, k < i → listed.getD k true = true := fun k hk => by
          have hm := hf.late i o' hgt ho' k hk
          have := listed_of_mask hR hd hs i k hk h1 hm (fun e he hb => h3 e (by rw [ho'] at he; exact he) hb)
          have hkl : k < listed.size := by omega
          rw [Array.getD_eq_getD_getElem?, Array.getElem?_eq_getElem hkl] at this ⊢
          exact this
        exact hfin ⟨hall ia hgt, fun j hj => hall j (by omega)⟩
/-- What is asked ahead of such a region. -/
def preOk (P : Program) : List Oper → Prop
  | [] => True
  | o :: _ => match o.op, o.dst with
    | .alloc T, some _ => (match TzeroA P T with
      | some cs => hasUn cs = false
      | none => False)
    | _, _ => False
def preA : List Oper → St → St
  | [], σ => σ
  | o :: _, σ => match o.dst with
    | some d => σ.delS d
    | none => σ
theorem drawF_sound (hE : EnvOk F.cx E) (hF : F.Wf) {ia : Nat} (hR : freeB ops ia = true) (hn : ∀ o ∈ ops, ∀ d, o.dst = some d → d < F.n) (hK : ∀ σ' a' w', Rel F σ' a' w' → K σ' → Q .normal a' w') {σ : St} {a : Act} {w : World} {id : Nat} (h : Rel F σ a w)
    (hp : preOk F.cx.P (optL ops [ia])) (hx : vcL F.cx E F.B ops K ops.toList (preA (optL ops [ia]) σ)) : (Code.region id ops true).wp F.cx.P Q a w := by
  obtain ⟨⟨o, T, d, hf⟩, hRF⟩ := freeOk hR
  have hia : ia < ops.size := (Array.getElem?_eq_some_iff.1 hf.here).1
  have ho1 : optL ops [ia] = [o] := by
    unfold optL
    rw [List.filterMap_cons, hf.here]
    rfl
  rw [ho1] at hp hx
  have hp' : (match TzeroA F.cx.P T with
      | some cs => hasUn cs = false
      | none => False) := by
    simp only [preOk, hf.op, hf.dst] at hp
    exact hp
  split at hp'
  · rename_i cs hcs
    obtain ⟨i0, z, hi0, hz, rfl⟩ := alloc_cells hcs
    have hx' : vcL F.cx E F.B ops K ops.toList (σ.delS d) := by
      simp only [preA, hf.dst] at hx
      exact hx
    refine wp_region_draw fun t => ?_
    have hsch : Region.schedule (F.cx.P.follows .mixedOrders) ops t = Region.linearise .any ops t := by
      unfold Region.schedule
      rw [hE.bld.mix]
      simp
    rw [hsch]
    have hrep : ∀ j, j < ops.size → (Array.replicate ops.size false).getD j true = false := fun j hj => by
      rw [Array.getD_eq_getD_getElem?, Array.getElem?_replicate, if_pos hj]
      rfl
    have ht : todo ops ((Array.replicate ops.size false).setIfInBounds ia false) = List.range ops.size := by
      unfold todo
      rw [List.filter_eq_self]
      intro i hi
      rw [getD_set (by simpa using hia)]
      split
      · rfl
      · rw [hrep i (List.mem_range.1 hi)]; rfl
    have ht2 : todo ops (Array.replicate ops.size false) = List.range ops.size := by
      unfold todo
      rw [List.filter_eq_self]
      intro i hi
      rw [hrep i (List.mem_range.1 hi)]; rfl
    have ho : opersOf ops (List.range ops.size) = ops.toList := by
      unfold opersOf
      cases ops with
      | mk l =>
        simp only [List.getElem?_toArray, List.size_toArray]
        have key : ∀ (l m : List Oper), List.filterMap (fun i => (m ++ l)[i]?) (List.range' m.length l.length) = l := by
          intro l
          induction l with
          | nil => intro m; rfl
          | cons x r ih =>
            intro m
            rw [List.length_cons, List.range'_succ, List.filterMap_cons, List.getElem?_append_right (Nat.le_refl _), Nat.sub_self]
            have := ih (m ++ [x])
            rw [List.append_assoc, List.length_append] at this
            simpa using this
        rw [List.range_eq_range']
        exact key l []
    obtain ⟨M, ρ, h1⟩ := h.delS d
    have hg : Gr F.cx.g w { w with drawn := w.drawn + 1 } := ⟨rfl, rfl, rfl, Nat.le_refl _, fun _ _ _ => rfl⟩
    refine wpAny_sound ops.size t _ a _ (any_free hE hF hf hRF hi0 hz hp' hn hK ops.size _ (σ.delS d) a _ (by simp) (by rw [ht2]; simp) (fun i o hi hl => ?_) (.inl ⟨hrep ia hia, ⟨M, ρ, h1.grow (k := 0) hF hg (h1.st.keep2 (Nat.le_refl _) fun _ _ _ _ => rfl)⟩, ?_⟩) (by rw [ht, ho]; exact hx'))
    · rw [hrep i (Array.getElem?_eq_some_iff.1 hi).1] at hl
      cases hl
    · show upd (σ.del d).s d .un d = .un
      rw [upd_apply, if_pos rfl]
  · exact hp'.elim
end
end Go.Avc

namespace Go.Avc
open Go

/-- What lies there already, though nothing is told of it yet. -/
inductive PK where
  | box (T : TypeId) (zs : Array Value)
  | arr (e : TypeId) (z : Nat) (l : List (List D))
structure Pend where
  d : Nat
  k : PK
def PK.r (d : Nat) : PK → AV
  | .box _ _ => .ptr d 0
  | .arr _ _ _ => .own d
def PK.ob : PK → Ob
  | .box T zs => .box T (zs.toList.map cv)
  | .arr e z l => .arr e z l
def Pend.app (p : Pend) (σ : St) : St := σ.newOb p.d p.d (p.k.r p.d) p.k.ob
def PK.ok (F : Fr) (M : Nat → Prop) (w : World) (v : Value) : PK → Prop
  | .box T zs => ∃ b, v = .pointer (some ⟨b, 0, none⟩) ∧ M b ∧ w.heap[b]? = some (.cells zs T (0, 0)) ∧ hasUn (zs.toList.map cv) = false
  | .arr e z l => ObR F M (fun _ => undef) w (.arr e z l) v
def RelP (F : Fr) (P : Pend → Prop) (σ : St) (a : Act) (w : World) : Prop := ∃ M ρ, Rel1 F M ρ σ a w ∧
  (∀ p, P p → p.k.ok F M w (a.tmps.getD p.d undef) ∧ ∀ k o, σ.o k = some o → ∀ b, blkOf (a.tmps.getD p.d undef) = some b → blkOf (ρ k) ≠ some b) ∧
  ∀ p q, P p → P q → p.d ≠ q.d → ∀ b, blkOf (a.tmps.getD p.d undef) = some b → blkOf (a.tmps.getD q.d undef) ≠ some b

section
variable {F : Fr} {M : Nat → Prop} {ρ : Nat → Value} {σ : St} {a : Act} {w w' : World} {E : Env} {ops : Array Oper} {K : St → Prop} {Q : Exit → Act → World → Prop} {P P' : Pend → Prop}

theorem PK.blk {k : PK} {v : Value} (h : k.ok F M w v) {b : Nat} (hb : blkOf v = some b) : M b := by
  cases k with
  | box T zs =>
    obtain ⟨b', rfl, hM, _⟩ := h
    simp only [blkOf, Option.some.injEq] at hb
    exact hb ▸ hM
  | arr e z l => exact ObR.blk (show ObR F M (fun _ => undef) w (.arr e z l) v from h) hb
theorem PK.grow (hF : F.Wf) {k : PK} {v : Value} (h : k.ok F M w v) (hm : ∀ b, M b → F.w0.heap.size ≤ b ∧ b < w.heap.size) (hg : Gr F.cx.g w w') : k.ok F M w' v := by
  cases k with
  | box T zs =>
    obtain ⟨b', hv, hM, hh, hu⟩ := h
    exact ⟨b', hv, hM, (hg.block b' (hm b' hM).2 (M_ne hF (hm b' hM).1)).trans hh, hu⟩
  | arr e z l => exact ObR.grow hF (show ObR F M (fun _ => undef) w (.arr e z l) v from h) hm hg
theorem ObR.more {N : Nat → Prop} {o : Ob} {v : Value} (h : ObR F M ρ w o v) (hm : ∀ b, M b → b < w.heap.size) (hg : Gr none w w') (hN : ∀ b, N b → w.heap.size ≤ b) : ObR F (fun b => M b ∨ N b) ρ w' o v := by
  have hok : ∀ b, okM F M b → b < w.heap.size → okM F (fun b => M b ∨ N b) b := fun b hb hlt => ⟨hb.1, fun e => e.elim hb.2 (fun e => by have := hN b e; omega)⟩
  cases o with
  | box T' cs =>
    obtain ⟨b, vs, e1, e2, e3, e4, e5⟩ := h
    exact ⟨b, vs, e1, .inl e2, (hg.block b (hm b e2) (by simp)).trans e3, e4, fun j x u hx hu => ⟨(e5 j x u hx hu).1, (e5 j x u hx hu).2.mono (Gr.refl _ _) hg.size hok (fun b _ hlt => hg.block b hlt (by simp))⟩⟩
  | bld T' k' =>
    obtain ⟨b, p, e1, e2, e3, e4, e5⟩ := h
    exact ⟨b, p, e1, .inl e2, (hg.block b (hm b e2) (by simp)).trans e3, e4, e5⟩
  | mp T' l =>
    obtain ⟨b, es, clk, e1, e2, e3, e4⟩ := h
    exact ⟨b, es, clk, e1, .inl e2, (hg.block b (hm b e2) (by simp)).trans e3, e4⟩
  | arr e' z' l =>
    obtain ⟨cs, e1, e2, e3, e4⟩ := h
    refine ⟨cs, ⟨e1.1, ?_⟩, fun b hb => .inl (e2 b hb), e3, e4.mono hg.size hok (fun b _ hlt => hg.block b hlt (by simp))⟩
    rcases e1.2 with e | ⟨g, cap, cur, f1, f2, f3, f4⟩
    · exact .inl e
    · exact .inr ⟨g, cap, cur, f1, f2, (hg.block g (hm g (e2 g (by rw [f1]; rfl))) (by simp)).trans f3, f4⟩
theorem PK.more {N : Nat → Prop} {k : PK} {v : Value} (h : k.ok F M w v) (hm : ∀ b, M b → b < w.heap.size) (hg : Gr none w w') (hN : ∀ b, N b → w.heap.size ≤ b) : k.ok F (fun b => M b ∨ N b) w' v := by
  cases k with
  | box T zs =>
    obtain ⟨b', hv, hM, hh, hu⟩ := h
    exact ⟨b', hv, .inl hM, (hg.block b' (hm b' hM) (by simp)).trans hh, hu⟩
  | arr e z l => exact ObR.more (show ObR F M (fun _ => undef) w (.arr e z l) v from h) hm hg hN
/-- New blocks are the call's own. -/
theorem Rel1.more {N : Nat → Prop} (h : Rel1 F M ρ σ a w) (hg : Gr none w w') (hN : ∀ b, N b → w.heap.size ≤ b ∧ b < w'.heap.size) : Rel1 F (fun b => M b ∨ N b) ρ σ a w' := by
  have hok : ∀ b, okM F M b → b < w.heap.size → okM F (fun b => M b ∨ N b) b := fun b hb hlt => ⟨hb.1, fun e => e.elim hb.2 (fun e => by have := (hN b e).1; omega)⟩
  have hgF : Gr F.cx.g w w' := ⟨hg.os, hg.tape, hg.output, hg.size, fun b hb _ => hg.block b hb (by simp)⟩
  refine ⟨h.gr.trans hgF, h.st.keep hg.size (fun b hb => hg.block b hb (by simp)), h.gl.keep h.st hgF, fun b hb => ?_, fun t => (h.sl t).mono (Gr.refl _ _) hg.size hok (fun b _ hlt => hg.block b hlt (by simp)), fun k o hk => (h.ob k o hk).more (fun b hb => (h.mb b hb).2) hg (fun b hb => (hN b hb).1), h.ne, h.df, h.nt, ?_⟩
  · rcases hb with hb | hb
    · exact ⟨(h.mb b hb).1, Nat.lt_of_lt_of_le (h.mb b hb).2 hg.size⟩
    · exact ⟨Nat.le_trans h.gr.size (hN b hb).1, (hN b hb).2⟩
  · obtain ⟨q1, q2, q3⟩ := h.kx
    refine ⟨Nat.le_trans q1 hg.size, fun b hx hnn hb => (hgF.block b (Nat.lt_of_lt_of_le hb q1) hnn).trans (q2 b hx hnn hb), fun b hb => ?_⟩
    rcases hb with hb | hb
    · exact q3 b hb
    · exact .inr (Nat.le_trans q1 (hN b hb).1)
theorem RelP.less (h : RelP F P σ a w) (hP : ∀ p, P' p → P p) : RelP F P' σ a w := by
  obtain ⟨M, ρ, h1, h2, h3⟩ := h
  exact ⟨M, ρ, h1, fun p hp => h2 p (hP p hp), fun p q hp hq => h3 p q (hP p hp) (hP q hq)⟩
theorem RelP.rel (h : RelP F P σ a w) : Rel F σ a w := by
  obtain ⟨M, ρ, h1, _⟩ := h
  exact ⟨M, ρ, h1⟩
theorem Rel.relP (h : Rel F σ a w) (hP : ∀ p, ¬ P p) : RelP F P σ a w := by
  obtain ⟨M, ρ, h1⟩ := h
  exact ⟨M, ρ, h1, fun p hp => absurd hp (hP p), fun p q hp => absurd hp (hP p)⟩
theorem relP_op (hE : EnvOk F.cx E) (hF : F.Wf) (h : RelP F P σ a w) {o : Oper} (hn : ∀ d, o.dst = some d → d < F.n) (hs : isS o.op = false) (hd : ∀ p, P p → o.dst ≠ some p.d) (hx : vcOp F.cx E F.B ops o K σ)
    {K' : Act → World → Prop} (hK : ∀ σ' a' w', RelP F P σ' a' w' → K σ' → K' a' w') : if Region.wanted o (yielded ops a.tmps) = true then Oper.wp F.cx.P o a w K' Q else K' (a.put o.dst undef) w := by
  obtain ⟨M, ρ, h, h2, h3⟩ := h
  have hsz : ∀ x, o.dst = some x → x < a.tmps.size := fun x hx => Nat.lt_of_lt_of_le (hn x hx) h.nt
  unfold vcOp at hx
  split at hx
  · exact hx.elim
  · rename_i hg
    rw [if_pos (wanted_of h hg)]
    unfold ex at hx
    rw [hs] at hx
    simp only [Bool.false_eq_true, if_false] at hx
    unfold exG at hx
    split at hx
    · exact hx.elim
    · rename_i g hgo
      obtain ⟨x1, x2, x3⟩ := hx
      refine gop_sound hE hF h hgo x2 x1 K' Q (fun r v w' hr hgr hst hrel => hK _ _ _ ⟨M, ρ, (h.grow hF hgr hst).put hn hrel, fun p hp => ?_, fun p q hp hq hne => ?_⟩ (x3 r hr))
      · rw [put_getD_ne (hd p hp) hsz]
        refine ⟨PK.grow hF (h2 p hp).1 h.mb hgr, fun k o' hk => ?_⟩
        rw [put_o] at hk
        exact (h2 p hp).2 k o' hk
      · rw [put_getD_ne (hd p hp) hsz, put_getD_ne (hd q hq) hsz]
        exact h3 p q hp hq hne
  · rename_i hg
    rw [wanted_of h hg]
    rw [if_neg (by simp)]
    refine hK _ _ _ ⟨M, ρ, h.put hn (by exact (rfl : undef = Value.tuple #[])), fun p hp => ?_, fun p q hp hq hne => ?_⟩ hx
    · rw [put_getD_ne (hd p hp) hsz]
      refine ⟨(h2 p hp).1, fun k o' hk => ?_⟩
      rw [put_o] at hk
      exact (h2 p hp).2 k o' hk
    · rw [put_getD_ne (hd p hp) hsz, put_getD_ne (hd q hq) hsz]
      exact h3 p q hp hq hne
/-- What was made is told. -/
theorem relP_tell (h : RelP F P σ a w) {p : Pend} (hp : P p) (hP : ∀ q, P' q → P q ∧ q.d ≠ p.d) : RelP F P' (p.app σ) a w := by
  obtain ⟨M, ρ, h, h2, h3⟩ := h
  obtain ⟨d, k⟩ := p
  obtain ⟨v, hv⟩ : ∃ v, a.tmps.getD d undef = v := ⟨_, rfl⟩
  obtain ⟨hok, hnb⟩ := h2 _ hp
  simp only [hv] at hok hnb
  have h1 : Rel1 F M (upd ρ d v) (σ.del d) a w := h.del fun k hk => by rw [upd_apply, if_neg hk]
  have hd : upd ρ d v d = v := by rw [upd_apply, if_pos rfl]
  have hob : ∀ j o, upd (σ.del d).o d (some k.ob) j = some o → j ≠ d → (σ.del d).o j = some o ∧ ∃ o', σ.o j = some o' := fun j o hk hkd => by
    rw [upd_apply, if_neg hkd] at hk
    refine ⟨hk, ?_⟩
    simp only [St.del, if_neg hkd, Option.map_eq_some_iff] at hk
    obtain ⟨o', ho', _⟩ := hk
    exact ⟨o', ho'⟩
  have key : ∀ j o, upd (σ.del d).o d (some k.ob) j = some o → j ≠ d → ∀ b, blkOf v = some b → blkOf (upd ρ d v j) ≠ some b := fun j o hk hkd b hb => by
    rw [upd_apply, if_neg hkd]
    obtain ⟨_, o', ho'⟩ := hob j o hk hkd
    exact hnb j o' ho' b hb
  refine ⟨M, upd ρ d v, ⟨h1.gr, h1.st, h1.gl, h1.mb, fun t => ?_, fun j o hk => ?_, fun j j' o o' hk hk' hkk => ?_, h1.df, h1.nt, h1.kx⟩, fun q hq => ⟨(h2 q (hP q hq).1).1, fun j o hk b hb => ?_⟩, fun q q' hq hq' => h3 q q' (hP q hq).1 (hP q' hq').1⟩
  · show relA _ _ _ _ _ (upd (σ.del d).s d (k.r d) t) _
    rw [upd_apply]
    split
    · rename_i e
      subst e
      rw [hv]
      cases k with
      | box T zs =>
        obtain ⟨b, rfl, _⟩ := hok
        exact ⟨b, hd, rfl⟩
      | arr e z l => exact hd.symm
    · exact h1.sl t
  · by_cases hkd : j = d
    · subst hkd
      have hk2 : upd (σ.del j).o j (some k.ob) j = some o := hk
      rw [upd_apply, if_pos rfl] at hk2
      cases hk2
      rw [hd]
      cases k with
      | box T zs =>
        obtain ⟨b, rfl, hM, hh, hun⟩ := hok
        refine ⟨b, zs, rfl, hM, hh, by simp, fun i y u hy hu => ?_⟩
        rw [List.getElem?_map, Option.map_eq_some_iff] at hy
        obtain ⟨x, hx, rfl⟩ := hy
        rw [Array.getElem?_toList] at hx
        rw [hx] at hu
        obtain rfl : x = u := Option.some.inj hu
        refine ⟨?_, cv_rel x⟩
        have := hasUn_ne _ hun x (List.mem_of_getElem? (by rw [Array.getElem?_toList]; exact hx))
        cases x <;> first | rfl | exact absurd rfl this
      | arr e z l => exact hok
    · exact h1.ob j o (hob j o hk hkd).1
  · by_cases hkd : j = d
    · subst hkd
      have hkd' : j' ≠ j := fun e => hkk e.symm
      intro b hb hb'
      rw [hd] at hb
      exact key j' o' hk' hkd' b hb hb'
    · by_cases hkd' : j' = d
      · subst hkd'
        intro b hb hb'
        rw [hd] at hb'
        exact key j o hk hkd b hb' hb
      · exact h1.ne j j' o o' (hob j o hk hkd).1 (hob j' o' hk' hkd').1 hkk
  · by_cases hkd : j = d
    · subst hkd
      rw [hd, ← hv]
      exact h3 q _ (hP q hq).1 hp (hP q hq).2 b hb
    · rw [upd_apply, if_neg hkd]
      obtain ⟨_, o', ho'⟩ := hob j o hk hkd
      exact (h2 q (hP q hq).1).2 j o' ho' b hb
theorem put_un {d : Nat} (h : σ.s d = .un) : σ.put (some d) .un = σ := by
  show ({ σ with s := upd σ.s d .un } : St) = σ
  have : upd σ.s d .un = σ.s := by
    funext t
    rw [upd_apply]
    split
    · rename_i e; rw [e, h]
    · rfl
  rw [this]
/-- Something new was made: it is not told yet. -/
theorem relP_new (hF : F.Wf) (h : Rel1 F M ρ σ a w) (h2 : ∀ p, P p → p.k.ok F M w (a.tmps.getD p.d undef) ∧ ∀ k o, σ.o k = some o → ∀ b, blkOf (a.tmps.getD p.d undef) = some b → blkOf (ρ k) ≠ some b)
    (h3 : ∀ p q, P p → P q → p.d ≠ q.d → ∀ b, blkOf (a.tmps.getD p.d undef) = some b → blkOf (a.tmps.getD q.d undef) ≠ some b) {d : Nat} (hd : d < F.n) (hu : σ.s d = .un) (hP : ∀ q, P q → q.d ≠ d) {k : PK} {v : Value} {c : Nat} (hg : Gr F.cx.g w w') (hst : StAt F.cx (F.N + (σ.c + c)) w') (hv : ∀ b, blkOf v = some b → w.heap.size ≤ b ∧ b < w'.heap.size)
    (hok : ∀ w1, Gr none w w1 → w1.heap.size = w'.heap.size → (∀ b, w.heap.size ≤ b → w1.heap[b]? = w'.heap[b]?) → k.ok F (fun b => M b ∨ blkOf v = some b) w1 v) :
    RelP F (fun q => P q ∨ q = ⟨d, k⟩) { σ with c := σ.c + c } (a.put (some d) v) w' := by
  obtain ⟨w1, g1, g2, g3, g4⟩ := gr_split hg (fun b hb => h.st.lt hb)
  have e1 := h.more (N := fun b => blkOf v = some b) g1 (fun b hb => by rw [g3]; exact hv b hb)
  have e2 := e1.grow hF g2 hst
  have e3 := e2.put (dst := some d) (r := .un) (v := v) (fun x hx => by cases hx; exact hd) trivial
  rw [put_un (σ := { σ with c := σ.c + c }) hu] at e3
  have hdt : (a.put (some d) v).tmps.getD d undef = v := by rw [getD_put (Nat.lt_of_lt_of_le hd h.nt), if_pos rfl]
  have hqt : ∀ q, P q → (a.put (some d) v).tmps.getD q.d undef = a.tmps.getD q.d undef := fun q hq => put_getD_ne (fun e => hP q hq (Option.some.inj e).symm) (fun x hx => by cases hx; exact Nat.lt_of_lt_of_le hd h.nt)
  have hlow : ∀ q, P q → ∀ b, blkOf (a.tmps.getD q.d undef) = some b → b < w.heap.size := fun q hq b hb => (h.mb b (PK.blk (h2 q hq).1 hb)).2
  refine ⟨_, ρ, e3, fun q hq => ?_, fun q q' hq hq' hne b => ?_⟩
  · rcases hq with hq | rfl
    · rw [hqt q hq]
      refine ⟨PK.grow hF (PK.more (h2 q hq).1 (fun b hb => (h.mb b hb).2) g1 (fun b hb => (hv b hb).1)) e1.mb g2, (h2 q hq).2⟩
    · rw [hdt]
      refine ⟨PK.grow hF (hok w1 g1 g3 g4) e1.mb g2, fun j o hk b hb hb' => ?_⟩
      have := (h.mb b (ObR.blk (h.ob j o hk) hb')).2
      have := (hv b hb).1
      omega
  · rcases hq with hq | rfl <;> rcases hq' with hq' | rfl
    · rw [hqt q hq, hqt q' hq']
      exact h3 q q' hq hq' hne b
    · rw [hqt q hq, hdt]
      intro hb hb'
      have := hlow q hq b hb
      have := (hv b hb').1
      omega
    · rw [hqt q' hq', hdt]
      intro hb hb'
      have := hlow q' hq' b hb'
      have := (hv b hb).1
      omega
    · exact absurd rfl hne

/-! ### Calls for an own row whose answer is not told yet -/
def exW (cx : Cx) (E : Env) (B : Nat) (σ : St) (f : FuncId) (args : Array Operand) (K : TypeId → Nat → DV → St → Prop) : Prop :=
  ∃ sp e z g, E.Ω f = some (sp, e, z) ∧ gOwn cx E σ f args = some g ∧ g.pre ∧ σ.c + g.cost ≤ B ∧ ∀ r, g.post r → ∃ x, r = .dv x ∧ K e z x { σ with c := σ.c + g.cost }
theorem exW_mono {cx : Cx} {B : Nat} {f : FuncId} {args : Array Operand} {K K' : TypeId → Nat → DV → St → Prop} (hK : ∀ e z x σ, K e z x σ → K' e z x σ) (h : exW cx E B σ f args K) : exW cx E B σ f args K' := by
  obtain ⟨sp, e, z, g, h1, h2, h3, h4, h5⟩ := h
  refine ⟨sp, e, z, g, h1, h2, h3, h4, fun r hr => ?_⟩
  obtain ⟨x, h6, h7⟩ := h5 r hr
  exact ⟨x, h6, hK _ _ _ _ h7⟩
theorem exO_exW {cx : Cx} {B : Nat} {f : FuncId} {args : Array Operand} {d : Option Tmp} (hz : ∀ sp e z, E.Ω f = some (sp, e, z) → z < 1000) (h : exO cx E B σ f args d K) : exW cx E B σ f args fun e z x τ => K (owD0 τ d e z x) := by
  unfold exO at h
  split at h
  · exact h.elim
  · rename_i g hg
    have hg' := hg
    unfold gOwn at hg
    split at hg
    · rename_i sp e z hΩ
      obtain ⟨h1, h2, h3⟩ := h
      refine ⟨sp, e, z, g, hΩ, hg', h1, h2, fun r hr => ?_⟩
      have h4 := h3 r hr
      rw [hΩ] at h4
      have key : ∀ r : AV, OwnK (some (sp, e, z)) r (fun e z x => K (owD { σ with c := σ.c + g.cost } d (muA cx σ args.toList) e z x)) → ∃ x, r = .dv x ∧ K (owD0 { σ with c := σ.c + g.cost } d e z x) := by
        intro r hr
        cases r with
        | dv x =>
          refine ⟨x, rfl, ?_⟩
          have hr : K (owD { σ with c := σ.c + g.cost } d (muA cx σ args.toList) e z x) := hr
          unfold owD at hr
          rw [if_neg (by have := hz sp e z hΩ; omega), if_neg (by have := hz sp e z hΩ; omega)] at hr
          exact hr
        | _ => exact hr.elim
      exact key r h4
    · cases hg
theorem exW_swap (hE : EnvOk F.cx E) {x o : Oper} {f : FuncId} {args ts : _} (ho : o.op = .call { callee := .value (.func f), args := args, argTypes := ts }) (hz : ∀ sp e z, E.Ω f = some (sp, e, z) → z < 1000) (hx : isS x.op = false) (hap : Oper.apart ops x o = true) {B : Nat} {K : TypeId → Nat → DV → St → Prop}
    (h : vcOp F.cx E B ops x (fun τ => exW F.cx E B τ f args K) σ) : exW F.cx E B σ f args fun e z y τ => vcOp F.cx E B ops x (K e z y) τ := by
  obtain ⟨a1, a2, a3⟩ := Oper.apart_spec hap
  -- what the call asks does not hang on x
  have back : ∀ (k : Nat) (d : Option Tmp) (r : AV), (∀ e, d = some e → e ∉ o.looksAt ops) → ∀ (k2 : Nat) {g : GO}, gOwn F.cx E (σ.adv k d r) f args = some g → g.pre → ∃ g', gOwn F.cx E σ f args = some g' ∧ g'.pre ∧ g'.cost = g.cost ∧ g'.post = g.post := by
    intro k d r hd _ g hg hp
    have hs : ∀ t ∈ readsOf o, (σ.adv k d r).s t = σ.s t := fun t ht => adv_s fun e he x => hd e he (x ▸ reads_looks ht)
    have hev : ∀ x ∈ args.toList, ev F.cx (σ.adv k d r) x = ev F.cx σ x := fun x hx => ev_congr (o := o) hs (by
      rw [ho]
      simp only [Op.operands, Call.operands, Array.toList_append, List.mem_append]
      exact .inr hx)
    have hm : (args.toList.map fun x => argA E (σ.adv k d r) (ev F.cx (σ.adv k d r) x)) = args.toList.map fun x => argA E σ (ev F.cx σ x) := List.map_congr_left fun x hx => by rw [hev x hx, argA_congr (adv_o k d r)]
    have hl : ∀ l : List Operand, (∀ x ∈ l, ev F.cx (σ.adv k d r) x = ev F.cx σ x) → (l.any fun x => lent (ev F.cx (σ.adv k d r) x)) = l.any fun x => lent (ev F.cx σ x) := by
      intro l
      induction l with
      | nil => intro _; rfl
      | cons y l ih =>
        intro hy
        rw [List.any_cons, List.any_cons, hy y List.mem_cons_self, ih fun x hx => hy x (List.mem_cons_of_mem _ hx)]
    have hl := hl _ hev
    unfold gOwn at hg ⊢
    split at hg
    · rename_i sp e z hΩ
      cases hg
      have hzz := hz sp e z hΩ
      simp only [hm, hl] at hp ⊢
      exact ⟨_, rfl, ⟨hp.1, hp.2.1, fun h => by omega⟩, rfl, rfl⟩
    · cases hg
  have hadv : ∀ k, ({ σ with c := σ.c + k } : St) = σ.adv k none .un := fun k => rfl
  rw [vcOp_G hx] at h
  rcases h with ⟨hg, h⟩ | ⟨hg, h⟩
  · rw [exG_iff] at h
    obtain ⟨g1, e1, p1, c1, h⟩ := h
    obtain ⟨r1, hr1⟩ := gop_ne hE e1 p1
    obtain ⟨sp, e, z, g, q1, q2, q3, q4, q5⟩ := h r1 hr1
    obtain ⟨g', w1, w2, w3, w4⟩ := back _ _ _ a1 0 q2 q3
    refine ⟨sp, e, z, g', q1, w1, w2, by rw [w3]; rw [adv_c] at q4; omega, fun r hr => ?_⟩
    have hr' : g.post r := by rw [← w4]; exact hr
    obtain ⟨y, hy, _⟩ := q5 r hr'
    refine ⟨y, hy, ?_⟩
    rw [hadv]
    show vcOp F.cx E B ops x (K e z y) _
    rw [vcOp_G hx]
    refine .inl ⟨by rw [guard_adv (fun e he => by cases he)]; exact hg, ?_⟩
    rw [exG_iff, gop_adv (ops := ops) (fun e he => by cases he), adv_c]
    refine ⟨g1, e1, p1, by rw [w3]; rw [adv_c] at q4; omega, fun r2 hr2 => ?_⟩
    obtain ⟨sp2, e2, z2, g2, u1, u2, u3, u4, u5⟩ := h r2 hr2
    obtain ⟨g2', v1, v2, v3, v4⟩ := back _ _ _ a1 0 u2 u3
    rw [w1] at v1
    cases v1
    rw [q1] at u1
    cases u1
    obtain ⟨y2, hy2, hk⟩ := u5 r (by rw [← v4]; exact hr)
    rw [hy] at hy2
    cases hy2
    rw [← adv_comm (fun e he => fun hh => by cases hh)]
    rw [show ((σ.adv g1.cost x.dst r2).adv g'.cost none .un) = ({ σ.adv g1.cost x.dst r2 with c := (σ.adv g1.cost x.dst r2).c + g'.cost } : St) from rfl, v3]
    exact hk
  · obtain ⟨sp, e, z, g, q1, q2, q3, q4, q5⟩ := h
    obtain ⟨g', w1, w2, w3, w4⟩ := back _ _ _ a1 0 q2 q3
    refine ⟨sp, e, z, g', q1, w1, w2, by rw [w3]; rw [adv_c] at q4; omega, fun r hr => ?_⟩
    obtain ⟨y, hy, hk⟩ := q5 r (by rw [← w4]; exact hr)
    refine ⟨y, hy, ?_⟩
    rw [hadv]
    show vcOp F.cx E B ops x (K e z y) _
    rw [vcOp_G hx]
    refine .inr ⟨by rw [guard_adv (fun e he => by cases he)]; exact hg, ?_⟩
    rw [← adv_comm (fun e he => fun hh => by cases hh)]
    rw [show ((σ.adv 0 x.dst .tnil).adv g'.cost none .un) = ({ σ.adv 0 x.dst .tnil with c := (σ.adv 0 x.dst .tnil).c + g'.cost } : St) from rfl, w3]
    exact hk
theorem relP_call (hE : EnvOk F.cx E) (hF : F.Wf) (h : RelP F P σ a w) {o : Oper} {f : FuncId} {args : Array Operand} {ts : Array TypeId} (ho : o.op = .call { callee := .value (.func f), args := args, argTypes := ts }) {d : Nat} (hd : o.dst = some d) (hdn : d < F.n) (hu : σ.s d = .un) (hP : ∀ q, P q → q.d ≠ d)
    {K : TypeId → Nat → DV → St → Prop} (hx : exW F.cx E F.B σ f args K) (hz : ∀ sp e z, E.Ω f = some (sp, e, z) → z < 1000) {K' : Act → World → Prop}
    (hK : ∀ e z l a' w' c, RelP F (fun q => P q ∨ q = ⟨d, .arr e z l⟩) { σ with c := σ.c + c } a' w' → K e z (.d (.sl l)) { σ with c := σ.c + c } → K' a' w') : Oper.wp F.cx.P o a w K' Q := by
  obtain ⟨sp, e, z, g, hΩ, hg, hpre', hB, hpost⟩ := hx
  have hz0 := hz sp e z hΩ
  unfold gOwn at hg
  rw [hΩ] at hg
  simp only [Option.some.injEq] at hg
  subst hg
  obtain ⟨hpre, hnl, hmu⟩ := hpre'
  obtain ⟨hen, hct, hcm⟩ := hE.ow f sp e z hΩ
  have hnl := hnl (by omega)
  have hct := hct (by omega)
  obtain ⟨M, ρ, h, h2, h3⟩ := h
  let as : List AV := args.toList.map fun x => argA E σ (ev F.cx σ x)
  have hargs : ∀ (i : Nat) (x : Operand), args.toList[i]? = some x → (args.map a.eval).toList[i]? = some (a.eval x) := fun i x hx => by simp [hx]
  let F' : Fr := ⟨F.cx, w, okC F M w sp.fresh, F.N + σ.c, sp.cost as, 0, w, fun _ => False⟩
  have hF' : F'.Wf := ⟨fun b hb => hb.2, fun b hb => okC_of hF ⟨.inl (hF.gl b hb), fun hM => by have := (h.mb b hM).1; have := (hF.ok b (hF.gl b hb)).1; omega⟩ (by have := (hF.ok b (hF.gl b hb)).1; have := h.gr.size; omega),
    fun b hb => h.st.lt hb, by show F.N + σ.c + sp.cost as ≤ _; have := hF.nb; have : σ.c + sp.cost as ≤ F.B := hB; omega⟩
  have hcall := hct F' as (args.map a.eval).toList rfl hF' h.st h.gl (Nat.le_refl _) (by simp [as]) (fun i x u hx hu => by
    rw [List.getElem?_map, Option.map_eq_some_iff] at hx
    obtain ⟨y, hy, rfl⟩ := hx
    rw [hargs i y hy] at hu
    cases hu
    exact argA_rel hE hF h (ev_rel hF h y) (fun hl => hnl.resolve_right (fun hn => absurd (List.any_eq_true.2 ⟨y, List.mem_of_getElem? hy, hl⟩) (by rw [hn]; decide)))) hpre
  have hrun : (execOp a.eval o).run F.cx.P w = .ok (.enter f (args.map a.eval)) w := by
    simp only [execOp, ho, resolve, Deferred.ofValue, Act.eval, Sem.run_bind, Sem.run_pure, Result.andThen_ok, invoke, callFunc_run hen]
    simp
  unfold Oper.wp
  rw [hrun]
  show Calls _ _ _ _ _
  rw [Array.toArray_toList] at hcall
  refine hcall.mono fun e' w' ⟨v, r, he, hg2, hst2, hpo, hands⟩ => ?_
  subst he
  obtain ⟨x, hrx, hk⟩ := hpost _ hpo
  have hst3 : StAt F.cx (F.N + (σ.c + sp.cost as)) w' := by rw [← Nat.add_assoc]; exact hst2
  rcases hands with ⟨l, xs, _, rfl, hown, hzl, hrd⟩ | ⟨cs, u, L, l, xs, hz1, _⟩
  · cases hrx
    have hbl := own_blk hown
    rw [hd]
    refine hK e z l _ _ (sp.cost as) (relP_new hF h h2 h3 hdn hu hP (k := .arr e z l) (v := v) hg2 hst3 (fun b hb => hown.lt b ((hbl b).1 hb)) (fun w1 g1 g3 g4 => ?_)) hk
    refine ⟨xs, ⟨hown.1, ?_⟩, fun b hb => .inr ((hbl b).2 hb), hzl, hrd.mono (Nat.le_of_eq g3.symm) (fun b hb _ => res_okM hF h hbl hb) (fun b hb _ => res_same g1 hg2 g4 hb.1)⟩
    rcases hown.2 with h1 | ⟨g, cap, cur, h1, h2, h3, h4⟩
    · exact .inl h1
    · exact .inr ⟨g, cap, cur, h1, Nat.le_trans h.gr.size h2, (g4 g h2).trans h3, h4⟩
  · omega
theorem relP_alloc (hF : F.Wf) (h : RelP F P σ a w) {o : Oper} {T : TypeId} (ho : o.op = .alloc T) {d : Nat} (hd : o.dst = some d) (hdn : d < F.n) (hu : σ.s d = .un) (hP : ∀ q, P q → q.d ≠ d)
    {i0 : TypeInfo} {z : Value} (hi0 : F.cx.P.info? T = some i0) (hz : i0.zero = some z) (hun : hasUn (z.cells.toList.map cv) = false) {K' : Act → World → Prop}
    (hK : ∀ a' w', RelP F (fun q => P q ∨ q = ⟨d, .box T z.cells⟩) σ a' w' → K' a' w') : Oper.wp F.cx.P o a w K' Q := by
  have hrun : (execOp a.eval o).run F.cx.P w = .ok (.value (.pointer (some ⟨w.heap.size, 0, none⟩))) (w.alloc (.cells z.cells T)) := by
    simp only [execOp, ho, Instr.alloc, zeroValue, run_typeInfo w hi0, hz, newVar, newRow, Sem.run_bind, run_newObj, Sem.run_pure, Result.andThen_ok]
    rfl
  unfold Oper.wp
  rw [hrun, Oper.upon_value, hd]
  obtain ⟨M, ρ, h, h2, h3⟩ := h
  have hst : StAt F.cx (F.N + (σ.c + 0)) (w.alloc (.cells z.cells T)) :=
    h.st.keep (Gr.alloc none w (.cells z.cells T)).size (fun b hb => (Gr.alloc none w (.cells z.cells T)).block b hb (by simp))
  refine hK _ _ (relP_new hF h h2 h3 hdn hu hP (k := .box T z.cells) (c := 0) (Gr.alloc _ _ _) hst (fun b hb => ?_) (fun w1 g1 g3 g4 => ?_))
  · simp only [blkOf, Option.some.injEq] at hb
    subst hb
    exact ⟨Nat.le_refl _, alloc_size w _⟩
  · exact ⟨w.heap.size, rfl, .inr rfl, (g4 _ (Nat.le_refl _)).trans (heap_alloc_new w _), hun⟩

/-! ### The operations in the order of the text, those carried out but not told at their place -/
def vcI (cx : Cx) (E : Env) (B : Nat) (ops : Array Oper) (K : St → Prop) (done : Nat → Option Pend) : List Nat → St → Prop
  | [], σ => K σ
  | i :: r, σ => match done i with
    | some p => vcI cx E B ops K done r (p.app σ)
    | none => match ops[i]? with
      | some o => vcOp cx E B ops o (vcI cx E B ops K done r) σ
      | none => vcI cx E B ops K done r σ
def updD (done : Nat → Option Pend) (i : Nat) (p : Option Pend) (j : Nat) : Option Pend := if j = i then p else done j
theorem vcI_none {cx : Cx} {B : Nat} : ∀ (l : List Nat) (σ : St), vcL cx E B ops K (opersOf ops l) σ = vcI cx E B ops K (fun _ => none) l σ
  | [], σ => rfl
  | i :: r, σ => by
    unfold opersOf vcI
    simp only
    cases h : ops[i]? with
    | none =>
      rw [List.filterMap_cons, h]
      exact vcI_none r σ
    | some o =>
      rw [List.filterMap_cons, h]
      show vcOp cx E B ops o _ σ = vcOp cx E B ops o _ σ
      congr 1
      funext τ
      exact vcI_none r τ
theorem vcI_congr {cx : Cx} {B : Nat} {done done' : Nat → Option Pend} : ∀ (l : List Nat) (σ : St), (∀ i ∈ l, done i = done' i) → vcI cx E B ops K done l σ = vcI cx E B ops K done' l σ
  | [], σ, _ => rfl
  | i :: r, σ, h => by
    unfold vcI
    have hr := fun τ => vcI_congr (cx := cx) (B := B) (done := done) (done' := done') r τ (fun j hj => h j (List.mem_cons_of_mem _ hj))
    rw [← h i List.mem_cons_self]
    cases done i with
    | some p => exact hr _
    | none =>
      simp only
      cases ops[i]? with
      | none => exact hr _
      | some o =>
        show vcOp cx E B ops o _ σ = vcOp cx E B ops o _ σ
        congr 1
        funext τ
        exact hr τ
/-- A call for an own row. -/
def ownC (o : Oper) : Bool := match o.op with
  | .call c => match c.callee with
    | .value (.func f) => !bF f && oF f
    | _ => false
  | _ => false
def alcC (o : Oper) : Bool := match o.op with
  | .alloc T => decide (T ≠ bT)
  | _ => false
theorem ownC_spec {o : Oper} (h : ownC o = true) : ∃ f args ts, o.op = .call { callee := .value (.func f), args := args, argTypes := ts } ∧ bF f = false ∧ oF f = true := by
  unfold ownC at h
  split at h
  · rename_i c ho
    obtain ⟨cal, args, ts⟩ := c
    simp only at h
    split at h
    · simp only [Bool.and_eq_true, Bool.not_eq_true'] at h
      exact ⟨_, args, ts, ho, h.1, h.2⟩
    · cases h
  · cases h
theorem alcC_spec {o : Oper} (h : alcC o = true) : ∃ T, o.op = .alloc T ∧ T ≠ bT := by
  unfold alcC at h
  split at h
  · rename_i T ho; exact ⟨T, ho, by simpa using h⟩
  · cases h
theorem vcOp_own {cx : Cx} {B : Nat} {o : Oper} (hg : o.guard = none) {f : FuncId} {args ts : _} (ho : o.op = .call { callee := .value (.func f), args := args, argTypes := ts }) (hb : bF f = false) (hf : oF f = true) : vcOp cx E B ops o K σ = exO cx E B σ f args o.dst K := by
  unfold vcOp guardA
  rw [hg]
  simp only
  unfold ex
  have : isS o.op = true := by rw [ho]; simp [isS, hf]
  rw [if_pos this]
  unfold exS
  simp only [ho, hb]
  simp
theorem vcOp_alc {cx : Cx} {B : Nat} {o : Oper} (hg : o.guard = none) {T : TypeId} (ho : o.op = .alloc T) (hT : T ≠ bT) : vcOp cx E B ops o K σ = exAlloc cx σ T o.dst K := by
  unfold vcOp guardA
  rw [hg]
  simp only
  unfold ex
  have : isS o.op = true := by rw [ho]; simp [isS]
  rw [if_pos this]
  unfold exS
  simp only [ho]
  rw [if_neg hT]
theorem OwnK_mono {v : Option (Spec × TypeId × Nat)} {x : AV} {k k' : TypeId → Nat → DV → Prop} (hk : ∀ e z x, k e z x → k' e z x) (h : OwnK v x k) : OwnK v x k' := by
  unfold OwnK at h ⊢
  split
  · rename_i e1
    first
      | exact hk _ _ _ h
      | (simp only at h; exact hk _ _ _ h)
  · rename_i hno
    split at h
    · rename_i sp e z x; exact (hno sp e z x rfl rfl).elim
    · exact h
theorem vcOp_monoL {cx : Cx} {B : Nat} {o : Oper} {K K' : St → Prop} (hK : ∀ σ, K σ → K' σ) (h : isS o.op = false ∨ (o.guard = none ∧ (ownC o = true ∨ alcC o = true))) (hx : vcOp cx E B ops o K σ) : vcOp cx E B ops o K' σ := by
  rcases h with h | ⟨hg, h | h⟩
  · exact vcOp_mono hK h hx
  · obtain ⟨f, args, ts, ho, hb, hf⟩ := ownC_spec h
    rw [vcOp_own hg ho hb hf] at hx ⊢
    unfold exO at hx ⊢
    split
    · rename_i e; rw [e] at hx; exact hx
    · rename_i g e
      rw [e] at hx
      exact ⟨hx.1, hx.2.1, fun r hr => OwnK_mono (fun e z x h => hK _ h) (hx.2.2 r hr)⟩
  · obtain ⟨T, ho, hT⟩ := alcC_spec h
    rw [vcOp_alc hg ho hT] at hx ⊢
    unfold exAlloc at hx ⊢
    split
    · rename_i e1 e2
      rw [e1, e2] at hx
      exact ⟨hx.1, hK _ hx.2⟩
    · rename_i hno
      split at hx
      · rename_i d cs e1 e2; exact (hno d cs e1 e2).elim
      · exact hx
theorem vcI_front (hE : EnvOk F.cx E) {B : Nat} {done : Nat → Option Pend} {i : Nat} {o : Oper} (hi : done i = none) (ho : ops[i]? = some o) {C : List Nat} : ∀ (A : List Nat) (σ : St), (∀ j ∈ A, done j = none ∧ ∃ x, ops[j]? = some x ∧ isS x.op = false ∧ isS o.op = false ∧ Oper.apart ops x o = true) →
    vcI F.cx E B ops K done (A ++ i :: C) σ → vcOp F.cx E B ops o (vcI F.cx E B ops K done (A ++ C)) σ
  | [], σ, _, h => by
    rw [List.nil_append] at h ⊢
    unfold vcI at h
    rw [hi, ho] at h
    exact h
  | j :: A, σ, hA, h => by
    obtain ⟨h1, x, h2, h3, h4, h5⟩ := hA j List.mem_cons_self
    rw [List.cons_append] at h ⊢
    unfold vcI at h
    rw [h1, h2] at h
    have h6 := vcOp_mono (fun σ' h' => vcI_front hE hi ho A σ' (fun y hy => hA y (List.mem_cons_of_mem _ hy)) h') h3 h
    have h7 := vcOp_swap hE h3 h4 h5 h6
    have e : vcI F.cx E B ops K done (j :: (A ++ C)) = vcOp F.cx E B ops x (vcI F.cx E B ops K done (A ++ C)) := by
      funext τ
      rw [vcI, h1, h2]
    rw [e]
    exact h7
theorem vcI_alloc {cx : Cx} {B : Nat} {done : Nat → Option Pend} {i : Nat} {o : Oper} {p : Pend} (hi : done i = none) (ho : ops[i]? = some o) (hp : ∀ (K' : St → Prop) τ, vcOp cx E B ops o K' τ → K' (p.app τ)) {C : List Nat} (hC : i ∉ C) : ∀ (A : List Nat) (σ : St), (∀ j ∈ A, j ≠ i ∧ ∃ x, ops[j]? = some x ∧ (isS x.op = false ∨ (x.guard = none ∧ (ownC x = true ∨ alcC x = true)))) →
    vcI cx E B ops K done (A ++ i :: C) σ → vcI cx E B ops K (updD done i (some p)) (A ++ i :: C) σ
  | [], σ, _, h => by
    rw [List.nil_append] at h ⊢
    unfold vcI at h ⊢
    rw [hi, ho] at h
    have e : updD done i (some p) i = some p := if_pos rfl
    rw [e]
    have := hp _ _ h
    rw [vcI_congr (done' := updD done i (some p)) C _ (fun j hj => (if_neg (fun (e : j = i) => hC (e ▸ hj))).symm)] at this
    exact this
  | j :: A, σ, hA, h => by
    obtain ⟨h1, x, h2, h3⟩ := hA j List.mem_cons_self
    rw [List.cons_append] at h ⊢
    unfold vcI at h ⊢
    have e : updD done i (some p) j = done j := if_neg h1
    rw [e]
    have ih := fun τ => vcI_alloc hi ho hp hC A τ (fun y hy => hA y (List.mem_cons_of_mem _ hy))
    cases hd : done j with
    | some q =>
      rw [hd] at h
      exact ih _ h
    | none =>
      rw [hd, h2] at h
      simp only [h2]
      exact vcOp_monoL ih h3 h
theorem vcI_own (hE : EnvOk F.cx E) {B : Nat} {done : Nat → Option Pend} {i : Nat} {o : Oper} {d : Nat} {f : FuncId} {args ts : _} (hi : done i = none) (hoi : ops[i]? = some o) (hg : o.guard = none) (hd : o.dst = some d) (ho : o.op = .call { callee := .value (.func f), args := args, argTypes := ts }) (hb : bF f = false) (hf : oF f = true) (hz : ∀ sp e z, E.Ω f = some (sp, e, z) → z < 1000) {C : List Nat} (hC : i ∉ C) :
    ∀ (A : List Nat) (σ : St), (∀ j ∈ A, j ≠ i ∧ done j = none ∧ ∃ x, ops[j]? = some x ∧ isS x.op = false ∧ Oper.apart ops x o = true) →
    vcI F.cx E B ops K done (A ++ i :: C) σ → exW F.cx E B σ f args fun e z y τ => ∀ l, y = .d (.sl l) → vcI F.cx E B ops K (updD done i (some ⟨d, .arr e z l⟩)) (A ++ i :: C) τ
  | [], σ, _, h => by
    rw [List.nil_append] at h
    unfold vcI at h
    rw [hi, hoi] at h
    simp only at h
    rw [vcOp_own hg ho hb hf] at h
    refine exW_mono (fun e z y τ hτ l hl => ?_) (exO_exW hz h)
    subst hl
    rw [hd] at hτ
    rw [List.nil_append]
    unfold vcI
    have e : updD done i (some ⟨d, .arr e z l⟩) i = some ⟨d, .arr e z l⟩ := if_pos rfl
    rw [e]
    rw [vcI_congr (done' := updD done i (some ⟨d, .arr _ z l⟩)) C _ (fun j hj => (if_neg (fun (e : j = i) => hC (e ▸ hj))).symm)] at hτ
    exact hτ
  | j :: A, σ, hA, h => by
    obtain ⟨h1, h2, x, h3, h4, h5⟩ := hA j List.mem_cons_self
    rw [List.cons_append] at h
    unfold vcI at h
    rw [h2, h3] at h
    have h6 := vcOp_mono (fun τ hτ => vcI_own hE hi hoi hg hd ho hb hf hz hC A τ (fun y hy => hA y (List.mem_cons_of_mem _ hy)) hτ) h4 h
    refine exW_mono (fun e z y τ hτ l hl => ?_) (exW_swap hE ho hz h4 h5 h6)
    rw [List.cons_append]
    unfold vcI
    have e : updD done i (some ⟨d, .arr e z l⟩) j = none := (if_neg h1).trans h2
    rw [e, h3]
    exact vcOp_mono (fun τ' hτ' => hτ' l hl) h4 hτ

theorem vcOp_keepD {D : Nat → Prop} {o : Oper} (hs : isS o.op = false) (hd : ∀ d, D d → o.dst ≠ some d) (hu : ∀ d, D d → σ.s d = .un) (hx : vcOp F.cx E F.B ops o K σ) : vcOp F.cx E F.B ops o (fun σ' => K σ' ∧ ∀ d, D d → σ'.s d = .un) σ := by
  have hp : ∀ (τ : St) (r : AV), (∀ d, D d → τ.s d = .un) → ∀ d, D d → (τ.put o.dst r).s d = .un := fun τ r ht d hD => by
    cases e : o.dst with
    | none => exact ht d hD
    | some x =>
      show upd τ.s x r d = .un
      rw [upd_apply, if_neg]
      · exact ht d hD
      · intro h; exact hd d hD (by rw [e, h])
  unfold vcOp at hx ⊢
  split
  · rename_i e; rw [e] at hx; exact hx
  · rename_i e
    rw [e] at hx
    simp only at hx ⊢
    unfold ex at hx ⊢
    rw [hs] at hx ⊢
    simp only [Bool.false_eq_true, if_false] at hx ⊢
    unfold exG at hx ⊢
    split
    · rename_i e2; rw [e2] at hx; exact hx
    · rename_i g e2
      rw [e2] at hx
      exact ⟨hx.1, hx.2.1, fun r hr => ⟨hx.2.2 r hr, hp { σ with c := σ.c + g.cost } r hu⟩⟩
  · rename_i e
    rw [e] at hx
    exact ⟨hx, hp σ _ hu⟩

/-- The static test: the operations ls may be carried out at any time, and may be told at their place. -/
structure LateOk (ops : Array Oper) (ls : List Nat) : Prop where
  sl : ∀ i ∈ ls, ∃ o d, ops[i]? = some o ∧ o.dst = some d ∧ o.guard = none ∧ (ownC o = true ∨ alcC o = true)
  dj : ∀ i ∈ ls, ∀ i' ∈ ls, ∀ o o', ops[i]? = some o → ops[i']? = some o' → o.dst = o'.dst → i = i'
  lo : ∀ i ∈ ls, ∀ j, j < i → j ∉ ls → ∀ o x, ops[i]? = some o → ops[j]? = some x → isS x.op = false ∧ x.dst ≠ o.dst
  hi : ∀ i ∈ ls, ∀ j, i < j → j < ops.size → j ∉ ls → ∀ k, k ≤ i → ((masks ops).getD j 0).testBit k = true
  own : ∀ i ∈ ls, ∀ o, ops[i]? = some o → ownC o = true → ∀ j x, j < i → ops[j]? = some x → j ∉ ls ∧ (((masks ops).getD i 0).testBit j = true ∨ Oper.apart ops x o = true)
def lateB (ops : Array Oper) (ls : List Nat) : Bool := regOkL ops (setAll (Array.replicate ops.size false) ls) && ls.all fun i => match ops[i]? with
  | some o => (match o.dst with
    | some d => o.guard.isNone && (ownC o || alcC o) && (List.range ops.size).all fun j => match ops[j]? with
      | some x => if ls.contains j then (j == i || decide (x.dst ≠ some d)) && (!ownC o || decide (i ≤ j))
        else if j < i then !isS x.op && decide (x.dst ≠ some d) && (!ownC o || ((masks ops).getD i 0).testBit j || Oper.apart ops x o)
        else (List.range (i + 1)).all fun k => ((masks ops).getD j 0).testBit k
      | none => true
    | none => false)
  | none => false
theorem getD_setAll : ∀ (ls : List Nat) (L : Array Bool) (j : Nat), (setAll L ls).getD j false = true → L.getD j false = true ∨ j ∈ ls
  | [], L, j, h => .inl h
  | i :: r, L, j, h => by
    rcases getD_setAll r _ j h with h | h
    · rw [Array.getD_eq_getD_getElem?, Array.getElem?_setIfInBounds] at h
      by_cases e : i = j
      · exact .inr (e ▸ List.mem_cons_self)
      · rw [if_neg e, ← Array.getD_eq_getD_getElem?] at h
        exact .inl h
    · exact .inr (List.mem_cons_of_mem _ h)
theorem lateOk {ls : List Nat} (h : lateB ops ls = true) : LateOk ops ls ∧ ∃ L, RegFacts ops L ∧ ∀ j, j ∉ ls → L.getD j false = false := by
  unfold lateB at h
  rw [Bool.and_eq_true, List.all_eq_true] at h
  obtain ⟨hr, h⟩ := h
  have one : ∀ i ∈ ls, ∃ o d, ops[i]? = some o ∧ o.dst = some d ∧ o.guard = none ∧ (ownC o = true ∨ alcC o = true) ∧ ∀ j x, ops[j]? = some x → (if ls.contains j then (j == i || decide (x.dst ≠ some d)) && (!ownC o || decide (i ≤ j))
        else if j < i then !isS x.op && decide (x.dst ≠ some d) && (!ownC o || ((masks ops).getD i 0).testBit j || Oper.apart ops x o)
        else (List.range (i + 1)).all fun k => ((masks ops).getD j 0).testBit k) = true := by
    intro i hi
    have h1 := h i hi
    split at h1
    · rename_i o ho
      split at h1
      · rename_i d hd
        simp only [Bool.and_eq_true, Bool.or_eq_true, Option.isNone_iff_eq_none, List.all_eq_true] at h1
        obtain ⟨⟨h2, h3⟩, h4⟩ := h1
        refine ⟨o, d, ho, hd, h2, h3, fun j x hx => ?_⟩
        have h5 := h4 j (List.mem_range.2 (Array.getElem?_eq_some_iff.1 hx).1)
        rw [hx] at h5
        exact h5
      · cases h1
    · cases h1
  refine ⟨⟨fun i hi => ?_, fun i hi i' hi' o o' ho ho' hd => ?_, fun i hi j hj hn o x ho hx => ?_, fun i hi j hj hlt hn k hk => ?_, fun i hi o ho how j x hj hx => ?_⟩, _, regFacts hr, fun j hj => ?_⟩
  · obtain ⟨o, d, h1, h2, h3, h4, _⟩ := one i hi
    exact ⟨o, d, h1, h2, h3, h4⟩
  · obtain ⟨o1, d, h1, h2, h3, h4, h5⟩ := one i hi
    rw [ho] at h1
    cases h1
    have h6 := h5 i' o' ho'
    rw [if_pos (by simpa using hi')] at h6
    simp only [Bool.and_eq_true, Bool.or_eq_true, beq_iff_eq, decide_eq_true_eq] at h6
    rcases h6.1 with h6 | h6
    · exact h6.symm
    · rw [← hd, h2] at h6
      exact absurd rfl h6
  · obtain ⟨o1, d, h1, h2, h3, h4, h5⟩ := one i hi
    rw [ho] at h1
    cases h1
    have h6 := h5 j x hx
    rw [if_neg (by simpa using hn), if_pos hj] at h6
    simp only [Bool.and_eq_true, Bool.not_eq_true', decide_eq_true_eq] at h6
    exact ⟨h6.1.1, by rw [h2]; exact h6.1.2⟩
  · obtain ⟨o1, d, h1, h2, h3, h4, h5⟩ := one i hi
    have h6 := h5 j _ (Array.getElem?_eq_getElem hlt)
    rw [if_neg (by simpa using hn), if_neg (by omega), List.all_eq_true] at h6
    exact h6 k (List.mem_range.2 (by omega))
  · obtain ⟨o1, d, h1, h2, h3, h4, h5⟩ := one i hi
    rw [ho] at h1
    cases h1
    have h6 := h5 j x hx
    by_cases hc : ls.contains j = true
    · rw [if_pos hc] at h6
      simp only [Bool.and_eq_true, how, Bool.not_true, Bool.false_or, decide_eq_true_eq] at h6
      omega
    · rw [if_neg hc, if_pos hj] at h6
      simp only [Bool.and_eq_true, how, Bool.not_true, Bool.false_or, Bool.or_eq_true] at h6
      exact ⟨by simpa using hc, h6.2⟩
  · cases hc : (setAll (Array.replicate ops.size false) ls).getD j false with
    | false => rfl
    | true =>
      rcases getD_setAll ls _ j hc with h | h
      · rw [Array.getD_eq_getD_getElem?, Array.getElem?_replicate] at h
        split at h <;> cases h
      · exact absurd h hj

structure Inv (F : Fr) (E : Env) (ops : Array Oper) (K : St → Prop) (ls : List Nat) (listed : Array Bool) (a : Act) (w : World) (idx : List Nat) (done : Nat → Option Pend) (σ : St) : Prop where
  srt : idx.Pairwise (· < ·)
  mem : ∀ j, j ∈ idx ↔ j < ops.size ∧ (listed.getD j true = false ∨ (done j).isSome = true)
  dn : ∀ j p, done j = some p → j ∈ ls ∧ listed.getD j true = true ∧ ∀ o, ops[j]? = some o → o.dst = some p.d
  un : ∀ j ∈ ls, j ∈ idx → done j = none → ∀ o d, ops[j]? = some o → o.dst = some d → σ.s d = .un
  rel : RelP F (fun p => ∃ j, j ∈ idx ∧ done j = some p) σ a w
  vc : vcI F.cx E F.B ops K done idx σ
theorem Inv.tell {ls : List Nat} {listed : Array Bool} {i : Nat} {r : List Nat} {done : Nat → Option Pend} (hl : LateOk ops ls) (h : Inv F E ops K ls listed a w (i :: r) done σ) {p : Pend} (hp : done i = some p) : Inv F E ops K ls listed a w r (updD done i none) (p.app σ) := by
  have hs := List.pairwise_cons.1 h.srt
  have hir : i ∉ r := fun hm => absurd (hs.1 i hm) (Nat.lt_irrefl _)
  have hne : ∀ j ∈ r, j ≠ i := fun j hj e => hir (e ▸ hj)
  obtain ⟨hils, hilst, hidst⟩ := h.dn i p hp
  have hisz := ((h.mem i).1 List.mem_cons_self).1
  have hoi : ops[i]? = some (ops[i]'hisz) := Array.getElem?_eq_getElem _
  refine ⟨hs.2, fun j => ⟨fun hj => ?_, fun hj => ?_⟩, fun j q hq => ?_, fun j hjl hj hd o d ho hod => ?_, ?_, ?_⟩
  · have h1 := (h.mem j).1 (List.mem_cons_of_mem _ hj)
    unfold updD
    rw [if_neg (hne j hj)]
    exact h1
  · unfold updD at hj
    by_cases e : j = i
    · subst e
      rw [if_pos rfl, hilst] at hj
      rcases hj.2 with h | h <;> cases h
    · rw [if_neg e] at hj
      rcases List.mem_cons.1 ((h.mem j).2 hj) with h | h
      · exact absurd h e
      · exact h
  · unfold updD at hq
    split at hq
    · cases hq
    · exact h.dn j q hq
  · unfold updD at hd
    rw [if_neg (hne j hj)] at hd
    have h1 := h.un j hjl (List.mem_cons_of_mem _ hj) hd o d ho hod
    have hpd : d ≠ p.d := fun e => hne j hj (hl.dj j hjl i hils o _ ho hoi (by rw [hod, hidst _ hoi, e]))
    show upd (σ.del p.d).s p.d (p.k.r p.d) d = .un
    rw [upd_apply, if_neg hpd]
    show purgeA p.d (σ.s d) = .un
    rw [h1]
    rfl
  · refine relP_tell h.rel ⟨i, List.mem_cons_self, hp⟩ fun q ⟨j, hj, hq⟩ => ?_
    unfold updD at hq
    rw [if_neg (hne j hj)] at hq
    refine ⟨⟨j, List.mem_cons_of_mem _ hj, hq⟩, fun e => ?_⟩
    obtain ⟨h1, _, h2⟩ := h.dn j q hq
    have hjs := ((h.mem j).1 (List.mem_cons_of_mem _ hj)).1
    have hoj : ops[j]? = some (ops[j]'hjs) := Array.getElem?_eq_getElem _
    exact hne j hj (hl.dj j h1 i hils _ _ hoj hoi (by rw [h2 _ hoj, hidst _ hoi, e]))
  · have h1 := h.vc
    unfold vcI at h1
    rw [hp] at h1
    rw [← vcI_congr (done := done) (done' := updD done i none) r _ (fun j hj => (if_neg (hne j hj)).symm)]
    exact h1
theorem Inv.norm {ls : List Nat} {listed : Array Bool} (hl : LateOk ops ls) : ∀ (idx : List Nat) (done : Nat → Option Pend) (σ : St), Inv F E ops K ls listed a w idx done σ → ∃ idx' done' σ', Inv F E ops K ls listed a w idx' done' σ' ∧ ∀ i r, idx' = i :: r → done' i = none
  | [], done, σ, h => ⟨[], done, σ, h, fun i r e => by cases e⟩
  | i :: r, done, σ, h => by
    cases hp : done i with
    | none => exact ⟨i :: r, done, σ, h, fun j r' e => by cases e; exact hp⟩
    | some p => exact Inv.norm hl r _ _ (h.tell hl hp)
theorem Inv.late {ls : List Nat} {listed : Array Bool} {idx : List Nat} {done : Nat → Option Pend} (h : Inv F E ops K ls listed a w idx done σ) (hs : listed.size = ops.size) {i : Nat} {o : Oper} (hi : i ∈ ls) (hii : i ∈ idx) (hoi : ops[i]? = some o) {p : Pend} (hd : o.dst = some p.d) {σ' : St} {a' : Act} {w' : World} (hσ : σ'.s = σ.s)
    (hr : RelP F (fun q => (∃ j, j ∈ idx ∧ done j = some q) ∨ q = p) σ' a' w') (hv : vcI F.cx E F.B ops K (updD done i (some p)) idx σ') : Inv F E ops K ls (listed.setIfInBounds i true) a' w' idx (updD done i (some p)) σ' := by
  have hsz : i < listed.size := by rw [hs]; exact ((h.mem i).1 hii).1
  have hg : ∀ j, (listed.setIfInBounds i true).getD j true = if j = i then true else listed.getD j true := fun j => getD_set hsz
  refine ⟨h.srt, fun j => ?_, fun j q hq => ?_, fun j hjl hj hdn o' d ho hod => ?_, hr.less fun q ⟨j, hj, hq⟩ => ?_, hv⟩
  · rw [hg]
    unfold updD
    by_cases e : j = i
    · subst e
      rw [if_pos rfl, if_pos rfl]
      exact ⟨fun _ => ⟨((h.mem j).1 hii).1, .inr rfl⟩, fun _ => hii⟩
    · rw [if_neg e, if_neg e]
      exact h.mem j
  · rw [hg]
    unfold updD at hq
    by_cases e : j = i
    · subst e
      rw [if_pos rfl] at hq
      cases hq
      rw [if_pos rfl]
      exact ⟨hi, rfl, fun o' ho' => by rw [hoi] at ho'; cases ho'; exact hd⟩
    · rw [if_neg e] at hq
      rw [if_neg e]
      exact h.dn j q hq
  · unfold updD at hdn
    by_cases e : j = i
    · rw [if_pos e] at hdn
      cases hdn
    · rw [if_neg e] at hdn
      rw [hσ]
      exact h.un j hjl hj hdn o' d ho hod
  · unfold updD at hq
    by_cases e : j = i
    · rw [if_pos e] at hq
      cases hq
      exact .inr rfl
    · rw [if_neg e] at hq
      exact .inl ⟨j, hj, hq⟩
theorem split_sorted {l : List Nat} {i : Nat} (h : l.Pairwise (· < ·)) (hi : i ∈ l) : ∃ A C, l = A ++ i :: C ∧ (∀ j ∈ A, j < i) ∧ ∀ j ∈ C, i < j := by
  obtain ⟨A, C, e⟩ := List.append_of_mem hi
  refine ⟨A, C, e, fun j hj => ?_, fun j hj => ?_⟩
  · rw [e] at h
    exact (List.pairwise_append.1 h).2.2 j hj i List.mem_cons_self
  · rw [e] at h
    exact (List.pairwise_cons.1 (List.pairwise_append.1 h).2.1).1 j hj

theorem any_late (hE : EnvOk F.cx E) (hF : F.Wf) {ls : List Nat} (hl : LateOk ops ls) {L : Array Bool} (hR : RegFacts ops L) (hL : ∀ j, j ∉ ls → L.getD j false = false) (hn : ∀ o ∈ ops, ∀ d, o.dst = some d → d < F.n) (hK : ∀ σ' a' w', Rel F σ' a' w' → K σ' → Q .normal a' w')
    (hpO : ∀ i ∈ ls, ∀ o f args ts, ops[i]? = some o → o.op = .call { callee := .value (.func f), args := args, argTypes := ts } → ∀ sp e z, E.Ω f = some (sp, e, z) → z < 1000)
    (hpA : ∀ i ∈ ls, ∀ o T, ops[i]? = some o → o.op = .alloc T → ∃ i0 z, F.cx.P.info? T = some i0 ∧ i0.zero = some z ∧ hasUn (z.cells.toList.map cv) = false) :
    ∀ (fuel : Nat) (listed : Array Bool) (idx : List Nat) (done : Nat → Option Pend) (σ : St) (a : Act) (w : World), listed.size = ops.size → (todo ops listed).length = fuel → Down ops listed → Inv F E ops K ls listed a w idx done σ → wpAny F.cx.P .any ops Q fuel listed a w := by
  intro fuel
  induction fuel with
  | zero =>
    intro listed idx done σ a w hs hlen hd hinv
    have ht : todo ops listed = [] := List.eq_nil_of_length_eq_zero hlen
    have hall : ∀ j, j < ops.size → listed.getD j true = true := fun j hj => by
      cases h : listed.getD j true with
      | true => rfl
      | false =>
        have : j ∈ todo ops listed := List.mem_filter.2 ⟨List.mem_range.2 hj, by rw [h]; rfl⟩
        rw [ht] at this; cases this
    obtain ⟨idx, done, σ, hinv, hnf⟩ := hinv.norm hl
    have hnil : idx = [] := by
      cases idx with
      | nil => rfl
      | cons i r =>
        have h1 := (hinv.mem i).1 List.mem_cons_self
        rw [hall i h1.1, hnf i r rfl] at h1
        rcases h1.2 with h | h <;> cases h
    subst hnil
    refine ⟨?_, hK _ _ _ hinv.rel.rel hinv.vc⟩
    rw [List.eq_nil_iff_forall_not_mem]
    intro i hi
    obtain ⟨h1, h2, _⟩ := ready_iff.1 hi
    rw [hall i h1] at h2; cases h2
  | succ fuel ih =>
    intro listed idx done σ a w hs hlen hd hinv
    obtain ⟨idx, done, σ, hinv, hnf⟩ := hinv.norm hl
    refine ⟨fun hr => absurd hr (ready_ne hR hs (fun e => by rw [e] at hlen; cases hlen)), fun i hi => ?_⟩
    obtain ⟨h1, h2, o, ho, h3⟩ := ready_iff.1 hi
    have hlen' : (todo ops (listed.setIfInBounds i true)).length = fuel := by
      obtain ⟨A, C, e1, e2, _⟩ := todo_set (ops := ops) hs h1 h2
      rw [e1] at hlen
      rw [e2]
      simp only [List.length_append, List.length_cons] at hlen ⊢
      omega
    have hdown := down_set hs h1 ho hd h3
    have hs' : (listed.setIfInBounds i true).size = ops.size := by rw [Array.size_setIfInBounds]; exact hs
    have hidx : i ∈ idx := (hinv.mem i).2 ⟨h1, .inl h2⟩
    have hdi : done i = none := by
      cases h : done i with
      | none => rfl
      | some p => rw [(hinv.dn i p h).2.1] at h2; cases h2
    have hmask : ∀ j, j < i → ((masks ops).getD i 0).testBit j = true → listed.getD j true = true := fun j hj hm => by
      have := listed_of_mask hR hd hs i j hj h1 hm (fun e he hb => h3 e (by rw [ho] at he; exact he) hb)
      have hkl : j < listed.size := by omega
      rw [Array.getD_eq_getD_getElem?, Array.getElem?_eq_getElem hkl] at this ⊢
      exact this
    have hhead : ∀ j ∈ idx, ∃ k ∈ idx, k ≤ j ∧ done k = none := fun j hj => by
      cases idx with
      | nil => cases hj
      | cons k r =>
        refine ⟨k, List.mem_cons_self, ?_, hnf k r rfl⟩
        rcases List.mem_cons.1 hj with rfl | hj
        · exact Nat.le_refl _
        · exact Nat.le_of_lt ((List.pairwise_cons.1 hinv.srt).1 j hj)
    obtain ⟨A, C, hAC, hA, hC⟩ := split_sorted hinv.srt hidx
    have hAi : ∀ j ∈ A, j ∈ idx := fun j hj => by rw [hAC]; exact List.mem_append_left _ hj
    have hCi : ∀ j ∈ C, j ∈ idx := fun j hj => by rw [hAC]; exact List.mem_append_right _ (List.mem_cons_of_mem _ hj)
    have hiC : i ∉ C := fun h => absurd (hC i h) (Nat.lt_irrefl _)
    have hopA : ∀ j ∈ idx, ∃ x, ops[j]? = some x := fun j hj => ⟨_, Array.getElem?_eq_getElem ((hinv.mem j).1 hj).1⟩
    by_cases hils : i ∈ ls
    · obtain ⟨o2, d, q1, q2, q3, q4⟩ := hl.sl i hils
      rw [ho] at q1
      cases q1
      have hu : σ.s d = .un := hinv.un i hils hidx hdi o d ho q2
      have hdn : d < F.n := hn o (Array.mem_of_getElem? ho) d q2
      have hPd : ∀ q, (∃ j, j ∈ idx ∧ done j = some q) → q.d ≠ d := fun q ⟨j, hj, hq⟩ e => by
        obtain ⟨x, hx⟩ := hopA j hj
        obtain ⟨g1, g2, g3⟩ := hinv.dn j q hq
        have : j = i := hl.dj j g1 i hils x o hx ho (by rw [g3 x hx, q2, e])
        subst this
        rw [hdi] at hq
        cases hq
      refine wpOp_step ho fun K' hK' => ?_
      rw [if_pos (by unfold Region.wanted; rw [q3])]
      rcases q4 with q4 | q4
      · obtain ⟨f, args, ts, e1, e2, e3⟩ := ownC_spec q4
        have hz := hpO i hils o f args ts ho e1
        have hv := hinv.vc
        rw [hAC] at hv
        have hw := vcI_own hE hdi ho q3 q2 e1 e2 e3 hz hiC A σ (fun j hj => by
          obtain ⟨x, hx⟩ := hopA j (hAi j hj)
          obtain ⟨g1, g2⟩ := hl.own i hils o ho q4 j x (hA j hj) hx
          have hdj : done j = none := by
            cases h : done j with
            | none => rfl
            | some p => exact absurd (hinv.dn j p h).1 g1
          refine ⟨Nat.ne_of_lt (hA j hj), hdj, x, hx, (hl.lo i hils j (hA j hj) g1 o x ho hx).1, ?_⟩
          rcases g2 with g2 | g2
          · have h5 := hmask j (hA j hj) g2
            have h6 := ((hinv.mem j).1 (hAi j hj)).2
            rw [h5, hdj] at h6
            rcases h6 with h6 | h6 <;> cases h6
          · exact g2) hv
        refine relP_call hE hF hinv.rel e1 q2 hdn hu hPd hw hz fun e z l a' w' c hr hv2 => hK' _ _ (ih _ idx _ _ _ _ hs' hlen' hdown (hinv.late hs hils hidx ho (p := ⟨d, .arr e z l⟩) q2 (σ' := { σ with c := σ.c + c }) rfl hr ?_))
        have := hv2 l rfl
        rw [← hAC] at this
        exact this
      · obtain ⟨T, e1, e2⟩ := alcC_spec q4
        obtain ⟨i0, z, z1, z2, z3⟩ := hpA i hils o T ho e1
        have hv := hinv.vc
        rw [hAC] at hv
        have hw := vcI_alloc (p := ⟨d, .box T z.cells⟩) hdi ho (fun K' τ hτ => by
          rw [vcOp_alc q3 e1 e2] at hτ
          unfold exAlloc at hτ
          rw [q2] at hτ
          split at hτ
          · rename_i d' cs e5 e6
            cases e5
            obtain ⟨i1, z1', e7, e8, rfl⟩ := alloc_cells e6
            rw [z1] at e7; cases e7
            rw [z2] at e8; cases e8
            exact hτ.2
          · exact hτ.elim) hiC A σ (fun j hj => by
          obtain ⟨x, hx⟩ := hopA j (hAi j hj)
          refine ⟨Nat.ne_of_lt (hA j hj), x, hx, ?_⟩
          by_cases hjl : j ∈ ls
          · obtain ⟨x', d', g1, g2, g3, g4⟩ := hl.sl j hjl
            rw [hx] at g1
            cases g1
            exact .inr ⟨g3, g4⟩
          · exact .inl (hl.lo i hils j (hA j hj) hjl o x ho hx).1) hv
        rw [← hAC] at hw
        exact relP_alloc hF hinv.rel e1 q2 hdn hu hPd z1 z2 z3 fun a' w' hr => hK' _ _ (ih _ idx _ _ _ _ hs' hlen' hdown (hinv.late hs hils hidx ho (p := ⟨d, .box T z.cells⟩) q2 (σ' := σ) rfl hr hw))
    · have hgt : ∀ t ∈ ls, t ∈ idx → i < t := fun t ht hti => by
        refine Nat.lt_of_not_le fun hle => ?_
        have hlt : t < i := Nat.lt_of_le_of_ne hle (fun e => hils (e ▸ ht))
        obtain ⟨k, hk1, hk2, hk3⟩ := hhead t hti
        have h5 := hmask k (by omega) (hl.hi t ht i hlt h1 hils k hk2)
        have h6 := ((hinv.mem k).1 hk1).2
        rw [h5, hk3] at h6
        rcases h6 with h6 | h6 <;> cases h6
      have hAn : ∀ j ∈ A, done j = none := fun j hj => by
        cases h : done j with
        | none => rfl
        | some p => have := hgt j (hinv.dn j p h).1 (hAi j hj); have := hA j hj; omega
      have hv := hinv.vc
      rw [hAC] at hv
      have hApair : ∀ j ∈ A, done j = none ∧ ∃ x, ops[j]? = some x ∧ isS x.op = false ∧ isS o.op = false ∧ Oper.apart ops x o = true := fun j hj => by
        obtain ⟨x, hx⟩ := hopA j (hAi j hj)
        refine ⟨hAn j hj, x, hx, ?_⟩
        have hjl : j ∉ ls := fun h => by have := hgt j h (hAi j hj); have := hA j hj; omega
        rcases hR.pair i j o x ho hx (hA j hj) (hL i hils) (hL j hjl) with hm | hm
        · have h5 := hmask j (hA j hj) hm
          have h6 := ((hinv.mem j).1 (hAi j hj)).2
          rw [h5, hAn j hj] at h6
          rcases h6 with h6 | h6 <;> cases h6
        · exact hm
      have hx' := vcI_front hE hdi ho A σ hApair hv
      have hsz : i < listed.size := by omega
      have hg : ∀ j, (listed.setIfInBounds i true).getD j true = if j = i then true else listed.getD j true := fun j => getD_set hsz
      have hmemAC : ∀ j, j ∈ A ++ C ↔ j ∈ idx ∧ j ≠ i := fun j => by
        rw [hAC]
        simp only [List.mem_append, List.mem_cons]
        constructor
        · rintro (h | h)
          · exact ⟨.inl h, Nat.ne_of_lt (hA j h)⟩
          · exact ⟨.inr (.inr h), Nat.ne_of_gt (hC j h)⟩
        · rintro ⟨h | h | h, hne⟩
          · exact .inl h
          · exact absurd h hne
          · exact .inr h
      have hsrt : (A ++ C).Pairwise (· < ·) := by
        have := hinv.srt
        rw [hAC] at this
        refine List.Pairwise.sublist ?_ this
        exact List.Sublist.append (List.Sublist.refl _) (List.sublist_cons_self _ _)
      have next : ∀ (σ' : St) (a' : Act) (w' : World), RelP F (fun q => ∃ j, j ∈ A ++ C ∧ done j = some q) σ' a' w' → vcI F.cx E F.B ops K done (A ++ C) σ' → (∀ t ∈ ls, t ∈ idx → done t = none → ∀ o d, ops[t]? = some o → o.dst = some d → σ'.s d = .un) → wpAny F.cx.P .any ops Q fuel (listed.setIfInBounds i true) a' w' := fun σ' a' w' hr hv' hun => by
        refine ih _ (A ++ C) done σ' a' w' hs' hlen' hdown ⟨hsrt, fun j => ?_, fun j q hq => ?_, fun j hjl hj hdj o' d ho' hod => hun j hjl ((hmemAC j).1 hj).1 hdj o' d ho' hod, hr, hv'⟩
        · rw [hmemAC, hg]
          by_cases e : j = i
          · subst e
            rw [if_pos rfl, hdi]
            exact ⟨fun h => absurd rfl h.2, fun h => by rcases h.2 with h | h <;> cases h⟩
          · rw [if_neg e]
            exact ⟨fun h => (hinv.mem j).1 h.1, fun h => ⟨(hinv.mem j).2 h, e⟩⟩
        · rw [hg]
          have := hinv.dn j q hq
          refine ⟨this.1, ?_, this.2.2⟩
          split
          · rfl
          · exact this.2.1
      refine wpOp_step ho fun K' hK' => ?_
      cases hS : isS o.op with
      | true =>
        have hnol : ∀ t ∈ ls, t ∈ idx → False := fun t ht hti => by
          obtain ⟨ot, _, g1, _⟩ := hl.sl t ht
          have := (hl.lo t ht i (hgt t ht hti) hils ot o g1 ho).1
          rw [hS] at this
          cases this
        exact vcOp_sound hE hF hinv.rel.rel (hn o (Array.mem_of_getElem? ho)) hx' fun σ' a' w' h' hx2 => hK' _ _ (next σ' a' w' (h'.relP fun p ⟨j, hj, hq⟩ => hnol j (hinv.dn j p hq).1 ((hmemAC j).1 hj).1) hx2 (fun t ht hti => (hnol t ht hti).elim))
      | false =>
        have hk := vcOp_keepD (D := fun d => ∃ t ∈ ls, t ∈ idx ∧ done t = none ∧ ∃ o, ops[t]? = some o ∧ o.dst = some d) hS (fun d ⟨t, ht, hti, _, ot, g1, g2⟩ e => (hl.lo t ht i (hgt t ht hti) hils ot o g1 ho).2 (by rw [e, g2])) (fun d ⟨t, ht, hti, hdt, ot, g1, g2⟩ => hinv.un t ht hti hdt ot d g1 g2) hx'
        refine relP_op hE hF (hinv.rel.less (P' := fun q => ∃ j, j ∈ A ++ C ∧ done j = some q) fun p ⟨j, hj, hq⟩ => ⟨j, ((hmemAC j).1 hj).1, hq⟩) (hn o (Array.mem_of_getElem? ho)) hS (fun p ⟨j, hj, hq⟩ e => ?_) hk fun σ' a' w' h' hx2 => hK' _ _ (next σ' a' w' h' hx2.1 (fun t ht hti hdt ot d g1 g2 => hx2.2 d ⟨t, ht, hti, hdt, ot, g1, g2⟩))
        obtain ⟨g1, g2, g3⟩ := hinv.dn j p hq
        obtain ⟨ot, d, g4, g5, _⟩ := hl.sl j g1
        exact (hl.lo j g1 i (hgt j g1 ((hmemAC j).1 hj).1) hils ot o g4 ho).2 (by rw [e, g3 ot g4])

/-- What is asked ahead of such a region. -/
def preT (P : Program) (E : Env) : List Oper → Prop
  | [] => True
  | o :: r => (match o.op with
    | .alloc T => (match TzeroA P T with
      | some cs => hasUn cs = false
      | none => False)
    | .call c => (match c.callee with
      | .value (.func f) => (match E.Ω f with
        | some (_, _, z) => z < 1000
        | none => False)
      | _ => False)
    | _ => False) ∧ preT P E r
def preAs : List Oper → St → St
  | [], σ => σ
  | o :: r, σ => preAs r (match o.dst with
    | some d => σ.delS d
    | none => σ)
theorem preT_at {P : Program} : ∀ (l : List Nat), preT P E (optL ops l) → ∀ i ∈ l, ∀ o, ops[i]? = some o → preT P E [o]
  | [], _, i, hi, _, _ => by cases hi
  | j :: r, h, i, hi, o, ho => by
    unfold optL at h
    rw [List.filterMap_cons] at h
    rcases List.mem_cons.1 hi with rfl | hi
    · rw [ho] at h
      exact ⟨h.1, trivial⟩
    · cases hj : ops[j]? with
      | none => rw [hj] at h; exact preT_at r h i hi o ho
      | some x => rw [hj] at h; exact preT_at r h.2 i hi o ho
theorem preAs_un : ∀ (l : List Oper) (σ : St) (d : Nat), (σ.s d = .un ∨ ∃ o ∈ l, o.dst = some d) → (preAs l σ).s d = .un
  | [], σ, d, h => by
    rcases h with h | ⟨o, ho, _⟩
    · exact h
    · cases ho
  | o :: r, σ, d, h => by
    unfold preAs
    refine preAs_un r _ d ?_
    have key : ∀ d', (σ.delS d').s d = .un ∨ σ.s d ≠ .un := fun d' => by
      by_cases e : σ.s d = .un
      · left
        show upd (σ.del d').s d' .un d = .un
        rw [upd_apply]
        split
        · rfl
        · show purgeA d' (σ.s d) = .un
          rw [e]; rfl
      · exact .inr e
    rcases h with h | ⟨o', ho', hd⟩
    · left
      cases e : o.dst with
      | none => exact h
      | some d' => exact (key d').resolve_right (fun hn => hn h)
    · rcases List.mem_cons.1 ho' with rfl | ho'
      · left
        rw [hd]
        show upd (σ.del d).s d .un d = .un
        rw [upd_apply, if_pos rfl]
      · exact .inr ⟨o', ho', hd⟩
theorem Rel.preAs : ∀ (l : List Oper) {σ : St}, Rel F σ a w → Rel F (preAs l σ) a w
  | [], σ, h => h
  | o :: r, σ, h => by
    unfold Go.Avc.preAs
    refine Rel.preAs r ?_
    cases o.dst with
    | none => exact h
    | some d => exact h.delS d
theorem drawT_sound (hE : EnvOk F.cx E) (hF : F.Wf) {ls : List Nat} (hR : lateB ops ls = true) (hn : ∀ o ∈ ops, ∀ d, o.dst = some d → d < F.n) (hK : ∀ σ' a' w', Rel F σ' a' w' → K σ' → Q .normal a' w') {σ : St} {a : Act} {w : World} {id : Nat} (h : Rel F σ a w)
    (hp : preT F.cx.P E (optL ops ls)) (hx : vcL F.cx E F.B ops K ops.toList (preAs (optL ops ls) σ)) : (Code.region id ops true).wp F.cx.P Q a w := by
  obtain ⟨hl, L, hRF, hL⟩ := lateOk hR
  refine wp_region_draw fun t => ?_
  have hsch : Region.schedule (F.cx.P.follows .mixedOrders) ops t = Region.linearise .any ops t := by
    unfold Region.schedule
    rw [hE.bld.mix]
    simp
  rw [hsch]
  have hrep : ∀ j, j < ops.size → (Array.replicate ops.size false).getD j true = false := fun j hj => by
    rw [Array.getD_eq_getD_getElem?, Array.getElem?_replicate, if_pos hj]
    rfl
  have ht2 : todo ops (Array.replicate ops.size false) = List.range ops.size := by
    unfold todo
    rw [List.filter_eq_self]
    intro i hi
    rw [hrep i (List.mem_range.1 hi)]; rfl
  have ho : opersOf ops (List.range ops.size) = ops.toList := by
    unfold opersOf
    cases ops with
    | mk l =>
      simp only [List.getElem?_toArray, List.size_toArray]
      have key : ∀ (l m : List Oper), List.filterMap (fun i => (m ++ l)[i]?) (List.range' m.length l.length) = l := by
        intro l
        induction l with
        | nil => intro m; rfl
        | cons x r ih =>
          intro m
          rw [List.length_cons, List.range'_succ, List.filterMap_cons, List.getElem?_append_right (Nat.le_refl _), Nat.sub_self]
          have := ih (m ++ [x])
          rw [List.append_assoc, List.length_append] at this
          simpa using this
      rw [List.range_eq_range']
      exact key l []
  have h' : Rel F (preAs (optL ops ls) σ) a { w with drawn := w.drawn + 1 } := by
    obtain ⟨M, ρ, h1⟩ := Rel.preAs (optL ops ls) h
    have hg : Gr F.cx.g w { w with drawn := w.drawn + 1 } := ⟨rfl, rfl, rfl, Nat.le_refl _, fun _ _ _ => rfl⟩
    exact ⟨M, ρ, h1.grow (k := 0) hF hg (h1.st.keep2 (Nat.le_refl _) fun _ _ _ _ => rfl)⟩
  refine wpAny_sound ops.size t _ a _ (any_late hE hF hl hRF hL hn hK (fun i hi o f args ts ho' hop sp e z hΩ => ?_) (fun i hi o T ho' hop => ?_) ops.size _ (List.range ops.size) (fun _ => none) (preAs (optL ops ls) σ) a _ (by simp) (by rw [ht2]; simp) (fun i o hi hl => ?_)
    ⟨List.pairwise_lt_range, fun j => ?_, fun j p hj => (by cases hj), fun j hj _ _ o d ho' hd => ?_, h'.relP fun p ⟨j, _, hj⟩ => (by cases hj), ?_⟩)
  · have := (preT_at ls hp i hi o ho').1
    rw [hop] at this
    simp only at this
    rw [hΩ] at this
    exact this
  · have := (preT_at ls hp i hi o ho').1
    rw [hop] at this
    simp only at this
    cases hcs : TzeroA F.cx.P T with
    | none => rw [hcs] at this; exact this.elim
    | some cs =>
      rw [hcs] at this
      obtain ⟨i0, z, e1, e2, rfl⟩ := alloc_cells hcs
      exact ⟨i0, z, e1, e2, this⟩
  · rw [hrep i (Array.getElem?_eq_some_iff.1 hi).1] at hl
    cases hl
  · rw [List.mem_range]
    exact ⟨fun hj => ⟨hj, .inl (hrep j hj)⟩, fun hj => hj.1⟩
  · refine preAs_un _ _ d (.inr ⟨o, ?_, hd⟩)
    exact List.mem_filterMap.2 ⟨j, hj, ho'⟩
  · rw [← vcI_none, ho]
    exact hx
end
end Go.Avc

namespace Go.Avc
open Go

def fnArgs (cx : Cx) (E : Env) (σ : St) : Nat → List (Nat × Operand) → Option (List FSpec)
  | _, [] => some []
  | k, (i, x) :: r => match ev cx σ x, fnArgs cx E σ (k + 1) r with
    | .fn f ks, some l => if i = k then (match E.Φ f, capsD σ ks with
      | some φ, some caps => some (φ caps :: l)
      | _, _ => none) else none
    | _, _ => none
def firstR (cx : Cx) (E : Env) (B : Nat) (σ : St) (n : Nat) (ps : Array (Nat × Operand)) (d1 d2 : Option Tmp) (K : St → Prop) : Prop := match fnArgs cx E σ 0 ps.toList with
  | some sps => σ.c ≤ B ∧ ps.toList.length = n ∧ n ≤ 1000 ∧ FK sps fun e => K ((σ.put d1 .un).put d2 (.i e))
  | none => False
def isPair (o o2 : Oper) : Bool := match o.op, o2.op with
  | .buildSlice t _ _, .call c => (match c.callee, c.args.toList with
    | .value (.func f), [.tmp x] => f == fFi && fFi != 999995 && t == tFi && o.dst == some x && o.guard == none && o2.guard == none
    | _, _ => false)
  | _, _ => false
def vcR (cx : Cx) (E : Env) (B : Nat) (ops : Array Oper) (K : St → Prop) : List Oper → St → Prop
  | o :: o2 :: r, σ => if isPair o o2 = true then (match o.op with
    | .buildSlice _ n ps => firstR cx E B σ n ps o.dst o2.dst (vcR cx E B ops K r)
    | _ => False) else vcL cx E B ops (vcR cx E B ops K (o2 :: r)) [o] σ
  | [o], σ => vcL cx E B ops K [o] σ
  | [], σ => K σ
section
variable {F : Fr} {M : Nat → Prop} {ρ : Nat → Value} {σ : St} {a : Act} {w : World} {E : Env}

theorem fill_fns : ∀ (vs : List Value) (k : Nat) (ps : List (Nat × Value)) (cs : Array Value), (∀ v ∈ vs, v.cells = #[v]) → ps.length = vs.length → (∀ (j : Nat) (p : Nat × Value) (v : Value), ps[j]? = some p → vs[j]? = some v → p = (k + j, v)) → k + vs.length ≤ cs.size →
    ∃ cs' : Array Value, Instr.fill (fun i => some (i * 1, 1)) cs ps = some cs' ∧ cs'.size = cs.size ∧ (∀ j, j < k → cs'[j]? = cs[j]?) ∧ ∀ (j : Nat) (v : Value), vs[j]? = some v → cs'[k + j]? = some v
  | [], k, ps, cs, _, hl, _, _ => by
    have : ps = [] := List.eq_nil_of_length_eq_zero hl
    subst this
    exact ⟨cs, rfl, rfl, fun _ _ => rfl, fun j v h => by simp at h⟩
  | v :: r, k, ps, cs, hc, hl, hp, hs => by
    obtain ⟨p, q, rfl⟩ : ∃ p q, ps = p :: q := by cases ps with | nil => simp at hl | cons p q => exact ⟨p, q, rfl⟩
    have hp0 := hp 0 p v rfl rfl
    subst hp0
    have hv := hc v List.mem_cons_self
    obtain ⟨cs', h1, h2, h3, h4⟩ := fill_fns r (k + 1) q (cs.setIfInBounds k v) (fun u hu => hc u (List.mem_cons_of_mem _ hu)) (by simpa using hl) (fun j p u h5 h6 => by
      have := hp (j + 1) p u (by simpa using h5) (by simpa using h6)
      rw [this]
      congr 1
      omega) (by simp at hs ⊢; omega)
    refine ⟨cs', ?_, by simpa using h2, fun j hj => ?_, fun j u hu => ?_⟩
    · unfold Instr.fill
      simp only [Nat.mul_one, Nat.add_zero, hv]
      simp at hs
      rw [if_neg (by simp; omega)]
      simpa using h1
    · rw [h3 j (by omega), Array.getElem?_setIfInBounds, if_neg (by omega)]
    · cases j with
      | zero =>
        simp at hu
        subst hu
        rw [Nat.add_zero, h3 k (by omega), Array.getElem?_setIfInBounds, if_pos rfl, if_pos (by simp at hs; omega)]
      | succ j =>
        have := h4 j u (by simpa using hu)
        rw [← this]
        congr 1
        omega
theorem fnArgs_at (hE : EnvOk F.cx E) (hF : F.Wf) (h : Rel1 F M ρ σ a w) : ∀ {k : Nat} {ps : List (Nat × Operand)} {sps : List FSpec}, fnArgs F.cx E σ k ps = some sps → sps.length = ps.length ∧
    (∀ (j : Nat) (p : Nat × Operand), ps[j]? = some p → p.1 = k + j ∧ (a.eval p.2).cells = #[a.eval p.2]) ∧ ∀ (j : Nat) (p : Nat × Operand) (sp : FSpec), ps[j]? = some p → sps[j]? = some sp → Callable F.cx w sp (a.eval p.2)
  | k, [], sps, hf => by
    simp only [fnArgs, Option.some.injEq] at hf
    subst hf
    exact ⟨rfl, fun j p h => by simp at h, fun j p sp h => by simp at h⟩
  | k, (i, x) :: r, sps, hf => by
    unfold fnArgs at hf
    split at hf
    · rename_i f ks l e1 e2
      split at hf
      · rename_i hik
        subst hik
        split at hf
        · rename_i φ caps e3 e4
          simp only [Option.some.injEq] at hf
          subst hf
          obtain ⟨h1, h2, h3⟩ := fnArgs_at hE hF h e2
          have hv := ev_rel hF h x
          rw [e1] at hv
          have hv' : a.eval x = .func (.func f) #[] (ks.map ρ).toArray := hv
          refine ⟨by simp [h1], fun j p hp => ?_, fun j p sp hp hs => ?_⟩
          · cases j with
            | zero =>
              simp only [List.getElem?_cons_zero, Option.some.injEq] at hp
              subst hp
              exact ⟨rfl, by rw [hv']; rfl⟩
            | succ j =>
              have := h2 j p (by simpa using hp)
              exact ⟨by rw [this.1]; omega, this.2⟩
          · cases j with
            | zero =>
              simp only [List.getElem?_cons_zero, Option.some.injEq] at hp hs
              subst hp
              subst hs
              show Callable F.cx w (φ caps) (a.eval x)
              rw [hv']
              exact clo_callable hE hF h e3 e4
            | succ j => exact h3 j p sp (by simpa using hp) (by simpa using hs)
        · cases hf
      · cases hf
    · cases hf
theorem pair_spec {o o2 : Oper} (h : isPair o o2 = true) : ∃ n ps x ts, o.op = .buildSlice tFi n ps ∧ o2.op = .call ⟨.value (.func fFi), #[.tmp x], ts⟩ ∧ fFi ≠ 999995 ∧ o.dst = some x ∧ o.guard = none ∧ o2.guard = none := by
  unfold isPair at h
  split at h
  · rename_i t n ps c e1 e2
    obtain ⟨cal, args, ts⟩ := c
    simp only at h
    split at h
    · rename_i f x e4
      simp only [Bool.and_eq_true, beq_iff_eq, bne_iff_ne, ne_eq] at h
      obtain ⟨⟨⟨⟨⟨rfl, h2⟩, rfl⟩, h4⟩, h5⟩, h6⟩ := h
      have e4' : args = #[.tmp x] := by apply Array.ext'; exact e4
      subst e4'
      exact ⟨n, ps, x, ts, e1, e2, by first | exact h2 | exact absurd trivial h2, h4, h5, h6⟩
    · cases h
  · cases h
set_option maxHeartbeats 1000000 in
theorem firstR_sound (hE : EnvOk F.cx E) (hF : F.Wf) (h : Rel1 F M ρ σ a w) {ops : Array Oper} {o o2 : Oper} {n : Nat} {ps : Array (Nat × Operand)} {x : Tmp} {ts : Array TypeId} (ho : o.op = .buildSlice tFi n ps) (ho2 : o2.op = .call ⟨.value (.func fFi), #[.tmp x], ts⟩) (h9 : fFi ≠ 999995) (hd : o.dst = some x) (hg1 : o.guard = none) (hg2 : o2.guard = none)
    (hn : x < F.n) (hn2 : ∀ d, o2.dst = some d → d < F.n) {K : St → Prop} (hx : firstR F.cx E F.B σ n ps o.dst o2.dst K) {r : List Oper} {Q : Exit → Act → World → Prop}
    (hK : ∀ σ' a' w', Rel F σ' a' w' → K σ' → wpList F.cx.P ops Q r a' w') : wpList F.cx.P ops Q (o :: o2 :: r) a w := by
  have hfo := hE.bld.fi.resolve_left h9
  unfold firstR at hx
  split at hx
  · rename_i sps hs
    obtain ⟨hB, hln, hn0, hFK⟩ := hx
    obtain ⟨q1, q2, q3⟩ := fnArgs_at hE hF h hs
    obtain ⟨z, hz1, hz2⟩ := hfo.zero
    let vs : List Value := ps.toList.map fun p => a.eval p.2
    have hvl : vs.length = n := by simp [vs, hln]
    have hpt : (ps.map fun (i, x) => (i, a.eval x)).toList = ps.toList.map fun p => (p.1, a.eval p.2) := by rw [Array.toList_map]
    have hvc : ∀ v ∈ vs, v.cells = #[v] := fun v hv => by
      obtain ⟨p, hp, rfl⟩ := List.mem_map.1 hv
      obtain ⟨j, hj⟩ := List.mem_iff_getElem?.1 hp
      exact (q2 j p hj).2
    obtain ⟨cs', hf, hsz, _, hcs⟩ := fill_fns vs 0 (ps.toList.map fun p => (p.1, a.eval p.2)) ((Array.range (n * 1)).map ((if n * 1 = 0 then #[] else z.cells)[· % (if n * 1 = 0 then #[] else z.cells).size]!)) hvc (by simp [vs])
      (fun j p v hp hv => by
        rw [List.getElem?_map, Option.map_eq_some_iff] at hp
        simp only [vs, List.getElem?_map, Option.map_eq_some_iff] at hv
        obtain ⟨p', hp', rfl⟩ := hp
        obtain ⟨p'', hp'', rfl⟩ := hv
        rw [hp'] at hp''
        cases hp''
        rw [(q2 j p' hp').1]) (by simp [hvl])
    have hrun : (Instr.buildSlice tFi n (ps.map fun (i, x) => (i, a.eval x))).run F.cx.P w = .ok (.slice (some ⟨w.heap.size, 0, none⟩) n n) (w.alloc (.cells cs' eFi)) := by
      unfold Instr.buildSlice
      have hsr : (sizeOf eFi).run F.cx.P w = .ok 1 w := by
        have := size_run (P := F.cx.P) (w := w) (t := eFi) (by rw [hfo.one]; decide)
        rw [hfo.one] at this
        exact this
      simp only [Sem.run_bind, run_underlying hfo.ty, Result.andThen_ok, hsr]
      rw [if_neg (by omega)]
      by_cases hz0 : n * 1 = 0
      · simp only [hz0, if_true] at hf ⊢
        simp only [Sem.run_bind, Sem.run_pure, Result.andThen_ok]
        rw [hpt, hf]
        simp only [newRow, Sem.run_bind, run_newObj, Sem.run_pure, Result.andThen_ok]
        rfl
      · simp only [hz0, if_false] at hf ⊢
        simp only [Sem.run_bind, hz2, Sem.run_pure, Result.andThen_ok]
        rw [hpt, hf]
        simp only [newRow, Sem.run_bind, run_newObj, Sem.run_pure, Result.andThen_ok]
        rfl
    refine wpList_plain hg1 fun K1 hK1 => ?_
    have hex : (execOp a.eval o).run F.cx.P w = .ok (.value (.slice (some ⟨w.heap.size, 0, none⟩) n n)) (w.alloc (.cells cs' eFi)) := by
      simp only [execOp, ho, Sem.run_bind, hrun, Result.andThen_ok, Sem.run_pure]
    unfold Oper.wp
    rw [hex, Oper.upon_value]
    refine hK1 _ _ ?_
    have hgr := Gr.alloc F.cx.g w (.cells cs' eFi)
    have hw1 := h.grow (k := 0) hF hgr (h.st.keep hgr.size fun b hb => (Gr.alloc none w (.cells cs' eFi)).block b hb (by simp))
    have hr1 : Rel1 F M ρ (σ.put (some x) .un) (a.put o.dst (.slice (some ⟨w.heap.size, 0, none⟩) n n)) (w.alloc (.cells cs' eFi)) := by
      rw [hd]
      exact hw1.put (dst := some x) (r := .un) (fun d hd => by cases hd; exact hn) trivial
    have hex1 : (a.put o.dst (.slice (some ⟨w.heap.size, 0, none⟩) n n)).eval (.tmp x) = .slice (some ⟨w.heap.size, 0, none⟩) n n := by
      rw [hd]
      show (a.put (some x) _).tmps.getD x undef = _
      rw [getD_put (Nat.lt_of_lt_of_le hn h.nt), if_pos rfl]
    refine wpList_plain hg2 fun K2 hK2 => ?_
    have hrun2 : (execOp (a.put o.dst (.slice (some ⟨w.heap.size, 0, none⟩) n n)).eval o2).run F.cx.P (w.alloc (.cells cs' eFi)) = .ok (.enter fFi #[.slice (some ⟨w.heap.size, 0, none⟩) n n]) (w.alloc (.cells cs' eFi)) := by
      simp only [execOp, ho2, resolve, Deferred.ofValue, Act.eval, Sem.run_bind, Sem.run_pure, Result.andThen_ok, invoke, callFunc_run hfo.en]
      simp
      exact hex1
    unfold Oper.wp
    rw [hrun2]
    show Calls _ _ _ _ _
    have hnew : (w.alloc (.cells cs' eFi)).heap[w.heap.size]? = some (.cells cs' eFi (0, 0)) := heap_alloc_new w _
    have hlt : w.heap.size < (w.alloc (.cells cs' eFi)).heap.size := by show w.heap.size < (w.heap.push _).size; simp
    have hgn : F.cx.g ≠ some w.heap.size := fun e => by have := h.st.lt e; omega
    refine (hfo.walk F.cx sps vs (fun e => K ((σ.put o.dst .un).put o2.dst (.i e))) (F.N + σ.c) w.heap.size (w.alloc (.cells cs' eFi)) rfl hvl (by rw [q1, hln]) hn0 (fun j sp v hs hv => ?_) (fun j v hv => ?_) hlt hgn hw1.st hw1.gl (by have := hF.nb; omega) (fun b hb => ?_) hFK).mono ?_
    · simp only [vs, List.getElem?_map, Option.map_eq_some_iff] at hv
      obtain ⟨p, hp, rfl⟩ := hv
      exact (q3 j p sp hp hs).later hgr
    · unfold World.cell?
      rw [hnew]
      have := hcs j v hv
      rw [Nat.zero_add] at this
      simpa using this
    · have := hF.ok b (hF.gl b hb)
      exact ⟨by have := this.1; have := h.gr.size; omega, this.2⟩
    · rintro e w' ⟨c, rfl, hk, hg3, hs3⟩
      refine hK2 _ _ (hK _ _ _ ⟨M, ρ, ?_⟩ hk)
      rw [hd]
      have hr2 := hr1.grow (k := 0) hF hg3 (by
        show StAt F.cx (F.N + (σ.c + 0)) w'
        exact hs3)
      rw [hd] at hr2
      exact hr2.put (dst := o2.dst) (r := .i c) hn2 (Rd.int .i64 c)
  · exact hx.elim
theorem vcR_list (hE : EnvOk F.cx E) (hF : F.Wf) {ops : Array Oper} {K : St → Prop} {Q : Exit → Act → World → Prop} (hK : ∀ σ' a' w', Rel F σ' a' w' → K σ' → Q .normal a' w') : ∀ (l : List Oper) (σ : St) (a : Act) (w : World), (∀ o ∈ l, ∀ d, o.dst = some d → d < F.n) → Rel F σ a w → vcR F.cx E F.B ops K l σ → wpList F.cx.P ops Q l a w
  | [], σ, a, w, _, h, hx => hK _ _ _ h hx
  | [o], σ, a, w, hn, h, hx => vcL_list hE hF hK [o] σ a w hn h hx
  | o :: o2 :: r, σ, a, w, hn, h, hx => by
    unfold vcR at hx
    split at hx
    · rename_i hp
      obtain ⟨n, ps, x, ts, ho, ho2, h9, hd, hg1, hg2⟩ := pair_spec hp
      rw [ho] at hx
      obtain ⟨M, ρ, h'⟩ := h
      exact firstR_sound hE hF h' ho ho2 h9 hd hg1 hg2 (hn o List.mem_cons_self x hd) (hn o2 (List.mem_cons_of_mem _ List.mem_cons_self)) hx fun σ' a' w' h'' hx' => vcR_list hE hF hK r σ' a' w' (fun o' ho' => hn o' (List.mem_cons_of_mem _ (List.mem_cons_of_mem _ ho'))) h'' hx'
    · exact wpList_step fun K' hK' => vcOp_sound hE hF h (hn o List.mem_cons_self) hx fun σ' a' w' h'' hx' => hK' _ _ (vcR_list hE hF hK (o2 :: r) σ' a' w' (fun o' ho' => hn o' (List.mem_cons_of_mem _ ho')) h'' hx')
end
end Go.Avc

namespace Go.Avc
open Go

def lk {α : Type} (d : α) : List (Nat × α) → Nat → α
  | [], _ => d
  | p :: r, t => if t = p.1 then p.2 else lk d r t
/-- A frame told by lists: slots, objects, how often the stream was asked at most. -/
structure Sh where
  s : List (Nat × AV)
  o : List (Nat × Ob)
  c : Nat
def lkO : List (Nat × Ob) → Nat → Option Ob
  | [], _ => none
  | p :: r, t => if t = p.1 then some p.2 else lkO r t
def Sh.st (sh : Sh) : St := { s := lk .un sh.s, o := lkO sh.o, c := sh.c }

def fitA (σ : St) (ks : List Nat) (r : AV) : AV → Prop
  | .dv y => match nrm r with
    | .own k => (ks.all fun j => j != k) = true ∧ toD σ (.own k) = .dv y
    | x => x = .dv y
  | .un => True
  | x => r = x
def fitL (σ : St) (ks : List Nat) : List (Nat × AV) → Prop
  | [] => True
  | p :: r => fitA σ ks (σ.s p.1) p.2 ∧ fitL σ ks r
def fitC (σ : St) (ks : List Nat) : List AV → List AV → Prop
  | [], [] => True
  | c :: r, d :: t => fitA σ ks c d ∧ fitC σ ks r t
  | _, _ => False
/-- A variable's cells fit one by one (so own rows in it may turn into data); any other object is as it is told. -/
def fitOb (σ : St) (ks : List Nat) : Ob → Ob → Prop
  | .box T cs, .box T' cs' => T = T' ∧ fitC σ ks cs cs'
  | x, y => x = y
def fitO (σ : St) (ks : List Nat) : List (Nat × Ob) → Prop
  | [] => True
  | p :: r => (match σ.o p.1 with
    | some ob => fitOb σ ks ob p.2
    | none => False) ∧ fitO σ ks r
def Fits (σ : St) (sh : Sh) : Prop := fitL σ (sh.o.map (·.1)) sh.s ∧ fitO σ (sh.o.map (·.1)) sh.o ∧ σ.c ≤ sh.c

/-! ### Two keys change their names -/
def swN (k t x : Nat) : Nat := if x = k then t else if x = t then k else x
theorem swN_swN (k t x : Nat) : swN k t (swN k t x) = x := by
  unfold swN
  by_cases h1 : x = k
  · subst h1
    rw [if_pos rfl]
    by_cases h2 : t = x
    · rw [if_pos h2, h2]
    · rw [if_neg h2, if_pos rfl]
  · rw [if_neg h1]
    by_cases h2 : x = t
    · subst h2
      rw [if_pos rfl, if_pos rfl]
    · rw [if_neg h2, if_neg h1, if_neg h2]
def swA (k t : Nat) : AV → AV
  | .own j => .own (swN k t j)
  | .ptr j o => .ptr (swN k t j) o
  | .eptr j i z o => .eptr (swN k t j) i z o
  | .fn f ks => .fn f (ks.map (swN k t))
  | .ago l j u => .ago l j (swN k t u)
  | .tcons a r => .tcons (swA k t a) (swA k t r)
  | .agv r => .agv (swA k t r)
  | r => r
def swO (k t : Nat) : Ob → Ob
  | .box T cs => .box T (cs.map (swA k t))
  | .arr e z l => .arr e z l
  | .bld T j => .bld T (swN k t j)
  | .mp T l => .mp T l
def swS (k t : Nat) (S : Nat → AV) : Nat → AV := fun u => swA k t (S u)
def swP (k t : Nat) (O : Nat → Option Ob) : Nat → Option Ob := fun u => (O (swN k t u)).map (swO k t)
def St.swap (σ : St) (k t : Nat) : St := ⟨swS k t σ.s, swP k t σ.o, σ.c⟩

section
variable {F : Fr} {M : Nat → Prop} {ρ : Nat → Value} {σ : St} {a : Act} {w : World} {ok : Nat → Prop}
theorem rel0_sw {cx : Cx} {w0 : World} {x : AV} {v : Value} (k t : Nat) (h : rel0 cx w0 ok ρ w x v) : rel0 cx w0 ok (fun u => ρ (swN k t u)) w (swA k t x) v := by
  cases x with
  | own j => show v = ρ (swN k t (swN k t j)); rw [swN_swN]; exact h
  | ptr j o => obtain ⟨b, h1, h2⟩ := h; exact ⟨b, by show ρ (swN k t (swN k t j)) = _; rw [swN_swN]; exact h1, h2⟩
  | eptr j i z o => obtain ⟨b, n, c, h1, h2⟩ := h; exact ⟨b, n, c, by show ρ (swN k t (swN k t j)) = _; rw [swN_swN]; exact h1, h2⟩
  | fn f ks =>
    show v = .func (.func f) #[] ((ks.map (swN k t)).map fun u => ρ (swN k t u)).toArray
    rw [List.map_map, show ((fun u => ρ (swN k t u)) ∘ swN k t) = ρ from by funext u; exact congrArg ρ (swN_swN k t u)]
    exact h
  | ago l j u =>
    obtain ⟨cs, h1, h2, h3, h4⟩ := h
    exact ⟨cs, h1, h2, fun v hv => by show v = ρ (swN k t (swN k t u)); rw [swN_swN]; exact h3 v hv, h4⟩
  | tcons b r => exact h.elim
  | _ => exact h
theorem relT_sw {cx : Cx} {w0 : World} (k t : Nat) : ∀ {x : AV} {vs : List Value}, relT cx w0 ok ρ w x vs → relT cx w0 ok (fun u => ρ (swN k t u)) w (swA k t x) vs
  | .tnil, _, h => h
  | .tcons _ _, _, h => by
    obtain ⟨v, r, h1, h2, h3⟩ := h
    exact ⟨v, r, h1, rel0_sw k t h2, relT_sw k t h3⟩
theorem relA_sw {cx : Cx} {w0 : World} {x : AV} {v : Value} (k t : Nat) (h : relA cx w0 ok ρ w x v) : relA cx w0 ok (fun u => ρ (swN k t u)) w (swA k t x) v := by
  cases x with
  | tnil => exact h
  | tcons b r => obtain ⟨vs, h1, h2⟩ := h; exact ⟨vs, h1, relT_sw k t h2⟩
  | agv r => obtain ⟨vs, h1, h2⟩ := h; exact ⟨vs, h1, relT_sw k t h2⟩
  | _ => exact relA_of0 (rel0_sw k t (by rw [← relA_eq rfl]; exact h))

theorem Rel1.swap (h : Rel1 F M ρ σ a w) (k t : Nat) : Rel1 F M (fun u => ρ (swN k t u)) (σ.swap k t) a w where
  gr := h.gr
  st := h.st
  gl := h.gl
  mb := h.mb
  sl := fun u => relA_sw k t (h.sl u)
  ob := fun u o hu => by
    have hu' : (σ.o (swN k t u)).map (swO k t) = some o := hu
    rw [Option.map_eq_some_iff] at hu'
    obtain ⟨o', h1, rfl⟩ := hu'
    have h0 := h.ob _ _ h1
    cases o' with
    | box T cs =>
      obtain ⟨b, vs, e1, e2, e3, e4, e5⟩ := h0
      refine ⟨b, vs, e1, e2, e3, by rw [List.length_map]; exact e4, fun j x u hx hu => ?_⟩
      rw [List.getElem?_map, Option.map_eq_some_iff] at hx
      obtain ⟨y, hy, rfl⟩ := hx
      exact ⟨(e5 j y u hy hu).1, relA_sw k t (e5 j y u hy hu).2⟩
    | arr e z l => exact h0
    | mp T l => exact h0
    | bld T j =>
      obtain ⟨b, p, e1, e2, e3, e4, e5⟩ := h0
      have hj : ρ (swN k t (swN k t j)) = ρ j := by rw [swN_swN]
      exact ⟨b, p, e1, e2, by show w.heap[b]? = some (Obj.cells #[p, ρ (swN k t (swN k t j))] T (0, 0)); rw [hj]; exact e3, e4, by show (ρ (swN k t (swN k t j))).oneCell' = true; rw [hj]; exact e5⟩
  ne := fun u u' o o' hu hu' hne b hb => by
    have h1 : (σ.o (swN k t u)).map (swO k t) = some o := hu
    have h2 : (σ.o (swN k t u')).map (swO k t) = some o' := hu'
    rw [Option.map_eq_some_iff] at h1 h2
    obtain ⟨p, h1, _⟩ := h1
    obtain ⟨p', h2, _⟩ := h2
    exact h.ne _ _ p p' h1 h2 (fun e => hne (by rw [← swN_swN k t u, e, swN_swN])) b hb
  df := h.df
  nt := h.nt
  kx := h.kx
end

/-- A nil slice becomes a row of the call's own; a row of the call's own takes the slot's name. -/
def adoptS (σ : St) (p : Nat × TypeId × Nat) : St := match σ.s p.1 with
  | .nil => σ.newOb p.1 p.1 (.own p.1) (.arr p.2.1 p.2.2 [])
  | .own k => if k = p.1 then σ else σ.swap k p.1
  | .ptr k _ => if k = p.1 then σ else σ.swap k p.1
  | _ => σ
/-- The same in cell j of variable k, told by 10000 + 100 k + j. -/
def adoptB (σ : St) (p : Nat × TypeId × Nat) : St := match σ.o ((p.1 - 10000) / 100) with
  | some (.box T cs) => match cs[(p.1 - 10000) % 100]? with
    | some .nil => ⟨(σ.newO p.1 (.arr p.2.1 p.2.2 [])).s, upd (σ.newO p.1 (.arr p.2.1 p.2.2 [])).o ((p.1 - 10000) / 100) (some (.box T ((cs.map (purgeA p.1)).set ((p.1 - 10000) % 100) (.own p.1)))), σ.c⟩
    | some (.own k) => if k = p.1 then σ else σ.swap k p.1
    | _ => σ
  | _ => σ
def adopt1 (σ : St) (p : Nat × TypeId × Nat) : St := if p.1 < 10000 then adoptS σ p else adoptB σ p
def adopt : St → List (Nat × TypeId × Nat) → St
  | σ, [] => σ
  | σ, p :: r => adopt (adopt1 σ p) r
def adOk (n : Nat) (p : Nat × TypeId × Nat) : Bool := if p.1 < 10000 then decide (p.1 < n) else true

section
variable {F : Fr} {M M' : Nat → Prop} {ρ : Nat → Value} {σ : St} {a : Act} {w : World} {sh : Sh}

theorem okM_anti (h : ∀ b, M' b → M b) {b : Nat} (hb : okM F M b) : okM F M' b := ⟨hb.1, fun e => hb.2 (h b e)⟩

theorem lkO_fit {ks : List Nat} : ∀ {l : List (Nat × Ob)}, fitO σ ks l → ∀ k ob, lkO l k = some ob → ∃ ob0, σ.o k = some ob0 ∧ fitOb σ ks ob0 ob
  | [], _, k, ob, h => by cases h
  | p :: r, hf, k, ob, h => by
    unfold lkO at h
    split at h
    · rename_i e
      cases h
      have h1 := hf.1
      split at h1
      · rename_i ob0 e0
        exact ⟨ob0, by rw [e]; exact e0, h1⟩
      · exact h1.elim
    · exact lkO_fit hf.2 k ob h
theorem fitC_len {ks : List Nat} : ∀ {l m : List AV}, fitC σ ks l m → l.length = m.length
  | [], [], _ => rfl
  | c :: r, d :: t, h => congrArg Nat.succ (fitC_len h.2)
theorem fitC_get {ks : List Nat} : ∀ {l m : List AV}, fitC σ ks l m → ∀ (j : Nat) (x : AV), m[j]? = some x → ∃ y, l[j]? = some y ∧ fitA σ ks y x
  | [], [], _, j, x, hx => by simp at hx
  | c :: r, d :: t, h, 0, x, hx => by cases hx; exact ⟨c, rfl, h.1⟩
  | c :: r, d :: t, h, j + 1, x, hx => fitC_get h.2 j x hx
theorem lkO_key : ∀ {l : List (Nat × Ob)} {k : Nat} {ob : Ob}, lkO l k = some ob → k ∈ l.map (·.1)
  | [], k, ob, h => by cases h
  | p :: r, k, ob, h => by
    unfold lkO at h
    split at h
    · rename_i e; rw [e]; exact List.mem_cons_self
    · exact List.mem_cons_of_mem _ (lkO_key h)
theorem lk_fit {ks : List Nat} : ∀ {l : List (Nat × AV)}, fitL σ ks l → ∀ t, fitA σ ks (σ.s t) (lk .un l t)
  | [], _, t => trivial
  | p :: r, hf, t => by
    unfold lk
    split
    · rename_i e; rw [e]; exact hf.1
    · exact lk_fit hf.2 t

theorem Rel1.adoptS (hF : F.Wf) (h : Rel1 F M ρ σ a w) (p : Nat × TypeId × Nat) (hp : p.1 < F.n) : Rel F (adoptS σ p) a w := by
  unfold Avc.adoptS
  split
  · rename_i e
    have hs := h.sl p.1
    rw [e] at hs
    have hv : a.tmps.getD p.1 undef = .slice none 0 0 := hs
    obtain ⟨M', ρ', h'⟩ := Rel1.fresh hF h (w' := w) (d := p.1) (dst := p.1) hp (v := .slice none 0 0) (ob := .arr p.2.1 p.2.2 []) (r := .own p.1) (Gr.refl _ _) (fun b hb => by simp [blkOf] at hb) (fun _ =>
      ⟨[], World.ownsRow_nil w F.w0.heap.size p.2.1 p.2.2, fun b hb => by simp [Value.ownBlock] at hb, fun i x hx => by simp at hx, RdL.nil⟩) (.inl rfl)
    refine ⟨M', ρ', h'.gr, h'.st, h'.gl, h'.mb, fun t => ?_, h'.ob, h'.ne, h.df, h.nt, h'.kx⟩
    have h1 := h'.sl t
    rw [getD_put (Nat.lt_of_lt_of_le hp h.nt)] at h1
    split at h1
    · rename_i e2; rw [e2, hv] at *; rw [← e2]; exact h1
    · exact h1
  · split
    · exact ⟨M, ρ, h⟩
    · exact ⟨_, _, h.swap _ _⟩
  · split
    · exact ⟨M, ρ, h⟩
    · exact ⟨_, _, h.swap _ _⟩
  · exact ⟨M, ρ, h⟩
theorem Rel1.nilZ (hF : F.Wf) (h : Rel1 F M ρ σ a w) (k : Nat) (e : TypeId) (z : Nat) : ∃ M', Rel1 F M' (upd ρ k (.slice none 0 0)) (σ.newO k (.arr e z [])) a w := by
  have hk : upd ρ k (Value.slice none 0 0) k = .slice none 0 0 := by rw [upd_apply, if_pos rfl]
  have h1 : Rel1 F M (upd ρ k (.slice none 0 0)) (σ.del k) a w := h.del fun j hj => by rw [upd_apply, if_neg hj]
  refine ⟨_, h1.repl hF k (B0 := none) (ob := .arr e z []) (fun b hb => by cases hb) rfl rfl rfl (Nat.le_refl _) (fun b hb hne => rfl) (fun b hb => by rw [hk] at hb; simp [blkOf] at hb) ?_⟩
  rw [hk]
  exact ⟨[], World.ownsRow_nil .., fun b hb => by simp [Value.ownBlock] at hb, fun i x hx => by simp at hx, RdL.nil⟩
theorem Rel1.adoptB (hF : F.Wf) (h : Rel1 F M ρ σ a w) (p : Nat × TypeId × Nat) (hp : ¬ p.1 < 10000) : Rel F (adoptB σ p) a w := by
  unfold Avc.adoptB
  split
  · rename_i T cs hkb
    split
    · rename_i hj
      obtain ⟨M', h1⟩ := h.nilZ hF p.1 p.2.1 p.2.2
      have hne : (p.1 - 10000) / 100 ≠ p.1 := by omega
      have hkb1 : (σ.newO p.1 (.arr p.2.1 p.2.2 [])).o ((p.1 - 10000) / 100) = some (.box T (cs.map (purgeA p.1))) := by
        show upd (σ.del p.1).o p.1 _ _ = _
        rw [upd_apply, if_neg hne]
        simp only [St.del, if_neg hne, hkb]
        rfl
      obtain ⟨b, vs, e1, e2, e3, e4, e5⟩ := h1.ob _ _ hkb1
      refine ⟨M', _, h1.gr, h1.st, h1.gl, h1.mb, h1.sl, fun k o hk => ?_, fun k k' o o' hk hk' hkk => ?_, h1.df, h1.nt, h1.kx⟩
      · have hk2 : upd (σ.newO p.1 (.arr p.2.1 p.2.2 [])).o ((p.1 - 10000) / 100) _ k = some o := hk
        rw [upd_apply] at hk2
        split at hk2
        · rename_i ek
          subst ek
          cases hk2
          refine ⟨b, vs, e1, e2, e3, by rw [List.length_set]; exact e4, fun j y u hy hu => ?_⟩
          rw [List.getElem?_set] at hy
          split at hy
          · rename_i ej
            split at hy
            · cases hy
              subst ej
              have h0 := e5 _ .nil u (by rw [List.getElem?_map, hj]; rfl) hu
              refine ⟨h0.1, ?_⟩
              show u = upd ρ p.1 (Value.slice none 0 0) p.1
              rw [upd_apply, if_pos rfl]
              exact h0.2
            · cases hy
          · exact e5 j y u hy hu
        · exact h1.ob k o hk2
      · have key : ∀ k o, upd (σ.newO p.1 (.arr p.2.1 p.2.2 [])).o ((p.1 - 10000) / 100) (some (.box T ((cs.map (purgeA p.1)).set ((p.1 - 10000) % 100) (.own p.1)))) k = some o → ∃ o', (σ.newO p.1 (.arr p.2.1 p.2.2 [])).o k = some o' := fun k o hk => by
          rw [upd_apply] at hk
          split at hk
          · rename_i ek; rw [ek]; exact ⟨_, hkb1⟩
          · exact ⟨_, hk⟩
        obtain ⟨o1, g1⟩ := key k o hk
        obtain ⟨o2, g2⟩ := key k' o' hk'
        exact h1.ne k k' o1 o2 g1 g2 hkk
    · split
      · exact ⟨M, ρ, h⟩
      · exact ⟨_, _, h.swap _ _⟩
    · exact ⟨M, ρ, h⟩
  · exact ⟨M, ρ, h⟩
theorem Rel1.adopt1 (hF : F.Wf) (h : Rel1 F M ρ σ a w) (p : Nat × TypeId × Nat) (hp : adOk F.n p = true) : Rel F (adopt1 σ p) a w := by
  unfold Avc.adopt1
  unfold adOk at hp
  split
  · rename_i h1
    rw [if_pos h1] at hp
    exact h.adoptS hF p (of_decide_eq_true hp)
  · rename_i h1
    exact h.adoptB hF p h1
theorem Rel.adopt (hF : F.Wf) : ∀ (l : List (Nat × TypeId × Nat)) (σ : St), Rel F σ a w → (∀ p ∈ l, adOk F.n p = true) → Rel F (Avc.adopt σ l) a w
  | [], _, h, _ => h
  | p :: r, σ, ⟨_, _, h⟩, hp => Rel.adopt hF r (adopt1 σ p) (h.adopt1 hF p (hp p List.mem_cons_self)) (fun q hq => hp q (List.mem_cons_of_mem _ hq))

theorem Rel.fits (hF : F.Wf) (h : Rel F σ a w) (hf : Fits σ sh) : Rel F sh.st a w := by
  obtain ⟨M, ρ, h⟩ := h
  obtain ⟨f1, f2, f3⟩ := hf
  let M' : Nat → Prop := fun b => M b ∧ ∃ k ob, lkO sh.o k = some ob ∧ blkOf (ρ k) = some b
  have hMM : ∀ b, M' b → M b := fun b hb => hb.1
  have hok : ∀ b, okM F M b → okM F M' b := fun b hb => okM_anti hMM hb
  have hmono : ∀ {x : AV} {v : Value}, relA F.cx F.w0 (okM F M) ρ w x v → relA F.cx F.w0 (okM F M') ρ w x v := fun hx => hx.mono (Gr.refl _ _) (Nat.le_refl _) (fun b hb _ => hok b hb) (fun _ _ _ => rfl)
  have hfa : ∀ (r x : AV) (v : Value), relA F.cx F.w0 (okM F M) ρ w r v → fitA σ (sh.o.map (·.1)) r x → relA F.cx F.w0 (okM F M') ρ w x v := by
    intro r x v hs hfit
    cases x
    case dv y =>
      have hn := nrm_rel hs
      have hfit' : (match nrm r with
        | .own k => ((sh.o.map (·.1)).all fun j => j != k) = true ∧ toD σ (.own k) = .dv y
        | x => x = .dv y) := hfit
      split at hfit'
      · rename_i k e
        obtain ⟨h1, h2⟩ := hfit'
        rw [e] at hn
        simp only [toD] at h2
        split at h2
        · rename_i e' z l hk
          simp only [AV.dv.injEq] at h2
          subst h2
          have hv : v = ρ k := hn
          rw [hv]
          refine own_data hF (h.ob k _ hk) h.mb hok (ok' := okM F M') (fun b hb hMb => ⟨.inr (h.mb b hMb).1, fun e3 => ?_⟩)
          obtain ⟨_, k', o', hk', hbk⟩ := e3
          have hne : k ≠ k' := fun e4 => by
            have := List.all_eq_true.1 h1 k' (lkO_key hk')
            simp [e4] at this
          obtain ⟨o0, hk0, _⟩ := lkO_fit f2 k' o' hk'
          refine h.ne k k' _ o0 hk hk0 hne b ?_ hbk
          obtain ⟨cs, hown, _⟩ := h.ob k _ hk
          rcases hown.2 with ⟨h3, _⟩ | ⟨g, cap, cur, h3, _⟩
          · rw [h3] at hb; simp [Value.ownBlock] at hb
          · rw [h3] at hb ⊢; exact hb
        · cases h2
      · rw [hfit'] at hn
        exact hmono hn
    case un => exact trivial
    all_goals
      rw [show r = _ from hfit] at hs
      exact hmono hs
  refine ⟨M', ρ, h.gr, h.st.le (Nat.add_le_add_left f3 _), h.gl, fun b hb => h.mb b hb.1, fun t => hfa _ _ _ (h.sl t) (lk_fit f1 t), fun k ob hk => ?_, fun k k' o o' hk hk' => ?_, h.df, h.nt, h.kx.less hMM⟩
  · have hk' : lkO sh.o k = some ob := hk
    obtain ⟨ob0, hk0, hob⟩ := lkO_fit f2 k ob hk'
    have h1 := h.ob k ob0 hk0
    cases ob with
    | box T cs =>
      cases ob0 with
      | box T0 cs0 =>
        obtain ⟨rfl, hc⟩ := hob
        obtain ⟨b, vs, e1, e2, e3, e4, e5⟩ := h1
        refine ⟨b, vs, e1, ⟨e2, k, _, hk', by rw [e1]; rfl⟩, e3, by rw [← fitC_len hc]; exact e4, fun j y u hy hu => ?_⟩
        obtain ⟨y0, hy0, hyf⟩ := fitC_get hc j y hy
        exact ⟨(e5 j y0 u hy0 hu).1, hfa _ _ _ (e5 j y0 u hy0 hu).2 hyf⟩
      | bld T0 j => cases hob
      | mp T0 l => cases hob
      | arr e z l => cases hob
    | bld T j =>
      cases ob0 with
      | box T0 cs0 => cases hob
      | bld T0 j0 =>
        cases hob
        obtain ⟨b, p, e1, e2, e3⟩ := h1
        exact ⟨b, p, e1, ⟨e2, k, _, hk', by rw [e1]; rfl⟩, e3⟩
      | mp T0 l => cases hob
      | arr e z l => cases hob
    | mp T l =>
      cases ob0 with
      | box T0 cs0 => cases hob
      | bld T0 j0 => cases hob
      | arr e z l => cases hob
      | mp T0 l0 =>
        cases hob
        obtain ⟨b, es, clk, e1, e2, e3⟩ := h1
        exact ⟨b, es, clk, e1, ⟨e2, k, _, hk', by rw [e1]; rfl⟩, e3⟩
    | arr e z l =>
      cases ob0 with
      | box T0 cs0 => cases hob
      | bld T0 j0 => cases hob
      | mp T0 l => cases hob
      | arr e0 z0 l0 =>
        cases hob
        obtain ⟨cs, e1, e2, e3, e4⟩ := h1
        refine ⟨cs, e1, fun b hb => ⟨e2 b hb, k, _, hk', ?_⟩, e3, e4.mono (Nat.le_refl _) (fun b hb _ => hok b hb) (fun _ _ _ => rfl)⟩
        rcases e1.2 with ⟨h3, _⟩ | ⟨g, cap, cur, h3, _⟩
        · rw [h3] at hb; simp [Value.ownBlock] at hb
        · rw [h3] at hb ⊢; exact hb
  · obtain ⟨o0, hk0, _⟩ := lkO_fit f2 k o hk
    obtain ⟨o1, hk1, _⟩ := lkO_fit f2 k' o' hk'
    exact h.ne k k' o0 o1 hk0 hk1
end
end Go.Avc
