/- The calculus: append, and that it does what it is told to. No condition. -/
import Derived.Test.YtcifphelninbmaaDoorAvc12
set_option linter.unusedVariables false
set_option linter.unusedSimpArgs false
namespace Go.Avc
open Go
section
variable {F : Fr} {M : Nat → Prop} {ρ : Nat → Value} {σ : St} {a : Act} {w : World} {E : Env} {ok : Nat → Prop}

/-- A slice's cells, in a row. -/
def SlCells (F : Fr) (M : Nat → Prop) (w : World) (v : Value) (ys : List (List D)) (news : List Value) : Prop := ∃ A c, v = .slice A ys.length c ∧ RdL (okM F M) w ys.flatten news ∧
  (ys ≠ [] → ∃ b o, A = some ⟨b, o, none⟩ ∧ ∀ (j : Nat) (u : Value), news[j]? = some u → w.cell? ⟨b, o + j, none⟩ = some u)

theorem flat_index {z : Nat} (hz0 : 0 < z) : ∀ {l : List (List D)}, (∀ (i : Nat) (x : List D), l[i]? = some x → x.length = z) → l.flatten.length = l.length * z ∧ ∀ q, q < l.length * z → ∃ x, l[q / z]? = some x ∧ l.flatten[q]? = x[q % z]? ∧ q % z < x.length := by
  intro l hz
  have hlen : l.flatten.length = l.length * z := by
    induction l with
    | nil => simp
    | cons y r ih =>
      rw [List.flatten_cons, List.length_append, ih (fun i x h => hz (i + 1) x (by simpa using h)), hz 0 y rfl, List.length_cons, Nat.succ_mul, Nat.add_comm]
  refine ⟨hlen, fun q hq => ?_⟩
  have hdiv : q / z < l.length := Nat.div_lt_of_lt_mul (by rw [Nat.mul_comm]; exact hq)
  have hmod : q % z < z := Nat.mod_lt _ hz0
  have hx : l[q / z]? = some l[q / z] := List.getElem?_eq_getElem hdiv
  have hxl := hz _ _ hx
  refine ⟨_, hx, ?_, by omega⟩
  have hj : (l[q / z])[q % z]? = some ((l[q / z])[q % z]'(by omega)) := List.getElem?_eq_getElem _
  have := flat_at hz hx hj
  rw [Nat.div_add_mod' q] at this
  rw [this, hj]

theorem data_cells {ys : List (List D)} {v : Value} {z : Nat} (hz0 : 0 < z) (hz : ∀ y ∈ ys, y.length = z) (h : Rd (okM F M) w (.sl ys) v) : ∃ news, SlCells F M w v ys news := by
  cases h with
  | nil A c => exact ⟨[], A, c, rfl, RdL.nil, fun e => absurd rfl e⟩
  | sl _ z' b o c u hc hb hlt hz' hu hr =>
    by_cases hn : ys = []
    · subst hn
      exact ⟨[], _, c, rfl, RdL.nil, fun e => absurd rfl e⟩
    · have hzz : z' = z := by
        cases ys with
        | nil => exact absurd rfl hn
        | cons y r => exact (hz' 0 y rfl).symm.trans (hz y List.mem_cons_self)
      subst hzz
      obtain ⟨hlen, hidx⟩ := flat_index hz0 hz'
      refine ⟨(List.range (ys.length * z')).map fun q => u (q / z') (q % z'), _, c, rfl, ⟨by simp [hlen], fun q x v hx hv => ?_⟩, fun _ => ⟨b, o, rfl, fun q v hv => ?_⟩⟩
      · rw [List.getElem?_map, Option.map_eq_some_iff] at hv
        obtain ⟨q', hq', rfl⟩ := hv
        obtain ⟨h1, h2⟩ := List.getElem?_eq_some_iff.1 hq'
        simp only [List.getElem_range] at h2
        subst h2
        simp only [List.length_range] at h1
        obtain ⟨y, h3, h4, h5⟩ := hidx q h1
        rw [h4] at hx
        exact hr _ y h3 _ x hx
      · rw [List.getElem?_map, Option.map_eq_some_iff] at hv
        obtain ⟨q', hq', rfl⟩ := hv
        obtain ⟨h1, h2⟩ := List.getElem?_eq_some_iff.1 hq'
        simp only [List.getElem_range] at h2
        subst h2
        simp only [List.length_range] at h1
        obtain ⟨y, h3, h4, h5⟩ := hidx q h1
        have := hu _ y h3 _ _ (List.getElem?_eq_getElem h5)
        rwa [Nat.add_assoc, Nat.div_add_mod' q] at this

theorem arg_cells (hF : F.Wf) (h : Rel1 F M ρ σ a w) {x : AV} {v : Value} {ys : List (List D)} {z : Nat} (hz0 : 0 < z) (hz : ∀ y ∈ ys, y.length = z) (hx : relA F.cx F.w0 (okM F M) ρ w x v) (hd : toD σ x = .dv (.d (.sl ys))) : ∃ news, SlCells F M w v ys news := by
  cases x with
  | own k =>
    simp only [toD] at hd
    split at hd
    · rename_i e z' l hk
      simp only [AV.dv.injEq, DV.d.injEq, D.sl.injEq] at hd
      subst hd
      obtain ⟨cs, hown, hM, hz', hR⟩ := h.ob k _ hk
      have hv : v = ρ k := hx
      rcases hown.2 with ⟨h1, h2⟩ | ⟨g, cap, cur, h1, _⟩
      · refine ⟨cs, none, 0, by rw [hv, h1, h2], hR, fun e => absurd (List.eq_nil_of_length_eq_zero h2) e⟩
      · refine ⟨cs, _, cap, by rw [hv, h1], hR, fun _ => ⟨g, 0, rfl, fun j u hj => ?_⟩⟩
        rw [Nat.zero_add]
        exact ownsRow_cells hown h1 j u hj
    · cases hd
  | dv y =>
    cases y with
    | ag m => simp [toD] at hd
    | d y =>
      simp only [toD, AV.dv.injEq, DV.d.injEq] at hd
      subst hd
      exact data_cells hz0 hz (show Rd _ _ (.sl ys) v from hx)
  | _ => simp [toD] at hd

/-- append's outcome: a row of the call's own, in its old block or in a new one. -/
def Appended (base : Nat) (w : World) (e : TypeId) (z : Nat) (old : Option Nat) (n : Nat) (cs : List Value) (r : Result Value) : Prop :=
  ∃ v' w', r = .ok v' w' ∧ w'.ownsRow base e z v' n cs ∧ w.grownBy w' old ∧ (v'.ownBlock = none ∨ v'.ownBlock = old ∨ v'.ownBlock = some w.heap.size)

theorem append_own_run {P : Program} {base : Nat} {t ty e : TypeId} {i : TypeInfo} {zv : Value} (ht : P.underlying t = some (.slice e)) (hi : P.info? e = some i) (hzv : i.zero = some zv) (hzs : zv.cells.size = i.size) (hs0 : 0 < i.size)
    {v : Value} {n : Nat} {xs : List Value} (hown : w.ownsRow base e i.size v n xs) {A : Option Addr} {m c : Nat} {news : List Value} (hl : news.length = m * i.size) (hA : m ≠ 0 → ∃ b o, A = some ⟨b, o, none⟩ ∧ ∀ (j : Nat) (u : Value), news[j]? = some u → w.cell? ⟨b, o + j, none⟩ = some u)
    (h1 : ∀ u ∈ news, u.oneCell' = true) (h63 : n + m ≤ 9223372036854775807) (hb : (n + m) * i.bytes ≤ 140737488355328) (hbase : base ≤ w.heap.size) :
    Appended base w e i.size v.ownBlock (n + m) (xs ++ news) ((Builtin.append_ #[t, t] ty #[v, .slice A m c]).run P w) := by
  by_cases hm : m = 0
  · subst hm
    have hn : news = [] := List.eq_nil_of_length_eq_zero (by simpa using hl)
    subst hn
    refine ⟨v, w, ?_, by simpa using hown, ⟨rfl, rfl, rfl, Nat.le_refl _, fun _ _ _ => rfl⟩, .inr (.inl rfl)⟩
    have hff : (Builtin.firstCells i.size 0 (.slice A 0 c)).run P w = .ok #[] w := by
      cases A <;> simp [Builtin.firstCells, loadCells, loadCellsFrom]
    rcases hown.2 with ⟨rfl, rfl⟩ | ⟨g, cap, cur, rfl, _, hg, hnc, _⟩
    · simp [Builtin.append_, run_underlying ht, sizeOf, typeInfo, hi, Builtin.lenOf, hff]
    · simp [Builtin.append_, run_underlying ht, sizeOf, typeInfo, hi, Builtin.lenOf, hff, hnc, storeCells]
  · obtain ⟨b, o, rfl, hc⟩ := hA hm
    obtain ⟨v', w', h2, h3, h4, _, h5⟩ := run_append_own_at (P := P) w base t ty e i zv i.size i.bytes ht hi hzv rfl rfl hzs hs0 v n xs hown ⟨b, o, none⟩ m c news hl (fun j u hj => by rw [Addr.add_lit]; exact hc j u hj) h1 (by simp only [maxLen]; omega) hb hbase
    exact ⟨v', w', h2, h3, h4, .inr h5⟩

theorem append_lit_run {P : Program} {base : Nat} {t ty e : TypeId} {i : TypeInfo} {zv : Value} (ht : P.underlying t = some (.slice e)) (hi : P.info? e = some i) (hzv : i.zero = some zv) (hzs : zv.cells.size = i.size) (hs0 : 0 < i.size)
    {A0 : Option Addr} {n : Nat} {xs : List Value} (hxl : xs.length = n * i.size) (hA0 : n ≠ 0 → ∃ b o, A0 = some ⟨b, o, none⟩ ∧ ∀ (j : Nat) (u : Value), xs[j]? = some u → w.cell? ⟨b, o + j, none⟩ = some u)
    {b o m c : Nat} {news : List Value} (hl : news.length = m * i.size) (hm : m ≠ 0) (hc : ∀ (j : Nat) (u : Value), news[j]? = some u → w.cell? ⟨b, o + j, none⟩ = some u) (h63 : n + m ≤ 9223372036854775807) (hb : (n + m) * i.bytes ≤ 140737488355328) (hbase : base ≤ w.heap.size) :
    Appended base w e i.size none (n + m) (xs ++ news) ((Builtin.append_ #[t, t] ty #[.slice A0 n n, .slice (some ⟨b, o, none⟩) m c]).run P w) := by
  have hmx : n + m ≤ maxLen := by simp only [maxLen]; omega
  have hres : ∀ old, (w.drew.alloc (.cells (xs.toArray ++ news.toArray ++ Builtin.zeroCells zv.cells (grownCap w (n + m) old e - (n + m))) e)).ownsRow base e i.size (.slice (some ⟨w.heap.size, 0, none⟩) (n + m) (grownCap w (n + m) old e)) (n + m) (xs ++ news) := by
    intro old
    have hge := grownCap_ge w (n + m) old e
    have hlen : (xs ++ news).length = (n + m) * i.size := by rw [List.length_append, hxl, hl, Nat.add_mul]
    refine ⟨hlen, .inr ⟨w.heap.size, _, _, rfl, hbase, heap_alloc_new w.drew _, hge, grownCap_le_maxLen w (n + m) old e hmx, ?_, ?_⟩⟩
    · simp only [Array.size_append, List.size_toArray, size_zeroCells, hzs, hxl, hl, ← Nat.add_mul]
      congr 1
      omega
    · simp only [Array.toList_append, List.append_assoc]
      rw [← List.append_assoc, ← hlen]
      exact List.take_left
  have hgr : ∀ o', w.grownBy (w.drew.alloc o') none := fun o' => ⟨rfl, rfl, rfl, by simp, fun k hk _ => by show (w.heap.push _)[k]? = _; rw [Array.getElem?_push, if_neg (Nat.ne_of_lt hk)]⟩
  cases A0 with
  | none =>
    have hn0 : n = 0 := by
      by_cases h : n = 0
      · exact h
      · obtain ⟨b, o, h2, _⟩ := hA0 h; cases h2
    subst hn0
    have hx0 : xs = [] := List.eq_nil_of_length_eq_zero (by simpa using hxl)
    subst hx0
    have hr := run_append_nil (P := P) w t ty e i zv ht hi hzv ⟨b, o, none⟩ m c news hl (fun j u hj => by rw [Addr.add_lit]; exact hc j u hj) (by omega) (by omega) (by simp only [Nat.zero_add] at hb; omega)
    have h3 := hres 0
    simp only [Nat.zero_add, List.nil_append, Array.empty_append] at h3 ⊢
    exact ⟨_, _, hr, h3, hgr _, .inr (.inr rfl)⟩
  | some a0 =>
    have holds : ∀ (j : Nat) (u : Value), xs[j]? = some u → w.cell? (a0.add j) = some u := fun j u hj => by
      have hn : n ≠ 0 := by
        intro e0
        subst e0
        have : xs = [] := List.eq_nil_of_length_eq_zero (by simpa using hxl)
        subst this
        cases hj
      obtain ⟨b', o', h2, h3⟩ := hA0 hn
      cases h2
      rw [Addr.add_lit]
      exact h3 j u hj
    have hr := run_append_grow (P := P) w t ty e i zv ht hi hzv a0 n n xs hxl holds ⟨b, o, none⟩ m c news hl (fun j u hj => by rw [Addr.add_lit]; exact hc j u hj) (by omega) (by omega) (growslice_fits (by omega) hb)
    exact ⟨_, _, hr, hres n, hgr _, .inr (.inr rfl)⟩

/-- The frame behind an append. -/
theorem append_rel (hF : F.Wf) (h : Rel1 F M ρ σ a w) {k d : Nat} {e : TypeId} {z : Nat} {l : List (List D)} {cs : List Value} {r : Result Value} {old : Option Nat} (hd : d < F.n)
    (hr : Appended F.w0.heap.size w e z old l.length cs r) (hold : ∀ b, old = some b → M b ∧ ∀ k' o', σ.o k' = some o' → k' ≠ k → blkOf (ρ k') ≠ some b) (hz : ∀ (i : Nat) (x : List D), l[i]? = some x → x.length = z) (hl : RdL (okM F M) w l.flatten cs) :
    ∃ v' w', r = .ok v' w' ∧ Rel F (σ.newOb k d (.own k) (.arr e z l)) (a.put (some d) v') w' := by
  obtain ⟨v', w', hr, hown, hg, hat⟩ := hr
  refine ⟨v', w', hr, ?_⟩
  have hbk : ∀ b, blkOf v' = some b → v'.ownBlock = some b := fun b hb => by
    rcases hown.2 with ⟨h1, _⟩ | ⟨g, cap, cur, h1, _⟩
    · rw [h1] at hb; simp [blkOf] at hb
    · rw [h1] at hb ⊢; exact hb
  have h1 : Rel1 F M (upd ρ k v') (σ.del k) a w := h.del fun j hj => by rw [upd_apply, if_neg hj]
  have hkv : upd ρ k v' k = v' := by rw [upd_apply, if_pos rfl]
  have h2 := h1.repl hF k (B0 := old) (ob := .arr e z l) (w' := w') (fun b hb => ⟨(hold b hb).1, fun k' o' hk' hne => by
      simp only [St.del, if_neg hne, Option.map_eq_some_iff] at hk'
      obtain ⟨o'', ho'', _⟩ := hk'
      rw [upd_apply, if_neg hne]
      exact (hold b hb).2 k' o'' ho'' hne⟩) hg.os hg.tape hg.output hg.size (fun b hb hne => hg.block b hb (fun e => hne e.symm)) (fun b hb => by
      rw [hkv] at hb
      have hb' := hbk b hb
      refine ⟨?_, (hown.lt b hb').2⟩
      rcases hat with e | e | e
      · rw [e] at hb'; cases hb'
      · exact .inl (e ▸ hb')
      · rw [e] at hb'
        cases hb'
        exact .inr (Nat.le_refl _)) (by
      rw [hkv]
      refine ⟨cs, hown, fun b hb => .inr ?_, hz, hl.mono hg.size (fun b hb hlt => ⟨hb.1, fun e => ?_⟩) (fun b hb hlt => hg.block b hlt (fun e => hb.2 (hold b e.symm).1))⟩
      · rcases hown.2 with ⟨h3, _⟩ | ⟨g, cap, cur, h3, _⟩
        · rw [h3] at hb; simp [Value.ownBlock] at hb
        · rw [h3] at hb ⊢; exact hb
      · rcases e with e | e
        · exact hb.2 e
        · have hb' := hbk b e
          rcases hat with e2 | e2 | e2
          · rw [e2] at hb'; cases hb'
          · rw [e2] at hb'; exact hb.2 (hold b hb').1
          · rw [e2] at hb'; cases hb'; omega)
  exact ⟨_, _, h2.put (dst := some d) (r := .own k) (v := v') (fun e he => by cases he; exact hd) hkv.symm⟩

theorem exAppend_sound (hF : F.Wf) (h : Rel1 F M ρ σ a w) {o : Oper} {t u : TypeId} {s x : Operand} (ho : o.op = .call { callee := .builtin .append, args := #[s, x], argTypes := #[t, u] }) (hn : ∀ d, o.dst = some d → d < F.n) {K : St → Prop} (hx : exAppend F.cx σ t u s x o.dst K)
    {K' : Act → World → Prop} {Q : Exit → Act → World → Prop} (hK : ∀ σ' a' w', Rel F σ' a' w' → K σ' → K' a' w') : Oper.wp F.cx.P o a w K' Q := by
  unfold exAppend at hx
  split at hx
  · rename_i d e hd hu
    split at hx
    · rename_i ys hys
      obtain ⟨h0, hzero, hyz, hx⟩ := hx
      have htu : t = u ∧ toD σ (ev F.cx σ x) = .dv (.d (.sl ys)) := by
        split at hys
        · rename_i e' zs h1 h2
          split at hys
          · rename_i htu
            simp only [Option.some.injEq] at hys
            subst hys
            exact ⟨htu, h2⟩
          · cases hys
        · cases hys
      obtain ⟨rfl, hxd⟩ := htu
      obtain ⟨news, A, c, hvx, hnews, hAc⟩ := arg_cells hF h (Nat.pos_of_ne_zero h0) hyz (ev_rel hF h x) hxd
      split at hzero
      case h_2 => exact hzero.elim
      rename_i zl hzl
      unfold Tzero at hzl
      split at hzl
      · rename_i i hi
        split at hzl
        · rename_i zv hzv
          have hce : F.cx.P.cellsOf e = i.size := by simp [Program.cellsOf, hi]
          have hbe : F.cx.P.bytesOf e = i.bytes := by simp [Program.bytesOf, hi]
          rw [hce] at h0 hyz hx
          rw [hbe] at hx
          have hs0 : 0 < i.size := Nat.pos_of_ne_zero h0
          have hyz' : ∀ (j : Nat) (y : List D), ys[j]? = some y → y.length = i.size := fun j y hj => hyz y (List.mem_of_getElem? hj)
          have hnl : news.length = ys.length * i.size := hnews.1.symm.trans (flat_index hs0 hyz').1
          have hA' : ys.length ≠ 0 → ∃ b o, A = some ⟨b, o, none⟩ ∧ ∀ (j : Nat) (u : Value), news[j]? = some u → w.cell? ⟨b, o + j, none⟩ = some u := fun hne => hAc (fun e => hne (by rw [e]; rfl))
          have hrun0 : (execOp a.eval o).run F.cx.P w = ((Builtin.append_ #[t, t] o.type #[a.eval s, a.eval x]).run F.cx.P w).andThen fun v w' => .ok (.value v) w' := by
            simp only [execOp, ho, resolve, invoke, builtin, Sem.run_bind, Sem.run_pure, Result.andThen_ok, List.map_toArray, List.map_cons, List.map_nil]
          have hzsz : zv.cells.size = i.size ∨ True := .inr trivial
          have hs := ev0_rel hF h s
          have hzr : RdL (okM F M) w zl zv.cells.toList := cvD_rd hzl
          have hzs : zv.cells.size = i.size := by
            have h1 : zl.length = zv.cells.size := hzr.1.trans (Array.length_toList ..)
            omega
          · split at hx
            · rename_i e1
              rw [e1] at hs
              obtain ⟨hb, h63, hx⟩ := hx
              have hvs : a.eval s = .slice none 0 0 := hs
              have hap := append_own_run (P := F.cx.P) (ty := o.type) (w := w) hu hi hzv hzs hs0 (World.ownsRow_nil w F.w0.heap.size e i.size) (A := A) (c := c) hnl hA' hnews.oneCell (by omega) (by simpa using hb) h.gr.size
              simp only [Nat.zero_add, List.nil_append] at hap
              obtain ⟨v', w', hr, hrel⟩ := append_rel hF h (k := d) (hn d hd) hap (fun b hb => by simp [Value.ownBlock] at hb) hyz' hnews
              unfold Oper.wp
              rw [hrun0, hvs, hvx, hr, Result.andThen_ok, Oper.upon_value, hd]
              exact hK _ _ _ hrel hx
            · rename_i k e1
              rw [e1] at hs
              split at hx
              · rename_i e' z l hk
                obtain ⟨rfl, rfl, hb, h63, hx⟩ := hx
                obtain ⟨cs, hown, hM, hz, hR⟩ := h.ob k _ hk
                have hvs : a.eval s = ρ k := hs
                have hap := append_own_run (P := F.cx.P) (ty := o.type) (w := w) hu hi hzv hzs hs0 hown (A := A) (c := c) hnl hA' hnews.oneCell h63 hb h.gr.size
                obtain ⟨v', w', hr, hrel⟩ := append_rel hF h (k := k) (l := l ++ ys) (hn d hd) (by rw [List.length_append]; exact hap) (fun b hb => ⟨hM b hb, fun k' o' hk' hne => h.ne k k' _ o' hk hk' (Ne.symm hne) b (by
                    rcases hown.2 with ⟨h3, _⟩ | ⟨g, cap, cur, h3, _⟩
                    · rw [h3] at hb; simp [Value.ownBlock] at hb
                    · rw [h3] at hb ⊢; exact hb)⟩) (fun j y hj => by
                    by_cases hjl : j < l.length
                    · rw [List.getElem?_append_left hjl] at hj; exact hz j y hj
                    · rw [List.getElem?_append_right (by omega)] at hj; exact hyz' _ y hj) (by rw [List.flatten_append]; exact hR.append hnews)
                unfold Oper.wp
                rw [hrun0, hvs, hvx, hr, Result.andThen_ok, Oper.upon_value, hd]
                exact hK _ _ _ hrel hx
              · exact hx.elim
            · rename_i l e1
              rw [e1] at hs
              obtain ⟨hne, hlz, hb, h63, hx⟩ := hx
              obtain ⟨⟨A0, hvs⟩, hrd⟩ := hs
              obtain ⟨news0, A1, c1, hv1, hn0, hA1⟩ := data_cells (F := F) (M := M) hs0 hlz hrd
              have hlz' : ∀ (j : Nat) (y : List D), l[j]? = some y → y.length = i.size := fun j y hj => hlz y (List.mem_of_getElem? hj)
              rw [hvs] at hv1
              simp only [Value.slice.injEq] at hv1
              obtain ⟨rfl, _, rfl⟩ := hv1
              obtain ⟨b, o', rfl, hc⟩ := hAc hne
              have hap := append_lit_run (P := F.cx.P) (ty := o.type) (w := w) (base := F.w0.heap.size) (c := c) hu hi hzv hzs hs0 (A0 := A0) (n := l.length) (xs := news0) (hn0.1.symm.trans (flat_index hs0 hlz').1) (fun hne => hA1 (fun e => hne (by rw [e]; rfl))) hnl (fun e => hne (List.eq_nil_of_length_eq_zero e)) hc h63 hb h.gr.size
              obtain ⟨v', w', hr, hrel⟩ := append_rel hF h (k := d) (l := l ++ ys) (hn d hd) (by rw [List.length_append]; exact hap) (fun b hb => by cases hb) (fun j y hj => by
                    by_cases hjl : j < l.length
                    · rw [List.getElem?_append_left hjl] at hj; exact hlz' j y hj
                    · rw [List.getElem?_append_right (by omega)] at hj; exact hyz' _ y hj) (by rw [List.flatten_append]; exact hn0.append hnews)
              unfold Oper.wp
              rw [hrun0, hvs, hvx, hr, Result.andThen_ok, Oper.upon_value, hd]
              exact hK _ _ _ hrel hx
            · exact hx.elim
        · cases hzl
      · cases hzl
    · exact hx.elim
  · exact hx.elim
end
end Go.Avc
