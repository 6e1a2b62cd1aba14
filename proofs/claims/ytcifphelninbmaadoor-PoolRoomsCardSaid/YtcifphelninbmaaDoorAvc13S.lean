/- The calculus: append of a string's bytes. No condition. -/
import Derived.Test.YtcifphelninbmaaDoorAvc13
import Derived.Lib.AppendStr
set_option linter.unusedVariables false
set_option linter.unusedSimpArgs false
namespace Go.Avc
open Go Go.Lib

section
variable {F : Fr} {M : Nat → Prop} {ρ : Nat → Value} {σ : St} {a : Act} {w : World} {ok : Nat → Prop}

theorem strRows_rd (b : ByteArray) : RdL ok w (strRows b).flatten (strCells b) := by
  unfold strRows strCells
  generalize b.data.toList = l
  refine ⟨?_, ?_⟩
  · induction l with
    | nil => rfl
    | cons x r ih => simpa using ih
  · intro i x v hx hv
    have hf : (List.map (fun c : UInt8 => [D.int .u8 (c.toNat : Int)]) l).flatten = l.map fun c => D.int .u8 (c.toNat : Int) := by
      clear hx hv
      induction l with
      | nil => rfl
      | cons x r ih => simpa using ih
    rw [hf, List.getElem?_map, Option.map_eq_some_iff] at hx
    rw [List.getElem?_map, Option.map_eq_some_iff] at hv
    obtain ⟨c, h1, rfl⟩ := hx
    obtain ⟨c', h2, rfl⟩ := hv
    rw [h1] at h2
    cases h2
    exact Rd.int _ _

theorem app_str_new {P : Program} {base : Nat} {e : TypeId} {n : Nat} {xs : List Value} (hxl : xs.length = n) (s : ByteArray) (hbase : base ≤ w.heap.size) (h63 : n + s.size ≤ maxLen) (old : Nat) :
    (w.drew.alloc (.cells (xs.toArray ++ (strCells s).toArray ++ Builtin.zeroCells (Value.int .u8 0).cells (grownCap w (n + s.size) old e - (n + s.size))) e)).ownsRow base e 1
        (.slice (some ⟨w.heap.size, 0, none⟩) (n + s.size) (grownCap w (n + s.size) old e)) (n + s.size) (xs ++ strCells s) := by
  have hge := grownCap_ge w (n + s.size) old e
  have hlen : (xs ++ strCells s).length = (n + s.size) * 1 := by rw [List.length_append, hxl, strCells_length, Nat.mul_one]
  refine ⟨hlen, .inr ⟨w.heap.size, _, _, rfl, hbase, heap_alloc_new w.drew _, hge, grownCap_le_maxLen w (n + s.size) old e h63, ?_, ?_⟩⟩
  · have hz1 : (Value.int IntKind.u8 0).cells.size = 1 := rfl
    simp only [Array.size_append, List.size_toArray, size_zeroCells, hz1, hxl, strCells_length]
    omega
  · simp only [Array.toList_append, List.append_assoc]
    rw [← List.append_assoc, ← hlen]
    exact List.take_left

theorem app_gr (o' : Obj) (row : Option Nat) : w.grownBy (w.drew.alloc o') row := ⟨rfl, rfl, rfl, by simp, fun k hk _ => by show (w.heap.push _)[k]? = _; rw [Array.getElem?_push, if_neg (Nat.ne_of_lt hk)]⟩

theorem app_str_run {P : Program} {base : Nat} {t u ty e : TypeId} {i : TypeInfo} (ht : P.underlying t = some (.slice e)) (hu : P.underlying u = some .string) (hi : P.info? e = some i) (hz : i.zero = some (.int .u8 0))
    (hsize : i.size = 1) (hby : i.bytes = 1) {v : Value} {n : Nat} {xs : List Value} (hown : w.ownsRow base e 1 v n xs) (s : ByteArray) (hb : n + s.size ≤ 140737488355328) (hbase : base ≤ w.heap.size) :
    Appended base w e 1 v.ownBlock (n + s.size) (xs ++ strCells s) ((Builtin.append_ #[t, u] ty #[v, .string s]).run P w) := by
  have hmx : n + s.size ≤ maxLen := by simp only [maxLen]; omega
  have hxl : xs.length = n := by simpa using hown.1
  have hlen : (xs ++ strCells s).length = (n + s.size) * 1 := by rw [List.length_append, hxl, strCells_length, Nat.mul_one]
  have hgr := fun old => app_str_new (P := P) (e := e) hxl s hbase hmx old
  rcases hown.2 with ⟨rfl, rfl⟩ | ⟨g, cap, cur, rfl, hbg, hg, hnc, hcm, hcs, htake⟩
  · have hx : xs = [] := List.eq_nil_of_length_eq_zero hxl
    subst hx
    by_cases hm : s.size = 0
    · have hn : strCells s = [] := List.eq_nil_of_length_eq_zero (by rw [strCells_length]; exact hm)
      refine ⟨.slice none 0 0, w, ?_, by rw [hm, hn]; exact World.ownsRow_nil w base e 1, ⟨rfl, rfl, rfl, Nat.le_refl _, fun _ _ _ => rfl⟩, .inl rfl⟩
      have hf := run_firstCells_string (P := P) w 1 s
      rw [hm] at hf
      simp [Builtin.append_, run_underlying ht, run_underlying hu, sizeOf, typeInfo, hi, hsize, Builtin.lenOf, hm, hf]
    · have hr := run_append_nil_string (P := P) w t u ty e i (.int .u8 0) ht hu hi hz s (by omega) (by omega) (by rw [hby]; omega)
      have h3 := hgr 0
      simp only [Nat.zero_add, List.nil_append, Array.empty_append] at h3 ⊢
      have e1 : (s.data.map fun b => Value.int .u8 b.toNat) = (strCells s).toArray := by
        apply Array.ext'
        simp [strCells]
      rw [e1] at hr
      exact ⟨_, _, hr, h3, app_gr _ _, .inr (.inr rfl)⟩
  · by_cases hroom : n + s.size ≤ cap
    · have hcs' : cur.size = cap := by simpa using hcs
      have hr := run_append_room_string (P := P) w t u ty e i ht hu hi hsize g n cap cur hg s hroom (by omega)
      refine ⟨_, _, hr, ⟨hlen, .inr ⟨g, cap, _, rfl, hbg, setRow_heap w g cur _ e _ hg, hroom, hcm, ?_, ?_⟩⟩, ⟨rfl, rfl, rfl, by simp, fun k _ hk => setRow_other w g k _ (fun e => hk (by simp [Value.ownBlock, e]))⟩, .inr (.inl rfl)⟩
      · simp only [List.size_toArray, List.length_append, List.length_take, List.length_drop, Array.length_toList, strCells_length]
        omega
      · have ht' : cur.toList.take n = xs := by simpa using htake
        rw [ht', ← hlen]
        exact List.take_left
    · have holds : ∀ j u, xs[j]? = some u → w.cell? ((⟨g, 0, none⟩ : Addr).add j) = some u := hown.cells (g := g) rfl
      have hr := run_append_grow_string (P := P) w t u ty e i (.int .u8 0) ht hu hi hz ⟨g, 0, none⟩ n cap xs (by rw [hsize]; simpa using hxl) holds s (by omega) (by omega) (by rw [hby]; exact growslice_fits (by omega) (by omega))
      exact ⟨_, _, hr, hgr cap, app_gr _ _, .inr (.inr rfl)⟩

theorem app_str_lit {P : Program} {base : Nat} {t u ty e : TypeId} {i : TypeInfo} (ht : P.underlying t = some (.slice e)) (hu : P.underlying u = some .string) (hi : P.info? e = some i) (hz : i.zero = some (.int .u8 0))
    (hsize : i.size = 1) (hby : i.bytes = 1) {A0 : Option Addr} {n : Nat} {xs : List Value} (hxl : xs.length = n) (hA0 : n ≠ 0 → ∃ b o, A0 = some ⟨b, o, none⟩ ∧ ∀ (j : Nat) (u : Value), xs[j]? = some u → w.cell? ⟨b, o + j, none⟩ = some u)
    (s : ByteArray) (hm : s.size ≠ 0) (hb : n + s.size ≤ 140737488355328) (hbase : base ≤ w.heap.size) :
    Appended base w e 1 none (n + s.size) (xs ++ strCells s) ((Builtin.append_ #[t, u] ty #[.slice A0 n n, .string s]).run P w) := by
  have hmx : n + s.size ≤ maxLen := by simp only [maxLen]; omega
  have hgr := fun old => app_str_new (P := P) (e := e) hxl s hbase hmx old
  cases A0 with
  | none =>
    have hn0 : n = 0 := by
      by_cases h : n = 0
      · exact h
      · obtain ⟨b, o, h2, _⟩ := hA0 h; cases h2
    subst hn0
    have hx0 : xs = [] := List.eq_nil_of_length_eq_zero hxl
    subst hx0
    have hr := run_append_nil_string (P := P) w t u ty e i (.int .u8 0) ht hu hi hz s (by omega) (by omega) (by rw [hby]; omega)
    have h3 := hgr 0
    simp only [Nat.zero_add, List.nil_append, Array.empty_append] at h3 ⊢
    have e1 : (s.data.map fun b => Value.int .u8 b.toNat) = (strCells s).toArray := by
      apply Array.ext'
      simp [strCells]
    rw [e1] at hr
    exact ⟨_, _, hr, h3, app_gr _ _, .inr (.inr rfl)⟩
  | some a0 =>
    have holds : ∀ (j : Nat) (u : Value), xs[j]? = some u → w.cell? (a0.add j) = some u := fun j u hj => by
      have hn : n ≠ 0 := by
        intro e0
        subst e0
        have : xs = [] := List.eq_nil_of_length_eq_zero hxl
        subst this
        cases hj
      obtain ⟨b', o', h2, h3⟩ := hA0 hn
      cases h2
      rw [Addr.add_lit]
      exact h3 j u hj
    have hr := run_append_grow_string (P := P) w t u ty e i (.int .u8 0) ht hu hi hz a0 n n xs (by rw [hsize]; simpa using hxl) holds s (by omega) (by omega) (by rw [hby]; exact growslice_fits (by omega) (by omega))
    exact ⟨_, _, hr, hgr n, app_gr _ _, .inr (.inr rfl)⟩

theorem exAppS_sound (hF : F.Wf) (h : Rel1 F M ρ σ a w) {o : Oper} {t u : TypeId} {s x : Operand} (ho : o.op = .call { callee := .builtin .append, args := #[s, x], argTypes := #[t, u] }) (hu : F.cx.P.underlying u = some .string) (hn : ∀ d, o.dst = some d → d < F.n) {K : St → Prop} (hx : exAppS F.cx σ t s x o.dst K)
    {K' : Act → World → Prop} {Q : Exit → Act → World → Prop} (hK : ∀ σ' a' w', Rel F σ' a' w' → K σ' → K' a' w') : Oper.wp F.cx.P o a w K' Q := by
  unfold exAppS at hx
  split at hx
  · rename_i d e b hd ht ex
    obtain ⟨hone, hx⟩ := hx
    have hxr := ev_rel hF h x
    rw [ex] at hxr
    have hvx : a.eval x = .string b := by
      have hxr' : Rd (okM F M) w (.str b) (a.eval x) := hxr
      generalize a.eval x = v at hxr'
      cases hxr'
      rfl
    unfold Tone at hone
    split at hone
    · rename_i i hi
      split at hone
      · rename_i zv hzv
        split at hone
        · rename_i hsize
          split at hone
          · rename_i y hy
            simp only [Option.some.injEq, Prod.mk.injEq] at hone
            obtain ⟨rfl, hby⟩ := hone
            have hz : i.zero = some (.int .u8 0) := by
              rw [hzv]
              unfold cvD at hy
              split at hy <;> simp at hy
              obtain ⟨rfl, rfl⟩ := hy
              rfl
            have hrun0 : (execOp a.eval o).run F.cx.P w = ((Builtin.append_ #[t, u] o.type #[a.eval s, .string b]).run F.cx.P w).andThen fun v w' => .ok (.value v) w' := by
              simp only [execOp, ho, resolve, invoke, builtin, Sem.run_bind, Sem.run_pure, Result.andThen_ok, List.map_toArray, List.map_cons, List.map_nil, hvx]
            have hs := ev0_rel hF h s
            have hrows : ∀ (j : Nat) (y : List D), (strRows b)[j]? = some y → y.length = 1 := fun j y hj => by
              unfold strRows at hj
              rw [List.getElem?_map, Option.map_eq_some_iff] at hj
              obtain ⟨c, _, rfl⟩ := hj
              rfl
            split at hx
            · rename_i e1
              rw [e1] at hs
              obtain ⟨hb, hx⟩ := hx
              have hvs : a.eval s = .slice none 0 0 := hs
              have hap := app_str_run (P := F.cx.P) (ty := o.type) (w := w) ht hu hi hz hsize hby (World.ownsRow_nil w F.w0.heap.size e 1) b (by omega) h.gr.size
              simp only [Nat.zero_add, List.nil_append] at hap
              obtain ⟨v', w', hr, hrel⟩ := append_rel hF h (k := d) (l := strRows b) (hn d hd) (by rw [strRows_length]; exact hap) (fun b hb => by simp [Value.ownBlock] at hb) hrows (strRows_rd b)
              unfold Oper.wp
              rw [hrun0, hvs, hr, Result.andThen_ok, Oper.upon_value, hd]
              exact hK _ _ _ hrel hx
            · rename_i k e1
              rw [e1] at hs
              split at hx
              · rename_i e' z l hk
                obtain ⟨rfl, rfl, hb, hx⟩ := hx
                obtain ⟨cs, hown, hM, hzz, hR⟩ := h.ob k _ hk
                have hvs : a.eval s = ρ k := hs
                have hap := app_str_run (P := F.cx.P) (ty := o.type) (w := w) ht hu hi hz hsize hby hown b hb h.gr.size
                obtain ⟨v', w', hr, hrel⟩ := append_rel hF h (k := k) (l := l ++ strRows b) (hn d hd) (by rw [List.length_append, strRows_length]; exact hap) (fun b hb => ⟨hM b hb, fun k' o' hk' hne => h.ne k k' _ o' hk hk' (Ne.symm hne) b (by
                    rcases hown.2 with ⟨h3, _⟩ | ⟨g, cap, cur, h3, _⟩
                    · rw [h3] at hb; simp [Value.ownBlock] at hb
                    · rw [h3] at hb ⊢; exact hb)⟩) (fun j y hj => by
                    by_cases hjl : j < l.length
                    · rw [List.getElem?_append_left hjl] at hj; exact hzz j y hj
                    · rw [List.getElem?_append_right (by omega)] at hj; exact hrows _ y hj) (by rw [List.flatten_append]; exact hR.append (strRows_rd b))
                unfold Oper.wp
                rw [hrun0, hvs, hr, Result.andThen_ok, Oper.upon_value, hd]
                exact hK _ _ _ hrel hx
              · exact hx.elim
            · rename_i l e1
              rw [e1] at hs
              obtain ⟨hne, hlz, hb, hx⟩ := hx
              obtain ⟨⟨A0, hvs⟩, hrd⟩ := hs
              obtain ⟨news0, A1, c1, hv1, hn0, hA1⟩ := data_cells (F := F) (M := M) (z := 1) (by omega) hlz hrd
              have hlz' : ∀ (j : Nat) (y : List D), l[j]? = some y → y.length = 1 := fun j y hj => hlz y (List.mem_of_getElem? hj)
              rw [hvs] at hv1
              simp only [Value.slice.injEq] at hv1
              obtain ⟨rfl, _, rfl⟩ := hv1
              have hap := app_str_lit (P := F.cx.P) (ty := o.type) (w := w) (base := F.w0.heap.size) ht hu hi hz hsize hby (A0 := A0) (n := l.length) (xs := news0) ((hn0.1.symm.trans (flat_index (by omega) hlz').1).trans (Nat.mul_one _)) (fun hne => hA1 (fun e => hne (by rw [e]; rfl))) b hne hb h.gr.size
              obtain ⟨v', w', hr, hrel⟩ := append_rel hF h (k := d) (l := l ++ strRows b) (hn d hd) (by rw [List.length_append, strRows_length]; exact hap) (fun b hb => by cases hb) (fun j y hj => by
                    by_cases hjl : j < l.length
                    · rw [List.getElem?_append_left hjl] at hj; exact hlz' j y hj
                    · rw [List.getElem?_append_right (by omega)] at hj; exact hrows _ y hj) (by rw [List.flatten_append]; exact hn0.append (strRows_rd b))
              unfold Oper.wp
              rw [hrun0, hvs, hr, Result.andThen_ok, Oper.upon_value, hd]
              exact hK _ _ _ hrel hx
            · exact hx.elim
          · cases hone
        · cases hone
      · cases hone
    · cases hone
  · exact hx.elim
end
end Go.Avc
