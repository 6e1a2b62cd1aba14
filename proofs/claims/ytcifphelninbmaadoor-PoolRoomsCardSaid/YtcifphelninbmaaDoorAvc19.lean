/- The calculus: a function's contract out of what its code asks. No condition. -/
import Derived.Test.YtcifphelninbmaaDoorAvc18
set_option linter.unusedVariables false
set_option linter.unusedSimpArgs false
namespace Go.Avc
open Go

section
variable {F : Fr} {M : Nat → Prop} {ρ : Nat → Value} {σ : St} {a : Act} {w : World} {E : Env} {ok ok' : Nat → Prop}

theorem Rd.flat {x : D} {v : Value} (h : Rd ok w x v) (hf : x.flat = true) : Rd ok' w x v := by
  cases h with
  | int k n => exact .int k n
  | bool b => exact .bool b
  | str s => exact .str s
  | nil A c => exact .nil A c
  | sl l z b o c u hc hb hlt hz hu hr =>
    have : l = [] := by simpa [D.flat] using hf
    subst this
    exact .nil _ _
theorem RdL.flat {l : List D} {vs : List Value} (h : RdL ok w l vs) (hf : l.all D.flat = true) : RdL ok' w l vs :=
  ⟨h.1, fun i x v hx hv => (h.2 i x v hx hv).flat (List.all_eq_true.1 hf x (List.mem_of_getElem? hx))⟩
theorem RdV.flat {x : DV} {v : Value} (h : RdV ok w x v) (hf : flatV x = true) : RdV ok' w x v := by
  cases x with
  | d x => exact Rd.flat (x := x) h hf
  | ag l =>
    obtain ⟨cs, h1, h2⟩ := h
    exact ⟨cs, h1, h2.flat hf⟩

theorem okM_res {b : Nat} (h : okM F M b) : resOk F false b := h.1.imp (fun h => ⟨rfl, h⟩) id

theorem own_data2 {base : Nat} {e : TypeId} {z : Nat} {l : List (List D)} {v : Value} {cs : List Value} (hown : w.ownsRow base e z v l.length cs) (hz : ∀ (i : Nat) (x : List D), l[i]? = some x → x.length = z) (hl : RdL ok w l.flatten cs) (hb : ∀ b, v.ownBlock = some b → ok b ∧ b < w.heap.size) : Rd ok w (.sl l) v := by
  rcases hown.2 with ⟨rfl, hn⟩ | ⟨g, cap, cur, hg, _, _, hcap, _⟩
  · have : l = [] := List.eq_nil_of_length_eq_zero hn
    subst this
    exact .nil _ _
  · have := hb g (by rw [hg]; rfl)
    rw [hg]
    exact Rd.of_flat hz hl (ownsRow_cells hown hg) this.1 this.2 hcap

theorem retA_rel (hF : F.Wf) (h : Rel1 F M ρ σ a w) {fresh : Bool} {x r : AV} {v : Value} (hx : relA F.cx F.w0 (okM F M) ρ w x v) (hr : retA σ fresh x = some r) : r.plain = true ∧ r.tup = false ∧ rel0 F.cx F.w0 (resOk F fresh) (fun _ => undef) w r v := by
  unfold retA at hr
  split at hr
  · cases hr
    exact ⟨rfl, rfl, by rw [show v = _ from hx]; exact Rd.nil _ _⟩
  · split at hr
    · cases hr
    · rename_i hf
      cases hr
      simp only [Bool.not_eq_true] at hf
      subst hf
      exact ⟨rfl, rfl, hx.2.mono (Nat.le_refl _) (fun b hb _ => okM_res hb) (fun _ _ _ => rfl)⟩
  · rename_i k
    split at hr
    · rename_i e z l hk
      split at hr
      · cases hr
      · rename_i hf
        cases hr
        refine ⟨rfl, rfl, ?_⟩
        obtain ⟨cs, hown, hM, hz, hl⟩ := h.ob k _ hk
        rw [show v = _ from hx]
        refine own_data2 (ok := resOk F fresh) hown hz ?_ (fun b hb => ⟨.inr (h.mb b (hM b hb)).1, (h.mb b (hM b hb)).2⟩)
        cases fresh with
        | false => exact hl.mono (Nat.le_refl _) (fun b hb _ => okM_res hb) (fun _ _ _ => rfl)
        | true =>
          refine hl.flat ?_
          simp only [Bool.true_and, Bool.not_eq_true, Bool.not_eq_false', List.all_eq_true] at hf
          rw [List.all_eq_true]
          intro y hy
          obtain ⟨x', hx', hy'⟩ := List.mem_flatten.1 hy
          exact hf x' hx' y hy'
    · cases hr
  · rename_i y
    split at hr
    · cases hr
    · rename_i hf
      cases hr
      refine ⟨rfl, rfl, ?_⟩
      cases fresh with
      | false => exact RdV.mono (x := y) hx (Nat.le_refl _) (fun b hb _ => okM_res hb) (fun _ _ _ => rfl)
      | true =>
        refine RdV.flat (x := y) hx ?_
        simpa using hf
  · rename_i l
    split at hr
    · cases hr
    · rename_i hf
      cases hr
      simp only [Bool.not_eq_true] at hf
      subst hf
      obtain ⟨b, o, cs, h1, h2, h3, h4, h5⟩ := hx
      exact ⟨rfl, rfl, b, o, cs, h1, okM_res h2, h3, h4, h5.mono (Nat.le_refl _) (fun b hb _ => okM_res hb) (fun _ _ _ => rfl)⟩
  · rename_i y zs
    split at hr
    · cases hr
    · rename_i hf
      cases hr
      refine ⟨rfl, rfl, ?_⟩
      cases fresh with
      | false => exact RdV.mono (x := .ag y) hx.1 (Nat.le_refl _) (fun b hb _ => okM_res hb) (fun _ _ _ => rfl)
      | true =>
        refine RdV.flat (x := .ag y) hx.1 ?_
        simpa using hf
  · cases hr

/-- How a result is read. -/
def rdR (tmps : Array Value) : ResultVar → Sem Value
  | .tmp t => pure (tmps.getD t undef)
  | .cell a t => do loadVar t (← asAddr (tmps.getD a undef))

theorem retL_rel (hF : F.Wf) (h : Rel1 F M ρ σ a w) {fresh : Bool} : ∀ {cs ds : List AV}, retL σ fresh cs = some ds → ds.length = cs.length ∧ ∀ (j : Nat) (y x : AV) (u : Value), cs[j]? = some y → relA F.cx F.w0 (okM F M) ρ w y u → ds[j]? = some x → x.plain = true ∧ x.tup = false ∧ rel0 F.cx F.w0 (resOk F fresh) (fun _ => undef) w x u
  | [], ds, hr => by cases hr; exact ⟨rfl, fun j y x u hy => by simp at hy⟩
  | c :: r, ds, hr => by
    unfold retL at hr
    split at hr
    · rename_i x l h1 h2
      cases hr
      obtain ⟨g1, g2⟩ := retL_rel hF h h2
      refine ⟨by rw [List.length_cons, List.length_cons, g1], fun j y z u hy hu hz => ?_⟩
      cases j with
      | zero => cases hy; cases hz; exact retA_rel hF h hu h1
      | succ j => exact g2 j y z u hy hu hz
    · cases hr
theorem boxA_rel (hF : F.Wf) (h : Rel1 F M ρ σ a w) {fresh : Bool} {t : Nat} {T : TypeId} {r : AV} (hr : boxA F.cx.P σ fresh T (σ.s t) = some r) : ∃ v, (rdR a.tmps (.cell t T)).run F.cx.P w = .ok v w ∧ r.plain = true ∧ r.tup = false ∧ rel0 F.cx F.w0 (resOk F fresh) (fun _ => undef) w r v := by
  unfold boxA at hr
  split at hr
  · rename_i k e
    split at hr
    · rename_i T' cs hk
      split at hr
      · rename_i ds hds
        obtain ⟨hdl, hdr⟩ := retL_rel hF h hds
        have hs := h.sl t
        rw [e] at hs
        obtain ⟨b, hk0, hv⟩ := hs
        obtain ⟨b', vs, hk1, hM, hh, hl, hc⟩ := h.ob k _ hk
        rw [hk0] at hk1
        simp only [Value.pointer.injEq, Option.some.injEq, Addr.mk.injEq, and_true, true_and] at hk1
        subst hk1
        have hcell : ∀ j u, vs[j]? = some u → w.cell? ⟨b, j, none⟩ = some u := fun j u hj => by
          unfold World.cell?
          rw [hh]
          simpa using hj
        have hd : ∀ (j : Nat) (x : AV) (u : Value), ds[j]? = some x → vs[j]? = some u → x.plain = true ∧ x.tup = false ∧ rel0 F.cx F.w0 (resOk F fresh) (fun _ => undef) w x u := fun j x u hx hu => by
          have hj : j < cs.length := by rw [← hdl]; exact (List.getElem?_eq_some_iff.1 hx).1
          have hy : cs[j]? = some cs[j] := List.getElem?_eq_getElem hj
          exact hdr j _ x u hy (hc j _ u hy hu).2 hx
        unfold cellA at hr
        split at hr
        · rename_i hT
          split at hr
          · rename_i l hD
            split at hr
            · rename_i hlen
              cases hr
              have hR : RdL (resOk F fresh) w l vs.toList := by
                refine allD_rd (F := F) (ρ := fun _ => undef) hD (by simp [hdl, hl]) (fun j y u hy hu => ?_)
                rw [Array.getElem?_toList] at hu
                exact relA_of0 (hd _ y u hy hu).2.2
              have hpart : partD F.cx.P T l = some (F.cx.P.cellsOf T ≠ 0 ∧ F.cx.P.cellsOf T ≤ l.length, .ag (l.take (F.cx.P.cellsOf T))) := by
                unfold partD
                rw [hT]
              obtain ⟨v, h1, h2⟩ := load_run (P := F.cx.P) (b := b) (o := 0) hR (fun j u hj => by
                rw [Array.getElem?_toList] at hj
                rw [Nat.zero_add]
                exact hcell _ u hj) hpart ⟨hlen.2, Nat.le_of_eq hlen.1.symm⟩
              rw [List.take_of_length_le (Nat.le_of_eq hlen.1)] at h2
              refine ⟨v, ?_, rfl, rfl, h2⟩
              show (do loadVar T (← asAddr (a.tmps.getD t undef))).run F.cx.P w = _
              rw [hv]
              simp [asAddr, h1]
            · cases hr
          · cases hr
        · rename_i hT
          rcases ds with _ | ⟨c, _ | ⟨d, r'⟩⟩
          · cases hr
          · have hcr : c = r := Option.some.inj hr
            have hlt : 0 < vs.size := by rw [← hl, ← hdl]; exact Nat.zero_lt_one
            have hu : vs[0]? = some vs[0] := Array.getElem?_eq_getElem hlt
            have h1 := hd 0 c vs[0] rfl hu
            refine ⟨vs[0], ?_, hcr ▸ h1.1, hcr ▸ h1.2.1, hcr ▸ h1.2.2⟩
            show (do loadVar T (← asAddr (a.tmps.getD t undef))).run F.cx.P w = _
            rw [hv]
            simp [asAddr, loadVar, Tk_agg hT w, hcell 0 _ hu]
          · cases hr
        · cases hr
      · cases hr
    · cases hr
  · cases hr
theorem resA_rel (hF : F.Wf) (h : Rel1 F M ρ σ a w) {fresh : Bool} {x : ResultVar} {r : AV} (hr : resA F.cx.P σ fresh x = some r) : ∃ v, (rdR a.tmps x).run F.cx.P w = .ok v w ∧ r.plain = true ∧ r.tup = false ∧ rel0 F.cx F.w0 (resOk F fresh) (fun _ => undef) w r v := by
  cases x with
  | tmp t => exact ⟨a.tmps.getD t undef, by simp [rdR], retA_rel hF h (h.sl t) hr⟩
  | cell t T => exact boxA_rel hF h hr

theorem ressA_rel (hF : F.Wf) (h : Rel1 F M ρ σ a w) {fresh : Bool} : ∀ {l : List ResultVar} {r : AV}, ressA F.cx.P σ fresh l = some r → ∃ vs : List Value, (l.mapM (rdR a.tmps)).run F.cx.P w = .ok vs w ∧ vs.length = l.length ∧ r.plain = true ∧ relT F.cx F.w0 (resOk F fresh) (fun _ => undef) w r vs
  | [], r, hr => by cases hr; exact ⟨[], by simp, rfl, rfl, rfl⟩
  | x :: l, r, hr => by
    unfold ressA at hr
    split at hr
    · rename_i y t e1 e2
      cases hr
      obtain ⟨v, h0, h1, _, h2⟩ := resA_rel hF h e1
      obtain ⟨vs, g0, g1, h3, h4⟩ := ressA_rel hF h e2
      refine ⟨v :: vs, ?_, by simp [g1], by simp [AV.plain, h1, h3], _, _, rfl, h2, h4⟩
      rw [List.mapM_cons]
      simp only [Sem.run_bind, Sem.run_pure, Result.andThen_ok, h0, g0]
    · cases hr

theorem outA_rel (hF : F.Wf) (h : Rel1 F M ρ σ a w) {fresh : Bool} {fn : Func} {l : List ResultVar} (hl : fn.results = l.toArray) {r : AV} (hr : outA F.cx.P σ fresh l = some r) : r.plain = true ∧ ∃ v, (results fn a.tmps).run F.cx.P w = .ok v w ∧ relA F.cx F.w0 (resOk F fresh) (fun _ => undef) w r v := by
  have hrun : ∀ vs : List Value, (l.mapM (rdR a.tmps)).run F.cx.P w = .ok vs w → (results fn a.tmps).run F.cx.P w = .ok (if h : vs.toArray.size = 1 then vs.toArray[0] else .tuple vs.toArray) w := by
    intro vs hm
    unfold results
    rw [hl]
    simp only [List.mapM_toArray, Sem.run_bind]
    rw [Sem.run_map]
    erw [hm]
    rfl
  unfold outA at hr
  split at hr
  · rename_i x
    obtain ⟨v, h0, h1, h2, h3⟩ := resA_rel hF h hr
    refine ⟨h1, _, hrun [v] (by rw [List.mapM_cons]; simp [h0]), ?_⟩
    exact relA_of0 h3
  · rename_i hne
    obtain ⟨vs, g0, g1, h1, h2⟩ := ressA_rel hF h hr
    refine ⟨h1, _, hrun vs g0, ?_⟩
    rw [dif_neg (fun e => by
      simp only [List.size_toArray] at e
      rw [g1] at e
      obtain ⟨x, rfl⟩ := List.length_eq_one_iff.1 e
      exact hne x rfl)]
    cases r with
    | tnil => rw [show vs = _ from h2]; rfl
    | tcons x t => exact ⟨_, rfl, h2⟩
    | _ => exact h2.elim

/-- A function's frame as it begins. -/
def init (as : List AV) : St := { s := fun t => as.getD t .un, o := fun _ => none, c := 0 }

/-- A contract out of the code. -/
theorem ctr_of {cx : Cx} {f : FuncId} {sp : Spec} {fn : Func} {c : Code} {l : List ResultVar} (E : Env) (live : List Nat) (H : List Nat) (hz : List (Nat × List Nat × List Nat)) (hE : EnvOk cx E) (hen : Enters cx.P f) (hf : cx.P.funcs[f]? = some fn) (hb : fn.body = some c) (hok : codeOk fn.ntmps hz c = true) (hl : fn.results = l.toArray)
    (hne : ∀ as, sp.pre as → ∃ r, sp.post as r)
    (hvc : ∀ as, sp.pre as → as.length ≤ fn.ntmps ∧ vc ⟨cx, E, sp.cost as, fn.ntmps, live, H, hz⟩ c (Ends cx.P (sp.post as) sp.fresh l (sp.cost as)) (Ends cx.P (sp.post as) sp.fresh l (sp.cost as)) (fun _ _ => False) (init as)) : Ctr cx f sp := by
  refine ⟨hen, hne, ?_⟩
  intro F as vals hcx hF hst hgl hcost hlen hargs hpre
  subst hcx
  obtain ⟨hn, hv⟩ := hvc as hpre
  have hF' : Fr.Wf ⟨F.cx, F.w0, F.ok, F.N, sp.cost as, fn.ntmps, F.w0, fun _ => False⟩ := ⟨hF.ok, hF.gl, hF.g, by have := hF.nb; show F.N + sp.cost as ≤ _; omega⟩
  have hrel : Rel ⟨F.cx, F.w0, F.ok, F.N, sp.cost as, fn.ntmps, F.w0, fun _ => False⟩ (init as) { tmps := vals.toArray ++ Array.replicate (fn.ntmps - vals.toArray.size) undef, defers := [] } F.w0 := by
    refine ⟨fun _ => False, fun _ => undef, Gr.refl _ _, hst, hgl, fun b hb => hb.elim, fun t => ?_, (fun k o hk => by cases hk), (fun k k' o o' hk => by cases hk), rfl, ?_, ⟨Nat.le_refl _, fun _ _ _ _ => rfl, fun _ hb => hb.elim⟩⟩
    · show relA _ _ _ _ _ (as.getD t .un) _
      rw [List.getD_eq_getElem?_getD]
      cases ht : as[t]? with
      | none => exact trivial
      | some x =>
        have hlt : t < vals.length := by
          obtain ⟨h1, _⟩ := List.getElem?_eq_some_iff.1 ht
          omega
        have h1 := hargs t x vals[t] ht (List.getElem?_eq_getElem hlt)
        have h2 : (vals.toArray ++ Array.replicate (fn.ntmps - vals.toArray.size) undef).getD t undef = vals[t] := by
          rw [Array.getD_eq_getD_getElem?, Array.getElem?_append_left (by simpa using hlt)]
          simp [hlt]
        rw [show ({ tmps := vals.toArray ++ Array.replicate (fn.ntmps - vals.toArray.size) undef, defers := [] } : Act).tmps.getD t undef = vals[t] from h2]
        exact (relA_of0 h1).mono (Gr.refl _ _) (Nat.le_refl _) (fun b hb _ => ⟨.inl hb, fun h => h⟩) (fun _ _ _ => rfl)
    · show fn.ntmps ≤ _
      simp only [Array.size_append, List.size_toArray, Array.size_replicate]
      omega
  have hend : ∀ (σ : St) (a : Act) (w : World), Rel ⟨F.cx, F.w0, F.ok, F.N, sp.cost as, fn.ntmps, F.w0, fun _ => False⟩ σ a w → Ends F.cx.P (sp.post as) sp.fresh l (sp.cost as) σ → a.defers = [] ∧ ∃ v, (results fn a.tmps).run F.cx.P w = .ok v w ∧ ∃ v' r, Ending.returned v = .returned v' ∧ Gr F.cx.g F.w0 w ∧ StAt F.cx (F.N + sp.cost as) w ∧ sp.post as r ∧ r.plain = true ∧ relA F.cx F.w0 (resOk F sp.fresh) (fun _ => undef) w r v' := by
    intro σ a w h he
    obtain ⟨M, ρ, h⟩ := h
    obtain ⟨h1, h2⟩ := he
    split at h2
    · rename_i r hr
      obtain ⟨h3, v, h4, h5⟩ := outA_rel hF' h hl hr
      exact ⟨h.df, v, h4, v, r, rfl, h.gr, h.st.le (Nat.add_le_add_left h1 _), h2, h3, h5⟩
    · exact h2.elim
  exact calls_of_wp hf hb (vc_sound (F := ⟨F.cx, F.w0, F.ok, F.N, sp.cost as, fn.ntmps, F.w0, fun _ => False⟩) (live := live) (H := H) (hz := hz) hE hF' c hok _ _ _ _ (fun σ a w h hk => hend σ a w h hk) (fun σ a w h hk => hend σ a w h hk) (fun j σ a w h hk => hk.elim) _ _ _ hrel hv)
end
end Go.Avc
