/- The calculus: strings.Builder, and that it does what it is told to. No condition. -/
import Derived.Test.YtcifphelninbmaaDoorAvc13S
import Derived.Lib.Builder
set_option linter.unusedVariables false
set_option linter.unusedSimpArgs false
namespace Go.Avc
open Go
def SK (v : Option (Prop × St)) (k : St → Prop) : Prop := match v with
  | some (p, x) => p ∧ k x
  | none => False
theorem Rd.int_inv {ok : Nat → Prop} {w : World} {k : IntKind} {n : Int} {v : Value} (h : Rd ok w (.int k n) v) : v = .int k n := by cases h; rfl
theorem Rd.str_inv {ok : Nat → Prop} {w : World} {s : ByteArray} {v : Value} (h : Rd ok w (.str s) v) : v = .string s := by cases h; rfl
/-- The key of a builder's buffer. -/
def kB (d : Nat) : Nat := d + 5000
def St.newO (σ : St) (k : Nat) (ob : Ob) : St := { σ.del k with o := upd (σ.del k).o k (some ob) }
def St.wrB (σ : St) (k k' : Nat) (l : List (List D)) : St := { σ.del k' with o := upd (upd (σ.del k').o k' (some (.arr bE 1 l))) k (some (.bld bT k')) }
def sAllocB (σ : St) (d : Option Tmp) : Option (Prop × St) := match d with
  | some d => some (True, (σ.newO (kB d) (.arr bE 1 [])).newOb d d (.ptr d 0) (.bld bT (kB d)))
  | none => none
def bldArg (cx : Cx) (σ : St) (p : Operand) : Option (Nat × Nat × List (List D)) := match ev0 cx σ p with
  | .ptr k off => match σ.o k with
    | some (.bld T k') => match σ.o k' with
      | some (.arr e z l) => if off = 0 ∧ T = bT ∧ e = bE ∧ z = 1 ∧ k ≠ k' then some (k, k', l) else none
      | _ => none
    | _ => none
  | _ => none
def sBld (cx : Cx) (σ : St) (f : FuncId) (args : List Operand) (d : Option Tmp) : Option (Prop × St) := match args with
  | [] => none
  | p :: r => match bldArg cx σ p with
    | none => none
    | some (k, k', l) =>
      if f = fWB then (match r.map (ev cx σ) with
        | [.dv (.d (.int .u8 n))] => some (l.length + 1 ≤ 140737488355328, (σ.wrB k k' (l ++ [[.int .u8 n]])).put d .un)
        | _ => none)
      else if f = fWS then (match r.map (ev cx σ) with
        | [.dv (.d (.str s))] => some (l.length + s.size ≤ 140737488355328, (σ.wrB k k' (l ++ strRows s)).put d (.tcons (.i s.size) (.tcons .un .tnil)))
        | _ => none)
      else if f = fSt then (match r with
        | [] => some (∀ x ∈ l, ∃ n : Int, x = [D.int .u8 n] ∧ 0 ≤ n ∧ n ≤ 255, (σ.newO k' (.arr bE 1 [])).put d (.str (strOfNums (numsOf l))))
        | _ => none)
      else if f = fLn then (match r with
        | [] => some (fLn ≠ 999999, σ.put d (.i l.length))
        | _ => none)
      else none
section
variable {F : Fr} {M : Nat → Prop} {ρ : Nat → Value} {σ : St} {a : Act} {w : World}

theorem Rel1.toNil (hF : F.Wf) (h : Rel1 F M ρ σ a w) (k : Nat) {e : TypeId} {w' : World} {B0 : Option Nat} (hB : ∀ b, B0 = some b → M b ∧ ∀ k' o', σ.o k' = some o' → k' ≠ k → blkOf (ρ k') ≠ some b) (hE : Else w B0 w') :
    ∃ M', Rel1 F M' (upd ρ k (.slice none 0 0)) (σ.newO k (.arr e 1 [])) a w' := by
  have hk : upd ρ k (Value.slice none 0 0) k = .slice none 0 0 := by rw [upd_apply, if_pos rfl]
  have h1 : Rel1 F M (upd ρ k (.slice none 0 0)) (σ.del k) a w := h.del fun j hj => by rw [upd_apply, if_neg hj]
  obtain ⟨e1, e2, e3, e4, e5⟩ := hE
  refine ⟨_, h1.repl hF k (B0 := B0) (ob := .arr e 1 []) (fun b hb => ⟨(hB b hb).1, fun k' o' hk' hne => by
      simp only [St.del, if_neg hne, Option.map_eq_some_iff] at hk'
      obtain ⟨o'', ho'', _⟩ := hk'
      rw [upd_apply, if_neg hne]
      exact (hB b hb).2 k' o'' ho'' hne⟩) e1 e2 e3 e4 (fun b hb hne => e5 b hb hne) (fun b hb => by rw [hk] at hb; simp [blkOf] at hb) ?_⟩
  rw [hk]
  exact ⟨[], World.ownsRow_nil .., fun b hb => by simp [Value.ownBlock] at hb, fun i x hx => by simp at hx, RdL.nil⟩

theorem own_blk {base : Nat} {e : TypeId} {z : Nat} {v : Value} {n : Nat} {cs : List Value} (h : w.ownsRow base e z v n cs) (b : Nat) : blkOf v = some b ↔ v.ownBlock = some b := by
  rcases h.2 with ⟨h1, _⟩ | ⟨g, cap, cur, h1, _⟩
  · rw [h1]; simp [blkOf, Value.ownBlock]
  · rw [h1]; simp [blkOf, Value.ownBlock]

theorem Rel1.wrB (hF : F.Wf) (h : Rel1 F M ρ σ a w) {k k' : Nat} {l l' : List (List D)} (hk : σ.o k = some (.bld bT k')) (hk' : σ.o k' = some (.arr bE 1 l)) (hne : k ≠ k') {b : Nat} (hb : ρ k = .pointer (some ⟨b, 0, none⟩)) {bs' : List Value} {w' : World}
    (hw : Wrote F.w0.heap.size b w (ρ k') bs' w') (hz : ∀ (i : Nat) (x : List D), l'[i]? = some x → x.length = 1) (hl : RdL (okM F M) w l'.flatten bs') (hlen : l'.length = bs'.length) : ∃ M' ρ', Rel1 F M' ρ' (σ.wrB k k' l') a w' := by
  obtain ⟨v', hbv, hown', hat, hos, htp, hout, hsz, hframe⟩ := hw
  obtain ⟨b', p, hb1, hMb, hbh, hp, hone⟩ := h.ob k _ hk
  obtain ⟨cs, hown, hMa, hza, hla⟩ := h.ob k' _ hk'
  have hbb : b' = b := by rw [hb] at hb1; simpa using hb1.symm
  subst hbb
  have hTE : bT ≠ bE := by decide
  have hnb' : v'.ownBlock ≠ some b' := Lib.ownBlock_ne hown' hbv hTE
  have hnb : (ρ k').ownBlock ≠ some b' := Lib.ownBlock_ne hown hbh hTE
  have hblt : b' < w.heap.size := (h.mb b' hMb).2
  let wA : World := { w' with heap := w'.heap.setIfInBounds b' (.cells #[p, ρ k'] bT (0, 0)) }
  have hA : ∀ j, j ≠ b' → wA.heap[j]? = w'.heap[j]? := fun j hj => by
    show (w'.heap.setIfInBounds b' _)[j]? = _
    rw [Array.getElem?_setIfInBounds, if_neg (Ne.symm hj)]
  have hAb : wA.heap[b']? = some (.cells #[p, ρ k'] bT (0, 0)) := by
    show (w'.heap.setIfInBounds b' _)[b']? = _
    rw [Array.getElem?_setIfInBounds, if_pos rfl, if_pos (by omega)]
  have hAs : wA.heap.size = w'.heap.size := Array.size_setIfInBounds ..
  have hownA : wA.ownsRow F.w0.heap.size bE 1 v' bs'.length bs' := hown'.kept (row := some b') ⟨rfl, rfl, rfl, Nat.le_of_eq hAs.symm, fun j _ hj => hA j (fun e => hj (by rw [e]))⟩ (.inr hnb')
  have hblk' : ∀ j, blkOf v' = some j ↔ v'.ownBlock = some j := own_blk hown'
  have h1 : Rel1 F M (upd ρ k' v') (σ.del k') a w := h.del fun j hj => by rw [upd_apply, if_neg hj]
  have hkv : upd ρ k' v' k' = v' := by rw [upd_apply, if_pos rfl]
  have hkk : upd ρ k' v' k = .pointer (some ⟨b', 0, none⟩) := by rw [upd_apply, if_neg hne]; exact hb
  have hpos : ∀ j, v'.ownBlock = some j → ((ρ k').ownBlock = some j ∨ w.heap.size ≤ j) ∧ j < wA.heap.size := fun j hj => by
    rw [hAs]
    rcases hat with e | e | ⟨g, e, e1, e2⟩
    · rw [e] at hj; cases hj
    · refine ⟨.inl (e ▸ hj), ?_⟩
      have := (hown.lt j (e ▸ hj)).2
      omega
    · rw [e] at hj; cases hj
      exact ⟨.inr e1, e2⟩
  have h2 := h1.repl hF k' (w' := wA) (B0 := (ρ k').ownBlock) (ob := .arr bE 1 l') (fun j hj => ⟨hMa j hj, fun k2 o2 hk2 hn2 => by
      simp only [St.del, if_neg hn2, Option.map_eq_some_iff] at hk2
      obtain ⟨o3, ho3, _⟩ := hk2
      rw [upd_apply, if_neg hn2]
      exact h.ne k' k2 _ o3 hk' ho3 (Ne.symm hn2) j ((own_blk hown j).2 hj)⟩) hos htp hout (by rw [hAs]; exact hsz) (fun j hj hn => by
        by_cases e : j = b'
        · rw [e, hAb]; exact hbh.symm
        · rw [hA j e]; exact hframe j hj e hn) (fun j hj => by rw [hkv] at hj; exact hpos j ((hblk' j).1 hj)) (by
      rw [hkv]
      refine ⟨bs', by rw [hlen]; exact hownA, fun j hj => .inr ((hblk' j).2 hj), hz, hl.mono (by rw [hAs]; exact hsz) (fun j hj hlt => ⟨hj.1, fun e => ?_⟩) (fun j hj hlt => ?_)⟩
      · rcases e with e | e
        · exact hj.2 e
        · rcases (hpos j ((hblk' j).1 e)).1 with e2 | e2
          · exact hj.2 (hMa j e2)
          · omega
      · by_cases e : j = b'
        · exact absurd (e ▸ hMb) hj.2
        · rw [hA j e]; exact hframe j hlt e (fun e2 => hj.2 (hMa j e2)))
  have h3 := h2.repl hF k (w' := w') (B0 := some b') (ob := .bld bT k') (fun j hj => by
      cases hj
      refine ⟨.inl hMb, fun k2 o2 hk2 hn2 => ?_⟩
      have hok : ({ σ.del k' with o := upd (σ.del k').o k' (some (.arr bE 1 l')) } : St).o k = some (.box bT [.un, .un]) := by
        simp only [upd_apply, if_neg hne, St.del, hk, Option.map_some, purgeO, if_true]
      exact h2.ne k k2 _ o2 hok hk2 (Ne.symm hn2) b' (by rw [hkk]; rfl)) rfl rfl rfl (Nat.le_of_eq hAs) (fun j hj hn => (hA j (fun e => hn (by rw [e]))).symm)
      (fun j hj => by rw [hkk] at hj; simp only [blkOf, Option.some.injEq] at hj; subst hj; exact ⟨.inl rfl, by omega⟩)
      (by
        refine ⟨b', .pointer (some ⟨b', 0, none⟩), hkk, .inl (.inl hMb), by rw [hkv]; exact hbv, .inr rfl, ?_⟩
        rw [hkv]
        rcases hown'.2 with ⟨e, _⟩ | ⟨g, cap, cur, e, _⟩ <;> rw [e] <;> rfl)
  exact ⟨_, _, h3⟩

theorem bldArg_spec {cx : Cx} {p : Operand} {k k' : Nat} {l : List (List D)} (h : bldArg cx σ p = some (k, k', l)) : ev0 cx σ p = .ptr k 0 ∧ σ.o k = some (.bld bT k') ∧ σ.o k' = some (.arr bE 1 l) ∧ k ≠ k' := by
  unfold bldArg at h
  split at h
  · rename_i k0 o0 e0
    split at h
    · rename_i T k1 e1
      split at h
      · rename_i e z l0 e2
        split at h
        · rename_i hc
          obtain ⟨rfl, rfl, rfl, rfl, hne⟩ := hc
          simp only [Option.some.injEq, Prod.mk.injEq] at h
          obtain ⟨rfl, rfl, rfl⟩ := h
          exact ⟨e0, e1, e2, hne⟩
        · cases h
      · cases h
    · cases h
  · cases h

theorem byteRows {l : List (List D)} (h : ∀ x ∈ l, ∃ n : Int, x = [D.int .u8 n] ∧ 0 ≤ n ∧ n ≤ 255) : ∃ bs : List UInt8, l = bs.map fun c => [D.int .u8 (c.toNat : Int)] := by
  induction l with
  | nil => exact ⟨[], rfl⟩
  | cons x r ih =>
    obtain ⟨n, rfl, h0, h1⟩ := h x (List.mem_cons_self ..)
    obtain ⟨bs, rfl⟩ := ih fun y hy => h y (List.mem_cons_of_mem _ hy)
    refine ⟨UInt8.ofNat n.toNat :: bs, ?_⟩
    rw [List.map_cons]
    congr 3
    simp only [UInt8.toNat_ofNat', Nat.reducePow]
    omega

theorem rd_bytes {ok : Nat → Prop} : ∀ {bs : List UInt8} {cs : List Value}, RdL ok w (bs.map fun c => [D.int .u8 (c.toNat : Int)]).flatten cs → cs = bs.map fun c => .int .u8 c.toNat := by
  intro bs cs h
  have hf : (bs.map fun c => [D.int .u8 (c.toNat : Int)]).flatten = bs.map fun c => D.int .u8 (c.toNat : Int) := by
    clear h
    induction bs with
    | nil => rfl
    | cons x r ih => simpa using ih
  rw [hf] at h
  apply List.ext_getElem
  · rw [← h.1]; simp
  · intro i h1 h2
    have hb : i < bs.length := by simpa using h2
    have := h.2 i (.int .u8 (bs[i].toNat : Int)) cs[i] (by simp [List.getElem?_map, List.getElem?_eq_getElem hb]) (List.getElem?_eq_getElem h1)
    rw [this.int_inv]
    simp

theorem str_nums (bs : List UInt8) : strOfNums (numsOf (bs.map fun c => [D.int .u8 (c.toNat : Int)])) = ⟨bs.toArray⟩ := by
  unfold strOfNums numsOf
  congr 1
  simp only [List.map_map, Function.comp_def]
  apply Array.ext'
  simp

theorem sBld_sound (hB : BldOk F.cx.P) (hF : F.Wf) (h : Rel1 F M ρ σ a w) {o : Oper} {f : FuncId} {args : Array Operand} {ts : Array TypeId} (ho : o.op = .call { callee := .value (.func f), args := args, argTypes := ts }) (hn : ∀ d, o.dst = some d → d < F.n) {K : St → Prop}
    (hx : SK (sBld F.cx σ f args.toList o.dst) K) {K' : Act → World → Prop} {Q : Exit → Act → World → Prop} (hK : ∀ σ' a' w', Rel F σ' a' w' → K σ' → K' a' w') : Oper.wp F.cx.P o a w K' Q := by
  have key : ∀ {vs : List Value} {R : Ending → World → Prop}, Enters F.cx.P f → (args.map a.eval).toList = vs → Calls F.cx.P f vs.toArray w R → (∀ e w', R e w' → ∃ v, e = .returned v ∧ K' (a.put o.dst v) w') → Oper.wp F.cx.P o a w K' Q := by
    intro vs R hen hvs hc hR
    have hrun : (execOp a.eval o).run F.cx.P w = .ok (.enter f (args.map a.eval)) w := by
      simp only [execOp, ho, resolve, Deferred.ofValue, Act.eval, Sem.run_bind, Sem.run_pure, Result.andThen_ok, invoke, callFunc_run hen]
      simp
    unfold Oper.wp
    rw [hrun]
    show Calls _ _ _ _ _
    rw [← hvs, Array.toArray_toList] at hc
    refine hc.mono fun e w' he => ?_
    obtain ⟨v, rfl, hk⟩ := hR e w' he
    exact hk
  have hmap : (args.map a.eval).toList = args.toList.map a.eval := by simp
  unfold SK at hx
  split at hx
  · rename_i pr σ' hs
    unfold sBld at hs
    split at hs
    · cases hs
    · rename_i p r hargs
      split at hs
      · cases hs
      · rename_i k k' l hba
        obtain ⟨e0, e1, e2, hne⟩ := bldArg_spec hba
        obtain ⟨b, p0, hb1, hMb, hbh, hp, hone⟩ := h.ob k _ e1
        obtain ⟨cs, hown, hMa, hza, hla⟩ := h.ob k' _ e2
        have hv0 : a.eval p = .pointer (some ⟨b, 0, none⟩) := by
          have := ev0_rel hF h p
          rw [e0] at this
          obtain ⟨b2, h1, h2⟩ := this
          rw [h1] at hb1
          simp only [Value.pointer.injEq, Option.some.injEq, Addr.mk.injEq, and_true] at hb1
          rw [h2, hb1]
        have hcl : cs.length = l.length := by have := hown.1; omega
        have hown' : w.ownsRow F.w0.heap.size bE 1 (ρ k') cs.length cs := by rw [hcl]; exact hown
        have hbld : Bld w b (ρ k') := ⟨p0, hp, hbh⟩
        have hval : ∀ x : Operand, relA F.cx F.w0 (okM F M) ρ w (ev F.cx σ x) (a.eval x) := fun x => ev_rel hF h x
        split at hs
        · rename_i hf
          subst hf
          split at hs
          · rename_i n hr
            simp only [Option.some.injEq, Prod.mk.injEq] at hs
            obtain ⟨rfl, rfl⟩ := hs
            obtain ⟨hlen, hx⟩ := hx
            obtain ⟨x, rfl, hxe⟩ : ∃ x, r = [x] ∧ ev F.cx σ x = .dv (.d (.int .u8 n)) := by
              cases r with
              | nil => cases hr
              | cons x t =>
                cases t with
                | nil => simp at hr; exact ⟨x, rfl, hr⟩
                | cons y t => simp at hr
            have hvx : a.eval x = .int .u8 n := by
              have := hval x
              rw [hxe] at this
              exact Rd.int_inv (show Rd _ _ (.int .u8 n) (a.eval x) from this)
            refine key hB.eb (by rw [hmap, hargs]; simp only [List.map_cons, List.map_nil, hv0, hvx]) (hB.wb _ b cs n w (ρ k') hbld hown' (by omega) h.gr.size) ?_
            rintro e w' ⟨rfl, hw⟩
            obtain ⟨M', ρ', hr'⟩ := h.wrB hF e1 e2 hne hb1 hw (l' := l ++ [[D.int .u8 n]]) (fun i y hy => by
              by_cases hi : i < l.length
              · rw [List.getElem?_append_left hi] at hy; exact hza i y hy
              · rw [List.getElem?_append_right (by omega)] at hy
                have := List.mem_of_getElem? hy
                simp at this
                rw [this]; rfl) (by rw [List.flatten_append]; exact hla.append (RdL.one (.int .u8 n))) (by simp [hcl])
            exact ⟨_, rfl, hK _ _ _ ⟨M', ρ', hr'.put hn (r := .un) trivial⟩ hx⟩
          · cases hs
        · split at hs
          · rename_i hf
            subst hf
            split at hs
            · rename_i s hr
              simp only [Option.some.injEq, Prod.mk.injEq] at hs
              obtain ⟨rfl, rfl⟩ := hs
              obtain ⟨hlen, hx⟩ := hx
              obtain ⟨x, rfl, hxe⟩ : ∃ x, r = [x] ∧ ev F.cx σ x = .str s := by
                cases r with
                | nil => cases hr
                | cons x t =>
                  cases t with
                  | nil => simp at hr; exact ⟨x, rfl, hr⟩
                  | cons y t => simp at hr
              have hvx : a.eval x = .string s := by
                have := hval x
                rw [hxe] at this
                exact Rd.str_inv (show Rd _ _ (.str s) (a.eval x) from this)
              refine key hB.es (by rw [hmap, hargs]; simp only [List.map_cons, List.map_nil, hv0, hvx]) (hB.ws _ b cs s w (ρ k') hbld hown' (by omega) h.gr.size) ?_
              rintro e w' ⟨rfl, hw⟩
              obtain ⟨M', ρ', hr'⟩ := h.wrB hF e1 e2 hne hb1 hw (l' := l ++ strRows s) (fun i y hy => by
                by_cases hi : i < l.length
                · rw [List.getElem?_append_left hi] at hy; exact hza i y hy
                · rw [List.getElem?_append_right (by omega)] at hy
                  have := List.mem_of_getElem? hy
                  unfold strRows at this
                  rw [List.mem_map] at this
                  obtain ⟨c, _, rfl⟩ := this
                  rfl) (by rw [List.flatten_append]; exact hla.append (strRows_rd s)) (by simp [hcl, strRows_length, Lib.strCells_length])
              exact ⟨_, rfl, hK _ _ _ ⟨M', ρ', hr'.put hn (r := .tcons (.i s.size) (.tcons .un .tnil)) ⟨[.int .i64 s.size, .nilIface], rfl, _, _, rfl, .int .i64 _, _, _, rfl, trivial, rfl⟩⟩ hx⟩
            · cases hs
          · split at hs
            · rename_i hf
              subst hf
              split at hs
              · simp only [Option.some.injEq, Prod.mk.injEq] at hs
                obtain ⟨rfl, rfl⟩ := hs
                obtain ⟨hby, hx⟩ := hx
                obtain ⟨bs, rfl⟩ := byteRows hby
                have hcs := rd_bytes hla
                subst hcs
                refine key hB.et (by rw [hmap, hargs]; simp only [List.map_cons, List.map_nil, hv0]) (hB.st F.w0.heap.size b bs w (ρ k') hbld (by simpa using hown') h.gr.size) ?_
                rintro e w' ⟨rfl, hw⟩
                obtain ⟨M', hr'⟩ := h.toNil hF k' (e := bE) (fun j hj => ⟨hMa j hj, fun k2 o2 hk2 hn2 => h.ne k' k2 _ o2 e2 hk2 (Ne.symm hn2) j ((own_blk hown j).2 hj)⟩) hw
                refine ⟨_, rfl, hK _ _ _ ⟨M', _, hr'.put hn (r := .str _) ?_⟩ hx⟩
                rw [str_nums]
                exact Rd.str _
              · cases hs
            · split at hs
              · rename_i hf
                subst hf
                split at hs
                · simp only [Option.some.injEq, Prod.mk.injEq] at hs
                  obtain ⟨rfl, rfl⟩ := hs
                  obtain ⟨hne9, hx⟩ := hx
                  rcases hB.ln with e | hln
                  · exact absurd e hne9
                  · rcases hB.el with e | hel
                    · exact absurd e hne9
                    · refine key hel (by rw [hmap, hargs]; simp only [List.map_cons, List.map_nil, hv0]) (hln F.w0.heap.size b cs w (ρ k') hbld hown') ?_
                      rintro e w' ⟨rfl, rfl⟩
                      refine ⟨_, rfl, hK _ _ _ ⟨M, ρ, h.put hn (r := .i l.length) ?_⟩ hx⟩
                      rw [hcl]
                      exact Rd.int .i64 _
                · cases hs
              · cases hs
  · exact hx.elim

theorem sAllocB_sound (hB : BldOk F.cx.P) (hF : F.Wf) (h : Rel1 F M ρ σ a w) {o : Oper} (ho : o.op = .alloc bT) (hn : ∀ d, o.dst = some d → d < F.n) {K : St → Prop} (hx : SK (sAllocB σ o.dst) K)
    {K' : Act → World → Prop} {Q : Exit → Act → World → Prop} (hK : ∀ σ' a' w', Rel F σ' a' w' → K σ' → K' a' w') : Oper.wp F.cx.P o a w K' Q := by
  unfold SK sAllocB at hx
  split at hx
  · rename_i pr σ' hs
    split at hs
    · rename_i d hd
      simp only [Option.some.injEq, Prod.mk.injEq] at hs
      obtain ⟨rfl, rfl⟩ := hs
      obtain ⟨i, hi, hz⟩ := hB.al
      have hrun : (execOp a.eval o).run F.cx.P w = .ok (.value (.pointer (some ⟨w.heap.size, 0, none⟩))) (w.alloc (.cells #[.pointer none, .slice none 0 0] bT)) := by
        simp only [execOp, ho, Instr.alloc, zeroValue, run_typeInfo w hi, hz, newVar, newRow, Sem.run_bind, run_newObj, Sem.run_pure, Result.andThen_ok]
        rfl
      unfold Oper.wp
      rw [hrun, Oper.upon_value, hd]
      obtain ⟨M1, h1⟩ := h.toNil hF (kB d) (e := bE) (B0 := none) (w' := w) (fun b hb => by cases hb) ⟨rfl, rfl, rfl, Nat.le_refl _, fun _ _ _ => rfl⟩
      refine hK _ _ _ (h1.fresh hF (hn d hd) (alloc_gr w _) (fun b hb => ?_) (fun h' => ?_) (.inr ⟨rfl, _, rfl⟩)) hx.2
      · simp only [blkOf, Option.some.injEq] at hb
        subst hb
        exact ⟨Nat.le_refl _, alloc_size w _⟩
      · have hkd : kB d ≠ d := by unfold kB; omega
        have hk : upd (upd ρ (kB d) (.slice none 0 0)) d (.pointer (some ⟨w.heap.size, 0, none⟩)) (kB d) = .slice none 0 0 := by rw [upd_apply, if_neg hkd, upd_apply, if_pos rfl]
        refine ⟨w.heap.size, .pointer none, rfl, .inr rfl, ?_, .inl rfl, ?_⟩
        · rw [hk]; exact heap_alloc_new w _
        · rw [hk]; rfl
    · cases hs
  · exact hx.elim
end
def exS (cx : Cx) (σ : St) (o : Oper) (K : St → Prop) : Prop := match o.op with
  | .box T x => exBox cx σ T x o.dst K
  | .alloc T => if T = bT then SK (sAllocB σ o.dst) K else exAlloc cx σ T o.dst K
  | .makeSlice t n m => exMake cx σ t n m o.dst K
  | .store t p x => exStore cx σ t p x o.dst K
  | .call c => match c.callee with
    | .value (.func f) => SK (sBld cx σ f c.args.toList o.dst) K
    | .builtin .append => (match c.args.toList, c.argTypes.toList with
      | [s, x], [t, u] => (match cx.P.underlying u with
        | some .string => exAppS cx σ t s x o.dst K
        | _ => exAppend cx σ t u s x o.dst K)
      | _, _ => False)
    | _ => False
  | _ => False
end Go.Avc
