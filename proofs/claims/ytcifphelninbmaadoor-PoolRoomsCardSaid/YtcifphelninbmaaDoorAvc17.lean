/- The calculus: forgetting: a frame told by lists, and when a frame fits it. No condition. -/
import Derived.Test.YtcifphelninbmaaDoorAvcF
set_option linter.unusedVariables false
set_option linter.unusedSimpArgs false
namespace Go.Avc
open Go

def lk {α : Type} (d : α) : List (Nat × α) → Nat → α
  | [], _ => d
  | p :: r, t => if t = p.1 then p.2 else lk d r t
/-- A frame told by lists: slots, objects, how often the stream was asked at most. -/
structure Sh where
  s : List (Nat × AV)
  o : List (Nat × Ob)
  c : Nat
def lkO : List (Nat × Ob) → Nat → Option Ob
  | [], _ => none
  | p :: r, t => if t = p.1 then some p.2 else lkO r t
def Sh.st (sh : Sh) : St := { s := lk .un sh.s, o := lkO sh.o, c := sh.c }

def fitA (σ : St) (ks : List Nat) (r : AV) : AV → Prop
  | .dv y => match nrm r with
    | .own k => (ks.all fun j => j != k) = true ∧ toD σ (.own k) = .dv y
    | x => x = .dv y
  | .un => True
  | x => r = x
def fitL (σ : St) (ks : List Nat) : List (Nat × AV) → Prop
  | [] => True
  | p :: r => fitA σ ks (σ.s p.1) p.2 ∧ fitL σ ks r
def fitC (σ : St) (ks : List Nat) : List AV → List AV → Prop
  | [], [] => True
  | c :: r, d :: t => fitA σ ks c d ∧ fitC σ ks r t
  | _, _ => False
/-- A variable's cells fit one by one (so own rows in it may turn into data); any other object is as it is told. -/
def fitOb (σ : St) (ks : List Nat) : Ob → Ob → Prop
  | .box T cs, .box T' cs' => T = T' ∧ fitC σ ks cs cs'
  | x, y => x = y
def fitO (σ : St) (ks : List Nat) : List (Nat × Ob) → Prop
  | [] => True
  | p :: r => (match σ.o p.1 with
    | some ob => fitOb σ ks ob p.2
    | none => False) ∧ fitO σ ks r
def Fits (σ : St) (sh : Sh) : Prop := fitL σ (sh.o.map (·.1)) sh.s ∧ fitO σ (sh.o.map (·.1)) sh.o ∧ σ.c ≤ sh.c

/-! ### Two keys change their names -/
def swN (k t x : Nat) : Nat := if x = k then t else if x = t then k else x
theorem swN_swN (k t x : Nat) : swN k t (swN k t x) = x := by
  unfold swN
  by_cases h1 : x = k
  · subst h1
    rw [if_pos rfl]
    by_cases h2 : t = x
    · rw [if_pos h2, h2]
    · rw [if_neg h2, if_pos rfl]
  · rw [if_neg h1]
    by_cases h2 : x = t
    · subst h2
      rw [if_pos rfl, if_pos rfl]
    · rw [if_neg h2, if_neg h1, if_neg h2]
def swA (k t : Nat) : AV → AV
  | .own j => .own (swN k t j)
  | .ptr j o => .ptr (swN k t j) o
  | .eptr j i z o => .eptr (swN k t j) i z o
  | .fn f ks => .fn f (ks.map (swN k t))
  | .tcons a r => .tcons (swA k t a) (swA k t r)
  | r => r
def swO (k t : Nat) : Ob → Ob
  | .box T cs => .box T (cs.map (swA k t))
  | .arr e z l => .arr e z l
  | .bld T j => .bld T (swN k t j)
def swS (k t : Nat) (S : Nat → AV) : Nat → AV := fun u => swA k t (S u)
def swP (k t : Nat) (O : Nat → Option Ob) : Nat → Option Ob := fun u => (O (swN k t u)).map (swO k t)
def St.swap (σ : St) (k t : Nat) : St := ⟨swS k t σ.s, swP k t σ.o, σ.c⟩

section
variable {F : Fr} {M : Nat → Prop} {ρ : Nat → Value} {σ : St} {a : Act} {w : World} {ok : Nat → Prop}
theorem rel0_sw {cx : Cx} {w0 : World} {x : AV} {v : Value} (k t : Nat) (h : rel0 cx w0 ok ρ w x v) : rel0 cx w0 ok (fun u => ρ (swN k t u)) w (swA k t x) v := by
  cases x with
  | own j => show v = ρ (swN k t (swN k t j)); rw [swN_swN]; exact h
  | ptr j o => obtain ⟨b, h1, h2⟩ := h; exact ⟨b, by show ρ (swN k t (swN k t j)) = _; rw [swN_swN]; exact h1, h2⟩
  | eptr j i z o => obtain ⟨b, n, c, h1, h2⟩ := h; exact ⟨b, n, c, by show ρ (swN k t (swN k t j)) = _; rw [swN_swN]; exact h1, h2⟩
  | fn f ks =>
    show v = .func (.func f) #[] ((ks.map (swN k t)).map fun u => ρ (swN k t u)).toArray
    rw [List.map_map, show ((fun u => ρ (swN k t u)) ∘ swN k t) = ρ from by funext u; exact congrArg ρ (swN_swN k t u)]
    exact h
  | tcons b r => exact h.elim
  | _ => exact h
theorem relT_sw {cx : Cx} {w0 : World} (k t : Nat) : ∀ {x : AV} {vs : List Value}, relT cx w0 ok ρ w x vs → relT cx w0 ok (fun u => ρ (swN k t u)) w (swA k t x) vs
  | .tnil, _, h => h
  | .tcons _ _, _, h => by
    obtain ⟨v, r, h1, h2, h3⟩ := h
    exact ⟨v, r, h1, rel0_sw k t h2, relT_sw k t h3⟩
theorem relA_sw {cx : Cx} {w0 : World} {x : AV} {v : Value} (k t : Nat) (h : relA cx w0 ok ρ w x v) : relA cx w0 ok (fun u => ρ (swN k t u)) w (swA k t x) v := by
  cases x with
  | tnil => exact h
  | tcons b r => obtain ⟨vs, h1, h2⟩ := h; exact ⟨vs, h1, relT_sw k t h2⟩
  | _ => exact relA_of0 (rel0_sw k t (by rw [← relA_eq rfl]; exact h))

theorem Rel1.swap (h : Rel1 F M ρ σ a w) (k t : Nat) : Rel1 F M (fun u => ρ (swN k t u)) (σ.swap k t) a w where
  gr := h.gr
  st := h.st
  gl := h.gl
  mb := h.mb
  sl := fun u => relA_sw k t (h.sl u)
  ob := fun u o hu => by
    have hu' : (σ.o (swN k t u)).map (swO k t) = some o := hu
    rw [Option.map_eq_some_iff] at hu'
    obtain ⟨o', h1, rfl⟩ := hu'
    have h0 := h.ob _ _ h1
    cases o' with
    | box T cs =>
      obtain ⟨b, vs, e1, e2, e3, e4, e5⟩ := h0
      refine ⟨b, vs, e1, e2, e3, by rw [List.length_map]; exact e4, fun j x u hx hu => ?_⟩
      rw [List.getElem?_map, Option.map_eq_some_iff] at hx
      obtain ⟨y, hy, rfl⟩ := hx
      exact ⟨(e5 j y u hy hu).1, relA_sw k t (e5 j y u hy hu).2⟩
    | arr e z l => exact h0
    | bld T j =>
      obtain ⟨b, p, e1, e2, e3, e4, e5⟩ := h0
      have hj : ρ (swN k t (swN k t j)) = ρ j := by rw [swN_swN]
      exact ⟨b, p, e1, e2, by show w.heap[b]? = some (Obj.cells #[p, ρ (swN k t (swN k t j))] T (0, 0)); rw [hj]; exact e3, e4, by show (ρ (swN k t (swN k t j))).oneCell' = true; rw [hj]; exact e5⟩
  ne := fun u u' o o' hu hu' hne b hb => by
    have h1 : (σ.o (swN k t u)).map (swO k t) = some o := hu
    have h2 : (σ.o (swN k t u')).map (swO k t) = some o' := hu'
    rw [Option.map_eq_some_iff] at h1 h2
    obtain ⟨p, h1, _⟩ := h1
    obtain ⟨p', h2, _⟩ := h2
    exact h.ne _ _ p p' h1 h2 (fun e => hne (by rw [← swN_swN k t u, e, swN_swN])) b hb
  df := h.df
  nt := h.nt
  kx := h.kx
end

/-- A nil slice becomes a row of the call's own; a row of the call's own takes the slot's name. -/
def adoptS (σ : St) (p : Nat × TypeId × Nat) : St := match σ.s p.1 with
  | .nil => σ.newOb p.1 p.1 (.own p.1) (.arr p.2.1 p.2.2 [])
  | .own k => if k = p.1 then σ else σ.swap k p.1
  | .ptr k _ => if k = p.1 then σ else σ.swap k p.1
  | _ => σ
/-- The same in cell j of variable k, told by 10000 + 100 k + j. -/
def adoptB (σ : St) (p : Nat × TypeId × Nat) : St := match σ.o ((p.1 - 10000) / 100) with
  | some (.box T cs) => match cs[(p.1 - 10000) % 100]? with
    | some .nil => ⟨(σ.newO p.1 (.arr p.2.1 p.2.2 [])).s, upd (σ.newO p.1 (.arr p.2.1 p.2.2 [])).o ((p.1 - 10000) / 100) (some (.box T ((cs.map (purgeA p.1)).set ((p.1 - 10000) % 100) (.own p.1)))), σ.c⟩
    | some (.own k) => if k = p.1 then σ else σ.swap k p.1
    | _ => σ
  | _ => σ
def adopt1 (σ : St) (p : Nat × TypeId × Nat) : St := if p.1 < 10000 then adoptS σ p else adoptB σ p
def adopt : St → List (Nat × TypeId × Nat) → St
  | σ, [] => σ
  | σ, p :: r => adopt (adopt1 σ p) r
def adOk (n : Nat) (p : Nat × TypeId × Nat) : Bool := if p.1 < 10000 then decide (p.1 < n) else true

section
variable {F : Fr} {M M' : Nat → Prop} {ρ : Nat → Value} {σ : St} {a : Act} {w : World} {sh : Sh}

theorem okM_anti (h : ∀ b, M' b → M b) {b : Nat} (hb : okM F M b) : okM F M' b := ⟨hb.1, fun e => hb.2 (h b e)⟩

theorem lkO_fit {ks : List Nat} : ∀ {l : List (Nat × Ob)}, fitO σ ks l → ∀ k ob, lkO l k = some ob → ∃ ob0, σ.o k = some ob0 ∧ fitOb σ ks ob0 ob
  | [], _, k, ob, h => by cases h
  | p :: r, hf, k, ob, h => by
    unfold lkO at h
    split at h
    · rename_i e
      cases h
      have h1 := hf.1
      split at h1
      · rename_i ob0 e0
        exact ⟨ob0, by rw [e]; exact e0, h1⟩
      · exact h1.elim
    · exact lkO_fit hf.2 k ob h
theorem fitC_len {ks : List Nat} : ∀ {l m : List AV}, fitC σ ks l m → l.length = m.length
  | [], [], _ => rfl
  | c :: r, d :: t, h => congrArg Nat.succ (fitC_len h.2)
theorem fitC_get {ks : List Nat} : ∀ {l m : List AV}, fitC σ ks l m → ∀ (j : Nat) (x : AV), m[j]? = some x → ∃ y, l[j]? = some y ∧ fitA σ ks y x
  | [], [], _, j, x, hx => by simp at hx
  | c :: r, d :: t, h, 0, x, hx => by cases hx; exact ⟨c, rfl, h.1⟩
  | c :: r, d :: t, h, j + 1, x, hx => fitC_get h.2 j x hx
theorem lkO_key : ∀ {l : List (Nat × Ob)} {k : Nat} {ob : Ob}, lkO l k = some ob → k ∈ l.map (·.1)
  | [], k, ob, h => by cases h
  | p :: r, k, ob, h => by
    unfold lkO at h
    split at h
    · rename_i e; rw [e]; exact List.mem_cons_self
    · exact List.mem_cons_of_mem _ (lkO_key h)
theorem lk_fit {ks : List Nat} : ∀ {l : List (Nat × AV)}, fitL σ ks l → ∀ t, fitA σ ks (σ.s t) (lk .un l t)
  | [], _, t => trivial
  | p :: r, hf, t => by
    unfold lk
    split
    · rename_i e; rw [e]; exact hf.1
    · exact lk_fit hf.2 t

theorem Rel1.adoptS (hF : F.Wf) (h : Rel1 F M ρ σ a w) (p : Nat × TypeId × Nat) (hp : p.1 < F.n) : Rel F (adoptS σ p) a w := by
  unfold Avc.adoptS
  split
  · rename_i e
    have hs := h.sl p.1
    rw [e] at hs
    have hv : a.tmps.getD p.1 undef = .slice none 0 0 := hs
    obtain ⟨M', ρ', h'⟩ := Rel1.fresh hF h (w' := w) (d := p.1) (dst := p.1) hp (v := .slice none 0 0) (ob := .arr p.2.1 p.2.2 []) (r := .own p.1) (Gr.refl _ _) (fun b hb => by simp [blkOf] at hb) (fun _ =>
      ⟨[], World.ownsRow_nil w F.w0.heap.size p.2.1 p.2.2, fun b hb => by simp [Value.ownBlock] at hb, fun i x hx => by simp at hx, RdL.nil⟩) (.inl rfl)
    refine ⟨M', ρ', h'.gr, h'.st, h'.gl, h'.mb, fun t => ?_, h'.ob, h'.ne, h.df, h.nt, h'.kx⟩
    have h1 := h'.sl t
    rw [getD_put (Nat.lt_of_lt_of_le hp h.nt)] at h1
    split at h1
    · rename_i e2; rw [e2, hv] at *; rw [← e2]; exact h1
    · exact h1
  · split
    · exact ⟨M, ρ, h⟩
    · exact ⟨_, _, h.swap _ _⟩
  · split
    · exact ⟨M, ρ, h⟩
    · exact ⟨_, _, h.swap _ _⟩
  · exact ⟨M, ρ, h⟩
theorem Rel1.nilZ (hF : F.Wf) (h : Rel1 F M ρ σ a w) (k : Nat) (e : TypeId) (z : Nat) : ∃ M', Rel1 F M' (upd ρ k (.slice none 0 0)) (σ.newO k (.arr e z [])) a w := by
  have hk : upd ρ k (Value.slice none 0 0) k = .slice none 0 0 := by rw [upd_apply, if_pos rfl]
  have h1 : Rel1 F M (upd ρ k (.slice none 0 0)) (σ.del k) a w := h.del fun j hj => by rw [upd_apply, if_neg hj]
  refine ⟨_, h1.repl hF k (B0 := none) (ob := .arr e z []) (fun b hb => by cases hb) rfl rfl rfl (Nat.le_refl _) (fun b hb hne => rfl) (fun b hb => by rw [hk] at hb; simp [blkOf] at hb) ?_⟩
  rw [hk]
  exact ⟨[], World.ownsRow_nil .., fun b hb => by simp [Value.ownBlock] at hb, fun i x hx => by simp at hx, RdL.nil⟩
theorem Rel1.adoptB (hF : F.Wf) (h : Rel1 F M ρ σ a w) (p : Nat × TypeId × Nat) (hp : ¬ p.1 < 10000) : Rel F (adoptB σ p) a w := by
  unfold Avc.adoptB
  split
  · rename_i T cs hkb
    split
    · rename_i hj
      obtain ⟨M', h1⟩ := h.nilZ hF p.1 p.2.1 p.2.2
      have hne : (p.1 - 10000) / 100 ≠ p.1 := by omega
      have hkb1 : (σ.newO p.1 (.arr p.2.1 p.2.2 [])).o ((p.1 - 10000) / 100) = some (.box T (cs.map (purgeA p.1))) := by
        show upd (σ.del p.1).o p.1 _ _ = _
        rw [upd_apply, if_neg hne]
        simp only [St.del, if_neg hne, hkb]
        rfl
      obtain ⟨b, vs, e1, e2, e3, e4, e5⟩ := h1.ob _ _ hkb1
      refine ⟨M', _, h1.gr, h1.st, h1.gl, h1.mb, h1.sl, fun k o hk => ?_, fun k k' o o' hk hk' hkk => ?_, h1.df, h1.nt, h1.kx⟩
      · have hk2 : upd (σ.newO p.1 (.arr p.2.1 p.2.2 [])).o ((p.1 - 10000) / 100) _ k = some o := hk
        rw [upd_apply] at hk2
        split at hk2
        · rename_i ek
          subst ek
          cases hk2
          refine ⟨b, vs, e1, e2, e3, by rw [List.length_set]; exact e4, fun j y u hy hu => ?_⟩
          rw [List.getElem?_set] at hy
          split at hy
          · rename_i ej
            split at hy
            · cases hy
              subst ej
              have h0 := e5 _ .nil u (by rw [List.getElem?_map, hj]; rfl) hu
              refine ⟨h0.1, ?_⟩
              show u = upd ρ p.1 (Value.slice none 0 0) p.1
              rw [upd_apply, if_pos rfl]
              exact h0.2
            · cases hy
          · exact e5 j y u hy hu
        · exact h1.ob k o hk2
      · have key : ∀ k o, upd (σ.newO p.1 (.arr p.2.1 p.2.2 [])).o ((p.1 - 10000) / 100) (some (.box T ((cs.map (purgeA p.1)).set ((p.1 - 10000) % 100) (.own p.1)))) k = some o → ∃ o', (σ.newO p.1 (.arr p.2.1 p.2.2 [])).o k = some o' := fun k o hk => by
          rw [upd_apply] at hk
          split at hk
          · rename_i ek; rw [ek]; exact ⟨_, hkb1⟩
          · exact ⟨_, hk⟩
        obtain ⟨o1, g1⟩ := key k o hk
        obtain ⟨o2, g2⟩ := key k' o' hk'
        exact h1.ne k k' o1 o2 g1 g2 hkk
    · split
      · exact ⟨M, ρ, h⟩
      · exact ⟨_, _, h.swap _ _⟩
    · exact ⟨M, ρ, h⟩
  · exact ⟨M, ρ, h⟩
theorem Rel1.adopt1 (hF : F.Wf) (h : Rel1 F M ρ σ a w) (p : Nat × TypeId × Nat) (hp : adOk F.n p = true) : Rel F (adopt1 σ p) a w := by
  unfold Avc.adopt1
  unfold adOk at hp
  split
  · rename_i h1
    rw [if_pos h1] at hp
    exact h.adoptS hF p (of_decide_eq_true hp)
  · rename_i h1
    exact h.adoptB hF p h1
theorem Rel.adopt (hF : F.Wf) : ∀ (l : List (Nat × TypeId × Nat)) (σ : St), Rel F σ a w → (∀ p ∈ l, adOk F.n p = true) → Rel F (Avc.adopt σ l) a w
  | [], _, h, _ => h
  | p :: r, σ, ⟨_, _, h⟩, hp => Rel.adopt hF r (adopt1 σ p) (h.adopt1 hF p (hp p List.mem_cons_self)) (fun q hq => hp q (List.mem_cons_of_mem _ hq))

theorem Rel.fits (hF : F.Wf) (h : Rel F σ a w) (hf : Fits σ sh) : Rel F sh.st a w := by
  obtain ⟨M, ρ, h⟩ := h
  obtain ⟨f1, f2, f3⟩ := hf
  let M' : Nat → Prop := fun b => M b ∧ ∃ k ob, lkO sh.o k = some ob ∧ blkOf (ρ k) = some b
  have hMM : ∀ b, M' b → M b := fun b hb => hb.1
  have hok : ∀ b, okM F M b → okM F M' b := fun b hb => okM_anti hMM hb
  have hmono : ∀ {x : AV} {v : Value}, relA F.cx F.w0 (okM F M) ρ w x v → relA F.cx F.w0 (okM F M') ρ w x v := fun hx => hx.mono (Gr.refl _ _) (Nat.le_refl _) (fun b hb _ => hok b hb) (fun _ _ _ => rfl)
  have hfa : ∀ (r x : AV) (v : Value), relA F.cx F.w0 (okM F M) ρ w r v → fitA σ (sh.o.map (·.1)) r x → relA F.cx F.w0 (okM F M') ρ w x v := by
    intro r x v hs hfit
    cases x
    case dv y =>
      have hn := nrm_rel hs
      have hfit' : (match nrm r with
        | .own k => ((sh.o.map (·.1)).all fun j => j != k) = true ∧ toD σ (.own k) = .dv y
        | x => x = .dv y) := hfit
      split at hfit'
      · rename_i k e
        obtain ⟨h1, h2⟩ := hfit'
        rw [e] at hn
        simp only [toD] at h2
        split at h2
        · rename_i e' z l hk
          simp only [AV.dv.injEq] at h2
          subst h2
          have hv : v = ρ k := hn
          rw [hv]
          refine own_data hF (h.ob k _ hk) h.mb hok (ok' := okM F M') (fun b hb hMb => ⟨.inr (h.mb b hMb).1, fun e3 => ?_⟩)
          obtain ⟨_, k', o', hk', hbk⟩ := e3
          have hne : k ≠ k' := fun e4 => by
            have := List.all_eq_true.1 h1 k' (lkO_key hk')
            simp [e4] at this
          obtain ⟨o0, hk0, _⟩ := lkO_fit f2 k' o' hk'
          refine h.ne k k' _ o0 hk hk0 hne b ?_ hbk
          obtain ⟨cs, hown, _⟩ := h.ob k _ hk
          rcases hown.2 with ⟨h3, _⟩ | ⟨g, cap, cur, h3, _⟩
          · rw [h3] at hb; simp [Value.ownBlock] at hb
          · rw [h3] at hb ⊢; exact hb
        · cases h2
      · rw [hfit'] at hn
        exact hmono hn
    case un => exact trivial
    all_goals
      rw [show r = _ from hfit] at hs
      exact hmono hs
  refine ⟨M', ρ, h.gr, h.st.le (Nat.add_le_add_left f3 _), h.gl, fun b hb => h.mb b hb.1, fun t => hfa _ _ _ (h.sl t) (lk_fit f1 t), fun k ob hk => ?_, fun k k' o o' hk hk' => ?_, h.df, h.nt, h.kx.less hMM⟩
  · have hk' : lkO sh.o k = some ob := hk
    obtain ⟨ob0, hk0, hob⟩ := lkO_fit f2 k ob hk'
    have h1 := h.ob k ob0 hk0
    cases ob with
    | box T cs =>
      cases ob0 with
      | box T0 cs0 =>
        obtain ⟨rfl, hc⟩ := hob
        obtain ⟨b, vs, e1, e2, e3, e4, e5⟩ := h1
        refine ⟨b, vs, e1, ⟨e2, k, _, hk', by rw [e1]; rfl⟩, e3, by rw [← fitC_len hc]; exact e4, fun j y u hy hu => ?_⟩
        obtain ⟨y0, hy0, hyf⟩ := fitC_get hc j y hy
        exact ⟨(e5 j y0 u hy0 hu).1, hfa _ _ _ (e5 j y0 u hy0 hu).2 hyf⟩
      | bld T0 j => cases hob
      | arr e z l => cases hob
    | bld T j =>
      cases ob0 with
      | box T0 cs0 => cases hob
      | bld T0 j0 =>
        cases hob
        obtain ⟨b, p, e1, e2, e3⟩ := h1
        exact ⟨b, p, e1, ⟨e2, k, _, hk', by rw [e1]; rfl⟩, e3⟩
      | arr e z l => cases hob
    | arr e z l =>
      cases ob0 with
      | box T0 cs0 => cases hob
      | bld T0 j0 => cases hob
      | arr e0 z0 l0 =>
        cases hob
        obtain ⟨cs, e1, e2, e3, e4⟩ := h1
        refine ⟨cs, e1, fun b hb => ⟨e2 b hb, k, _, hk', ?_⟩, e3, e4.mono (Nat.le_refl _) (fun b hb _ => hok b hb) (fun _ _ _ => rfl)⟩
        rcases e1.2 with ⟨h3, _⟩ | ⟨g, cap, cur, h3, _⟩
        · rw [h3] at hb; simp [Value.ownBlock] at hb
        · rw [h3] at hb ⊢; exact hb
  · obtain ⟨o0, hk0, _⟩ := lkO_fit f2 k o hk
    obtain ⟨o1, hk1, _⟩ := lkO_fit f2 k' o' hk'
    exact h.ne k k' o0 o1 hk0 hk1
end
end Go.Avc
