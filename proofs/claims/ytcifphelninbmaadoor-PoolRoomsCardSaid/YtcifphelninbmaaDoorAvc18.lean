/- The calculus: what a function's code asks (its loops and joins by invariants of the prover's), and that the code does it. No condition. -/
import Derived.Test.YtcifphelninbmaaDoorAvc17
set_option linter.unusedVariables false
set_option linter.unusedSimpArgs false
namespace Go.Avc
open Go

/-- An invariant at a loop's head or at a join: the frames that may come there, told over data; a measure for loops. -/
structure Cut where
  ι : Type
  S : ι → Sh
  J : ι → Prop
  μ : ι → Nat
  ad : List (Nat × TypeId × Nat)
structure Vx where
  cx : Cx
  E : Env
  B : Nat
  n : Nat
  live : List Nat
  H : List Nat
  hz : List (Nat × List Nat × List Nat)
def lkZ : List (Nat × List Nat × List Nat) → Nat → Option (List Nat × List Nat)
  | [], _ => none
  | p :: r, t => if t = p.1 then some p.2 else lkZ r t

def trimL : List Nat → (Nat → AV) → List (Nat × AV)
  | [], _ => []
  | t :: r, S => (t, S t) :: trimL r S
/-- Only these slots are kept. -/
def St.trim (σ : St) (live : List Nat) : St := { σ with s := lk .un (trimL live σ.s) }
/-- The region with which a piece of code begins; none where it begins with a loop. -/
def headReg : Code → Option Nat
  | .region id _ _ => some id
  | .seq x _ => headReg x
  | .block _ c => headReg c
  | _ => none
def cutAt (X : Vx) (c : Code) : Bool := match headReg c with
  | some r => X.H.any fun u => u == r
  | none => false
def Cut.meets (k : Cut) (n : Nat) (σ : St) : Prop := (k.ad.all fun p => adOk n p) = true ∧ ∃ i, k.J i ∧ Fits (adopt σ k.ad) (k.S i)
def Cut.below (k : Cut) (n : Nat) (m : Nat) (σ : St) : Prop := (k.ad.all fun p => adOk n p) = true ∧ ∃ i, k.J i ∧ k.μ i < m ∧ Fits (adopt σ k.ad) (k.S i)

def vc (X : Vx) : Code → (St → Prop) → (St → Prop) → (Nat → St → Prop) → St → Prop
  | .skip, Kn, _, _, σ => Kn σ
  | .label _, Kn, _, _, σ => Kn σ
  | .region id ops _, Kn, _, _, σ => match lkZ X.hz id with
    | some p => match p.2 with
      | [] => preOk X.cx.P (optL ops p.1) ∧ vcL X.cx X.E X.B ops (fun σ' => Kn (σ'.trim X.live)) ops.toList (preA (optL ops p.1) σ)
      | _ :: _ => vcH X.cx X.E X.B ops (vcL X.cx X.E X.B ops (fun σ' => Kn (σ'.trim X.live)) (optL ops p.2)) (optL ops p.1) σ
    | none => vcL X.cx X.E X.B ops (fun σ' => Kn (σ'.trim X.live)) ops.toList σ
  | .seq x y, Kn, Kr, Kx, σ => if cutAt X y = true then ∃ k : Cut, vc X x (k.meets X.n) Kr Kx σ ∧ ∀ i, k.J i → vc X y Kn Kr Kx (k.S i).st else vc X x (vc X y Kn Kr Kx) Kr Kx σ
  | .cond c x y, Kn, Kr, Kx, σ => match ev X.cx σ c with
    | .dv (.d (.bool b)) => (b = true → vc X x Kn Kr Kx σ) ∧ (b = false → vc X y Kn Kr Kx σ)
    | _ => False
  | .block id c, Kn, Kr, Kx, σ => vc X c Kn Kr (fun j σ' => if j = id then Kn σ' else Kx j σ') σ
  | .loop c, _, Kr, Kx, σ => ∃ k : Cut, k.meets X.n σ ∧ ∀ i, k.J i → vc X c (k.below X.n (k.μ i)) Kr Kx (k.S i).st
  | .exit id, _, _, Kx, σ => Kx id σ
  | .ret, _, Kr, _, σ => Kr σ
  | _, _, _, _, _ => False

/-- The static test of a function's code. -/
def opsOk (n : Nat) (ops : Array Oper) : Bool := ops.all fun o => match o.dst with
  | some d => decide (d < n)
  | none => true
def freeL (ops : Array Oper) : List Nat → Bool
  | [ia] => freeB ops ia
  | _ => false
def codeOk (n : Nat) (hz : List (Nat × List Nat × List Nat)) : Code → Bool
  | .region id ops d => opsOk n ops && match lkZ hz id with
    | some p => d && match p.2 with
      | [] => freeL ops p.1
      | _ :: _ => regOkH ops p.1 p.2
    | none => !d || regOk ops
  | .seq x y => codeOk n hz x && codeOk n hz y
  | .cond _ x y => codeOk n hz x && codeOk n hz y
  | .block _ c => codeOk n hz c
  | .loop c => codeOk n hz c
  | _ => true
theorem opsOk_dst {n : Nat} {ops : Array Oper} (h : opsOk n ops = true) : ∀ o ∈ ops, ∀ d, o.dst = some d → d < n := by
  intro o ho d hd
  unfold opsOk at h
  rw [Array.all_eq_true_iff_forall_mem] at h
  have := h o ho
  rw [hd] at this
  simpa using this

theorem exists_least (p : Nat → Prop) (h : ∃ n, p n) : ∃ n, p n ∧ ∀ m, p m → n ≤ m := by
  obtain ⟨n, hn⟩ := h
  induction n using Nat.strongRecOn with
  | _ n ih =>
    by_cases hc : ∃ m, m < n ∧ p m
    · obtain ⟨m, hm, hp⟩ := hc
      exact ih m hm hp
    · exact ⟨n, hn, fun m hm => by
        by_cases hlt : m < n
        · exact absurd ⟨m, hlt, hm⟩ hc
        · omega⟩

/-- A loop by an invariant that bears its measure. -/
theorem wp_loop_down {P : Program} {c : Code} {Q : Exit → Act → World → Prop} (I : Nat → Act → World → Prop) {n : Nat} {a : Act} {w : World} (h₀ : I n a w)
    (round : ∀ n a w, I n a w → c.wp P (Exit.then (fun a' w' => ∃ m, m < n ∧ I m a' w') Q) a w) : (Code.loop c).wp P Q a w := by
  have least : ∀ a w, ∃ k, (∃ n, I n a w) → I k a w ∧ ∀ m, I m a w → k ≤ m := fun a w => by
    by_cases h : ∃ n, I n a w
    · obtain ⟨k, h1, h2⟩ := exists_least _ h
      exact ⟨k, fun _ => ⟨h1, h2⟩⟩
    · exact ⟨0, fun h' => absurd h' h⟩
  have hμ : ∀ a w, (∃ n, I n a w) → I (Classical.choose (least a w)) a w ∧ ∀ m, I m a w → Classical.choose (least a w) ≤ m := fun a w => Classical.choose_spec (least a w)
  refine wp_loop (fun a w => ∃ n, I n a w) (fun a w => Classical.choose (least a w)) ⟨n, h₀⟩ fun a w hI => ?_
  obtain ⟨h1, _⟩ := hμ a w hI
  refine wp_mono (round _ a w h1) fun e a' w' hq => ?_
  cases e with
  | normal =>
    obtain ⟨m, hm, hI'⟩ := hq
    have := (hμ a' w' ⟨m, hI'⟩).2 m hI'
    exact ⟨⟨m, hI'⟩, by omega⟩
  | _ => exact hq

section
variable {F : Fr} {E : Env} {H : List Nat} {hz : List (Nat × List Nat × List Nat)} {live : List Nat}

theorem lk_trim (S : Nat → AV) (t : Nat) : ∀ (l : List Nat), lk .un (trimL l S) t = S t ∨ lk .un (trimL l S) t = .un
  | [] => .inr rfl
  | u :: r => by
    unfold trimL lk
    split
    · rename_i e; subst e; exact .inl rfl
    · exact lk_trim S t r
theorem Rel.trim {σ : St} {a : Act} {w : World} (h : Rel F σ a w) (live : List Nat) : Rel F (σ.trim live) a w := by
  obtain ⟨M, ρ, h⟩ := h
  refine ⟨M, ρ, h.gr, h.st, h.gl, h.mb, fun t => ?_, h.ob, h.ne, h.df, h.nt, h.kx⟩
  show relA _ _ _ _ _ (lk .un (trimL live σ.s) t) _
  rcases lk_trim σ.s t live with e | e
  · rw [e]; exact h.sl t
  · rw [e]; exact trivial

theorem meets_rel (hF : F.Wf) {k : Cut} {σ : St} {a : Act} {w : World} (h : Rel F σ a w) (hm : k.meets F.n σ) : ∃ i, k.J i ∧ Rel F (k.S i).st a w := by
  obtain ⟨h1, i, h2, h3⟩ := hm
  exact ⟨i, h2, (Rel.adopt hF k.ad σ h fun p hp => List.all_eq_true.1 h1 p hp).fits hF h3⟩
theorem below_rel (hF : F.Wf) {k : Cut} {m : Nat} {σ : St} {a : Act} {w : World} (h : Rel F σ a w) (hm : k.below F.n m σ) : ∃ i, k.J i ∧ k.μ i < m ∧ Rel F (k.S i).st a w := by
  obtain ⟨h1, i, h2, h3, h4⟩ := hm
  exact ⟨i, h2, h3, (Rel.adopt hF k.ad σ h fun p hp => List.all_eq_true.1 h1 p hp).fits hF h4⟩

theorem vc_sound (hE : EnvOk F.cx E) (hF : F.Wf) : ∀ (c : Code), codeOk F.n hz c = true → ∀ (Kn Kr : St → Prop) (Kx : Nat → St → Prop) (Q : Exit → Act → World → Prop), (∀ σ a w, Rel F σ a w → Kn σ → Q .normal a w) → (∀ σ a w, Rel F σ a w → Kr σ → Q .ret a w) →
    (∀ j σ a w, Rel F σ a w → Kx j σ → Q (.exit j) a w) → ∀ (σ : St) (a : Act) (w : World), Rel F σ a w → vc ⟨F.cx, E, F.B, F.n, live, H, hz⟩ c Kn Kr Kx σ → c.wp F.cx.P Q a w := by
  intro c
  induction c with
  | skip => intro _ Kn Kr Kx Q hn _ _ σ a w h hv; exact wp_skip (hn _ _ _ h hv)
  | label l => intro _ Kn Kr Kx Q hn _ _ σ a w h hv; exact wp_label (hn _ _ _ h hv)
  | exit id => intro _ Kn Kr Kx Q _ _ hx σ a w h hv; exact wp_exit (hx _ _ _ _ h hv)
  | ret => intro _ Kn Kr Kx Q _ hr _ σ a w h hv; exact wp_ret (hr _ _ _ h hv)
  | region id ops d =>
    intro hok Kn Kr Kx Q hn _ _ σ a w h hv
    unfold codeOk at hok
    rw [Bool.and_eq_true] at hok
    have hd := opsOk_dst hok.1
    unfold vc at hv
    have hok2 := hok.2
    split at hv
    · rename_i p e
      have e' : lkZ hz id = some p := e
      rw [e'] at hok2
      simp only [Bool.and_eq_true] at hok2
      obtain ⟨hd1, hok2⟩ := hok2
      subst hd1
      obtain ⟨p1, p2⟩ := p
      cases p2 with
      | nil =>
        have hok3 : freeL ops p1 = true := hok2
        unfold freeL at hok3
        split at hok3
        · exact drawF_sound hE hF hok3 hd (fun σ a w h hk => hn _ a w (h.trim live) hk) h hv.1 hv.2
        · cases hok3
      | cons r1 r2 => exact drawH_sound (hs := p1) (rs := r1 :: r2) hE hF hok2 hd (fun σ a w h hk => hn _ a w (h.trim live) hk) h hv
    · rename_i e
      have e' : lkZ hz id = none := e
      rw [e'] at hok2
      simp only [Bool.or_eq_true, Bool.not_eq_true'] at hok2
      cases d with
      | false => exact wp_region_list (vcL_list hE hF (fun σ a w h hk => hn _ a w (h.trim live) hk) ops.toList σ a w (fun o ho => hd o (Array.mem_def.2 ho)) h hv)
      | true => exact draw_sound hE hF (by simpa using hok2) hd (fun σ a w h hk => hn _ a w (h.trim live) hk) h hv
  | seq x y ihx ihy =>
    intro hok Kn Kr Kx Q hn hr hx σ a w h hv
    simp only [codeOk, Bool.and_eq_true] at hok
    unfold vc at hv
    refine wp_seq ?_
    split at hv
    · obtain ⟨k, hv1, hv2⟩ := hv
      refine ihx hok.1 _ Kr Kx (Exit.then (y.wp F.cx.P Q) Q) (fun σ a w h hk => ?_) (fun σ a w h hk => hr σ a w h hk) (fun j σ a w h hk => hx j σ a w h hk) σ a w h hv1
      obtain ⟨i, h1, h2⟩ := meets_rel hF h hk
      exact ihy hok.2 Kn Kr Kx Q hn hr hx _ a w h2 (hv2 i h1)
    · exact ihx hok.1 _ Kr Kx (Exit.then (y.wp F.cx.P Q) Q) (fun σ a w h hk => ihy hok.2 Kn Kr Kx Q hn hr hx σ a w h hk) (fun σ a w h hk => hr σ a w h hk) (fun j σ a w h hk => hx j σ a w h hk) σ a w h hv
  | cond c x y ihx ihy =>
    intro hok Kn Kr Kx Q hn hr hx σ a w h hv
    simp only [codeOk, Bool.and_eq_true] at hok
    unfold vc at hv
    split at hv
    · rename_i b e
      obtain ⟨M, ρ, h'⟩ := h
      have he := ev_rel hF h' c
      rw [e] at he
      have hc : a.eval c = .bool b := by
        have he' : Rd (okM F M) w (.bool b) (a.eval c) := he
        generalize a.eval c = v at he'
        cases he'
        rfl
      exact wp_cond_split hc (fun hb => ihx hok.1 Kn Kr Kx Q hn hr hx σ a w ⟨M, ρ, h'⟩ (hv.1 hb)) (fun hb => ihy hok.2 Kn Kr Kx Q hn hr hx σ a w ⟨M, ρ, h'⟩ (hv.2 hb))
    · exact hv.elim
  | block id c ih =>
    intro hok Kn Kr Kx Q hn hr hx σ a w h hv
    refine wp_block (ih hok Kn Kr _ (Exit.inBlock id Q) (fun σ a w h hk => hn σ a w h hk) (fun σ a w h hk => hr σ a w h hk) (fun j σ a w h hk => ?_) σ a w h hv)
    show if j = id then _ else _
    split
    · rename_i e
      rw [if_pos e] at hk
      exact hn σ a w h hk
    · rename_i e
      rw [if_neg e] at hk
      exact hx j σ a w h hk
  | loop c ih =>
    intro hok Kn Kr Kx Q hn hr hx σ a w h hv
    unfold vc at hv
    · obtain ⟨k, hm, hv⟩ := hv
      obtain ⟨i, h1, h2⟩ := meets_rel hF h hm
      refine wp_loop_down (fun n a w => ∃ i, k.J i ∧ k.μ i = n ∧ Rel F (k.S i).st a w) ⟨i, h1, rfl, h2⟩ fun n a w hI => ?_
      obtain ⟨i, h1, rfl, h2⟩ := hI
      refine ih hok (k.below F.n (k.μ i)) Kr Kx (Exit.then (fun a' w' => ∃ m, m < k.μ i ∧ ∃ i, k.J i ∧ k.μ i = m ∧ Rel F (k.S i).st a' w') Q) (fun σ a w h hk => ?_) (fun σ a w h hk => hr σ a w h hk) (fun j σ a w h hk => hx j σ a w h hk) _ a w h2 (hv i h1)
      obtain ⟨i', h3, h4, h5⟩ := below_rel hF h hk
      exact ⟨_, h4, i', h3, rfl, h5⟩
  | _ => intro _ Kn Kr Kx Q _ _ _ σ a w h hv; exact hv.elim
end

/-! ### A function by its code -/
def D.flat : D → Bool
  | .sl l => l.isEmpty
  | _ => true
def flatV : DV → Bool
  | .d x => x.flat
  | .ag l => l.all D.flat
/-- A slot's value, handed back. -/
def retA (σ : St) (fresh : Bool) (r : AV) : Option AV := match r with
  | .nil => some (.sl [])
  | .lit l => if fresh then none else some (.sl l)
  | .own k => match σ.o k with
    | some (.arr _ _ l) => if fresh && !(l.all fun x => x.all D.flat) then none else some (.sl l)
    | _ => none
  | .dv x => if fresh && !flatV x then none else some (.dv x)
  | .dp l => if fresh then none else some (.dp l)
  | .agz l _ => if fresh && !flatV (.ag l) then none else some (.dv (.ag l))
  | _ => none
/-- A variable's cells, handed back as a value of type T. -/
def cellA (P : Program) (T : TypeId) (cs : List AV) : Option AV := match Tk P T with
  | some true => match allD cs with
    | some l => if l.length = P.cellsOf T ∧ P.cellsOf T ≠ 0 then some (.dv (.ag l)) else none
    | none => none
  | some false => match cs with
    | [c] => some c
    | _ => none
  | none => none
/-- All of a variable's cells, handed back. -/
def retL (σ : St) (fresh : Bool) : List AV → Option (List AV)
  | [] => some []
  | c :: r => match retA σ fresh c, retL σ fresh r with
    | some x, some l => some (x :: l)
    | _, _ => none
def boxA (P : Program) (σ : St) (fresh : Bool) (T : TypeId) (r : AV) : Option AV := match r with
  | .ptr k 0 => match σ.o k with
    | some (.box _ cs) => match retL σ fresh cs with
      | some ds => cellA P T ds
      | none => none
    | _ => none
  | _ => none
def resA (P : Program) (σ : St) (fresh : Bool) : ResultVar → Option AV
  | .tmp t => retA σ fresh (σ.s t)
  | .cell t T => boxA P σ fresh T (σ.s t)
def ressA (P : Program) (σ : St) (fresh : Bool) : List ResultVar → Option AV
  | [] => some .tnil
  | r :: l => match resA P σ fresh r, ressA P σ fresh l with
    | some x, some t => some (.tcons x t)
    | _, _ => none
def outA (P : Program) (σ : St) (fresh : Bool) (l : List ResultVar) : Option AV := match l with
  | [r] => resA P σ fresh r
  | l => ressA P σ fresh l
def Ends (P : Program) (post : AV → Prop) (fresh : Bool) (l : List ResultVar) (N : Nat) (σ : St) : Prop := σ.c ≤ N ∧ match outA P σ fresh l with
  | some r => post r
  | none => False
end Go.Avc
