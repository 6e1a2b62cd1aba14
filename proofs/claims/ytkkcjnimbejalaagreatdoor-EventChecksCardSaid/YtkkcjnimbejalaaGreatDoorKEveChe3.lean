/- The calculus: what a function's code asks (its loops and joins by invariants of the prover's), and that the code does it. No condition. -/
import Derived.Test.YtkkcjnimbejalaaGreatDoorKEveChe1
import Derived.Test.YtkkcjnimbejalaaGreatDoorKEveChe2
set_option linter.unusedVariables false
set_option linter.unusedSimpArgs false
namespace Go.Avc
open Go

/-- An invariant at a loop's head or at a join: the frames that may come there, told over data; a measure for loops. -/
structure Cut where
  ι : Type
  S : ι → Sh
  J : ι → Prop
  μ : ι → Nat
  ad : List (Nat × TypeId × Nat)
structure Vx where
  cx : Cx
  E : Env
  B : Nat
  n : Nat
  live : List Nat
  H : List Nat
  hz : List (Nat × List Nat × List Nat)
def lkZ : List (Nat × List Nat × List Nat) → Nat → Option (List Nat × List Nat)
  | [], _ => none
  | p :: r, t => if t = p.1 then some p.2 else lkZ r t

def trimL : List Nat → (Nat → AV) → List (Nat × AV)
  | [], _ => []
  | t :: r, S => (t, S t) :: trimL r S
/-- Only these slots are kept. -/
def St.trim (σ : St) (live : List Nat) : St := { σ with s := lk .un (trimL live σ.s) }
/-- The region with which a piece of code begins; none where it begins with a loop. -/
def headReg : Code → Option Nat
  | .region id _ _ => some id
  | .seq x _ => headReg x
  | .block _ c => headReg c
  | .loop c => headReg c
  | _ => none
def cutAt (X : Vx) (c : Code) : Bool := match headReg c with
  | some r => X.H.any fun u => u == r
  | none => false
def Cut.meets (k : Cut) (n : Nat) (σ : St) : Prop := (k.ad.all fun p => adOk n p) = true ∧ ∃ i, k.J i ∧ Fits (adopt σ k.ad) (k.S i)
def Cut.below (k : Cut) (n : Nat) (m : Nat) (σ : St) : Prop := (k.ad.all fun p => adOk n p) = true ∧ ∃ i, k.J i ∧ k.μ i < m ∧ Fits (adopt σ k.ad) (k.S i)

def vc (X : Vx) : Code → (St → Prop) → (St → Prop) → (Nat → St → Prop) → St → Prop
  | .skip, Kn, _, _, σ => Kn σ
  | .label _, Kn, _, _, σ => Kn σ
  | .region id ops _, Kn, _, _, σ => match lkZ X.hz id with
    | some p => match p.2 with
      | [] => (match p.1 with
        | [] => vcR X.cx X.E X.B ops (fun σ' => Kn (σ'.trim X.live)) ops.toList σ
        | _ :: _ => preOk X.cx.P (optL ops p.1) ∧ vcL X.cx X.E X.B ops (fun σ' => Kn (σ'.trim X.live)) ops.toList (preA (optL ops p.1) σ))
      | _ :: _ => (match p.1 with
        | [] => preT X.cx.P X.E (optL ops p.2) ∧ vcL X.cx X.E X.B ops (fun σ' => Kn (σ'.trim X.live)) ops.toList (preAs (optL ops p.2) σ)
        | _ :: _ => vcH X.cx X.E X.B ops (vcL X.cx X.E X.B ops (fun σ' => Kn (σ'.trim X.live)) (optL ops p.2)) (optL ops p.1) σ)
    | none => vcL X.cx X.E X.B ops (fun σ' => Kn (σ'.trim X.live)) ops.toList σ
  | .seq x y, Kn, Kr, Kx, σ => if cutAt X y = true then ∃ k : Cut, vc X x (k.meets X.n) Kr Kx σ ∧ ∀ i, k.J i → vc X y Kn Kr Kx (k.S i).st else vc X x (vc X y Kn Kr Kx) Kr Kx σ
  | .cond c x y, Kn, Kr, Kx, σ => match ev X.cx σ c with
    | .dv (.d (.bool b)) => (b = true → vc X x Kn Kr Kx σ) ∧ (b = false → vc X y Kn Kr Kx σ)
    | _ => False
  | .block id c, Kn, Kr, Kx, σ => vc X c Kn Kr (fun j σ' => if j = id then Kn σ' else Kx j σ') σ
  | .loop c, _, Kr, Kx, σ => ∃ k : Cut, k.meets X.n σ ∧ ∀ i, k.J i → vc X c (k.below X.n (k.μ i)) Kr Kx (k.S i).st
  | .exit id, _, _, Kx, σ => Kx id σ
  | .ret, _, Kr, _, σ => Kr σ
  | _, _, _, _, _ => False

/-- The static test of a function's code. -/
def opsOk (n : Nat) (ops : Array Oper) : Bool := ops.all fun o => match o.dst with
  | some d => decide (d < n)
  | none => true
def freeL (ops : Array Oper) : List Nat → Bool
  | [ia] => freeB ops ia
  | _ => false
def codeOk (n : Nat) (hz : List (Nat × List Nat × List Nat)) : Code → Bool
  | .region id ops d => opsOk n ops && match lkZ hz id with
    | some p => match p.2 with
      | [] => (match p.1 with
        | [] => !d
        | _ :: _ => d && freeL ops p.1)
      | _ :: _ => d && (match p.1 with
        | [] => lateB ops p.2
        | _ :: _ => regOkH ops p.1 p.2)
    | none => !d || regOk ops
  | .seq x y => codeOk n hz x && codeOk n hz y
  | .cond _ x y => codeOk n hz x && codeOk n hz y
  | .block _ c => codeOk n hz c
  | .loop c => codeOk n hz c
  | _ => true
theorem opsOk_dst {n : Nat} {ops : Array Oper} (h : opsOk n ops = true) : ∀ o ∈ ops, ∀ d, o.dst = some d → d < n := by
  intro o ho d hd
  unfold opsOk at h
  rw [Array.all_eq_true_iff_forall_mem] at h
  have := h o ho
  rw [hd] at this
  simpa using this

theorem exists_least (p : Nat → Prop) (h : ∃ n, p n) : ∃ n, p n ∧ ∀ m, p m → n ≤ m := by
  obtain ⟨n, hn⟩ := h
  induction n using Nat.strongRecOn with
  | _ n ih =>
    by_cases hc : ∃ m, m < n ∧ p m
    · obtain ⟨m, hm, hp⟩ := hc
      exact ih m hm hp
    · exact ⟨n, hn, fun m hm => by
        by_cases hlt : m < n
        · exact absurd ⟨m, hlt, hm⟩ hc
        · omega⟩

/-- A loop by an invariant that bears its measure. -/
theorem wp_loop_down {P : Program} {c : Code} {Q : Exit → Act → World → Prop} (I : Nat → Act → World → Prop) {n : Nat} {a : Act} {w : World} (h₀ : I n a w)
    (round : ∀ n a w, I n a w → c.wp P (Exit.then (fun a' w' => ∃ m, m < n ∧ I m a' w') Q) a w) : (Code.loop c).wp P Q a w := by
  have least : ∀ a w, ∃ k, (∃ n, I n a w) → I k a w ∧ ∀ m, I m a w → k ≤ m := fun a w => by
    by_cases h : ∃ n, I n a w
    · obtain ⟨k, h1, h2⟩ := exists_least _ h
      exact ⟨k, fun _ => ⟨h1, h2⟩⟩
    · exact ⟨0, fun h' => absurd h' h⟩
  have hμ : ∀ a w, (∃ n, I n a w) → I (Classical.choose (least a w)) a w ∧ ∀ m, I m a w → Classical.choose (least a w) ≤ m := fun a w => Classical.choose_spec (least a w)
  refine wp_loop (fun a w => ∃ n, I n a w) (fun a w => Classical.choose (least a w)) ⟨n, h₀⟩ fun a w hI => ?_
  obtain ⟨h1, _⟩ := hμ a w hI
  refine wp_mono (round _ a w h1) fun e a' w' hq => ?_
  cases e with
  | normal =>
    obtain ⟨m, hm, hI'⟩ := hq
    have := (hμ a' w' ⟨m, hI'⟩).2 m hI'
    exact ⟨⟨m, hI'⟩, by omega⟩
  | _ => exact hq

section
variable {F : Fr} {E : Env} {H : List Nat} {hz : List (Nat × List Nat × List Nat)} {live : List Nat}

theorem lk_trim (S : Nat → AV) (t : Nat) : ∀ (l : List Nat), lk .un (trimL l S) t = S t ∨ lk .un (trimL l S) t = .un
  | [] => .inr rfl
  | u :: r => by
    unfold trimL lk
    split
    · rename_i e; subst e; exact .inl rfl
    · exact lk_trim S t r
theorem Rel.trim {σ : St} {a : Act} {w : World} (h : Rel F σ a w) (live : List Nat) : Rel F (σ.trim live) a w := by
  obtain ⟨M, ρ, h⟩ := h
  refine ⟨M, ρ, h.gr, h.st, h.gl, h.mb, fun t => ?_, h.ob, h.ne, h.df, h.nt, h.kx⟩
  show relA _ _ _ _ _ (lk .un (trimL live σ.s) t) _
  rcases lk_trim σ.s t live with e | e
  · rw [e]; exact h.sl t
  · rw [e]; exact trivial

theorem meets_rel (hF : F.Wf) {k : Cut} {σ : St} {a : Act} {w : World} (h : Rel F σ a w) (hm : k.meets F.n σ) : ∃ i, k.J i ∧ Rel F (k.S i).st a w := by
  obtain ⟨h1, i, h2, h3⟩ := hm
  exact ⟨i, h2, (Rel.adopt hF k.ad σ h fun p hp => List.all_eq_true.1 h1 p hp).fits hF h3⟩
theorem below_rel (hF : F.Wf) {k : Cut} {m : Nat} {σ : St} {a : Act} {w : World} (h : Rel F σ a w) (hm : k.below F.n m σ) : ∃ i, k.J i ∧ k.μ i < m ∧ Rel F (k.S i).st a w := by
  obtain ⟨h1, i, h2, h3, h4⟩ := hm
  exact ⟨i, h2, h3, (Rel.adopt hF k.ad σ h fun p hp => List.all_eq_true.1 h1 p hp).fits hF h4⟩

theorem vc_sound (hE : EnvOk F.cx E) (hF : F.Wf) : ∀ (c : Code), codeOk F.n hz c = true → ∀ (Kn Kr : St → Prop) (Kx : Nat → St → Prop) (Q : Exit → Act → World → Prop), (∀ σ a w, Rel F σ a w → Kn σ → Q .normal a w) → (∀ σ a w, Rel F σ a w → Kr σ → Q .ret a w) →
    (∀ j σ a w, Rel F σ a w → Kx j σ → Q (.exit j) a w) → ∀ (σ : St) (a : Act) (w : World), Rel F σ a w → vc ⟨F.cx, E, F.B, F.n, live, H, hz⟩ c Kn Kr Kx σ → c.wp F.cx.P Q a w := by
  intro c
  induction c with
  | skip => intro _ Kn Kr Kx Q hn _ _ σ a w h hv; exact wp_skip (hn _ _ _ h hv)
  | label l => intro _ Kn Kr Kx Q hn _ _ σ a w h hv; exact wp_label (hn _ _ _ h hv)
  | exit id => intro _ Kn Kr Kx Q _ _ hx σ a w h hv; exact wp_exit (hx _ _ _ _ h hv)
  | ret => intro _ Kn Kr Kx Q _ hr _ σ a w h hv; exact wp_ret (hr _ _ _ h hv)
  | region id ops d =>
    intro hok Kn Kr Kx Q hn _ _ σ a w h hv
    unfold codeOk at hok
    rw [Bool.and_eq_true] at hok
    have hd := opsOk_dst hok.1
    unfold vc at hv
    have hok2 := hok.2
    split at hv
    · rename_i p e
      have e' : lkZ hz id = some p := e
      rw [e'] at hok2
      obtain ⟨p1, p2⟩ := p
      cases p2 with
      | nil =>
        cases p1 with
        | nil =>
          have hd1 : d = false := by simpa using hok2
          subst hd1
          exact wp_region_list (vcR_list hE hF (fun σ a w h hk => hn _ a w (h.trim live) hk) ops.toList σ a w (fun o ho => hd o (Array.mem_def.2 ho)) h hv)
        | cons p0 p1 =>
          have hok3 : (d && freeL ops (p0 :: p1)) = true := hok2
          rw [Bool.and_eq_true] at hok3
          obtain ⟨hd1, hok3⟩ := hok3
          subst hd1
          unfold freeL at hok3
          split at hok3
          · rename_i ia e2
            cases e2
            exact drawF_sound hE hF hok3 hd (fun σ a w h hk => hn _ a w (h.trim live) hk) h hv.1 hv.2
          · cases hok3
      | cons r1 r2 =>
        cases p1 with
        | nil =>
          have hok3 : (d && lateB ops (r1 :: r2)) = true := hok2
          rw [Bool.and_eq_true] at hok3
          obtain ⟨hd1, hok3⟩ := hok3
          subst hd1
          exact drawT_sound (ls := r1 :: r2) hE hF hok3 hd (fun σ a w h hk => hn _ a w (h.trim live) hk) h hv.1 hv.2
        | cons p0 p1 =>
          have hok3 : (d && regOkH ops (p0 :: p1) (r1 :: r2)) = true := hok2
          rw [Bool.and_eq_true] at hok3
          obtain ⟨hd1, hok3⟩ := hok3
          subst hd1
          exact drawH_sound (hs := p0 :: p1) (rs := r1 :: r2) hE hF hok3 hd (fun σ a w h hk => hn _ a w (h.trim live) hk) h hv
    · rename_i e
      have e' : lkZ hz id = none := e
      rw [e'] at hok2
      simp only [Bool.or_eq_true, Bool.not_eq_true'] at hok2
      cases d with
      | false => exact wp_region_list (vcL_list hE hF (fun σ a w h hk => hn _ a w (h.trim live) hk) ops.toList σ a w (fun o ho => hd o (Array.mem_def.2 ho)) h hv)
      | true => exact draw_sound hE hF (by simpa using hok2) hd (fun σ a w h hk => hn _ a w (h.trim live) hk) h hv
  | seq x y ihx ihy =>
    intro hok Kn Kr Kx Q hn hr hx σ a w h hv
    simp only [codeOk, Bool.and_eq_true] at hok
    unfold vc at hv
    refine wp_seq ?_
    split at hv
    · obtain ⟨k, hv1, hv2⟩ := hv
      refine ihx hok.1 _ Kr Kx (Exit.then (y.wp F.cx.P Q) Q) (fun σ a w h hk => ?_) (fun σ a w h hk => hr σ a w h hk) (fun j σ a w h hk => hx j σ a w h hk) σ a w h hv1
      obtain ⟨i, h1, h2⟩ := meets_rel hF h hk
      exact ihy hok.2 Kn Kr Kx Q hn hr hx _ a w h2 (hv2 i h1)
    · exact ihx hok.1 _ Kr Kx (Exit.then (y.wp F.cx.P Q) Q) (fun σ a w h hk => ihy hok.2 Kn Kr Kx Q hn hr hx σ a w h hk) (fun σ a w h hk => hr σ a w h hk) (fun j σ a w h hk => hx j σ a w h hk) σ a w h hv
  | cond c x y ihx ihy =>
    intro hok Kn Kr Kx Q hn hr hx σ a w h hv
    simp only [codeOk, Bool.and_eq_true] at hok
    unfold vc at hv
    split at hv
    · rename_i b e
      obtain ⟨M, ρ, h'⟩ := h
      have he := ev_rel hF h' c
      rw [e] at he
      have hc : a.eval c = .bool b := by
        have he' : Rd (okM F M) w (.bool b) (a.eval c) := he
        generalize a.eval c = v at he'
        cases he'
        rfl
      exact wp_cond_split hc (fun hb => ihx hok.1 Kn Kr Kx Q hn hr hx σ a w ⟨M, ρ, h'⟩ (hv.1 hb)) (fun hb => ihy hok.2 Kn Kr Kx Q hn hr hx σ a w ⟨M, ρ, h'⟩ (hv.2 hb))
    · exact hv.elim
  | block id c ih =>
    intro hok Kn Kr Kx Q hn hr hx σ a w h hv
    refine wp_block (ih hok Kn Kr _ (Exit.inBlock id Q) (fun σ a w h hk => hn σ a w h hk) (fun σ a w h hk => hr σ a w h hk) (fun j σ a w h hk => ?_) σ a w h hv)
    show if j = id then _ else _
    split
    · rename_i e
      rw [if_pos e] at hk
      exact hn σ a w h hk
    · rename_i e
      rw [if_neg e] at hk
      exact hx j σ a w h hk
  | loop c ih =>
    intro hok Kn Kr Kx Q hn hr hx σ a w h hv
    unfold vc at hv
    · obtain ⟨k, hm, hv⟩ := hv
      obtain ⟨i, h1, h2⟩ := meets_rel hF h hm
      refine wp_loop_down (fun n a w => ∃ i, k.J i ∧ k.μ i = n ∧ Rel F (k.S i).st a w) ⟨i, h1, rfl, h2⟩ fun n a w hI => ?_
      obtain ⟨i, h1, rfl, h2⟩ := hI
      refine ih hok (k.below F.n (k.μ i)) Kr Kx (Exit.then (fun a' w' => ∃ m, m < k.μ i ∧ ∃ i, k.J i ∧ k.μ i = m ∧ Rel F (k.S i).st a' w') Q) (fun σ a w h hk => ?_) (fun σ a w h hk => hr σ a w h hk) (fun j σ a w h hk => hx j σ a w h hk) _ a w h2 (hv i h1)
      obtain ⟨i', h3, h4, h5⟩ := below_rel hF h hk
      exact ⟨_, h4, i', h3, rfl, h5⟩
  | _ => intro _ Kn Kr Kx Q _ _ _ σ a w h hv; exact hv.elim
end

/-! ### A function by its code -/
def D.flat : D → Bool
  | .sl l => l.isEmpty
  | _ => true
def flatV : DV → Bool
  | .d x => x.flat
  | .ag l => l.all D.flat
/-- A slot's value, handed back. -/
def retA (σ : St) (fresh : Bool) (r : AV) : Option AV := match r with
  | .nil => some (.sl [])
  | .lit _ l => if fresh then none else some (.sl l)
  | .own k => match σ.o k with
    | some (.arr _ _ l) => if fresh && !(l.all fun x => x.all D.flat) then none else some (.sl l)
    | _ => none
  | .dv x => if fresh && !flatV x then none else some (.dv x)
  | .dp l => if fresh then none else some (.dp l)
  | .agz l _ => if fresh && !flatV (.ag l) then none else some (.dv (.ag l))
  | _ => none
/-- A variable's cells, handed back as a value of type T. -/
def cellA (P : Program) (T : TypeId) (cs : List AV) : Option AV := match Tk P T with
  | some true => match allD cs with
    | some l => if l.length = P.cellsOf T ∧ P.cellsOf T ≠ 0 then some (.dv (.ag l)) else none
    | none => none
  | some false => match cs with
    | [c] => some c
    | _ => none
  | none => none
/-- All of a variable's cells, handed back. -/
def retL (σ : St) (fresh : Bool) : List AV → Option (List AV)
  | [] => some []
  | c :: r => match retA σ fresh c, retL σ fresh r with
    | some x, some l => some (x :: l)
    | _, _ => none
def boxA (P : Program) (σ : St) (fresh : Bool) (T : TypeId) (r : AV) : Option AV := match r with
  | .ptr k 0 => match σ.o k with
    | some (.box _ cs) => match retL σ fresh cs with
      | some ds => cellA P T ds
      | none => none
    | _ => none
  | _ => none
def resA (P : Program) (σ : St) (fresh : Bool) : ResultVar → Option AV
  | .tmp t => retA σ fresh (σ.s t)
  | .cell t T => boxA P σ fresh T (σ.s t)
def ressA (P : Program) (σ : St) (fresh : Bool) : List ResultVar → Option AV
  | [] => some .tnil
  | r :: l => match resA P σ fresh r, ressA P σ fresh l with
    | some x, some t => some (.tcons x t)
    | _, _ => none
def outA (P : Program) (σ : St) (fresh : Bool) (l : List ResultVar) : Option AV := match l with
  | [r] => resA P σ fresh r
  | l => ressA P σ fresh l
def Ends (P : Program) (post : AV → Prop) (fresh : Bool) (l : List ResultVar) (N : Nat) (σ : St) : Prop := σ.c ≤ N ∧ match outA P σ fresh l with
  | some r => post r
  | none => False
end Go.Avc

namespace Go.Avc
open Go

section
variable {F : Fr} {M : Nat → Prop} {ρ : Nat → Value} {σ : St} {a : Act} {w : World} {E : Env} {ok ok' : Nat → Prop}

theorem Rd.flat {x : D} {v : Value} (h : Rd ok w x v) (hf : x.flat = true) : Rd ok' w x v := by
  cases h with
  | int k n => exact .int k n
  | bool b => exact .bool b
  | str s => exact .str s
  | nil A c => exact .nil A c
  | sl l z b o c u hc hb hlt hz hu hr =>
    have : l = [] := by simpa [D.flat] using hf
    subst this
    exact .nil _ _
theorem RdL.flat {l : List D} {vs : List Value} (h : RdL ok w l vs) (hf : l.all D.flat = true) : RdL ok' w l vs :=
  ⟨h.1, fun i x v hx hv => (h.2 i x v hx hv).flat (List.all_eq_true.1 hf x (List.mem_of_getElem? hx))⟩
theorem RdV.flat {x : DV} {v : Value} (h : RdV ok w x v) (hf : flatV x = true) : RdV ok' w x v := by
  cases x with
  | d x => exact Rd.flat (x := x) h hf
  | ag l =>
    obtain ⟨cs, h1, h2⟩ := h
    exact ⟨cs, h1, h2.flat hf⟩

theorem okM_res {b : Nat} (h : okM F M b) : resOk F false b := h.1.imp (fun h => ⟨rfl, h⟩) id

theorem own_data2 {base : Nat} {e : TypeId} {z : Nat} {l : List (List D)} {v : Value} {cs : List Value} (hown : w.ownsRow base e z v l.length cs) (hz : ∀ (i : Nat) (x : List D), l[i]? = some x → x.length = z) (hl : RdL ok w l.flatten cs) (hb : ∀ b, v.ownBlock = some b → ok b ∧ b < w.heap.size) : Rd ok w (.sl l) v := by
  rcases hown.2 with ⟨rfl, hn⟩ | ⟨g, cap, cur, hg, _, _, hcap, _⟩
  · have : l = [] := List.eq_nil_of_length_eq_zero hn
    subst this
    exact .nil _ _
  · have := hb g (by rw [hg]; rfl)
    rw [hg]
    exact Rd.of_flat hz hl (ownsRow_cells hown hg) this.1 this.2 hcap

theorem retA_rel (hF : F.Wf) (h : Rel1 F M ρ σ a w) {fresh : Bool} {x r : AV} {v : Value} (hx : relA F.cx F.w0 (okM F M) ρ w x v) (hr : retA σ fresh x = some r) : r.plain = true ∧ r.tup = false ∧ rel0 F.cx F.w0 (resOk F fresh) (fun _ => undef) w r v := by
  unfold retA at hr
  split at hr
  · cases hr
    exact ⟨rfl, rfl, by rw [show v = _ from hx]; exact Rd.nil _ _⟩
  · split at hr
    · cases hr
    · rename_i hf
      cases hr
      simp only [Bool.not_eq_true] at hf
      subst hf
      exact ⟨rfl, rfl, hx.2.1.mono (Nat.le_refl _) (fun b hb _ => okM_res hb) (fun _ _ _ => rfl)⟩
  · rename_i k
    split at hr
    · rename_i e z l hk
      split at hr
      · cases hr
      · rename_i hf
        cases hr
        refine ⟨rfl, rfl, ?_⟩
        obtain ⟨cs, hown, hM, hz, hl⟩ := h.ob k _ hk
        rw [show v = _ from hx]
        refine own_data2 (ok := resOk F fresh) hown hz ?_ (fun b hb => ⟨.inr (h.mb b (hM b hb)).1, (h.mb b (hM b hb)).2⟩)
        cases fresh with
        | false => exact hl.mono (Nat.le_refl _) (fun b hb _ => okM_res hb) (fun _ _ _ => rfl)
        | true =>
          refine hl.flat ?_
          simp only [Bool.true_and, Bool.not_eq_true, Bool.not_eq_false', List.all_eq_true] at hf
          rw [List.all_eq_true]
          intro y hy
          obtain ⟨x', hx', hy'⟩ := List.mem_flatten.1 hy
          exact hf x' hx' y hy'
    · cases hr
  · rename_i y
    split at hr
    · cases hr
    · rename_i hf
      cases hr
      refine ⟨rfl, rfl, ?_⟩
      cases fresh with
      | false => exact RdV.mono (x := y) hx (Nat.le_refl _) (fun b hb _ => okM_res hb) (fun _ _ _ => rfl)
      | true =>
        refine RdV.flat (x := y) hx ?_
        simpa using hf
  · rename_i l
    split at hr
    · cases hr
    · rename_i hf
      cases hr
      simp only [Bool.not_eq_true] at hf
      subst hf
      obtain ⟨b, o, cs, h1, h2, h3, h4, h5⟩ := hx
      exact ⟨rfl, rfl, b, o, cs, h1, okM_res h2, h3, h4, h5.mono (Nat.le_refl _) (fun b hb _ => okM_res hb) (fun _ _ _ => rfl)⟩
  · rename_i y zs
    split at hr
    · cases hr
    · rename_i hf
      cases hr
      refine ⟨rfl, rfl, ?_⟩
      cases fresh with
      | false => exact RdV.mono (x := .ag y) hx.1 (Nat.le_refl _) (fun b hb _ => okM_res hb) (fun _ _ _ => rfl)
      | true =>
        refine RdV.flat (x := .ag y) hx.1 ?_
        simpa using hf
  · cases hr

/-- How a result is read. -/
def rdR (tmps : Array Value) : ResultVar → Sem Value
  | .tmp t => pure (tmps.getD t undef)
  | .cell a t => do loadVar t (← asAddr (tmps.getD a undef))

theorem retL_rel (hF : F.Wf) (h : Rel1 F M ρ σ a w) {fresh : Bool} : ∀ {cs ds : List AV}, retL σ fresh cs = some ds → ds.length = cs.length ∧ ∀ (j : Nat) (y x : AV) (u : Value), cs[j]? = some y → relA F.cx F.w0 (okM F M) ρ w y u → ds[j]? = some x → x.plain = true ∧ x.tup = false ∧ rel0 F.cx F.w0 (resOk F fresh) (fun _ => undef) w x u
  | [], ds, hr => by cases hr; exact ⟨rfl, fun j y x u hy => by simp at hy⟩
  | c :: r, ds, hr => by
    unfold retL at hr
    split at hr
    · rename_i x l h1 h2
      cases hr
      obtain ⟨g1, g2⟩ := retL_rel hF h h2
      refine ⟨by rw [List.length_cons, List.length_cons, g1], fun j y z u hy hu hz => ?_⟩
      cases j with
      | zero => cases hy; cases hz; exact retA_rel hF h hu h1
      | succ j => exact g2 j y z u hy hu hz
    · cases hr
theorem boxA_rel (hF : F.Wf) (h : Rel1 F M ρ σ a w) {fresh : Bool} {t : Nat} {T : TypeId} {r : AV} (hr : boxA F.cx.P σ fresh T (σ.s t) = some r) : ∃ v, (rdR a.tmps (.cell t T)).run F.cx.P w = .ok v w ∧ r.plain = true ∧ r.tup = false ∧ rel0 F.cx F.w0 (resOk F fresh) (fun _ => undef) w r v := by
  unfold boxA at hr
  split at hr
  · rename_i k e
    split at hr
    · rename_i T' cs hk
      split at hr
      · rename_i ds hds
        obtain ⟨hdl, hdr⟩ := retL_rel hF h hds
        have hs := h.sl t
        rw [e] at hs
        obtain ⟨b, hk0, hv⟩ := hs
        obtain ⟨b', vs, hk1, hM, hh, hl, hc⟩ := h.ob k _ hk
        rw [hk0] at hk1
        simp only [Value.pointer.injEq, Option.some.injEq, Addr.mk.injEq, and_true, true_and] at hk1
        subst hk1
        have hcell : ∀ j u, vs[j]? = some u → w.cell? ⟨b, j, none⟩ = some u := fun j u hj => by
          unfold World.cell?
          rw [hh]
          simpa using hj
        have hd : ∀ (j : Nat) (x : AV) (u : Value), ds[j]? = some x → vs[j]? = some u → x.plain = true ∧ x.tup = false ∧ rel0 F.cx F.w0 (resOk F fresh) (fun _ => undef) w x u := fun j x u hx hu => by
          have hj : j < cs.length := by rw [← hdl]; exact (List.getElem?_eq_some_iff.1 hx).1
          have hy : cs[j]? = some cs[j] := List.getElem?_eq_getElem hj
          exact hdr j _ x u hy (hc j _ u hy hu).2 hx
        unfold cellA at hr
        split at hr
        · rename_i hT
          split at hr
          · rename_i l hD
            split at hr
            · rename_i hlen
              cases hr
              have hR : RdL (resOk F fresh) w l vs.toList := by
                refine allD_rd (F := F) (ρ := fun _ => undef) hD (by simp [hdl, hl]) (fun j y u hy hu => ?_)
                rw [Array.getElem?_toList] at hu
                exact relA_of0 (hd _ y u hy hu).2.2
              have hpart : partD F.cx.P T l = some (F.cx.P.cellsOf T ≠ 0 ∧ F.cx.P.cellsOf T ≤ l.length, .ag (l.take (F.cx.P.cellsOf T))) := by
                unfold partD
                rw [hT]
              obtain ⟨v, h1, h2⟩ := load_run (P := F.cx.P) (b := b) (o := 0) hR (fun j u hj => by
                rw [Array.getElem?_toList] at hj
                rw [Nat.zero_add]
                exact hcell _ u hj) hpart ⟨hlen.2, Nat.le_of_eq hlen.1.symm⟩
              rw [List.take_of_length_le (Nat.le_of_eq hlen.1)] at h2
              refine ⟨v, ?_, rfl, rfl, h2⟩
              show (do loadVar T (← asAddr (a.tmps.getD t undef))).run F.cx.P w = _
              rw [hv]
              simp [asAddr, h1]
            · cases hr
          · cases hr
        · rename_i hT
          rcases ds with _ | ⟨c, _ | ⟨d, r'⟩⟩
          · cases hr
          · have hcr : c = r := Option.some.inj hr
            have hlt : 0 < vs.size := by rw [← hl, ← hdl]; exact Nat.zero_lt_one
            have hu : vs[0]? = some vs[0] := Array.getElem?_eq_getElem hlt
            have h1 := hd 0 c vs[0] rfl hu
            refine ⟨vs[0], ?_, hcr ▸ h1.1, hcr ▸ h1.2.1, hcr ▸ h1.2.2⟩
            show (do loadVar T (← asAddr (a.tmps.getD t undef))).run F.cx.P w = _
            rw [hv]
            simp [asAddr, loadVar, Tk_agg hT w, hcell 0 _ hu]
          · cases hr
        · cases hr
      · cases hr
    · cases hr
  · cases hr
theorem resA_rel (hF : F.Wf) (h : Rel1 F M ρ σ a w) {fresh : Bool} {x : ResultVar} {r : AV} (hr : resA F.cx.P σ fresh x = some r) : ∃ v, (rdR a.tmps x).run F.cx.P w = .ok v w ∧ r.plain = true ∧ r.tup = false ∧ rel0 F.cx F.w0 (resOk F fresh) (fun _ => undef) w r v := by
  cases x with
  | tmp t => exact ⟨a.tmps.getD t undef, by simp [rdR], retA_rel hF h (h.sl t) hr⟩
  | cell t T => exact boxA_rel hF h hr

theorem ressA_rel (hF : F.Wf) (h : Rel1 F M ρ σ a w) {fresh : Bool} : ∀ {l : List ResultVar} {r : AV}, ressA F.cx.P σ fresh l = some r → ∃ vs : List Value, (l.mapM (rdR a.tmps)).run F.cx.P w = .ok vs w ∧ vs.length = l.length ∧ r.plain = true ∧ relT F.cx F.w0 (resOk F fresh) (fun _ => undef) w r vs
  | [], r, hr => by cases hr; exact ⟨[], by simp, rfl, rfl, rfl⟩
  | x :: l, r, hr => by
    unfold ressA at hr
    split at hr
    · rename_i y t e1 e2
      cases hr
      obtain ⟨v, h0, h1, _, h2⟩ := resA_rel hF h e1
      obtain ⟨vs, g0, g1, h3, h4⟩ := ressA_rel hF h e2
      refine ⟨v :: vs, ?_, by simp [g1], by simp [AV.plain, h1, h3], _, _, rfl, h2, h4⟩
      rw [List.mapM_cons]
      simp only [Sem.run_bind, Sem.run_pure, Result.andThen_ok, h0, g0]
    · cases hr

theorem outA_rel (hF : F.Wf) (h : Rel1 F M ρ σ a w) {fresh : Bool} {fn : Func} {l : List ResultVar} (hl : fn.results = l.toArray) {r : AV} (hr : outA F.cx.P σ fresh l = some r) : r.plain = true ∧ ∃ v, (results fn a.tmps).run F.cx.P w = .ok v w ∧ relA F.cx F.w0 (resOk F fresh) (fun _ => undef) w r v := by
  have hrun : ∀ vs : List Value, (l.mapM (rdR a.tmps)).run F.cx.P w = .ok vs w → (results fn a.tmps).run F.cx.P w = .ok (if h : vs.toArray.size = 1 then vs.toArray[0] else .tuple vs.toArray) w := by
    intro vs hm
    unfold results
    rw [hl]
    simp only [List.mapM_toArray, Sem.run_bind]
    rw [Sem.run_map]
    erw [hm]
    rfl
  unfold outA at hr
  split at hr
  · rename_i x
    obtain ⟨v, h0, h1, h2, h3⟩ := resA_rel hF h hr
    refine ⟨h1, _, hrun [v] (by rw [List.mapM_cons]; simp [h0]), ?_⟩
    exact relA_of0 h3
  · rename_i hne
    obtain ⟨vs, g0, g1, h1, h2⟩ := ressA_rel hF h hr
    refine ⟨h1, _, hrun vs g0, ?_⟩
    rw [dif_neg (fun e => by
      simp only [List.size_toArray] at e
      rw [g1] at e
      obtain ⟨x, rfl⟩ := List.length_eq_one_iff.1 e
      exact hne x rfl)]
    cases r with
    | tnil => rw [show vs = _ from h2]; rfl
    | tcons x t => exact ⟨_, rfl, h2⟩
    | _ => exact h2.elim

/-- A function's frame as it begins. -/
def init (as : List AV) : St := { s := fun t => as.getD t .un, o := fun _ => none, c := 0 }

/-- A contract out of the code. -/
theorem ctr_of {cx : Cx} {f : FuncId} {sp : Spec} {fn : Func} {c : Code} {l : List ResultVar} (E : Env) (live : List Nat) (H : List Nat) (hz : List (Nat × List Nat × List Nat)) (hE : EnvOk cx E) (hen : Enters cx.P f) (hf : cx.P.funcs[f]? = some fn) (hb : fn.body = some c) (hok : codeOk fn.ntmps hz c = true) (hl : fn.results = l.toArray)
    (hne : ∀ as, sp.pre as → ∃ r, sp.post as r)
    (hvc : ∀ as, sp.pre as → as.length ≤ fn.ntmps ∧ vc ⟨cx, E, sp.cost as, fn.ntmps, live, H, hz⟩ c (Ends cx.P (sp.post as) sp.fresh l (sp.cost as)) (Ends cx.P (sp.post as) sp.fresh l (sp.cost as)) (fun _ _ => False) (init as)) : Ctr cx f sp := by
  refine ⟨hen, hne, ?_⟩
  intro F as vals hcx hF hst hgl hcost hlen hargs hpre
  subst hcx
  obtain ⟨hn, hv⟩ := hvc as hpre
  have hF' : Fr.Wf ⟨F.cx, F.w0, F.ok, F.N, sp.cost as, fn.ntmps, F.w0, fun _ => False⟩ := ⟨hF.ok, hF.gl, hF.g, by have := hF.nb; show F.N + sp.cost as ≤ _; omega⟩
  have hrel : Rel ⟨F.cx, F.w0, F.ok, F.N, sp.cost as, fn.ntmps, F.w0, fun _ => False⟩ (init as) { tmps := vals.toArray ++ Array.replicate (fn.ntmps - vals.toArray.size) undef, defers := [] } F.w0 := by
    refine ⟨fun _ => False, fun _ => undef, Gr.refl _ _, hst, hgl, fun b hb => hb.elim, fun t => ?_, (fun k o hk => by cases hk), (fun k k' o o' hk => by cases hk), rfl, ?_, ⟨Nat.le_refl _, fun _ _ _ _ => rfl, fun _ hb => hb.elim⟩⟩
    · show relA _ _ _ _ _ (as.getD t .un) _
      rw [List.getD_eq_getElem?_getD]
      cases ht : as[t]? with
      | none => exact trivial
      | some x =>
        have hlt : t < vals.length := by
          obtain ⟨h1, _⟩ := List.getElem?_eq_some_iff.1 ht
          omega
        have h1 := hargs t x vals[t] ht (List.getElem?_eq_getElem hlt)
        have h2 : (vals.toArray ++ Array.replicate (fn.ntmps - vals.toArray.size) undef).getD t undef = vals[t] := by
          rw [Array.getD_eq_getD_getElem?, Array.getElem?_append_left (by simpa using hlt)]
          simp [hlt]
        rw [show ({ tmps := vals.toArray ++ Array.replicate (fn.ntmps - vals.toArray.size) undef, defers := [] } : Act).tmps.getD t undef = vals[t] from h2]
        exact (relA_of0 h1).mono (Gr.refl _ _) (Nat.le_refl _) (fun b hb _ => ⟨.inl hb, fun h => h⟩) (fun _ _ _ => rfl)
    · show fn.ntmps ≤ _
      simp only [Array.size_append, List.size_toArray, Array.size_replicate]
      omega
  have hend : ∀ (σ : St) (a : Act) (w : World), Rel ⟨F.cx, F.w0, F.ok, F.N, sp.cost as, fn.ntmps, F.w0, fun _ => False⟩ σ a w → Ends F.cx.P (sp.post as) sp.fresh l (sp.cost as) σ → a.defers = [] ∧ ∃ v, (results fn a.tmps).run F.cx.P w = .ok v w ∧ ∃ v' r, Ending.returned v = .returned v' ∧ Gr F.cx.g F.w0 w ∧ StAt F.cx (F.N + sp.cost as) w ∧ sp.post as r ∧ r.plain = true ∧ relA F.cx F.w0 (resOk F sp.fresh) (fun _ => undef) w r v' := by
    intro σ a w h he
    obtain ⟨M, ρ, h⟩ := h
    obtain ⟨h1, h2⟩ := he
    split at h2
    · rename_i r hr
      obtain ⟨h3, v, h4, h5⟩ := outA_rel hF' h hl hr
      exact ⟨h.df, v, h4, v, r, rfl, h.gr, h.st.le (Nat.add_le_add_left h1 _), h2, h3, h5⟩
    · exact h2.elim
  exact calls_of_wp hf hb (vc_sound (F := ⟨F.cx, F.w0, F.ok, F.N, sp.cost as, fn.ntmps, F.w0, fun _ => False⟩) (live := live) (H := H) (hz := hz) hE hF' c hok _ _ _ _ (fun σ a w h hk => hend σ a w h hk) (fun σ a w h hk => hend σ a w h hk) (fun j σ a w h hk => hk.elim) _ _ _ hrel hv)
/-- A slot that holds a row of the call's own, handed over. -/
def EndsO (post : AV → Prop) (fresh : Bool) (e : TypeId) (z : Nat) (t : Nat) (N : Nat) (σ : St) : Prop := σ.c ≤ N ∧ match σ.s t with
  | .own k => (match σ.o k with
    | some (.arr e' z' l) => e' = e ∧ z' = z ∧ (fresh = true → (l.all fun x => x.all D.flat) = true) ∧ post (.sl l)
    | _ => False)
  | .nil => post (.sl [])
  | _ => False
theorem ctrO_of {cx : Cx} {f : FuncId} {sp : Spec} {e : TypeId} {z : Nat} {fn : Func} {c : Code} {t : Nat} (E : Env) (live : List Nat) (H : List Nat) (hz : List (Nat × List Nat × List Nat)) (hE : EnvOk cx E) (hen : Enters cx.P f) (hf : cx.P.funcs[f]? = some fn) (hb : fn.body = some c) (hok : codeOk fn.ntmps hz c = true) (hl : fn.results = [ResultVar.tmp t].toArray)
    (hvc : ∀ as, sp.pre as → as.length ≤ fn.ntmps ∧ vc ⟨cx, E, sp.cost as, fn.ntmps, live, H, hz⟩ c (EndsO (sp.post as) sp.fresh e z t (sp.cost as)) (EndsO (sp.post as) sp.fresh e z t (sp.cost as)) (fun _ _ => False) (init as)) (hz0 : z < 1000) : CtrO cx f sp e z := by
  refine ⟨hen, fun _ => ?_, fun hz1 => by omega⟩
  intro F as vals hcx hF hst hgl hcost hlen hargs hpre
  subst hcx
  obtain ⟨hn, hv⟩ := hvc as hpre
  have hF' : Fr.Wf ⟨F.cx, F.w0, F.ok, F.N, sp.cost as, fn.ntmps, F.w0, fun _ => False⟩ := ⟨hF.ok, hF.gl, hF.g, by have := hF.nb; show F.N + sp.cost as ≤ _; omega⟩
  have hrel : Rel ⟨F.cx, F.w0, F.ok, F.N, sp.cost as, fn.ntmps, F.w0, fun _ => False⟩ (init as) { tmps := vals.toArray ++ Array.replicate (fn.ntmps - vals.toArray.size) undef, defers := [] } F.w0 := by
    refine ⟨fun _ => False, fun _ => undef, Gr.refl _ _, hst, hgl, fun b hb => hb.elim, fun t => ?_, (fun k o hk => by cases hk), (fun k k' o o' hk => by cases hk), rfl, ?_, ⟨Nat.le_refl _, fun _ _ _ _ => rfl, fun _ hb => hb.elim⟩⟩
    · show relA _ _ _ _ _ (as.getD t .un) _
      rw [List.getD_eq_getElem?_getD]
      cases ht : as[t]? with
      | none => exact trivial
      | some x =>
        have hlt : t < vals.length := by
          obtain ⟨h1, _⟩ := List.getElem?_eq_some_iff.1 ht
          omega
        have h1 := hargs t x vals[t] ht (List.getElem?_eq_getElem hlt)
        have h2 : (vals.toArray ++ Array.replicate (fn.ntmps - vals.toArray.size) undef).getD t undef = vals[t] := by
          rw [Array.getD_eq_getD_getElem?, Array.getElem?_append_left (by simpa using hlt)]
          simp [hlt]
        rw [show ({ tmps := vals.toArray ++ Array.replicate (fn.ntmps - vals.toArray.size) undef, defers := [] } : Act).tmps.getD t undef = vals[t] from h2]
        exact (relA_of0 h1).mono (Gr.refl _ _) (Nat.le_refl _) (fun b hb _ => ⟨.inl hb, fun h => h⟩) (fun _ _ _ => rfl)
    · show fn.ntmps ≤ _
      simp only [Array.size_append, List.size_toArray, Array.size_replicate]
      omega
  have hend : ∀ (σ : St) (a : Act) (w : World), Rel ⟨F.cx, F.w0, F.ok, F.N, sp.cost as, fn.ntmps, F.w0, fun _ => False⟩ σ a w → EndsO (sp.post as) sp.fresh e z t (sp.cost as) σ → a.defers = [] ∧ ∃ v, (results fn a.tmps).run F.cx.P w = .ok v w ∧ ∃ (v' : Value) (r : AV), Ending.returned v = .returned v' ∧ Gr F.cx.g F.w0 w ∧ StAt F.cx (F.N + sp.cost as) w ∧ sp.post as r ∧ Hands (resOk F sp.fresh) w F.w0.heap.size e z v' r := by
    intro σ a w h he
    obtain ⟨M, ρ, h⟩ := h
    obtain ⟨h1, h2⟩ := he
    have hres : (results fn a.tmps).run F.cx.P w = .ok (a.tmps.getD t undef) w := by
      unfold results
      rw [hl]
      simp
    have hs := h.sl t
    refine ⟨h.df, _, hres, ?_⟩
    split at h2
    · rename_i k e1
      rw [e1] at hs
      have hvk : a.tmps.getD t undef = ρ k := hs
      split at h2
      · rename_i e' z' l e2
        obtain ⟨rfl, rfl, hfl, hpo⟩ := h2
        obtain ⟨xs, hown, hMb, hz, hrd⟩ := h.ob k _ e2
        refine ⟨_, _, rfl, h.gr, h.st.le (Nat.add_le_add_left h1 _), hpo, .inl ⟨l, xs, hz0, rfl, by rw [hvk]; exact hown, hz, ?_⟩⟩
        rw [hvk]
        cases hfr : sp.fresh with
        | false => exact hrd.mono (Nat.le_refl _) (fun b hb _ => ⟨hb.1.imp (fun hb => ⟨rfl, hb⟩) id, fun e => hb.2 (hMb b e)⟩) (fun _ _ _ => rfl)
        | true =>
        refine hrd.flat ?_
        have hfl := hfl hfr
        rw [List.all_eq_true] at hfl ⊢
        intro x hx
        obtain ⟨y, hy, hxy⟩ := List.mem_flatten.1 hx
        exact List.all_eq_true.1 (hfl y hy) x hxy
      · exact h2.elim
    · rename_i e1
      rw [e1] at hs
      have hvk : a.tmps.getD t undef = .slice none 0 0 := hs
      exact ⟨_, _, rfl, h.gr, h.st.le (Nat.add_le_add_left h1 _), h2, .inl ⟨[], [], hz0, rfl, by rw [hvk]; exact World.ownsRow_nil w F.w0.heap.size e z, fun i x hx => by simp at hx, RdL.nil⟩⟩
    · exact h2.elim
  exact calls_of_wp hf hb (vc_sound (F := ⟨F.cx, F.w0, F.ok, F.N, sp.cost as, fn.ntmps, F.w0, fun _ => False⟩) (live := live) (H := H) (hz := hz) hE hF' c hok _ _ _ _ (fun σ a w h hk => hend σ a w h hk) (fun σ a w h hk => hend σ a w h hk) (fun j σ a w h hk => hk.elim) _ _ _ hrel hv)
/-- A variable with a row of the call's own in cell j, all else flat data, handed over as a struct. -/
def zdat (j : Nat) (lj : List (List D)) : List AV → Nat → Option (List D)
  | [], _ => some []
  | c :: r, i => match zdat j lj r (i + 1) with
    | some l => if i = j then some (.sl lj :: l) else match nrm c with
      | .dv (.d x) => some (x :: l)
      | _ => none
    | none => none
def EndsZ (P : Program) (post : AV → Prop) (e : TypeId) (z j t : Nat) (T : TypeId) (N : Nat) (σ : St) : Prop := σ.c ≤ N ∧ match σ.s t with
  | .ptr k 0 => (match σ.o k with
    | some (.box _ cs) => (match cs[j]? with
      | some (.own k2) => (match σ.o k2 with
        | some (.arr e' z' l) => (match zdat j l cs 0 with
          | some L => e' = e ∧ z' = z ∧ (l.all fun x => x.all D.flat) = true ∧ (∀ (i : Nat) (x : D), i ≠ j → L[i]? = some x → x.flat = true) ∧ L[j]? = some (.sl l) ∧ Tk P T = some true ∧ cs.length = P.cellsOf T ∧ P.cellsOf T ≠ 0 ∧ post (.dv (.ag L))
          | none => False)
        | _ => False)
      | some (.lit e' l) => (match zdat j l cs 0 with
        | some L => e' = e ∧ (l ≠ [] ∧ ∀ x ∈ l, x.length = z) ∧ (l.all fun x => x.all D.flat) = true ∧ (∀ (i : Nat) (x : D), i ≠ j → L[i]? = some x → x.flat = true) ∧ L[j]? = some (.sl l) ∧ Tk P T = some true ∧ cs.length = P.cellsOf T ∧ P.cellsOf T ≠ 0 ∧ post (.dv (.ag L))
        | none => False)
      | _ => False)
    | _ => False)
  | _ => False
end
end Go.Avc

namespace Go.Avc
open Go

theorem nr {α : Sort _} {a b : α} (h : a = b) : a = b := h
def W {α : Type} (x : α) : α := x
theorem W_eq {α : Type} (x : α) : W x = x := of_eq_true (eq_self x)
def AVk (v : Option (Prop × AV)) (k : AV → Prop) : Prop := match v with
  | some (p, x) => p ∧ k x
  | none => False
def GOk (g : Option GO) (c B : Nat) (k : Nat → AV → Prop) : Prop := match g with
  | some g => g.pre ∧ c + g.cost ≤ B ∧ ∀ r, g.post r → k g.cost r
  | none => False
def Cnd (v : AV) (A B : Prop) : Prop := match v with
  | .dv (.d (.bool b)) => (b = true → A) ∧ (b = false → B)
  | _ => False
def Gk (v : AV) (want : Bool) (A B : Prop) : Prop := match v with
  | .dv (.d (.bool b)) => (b = want → A) ∧ (b = !want → B)
  | .tnil => B
  | _ => False
def Sel (b : Bool) (X Y : Prop) : Prop := match b with
  | true => X
  | false => Y
def ZS (z : Option (List Nat × List Nat)) (A : Prop) (f : List Nat → List Nat → Prop) : Prop := match z with
  | none => A
  | some p => f p.1 p.2
def LK (l : List Oper) (k : List Oper → Prop) : Prop := k l
theorem ZS_congr {z z' : Option (List Nat × List Nat)} {A : Prop} {f : List Nat → List Nat → Prop} (h : Unit → z = z') : ZS z A f = ZS z' A f := by rw [h ()]
theorem LK_congr {l l' : List Oper} {k : List Oper → Prop} (h : Unit → l = l') : LK l k = LK l' k := by rw [h ()]
theorem ZS_none (A : Prop) (f : List Nat → List Nat → Prop) : ZS none A f = A := rfl
theorem ZS_some (x y : List Nat) (A : Prop) (f : List Nat → List Nat → Prop) : ZS (some (x, y)) A f = f x y := rfl
theorem LK_nil (k : List Oper → Prop) : LK [] k = k [] := rfl
theorem LK_cons (o : Oper) (l : List Oper) (k : List Oper → Prop) : LK (o :: l) k = k (o :: l) := rfl
theorem Sel_congr {b b' : Bool} {X Y : Prop} (h : Unit → b = b') : Sel b X Y = Sel b' X Y := by rw [h ()]
theorem Sel_t (X Y : Prop) : Sel true X Y = X := nr rfl
theorem Sel_f (X Y : Prop) : Sel false X Y = Y := nr rfl
theorem Sel_t' (X Y : Prop) : Sel true X Y = X := nr rfl
theorem Sel_f' (X Y : Prop) : Sel false X Y = Y := nr rfl
theorem SK_congr {v v' : Option (Prop × St)} {k : St → Prop} (h : Unit → v = v') : SK v k = SK v' k := by rw [h ()]
theorem SK_some (p : Prop) (x : St) (k : St → Prop) : SK (some (p, x)) k = (p ∧ k x) := nr rfl
theorem SK_true (x : St) (k : St → Prop) : SK (some (True, x)) k = k x := by simp [SK]
theorem SK_some' (p : Prop) (x : St) (k : St → Prop) : SK (some (p, x)) k = (p ∧ k x) := nr rfl
theorem SK_true' (x : St) (k : St → Prop) : SK (some (True, x)) k = k x := by simp [SK]
theorem SK_none (k : St → Prop) : SK none k = False := nr rfl
def sBox (cx : Cx) (σ : St) (T : TypeId) (x : Operand) (d : Option Tmp) : Option (Prop × St) := match d, cellsS σ (ev0 cx σ x) with
  | some d, some cs => some (True, σ.newOb d d (.ptr d 0) (.box T (cs.map (purgeA d))))
  | _, _ => none
def sAlloc (cx : Cx) (σ : St) (T : TypeId) (d : Option Tmp) : Option (Prop × St) := match d, TzeroA cx.P T with
  | some d, some cs => some (hasUn cs = false, σ.newOb d d (.ptr d 0) (.box T cs))
  | _, _ => none
def sMake (cx : Cx) (σ : St) (t : TypeId) (n m : Operand) (d : Option Tmp) : Option (Prop × St) := match d, cx.P.underlying t, ev cx σ n, ev cx σ m with
  | some d, some (.slice e), .dv (.d (.int _ n)), .dv (.d (.int _ m)) => match Tone cx.P e with
    | some (x, bytes) => some (n = m ∧ 0 ≤ n ∧ n ≤ 9223372036854775807 ∧ bytes * n.toNat ≤ 281474976710656, σ.newOb d d (.own d) (.arr e 1 (List.replicate n.toNat [x])))
    | none => none
  | _, _, _, _ => none
def sStore (cx : Cx) (σ : St) (t : TypeId) (p x : Operand) (d : Option Tmp) : Option (Prop × St) := match d, ev0 cx σ p with
  | none, .ptr k o => match σ.o k, cellsS σ (ev0 cx σ x) with
    | some (.box T cs), some ys => some (ys.length = cx.P.cellsOf t ∧ cx.P.cellsOf t ≠ 0 ∧ o + ys.length ≤ cs.length, ⟨σ.s, upd σ.o k (some (.box T (spl cs o ys))), σ.c⟩)
    | _, _ => none
  | none, .eptr k i z o => match σ.o k, ev cx σ x with
    | some (.arr e z' l), .dv y => some (y.cells.length = cx.P.cellsOf t ∧ cx.P.cellsOf t ≠ 0 ∧ z = z' ∧ i < l.length ∧ o + y.cells.length ≤ z, ⟨σ.s, upd σ.o k (some (.arr e z' (l.set i (spl (l.getD i (zRow cx.P e)) o y.cells)))), σ.c⟩)
    | _, _ => none
  | _, _ => none
def appRows (cx : Cx) (σ : St) (t u : TypeId) (x : Operand) : Option (List (List D)) := match cx.P.underlying u, toD σ (ev cx σ x) with
  | some (.slice _), .dv (.d (.sl ys)) => if t = u then some ys else none
  | _, _ => none
def sApp (cx : Cx) (σ : St) (t u : TypeId) (s x : Operand) (d : Option Tmp) : Option (Prop × St) := match d, cx.P.underlying t with
  | some d, some (.slice e) => match appRows cx σ t u x with
    | some ys => (match ev0 cx σ s with
      | .nil => some ((cx.P.cellsOf e ≠ 0 ∧ (match Tzero cx.P e with | some zl => zl.length = cx.P.cellsOf e | none => False) ∧ (∀ y ∈ ys, y.length = cx.P.cellsOf e)) ∧ ys.length * cx.P.bytesOf e ≤ 140737488355328 ∧ ys.length ≤ 9223372036854775807, σ.newOb d d (.own d) (.arr e (cx.P.cellsOf e) ys))
      | .own k => match σ.o k with
        | some (.arr e' z l) => some ((cx.P.cellsOf e ≠ 0 ∧ (match Tzero cx.P e with | some zl => zl.length = cx.P.cellsOf e | none => False) ∧ (∀ y ∈ ys, y.length = cx.P.cellsOf e)) ∧ e' = e ∧ z = cx.P.cellsOf e ∧ (l.length + ys.length) * cx.P.bytesOf e ≤ 140737488355328 ∧ l.length + ys.length ≤ 9223372036854775807, σ.newOb k d (.own k) (.arr e z (l ++ ys)))
        | _ => none
      | .lit _ l => some ((cx.P.cellsOf e ≠ 0 ∧ (match Tzero cx.P e with | some zl => zl.length = cx.P.cellsOf e | none => False) ∧ (∀ y ∈ ys, y.length = cx.P.cellsOf e)) ∧ ys ≠ [] ∧ (∀ y ∈ l, y.length = cx.P.cellsOf e) ∧ (l.length + ys.length) * cx.P.bytesOf e ≤ 140737488355328 ∧ l.length + ys.length ≤ 9223372036854775807, σ.newOb d d (.own d) (.arr e (cx.P.cellsOf e) (l ++ ys)))
      | _ => none)
    | none => none
  | _, _ => none
def sAppS (cx : Cx) (σ : St) (t : TypeId) (s x : Operand) (d : Option Tmp) : Option (Prop × St) := match d, cx.P.underlying t, ev cx σ x with
  | some d, some (.slice e), .dv (.d (.str b)) => (match ev0 cx σ s with
      | .nil => some (Tone cx.P e = some (.int .u8 0, 1) ∧ b.size ≤ 140737488355328, σ.newOb d d (.own d) (.arr e 1 (strRows b)))
      | .own k => match σ.o k with
        | some (.arr e' z l) => some (Tone cx.P e = some (.int .u8 0, 1) ∧ e' = e ∧ z = 1 ∧ l.length + b.size ≤ 140737488355328, σ.newOb k d (.own k) (.arr e 1 (l ++ strRows b)))
        | _ => none
      | .lit _ l => some (Tone cx.P e = some (.int .u8 0, 1) ∧ b.size ≠ 0 ∧ (∀ y ∈ l, y.length = 1) ∧ l.length + b.size ≤ 140737488355328, σ.newOb d d (.own d) (.arr e 1 (l ++ strRows b)))
      | _ => none)
  | _, _, _ => none
section
variable (cx : Cx) (σ : St) (t u : TypeId) (s x : Operand) (d : Option Tmp) (K : St → Prop)
theorem exBox_eq : exBox cx σ t x d K = SK (sBox cx σ t x d) K := by
  unfold exBox sBox
  cases d with
  | none => rfl
  | some d =>
    generalize cellsS σ (ev0 cx σ x) = A
    cases A with
    | none => rfl
    | some cs => exact (SK_true _ _).symm
theorem exAlloc_eq : exAlloc cx σ t d K = SK (sAlloc cx σ t d) K := by
  unfold exAlloc sAlloc
  cases d with
  | none => rfl
  | some d =>
    generalize TzeroA cx.P t = A
    cases A with
    | none => rfl
    | some cs => rfl
theorem exMake_eq : exMake cx σ t s x d K = SK (sMake cx σ t s x d) K := by
  unfold exMake sMake
  generalize cx.P.underlying t = U
  generalize ev cx σ s = A
  generalize ev cx σ x = C
  cases d with
  | none => rfl
  | some d =>
    cases U with
    | none => rfl
    | some U =>
      cases U <;> try rfl
      cases A <;> try rfl
      rename_i y
      cases y <;> try rfl
      rename_i y
      cases y <;> try rfl
      cases C <;> try rfl
      rename_i y
      cases y <;> try rfl
      rename_i y
      cases y <;> try rfl
      rename_i e _ _ _ _
      simp only
      generalize Tone cx.P e = T
      cases T with
      | none => rfl
      | some q => simp only [SK, and_assoc]
theorem exStore_eq : exStore cx σ t s x d K = SK (sStore cx σ t s x d) K := by
  unfold exStore sStore
  generalize ev0 cx σ s = A
  cases d with
  | some d => rfl
  | none =>
    cases A <;> try rfl
    · rename_i k o
      simp only
      generalize σ.o k = O
      generalize cellsS σ (ev0 cx σ x) = C
      cases O with
      | none => rfl
      | some O =>
        cases O with
        | arr e z l => rfl
        | bld T k => rfl
        | mp T l => rfl
        | box T cs =>
          cases C with
          | none => rfl
          | some ys => simp only [SK, and_assoc]
    · rename_i k i z o
      simp only
      generalize σ.o k = O
      generalize ev cx σ x = C
      cases O with
      | none => rfl
      | some O =>
        cases O with
        | box T cs => rfl
        | bld T k => rfl
        | mp T l => rfl
        | arr e z l =>
          cases C <;> try rfl
          simp only [SK, and_assoc]
theorem exAppend_eq : exAppend cx σ t u s x d K = SK (sApp cx σ t u s x d) K := by
  unfold exAppend sApp
  generalize cx.P.underlying t = U
  cases d with
  | none => rfl
  | some d =>
    cases U with
    | none => rfl
    | some U =>
      cases U <;> try rfl
      rename_i e
      show (match appRows cx σ t u x with | some ys => _ | none => False) = _
      simp only
      generalize appRows cx σ t u x = R
      cases R with
      | none => rfl
      | some ys =>
        simp only
        generalize ev0 cx σ s = A
        cases A with
        | nil => (simp only [SK, and_assoc]; rfl)
        | lit _ l => (simp only [SK, and_assoc]; rfl)
        | own k =>
          simp only
          generalize σ.o k = O
          cases O with
          | none => simp [SK]
          | some O =>
            cases O with
            | box T cs => simp [SK]
            | bld T k => simp [SK]
            | mp T l => simp [SK]
            | arr e' z l => (simp only [SK, and_assoc]; rfl)
        | _ => simp [SK]
theorem exAppS_eq : exAppS cx σ t s x d K = SK (sAppS cx σ t s x d) K := by
  unfold exAppS sAppS
  generalize cx.P.underlying t = U
  generalize ev cx σ x = C
  cases d with
  | none => rfl
  | some d =>
    cases U with
    | none => rfl
    | some U =>
      cases U <;> try rfl
      cases C <;> try rfl
      rename_i y
      cases y <;> try rfl
      rename_i y
      cases y <;> try rfl
      simp only
      generalize ev0 cx σ s = A
      cases A with
      | nil => simp only [SK, and_assoc]
      | lit _ l => simp only [SK, and_assoc]
      | own k =>
        simp only
        generalize σ.o k = O
        cases O with
        | none => simp [SK]
        | some O =>
          cases O with
          | box T cs => simp [SK]
          | bld T k => simp [SK]
          | mp T l => simp [SK]
          | arr e' z l => simp only [SK, and_assoc]
      | _ => simp [SK]
end
/-- All answers that a call may give. -/
def AllR (q : AV → Prop) (k : AV → Prop) : Prop := ∀ r, q r → k r
theorem AllR_congr {q q' : AV → Prop} {k : AV → Prop} (h : Unit → q = q') : AllR q k = AllR q' k := by rw [h ()]
theorem AllR_eq (x : AV) (k : AV → Prop) : AllR (fun r => r = x) k = k x := by simp [AllR]
theorem AllR_eq' (x : AV) (k : AV → Prop) : AllR (fun r => x = r) k = k x := by simp [AllR]
theorem AllR_q (x : AV) (k : AV → Prop) : AllR (fun r => r = x) k = k x := by simp [AllR]
theorem AllR_and (p : Prop) (q : AV → Prop) (k : AV → Prop) : AllR (fun r => p ∧ q r) k = (p → AllR q k) := by
  apply propext; simp only [AllR, and_imp]; exact ⟨fun h hp r hr => h r hp hr, fun h r hp hr => h hp r hr⟩
theorem AllR_ex {α : Type} (q : α → AV → Prop) (k : AV → Prop) : AllR (fun r => ∃ a, q a r) k = ∀ a, AllR (q a) k := by
  apply propext; simp only [AllR, forall_exists_index]; exact ⟨fun h a r hr => h r a hr, fun h r a hr => h a r hr⟩
theorem AllR_and' (p : Prop) (q : AV → Prop) (k : AV → Prop) : AllR (fun r => p ∧ q r) k = (p → AllR q k) := AllR_and ..
theorem AllR_ex' {α : Type} (q : α → AV → Prop) (k : AV → Prop) : AllR (fun r => ∃ a, q a r) k = ∀ a, AllR (q a) k := AllR_ex ..
def vBuildS (cx : Cx) (σ : St) (t : TypeId) (n : Nat) (parts : Array (Nat × Operand)) : Option (Prop × AV) := match cx.P.underlying t, argsD cx σ parts.toList with
  | some (.slice e), some ps => match Tzero cx.P e with
    | some z => if noOwn cx σ parts.toList && idxOk 0 ps && (ps.length == n) && decide (n * cx.P.cellsOf e ≤ 16777216) && (z.length == cx.P.cellsOf e) && (cx.P.cellsOf e != 0) then
        some (∀ p ∈ ps, p.2.cells.length = cx.P.cellsOf e, .lit e (ps.map fun p => p.2.cells)) else none
    | none => none
  | _, _ => none
theorem gBuildS_eq (cx : Cx) (σ : St) (t : TypeId) (n : Nat) (parts : Array (Nat × Operand)) : gBuildS cx σ t n parts = lift (vBuildS cx σ t n parts) := by
  unfold gBuildS vBuildS
  generalize cx.P.underlying t = U
  generalize argsD cx σ parts.toList = A
  cases U with
  | none => rfl
  | some U =>
    cases U <;> try rfl
    cases A with
    | none => rfl
    | some ps =>
      rename_i e
      simp only
      generalize Tzero cx.P e = Z
      cases Z with
      | none => rfl
      | some z =>
        simp only
        split <;> rfl
def purS (d : Nat) (S : Nat → AV) : Nat → AV := fun t => purgeA d (S t)
def delO (d : Nat) (O : Nat → Option Ob) : Nat → Option Ob := fun k => if k = d then none else (O k).map (purgeO d)
def noO : Nat → Option Ob := fun _ => none
def argS (l : List AV) : Nat → AV := fun t => l.getD t .un

section
variable (cx : Cx) (E : Env) (B n : Nat) (ops : Array Oper) (K : St → Prop) (r : List Oper) (σ σ' : St) (d : Option Tmp) (ty : TypeId) (pos : String) (af : Array Edge) (S : Nat → AV) (O : Nat → Option Ob) (c : Nat)

theorem AVk_congr {v v' : Option (Prop × AV)} {k : AV → Prop} (h : Unit → v = v') : AVk v k = AVk v' k := by rw [h ()]
theorem GOk_congr {v v' : Option GO} {c B : Nat} {k : Nat → AV → Prop} (h : Unit → v = v') : GOk v c B k = GOk v' c B k := by rw [h ()]
theorem Cnd_congr {v v' : AV} {X Y : Prop} (h : Unit → v = v') : Cnd v X Y = Cnd v' X Y := by rw [h ()]
theorem Gk_congr {v v' : AV} {b : Bool} {X Y : Prop} (h : Unit → v = v') : Gk v b X Y = Gk v' b X Y := by rw [h ()]
theorem vcL_congr {cx : Cx} {E : Env} {B : Nat} {ops : Array Oper} {K : St → Prop} {r : List Oper} {σ σ' : St} (h : Unit → σ = σ') : vcL cx E B ops K r σ = vcL cx E B ops K r σ' := by rw [h ()]
theorem vcH_congr {cx : Cx} {E : Env} {B : Nat} {ops : Array Oper} {K : St → Prop} {r : List Oper} {σ σ' : St} (h : Unit → σ = σ') : vcH cx E B ops K r σ = vcH cx E B ops K r σ' := by rw [h ()]
theorem vc_congr {X : Vx} {c : Code} {Kn Kr : St → Prop} {Kx : Nat → St → Prop} {σ σ' : St} (h : Unit → σ = σ') : vc X c Kn Kr Kx σ = vc X c Kn Kr Kx σ' := by rw [h ()]

theorem AVk_some (p : Prop) (x : AV) (k : AV → Prop) : AVk (some (p, x)) k = (p ∧ k x) := nr rfl
theorem AVk_true (x : AV) (k : AV → Prop) : AVk (some (True, x)) k = k x := by simp [AVk]
theorem AVk_none (k : AV → Prop) : AVk none k = False := nr rfl
theorem AVk_some' (p : Prop) (x : AV) (k : AV → Prop) : AVk (some (p, x)) k = (p ∧ k x) := nr rfl
theorem AVk_true' (x : AV) (k : AV → Prop) : AVk (some (True, x)) k = k x := by simp [AVk]
theorem AVk_none' (k : AV → Prop) : AVk none k = False := nr rfl
theorem Cnd_bool' (b : Bool) (X Y : Prop) : Cnd (.dv (.d (.bool b))) X Y = ((b = true → X) ∧ (b = false → Y)) := nr rfl
theorem Gk_bool_t' (b : Bool) (X Y : Prop) : Gk (.dv (.d (.bool b))) true X Y = ((b = true → X) ∧ (b = false → Y)) := nr rfl
theorem Gk_bool_f' (b : Bool) (X Y : Prop) : Gk (.dv (.d (.bool b))) false X Y = ((b = false → X) ∧ (b = true → Y)) := nr rfl
theorem Gk_tnil' (w : Bool) (X Y : Prop) : Gk .tnil w X Y = Y := nr rfl
theorem GOk_some (p : Prop) (q : AV → Prop) (n c B : Nat) (k : Nat → AV → Prop) : GOk (some ⟨p, q, n⟩) c B k = (p ∧ c + n ≤ B ∧ AllR q (k n)) := rfl
theorem OwnK_congr {v v' : Option (Spec × TypeId × Nat)} {x : AV} {k : TypeId → Nat → DV → Prop} (h : Unit → v = v') : OwnK v x k = OwnK v' x k := by rw [h ()]
theorem OwnK_some (sp : Spec) (e : TypeId) (z : Nat) (x : DV) (k : TypeId → Nat → DV → Prop) : OwnK (some (sp, e, z)) (.dv x) k = k e z x := nr rfl
theorem owD_some (d : Nat) (u : AV) (e : TypeId) (z : Nat) (l : List (List D)) (hz : z < 1000000) : owD σ (some d) u e z (.d (.sl l)) = σ.newOb d d (.own d) (.arr e z l) := by
  unfold owD
  rw [if_neg (by omega), if_neg (by omega)]
  rfl
theorem owD_ag (d : Nat) (u : AV) (e : TypeId) (z : Nat) (L : List D) (hz : z < 1000000) : owD σ (some d) u e z (.ag L) = match L[z / 1000 - 1]? with
    | some (.sl l) => σ.newOb d d (.ago L (z / 1000 - 1) d) (.arr e (z % 1000) l)
    | _ => σ := by
  unfold owD
  rw [if_neg (by omega), if_neg (by omega)]
  rfl
theorem owD_none (u : AV) (e : TypeId) (z : Nat) (x : DV) (hz : z < 1000000) : owD σ none u e z x = σ := by
  unfold owD
  rw [if_neg (by omega), if_neg (by omega)]
  cases x <;> rfl
theorem owD_mu (d : Option Tmp) (k : Nat) (e : TypeId) (z : Nat) (l : List (List D)) (hz : 1000000 ≤ z ∧ z < 2000000) : owD ⟨S, O, c⟩ d (.own k) e z (.d (.sl l)) = St.put ⟨S, upd O k (some (.arr e (z - 1000000) l)), c⟩ d .tnil := by
  unfold owD
  rw [if_neg (by omega), if_pos hz.1]
  rfl
theorem owD_co (d k : Nat) (e : TypeId) (z : Nat) (l : List (List D)) (hz : 2000000 ≤ z) : owD σ (some d) (.own k) e z (.d (.sl l)) = σ.newOb k d (.own k) (.arr e (z - 2000000) l) := by
  unfold owD
  rw [if_pos hz]
  rfl
theorem muA_cons (s : Operand) (r : List Operand) : muA cx σ (s :: r) = ev0 cx σ s := nr rfl
theorem GOk_none (c B : Nat) (k : Nat → AV → Prop) : GOk none c B k = False := nr rfl
theorem Cnd_bool (b : Bool) (X Y : Prop) : Cnd (.dv (.d (.bool b))) X Y = ((b = true → X) ∧ (b = false → Y)) := nr rfl
theorem Gk_bool_t (b : Bool) (X Y : Prop) : Gk (.dv (.d (.bool b))) true X Y = ((b = true → X) ∧ (b = false → Y)) := nr rfl
theorem Gk_bool_f (b : Bool) (X Y : Prop) : Gk (.dv (.d (.bool b))) false X Y = ((b = false → X) ∧ (b = true → Y)) := nr rfl
theorem Gk_1 (X Y : Prop) : Gk (.dv (.d (.bool true))) true X Y = X := by simp [Gk]
theorem Gk_2 (X Y : Prop) : Gk (.dv (.d (.bool false))) false X Y = X := by simp [Gk]
theorem Gk_3 (X Y : Prop) : Gk (.dv (.d (.bool true))) false X Y = Y := by simp [Gk]
theorem Gk_4 (X Y : Prop) : Gk (.dv (.d (.bool false))) true X Y = Y := by simp [Gk]
theorem Cnd_1 (X Y : Prop) : Cnd (.dv (.d (.bool true))) X Y = X := by simp [Cnd]
theorem Cnd_2 (X Y : Prop) : Cnd (.dv (.d (.bool false))) X Y = Y := by simp [Cnd]
theorem Gk_1' (X Y : Prop) : Gk (.dv (.d (.bool true))) true X Y = X := by simp [Gk]
theorem Gk_2' (X Y : Prop) : Gk (.dv (.d (.bool false))) false X Y = X := by simp [Gk]
theorem Gk_3' (X Y : Prop) : Gk (.dv (.d (.bool true))) false X Y = Y := by simp [Gk]
theorem Gk_4' (X Y : Prop) : Gk (.dv (.d (.bool false))) true X Y = Y := by simp [Gk]
theorem Cnd_1' (X Y : Prop) : Cnd (.dv (.d (.bool true))) X Y = X := by simp [Cnd]
theorem Cnd_2' (X Y : Prop) : Cnd (.dv (.d (.bool false))) X Y = Y := by simp [Cnd]
theorem Gk_tnil (w : Bool) (X Y : Prop) : Gk .tnil w X Y = Y := nr rfl

theorem put_mk (d : Nat) (x : AV) : St.put ⟨S, O, c⟩ (some d) x = ⟨upd S d x, O, c⟩ := of_eq_true (eq_self _)
theorem put_none (x : AV) : St.put σ none x = σ := of_eq_true (eq_self _)
theorem newOb_mk (d e : Nat) (x : AV) (ob : Ob) : St.newOb ⟨S, O, c⟩ d e x ob = ⟨upd (purS d S) e x, upd (delO d O) d (some ob), c⟩ := of_eq_true (eq_self _)
theorem purS_at (d t : Nat) : purS d S t = purgeA d (S t) := nr rfl
theorem delO_at (d t : Nat) : delO d O t = if t = d then none else (O t).map (purgeO d) := nr rfl
theorem newO_mk (k : Nat) (ob : Ob) : St.newO ⟨S, O, c⟩ k ob = ⟨purS k S, upd (delO k O) k (some ob), c⟩ := of_eq_true (eq_self _)
theorem wrB_mk (k k' : Nat) (l : List (List D)) : St.wrB ⟨S, O, c⟩ k k' l = ⟨purS k' S, upd (upd (delO k' O) k' (some (.arr bE 1 l))) k (some (.bld bT k')), c⟩ := of_eq_true (eq_self _)
theorem swap_mk (d t : Nat) : St.swap ⟨S, O, c⟩ d t = ⟨swS d t S, swP d t O, c⟩ := of_eq_true (eq_self _)
theorem swS_at (d t u : Nat) : swS d t S u = swA d t (S u) := nr rfl
theorem swP_at (d t u : Nat) : swP d t O u = (O (swN d t u)).map (swO d t) := nr rfl
theorem noO_at (t : Nat) : noO t = none := nr rfl
theorem argS_zero (x : AV) (l : List AV) : argS (x :: l) 0 = x := nr rfl
theorem argS_succ (x : AV) (l : List AV) (t : Nat) : argS (x :: l) (t + 1) = argS l t := nr rfl
theorem argS_nil (t : Nat) : argS [] t = .un := nr rfl
theorem init_mk (l : List AV) : init l = ⟨argS l, noO, 0⟩ := of_eq_true (eq_self _)
theorem trim_mk (l : List Nat) : St.trim ⟨S, O, c⟩ l = ⟨lk .un (trimL l S), O, c⟩ := of_eq_true (eq_self _)
theorem Sh_mk (s : List (Nat × AV)) (o : List (Nat × Ob)) (c : Nat) : Sh.st ⟨s, o, c⟩ = ⟨lk .un s, lkO o, c⟩ := of_eq_true (eq_self _)
theorem lk_cons (t u : Nat) (x : AV) (l : List (Nat × AV)) : lk AV.un ((u, x) :: l) t = if t = u then x else lk .un l t := nr rfl
theorem lk_nil (t : Nat) : lk AV.un [] t = .un := nr rfl
theorem lkO_cons (t u : Nat) (x : Ob) (l : List (Nat × Ob)) : lkO ((u, x) :: l) t = if t = u then some x else lkO l t := nr rfl
theorem lkO_nil (t : Nat) : lkO [] t = none := nr rfl
theorem trimL_cons (t : Nat) (l : List Nat) : trimL (t :: l) S = (t, S t) :: trimL l S := nr rfl
theorem trimL_nil : trimL [] S = [] := nr rfl
theorem ev0_tmp (t : Tmp) : ev0 cx ⟨S, O, c⟩ (.tmp t) = S t := nr rfl
theorem ev0_const (v : Value) : ev0 cx σ (.const v) = cv v := nr rfl
theorem ev0_func (f : FuncId) : ev0 cx σ (.func f) = .fn f [] := nr rfl
theorem ev0_global (g : Nat) : ev0 cx σ (.global g) = match cx.glob g with
    | some l => .dp l
    | none => .un := nr rfl
theorem ev_def (x : Operand) : ev cx σ x = nrm (ev0 cx σ x) := nr rfl

theorem L_nil : vcL cx E B ops K [] σ = K σ := nr rfl
theorem L_guard0 (o : Op) (g : Nat) (want : Bool) : vcL cx E B ops K (⟨d, o, ty, pos, af, some (g, want)⟩ :: r) σ = match (ops[g]?).bind (·.dst) with
    | some t => Gk (σ.s t) want (vcL cx E B ops K (⟨d, o, ty, pos, af, none⟩ :: r) σ) (vcL cx E B ops K r (σ.put d .tnil))
    | none => vcL cx E B ops K r (σ.put d .tnil) := by
  apply propext
  simp only [vcL, vcOp, guardA, ex]
  split
  · rename_i h; split at h
    · cases h
    · rename_i t e
      simp only [e]
      split at h
      · cases h
      · cases h
      · rename_i h1 h2
        unfold Gk
        split
        · rename_i b e2; exact absurd e2 (h1 b)
        · rename_i e2; exact absurd e2 h2
        · exact Iff.rfl
  · rename_i h; split at h
    · cases h
    · rename_i t e
      simp only [e]
      split at h
      · rename_i b e2
        simp only [Option.some.injEq, beq_iff_eq] at h
        subst h
        rw [e2]
        unfold Gk
        cases b <;> simp <;> exact Iff.rfl
      · cases h
      · cases h
  · rename_i h; split at h
    · rename_i e
      simp only [e]
    · rename_i t e
      simp only [e]
      split at h
      · rename_i b e2
        simp only [Option.some.injEq, beq_eq_false_iff_ne, ne_eq] at h
        rw [e2]
        unfold Gk
        cases b <;> cases want <;> simp_all
      · rename_i e2
        rw [e2]
        exact Iff.rfl
      · cases h


theorem put_same {σ : St} {t : Nat} {x : AV} (h : σ.s t = x) : σ.put (some t) x = σ := by
  obtain ⟨S, O, c⟩ := σ
  show (⟨upd S t x, O, c⟩ : St) = _
  congr 1
  funext u
  rw [upd_apply]
  split
  · rename_i e; rw [e]; exact h.symm
  · rfl
theorem L_guard (o : Op) (g : Nat) (want : Bool) : vcL cx E B ops K (⟨d, o, ty, pos, af, some (g, want)⟩ :: r) σ = match (ops[g]?).bind (·.dst) with
    | some t => Gk (W (σ.s t)) want (vcL cx E B ops K (⟨d, o, ty, pos, af, none⟩ :: r) (σ.put (some t) (.b want))) (vcL cx E B ops K r ((match σ.s t with
      | .dv _ => σ.put (some t) (.b (!want))
      | _ => σ).put d .tnil))
    | none => vcL cx E B ops K r (σ.put d .tnil) := by
  rw [L_guard0]
  split
  · rename_i t _
    generalize hx : σ.s t = x
    cases x with
    | dv y =>
      cases y with
      | ag l => rfl
      | d y =>
        cases y with
        | bool b =>
          apply propext
          cases b <;> cases want <;> simp only [Gk, W_eq, Bool.not_true, Bool.not_false, forall_const, true_and, and_true, reduceCtorEq, false_implies, put_same hx]
        | _ => rfl
    | _ => rfl
  · rfl

theorem L_gop {o : Op} (hs : isS o = false) : vcL cx E B ops K (⟨d, o, ty, pos, af, none⟩ :: r) σ = GOk (gop cx E σ ⟨d, o, ty, pos, af, none⟩) σ.c B fun k x => vcL cx E B ops K r ({ σ with c := σ.c + k }.put d x) := by
  apply propext
  simp only [vcL]
  rw [vcOp_G hs]
  simp only [guardA, true_and, Option.some.injEq, reduceCtorEq, false_and, or_false]
  unfold exG GOk
  cases gop cx E σ ⟨d, o, ty, pos, af, none⟩ <;> exact Iff.rfl
theorem L_lift {o : Op} {v : Option (Prop × AV)} (hs : isS o = false) (h : gop cx E σ ⟨d, o, ty, pos, af, none⟩ = lift v) : vcL cx E B ops K (⟨d, o, ty, pos, af, none⟩ :: r) σ = (σ.c ≤ B ∧ AVk v fun x => vcL cx E B ops K r (σ.put d x)) := by
  apply propext
  rw [L_gop _ _ _ _ _ _ _ _ _ _ _ hs, h]
  unfold lift GOk AVk
  cases v with
  | none => simp
  | some q =>
    obtain ⟨p, x⟩ := q
    simp only [Nat.add_zero, forall_eq]
    exact ⟨fun h => ⟨h.2.1, h.1, h.2.2⟩, fun h => ⟨h.2.1, h.1, h.2.2⟩⟩

theorem L_move (x : Operand) : vcL cx E B ops K (⟨d, .move x, ty, pos, af, none⟩ :: r) σ = (σ.c ≤ B ∧ vcL cx E B ops K r (σ.put d (ev0 cx σ x))) := by
  rw [L_lift _ _ _ _ _ _ _ _ _ _ _ (v := vMove cx σ x) rfl rfl]; simp [vMove, AVk]
theorem L_assign (x : Operand) : vcL cx E B ops K (⟨d, .assign x, ty, pos, af, none⟩ :: r) σ = (σ.c ≤ B ∧ vcL cx E B ops K r (σ.put d (ev0 cx σ x))) := by
  rw [L_lift _ _ _ _ _ _ _ _ _ _ _ (v := vMove cx σ x) rfl rfl]; simp [vMove, AVk]
theorem L_pick (x y z : Operand) : vcL cx E B ops K (⟨d, .pick x y z, ty, pos, af, none⟩ :: r) σ = (σ.c ≤ B ∧ AVk (W <| vPick cx σ x y z) fun v => vcL cx E B ops K r (σ.put d v)) := L_lift _ _ _ _ _ _ _ _ _ _ _ rfl rfl
theorem L_nilCheck (x : Operand) : vcL cx E B ops K (⟨d, .nilCheck x, ty, pos, af, none⟩ :: r) σ = (σ.c ≤ B ∧ AVk (W <| vNil cx σ x) fun v => vcL cx E B ops K r (σ.put d v)) := L_lift _ _ _ _ _ _ _ _ _ _ _ rfl rfl
theorem L_bin (op : BinOp) (t u : TypeId) (x y : Operand) : vcL cx E B ops K (⟨d, .binOp op t x y u, ty, pos, af, none⟩ :: r) σ = (σ.c ≤ B ∧ AVk (W <| vBin cx σ op t x y) fun v => vcL cx E B ops K r (σ.put d v)) := L_lift _ _ _ _ _ _ _ _ _ _ _ rfl rfl
theorem L_un (op : UnOp) (t : TypeId) (x : Operand) : vcL cx E B ops K (⟨d, .unOp op t x, ty, pos, af, none⟩ :: r) σ = (σ.c ≤ B ∧ AVk (W <| vUn cx σ op x) fun v => vcL cx E B ops K r (σ.put d v)) := L_lift _ _ _ _ _ _ _ _ _ _ _ rfl rfl
theorem L_conv (s t : TypeId) (x : Operand) : vcL cx E B ops K (⟨d, .convert s t x, ty, pos, af, none⟩ :: r) σ = (σ.c ≤ B ∧ AVk (W <| vConv cx σ s t x) fun v => vcL cx E B ops K r (σ.put d v)) := L_lift _ _ _ _ _ _ _ _ _ _ _ rfl rfl
theorem L_field (t : TypeId) (x : Operand) (j : Nat) : vcL cx E B ops K (⟨d, .field t x j, ty, pos, af, none⟩ :: r) σ = (σ.c ≤ B ∧ AVk (W <| vField cx σ t x j) fun v => vcL cx E B ops K r (σ.put d v)) := L_lift _ _ _ _ _ _ _ _ _ _ _ rfl rfl
theorem L_faddr (t : TypeId) (x : Operand) (j : Nat) : vcL cx E B ops K (⟨d, .fieldAddr t x j, ty, pos, af, none⟩ :: r) σ = (σ.c ≤ B ∧ AVk (W <| vFaddr cx σ t x j) fun v => vcL cx E B ops K r (σ.put d v)) := L_lift _ _ _ _ _ _ _ _ _ _ _ rfl rfl
theorem L_index (t : TypeId) (x i : Operand) : vcL cx E B ops K (⟨d, .index t x i, ty, pos, af, none⟩ :: r) σ = (σ.c ≤ B ∧ AVk (W <| vIndex cx σ t x i) fun v => vcL cx E B ops K r (σ.put d v)) := L_lift _ _ _ _ _ _ _ _ _ _ _ rfl rfl
theorem L_idxA (t : TypeId) (x i : Operand) : vcL cx E B ops K (⟨d, .indexAddr t x i, ty, pos, af, none⟩ :: r) σ = (σ.c ≤ B ∧ AVk (W <| vIdxA cx σ t x i) fun v => vcL cx E B ops K r (σ.put d v)) := L_lift _ _ _ _ _ _ _ _ _ _ _ rfl rfl
theorem L_load (t : TypeId) (x : Operand) : vcL cx E B ops K (⟨d, .load t x, ty, pos, af, none⟩ :: r) σ = (σ.c ≤ B ∧ AVk (W <| vLoad cx σ t x) fun v => vcL cx E B ops K r (σ.put d v)) := L_lift _ _ _ _ _ _ _ _ _ _ _ rfl rfl
theorem L_extract (x : Operand) (i : Nat) : vcL cx E B ops K (⟨d, .extract x i, ty, pos, af, none⟩ :: r) σ = (σ.c ≤ B ∧ AVk (W <| vExtract cx σ x i) fun v => vcL cx E B ops K r (σ.put d v)) := L_lift _ _ _ _ _ _ _ _ _ _ _ rfl rfl
theorem L_build (t : TypeId) (ps : Array (Nat × Operand)) : vcL cx E B ops K (⟨d, .build t ps, ty, pos, af, none⟩ :: r) σ = (σ.c ≤ B ∧ AVk (W <| vBuild cx σ t ps) fun v => vcL cx E B ops K r (σ.put d v)) := L_lift _ _ _ _ _ _ _ _ _ _ _ rfl rfl
theorem L_slice (t : TypeId) (x : Operand) (lo hi : Option Operand) : vcL cx E B ops K (⟨d, .slice t x lo hi none, ty, pos, af, none⟩ :: r) σ = (σ.c ≤ B ∧ AVk (W <| vSlice cx σ t x lo hi) fun v => vcL cx E B ops K r (σ.put d v)) := L_lift _ _ _ _ _ _ _ _ _ _ _ rfl rfl
theorem L_func (f : FuncId) (caps : Array Operand) : vcL cx E B ops K (⟨d, .makeFunc (.func f) #[] caps, ty, pos, af, none⟩ :: r) σ = (σ.c ≤ B ∧ AVk (W <| vFunc cx σ f caps) fun v => vcL cx E B ops K r (σ.put d v)) := L_lift _ _ _ _ _ _ _ _ _ _ _ rfl rfl
theorem L_buildS (t : TypeId) (m : Nat) (ps : Array (Nat × Operand)) : vcL cx E B ops K (⟨d, .buildSlice t m ps, ty, pos, af, none⟩ :: r) σ = (σ.c ≤ B ∧ AVk (W <| vBuildS cx σ t m ps) fun v => vcL cx E B ops K r (σ.put d v)) := L_lift _ _ _ _ _ _ _ _ _ _ _ rfl (by rw [W_eq, ← gBuildS_eq]; rfl)
theorem L_callT (f : Tmp) (args : Array Operand) (ts : Array TypeId) : vcL cx E B ops K (⟨d, .call ⟨.value (.tmp f), args, ts⟩, ty, pos, af, none⟩ :: r) σ = GOk (W <| gCall cx E σ (.tmp f) args) σ.c B fun k x => vcL cx E B ops K r ({ σ with c := σ.c + k }.put d x) := L_gop _ _ _ _ _ _ _ _ _ _ _ rfl
theorem L_call (f : FuncId) (args : Array Operand) (ts : Array TypeId) : vcL cx E B ops K (⟨d, .call ⟨.value (.func f), args, ts⟩, ty, pos, af, none⟩ :: r) σ = Sel (W (bF f)) (SK (W <| sBld cx σ f args.toList d) (vcL cx E B ops K r)) (Sel (W (oF f)) (GOk (W <| gOwn cx E σ f args) σ.c B fun k x => OwnK (W (E.Ω f)) x fun e z x => vcL cx E B ops K r (owD { σ with c := σ.c + k } d (muA cx σ args.toList) e z x)) (GOk (W <| gCall cx E σ (.func f) args) σ.c B fun k x => vcL cx E B ops K r ({ σ with c := σ.c + k }.put d x))) := by
  rw [W_eq]
  cases hb : bF f with
  | false =>
    rw [W_eq]
    cases ho : oF f with
    | false => exact L_gop _ _ _ _ _ _ _ _ _ _ _ (by simp only [isS, hb, ho, Bool.or_false])
    | true =>
      simp only [W_eq, vcL, vcOp, guardA, ex, isS, exS, hb, ho, Bool.false_or, if_true, Bool.false_eq_true, if_false, Sel]
      unfold exO GOk
      cases gOwn cx E σ f args <;> rfl
  | true =>
    rw [W_eq]
    simp only [vcL, vcOp, guardA, ex, isS, exS, hb, Bool.true_or, if_true, Sel]
theorem L_len (x : Operand) (t : TypeId) : vcL cx E B ops K (⟨d, .call ⟨.builtin .len, #[x], #[t]⟩, ty, pos, af, none⟩ :: r) σ = (σ.c ≤ B ∧ AVk (W <| vLen cx σ t x) fun v => vcL cx E B ops K r (σ.put d v)) := L_lift _ _ _ _ _ _ _ _ _ _ _ rfl rfl
theorem L_max (x y : Operand) (ts : Array TypeId) : vcL cx E B ops K (⟨d, .call ⟨.builtin .max, #[x, y], ts⟩, ty, pos, af, none⟩ :: r) σ = (σ.c ≤ B ∧ AVk (W <| vMax cx σ x y) fun v => vcL cx E B ops K r (σ.put d v)) := L_lift _ _ _ _ _ _ _ _ _ _ _ rfl rfl
theorem L_min (x y : Operand) (ts : Array TypeId) : vcL cx E B ops K (⟨d, .call ⟨.builtin .min, #[x, y], ts⟩, ty, pos, af, none⟩ :: r) σ = (σ.c ≤ B ∧ AVk (W <| vMin cx σ x y) fun v => vcL cx E B ops K r (σ.put d v)) := L_lift _ _ _ _ _ _ _ _ _ _ _ rfl rfl
theorem L_look (t : TypeId) (x i : Operand) (ok : Bool) : vcL cx E B ops K (⟨d, .lookup t x i ok, ty, pos, af, none⟩ :: r) σ = (σ.c ≤ B ∧ AVk (W <| vLook cx σ t x i ok) fun v => vcL cx E B ops K r (σ.put d v)) := L_lift _ _ _ _ _ _ _ _ _ _ _ rfl rfl
theorem L_min3 (x y z : Operand) (ts : Array TypeId) : vcL cx E B ops K (⟨d, .call ⟨.builtin .min, #[x, y, z], ts⟩, ty, pos, af, none⟩ :: r) σ = (σ.c ≤ B ∧ AVk (W <| vMin3 cx σ x y z) fun v => vcL cx E B ops K r (σ.put d v)) := L_lift _ _ _ _ _ _ _ _ _ _ _ rfl rfl
theorem L_max3 (x y z : Operand) (ts : Array TypeId) : vcL cx E B ops K (⟨d, .call ⟨.builtin .max, #[x, y, z], ts⟩, ty, pos, af, none⟩ :: r) σ = (σ.c ≤ B ∧ AVk (W <| vMax3 cx σ x y z) fun v => vcL cx E B ops K r (σ.put d v)) := L_lift _ _ _ _ _ _ _ _ _ _ _ rfl rfl
theorem L_box (T : TypeId) (x : Operand) : vcL cx E B ops K (⟨d, .box T x, ty, pos, af, none⟩ :: r) σ = SK (W <| sBox cx σ T x d) (vcL cx E B ops K r) := by
  rw [W_eq, ← exBox_eq]; simp only [vcL, vcOp, guardA, ex, isS, exS, if_true]
theorem L_alloc (T : TypeId) : vcL cx E B ops K (⟨d, .alloc T, ty, pos, af, none⟩ :: r) σ = SK (W <| if T = bT then sAllocB σ d else sAlloc cx σ T d) (vcL cx E B ops K r) := by
  rw [W_eq]
  by_cases h : T = bT
  · rw [if_pos h]; simp only [vcL, vcOp, guardA, ex, isS, exS, if_true, if_pos h]
  · rw [if_neg h, ← exAlloc_eq]; simp only [vcL, vcOp, guardA, ex, isS, exS, if_true, if_neg h]
theorem L_makeS (t : TypeId) (m k : Operand) : vcL cx E B ops K (⟨d, .makeSlice t m k, ty, pos, af, none⟩ :: r) σ = SK (W <| sMake cx σ t m k d) (vcL cx E B ops K r) := by
  rw [W_eq, ← exMake_eq]; simp only [vcL, vcOp, guardA, ex, isS, exS, if_true]
theorem L_makeM (t : TypeId) : vcL cx E B ops K (⟨d, .makeMap t none, ty, pos, af, none⟩ :: r) σ = SK (W <| sMM cx σ t d) (vcL cx E B ops K r) := by
  rw [W_eq]; simp only [vcL, vcOp, guardA, ex, isS, exS, if_true]
theorem L_mapU (t : TypeId) (m k x : Operand) : vcL cx E B ops K (⟨d, .mapUpdate t m k x, ty, pos, af, none⟩ :: r) σ = SK (W <| sMU cx σ t m k x d) (vcL cx E B ops K r) := by
  rw [W_eq]; simp only [vcL, vcOp, guardA, ex, isS, exS, if_true]
theorem L_insert (t : TypeId) (m k x : Operand) : vcL cx E B ops K (⟨d, .insert t m k x, ty, pos, af, none⟩ :: r) σ = SK (W <| sMU cx σ t m k x d) (vcL cx E B ops K r) := by
  rw [W_eq]; simp only [vcL, vcOp, guardA, ex, isS, exS, if_true]
theorem L_store (t : TypeId) (p x : Operand) : vcL cx E B ops K (⟨d, .store t p x, ty, pos, af, none⟩ :: r) σ = SK (W <| sStore cx σ t p x d) (vcL cx E B ops K r) := by
  rw [W_eq, ← exStore_eq]; simp only [vcL, vcOp, guardA, ex, isS, exS, if_true]
theorem L_append (t u : TypeId) (s x : Operand) : vcL cx E B ops K (⟨d, .call ⟨.builtin .append, #[s, x], #[t, u]⟩, ty, pos, af, none⟩ :: r) σ = SK (W <| match cx.P.underlying u with
    | some .string => sAppS cx σ t s x d
    | _ => sApp cx σ t u s x d) (vcL cx E B ops K r) := by
  have h : vcL cx E B ops K (⟨d, .call ⟨.builtin .append, #[s, x], #[t, u]⟩, ty, pos, af, none⟩ :: r) σ = match cx.P.underlying u with
    | some .string => exAppS cx σ t s x d (vcL cx E B ops K r)
    | _ => exAppend cx σ t u s x d (vcL cx E B ops K r) := by
    simp only [vcL, vcOp, guardA, ex, isS, exS, if_true] <;> rfl
  rw [h, W_eq]
  split
  · exact exAppS_eq ..
  · exact exAppend_eq ..

theorem L_nil' : vcL cx E B ops K [] (St.mk S O c) = K (St.mk S O c) := L_nil ..
theorem L_guard' (o : Op) (g : Nat) (want : Bool) : vcL cx E B ops K (⟨d, o, ty, pos, af, some (g, want)⟩ :: r) ⟨S, O, c⟩ = match (ops[g]?).bind (·.dst) with
    | some t => Gk (W (S t)) want (vcL cx E B ops K (⟨d, o, ty, pos, af, none⟩ :: r) (St.put ⟨S, O, c⟩ (some t) (.b want))) (vcL cx E B ops K r ((match S t with
      | .dv _ => St.put ⟨S, O, c⟩ (some t) (.b (!want))
      | _ => ⟨S, O, c⟩).put d .tnil))
    | none => vcL cx E B ops K r (St.put ⟨S, O, c⟩ d .tnil) := L_guard ..
theorem L_move' (x : Operand) : vcL cx E B ops K (⟨d, .move x, ty, pos, af, none⟩ :: r) (St.mk S O c) = ((St.mk S O c).c ≤ B ∧ vcL cx E B ops K r ((St.mk S O c).put d (ev0 cx (St.mk S O c) x))) := L_move ..
theorem L_assign' (x : Operand) : vcL cx E B ops K (⟨d, .assign x, ty, pos, af, none⟩ :: r) (St.mk S O c) = ((St.mk S O c).c ≤ B ∧ vcL cx E B ops K r ((St.mk S O c).put d (ev0 cx (St.mk S O c) x))) := L_assign ..
theorem L_pick' (x y z : Operand) : vcL cx E B ops K (⟨d, .pick x y z, ty, pos, af, none⟩ :: r) (St.mk S O c) = ((St.mk S O c).c ≤ B ∧ AVk (W <| vPick cx (St.mk S O c) x y z) fun v => vcL cx E B ops K r ((St.mk S O c).put d v)) := L_pick ..
theorem L_nilCheck' (x : Operand) : vcL cx E B ops K (⟨d, .nilCheck x, ty, pos, af, none⟩ :: r) (St.mk S O c) = ((St.mk S O c).c ≤ B ∧ AVk (W <| vNil cx (St.mk S O c) x) fun v => vcL cx E B ops K r ((St.mk S O c).put d v)) := L_nilCheck ..
theorem L_bin' (op : BinOp) (t u : TypeId) (x y : Operand) : vcL cx E B ops K (⟨d, .binOp op t x y u, ty, pos, af, none⟩ :: r) (St.mk S O c) = ((St.mk S O c).c ≤ B ∧ AVk (W <| vBin cx (St.mk S O c) op t x y) fun v => vcL cx E B ops K r ((St.mk S O c).put d v)) := L_bin ..
theorem L_un' (op : UnOp) (t : TypeId) (x : Operand) : vcL cx E B ops K (⟨d, .unOp op t x, ty, pos, af, none⟩ :: r) (St.mk S O c) = ((St.mk S O c).c ≤ B ∧ AVk (W <| vUn cx (St.mk S O c) op x) fun v => vcL cx E B ops K r ((St.mk S O c).put d v)) := L_un ..
theorem L_conv' (s t : TypeId) (x : Operand) : vcL cx E B ops K (⟨d, .convert s t x, ty, pos, af, none⟩ :: r) (St.mk S O c) = ((St.mk S O c).c ≤ B ∧ AVk (W <| vConv cx (St.mk S O c) s t x) fun v => vcL cx E B ops K r ((St.mk S O c).put d v)) := L_conv ..
theorem L_field' (t : TypeId) (x : Operand) (j : Nat) : vcL cx E B ops K (⟨d, .field t x j, ty, pos, af, none⟩ :: r) (St.mk S O c) = ((St.mk S O c).c ≤ B ∧ AVk (W <| vField cx (St.mk S O c) t x j) fun v => vcL cx E B ops K r ((St.mk S O c).put d v)) := L_field ..
theorem L_faddr' (t : TypeId) (x : Operand) (j : Nat) : vcL cx E B ops K (⟨d, .fieldAddr t x j, ty, pos, af, none⟩ :: r) (St.mk S O c) = ((St.mk S O c).c ≤ B ∧ AVk (W <| vFaddr cx (St.mk S O c) t x j) fun v => vcL cx E B ops K r ((St.mk S O c).put d v)) := L_faddr ..
theorem L_index' (t : TypeId) (x i : Operand) : vcL cx E B ops K (⟨d, .index t x i, ty, pos, af, none⟩ :: r) (St.mk S O c) = ((St.mk S O c).c ≤ B ∧ AVk (W <| vIndex cx (St.mk S O c) t x i) fun v => vcL cx E B ops K r ((St.mk S O c).put d v)) := L_index ..
theorem L_idxA' (t : TypeId) (x i : Operand) : vcL cx E B ops K (⟨d, .indexAddr t x i, ty, pos, af, none⟩ :: r) (St.mk S O c) = ((St.mk S O c).c ≤ B ∧ AVk (W <| vIdxA cx (St.mk S O c) t x i) fun v => vcL cx E B ops K r ((St.mk S O c).put d v)) := L_idxA ..
theorem L_load' (t : TypeId) (x : Operand) : vcL cx E B ops K (⟨d, .load t x, ty, pos, af, none⟩ :: r) (St.mk S O c) = ((St.mk S O c).c ≤ B ∧ AVk (W <| vLoad cx (St.mk S O c) t x) fun v => vcL cx E B ops K r ((St.mk S O c).put d v)) := L_load ..
theorem L_extract' (x : Operand) (i : Nat) : vcL cx E B ops K (⟨d, .extract x i, ty, pos, af, none⟩ :: r) (St.mk S O c) = ((St.mk S O c).c ≤ B ∧ AVk (W <| vExtract cx (St.mk S O c) x i) fun v => vcL cx E B ops K r ((St.mk S O c).put d v)) := L_extract ..
theorem L_build' (t : TypeId) (ps : Array (Nat × Operand)) : vcL cx E B ops K (⟨d, .build t ps, ty, pos, af, none⟩ :: r) (St.mk S O c) = ((St.mk S O c).c ≤ B ∧ AVk (W <| vBuild cx (St.mk S O c) t ps) fun v => vcL cx E B ops K r ((St.mk S O c).put d v)) := L_build ..
theorem L_slice' (t : TypeId) (x : Operand) (lo hi : Option Operand) : vcL cx E B ops K (⟨d, .slice t x lo hi none, ty, pos, af, none⟩ :: r) (St.mk S O c) = ((St.mk S O c).c ≤ B ∧ AVk (W <| vSlice cx (St.mk S O c) t x lo hi) fun v => vcL cx E B ops K r ((St.mk S O c).put d v)) := L_slice ..
theorem L_func' (f : FuncId) (caps : Array Operand) : vcL cx E B ops K (⟨d, .makeFunc (.func f) #[] caps, ty, pos, af, none⟩ :: r) (St.mk S O c) = ((St.mk S O c).c ≤ B ∧ AVk (W <| vFunc cx (St.mk S O c) f caps) fun v => vcL cx E B ops K r ((St.mk S O c).put d v)) := L_func ..
theorem L_buildS' (t : TypeId) (m : Nat) (ps : Array (Nat × Operand)) : vcL cx E B ops K (⟨d, .buildSlice t m ps, ty, pos, af, none⟩ :: r) (St.mk S O c) = ((St.mk S O c).c ≤ B ∧ AVk (W <| vBuildS cx (St.mk S O c) t m ps) fun v => vcL cx E B ops K r ((St.mk S O c).put d v)) := L_buildS ..
theorem L_callT' (f : Tmp) (args : Array Operand) (ts : Array TypeId) : vcL cx E B ops K (⟨d, .call ⟨.value (.tmp f), args, ts⟩, ty, pos, af, none⟩ :: r) (St.mk S O c) = GOk (W <| gCall cx E (St.mk S O c) (.tmp f) args) (St.mk S O c).c B fun k x => vcL cx E B ops K r ({ (St.mk S O c) with c := (St.mk S O c).c + k }.put d x) := L_callT ..
theorem L_call' (f : FuncId) (args : Array Operand) (ts : Array TypeId) : vcL cx E B ops K (⟨d, .call ⟨.value (.func f), args, ts⟩, ty, pos, af, none⟩ :: r) (St.mk S O c) = Sel (W (bF f)) (SK (W <| sBld cx (St.mk S O c) f args.toList d) (vcL cx E B ops K r)) (Sel (W (oF f)) (GOk (W <| gOwn cx E (St.mk S O c) f args) (St.mk S O c).c B fun k x => OwnK (W (E.Ω f)) x fun e z x => vcL cx E B ops K r (owD { (St.mk S O c) with c := (St.mk S O c).c + k } d (muA cx (St.mk S O c) args.toList) e z x)) (GOk (W <| gCall cx E (St.mk S O c) (.func f) args) (St.mk S O c).c B fun k x => vcL cx E B ops K r ({ (St.mk S O c) with c := (St.mk S O c).c + k }.put d x))) := L_call ..
theorem L_len' (x : Operand) (t : TypeId) : vcL cx E B ops K (⟨d, .call ⟨.builtin .len, #[x], #[t]⟩, ty, pos, af, none⟩ :: r) (St.mk S O c) = ((St.mk S O c).c ≤ B ∧ AVk (W <| vLen cx (St.mk S O c) t x) fun v => vcL cx E B ops K r ((St.mk S O c).put d v)) := L_len ..
theorem L_max' (x y : Operand) (ts : Array TypeId) : vcL cx E B ops K (⟨d, .call ⟨.builtin .max, #[x, y], ts⟩, ty, pos, af, none⟩ :: r) (St.mk S O c) = ((St.mk S O c).c ≤ B ∧ AVk (W <| vMax cx (St.mk S O c) x y) fun v => vcL cx E B ops K r ((St.mk S O c).put d v)) := L_max ..
theorem L_min' (x y : Operand) (ts : Array TypeId) : vcL cx E B ops K (⟨d, .call ⟨.builtin .min, #[x, y], ts⟩, ty, pos, af, none⟩ :: r) (St.mk S O c) = ((St.mk S O c).c ≤ B ∧ AVk (W <| vMin cx (St.mk S O c) x y) fun v => vcL cx E B ops K r ((St.mk S O c).put d v)) := L_min ..
theorem L_min3' (x y z : Operand) (ts : Array TypeId) : vcL cx E B ops K (⟨d, .call ⟨.builtin .min, #[x, y, z], ts⟩, ty, pos, af, none⟩ :: r) (St.mk S O c) = ((St.mk S O c).c ≤ B ∧ AVk (W <| vMin3 cx (St.mk S O c) x y z) fun v => vcL cx E B ops K r ((St.mk S O c).put d v)) := L_min3 ..
theorem L_max3' (x y z : Operand) (ts : Array TypeId) : vcL cx E B ops K (⟨d, .call ⟨.builtin .max, #[x, y, z], ts⟩, ty, pos, af, none⟩ :: r) (St.mk S O c) = ((St.mk S O c).c ≤ B ∧ AVk (W <| vMax3 cx (St.mk S O c) x y z) fun v => vcL cx E B ops K r ((St.mk S O c).put d v)) := L_max3 ..
theorem L_box' (T : TypeId) (x : Operand) : vcL cx E B ops K (⟨d, .box T x, ty, pos, af, none⟩ :: r) (St.mk S O c) = SK (W <| sBox cx (St.mk S O c) T x d) (vcL cx E B ops K r) := L_box ..
theorem L_alloc' (T : TypeId) : vcL cx E B ops K (⟨d, .alloc T, ty, pos, af, none⟩ :: r) (St.mk S O c) = SK (W <| if T = bT then sAllocB (St.mk S O c) d else sAlloc cx (St.mk S O c) T d) (vcL cx E B ops K r) := L_alloc ..
theorem L_makeS' (t : TypeId) (m k : Operand) : vcL cx E B ops K (⟨d, .makeSlice t m k, ty, pos, af, none⟩ :: r) (St.mk S O c) = SK (W <| sMake cx (St.mk S O c) t m k d) (vcL cx E B ops K r) := L_makeS ..
theorem L_makeM' (t : TypeId) : vcL cx E B ops K (⟨d, .makeMap t none, ty, pos, af, none⟩ :: r) (St.mk S O c) = SK (W <| sMM cx (St.mk S O c) t d) (vcL cx E B ops K r) := L_makeM ..
theorem L_mapU' (t : TypeId) (m k x : Operand) : vcL cx E B ops K (⟨d, .mapUpdate t m k x, ty, pos, af, none⟩ :: r) (St.mk S O c) = SK (W <| sMU cx (St.mk S O c) t m k x d) (vcL cx E B ops K r) := L_mapU ..
theorem L_insert' (t : TypeId) (m k x : Operand) : vcL cx E B ops K (⟨d, .insert t m k x, ty, pos, af, none⟩ :: r) (St.mk S O c) = SK (W <| sMU cx (St.mk S O c) t m k x d) (vcL cx E B ops K r) := L_insert ..
theorem L_look' (t : TypeId) (x i : Operand) (ok : Bool) : vcL cx E B ops K (⟨d, .lookup t x i ok, ty, pos, af, none⟩ :: r) (St.mk S O c) = (c ≤ B ∧ AVk (W <| vLook cx (St.mk S O c) t x i ok) fun v => vcL cx E B ops K r ((St.mk S O c).put d v)) := L_look ..
theorem L_store' (t : TypeId) (p x : Operand) : vcL cx E B ops K (⟨d, .store t p x, ty, pos, af, none⟩ :: r) (St.mk S O c) = SK (W <| sStore cx (St.mk S O c) t p x d) (vcL cx E B ops K r) := L_store ..
theorem L_append' (t u : TypeId) (s x : Operand) : vcL cx E B ops K (⟨d, .call ⟨.builtin .append, #[s, x], #[t, u]⟩, ty, pos, af, none⟩ :: r) (St.mk S O c) = SK (W <| match cx.P.underlying u with
    | some .string => sAppS cx (St.mk S O c) t s x d
    | _ => sApp cx (St.mk S O c) t u s x d) (vcL cx E B ops K r) := L_append ..

variable (X : Vx) (Kn Kr : St → Prop) (Kx : Nat → St → Prop) (x y : Code) (H : List Nat) (hz : List (Nat × List Nat × List Nat)) (live : List Nat)
theorem C_skip : vc X .skip Kn Kr Kx σ = Kn σ := nr rfl
theorem C_label (l : Nat) : vc X (.label l) Kn Kr Kx σ = Kn σ := nr rfl
theorem C_ret : vc X .ret Kn Kr Kx σ = Kr σ := nr rfl
theorem C_exit (l : Nat) : vc X (.exit l) Kn Kr Kx σ = Kx l σ := nr rfl
theorem C_region (id : Nat) (l : List Oper) (b : Bool) : vc ⟨cx, E, B, n, live, H, []⟩ (.region id l.toArray b) Kn Kr Kx σ = vcL cx E B l.toArray (fun σ' => Kn (σ'.trim live)) l σ := nr rfl
def RN (l : List Nat) (A B : Prop) : Prop := match l with
  | [] => A
  | _ :: _ => B
theorem RN_congr {l l' : List Nat} {A B : Prop} (h : Unit → l = l') : RN l A B = RN l' A B := by rw [h ()]
theorem RN_nil (A B : Prop) : RN [] A B = A := nr rfl
theorem RN_cons (o : Nat) (l : List Nat) (A B : Prop) : RN (o :: l) A B = B := nr rfl
theorem C_regionZ (z : Nat × List Nat × List Nat) (id : Nat) (l : List Oper) (b : Bool) : vc ⟨cx, E, B, n, live, H, z :: hz⟩ (.region id l.toArray b) Kn Kr Kx σ = ZS (W (lkZ (z :: hz) id)) (vcL cx E B l.toArray (fun σ' => Kn (σ'.trim live)) l σ) fun hs rs => LK (W (optL l.toArray hs)) fun lh => LK (W (optL l.toArray rs)) fun lr => RN rs (RN hs (vcR cx E B l.toArray (fun σ' => Kn (σ'.trim live)) l σ) (preOk cx.P lh ∧ vcL cx E B l.toArray (fun σ' => Kn (σ'.trim live)) l (preA lh σ))) (RN hs (preT cx.P E lr ∧ vcL cx E B l.toArray (fun σ' => Kn (σ'.trim live)) l (preAs lr σ)) (vcH cx E B l.toArray (vcL cx E B l.toArray (fun σ' => Kn (σ'.trim live)) lr) lh σ)) := by
  unfold ZS LK
  simp only [W_eq]
  cases h : lkZ (z :: hz) id with
  | none => (unfold vc; simp only [h])
  | some p =>
    unfold vc
    simp only [h]
    cases h2 : p.2 <;> cases h3 : p.1 <;> rfl
theorem FK_nil (K : Int → Prop) : FK [] K = K 0 := nr rfl
theorem FK_cons (sp : FSpec) (r : List FSpec) (K : Int → Prop) : FK (sp :: r) K = (sp.pre [] ∧ (∃ y, sp.post [] y) ∧ ∀ y, sp.post [] y → ∃ e : Int, y = .d (.int .i64 e) ∧ (e ≠ 0 → K e) ∧ (e = 0 → FK r K)) := nr rfl
theorem fnArgs_nil (k : Nat) : fnArgs cx E σ k [] = some [] := nr rfl
theorem fnArgs_cons (k i : Nat) (x : Operand) (r : List (Nat × Operand)) : fnArgs cx E σ k ((i, x) :: r) = match ev cx σ x, fnArgs cx E σ (k + 1) r with
    | .fn f ks, some l => if i = k then (match E.Φ f, capsD σ ks with
      | some φ, some caps => some (φ caps :: l)
      | _, _ => none) else none
    | _, _ => none := nr rfl
theorem firstR_e (n : Nat) (ps : List (Nat × Operand)) (d1 d2 : Option Tmp) (K : St → Prop) : firstR cx E B σ n ps.toArray d1 d2 K = match fnArgs cx E σ 0 ps with
    | some sps => σ.c ≤ B ∧ ps.length = n ∧ n ≤ 1000 ∧ FK sps fun e => K ((σ.put d1 .un).put d2 (.i e))
    | none => False := nr rfl
theorem isPair_e (o o2 : Oper) : isPair o o2 = match o.op, o2.op with
    | .buildSlice t _ _, .call c => (match c.callee, c.args.toList with
      | .value (.func f), [.tmp x] => f == fFi && fFi != 999995 && t == tFi && o.dst == some x && o.guard == none && o2.guard == none
      | _, _ => false)
    | _, _ => false := nr rfl
theorem vcR_nil : vcR cx E B ops K [] σ = K σ := nr rfl
theorem vcR_one (o : Oper) : vcR cx E B ops K [o] σ = vcL cx E B ops K [o] σ := nr rfl
theorem vcR_two (o o2 : Oper) (r : List Oper) : vcR cx E B ops K (o :: o2 :: r) σ = Sel (W (isPair o o2)) (match o.op with
    | .buildSlice _ n ps => firstR cx E B σ n ps o.dst o2.dst (vcR cx E B ops K r)
    | _ => False) (vcL cx E B ops (vcR cx E B ops K (o2 :: r)) [o] σ) := by
  rw [W_eq]
  conv => lhs; unfold vcR
  cases isPair o o2 <;> rfl
attribute [go_sem] FK_nil FK_cons fnArgs_nil fnArgs_cons firstR_e isPair_e vcR_nil vcR_one
attribute [go_sem ↓] vcR_two
theorem C_condT (t : Tmp) : vc ⟨cx, E, B, n, live, H, hz⟩ (.cond (.tmp t) x y) Kn Kr Kx ⟨S, O, c⟩ = Cnd (W (nrm (S t))) (vc ⟨cx, E, B, n, live, H, hz⟩ x Kn Kr Kx (match S t with
      | .dv _ => ⟨upd S t (.b true), O, c⟩
      | _ => ⟨S, O, c⟩)) (vc ⟨cx, E, B, n, live, H, hz⟩ y Kn Kr Kx (match S t with
      | .dv _ => ⟨upd S t (.b false), O, c⟩
      | _ => ⟨S, O, c⟩)) := by
  have hu : ∀ v, S t = v → (⟨upd S t v, O, c⟩ : St) = ⟨S, O, c⟩ := fun v e => by
    congr 1
    funext u
    rw [upd_apply]
    split
    · rename_i h; rw [h, e]
    · rfl
  show (match nrm (S t) with
    | .dv (.d (.bool b)) => (b = true → vc ⟨cx, E, B, n, live, H, hz⟩ x Kn Kr Kx ⟨S, O, c⟩) ∧ (b = false → vc ⟨cx, E, B, n, live, H, hz⟩ y Kn Kr Kx ⟨S, O, c⟩)
    | _ => False) = _
  cases hx : S t with
  | dv y =>
    cases y with
    | ag l => rfl
    | d y =>
      cases y with
      | bool b =>
        apply propext
        cases b <;> simp only [Cnd, W_eq, nrm, hu _ hx, forall_const, true_and, and_true, reduceCtorEq, false_implies]
      | _ => rfl
  | _ => rfl
theorem C_block (id : Nat) : vc X (.block id x) Kn Kr Kx σ = vc X x Kn Kr (fun j σ' => if j = id then Kn σ' else Kx j σ') σ := nr rfl
theorem C_seq (h : cutAt X y = false) : vc X (.seq x y) Kn Kr Kx σ = vc X x (vc X y Kn Kr Kx) Kr Kx σ := by
  conv => lhs; unfold vc
  rw [h]; rfl
theorem C_skip' : vc X .skip Kn Kr Kx (St.mk S O c) = Kn (St.mk S O c) := C_skip ..
theorem C_label' (l : Nat) : vc X (.label l) Kn Kr Kx (St.mk S O c) = Kn (St.mk S O c) := C_label ..
theorem C_ret' : vc X .ret Kn Kr Kx (St.mk S O c) = Kr (St.mk S O c) := C_ret ..
theorem C_exit' (l : Nat) : vc X (.exit l) Kn Kr Kx (St.mk S O c) = Kx l (St.mk S O c) := C_exit ..
theorem C_region' (id : Nat) (l : List Oper) (b : Bool) : vc ⟨cx, E, B, n, live, H, []⟩ (.region id l.toArray b) Kn Kr Kx (St.mk S O c) = vcL cx E B l.toArray (fun σ' => Kn (σ'.trim live)) l (St.mk S O c) := C_region ..
theorem C_regionZ' (z : Nat × List Nat × List Nat) (id : Nat) (l : List Oper) (b : Bool) : vc ⟨cx, E, B, n, live, H, z :: hz⟩ (.region id l.toArray b) Kn Kr Kx (St.mk S O c) = ZS (W (lkZ (z :: hz) id)) (vcL cx E B l.toArray (fun σ' => Kn (σ'.trim live)) l (St.mk S O c)) fun hs rs => LK (W (optL l.toArray hs)) fun lh => LK (W (optL l.toArray rs)) fun lr => RN rs (RN hs (vcR cx E B l.toArray (fun σ' => Kn (σ'.trim live)) l (St.mk S O c)) (preOk cx.P lh ∧ vcL cx E B l.toArray (fun σ' => Kn (σ'.trim live)) l (preA lh (St.mk S O c)))) (RN hs (preT cx.P E lr ∧ vcL cx E B l.toArray (fun σ' => Kn (σ'.trim live)) l (preAs lr (St.mk S O c))) (vcH cx E B l.toArray (vcL cx E B l.toArray (fun σ' => Kn (σ'.trim live)) lr) lh (St.mk S O c))) := C_regionZ ..
theorem preA_e (d : Nat) (op : Op) (ty : TypeId) (pos : String) (af : Array Edge) (g : Option (Nat × Bool)) (r : List Oper) (S : Nat → AV) (O : Nat → Option Ob) (c : Nat) : preA (⟨some d, op, ty, pos, af, g⟩ :: r) ⟨S, O, c⟩ = ⟨upd (purS d S) d .un, delO d O, c⟩ := of_eq_true (eq_self _)
theorem preOk_e (P : Program) (d : Nat) (T : TypeId) (ty : TypeId) (pos : String) (af : Array Edge) (g : Option (Nat × Bool)) (r : List Oper) : preOk P (⟨some d, .alloc T, ty, pos, af, g⟩ :: r) = (match TzeroA P T with
      | some cs => hasUn cs = false
      | none => False) := nr rfl
theorem preAs_nil (S : Nat → AV) (O : Nat → Option Ob) (c : Nat) : preAs [] ⟨S, O, c⟩ = ⟨S, O, c⟩ := nr rfl
theorem preAs_e (d : Nat) (op : Op) (ty : TypeId) (pos : String) (af : Array Edge) (g : Option (Nat × Bool)) (r : List Oper) (S : Nat → AV) (O : Nat → Option Ob) (c : Nat) : preAs (⟨some d, op, ty, pos, af, g⟩ :: r) ⟨S, O, c⟩ = preAs r ⟨upd (purS d S) d .un, delO d O, c⟩ := nr rfl
theorem preT_nil (P : Program) (E : Env) : preT P E [] = True := nr rfl
theorem preT_a (P : Program) (E : Env) (d : Option Nat) (T : TypeId) (ty : TypeId) (pos : String) (af : Array Edge) (g : Option (Nat × Bool)) (r : List Oper) : preT P E (⟨d, .alloc T, ty, pos, af, g⟩ :: r) = ((match TzeroA P T with
      | some cs => hasUn cs = false
      | none => False) ∧ preT P E r) := nr rfl
theorem preT_c (P : Program) (E : Env) (d : Option Nat) (f : FuncId) (args : Array Operand) (ts : Array TypeId) (ty : TypeId) (pos : String) (af : Array Edge) (g : Option (Nat × Bool)) (r : List Oper) : preT P E (⟨d, .call ⟨.value (.func f), args, ts⟩, ty, pos, af, g⟩ :: r) = ((match E.Ω f with
      | some (_, _, z) => z < 1000
      | none => False) ∧ preT P E r) := nr rfl
theorem lkZ_nil (t : Nat) : lkZ [] t = none := nr rfl
theorem lkZ_cons (t u : Nat) (p : List Nat × List Nat) : lkZ ((u, p) :: hz) t = if t = u then some p else lkZ hz t := nr rfl
theorem vcH_nil : vcH cx E B ops K [] σ = K σ := nr rfl
theorem vcH_cons (o : Oper) : vcH cx E B ops K (o :: r) σ = (flatOp cx σ o.op = true ∧ vcL cx E B ops (vcH cx E B ops K r) [o] σ) := nr rfl
theorem vcH_nil' : vcH cx E B ops K [] (St.mk S O c) = K (St.mk S O c) := nr rfl
theorem vcH_cons' (o : Oper) : vcH cx E B ops K (o :: r) (St.mk S O c) = (flatOp cx (St.mk S O c) o.op = true ∧ vcL cx E B ops (vcH cx E B ops K r) [o] (St.mk S O c)) := nr rfl
theorem optL_nil (a : Array Oper) : optL a [] = [] := nr rfl
theorem optL_cons (l : List Oper) (i : Nat) (r : List Nat) : optL l.toArray (i :: r) = match l[i]? with
    | some o => o :: optL l.toArray r
    | none => optL l.toArray r := by
  unfold optL
  rw [List.filterMap_cons, List.getElem?_toArray]
  cases l[i]? <;> rfl
theorem C_condT' (t : Tmp) : vc ⟨cx, E, B, n, live, H, hz⟩ (.cond (.tmp t) x y) Kn Kr Kx ⟨S, O, c⟩ = Cnd (W (nrm (S t))) (vc ⟨cx, E, B, n, live, H, hz⟩ x Kn Kr Kx (match S t with
      | .dv _ => ⟨upd S t (.b true), O, c⟩
      | _ => ⟨S, O, c⟩)) (vc ⟨cx, E, B, n, live, H, hz⟩ y Kn Kr Kx (match S t with
      | .dv _ => ⟨upd S t (.b false), O, c⟩
      | _ => ⟨S, O, c⟩)) := C_condT ..
theorem C_block' (id : Nat) : vc X (.block id x) Kn Kr Kx (St.mk S O c) = vc X x Kn Kr (fun j σ' => if j = id then Kn σ' else Kx j σ') (St.mk S O c) := C_block ..
theorem C_seq' (h : cutAt X y = false) : vc X (.seq x y) Kn Kr Kx (St.mk S O c) = vc X x (vc X y Kn Kr Kx) Kr Kx (St.mk S O c) := by rw [C_seq (h := h)]
section
variable {ι : Type} {Sf : ι → Sh} {J : ι → Prop} {μ : ι → Nat} {ad : List (Nat × TypeId × Nat)} {m : Nat}
/-- Comes to a frame of the family. -/
def Meets (n : Nat) (ad : List (Nat × TypeId × Nat)) (Sf : ι → Sh) (J : ι → Prop) (σ : St) : Prop := Cut.meets ⟨ι, Sf, J, fun _ => 0, ad⟩ n σ
def Below (n : Nat) (ad : List (Nat × TypeId × Nat)) (Sf : ι → Sh) (J : ι → Prop) (μ : ι → Nat) (m : Nat) (σ : St) : Prop := Cut.below ⟨ι, Sf, J, μ, ad⟩ n m σ
def At (n : Nat) (ad : List (Nat × TypeId × Nat)) (sh : Sh) (σ : St) : Prop := (ad.all fun p => adOk n p) = true ∧ Fits (adopt σ ad) sh
variable {X Kn Kr Kx x y σ}
theorem meets_mk (i : ι) (hJ : J i) (h : At n ad (Sf i) σ) : Meets n ad Sf J σ := ⟨h.1, i, hJ, h.2⟩
theorem below_mk (i : ι) (hJ : J i) (hμ : μ i < m) (h : At n ad (Sf i) σ) : Below n ad Sf J μ m σ := ⟨h.1, i, hJ, hμ, h.2⟩
theorem vc_cut (ι : Type) (Sf : ι → Sh) (J : ι → Prop) (ad : List (Nat × TypeId × Nat)) (h : cutAt X y = true) (h1 : vc X x (Meets X.n ad Sf J) Kr Kx σ) (h2 : ∀ i, J i → vc X y Kn Kr Kx (Sf i).st) : vc X (.seq x y) Kn Kr Kx σ := by
  unfold vc
  rw [if_pos h]
  exact ⟨⟨ι, Sf, J, fun _ => 0, ad⟩, h1, h2⟩
theorem vc_loop (ι : Type) (Sf : ι → Sh) (J : ι → Prop) (μ : ι → Nat) (ad : List (Nat × TypeId × Nat)) (h1 : Meets X.n ad Sf J σ) (h2 : ∀ i, J i → vc X x (Below X.n ad Sf J μ (μ i)) Kr Kx (Sf i).st) : vc X (.loop x) Kn Kr Kx σ := by
  unfold vc
  exact ⟨⟨ι, Sf, J, μ, ad⟩, h1, h2⟩
/-- Some slots told anew, the others as they are. -/
def inK (t : Nat) : List (Nat × AV) → Bool
  | [] => false
  | p :: r => if t = p.1 then true else inK t r
def keepL (cs : List (Nat × AV)) : List (Nat × AV) → List (Nat × AV)
  | [] => []
  | p :: r => if inK p.1 cs = true then keepL cs r else p :: keepL cs r
def ovr (cs L : List (Nat × AV)) : List (Nat × AV) := cs ++ keepL cs L
/-- Objects that stay. -/
def listO (O : Nat → Option Ob) : List Nat → List (Nat × Ob)
  | [] => []
  | k :: r => match O k with
    | some b => (k, b) :: listO O r
    | none => listO O r
/-- One cell of a variable told anew. -/
def setC (k j : Nat) (x : AV) : List (Nat × Ob) → List (Nat × Ob)
  | [] => []
  | (u, .box T cs) :: r => if u = k then (u, .box T (cs.set j x)) :: r else (u, .box T cs) :: setC k j x r
  | (u, .arr e z l) :: r => (u, .arr e z l) :: setC k j x r
  | (u, .bld T q) :: r => (u, .bld T q) :: setC k j x r
  | (u, .mp T q) :: r => (u, .mp T q) :: setC k j x r
def setCs : List (Nat × Nat × AV) → List (Nat × Ob) → List (Nat × Ob)
  | [], os => os
  | q :: r, os => setCs r (setC q.1 q.2.1 q.2.2 os)
def shS {ι : Type} (L : List (Nat × AV)) (O : Nat → Option Ob) (cs : ι → List (Nat × AV)) (keep : List Nat) (ce : ι → List (Nat × Nat × AV)) (os : ι → List (Nat × Ob)) (co : ι → Nat) (i : ι) : Sh := ⟨ovr (cs i) L, setCs (ce i) (listO O keep) ++ os i, co i⟩
/-- A loop: the slots that change; the objects that stay, their cells that change, further objects; how often the stream was asked; the other slots stay. -/
theorem vc_loopS {L : List (Nat × AV)} {O : Nat → Option Ob} {c : Nat} (ι : Type) (cs : ι → List (Nat × AV)) (keep : List Nat) (ce : ι → List (Nat × Nat × AV)) (os : ι → List (Nat × Ob)) (co : ι → Nat) (J : ι → Prop) (μ : ι → Nat) (ad : List (Nat × TypeId × Nat))
    (h1 : Meets X.n ad (shS L O cs keep ce os co) J ⟨lk .un L, O, c⟩) (h2 : ∀ i, J i → vc X x (Below X.n ad (shS L O cs keep ce os co) J μ (μ i)) Kr Kx (Sh.st (shS L O cs keep ce os co i))) : vc X (.loop x) Kn Kr Kx ⟨lk .un L, O, c⟩ := vc_loop ι _ J μ ad h1 h2
theorem vc_cutS {L : List (Nat × AV)} {O : Nat → Option Ob} {c : Nat} (ι : Type) (cs : ι → List (Nat × AV)) (keep : List Nat) (ce : ι → List (Nat × Nat × AV)) (os : ι → List (Nat × Ob)) (co : ι → Nat) (J : ι → Prop) (ad : List (Nat × TypeId × Nat)) (h : cutAt X y = true)
    (h1 : vc X x (Meets X.n ad (shS L O cs keep ce os co) J) Kr Kx ⟨lk .un L, O, c⟩) (h2 : ∀ i, J i → vc X y Kn Kr Kx (Sh.st (shS L O cs keep ce os co i))) : vc X (.seq x y) Kn Kr Kx ⟨lk .un L, O, c⟩ := vc_cut ι _ J ad h h1 h2
theorem vc_loopT {S : Nat → AV} {O : Nat → Option Ob} {c : Nat} (ι : Type) (cs : ι → List (Nat × AV)) (keep : List Nat) (ce : ι → List (Nat × Nat × AV)) (os : ι → List (Nat × Ob)) (co : ι → Nat) (J : ι → Prop) (μ : ι → Nat) (ad : List (Nat × TypeId × Nat))
    (h1 : Meets X.n ad (shS (trimL X.live S) O cs keep ce os co) J ⟨S, O, c⟩) (h2 : ∀ i, J i → vc X x (Below X.n ad (shS (trimL X.live S) O cs keep ce os co) J μ (μ i)) Kr Kx (Sh.st (shS (trimL X.live S) O cs keep ce os co i))) : vc X (.loop x) Kn Kr Kx ⟨S, O, c⟩ := vc_loop ι _ J μ ad h1 h2
theorem vc_cutT {S : Nat → AV} {O : Nat → Option Ob} {c : Nat} (ι : Type) (cs : ι → List (Nat × AV)) (keep : List Nat) (ce : ι → List (Nat × Nat × AV)) (os : ι → List (Nat × Ob)) (co : ι → Nat) (J : ι → Prop) (ad : List (Nat × TypeId × Nat)) (h : cutAt X y = true)
    (h1 : vc X x (Meets X.n ad (shS (trimL X.live S) O cs keep ce os co) J) Kr Kx ⟨S, O, c⟩) (h2 : ∀ i, J i → vc X y Kn Kr Kx (Sh.st (shS (trimL X.live S) O cs keep ce os co i))) : vc X (.seq x y) Kn Kr Kx ⟨S, O, c⟩ := vc_cut ι _ J ad h h1 h2
theorem shS_e {ι : Type} (L : List (Nat × AV)) (O : Nat → Option Ob) (cs : ι → List (Nat × AV)) (keep : List Nat) (ce : ι → List (Nat × Nat × AV)) (os : ι → List (Nat × Ob)) (co : ι → Nat) (i : ι) : shS L O cs keep ce os co i = ⟨ovr (cs i) L, setCs (ce i) (listO O keep) ++ os i, co i⟩ := nr rfl
theorem listO_nil (O : Nat → Option Ob) : listO O [] = [] := nr rfl
theorem listO_cons (O : Nat → Option Ob) (k : Nat) (r : List Nat) : listO O (k :: r) = (match O k with
    | some b => (k, b) :: listO O r
    | none => listO O r) := nr rfl
theorem setC_nil (k j : Nat) (x : AV) : setC k j x [] = [] := nr rfl
theorem setC_box (k j u : Nat) (x : AV) (T : TypeId) (cs : List AV) (r : List (Nat × Ob)) : setC k j x ((u, .box T cs) :: r) = if u = k then (u, .box T (cs.set j x)) :: r else (u, .box T cs) :: setC k j x r := nr rfl
theorem setC_arr (k j u : Nat) (x : AV) (e : TypeId) (z : Nat) (l : List (List D)) (r : List (Nat × Ob)) : setC k j x ((u, .arr e z l) :: r) = (u, .arr e z l) :: setC k j x r := nr rfl
theorem setC_bld (k j u : Nat) (x : AV) (T : TypeId) (q : Nat) (r : List (Nat × Ob)) : setC k j x ((u, .bld T q) :: r) = (u, .bld T q) :: setC k j x r := nr rfl
theorem setC_mp (k j u : Nat) (x : AV) (T : TypeId) (q : List (D × D)) (r : List (Nat × Ob)) : setC k j x ((u, .mp T q) :: r) = (u, .mp T q) :: setC k j x r := nr rfl
theorem setCs_nil (os : List (Nat × Ob)) : setCs [] os = os := nr rfl
theorem setCs_cons (k j : Nat) (x : AV) (r : List (Nat × Nat × AV)) (os : List (Nat × Ob)) : setCs ((k, j, x) :: r) os = setCs r (setC k j x os) := nr rfl
theorem inK_nil (t : Nat) : inK t [] = false := nr rfl
theorem inK_cons (t u : Nat) (v : AV) (r : List (Nat × AV)) : inK t ((u, v) :: r) = if t = u then true else inK t r := nr rfl
theorem keepL_nil (cs : List (Nat × AV)) : keepL cs [] = [] := nr rfl
theorem keepL_cons (cs : List (Nat × AV)) (u : Nat) (v : AV) (r : List (Nat × AV)) : keepL cs ((u, v) :: r) = if inK u cs = true then keepL cs r else (u, v) :: keepL cs r := nr rfl
theorem ovr_eq (cs L : List (Nat × AV)) : ovr cs L = cs ++ keepL cs L := nr rfl
theorem Meets_e (n : Nat) : Meets n ad Sf J σ = ((ad.all fun p => adOk n p) = true ∧ ∃ i, Fits (adopt σ ad) (Sf i) ∧ J i) := propext ⟨fun ⟨a, i, b, c⟩ => ⟨a, i, c, b⟩, fun ⟨a, i, c, b⟩ => ⟨a, i, b, c⟩⟩
theorem Below_e (n : Nat) : Below n ad Sf J μ m σ = ((ad.all fun p => adOk n p) = true ∧ ∃ i, Fits (adopt σ ad) (Sf i) ∧ J i ∧ μ i < m) := propext ⟨fun ⟨a, i, b, c, d⟩ => ⟨a, i, d, b, c⟩, fun ⟨a, i, d, b, c⟩ => ⟨a, i, b, c, d⟩⟩
end
theorem cutAt_nil : cutAt ⟨cx, E, B, n, live, [], hz⟩ x = false := by
  unfold cutAt; split <;> rfl
theorem cutAt_cons (u : Nat) : cutAt ⟨cx, E, B, n, live, u :: H, hz⟩ x = if headReg x = some u then true else cutAt ⟨cx, E, B, n, live, H, hz⟩ x := by
  unfold cutAt
  split
  · rename_i r e
    rw [e]
    simp only [List.any_cons, Option.some.injEq]
    by_cases h : u = r
    · rw [if_pos h.symm]; simp [h]
    · rw [if_neg (fun e => h e.symm)]; simp [h]
  · rename_i e
    rw [e, if_neg (by simp)]
theorem headReg_region (id : Nat) (o : Array Oper) (b : Bool) : headReg (.region id o b) = some id := nr rfl
theorem headReg_seq : headReg (.seq x y) = headReg x := nr rfl
theorem headReg_block (id : Nat) : headReg (.block id x) = headReg x := nr rfl
theorem headReg_loop : headReg (.loop x) = headReg x := nr rfl
theorem headReg_cond (v : Operand) : headReg (.cond v x y) = none := nr rfl
theorem headReg_skip : headReg .skip = none := nr rfl
theorem headReg_ret : headReg .ret = none := nr rfl
theorem headReg_exit (l : Nat) : headReg (.exit l) = none := nr rfl
theorem headReg_label (l : Nat) : headReg (.label l) = none := nr rfl
end
/-- An environment out of a list of contracts. -/
def lkF : List (FuncId × Spec) → FuncId → Option Spec
  | [], _ => none
  | p :: r, f => if f = p.1 then some p.2 else lkF r f
def envL (l : List (FuncId × Spec)) : Env := ⟨lkF l, fun _ => none, fun _ => none⟩
theorem envL_nil (cx : Cx) (hB : BldOk cx.P) : EnvOk cx (envL []) := ⟨hB, fun f sp h => (by cases h), fun f φ caps h => (by cases h), fun f sp e z h => (by cases h)⟩
theorem envL_cons {cx : Cx} {f : FuncId} {sp : Spec} {l : List (FuncId × Spec)} (h : Ctr cx f sp) (hl : EnvOk cx (envL l)) : EnvOk cx (envL ((f, sp) :: l)) :=
  ⟨hl.bld, fun g sp' hg => by
    have hg' : (if g = f then some sp else lkF l g) = some sp' := hg
    split at hg'
    · rename_i e; cases hg'; rw [e]; exact h
    · exact hl.fn g sp' hg', fun f φ caps h => (by cases h), fun f sp e z h => (by cases h)⟩
theorem envL_G (l : List (FuncId × Spec)) (f : FuncId) : (envL l).Γ f = lkF l f := nr rfl
theorem lkF_cons (l : List (FuncId × Spec)) (f g : FuncId) (sp : Spec) : lkF ((g, sp) :: l) f = if f = g then some sp else lkF l f := nr rfl
/-- The same with contracts of closures. -/
def lkP : List (FuncId × (List (List D) → FSpec)) → FuncId → Option (List (List D) → FSpec)
  | [], _ => none
  | p :: r, f => if f = p.1 then some p.2 else lkP r f
def envF (l : List (FuncId × Spec)) (m : List (FuncId × (List (List D) → FSpec))) : Env := ⟨lkF l, lkP m, fun _ => none⟩
theorem envF_nil {cx : Cx} {l : List (FuncId × Spec)} (h : EnvOk cx (envL l)) : EnvOk cx (envF l []) := ⟨h.bld, h.fn, fun f φ caps h => (by cases h), fun f sp e z h => (by cases h)⟩
theorem envF_cons {cx : Cx} {f : FuncId} {φ : List (List D) → FSpec} {l : List (FuncId × Spec)} {m : List (FuncId × (List (List D) → FSpec))} (h : ∀ caps, Ctr cx f (clo φ caps)) (hl : EnvOk cx (envF l m)) : EnvOk cx (envF l ((f, φ) :: m)) :=
  ⟨hl.bld, hl.fn, fun g ψ caps hg => by
    have hg' : (if g = f then some φ else lkP m g) = some ψ := hg
    split at hg'
    · rename_i e; cases hg'; rw [e]; exact h caps
    · exact hl.cl g ψ caps hg', fun f sp e z h => (by cases h)⟩
/-- The same with contracts of functions that hand over a row. -/
def lkQ : List (FuncId × Spec × TypeId × Nat) → FuncId → Option (Spec × TypeId × Nat)
  | [], _ => none
  | p :: r, f => if f = p.1 then some p.2 else lkQ r f
def envO (l : List (FuncId × Spec)) (m : List (FuncId × (List (List D) → FSpec))) (q : List (FuncId × Spec × TypeId × Nat)) : Env := ⟨lkF l, lkP m, lkQ q⟩
theorem envO_nil {cx : Cx} {l : List (FuncId × Spec)} {m : List (FuncId × (List (List D) → FSpec))} (h : EnvOk cx (envF l m)) : EnvOk cx (envO l m []) := ⟨h.bld, h.fn, h.cl, fun f sp e z h => (by cases h)⟩
theorem envO_cons {cx : Cx} {f : FuncId} {sp : Spec} {e : TypeId} {z : Nat} {l : List (FuncId × Spec)} {m : List (FuncId × (List (List D) → FSpec))} {q : List (FuncId × Spec × TypeId × Nat)} (h : CtrO cx f sp e z) (hl : EnvOk cx (envO l m q)) : EnvOk cx (envO l m ((f, sp, e, z) :: q)) :=
  ⟨hl.bld, hl.fn, hl.cl, fun g sp' e' z' hg => by
    have hg' : (if g = f then some (sp, e, z) else lkQ q g) = some (sp', e', z') := hg
    split at hg'
    · rename_i x; cases hg'; rw [x]; exact h
    · exact hl.ow g sp' e' z' hg'⟩
theorem envL_Q (l : List (FuncId × Spec)) (f : FuncId) : (envL l).Ω f = none := nr rfl
theorem envF_Q (l : List (FuncId × Spec)) (m : List (FuncId × (List (List D) → FSpec))) (f : FuncId) : (envF l m).Ω f = none := nr rfl
theorem envO_G (l : List (FuncId × Spec)) (m : List (FuncId × (List (List D) → FSpec))) (q : List (FuncId × Spec × TypeId × Nat)) (f : FuncId) : (envO l m q).Γ f = lkF l f := nr rfl
theorem envO_P (l : List (FuncId × Spec)) (m : List (FuncId × (List (List D) → FSpec))) (q : List (FuncId × Spec × TypeId × Nat)) (f : FuncId) : (envO l m q).Φ f = lkP m f := nr rfl
theorem envO_Q (l : List (FuncId × Spec)) (m : List (FuncId × (List (List D) → FSpec))) (q : List (FuncId × Spec × TypeId × Nat)) (f : FuncId) : (envO l m q).Ω f = lkQ q f := nr rfl
theorem lkQ_cons (l : List (FuncId × Spec × TypeId × Nat)) (f g : FuncId) (s : Spec × TypeId × Nat) : lkQ ((g, s) :: l) f = if f = g then some s else lkQ l f := nr rfl
theorem lkQ_nil (f : FuncId) : lkQ [] f = none := nr rfl
attribute [go_sem] envL_Q envF_Q envO_G envO_P envO_Q lkQ_cons lkQ_nil OwnK_some owD_some owD_ag owD_none owD_mu owD_co muA_cons
theorem envL_P (l : List (FuncId × Spec)) (f : FuncId) : (envL l).Φ f = none := nr rfl
theorem envF_G (l : List (FuncId × Spec)) (m : List (FuncId × (List (List D) → FSpec))) (f : FuncId) : (envF l m).Γ f = lkF l f := nr rfl
theorem envF_P (l : List (FuncId × Spec)) (m : List (FuncId × (List (List D) → FSpec))) (f : FuncId) : (envF l m).Φ f = lkP m f := nr rfl
theorem lkP_cons (l : List (FuncId × (List (List D) → FSpec))) (f g : FuncId) (φ : List (List D) → FSpec) : lkP ((g, φ) :: l) f = if f = g then some φ else lkP l f := nr rfl
theorem lkP_nil (f : FuncId) : lkP [] f = none := nr rfl
attribute [go_sem] envL_G lkF_cons envL_P envF_G envF_P lkP_cons lkP_nil
attribute [go_sem] inK_nil inK_cons keepL_nil keepL_cons ovr_eq shS_e listO_nil listO_cons setC_nil setC_box setC_arr setC_bld setC_mp setCs_nil setCs_cons
attribute [congr] OwnK_congr RN_congr ZS_congr LK_congr vcH_congr Sel_congr AllR_congr SK_congr AVk_congr GOk_congr Cnd_congr Gk_congr vcL_congr vc_congr
attribute [go_sem] W_eq AllR_eq AllR_eq' AllR_and AllR_ex AVk_some AVk_true AVk_none GOk_some GOk_none Cnd_bool Gk_bool_t Gk_bool_f Gk_tnil put_mk put_none newOb_mk purS_at delO_at noO_at swap_mk swS_at swP_at argS_zero argS_succ argS_nil init_mk trim_mk Sh_mk lk_cons lk_nil lkO_cons lkO_nil trimL_cons trimL_nil ev0_tmp ev0_const ev0_func ev0_global ev_def upd_apply
attribute [go_sem] L_nil L_guard L_move L_assign L_pick L_nilCheck L_bin L_un L_conv L_field L_faddr L_index L_idxA L_load L_extract L_build L_slice L_func L_buildS L_call L_len L_max L_min L_box L_alloc L_makeS L_store L_append
attribute [go_sem] C_skip C_label C_ret C_exit C_region C_block
attribute [go_sem ↓ 2000] Gk_1' Gk_2' Gk_3' Gk_4' Cnd_1' Cnd_2'
attribute [go_sem 2000] Gk_1 Gk_2 Gk_3 Gk_4 Cnd_1 Cnd_2
attribute [go_sem] RN_nil RN_cons preA_e preOk_e preAs_nil preAs_e preT_nil preT_a preT_c
attribute [go_sem] ZS_none ZS_some LK_nil LK_cons lkZ_nil lkZ_cons vcH_nil vcH_cons optL_nil optL_cons C_regionZ flatOp
attribute [go_sem ↓] C_regionZ' vcH_nil' vcH_cons'
attribute [go_sem] L_min3 L_max3 L_makeM L_mapU L_insert L_look
attribute [go_sem ↓] L_min3' L_max3' L_makeM' L_mapU' L_insert' L_look'
attribute [go_sem] newO_mk wrB_mk L_callT Sel_t Sel_f
attribute [go_sem ↓] L_callT' Sel_t' Sel_f'
attribute [go_sem ↓] AllR_and' AllR_ex' AVk_none' AVk_some' AVk_true' AllR_q C_block' C_condT' C_exit' C_label' C_region' C_ret' C_seq' C_skip' Cnd_bool' Gk_bool_f' Gk_bool_t' Gk_tnil' L_alloc' L_append' L_assign' L_bin' L_box' L_build' L_buildS' L_call' L_conv' L_extract' L_faddr' L_field' L_func' L_guard' L_idxA' L_index' L_len' L_load' L_makeS' L_max' L_min' L_move' L_nil' L_nilCheck' L_pick' L_slice' L_store' L_un' SK_some' SK_true'
attribute [go_sem] C_seq
attribute [go_sem ↓] cutAt_nil cutAt_cons headReg_region headReg_seq headReg_block headReg_loop headReg_cond headReg_skip headReg_ret headReg_exit headReg_label
attribute [go_sem] SK_some SK_true SK_none
attribute [go_sem] List.length_cons List.length_nil List.map_cons List.map_nil Bool.and_true Bool.true_and Bool.and_false Bool.false_and Bool.not_true Bool.not_false beq_self_eq_true bne_self_eq_false List.mem_cons List.not_mem_nil or_false forall_eq forall_eq_or_imp Bool.false_eq_true if_false if_true and_true true_and Option.some.injEq Nat.le_refl Nat.zero_add Nat.add_zero decide_true decide_false Option.map_some Option.map_none Option.bind_some List.all_cons List.all_nil List.any_cons List.any_nil Bool.or_false Bool.false_or ne_eq not_false_eq_true List.getD_cons_zero List.getD_cons_succ List.drop_zero List.take_zero List.drop_succ_cons List.take_succ_cons List.take_nil List.drop_nil List.getElem?_toArray List.getElem?_cons_zero List.getElem?_cons_succ imp_self
end Go.Avc

namespace Go.Avc.Eq
open Go Go.Avc
theorem swA_1 : type_of% @Go.Avc.swA.eq_1 := by intros; refine nr ?_; apply Go.Avc.swA.eq_1 <;> assumption
theorem swA_2 : type_of% @Go.Avc.swA.eq_2 := by intros; refine nr ?_; apply Go.Avc.swA.eq_2 <;> assumption
theorem swA_3 : type_of% @Go.Avc.swA.eq_3 := by intros; refine nr ?_; apply Go.Avc.swA.eq_3 <;> assumption
theorem swA_4 : type_of% @Go.Avc.swA.eq_4 := by intros; refine nr ?_; apply Go.Avc.swA.eq_4 <;> assumption
theorem swA_5 : type_of% @Go.Avc.swA.eq_5 := by intros; refine nr ?_; apply Go.Avc.swA.eq_5 <;> assumption
theorem swA_6 : type_of% @Go.Avc.swA.eq_6 := by intros; refine nr ?_; apply Go.Avc.swA.eq_6 <;> assumption
theorem swO_1 : type_of% @Go.Avc.swO.eq_1 := by intros; refine nr ?_; apply Go.Avc.swO.eq_1 <;> assumption
theorem swO_2 : type_of% @Go.Avc.swO.eq_2 := by intros; refine nr ?_; apply Go.Avc.swO.eq_2 <;> assumption
theorem swO_3 : type_of% @Go.Avc.swO.eq_3 := by intros; refine nr ?_; apply Go.Avc.swO.eq_3 <;> assumption
theorem swN_1 : type_of% @Go.Avc.swN.eq_1 := by intros; refine nr ?_; apply Go.Avc.swN.eq_1 <;> assumption
theorem kB_1 : type_of% @Go.Avc.kB.eq_1 := by intros; refine nr ?_; apply Go.Avc.kB.eq_1 <;> assumption
theorem bF_1 : type_of% @Go.Avc.bF.eq_1 := by intros; refine nr ?_; apply Go.Avc.bF.eq_1 <;> assumption
theorem fWB_1 : type_of% @Go.Avc.fWB.eq_1 := by intros; refine nr ?_; apply Go.Avc.fWB.eq_1 <;> assumption
theorem fWS_1 : type_of% @Go.Avc.fWS.eq_1 := by intros; refine nr ?_; apply Go.Avc.fWS.eq_1 <;> assumption
theorem fSt_1 : type_of% @Go.Avc.fSt.eq_1 := by intros; refine nr ?_; apply Go.Avc.fSt.eq_1 <;> assumption
theorem fLn_1 : type_of% @Go.Avc.fLn.eq_1 := by intros; refine nr ?_; apply Go.Avc.fLn.eq_1 <;> assumption
theorem bT_1 : type_of% @Go.Avc.bT.eq_1 := by intros; refine nr ?_; apply Go.Avc.bT.eq_1 <;> assumption
theorem bE_1 : type_of% @Go.Avc.bE.eq_1 := by intros; refine nr ?_; apply Go.Avc.bE.eq_1 <;> assumption
theorem bldArg_1 : type_of% @Go.Avc.bldArg.eq_1 := by intros; refine nr ?_; apply Go.Avc.bldArg.eq_1 <;> assumption
theorem vPick_1 : type_of% @Go.Avc.vPick.eq_1 := by intros; refine nr ?_; apply Go.Avc.vPick.eq_1 <;> assumption
theorem vNil_1 : type_of% @Go.Avc.vNil.eq_1 := by intros; refine nr ?_; apply Go.Avc.vNil.eq_1 <;> assumption
theorem vBin_1 : type_of% @Go.Avc.vBin.eq_1 := by intros; refine nr ?_; apply Go.Avc.vBin.eq_1 <;> assumption
theorem intBin_1 : type_of% @Go.Avc.intBin.eq_1 := by intros; refine nr ?_; apply Go.Avc.intBin.eq_1 <;> assumption
theorem intBin_2 : type_of% @Go.Avc.intBin.eq_2 := by intros; refine nr ?_; apply Go.Avc.intBin.eq_2 <;> assumption
theorem intBin_3 : type_of% @Go.Avc.intBin.eq_3 := by intros; refine nr ?_; apply Go.Avc.intBin.eq_3 <;> assumption
theorem intBin_4 : type_of% @Go.Avc.intBin.eq_4 := by intros; refine nr ?_; apply Go.Avc.intBin.eq_4 <;> assumption
theorem intBin_5 : type_of% @Go.Avc.intBin.eq_5 := by intros; refine nr ?_; apply Go.Avc.intBin.eq_5 <;> assumption
theorem intBin_6 : type_of% @Go.Avc.intBin.eq_6 := by intros; refine nr ?_; apply Go.Avc.intBin.eq_6 <;> assumption
theorem intBin_7 : type_of% @Go.Avc.intBin.eq_7 := by intros; refine nr ?_; apply Go.Avc.intBin.eq_7 <;> assumption
theorem intBin_8 : type_of% @Go.Avc.intBin.eq_8 := by intros; refine nr ?_; apply Go.Avc.intBin.eq_8 <;> assumption
theorem intBin_9 : type_of% @Go.Avc.intBin.eq_9 := by intros; refine nr ?_; apply Go.Avc.intBin.eq_9 <;> assumption
theorem intBin_10 : type_of% @Go.Avc.intBin.eq_10 := by intros; refine nr ?_; apply Go.Avc.intBin.eq_10 <;> assumption
theorem intBin_11 : type_of% @Go.Avc.intBin.eq_11 := by intros; refine nr ?_; apply Go.Avc.intBin.eq_11 <;> assumption
theorem intBin_12 : type_of% @Go.Avc.intBin.eq_12 := by intros; refine nr ?_; apply Go.Avc.intBin.eq_12 <;> assumption
theorem strBin_1 : type_of% @Go.Avc.strBin.eq_1 := by intros; refine nr ?_; apply Go.Avc.strBin.eq_1 <;> assumption
theorem strBin_2 : type_of% @Go.Avc.strBin.eq_2 := by intros; refine nr ?_; apply Go.Avc.strBin.eq_2 <;> assumption
theorem strBin_3 : type_of% @Go.Avc.strBin.eq_3 := by intros; refine nr ?_; apply Go.Avc.strBin.eq_3 <;> assumption
theorem strBin_4 : type_of% @Go.Avc.strBin.eq_4 := by intros; refine nr ?_; apply Go.Avc.strBin.eq_4 <;> assumption
theorem strBin_5 : type_of% @Go.Avc.strBin.eq_5 := by intros; refine nr ?_; apply Go.Avc.strBin.eq_5 <;> assumption
theorem strBin_6 : type_of% @Go.Avc.strBin.eq_6 := by intros; refine nr ?_; apply Go.Avc.strBin.eq_6 <;> assumption
theorem strBin_7 : type_of% @Go.Avc.strBin.eq_7 := by intros; refine nr ?_; apply Go.Avc.strBin.eq_7 <;> assumption
theorem strBin_8 : type_of% @Go.Avc.strBin.eq_8 := by intros; refine nr ?_; apply Go.Avc.strBin.eq_8 <;> assumption
theorem boolBin_1 : type_of% @Go.Avc.boolBin.eq_1 := by intros; refine nr ?_; apply Go.Avc.boolBin.eq_1 <;> assumption
theorem boolBin_2 : type_of% @Go.Avc.boolBin.eq_2 := by intros; refine nr ?_; apply Go.Avc.boolBin.eq_2 <;> assumption
theorem boolBin_3 : type_of% @Go.Avc.boolBin.eq_3 := by intros; refine nr ?_; apply Go.Avc.boolBin.eq_3 <;> assumption
theorem vUn_1 : type_of% @Go.Avc.vUn.eq_1 := by intros; refine nr ?_; apply Go.Avc.vUn.eq_1 <;> assumption
theorem vUn_2 : type_of% @Go.Avc.vUn.eq_2 := by intros; refine nr ?_; apply Go.Avc.vUn.eq_2 <;> assumption
theorem vUn_3 : type_of% @Go.Avc.vUn.eq_3 := by intros; refine nr ?_; apply Go.Avc.vUn.eq_3 <;> assumption
theorem vConv_1 : type_of% @Go.Avc.vConv.eq_1 := by intros; refine nr ?_; apply Go.Avc.vConv.eq_1 <;> assumption
theorem vField_1 : type_of% @Go.Avc.vField.eq_1 := by intros; refine nr ?_; apply Go.Avc.vField.eq_1 <;> assumption
theorem vFaddr_1 : type_of% @Go.Avc.vFaddr.eq_1 := by intros; refine nr ?_; apply Go.Avc.vFaddr.eq_1 <;> assumption
theorem vIndex_1 : type_of% @Go.Avc.vIndex.eq_1 := by intros; refine nr ?_; apply Go.Avc.vIndex.eq_1 <;> assumption
theorem vIdxA_1 : type_of% @Go.Avc.vIdxA.eq_1 := by intros; refine nr ?_; apply Go.Avc.vIdxA.eq_1 <;> assumption
theorem vLoad_1 : type_of% @Go.Avc.vLoad.eq_1 := by intros; refine nr ?_; apply Go.Avc.vLoad.eq_1 <;> assumption
theorem vExtract_1 : type_of% @Go.Avc.vExtract.eq_1 := by intros; refine nr ?_; apply Go.Avc.vExtract.eq_1 <;> assumption
theorem vBuild_1 : type_of% @Go.Avc.vBuild.eq_1 := by intros; refine nr ?_; apply Go.Avc.vBuild.eq_1 <;> assumption
theorem vSlice_1 : type_of% @Go.Avc.vSlice.eq_1 := by intros; refine nr ?_; apply Go.Avc.vSlice.eq_1 <;> assumption
theorem vFunc_1 : type_of% @Go.Avc.vFunc.eq_1 := by intros; refine nr ?_; apply Go.Avc.vFunc.eq_1 <;> assumption
theorem vBuildS_1 : type_of% @Go.Avc.vBuildS.eq_1 := by intros; refine nr ?_; apply Go.Avc.vBuildS.eq_1 <;> assumption
theorem gOwn_1 : type_of% @Go.Avc.gOwn.eq_1 := by intros; refine nr ?_; apply Go.Avc.gOwn.eq_1 <;> assumption
theorem oF_1 : type_of% @Go.Avc.oF.eq_1 := by intros; refine nr ?_; apply Go.Avc.oF.eq_1 <;> assumption
theorem hF_1 : type_of% @Go.Avc.hF.eq_1 := by intros; refine nr ?_; apply Go.Avc.hF.eq_1 <;> assumption
theorem mF_1 : type_of% @Go.Avc.mF.eq_1 := by intros; refine nr ?_; apply Go.Avc.mF.eq_1 <;> assumption
theorem isOwnA_1 : type_of% @Go.Avc.isOwnA.eq_1 := by intros; refine nr ?_; apply Go.Avc.isOwnA.eq_1 <;> assumption
theorem fO1_1 : type_of% @Go.Avc.fO1.eq_1 := by intros; refine nr ?_; apply Go.Avc.fO1.eq_1 <;> assumption
theorem EndsO_1 : type_of% @Go.Avc.EndsO.eq_1 := by intros; refine nr ?_; apply Go.Avc.EndsO.eq_1 <;> assumption
theorem fO2_1 : type_of% @Go.Avc.fO2.eq_1 := by intros; refine nr ?_; apply Go.Avc.fO2.eq_1 <;> assumption
theorem EndsZ_1 : type_of% @Go.Avc.EndsZ.eq_1 := by intros; refine nr ?_; apply Go.Avc.EndsZ.eq_1 <;> assumption
theorem zdat_nil (j : Nat) (lj : List (List D)) (i : Nat) : zdat j lj [] i = some [] := nr rfl
theorem zdat_cons (j : Nat) (lj : List (List D)) (c : AV) (r : List AV) (i : Nat) : zdat j lj (c :: r) i = match zdat j lj r (i + 1) with
    | some l => if i = j then some (.sl lj :: l) else match nrm c with
      | .dv (.d x) => some (x :: l)
      | _ => none
    | none => none := nr rfl
theorem litZ_nil (i : Nat) : litZ [] i = [] := nr rfl
theorem litZ_lit (e : TypeId) (m : List (List D)) (r : List AV) (i : Nat) : litZ (.lit e m :: r) i = if i < 1000 then (1000 * (e + 1) + i) :: litZ r (i + 1) else litZ r (i + 1) := nr rfl
theorem litZ_dv (x : DV) (r : List AV) (i : Nat) : litZ (.dv x :: r) i = litZ r (i + 1) := nr rfl
theorem litZ_n (r : List AV) (i : Nat) : litZ (.nil :: r) i = litZ r (i + 1) := nr rfl
theorem agA_nil (l : List D) : agA l [] = .dv (.ag l) := nr rfl
theorem agA_cons (l : List D) (z : Nat) (zs : List Nat) : agA l (z :: zs) = .agz l (z :: zs) := nr rfl
attribute [go_sem] litZ_nil litZ_lit litZ_dv litZ_n agA_nil agA_cons
theorem oneOwn_nil (i : Nat) : oneOwn [] i = none := nr rfl
theorem oneOwn_own (k : Nat) (r : List AV) (i : Nat) : oneOwn (.own k :: r) i = match allD r with
    | some l => some (.sl [] :: l, i, k)
    | none => none := nr rfl
theorem oneOwn_dv (x : DV) (r : List AV) (i : Nat) : oneOwn (.dv x :: r) i = match nrm (.dv x), oneOwn r (i + 1) with
    | .dv (.d x), some (l, j, k) => some (x :: l, j, k)
    | _, _ => none := nr rfl
theorem oneOwn_n (r : List AV) (i : Nat) : oneOwn (.nil :: r) i = match nrm .nil, oneOwn r (i + 1) with
    | .dv (.d x), some (l, j, k) => some (x :: l, j, k)
    | _, _ => none := nr rfl
theorem oneOwn_lit (e : TypeId) (m : List (List D)) (r : List AV) (i : Nat) : oneOwn (.lit e m :: r) i = match nrm (.lit e m), oneOwn r (i + 1) with
    | .dv (.d x), some (l, j, k) => some (x :: l, j, k)
    | _, _ => none := nr rfl
theorem oneOwn_ptr (k o : Nat) (r : List AV) (i : Nat) : oneOwn (.ptr k o :: r) i = none := nr rfl
theorem oneOwn_un (r : List AV) (i : Nat) : oneOwn (.un :: r) i = none := nr rfl
attribute [go_sem] oneOwn_nil oneOwn_own oneOwn_dv oneOwn_n oneOwn_lit oneOwn_ptr oneOwn_un
theorem ocells_nil (j k i : Nat) : ocells [] j k i = [] := nr rfl
theorem ocells_cons (x : D) (r : List D) (j k i : Nat) : ocells (x :: r) j k i = (if i = j then .own k else .dv (.d x)) :: ocells r j k (i + 1) := nr rfl
theorem cellsL_nil (σ : St) : cellsL σ .tnil = some [] := nr rfl
theorem cellsL_cons (σ : St) (x t : AV) : cellsL σ (.tcons x t) = if cellO σ x = true then (match cellsL σ t with
    | some l => some (x :: l)
    | none => none) else none := nr rfl
theorem cellO_dv (σ : St) (x : D) : cellO σ (.dv (.d x)) = true := nr rfl
theorem cellO_nil (σ : St) : cellO σ .nil = true := nr rfl
theorem cellO_own (σ : St) (k : Nat) : cellO σ (.own k) = match σ.o k with
    | some (.arr _ _ _) => true
    | _ => false := nr rfl
theorem cellsS_agv (σ : St) (t : AV) : cellsS σ (.agv t) = cellsL σ t := nr rfl
theorem purgeA_agv (d : Nat) (t : AV) : purgeA d (.agv t) = .agv (purgeA d t) := nr rfl
theorem swA_agv (k t : Nat) (r : AV) : swA k t (.agv r) = .agv (swA k t r) := nr rfl
theorem tlA_nil : tlA [] = .tnil := nr rfl
theorem tlA_cons (x : AV) (r : List AV) : tlA (x :: r) = .tcons x (tlA r) := nr rfl
theorem fillA_1 (place : Nat → Option (Nat × Nat)) (l : List AV) : fillA place l [] = some l := nr (by cases l <;> rfl)
theorem fillA_2 (place : Nat → Option (Nat × Nat)) (l : List AV) (i : Nat) (x : List AV) (r : List (Nat × List AV)) : fillA place l ((i, x) :: r) = match place i with
    | none => none
    | some (off, size) => if x.length = size ∧ off + size ≤ l.length then fillA place (spl l off x) r else none := nr (by cases l <;> rfl)
theorem partsC_nil (cx : Cx) (σ : St) : partsC cx σ [] = some [] := nr rfl
theorem partsC_cons (cx : Cx) (σ : St) (i : Nat) (x : Operand) (r : List (Nat × Operand)) : partsC cx σ ((i, x) :: r) = match partC cx σ x, partsC cx σ r with
    | some y, some l => some ((i, y) :: l)
    | _, _ => none := nr rfl
theorem partC_1 (cx : Cx) (σ : St) (x : Operand) : partC cx σ x = match ev cx σ x with
  | .own k => match σ.o k with
    | some (.arr _ _ _) => some [.own k]
    | _ => none
  | .dv (.d y) => some [.dv (.d y)]
  | .dv (.ag l) => some (l.map fun y => .dv (.d y))
  | _ => none := nr rfl
attribute [go_sem] cellsL_nil cellsL_cons cellO_dv cellO_nil cellO_own cellsS_agv purgeA_agv swA_agv tlA_nil tlA_cons fillA_1 fillA_2 partsC_nil partsC_cons partC_1
attribute [go_sem] gOwn_1 oF_1 hF_1 mF_1 isOwnA_1 fO1_1 EndsO_1 fO2_1 EndsZ_1 zdat_nil zdat_cons ocells_nil ocells_cons
theorem aggBin_1 : type_of% @Go.Avc.aggBin.eq_1 := by intros; refine nr ?_; apply Go.Avc.aggBin.eq_1 <;> assumption
theorem aggBin_2 : type_of% @Go.Avc.aggBin.eq_2 := by intros; refine nr ?_; apply Go.Avc.aggBin.eq_2 <;> assumption
theorem eqC_1 : type_of% @Go.Avc.eqC.eq_1 := by intros; refine nr ?_; apply Go.Avc.eqC.eq_1 <;> assumption
theorem eqC_2 : type_of% @Go.Avc.eqC.eq_2 := by intros; refine nr ?_; apply Go.Avc.eqC.eq_2 <;> assumption
theorem eq1_1 : type_of% @Go.Avc.eq1.eq_1 := by intros; refine nr ?_; apply Go.Avc.eq1.eq_1 <;> assumption
theorem eq1_2 : type_of% @Go.Avc.eq1.eq_2 := by intros; refine nr ?_; apply Go.Avc.eq1.eq_2 <;> assumption
theorem eq1_3 : type_of% @Go.Avc.eq1.eq_3 := by intros; refine nr ?_; apply Go.Avc.eq1.eq_3 <;> assumption
theorem D_ek_1 : type_of% @Go.Avc.D.ek.eq_1 := by intros; refine nr ?_; apply Go.Avc.D.ek.eq_1 <;> assumption
theorem D_ek_2 : type_of% @Go.Avc.D.ek.eq_2 := by intros; refine nr ?_; apply Go.Avc.D.ek.eq_2 <;> assumption
theorem D_ek_3 : type_of% @Go.Avc.D.ek.eq_3 := by intros; refine nr ?_; apply Go.Avc.D.ek.eq_3 <;> assumption
attribute [go_sem] aggBin_1 aggBin_2 eqC_1 eqC_2 eq1_1 eq1_2 eq1_3 D_ek_1 D_ek_2 D_ek_3
theorem gCall_1 : type_of% @Go.Avc.gCall.eq_1 := by intros; refine nr ?_; apply Go.Avc.gCall.eq_1 <;> assumption
theorem vLen_1 : type_of% @Go.Avc.vLen.eq_1 := by intros; refine nr ?_; apply Go.Avc.vLen.eq_1 <;> assumption
theorem vMax_1 : type_of% @Go.Avc.vMax.eq_1 := by intros; refine nr ?_; apply Go.Avc.vMax.eq_1 <;> assumption
theorem vMin_1 : type_of% @Go.Avc.vMin.eq_1 := by intros; refine nr ?_; apply Go.Avc.vMin.eq_1 <;> assumption
theorem cv_1 : type_of% @Go.Avc.cv.eq_1 := by intros; refine nr ?_; apply Go.Avc.cv.eq_1 <;> assumption
theorem cv_2 : type_of% @Go.Avc.cv.eq_2 := by intros; refine nr ?_; apply Go.Avc.cv.eq_2 <;> assumption
theorem cv_3 : type_of% @Go.Avc.cv.eq_3 := by intros; refine nr ?_; apply Go.Avc.cv.eq_3 <;> assumption
theorem cv_4 : type_of% @Go.Avc.cv.eq_4 := by intros; refine nr ?_; apply Go.Avc.cv.eq_4 <;> assumption
theorem cv_5 : type_of% @Go.Avc.cv.eq_5 := by intros; refine nr ?_; apply Go.Avc.cv.eq_5 <;> assumption
theorem nrm_1 : type_of% @Go.Avc.nrm.eq_1 := by intros; refine nr ?_; apply Go.Avc.nrm.eq_1 <;> assumption
theorem nrm_2 : type_of% @Go.Avc.nrm.eq_2 := by intros; refine nr ?_; apply Go.Avc.nrm.eq_2 <;> assumption
theorem nrm_3 : type_of% @Go.Avc.nrm.eq_3 := by intros; refine nr ?_; apply Go.Avc.nrm.eq_3 <;> assumption
theorem nrm_4 : type_of% @Go.Avc.nrm.eq_4 := by intros; refine nr ?_; apply Go.Avc.nrm.eq_4 <;> assumption
theorem toD_1 : type_of% @Go.Avc.toD.eq_1 := by intros; refine nr ?_; apply Go.Avc.toD.eq_1 <;> assumption
theorem toD_2 : type_of% @Go.Avc.toD.eq_2 := by intros; refine nr ?_; apply Go.Avc.toD.eq_2 <;> assumption
theorem nthT_1 : type_of% @Go.Avc.nthT.eq_1 := by intros; refine nr ?_; apply Go.Avc.nthT.eq_1 <;> assumption
theorem nthT_2 : type_of% @Go.Avc.nthT.eq_2 := by intros; refine nr ?_; apply Go.Avc.nthT.eq_2 <;> assumption
theorem nthT_3 : type_of% @Go.Avc.nthT.eq_3 := by intros; refine nr ?_; apply Go.Avc.nthT.eq_3 <;> assumption
theorem bnd_1 : type_of% @Go.Avc.bnd.eq_1 := by intros; refine nr ?_; apply Go.Avc.bnd.eq_1 <;> assumption
theorem bnd_2 : type_of% @Go.Avc.bnd.eq_2 := by intros; refine nr ?_; apply Go.Avc.bnd.eq_2 <;> assumption
theorem argsD_1 : type_of% @Go.Avc.argsD.eq_1 := by intros; refine nr ?_; apply Go.Avc.argsD.eq_1 <;> assumption
theorem argsD_2 : type_of% @Go.Avc.argsD.eq_2 := by intros; refine nr ?_; apply Go.Avc.argsD.eq_2 <;> assumption
theorem noOwn_1 : type_of% @Go.Avc.noOwn.eq_1 := by intros; refine nr ?_; apply Go.Avc.noOwn.eq_1 <;> assumption
theorem noOwn_2 : type_of% @Go.Avc.noOwn.eq_2 := by intros; refine nr ?_; apply Go.Avc.noOwn.eq_2 <;> assumption
theorem idxOk_1 : type_of% @Go.Avc.idxOk.eq_1 := by intros; refine nr ?_; apply Go.Avc.idxOk.eq_1 <;> assumption
theorem idxOk_2 : type_of% @Go.Avc.idxOk.eq_2 := by intros; refine nr ?_; apply Go.Avc.idxOk.eq_2 <;> assumption
theorem fillD_1 : type_of% @Go.Avc.fillD.eq_1 := by intros; refine nr ?_; apply Go.Avc.fillD.eq_1 <;> assumption
theorem fillD_2 : type_of% @Go.Avc.fillD.eq_2 := by intros; refine nr ?_; apply Go.Avc.fillD.eq_2 <;> assumption
theorem ksOf_1 : type_of% @Go.Avc.ksOf.eq_1 := by intros; refine nr ?_; apply Go.Avc.ksOf.eq_1 <;> assumption
theorem ksOf_2 : type_of% @Go.Avc.ksOf.eq_2 := by intros; refine nr ?_; apply Go.Avc.ksOf.eq_2 <;> assumption
theorem allD_1 : type_of% @Go.Avc.allD.eq_1 := by intros; refine nr ?_; apply Go.Avc.allD.eq_1 <;> assumption
theorem allD_2 : type_of% @Go.Avc.allD.eq_2 := by intros; refine nr ?_; apply Go.Avc.allD.eq_2 <;> assumption
theorem purgeA_1 : type_of% @Go.Avc.purgeA.eq_1 := by intros; refine nr ?_; apply Go.Avc.purgeA.eq_1 <;> assumption
theorem purgeA_2 : type_of% @Go.Avc.purgeA.eq_2 := by intros; refine nr ?_; apply Go.Avc.purgeA.eq_2 <;> assumption
theorem purgeA_3 : type_of% @Go.Avc.purgeA.eq_3 := by intros; refine nr ?_; apply Go.Avc.purgeA.eq_3 <;> assumption
theorem purgeA_4 : type_of% @Go.Avc.purgeA.eq_4 := by intros; refine nr ?_; apply Go.Avc.purgeA.eq_4 <;> assumption
theorem purgeA_5 : type_of% @Go.Avc.purgeA.eq_5 := by intros; refine nr ?_; apply Go.Avc.purgeA.eq_5 <;> assumption
theorem purgeA_6 : type_of% @Go.Avc.purgeA.eq_6 := by intros; refine nr ?_; apply Go.Avc.purgeA.eq_6 <;> assumption
theorem purgeO_1 : type_of% @Go.Avc.purgeO.eq_1 := by intros; refine nr ?_; apply Go.Avc.purgeO.eq_1 <;> assumption
theorem purgeO_2 : type_of% @Go.Avc.purgeO.eq_2 := by intros; refine nr ?_; apply Go.Avc.purgeO.eq_2 <;> assumption
theorem purgeO_3 : type_of% @Go.Avc.purgeO.eq_3 := by intros; refine nr ?_; apply Go.Avc.purgeO.eq_3 <;> assumption
theorem boxD_1 : type_of% @Go.Avc.boxD.eq_1 := by intros; refine nr ?_; apply Go.Avc.boxD.eq_1 <;> assumption
theorem capsD_1 : type_of% @Go.Avc.capsD.eq_1 := by intros; refine nr ?_; apply Go.Avc.capsD.eq_1 <;> assumption
theorem capsD_2 : type_of% @Go.Avc.capsD.eq_2 := by intros; refine nr ?_; apply Go.Avc.capsD.eq_2 <;> assumption
theorem argA_1 : type_of% @Go.Avc.argA.eq_1 := by intros; refine nr ?_; apply Go.Avc.argA.eq_1 <;> assumption
theorem argA_2 : type_of% @Go.Avc.argA.eq_2 := by intros; refine nr ?_; apply Go.Avc.argA.eq_2 <;> assumption
theorem argA_3 : type_of% @Go.Avc.argA.eq_3 := by intros; refine nr ?_; apply Go.Avc.argA.eq_3 <;> assumption
theorem argA_4 : type_of% @Go.Avc.argA.eq_4 := by intros; refine nr ?_; apply Go.Avc.argA.eq_4 <;> assumption
theorem argA_5 : type_of% @Go.Avc.argA.eq_5 := by intros; refine nr ?_; apply Go.Avc.argA.eq_5 <;> assumption
theorem argA_6 : type_of% @Go.Avc.argA.eq_6 := by intros; refine nr ?_; apply Go.Avc.argA.eq_6 <;> assumption
theorem argA_7 : type_of% @Go.Avc.argA.eq_7 := by intros; refine nr ?_; apply Go.Avc.argA.eq_7 <;> assumption
theorem argA_8 : type_of% @Go.Avc.argA.eq_8 := by intros; refine nr ?_; apply Go.Avc.argA.eq_8 <;> assumption
theorem argA_9 : type_of% @Go.Avc.argA.eq_9 := by intros; refine nr ?_; apply Go.Avc.argA.eq_9 <;> assumption
theorem argA_10 : type_of% @Go.Avc.argA.eq_10 := by intros; refine nr ?_; apply Go.Avc.argA.eq_10 <;> assumption
theorem argA_11 : type_of% @Go.Avc.argA.eq_11 := by intros; refine nr ?_; apply Go.Avc.argA.eq_11 <;> assumption
theorem lentX_own (k : Nat) : lentX (.own k) = true := nr rfl
theorem lentX_ptr (k o : Nat) : lentX (.ptr k o) = true := nr rfl
theorem lentX_dv (x : DV) : lentX (.dv x) = false := nr rfl
theorem lentX_fn (f : FuncId) (ks : List Nat) : lentX (.fn f ks) = false := nr rfl
theorem lentX_fv (sp : FSpec) : lentX (.fv sp) = false := nr rfl
theorem lentX_nil : lentX .nil = false := nr rfl
theorem lentX_lit (e : TypeId) (l : List (List D)) : lentX (.lit e l) = false := nr rfl
theorem lentX_dp (l : List D) : lentX (.dp l) = false := nr rfl
theorem lentX_st : lentX .st = false := nr rfl
attribute [go_sem] lentX_own lentX_ptr lentX_dv lentX_fn lentX_fv lentX_nil lentX_lit lentX_dp lentX_st
theorem lent_1 : type_of% @Go.Avc.lent.eq_1 := by intros; refine nr ?_; apply Go.Avc.lent.eq_1 <;> assumption
theorem lent_2 : type_of% @Go.Avc.lent.eq_2 := by intros; refine nr ?_; apply Go.Avc.lent.eq_2 <;> assumption
theorem lent_3 : type_of% @Go.Avc.lent.eq_3 := by intros; refine nr ?_; apply Go.Avc.lent.eq_3 <;> assumption
theorem lent_4 : type_of% @Go.Avc.lent.eq_4 := by intros; refine nr ?_; apply Go.Avc.lent.eq_4 <;> assumption
theorem dvs_1 : type_of% @Go.Avc.dvs.eq_1 := by intros; refine nr ?_; apply Go.Avc.dvs.eq_1 <;> assumption
theorem dvs_2 : type_of% @Go.Avc.dvs.eq_2 := by intros; refine nr ?_; apply Go.Avc.dvs.eq_2 <;> assumption
theorem dvs_3 : type_of% @Go.Avc.dvs.eq_3 := by intros; refine nr ?_; apply Go.Avc.dvs.eq_3 <;> assumption
theorem DV_cells_1 : type_of% @Go.Avc.DV.cells.eq_1 := by intros; refine nr ?_; apply Go.Avc.DV.cells.eq_1 <;> assumption
theorem DV_cells_2 : type_of% @Go.Avc.DV.cells.eq_2 := by intros; refine nr ?_; apply Go.Avc.DV.cells.eq_2 <;> assumption
theorem cellsS_1 : type_of% @Go.Avc.cellsS.eq_1 := by intros; refine nr ?_; apply Go.Avc.cellsS.eq_1 <;> assumption
theorem cellsS_2 : type_of% @Go.Avc.cellsS.eq_2 := by intros; refine nr ?_; apply Go.Avc.cellsS.eq_2 <;> assumption
theorem appRows_1 : type_of% @Go.Avc.appRows.eq_1 := by intros; refine nr ?_; apply Go.Avc.appRows.eq_1 <;> assumption
theorem Ends_1 : type_of% @Go.Avc.Ends.eq_1 := by intros; refine nr ?_; apply Go.Avc.Ends.eq_1 <;> assumption
theorem outA_1 : type_of% @Go.Avc.outA.eq_1 := by intros; refine nr ?_; apply Go.Avc.outA.eq_1 <;> assumption
theorem outA_2 : type_of% @Go.Avc.outA.eq_2 := by intros; refine nr ?_; apply Go.Avc.outA.eq_2 <;> assumption
theorem cellA_e (P : Program) (T : TypeId) (cs : List AV) : cellA P T cs = (match Tk P T with
  | some true => match allD cs with
    | some l => if l.length = P.cellsOf T ∧ P.cellsOf T ≠ 0 then some (.dv (.ag l)) else none
    | none => none
  | some false => match cs with
    | [c] => some c
    | _ => none
  | none => none) := nr (by unfold cellA; rfl)
theorem boxA_e (P : Program) (σ : St) (fresh : Bool) (T : TypeId) (k : Nat) : boxA P σ fresh T (.ptr k 0) = (match σ.o k with
    | some (.box _ cs) => (match retL σ fresh cs with
      | some ds => cellA P T ds
      | none => none)
    | _ => none) := nr (by unfold boxA; rfl)
theorem retL_1 : type_of% @Go.Avc.retL.eq_1 := by intros; refine nr ?_; apply Go.Avc.retL.eq_1 <;> assumption
theorem retL_2 : type_of% @Go.Avc.retL.eq_2 := by intros; refine nr ?_; apply Go.Avc.retL.eq_2 <;> assumption
theorem adoptS_1 : type_of% @Go.Avc.adoptS.eq_1 := by intros; refine nr ?_; apply Go.Avc.adoptS.eq_1 <;> assumption
theorem adOk_1 : type_of% @Go.Avc.adOk.eq_1 := by intros; refine nr ?_; apply Go.Avc.adOk.eq_1 <;> assumption
theorem adoptB_1 (S : Nat → AV) (O : Nat → Option Ob) (c : Nat) (p : Nat × TypeId × Nat) : adoptB ⟨S, O, c⟩ p = (match O ((p.1 - 10000) / 100) with
  | some (.box T cs) => (match cs[(p.1 - 10000) % 100]? with
    | some .nil => ⟨purS p.1 S, upd (upd (delO p.1 O) p.1 (some (.arr p.2.1 p.2.2 []))) ((p.1 - 10000) / 100) (some (.box T ((cs.map (purgeA p.1)).set ((p.1 - 10000) % 100) (.own p.1)))), c⟩
    | some (.own k) => if k = p.1 then ⟨S, O, c⟩ else St.swap ⟨S, O, c⟩ k p.1
    | _ => ⟨S, O, c⟩)
  | _ => ⟨S, O, c⟩) := nr (by unfold adoptB; rfl)
attribute [go_sem] retL_1 retL_2 adoptS_1 adOk_1 adoptB_1 List.set_cons_zero List.set_cons_succ List.getElem?_cons_zero List.getElem?_cons_succ
theorem resA_1 : type_of% @Go.Avc.resA.eq_1 := by intros; refine nr ?_; apply Go.Avc.resA.eq_1 <;> assumption
theorem resA_2 : type_of% @Go.Avc.resA.eq_2 := by intros; refine nr ?_; apply Go.Avc.resA.eq_2 <;> assumption
theorem ressA_1 : type_of% @Go.Avc.ressA.eq_1 := by intros; refine nr ?_; apply Go.Avc.ressA.eq_1 <;> assumption
theorem ressA_2 : type_of% @Go.Avc.ressA.eq_2 := by intros; refine nr ?_; apply Go.Avc.ressA.eq_2 <;> assumption
theorem retA_1 : type_of% @Go.Avc.retA.eq_1 := by intros; refine nr ?_; apply Go.Avc.retA.eq_1 <;> assumption
theorem retA_2 : type_of% @Go.Avc.retA.eq_2 := by intros; refine nr ?_; apply Go.Avc.retA.eq_2 <;> assumption
theorem retA_3 : type_of% @Go.Avc.retA.eq_3 := by intros; refine nr ?_; apply Go.Avc.retA.eq_3 <;> assumption
theorem retA_4 : type_of% @Go.Avc.retA.eq_4 := by intros; refine nr ?_; apply Go.Avc.retA.eq_4 <;> assumption
theorem retA_5 : type_of% @Go.Avc.retA.eq_5 := by intros; refine nr ?_; apply Go.Avc.retA.eq_5 <;> assumption
theorem retA_6 : type_of% @Go.Avc.retA.eq_6 := by intros; refine nr ?_; apply Go.Avc.retA.eq_6 <;> assumption
theorem retA_7 : type_of% @Go.Avc.retA.eq_7 := by intros; refine nr ?_; apply Go.Avc.retA.eq_7 <;> assumption
theorem nrm_5 : type_of% @Go.Avc.nrm.eq_5 := by intros; refine nr ?_; apply Go.Avc.nrm.eq_5 <;> assumption
theorem argA_12 : type_of% @Go.Avc.argA.eq_12 := by intros; refine nr ?_; apply Go.Avc.argA.eq_12 <;> assumption
theorem argA_13 : type_of% @Go.Avc.argA.eq_13 := by intros; refine nr ?_; apply Go.Avc.argA.eq_13 <;> assumption
theorem purgeA_7 : type_of% @Go.Avc.purgeA.eq_7 := by intros; refine nr ?_; apply Go.Avc.purgeA.eq_7 <;> assumption
theorem swA_7 : type_of% @Go.Avc.swA.eq_7 := by intros; refine nr ?_; apply Go.Avc.swA.eq_7 <;> assumption
theorem cellsS_3 : type_of% @Go.Avc.cellsS.eq_3 := by intros; refine nr ?_; apply Go.Avc.cellsS.eq_3 <;> assumption
theorem argA_14 : type_of% @Go.Avc.argA.eq_14 := by intros; refine nr ?_; apply Go.Avc.argA.eq_14 <;> assumption
theorem purgeA_8 : type_of% @Go.Avc.purgeA.eq_8 := by intros; refine nr ?_; apply Go.Avc.purgeA.eq_8 <;> assumption
theorem swA_8 : type_of% @Go.Avc.swA.eq_8 := by intros; refine nr ?_; apply Go.Avc.swA.eq_8 <;> assumption
theorem cellsS_4 : type_of% @Go.Avc.cellsS.eq_4 := by intros; refine nr ?_; apply Go.Avc.cellsS.eq_4 <;> assumption
attribute [go_sem] retA_7 nrm_5 argA_12 argA_13 purgeA_7 swA_7 cellsS_3 argA_14 purgeA_8 swA_8 cellsS_4
theorem flatV_1 : type_of% @Go.Avc.flatV.eq_1 := by intros; refine nr ?_; apply Go.Avc.flatV.eq_1 <;> assumption
theorem flatV_2 : type_of% @Go.Avc.flatV.eq_2 := by intros; refine nr ?_; apply Go.Avc.flatV.eq_2 <;> assumption
theorem D_flat_1 : type_of% @Go.Avc.D.flat.eq_1 := by intros; refine nr ?_; apply Go.Avc.D.flat.eq_1 <;> assumption
theorem D_flat_2 : type_of% @Go.Avc.D.flat.eq_2 := by intros; refine nr ?_; apply Go.Avc.D.flat.eq_2 <;> assumption
theorem At_1 : type_of% @Go.Avc.At.eq_1 := by intros; refine nr ?_; apply Go.Avc.At.eq_1 <;> assumption
theorem adopt_1 : type_of% @Go.Avc.adopt.eq_1 := by intros; refine nr ?_; apply Go.Avc.adopt.eq_1 <;> assumption
theorem adopt_2 : type_of% @Go.Avc.adopt.eq_2 := by intros; refine nr ?_; apply Go.Avc.adopt.eq_2 <;> assumption
theorem adopt1_1 : type_of% @Go.Avc.adopt1.eq_1 := by intros; refine nr ?_; apply Go.Avc.adopt1.eq_1 <;> assumption
theorem Fits_1 : type_of% @Go.Avc.Fits.eq_1 := by intros; refine nr ?_; apply Go.Avc.Fits.eq_1 <;> assumption
theorem fitL_1 : type_of% @Go.Avc.fitL.eq_1 := by intros; refine nr ?_; apply Go.Avc.fitL.eq_1 <;> assumption
theorem fitL_2 : type_of% @Go.Avc.fitL.eq_2 := by intros; refine nr ?_; apply Go.Avc.fitL.eq_2 <;> assumption
theorem fitO_1 : type_of% @Go.Avc.fitO.eq_1 := by intros; refine nr ?_; apply Go.Avc.fitO.eq_1 <;> assumption
theorem fitO_2 : type_of% @Go.Avc.fitO.eq_2 := by intros; refine nr ?_; apply Go.Avc.fitO.eq_2 <;> assumption
theorem fitC_1 : type_of% @Go.Avc.fitC.eq_1 := by intros; refine nr ?_; apply Go.Avc.fitC.eq_1 <;> assumption
theorem fitC_2 : type_of% @Go.Avc.fitC.eq_2 := by intros; refine nr ?_; apply Go.Avc.fitC.eq_2 <;> assumption
theorem fitOb_1 : type_of% @Go.Avc.fitOb.eq_1 := by intros; refine nr ?_; apply Go.Avc.fitOb.eq_1 <;> assumption
theorem fitOb_2 (σ : St) (ks : List Nat) (e : TypeId) (z : Nat) (l : List (List D)) (y : Ob) : fitOb σ ks (.arr e z l) y = (Ob.arr e z l = y) := nr (by cases y <;> rfl)
theorem fitOb_3 (σ : St) (ks : List Nat) (T : TypeId) (k : Nat) (y : Ob) : fitOb σ ks (.bld T k) y = (Ob.bld T k = y) := nr (by cases y <;> rfl)
theorem fitOb_4 (σ : St) (ks : List Nat) (T : TypeId) (l : List (D × D)) (y : Ob) : fitOb σ ks (.mp T l) y = (Ob.mp T l = y) := nr (by cases y <;> rfl)
theorem fitA_1 : type_of% @Go.Avc.fitA.eq_1 := by intros; refine nr ?_; apply Go.Avc.fitA.eq_1 <;> assumption
theorem fitA_2 : type_of% @Go.Avc.fitA.eq_2 := by intros; refine nr ?_; apply Go.Avc.fitA.eq_2 <;> assumption
theorem fitA_3 : type_of% @Go.Avc.fitA.eq_3 := by intros; refine nr ?_; apply Go.Avc.fitA.eq_3 <;> assumption
theorem sMM_d : type_of% @Go.Avc.sMM.eq_def := by intros; refine nr ?_; apply Go.Avc.sMM.eq_def <;> assumption
theorem sMU_d : type_of% @Go.Avc.sMU.eq_def := by intros; refine nr ?_; apply Go.Avc.sMU.eq_def <;> assumption
theorem vLook_d : type_of% @Go.Avc.vLook.eq_def := by intros; refine nr ?_; apply Go.Avc.vLook.eq_def <;> assumption
theorem mKey_d : type_of% @Go.Avc.mKey.eq_def := by intros; refine nr ?_; apply Go.Avc.mKey.eq_def <;> assumption
theorem keyS_1 (ks : List EK) (l : List D) : keyS (some ks) (.sl [l]) = decide (l.map D.ek = ks) := nr rfl
theorem dK_int (k : IntKind) (n : Int) : dK (.d (.int k n)) = .int k n := nr rfl
theorem dK_str (s : ByteArray) : dK (.d (.str s)) = .str s := nr rfl
theorem dK_bool (b : Bool) : dK (.d (.bool b)) = .bool b := nr rfl
theorem dK_ag (l : List D) : dK (.ag l) = .sl [l] := nr rfl
attribute [go_sem] keyS_1 dK_int dK_str dK_bool dK_ag
theorem keyD_str (s : ByteArray) : keyD .string (.str s) = true := nr rfl
theorem keyD_int (k k' : IntKind) (n : Int) : keyD (.int k') (.int k n) = decide (k = k') := nr rfl
theorem mFlat_str (s : ByteArray) : mFlat (.str s) = true := nr rfl
theorem mFlat_int (k : IntKind) (n : Int) : mFlat (.int k n) = true := nr rfl
theorem mFlat_bool (b : Bool) : mFlat (.bool b) = true := nr rfl
theorem purgeO_m (d : Nat) (T : TypeId) (l : List (D × D)) : purgeO d (.mp T l) = .mp T l := nr rfl
attribute [go_sem] purgeO_m Ob.mp.injEq
attribute [go_sem] sMM_d sMU_d vLook_d mKey_d keyD_str keyD_int mFlat_str mFlat_int mFlat_bool
theorem sBox_d : type_of% @Go.Avc.sBox.eq_def := by intros; refine nr ?_; apply Go.Avc.sBox.eq_def <;> assumption
theorem sAlloc_d : type_of% @Go.Avc.sAlloc.eq_def := by intros; refine nr ?_; apply Go.Avc.sAlloc.eq_def <;> assumption
theorem sMake_d : type_of% @Go.Avc.sMake.eq_def := by intros; refine nr ?_; apply Go.Avc.sMake.eq_def <;> assumption
theorem sStore_d : type_of% @Go.Avc.sStore.eq_def := by intros; refine nr ?_; apply Go.Avc.sStore.eq_def <;> assumption
theorem sApp_d : type_of% @Go.Avc.sApp.eq_def := by intros; refine nr ?_; apply Go.Avc.sApp.eq_def <;> assumption
theorem sAppS_d : type_of% @Go.Avc.sAppS.eq_def := by intros; refine nr ?_; apply Go.Avc.sAppS.eq_def <;> assumption
theorem sBld_d : type_of% @Go.Avc.sBld.eq_def := by intros; refine nr ?_; apply Go.Avc.sBld.eq_def <;> assumption
theorem sAllocB_d : type_of% @Go.Avc.sAllocB.eq_def := by intros; refine nr ?_; apply Go.Avc.sAllocB.eq_def <;> assumption
theorem partD_d : type_of% @Go.Avc.partD.eq_def := by intros; refine nr ?_; apply Go.Avc.partD.eq_def <;> assumption
attribute [go_sem] swA_1 swA_2 swA_3 swA_4 swA_5 swA_6 swO_1 swO_2 swO_3 swN_1 kB_1 bF_1 fWB_1 fWS_1 fSt_1 fLn_1 bT_1 bE_1 bldArg_1
attribute [go_sem] vPick_1 vNil_1 vBin_1 intBin_1 intBin_2 intBin_3 intBin_4 intBin_5 intBin_6 intBin_7 intBin_8 intBin_9 intBin_10 intBin_11 intBin_12 strBin_1 strBin_2
attribute [go_sem] strBin_3 strBin_4 strBin_5 strBin_6 strBin_7 strBin_8 boolBin_1 boolBin_2 boolBin_3 vUn_1 vUn_2 vUn_3 vConv_1 vField_1 vFaddr_1 vIndex_1 vIdxA_1 vLoad_1 vExtract_1 vBuild_1
attribute [go_sem] vSlice_1 vFunc_1 vBuildS_1 gCall_1 vLen_1 vMax_1 vMin_1 cv_1 cv_2 cv_3 cv_4 cv_5 nrm_1 nrm_2 nrm_3 nrm_4 toD_1 toD_2
attribute [go_sem] nthT_1 nthT_2 nthT_3 bnd_1 bnd_2 argsD_1 argsD_2 noOwn_1 noOwn_2 idxOk_1 idxOk_2 fillD_1 fillD_2 ksOf_1 ksOf_2 allD_1 allD_2 purgeA_1 purgeA_2 purgeA_3
attribute [go_sem] purgeA_4 purgeA_5 purgeA_6 purgeO_1 purgeO_2 purgeO_3 boxD_1 capsD_1 capsD_2 argA_1 argA_2 argA_3 argA_4 argA_5 argA_6 argA_7 argA_8 argA_9 argA_10 argA_11
attribute [go_sem] lent_1 lent_2 lent_3 lent_4 dvs_1 dvs_2 dvs_3 DV_cells_1 DV_cells_2 cellsS_1 cellsS_2
attribute [go_sem] appRows_1 Ends_1 outA_1 outA_2 cellA_e boxA_e resA_1 resA_2 ressA_1 ressA_2 retA_1 retA_2 retA_3 retA_4 retA_5 retA_6 flatV_1 flatV_2
attribute [go_sem] D_flat_1 D_flat_2 At_1 adopt_1 adopt_2 adopt1_1 Fits_1 fitL_1 fitL_2 fitO_1 fitO_2 fitC_1 fitC_2 fitOb_1 fitOb_2 fitOb_3 fitOb_4 fitA_1 fitA_2 fitA_3
attribute [go_sem] sBox_d
attribute [go_sem] sAlloc_d
attribute [go_sem] sMake_d
attribute [go_sem] sStore_d
attribute [go_sem] sApp_d
attribute [go_sem] sAppS_d
attribute [go_sem] sBld_d
attribute [go_sem] sAllocB_d
attribute [go_sem] partD_d
theorem vMin3_1 : type_of% @Go.Avc.vMin3.eq_1 := by intros; refine nr ?_; apply Go.Avc.vMin3.eq_1 <;> assumption
attribute [go_sem] vMin3_1
theorem vMax3_1 : type_of% @Go.Avc.vMax3.eq_1 := by intros; refine nr ?_; apply Go.Avc.vMax3.eq_1 <;> assumption
attribute [go_sem] vMax3_1
theorem fFi_1 : type_of% @Go.Avc.fFi.eq_1 := by intros; refine nr ?_; apply Go.Avc.fFi.eq_1 <;> assumption
theorem tFi_1 : type_of% @Go.Avc.tFi.eq_1 := by intros; refine nr ?_; apply Go.Avc.tFi.eq_1 <;> assumption
attribute [go_sem] fFi_1 tFi_1
theorem zRow_d : type_of% @Go.Avc.zRow.eq_def := by intros; refine nr ?_; apply Go.Avc.zRow.eq_def <;> assumption
attribute [go_sem] zRow_d
theorem zD_d : type_of% @Go.Avc.zD.eq_def := by intros; refine nr ?_; apply Go.Avc.zD.eq_def <;> assumption
attribute [go_sem] zD_d
attribute [go_sem] List.headD_cons
theorem spl_d : type_of% @Go.Avc.spl.eq_def := by intros; refine nr ?_; apply Go.Avc.spl.eq_def <;> assumption
theorem cellsA_d (x : D) : cellsA (.dv (.d x)) = some [.dv (.d x)] := nr rfl
theorem cellsA_ag (l : List D) : cellsA (.dv (.ag l)) = some (l.map fun x => .dv (.d x)) := nr rfl
theorem cellsA_ptr (k o : Nat) : cellsA (.ptr k o) = some [.ptr k o] := nr rfl
theorem cellsA_dp (l : List D) : cellsA (.dp l) = some [.dp l] := nr rfl
theorem cellsA_st : cellsA .st = some [.st] := nr rfl
theorem cellsA_fn (f : FuncId) (ks : List Nat) : cellsA (.fn f ks) = some [.fn f ks] := nr rfl
theorem cellsA_fv (sp : FSpec) : cellsA (.fv sp) = some [.fv sp] := nr rfl
theorem cellsA_nil : cellsA .nil = some [.nil] := nr rfl
theorem cellsA_lit (e : TypeId) (l : List (List D)) : cellsA (.lit e l) = some [.lit e l] := nr rfl
theorem cellsA_agz (l : List D) (zs : List Nat) : cellsA (.agz l zs) = some (zcells zs l 0) := nr rfl
theorem memN_nil (j : Nat) : memN [] j = false := nr rfl
theorem memN_cons (u : Nat) (r : List Nat) (j : Nat) : memN (u :: r) j = if u = j then true else memN r j := nr rfl
attribute [go_sem] memN_nil memN_cons
theorem zcells_nil (zs : List Nat) (j : Nat) : zcells zs [] j = [] := nr rfl
theorem zcells_cons (zs : List Nat) (x : D) (r : List D) (j : Nat) : zcells zs (x :: r) j = (if memN zs j = true ∧ j < 1000 then .nil else match litE zs j with
    | some e => litc e x
    | none => .dv (.d x)) :: zcells zs r (j + 1) := nr rfl
theorem litE_nil (j : Nat) : litE [] j = none := nr rfl
theorem litE_cons (u : Nat) (r : List Nat) (j : Nat) : litE (u :: r) j = if 1000 ≤ u then (if u % 1000 = j then some (u / 1000 - 1) else litE r j) else litE r j := by
  refine nr ?_
  show (if 1000 ≤ u ∧ u % 1000 = j then some (u / 1000 - 1) else litE r j) = _
  by_cases a : 1000 ≤ u
  · by_cases b : u % 1000 = j
    · rw [if_pos ⟨a, b⟩, if_pos a, if_pos b]
    · rw [if_neg (fun e => b e.2), if_pos a, if_neg b]
  · rw [if_neg (fun e => a e.1), if_neg a]
attribute [go_sem] litE_nil litE_cons
theorem litc_sl (e : TypeId) (l : List (List D)) : litc e (.sl l) = .lit e l := nr rfl
theorem litc_i (e : TypeId) (k : IntKind) (n : Int) : litc e (.int k n) = .dv (.d (.int k n)) := nr rfl
theorem litc_s (e : TypeId) (b : ByteArray) : litc e (.str b) = .dv (.d (.str b)) := nr rfl
theorem litc_b (e : TypeId) (b : Bool) : litc e (.bool b) = .dv (.d (.bool b)) := nr rfl
theorem litsF_nil (cx : Cx) (σ : St) (pl : List (Nat × Nat)) : litsF cx σ pl [] = [] := nr rfl
theorem litsF_cons (cx : Cx) (σ : St) (pl : List (Nat × Nat)) (i : Nat) (x : Operand) (r : List (Nat × Operand)) : litsF cx σ pl ((i, x) :: r) = match ev0 cx σ x, pl[i]? with
    | .lit e _, some (off, 1) => if cov pl (r.map (·.1)) off = true ∨ 1000 ≤ off then litsF cx σ pl r else (1000 * (e + 1) + off) :: litsF cx σ pl r
    | _, _ => litsF cx σ pl r := nr rfl
attribute [go_sem] litc_sl litc_i litc_s litc_b litsF_nil litsF_cons
theorem cov_nil (pl : List (Nat × Nat)) (j : Nat) : cov pl [] j = false := nr rfl
theorem cov_cons (pl : List (Nat × Nat)) (i : Nat) (is : List Nat) (j : Nat) : cov pl (i :: is) j = (match pl[i]? with
    | some p => if p.1 ≤ j ∧ j < p.1 + p.2 then true else cov pl is j
    | none => true) := nr rfl
theorem nilsF_nil (pl : List (Nat × Nat)) (is : List Nat) (j : Nat) : nilsF pl is [] j = [] := nr rfl
theorem nilsF_n (pl : List (Nat × Nat)) (is : List Nat) (r : List AV) (j : Nat) : nilsF pl is (.nil :: r) j = if cov pl is j = true ∨ 1000 ≤ j then nilsF pl is r (j + 1) else j :: nilsF pl is r (j + 1) := nr rfl
theorem nilsF_dv (pl : List (Nat × Nat)) (is : List Nat) (x : DV) (r : List AV) (j : Nat) : nilsF pl is (.dv x :: r) j = nilsF pl is r (j + 1) := nr rfl
theorem zeroAV_e {P : Program} {t : TypeId} {l : List AV} (h : TzeroA P t = some l) : zeroAV P t = l := nr (by
  unfold TzeroA at h
  unfold zeroAV
  split at h
  · rename_i i hi
    split at h
    · rename_i z hz
      first
        | (simp only [hi, hz]
           exact Option.some.inj h)
        | exact Option.some.inj h
        | (simp_all)
    · cases h
  · cases h)
attribute [go_sem] cellsA_agz zcells_nil zcells_cons cov_nil cov_cons nilsF_nil nilsF_n nilsF_dv
theorem hasUn_nil : hasUn [] = false := nr rfl
theorem hasUn_un (r : List AV) : hasUn (.un :: r) = true := nr rfl
theorem hasUn_dv (x : DV) (r : List AV) : hasUn (.dv x :: r) = hasUn r := nr rfl
theorem hasUn_n (r : List AV) : hasUn (.nil :: r) = hasUn r := nr rfl
attribute [go_sem] spl_d cellsA_d cellsA_ag cellsA_ptr cellsA_dp cellsA_st cellsA_fn cellsA_fv cellsA_nil cellsA_lit hasUn_nil hasUn_un hasUn_dv hasUn_n List.cons_append List.nil_append List.append_nil
end Go.Avc.Eq
