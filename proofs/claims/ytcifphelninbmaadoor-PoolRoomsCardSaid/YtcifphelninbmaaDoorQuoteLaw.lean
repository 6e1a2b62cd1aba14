/- Quoting: plain functions over lists of numbers, and that the program's and the reference's reading agree. No condition. -/
import Derived.Test.YtcifphelninbmaaDoorStr
set_option linter.unusedVariables false
set_option linter.unusedSimpArgs false
namespace Go.Avc

def hexL : List Int := [48, 49, 50, 51, 52, 53, 54, 55, 56, 57, 97, 98, 99, 100, 101, 102]
def hexS : ByteArray := ⟨#[48, 49, 50, 51, 52, 53, 54, 55, 56, 57, 97, 98, 99, 100, 101, 102]⟩
theorem bl_hex : bl hexS = hexL := by decide
/-- Where a number stands in a list, or -1. -/
def ixL : List Int → Int → Int
  | [], _ => -1
  | b :: l, c => if b = c then 0 else if ixL l c = -1 then -1 else ixL l c + 1
def hid (c : Int) : Bool := (decide (c < 33) && (c != 10)) || decide (c ≥ 127)
/-- One byte quoted. -/
def q1 (c : Int) : List Int := if c = 34 ∨ c = 92 then [92, c] else if c = 10 then [92, 110] else if c < 33 ∨ c > 126 then [92, 120, hexL.getD (c / 16).toNat 0, hexL.getD (c % 16).toNat 0] else [c]
def quotedL (l : List Int) : List Int := 34 :: (l.flatMap q1 ++ [34])
theorem q1_len (c : Int) : 1 ≤ (q1 c).length ∧ (q1 c).length ≤ 4 := by
  unfold q1
  repeat' split
  all_goals simp
theorem hex_bs (k : Nat) : 0 ≤ hexL.getD k 0 ∧ hexL.getD k 0 ≤ 255 := by
  by_cases h : k < 16
  · have : ∀ k < 16, 0 ≤ hexL.getD k 0 ∧ hexL.getD k 0 ≤ 255 := by decide
    exact this k h
  · rw [List.getD_eq_getElem?_getD, List.getElem?_eq_none (by simp [hexL]; omega)]
    decide
theorem q1_bs {c : Int} (h : 0 ≤ c ∧ c ≤ 255) : isBs (q1 c) := by
  unfold q1
  have h1 := hex_bs (c / 16).toNat
  have h2 := hex_bs (c % 16).toNat
  repeat' split
  all_goals simp only [isBs_cons, isBs_nil, and_true]; omega
theorem quotedL_bs {l : List Int} (h : isBs l) : isBs (quotedL l) := by
  unfold quotedL
  rw [isBs_cons, isBs_append, isBs_cons]
  refine ⟨by omega, ?_, by omega, isBs_nil⟩
  intro x hx
  obtain ⟨c, hc, hx⟩ := List.mem_flatMap.1 hx
  exact q1_bs (h c hc) x hx
theorem flatMap_len (l : List Int) : (l.flatMap q1).length ≤ 4 * l.length := by
  induction l with
  | nil => simp
  | cons x r ih =>
    rw [List.flatMap_cons, List.length_append, List.length_cons]
    have := (q1_len x).2
    omega
/-- What stands behind a backslash. -/
def escL : List Int → Int × Int
  | [] => (0, 0)
  | c :: r => if c = 34 ∨ c = 92 then (c, 1) else if c = 110 then (10, 1) else if c = 120 then (match r with
    | a :: b :: _ => if ixL hexL a < 0 ∨ ixL hexL b < 0 then (0, 0) else if hid (16 * ixL hexL a + ixL hexL b) = true then (16 * ixL hexL a + ixL hexL b, 3) else (0, 0)
    | _ => (0, 0)) else (0, 0)
/-- The program's reading: the bytes, and how many are left at the closing sign. -/
def unqL : Nat → List Int → List Int → Option (List Int × Nat)
  | 0, _, _ => none
  | _ + 1, [], _ => none
  | k + 1, c :: r, acc => if c = 34 then some (acc, r.length + 1) else if c = 92 then (if (escL r).2 = 0 then none else unqL k (r.drop (escL r).2.toNat) (acc ++ [(escL r).1])) else if hid c = true ∨ c = 10 then none else unqL k r (acc ++ [c])
/-- The first byte whose quoted form stands in front. -/
def findC (rest : List Int) : Option Int := ((List.range 256).find? fun (x : Nat) => (q1 (x : Int)).isPrefixOf rest).map fun (x : Nat) => (x : Int)
/-- The reference's reading. -/
def unqR : Nat → List Int → List Int → Option (List Int × Nat)
  | 0, _, _ => none
  | _ + 1, [], _ => none
  | k + 1, c :: r, acc => if c = 34 then some (acc, r.length + 1) else match findC (c :: r) with
    | none => none
    | some x => unqR k ((c :: r).drop (q1 x).length) (acc ++ [x])

theorem ixL_ge (l : List Int) (c : Int) : -1 ≤ ixL l c := by
  induction l with
  | nil => simp [ixL]
  | cons x r ih => unfold ixL; repeat' split
                   all_goals omega
theorem ixL_lt (l : List Int) (c : Int) : ixL l c < l.length := by
  induction l with
  | nil => simp [ixL]
  | cons x r ih => unfold ixL; rw [List.length_cons]; repeat' split
                   all_goals omega
theorem ixL_get (l : List Int) (c : Int) (h : 0 ≤ ixL l c) : l.getD (ixL l c).toNat 0 = c := by
  induction l with
  | nil => simp [ixL] at h
  | cons x r ih =>
    unfold ixL at h ⊢
    by_cases h1 : x = c
    · rw [if_pos h1]; simpa using h1
    · rw [if_neg h1] at h ⊢
      by_cases h2 : ixL r c = -1
      · rw [if_pos h2] at h; omega
      · rw [if_neg h2] at h ⊢
        have h3 := ixL_ge r c
        rw [show (ixL r c + 1).toNat = (ixL r c).toNat + 1 by omega, List.getD_cons_succ]
        exact ih (by omega)
theorem ix_hex {k : Nat} (h : k < 16) : ixL hexL (hexL.getD k 0) = k := by
  have : ∀ k < 16, ixL hexL (hexL.getD k 0) = (k : Int) := by decide
  exact this k h
theorem hid_iff (c : Int) : hid c = true ↔ (c < 33 ∧ c ≠ 10) ∨ 127 ≤ c := by
  unfold hid; simp

/-- The step of the program's reading. -/
def stepL : List Int → Option (Int × Nat)
  | [] => none
  | c :: r => if c = 92 then (if (escL r).2 = 0 then none else some ((escL r).1, 1 + (escL r).2.toNat)) else if hid c = true ∨ c = 10 then none else some (c, 1)

theorem step_cons (c : Int) (r : List Int) : stepL (c :: r) = if c = 92 then (if (escL r).2 = 0 then none else some ((escL r).1, 1 + (escL r).2.toNat)) else if hid c = true ∨ c = 10 then none else some (c, 1) := rfl
theorem step_of_pref {x : Int} (hx : 0 ≤ x ∧ x ≤ 255) {rest : List Int} (h : q1 x <+: rest) : stepL rest = some (x, (q1 x).length) := by
  obtain ⟨t, rfl⟩ := h
  unfold q1
  by_cases h1 : x = 34 ∨ x = 92
  · rw [if_pos h1]
    simp only [List.cons_append, List.nil_append, stepL, escL, if_true, if_pos h1]
    simp
  · rw [if_neg h1]
    by_cases h2 : x = 10
    · rw [if_pos h2, h2]
      simp [stepL, escL]
    · rw [if_neg h2]
      by_cases h3 : x < 33 ∨ x > 126
      · rw [if_pos h3]
        have ha : ixL hexL (hexL.getD (x / 16).toNat 0) = x / 16 := by rw [ix_hex (by omega)]; omega
        have hb : ixL hexL (hexL.getD (x % 16).toNat 0) = x % 16 := by rw [ix_hex (by omega)]; omega
        have hs : 16 * (x / 16) + x % 16 = x := by omega
        have hh : hid x = true := (hid_iff x).2 (by omega)
        have h7 : ¬ (x / 16 < 0 ∨ x % 16 < 0) := by omega
        simp only [List.cons_append, List.nil_append, stepL, escL, if_true, ha, hb, hs, hh, if_neg h7]
        simp
      · rw [if_neg h3]
        have hh : ¬ (hid x = true ∨ x = 10) := by rw [hid_iff]; omega
        simp only [List.cons_append, List.nil_append, stepL, if_neg hh]
        rw [if_neg (by omega)]
        rfl
theorem pref_of_step {x : Int} {n : Nat} {rest : List Int} (hr : isBs rest) (h34 : rest.head? ≠ some 34) (h : stepL rest = some (x, n)) : q1 x <+: rest ∧ 0 ≤ x ∧ x ≤ 255 := by
  cases rest with
  | nil => cases h
  | cons c r =>
    have hc := (isBs_cons.1 hr).1
    have hr' := (isBs_cons.1 hr).2
    have hc34 : c ≠ 34 := fun e => h34 (by rw [e]; rfl)
    rw [step_cons] at h
    by_cases h1 : c = 92
    · rw [if_pos h1] at h
      by_cases h2 : (escL r).2 = 0
      · rw [if_pos h2] at h; cases h
      · rw [if_neg h2] at h
        simp only [Option.some.injEq, Prod.mk.injEq] at h
        obtain ⟨hx, _⟩ := h
        subst hx
        subst h1
        cases r with
        | nil => simp [escL] at h2
        | cons d r =>
          have hd := (isBs_cons.1 hr').1
          unfold escL at h2 ⊢
          by_cases h3 : d = 34 ∨ d = 92
          · simp only [if_pos h3] at h2 ⊢
            refine ⟨?_, hd⟩
            unfold q1
            rw [if_pos h3]
            exact ⟨r, rfl⟩
          · simp only [if_neg h3] at h2 ⊢
            by_cases h4 : d = 110
            · simp only [if_pos h4] at h2 ⊢
              refine ⟨?_, by omega⟩
              unfold q1
              simp only [h4]
              exact ⟨r, rfl⟩
            · simp only [if_neg h4] at h2 ⊢
              by_cases h5 : d = 120
              · simp only [if_pos h5] at h2 ⊢
                match r with
                | [] => simp at h2
                | [_] => simp at h2
                | a :: b :: t =>
                  simp only at h2 ⊢
                  by_cases h6 : ixL hexL a < 0 ∨ ixL hexL b < 0
                  · rw [if_pos h6] at h2; simp at h2
                  · rw [if_neg h6] at h2 ⊢
                    by_cases h7 : hid (16 * ixL hexL a + ixL hexL b) = true
                    · rw [if_pos h7] at h2 ⊢
                      simp only
                      have ha := ixL_lt hexL a
                      have hb := ixL_lt hexL b
                      have hl : (hexL.length : Int) = 16 := by decide
                      have h8 := (hid_iff _).1 h7
                      refine ⟨?_, by omega, by omega⟩
                      unfold q1
                      rw [if_neg (by omega), if_neg (by omega), if_pos (by omega)]
                      have e1 : (16 * ixL hexL a + ixL hexL b) / 16 = ixL hexL a := by omega
                      have e2 : (16 * ixL hexL a + ixL hexL b) % 16 = ixL hexL b := by omega
                      rw [e1, e2, ixL_get _ _ (by omega), ixL_get _ _ (by omega), h5]
                      exact ⟨t, rfl⟩
                    · rw [if_neg h7] at h2; simp at h2
              · simp only [if_neg h5] at h2
                simp at h2
    · rw [if_neg h1] at h
      by_cases h2 : hid c = true ∨ c = 10
      · rw [if_pos h2] at h; cases h
      · rw [if_neg h2] at h
        simp only [Option.some.injEq, Prod.mk.injEq] at h
        obtain ⟨hx, _⟩ := h
        subst hx
        rw [hid_iff] at h2
        refine ⟨?_, hc⟩
        unfold q1
        rw [if_neg (by omega), if_neg (by omega), if_neg (by omega)]
        exact ⟨r, rfl⟩

theorem find_step {rest : List Int} (hr : isBs rest) (h34 : rest.head? ≠ some 34) : findC rest = (stepL rest).map (·.1) := by
  unfold findC
  cases hs : stepL rest with
  | none =>
    have : ((List.range 256).find? fun (x : Nat) => (q1 (x : Int)).isPrefixOf rest) = none := by
      rw [List.find?_eq_none]
      intro x hx hp
      have hx' : x < 256 := by simpa using hx
      rw [step_of_pref (x := (x : Int)) (by omega) (List.isPrefixOf_iff_prefix.1 hp)] at hs
      cases hs
    rw [this]; rfl
  | some p =>
    obtain ⟨x, n⟩ := p
    obtain ⟨hp, h0, h1⟩ := pref_of_step hr h34 hs
    have hex : ∃ y, ((List.range 256).find? fun (x : Nat) => (q1 (x : Int)).isPrefixOf rest) = some y := by
      rw [← Option.isSome_iff_exists, List.find?_isSome]
      exact ⟨x.toNat, by simp; omega, by rw [show ((x.toNat : Nat) : Int) = x by omega]; exact List.isPrefixOf_iff_prefix.2 hp⟩
    obtain ⟨y, hy⟩ := hex
    have hy1 := List.find?_some hy
    have hy2 : y < 256 := by have := List.mem_of_find?_eq_some hy; simpa using this
    have := step_of_pref (x := (y : Int)) (by omega) (List.isPrefixOf_iff_prefix.1 hy1)
    rw [hs] at this
    simp only [Option.some.injEq, Prod.mk.injEq] at this
    rw [hy]
    simp [this.1]
/-- The two readings agree. -/
theorem unq_same : ∀ (k : Nat) (rest acc : List Int), isBs rest → unqL k rest acc = unqR k rest acc
  | 0, _, _, _ => rfl
  | _ + 1, [], _, _ => rfl
  | k + 1, c :: r, acc, h => by
    unfold unqL unqR
    by_cases h1 : c = 34
    · rw [if_pos h1, if_pos h1]
    · rw [if_neg h1, if_neg h1]
      have h34 : (c :: r).head? ≠ some 34 := by simpa using h1
      rw [find_step h h34]
      have hstep : stepL (c :: r) = if c = 92 then (if (escL r).2 = 0 then none else some ((escL r).1, 1 + (escL r).2.toNat)) else if hid c = true ∨ c = 10 then none else some (c, 1) := rfl
      by_cases h2 : c = 92
      · rw [if_pos h2] at hstep ⊢
        by_cases h3 : (escL r).2 = 0
        · rw [if_pos h3] at hstep ⊢
          rw [hstep]; rfl
        · rw [if_neg h3] at hstep ⊢
          rw [hstep]
          simp only [Option.map_some]
          obtain ⟨hp, h0, h5⟩ := pref_of_step h h34 hstep
          have := step_of_pref ⟨h0, h5⟩ hp
          rw [hstep] at this
          simp only [Option.some.injEq, Prod.mk.injEq, true_and] at this
          rw [← this, Nat.add_comm 1, List.drop_succ_cons]
          exact unq_same k _ _ (isBs_drop (isBs_cons.1 h).2 _)
      · rw [if_neg h2] at hstep ⊢
        by_cases h3 : hid c = true ∨ c = 10
        · rw [if_pos h3] at hstep ⊢
          rw [hstep]; rfl
        · rw [if_neg h3] at hstep ⊢
          rw [hstep]
          simp only [Option.map_some]
          obtain ⟨hp, h0, h5⟩ := pref_of_step h h34 hstep
          have := step_of_pref ⟨h0, h5⟩ hp
          rw [hstep] at this
          simp only [Option.some.injEq, Prod.mk.injEq, true_and] at this
          rw [← this, List.drop_succ_cons, List.drop_zero]
          exact unq_same k _ _ (isBs_cons.1 h).2
end Go.Avc
