/- The stream's Next and Below, walked: what they answer and what they leave as it was. No condition. -/
import Derived.Test.YtcifphelninbmaaDoorChecked
import Derived.Below
import Derived.Deep.Draws
import Derived.Tactics
import Derived.WalkKit
import Derived.KernelRfl
import Derived.RowKit3
import Derived.Deep.QuietTactic
import Derived.BigQuiet
import Derived.WideLaws
import Derived.IntWalk
import Derived.Deep.Heap
set_option linter.unusedVariables false
set_option linter.unusedSimpArgs false
namespace Go.Avc
open Go Go.RowKit Go.Proofs Go.IntWalk

def belowF (x n : Int) : Int := if n < 1 then 0 else if x.tmod n < 0 then IntKind.i64.wrap (x.tmod n + n) else x.tmod n
set_option maxHeartbeats 8000000 in
set_option maxRecDepth 100000 in
theorem below_calls (a0 a1 : Int) (w : World) : Calls Tryd.prog 73 #[.int .i64 a0, .int .i64 a1] w fun e w' => e = .returned (.int .i64 (belowF a0 a1)) ∧ ∃ k, w' = w.drewN k := by
  unfold belowF
  by_cases c3 : a1 < 1
  · rw [if_pos c3]
    have c3b0 : decide (a1 < 1) = true := decide_eq_true c3
    go_enter Tryd.func73, Tryd.ntmps73
    go_wp2
    go_ret
    exact ⟨rfl, 0, rfl⟩
  · rw [if_neg c3]
    have c3b0 : decide (a1 < 1) = false := decide_eq_false c3
    have c4 : ¬ a1 = 0 := by omega
    have c4b0 : (a1 == 0) = false := beq_eq_false_iff_ne.mpr c4
    have c4b1 : (a1 != 0) = true := bne_iff_ne.mpr c4
    by_cases c5 : (Int.tmod a0 a1) < 0
    · rw [if_pos c5]
      have c5b0 : decide ((Int.tmod a0 a1) < 0) = true := decide_eq_true c5
      go_enter Tryd.func73, Tryd.ntmps73
      go_wp2
      go_ret
      exact ⟨by rw [i64_left]; rfl, 0, rfl⟩
    · rw [if_neg c5]
      have c5b0 : decide ((Int.tmod a0 a1) < 0) = false := decide_eq_false c5
      go_enter Tryd.func73, Tryd.ntmps73
      go_wp2
      go_ret
      exact ⟨rfl, 0, rfl⟩

set_option maxHeartbeats 8000000 in
set_option maxRecDepth 100000 in
theorem next_calls (w : World) (g : Nat) (A : Option Addr) (n c : Nat) (at0 m : Int) (hh : w.heap[g]? = some (.cells #[.slice A n c, .int .i64 at0] 25 (0, 0)))
    (h0 : 0 ≤ at0) (h1 : at0 < 4611686018427387904)
    (hA : ∀ j : Nat, j < n → ∃ a x, A = some a ∧ (a.add j).block ≠ g ∧ w.cell? (a.add j) = some (.int .i64 x)) : Calls Tryd.prog 25 #[.pointer (some ⟨g, 0, none⟩), .int .i64 m] w fun e w' => ∃ r k, e = .returned (.int .i64 (belowF r m)) ∧ w' = (w.setCell ⟨g, 1, none⟩ (.int .i64 (at0 + 1))).drewN k := by
  have hc0 : w.cell? ⟨g, 0, none⟩ = some (.slice A n c) := (cell_of_row w g 0 _ _ (0, 0) hh).trans rfl
  have hc1 : w.cell? ⟨g, 1, none⟩ = some (.int .i64 at0) := (cell_of_row w g 1 _ _ (0, 0) hh).trans rfl
  have hf1 : w.frozen? ⟨g, 1, none⟩ = false := by simp [World.frozen?, hh]
  have hw1 : wrap64 (at0 + 1) = at0 + 1 := wrap64_in _ (by omega)
  by_cases c3 : (n : Int) = 0
  · have c3b0 : ((n : Int) == 0) = true := beq_iff_eq.mpr c3
    have c3b1 : ((n : Int) != 0) = false := bne_eq_false_iff_eq.mpr c3
    go_enter Tryd.func25, Tryd.ntmps25
    go_wp2_with (go_at_call 73; (refine (below_calls _ _ _).mono ?_); rintro e w' ⟨rfl, nd, rfl⟩)
    go_ret
    exact ⟨_, _, rfl, rfl⟩
  · have c3b0 : ((n : Int) == 0) = false := beq_eq_false_iff_ne.mpr c3
    have c3b1 : ((n : Int) != 0) = true := bne_iff_ne.mpr c3
    have hw2 : wrap64 (at0 + 1 - 1) = at0 := (wrap64_in _ (by omega)).trans (by omega)
    have he : at0.tmod n = at0 % n := Int.tmod_eq_emod_of_nonneg h0
    have hp : 0 ≤ at0 % (n : Int) := Int.emod_nonneg _ (by omega)
    have hq : at0 % (n : Int) < (n : Int) := Int.emod_lt_of_pos _ (by omega)
    have hj : (at0 % (n : Int)).toNat < n := by omega
    obtain ⟨a, x, rfl, hne, hx⟩ := hA _ hj
    have hx1 : (w.setCell ⟨g, 1, none⟩ (.int .i64 (at0 + 1))).cell? (a.add (at0 % (n : Int)).toNat) = some (.int .i64 x) := (World.cell?_setCell_other w ⟨g, 1, none⟩ _ _ (fun e => hne (by rw [← e]))).trans hx
    have hx2 := fun (k : Nat) => (show ((w.drewN k).setCell ⟨g, 1, none⟩ (.int .i64 (at0 + 1))).cell? (a.add (at0 % (n : Int)).toNat) = some (.int .i64 x) from hx1)
    have hp' := eq_true hp
    have hq' := eq_true hq
    go_enter Tryd.func25, Tryd.ntmps25
    go_wp2_with (go_at_call 73; (refine (below_calls _ _ _).mono ?_); rintro e w' ⟨rfl, nd, rfl⟩)
    repeat (go_quiet (first | (go_at_call 73; (refine (below_calls _ _ _).mono ?_); rintro e w' ⟨rfl, nd, rfl⟩; exact ⟨rfl, _, rfl⟩)); try go_wp2_with (go_at_call 73; (refine (below_calls _ _ _).mono ?_); rintro e w' ⟨rfl, nd, rfl⟩))
    go_ret
    exact ⟨_, _, rfl, rfl⟩
end Go.Avc
