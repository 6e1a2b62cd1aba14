/- The contracts of Below and of the stream's Next. No condition. -/
import Derived.Test.YtcifphelninbmaaDoorNext
import Derived.Test.YtcifphelninbmaaDoorAvc21
set_option linter.unusedVariables false
set_option linter.unusedSimpArgs false
namespace Go.Avc
open Go Go.Proofs

theorem drewN_gr (g : Option Nat) (w : World) (k : Nat) : Gr g w (w.drewN k) := ⟨rfl, rfl, rfl, Nat.le_refl _, fun _ _ _ => rfl⟩
theorem rel_int {cx : Cx} {w0 : World} {ok : Nat → Prop} {ρ : Nat → Value} {w : World} {k : IntKind} {n : Int} {v : Value} (h : rel0 cx w0 ok ρ w (.dv (.d (.int k n))) v) : v = .int k n := by
  have h' : Rd ok w (.int k n) v := h
  cases h'
  rfl

def belowS : Spec where
  pre xs := ∃ x n : Int, xs = [.i x, .i n]
  post xs r := ∃ x n : Int, xs = [.i x, .i n] ∧ r = .i (belowF x n)
  cost _ := 0
  fresh := true
theorem below_ctr (cx : Cx) (hP : cx.P = Tryd.prog) : Ctr cx 73 belowS := by
  refine ⟨by rw [hP]; exact ⟨_, Tryd.func73, by kernel_rfl, by kernel_rfl⟩, fun xs ⟨x, n, e⟩ => ⟨_, x, n, e, rfl⟩, ?_⟩
  rintro F xs vals rfl hF hst hgl hc hlen hargs ⟨x, n, rfl⟩
  match vals, hlen with
  | [u, v], _ =>
    have h0 := rel_int (hargs 0 _ u rfl rfl)
    have h1 := rel_int (hargs 1 _ v rfl rfl)
    subst h0
    subst h1
    rw [hP]
    refine (below_calls x n F.w0).mono ?_
    rintro e w' ⟨rfl, k, rfl⟩
    exact ⟨_, .i (belowF x n), rfl, drewN_gr _ _ _, hst.keep2 (Nat.le_refl _) (fun _ _ _ _ => rfl), ⟨x, n, rfl, rfl⟩, rfl, Rd.int _ _⟩

theorem belowF_range {x m : Int} (hm : m ≤ 9223372036854775807) : (1 ≤ m → 0 ≤ belowF x m ∧ belowF x m < m) ∧ (m < 1 → belowF x m = 0) := by
  unfold belowF
  refine ⟨fun h => ?_, fun h => by rw [if_pos h]⟩
  rw [if_neg (by omega)]
  have h1 : x.tmod m < m := Int.tmod_lt_of_pos x (by omega)
  have h2 : -m < x.tmod m := Int.lt_tmod_of_pos x (by omega)
  split
  · rw [IntWalk.i64_in _ (by omega)]
    omega
  · omega

def nextS : Spec where
  pre xs := ∃ m : Int, xs = [.st, .i m] ∧ m ≤ 9223372036854775807
  post xs r := ∃ m q : Int, xs = [.st, .i m] ∧ (1 ≤ m → 0 ≤ q ∧ q < m) ∧ (m < 1 → q = 0) ∧ r = .i q
  cost _ := 1
  fresh := true
theorem next_ctr (cx : Cx) (hP : cx.P = Tryd.prog) (hS : cx.ST = 25) : Ctr cx 25 nextS := by
  refine ⟨by rw [hP]; exact ⟨_, Tryd.func25, by kernel_rfl, by kernel_rfl⟩, fun xs ⟨m, e, hm⟩ => ⟨.i (belowF 0 m), m, belowF 0 m, e, (belowF_range hm).1, (belowF_range hm).2, rfl⟩, ?_⟩
  rintro F xs vals rfl hF hst hgl hc hlen hargs ⟨m, rfl, hm⟩
  match vals, hlen with
  | [u, v], _ =>
    have h1 := rel_int (hargs 1 _ v rfl rfl)
    subst h1
    obtain ⟨b, hb, hu⟩ := hargs 0 _ u rfl rfl
    subst hu
    obtain ⟨hng, A, c, n, hh, hn0, hnN, hrd⟩ := hst b hb
    have hN := hF.nb
    have hc1 : 1 ≤ F.B := hc
    rw [hP]
    have hsz : b < F.w0.heap.size := (Array.getElem?_eq_some_iff.1 hh).1
    refine (next_calls F.w0 b A F.cx.L.length c n m (by rw [← hS]; exact hh) hn0 (by omega) (fun j hj => ?_)).mono ?_
    · generalize hl : (F.cx.L.map fun x => [D.int .i64 x]) = l at hrd
      have hll : F.cx.L.length = l.length := by rw [← hl, List.length_map]
      rw [hll] at hrd hj
      cases hrd with
      | nil A c => exact absurd hj (by simp)
      | sl l z b' o c u hc' hb' hlt hz hu' hr =>
        have hx : l[j]? = some [D.int .i64 (F.cx.L.getD j 0)] := by
          rw [← hl, List.getElem?_map, List.getD_eq_getElem?_getD, List.getElem?_eq_getElem (by omega)]
          rfl
        have hz1 : z = 1 := (hz j _ hx).symm
        subst hz1
        have h2 := hu' j _ hx 0 _ rfl
        have h3 := hr j _ hx 0 _ rfl
        generalize u j 0 = v at h2 h3
        cases h3
        refine ⟨⟨b', o, none⟩, F.cx.L.getD j 0, rfl, ?_, ?_⟩
        · rw [Addr.add_lit]; show b' ≠ b; omega
        · rw [Addr.add_lit]
          simpa using h2
    · rintro e w' ⟨r, k, rfl, rfl⟩
      have hg : Gr F.cx.g F.w0 ((F.w0.setCell ⟨b, 1, none⟩ (.int .i64 (n + 1))).drewN k) := ⟨rfl, rfl, rfl, by show _ ≤ (F.w0.setCell _ _).heap.size; simp [World.setCell], fun b' hb' hne => heap_setCell_other _ _ _ _ (fun e => hne (by rw [hb, e]))⟩
      refine ⟨_, .i (belowF r m), rfl, hg, ?_, ⟨m, belowF r m, rfl, (belowF_range hm).1, (belowF_range hm).2, rfl⟩, rfl, Rd.int _ _⟩
      intro b' hb'
      rw [hb] at hb'
      cases hb'
      refine ⟨hng, A, c, n + 1, ?_, by omega, by show n + 1 ≤ ((F.N + 1 : Nat) : Int); omega, hrd.mono hg.size (fun _ h _ => h) (fun k' hk' hlt => hg.block k' hlt (fun e => ?_))⟩
      · show (F.w0.setCell ⟨b, 1, none⟩ (.int .i64 (n + 1))).heap[b]? = _
        simp [World.setCell, Array.getElem?_modify, hh]
      · rw [hb] at e
        cases e
        omega
end Go.Avc
