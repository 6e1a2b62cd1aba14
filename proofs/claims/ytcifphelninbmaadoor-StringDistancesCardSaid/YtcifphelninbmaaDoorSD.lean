/- StringDistances: its walk. No condition. -/
import Derived.Test.YtcifphelninbmaaDoorFar
import Derived.Test.YtcifphelninbmaaDoorPeople
import Derived.Test.YtcifphelninbmaaDoorLaw
import Derived.Test.YtcifphelninbmaaDoorStrange
set_option linter.unusedVariables false
set_option linter.unusedSimpArgs false
set_option maxRecDepth 100000
namespace Go.Avc
open Go Go.Proofs

theorem Ctr.weaken {cx : Cx} {f : FuncId} {sp sp' : Spec} (h : Ctr cx f sp) (hp : ∀ xs, sp'.pre xs → sp.pre xs) (hq : ∀ xs r, sp'.pre xs → sp.post xs r → sp'.post xs r) (hc : ∀ xs, sp.cost xs ≤ sp'.cost xs) (hf : sp'.fresh = sp.fresh) : Ctr cx f sp' := by
  obtain ⟨h1, h2, h3⟩ := h
  refine ⟨h1, fun xs ha => ?_, fun F xs vals e1 e2 e3 e4 e5 e6 e7 e8 => (h3 F xs vals e1 e2 e3 e4 (Nat.le_trans (hc xs) e5) e6 e7 (hp xs e8)).mono fun e w' hh => ?_⟩
  · obtain ⟨r, hr⟩ := h2 xs (hp xs ha)
    exact ⟨r, hq xs r ha hr⟩
  · obtain ⟨v, r, g1, g2, g3, g4, g5, g6⟩ := hh
    exact ⟨v, r, g1, g2, g3.le (Nat.add_le_add_left (hc xs) _), hq xs r e8 g4, g5, by rw [hf]; exact g6⟩
def distanceS2 : Spec where
  pre xs := ∃ s t : ByteArray, xs = [.str s, .str t]
  post xs r := ∃ (s t : ByteArray) (n e : Int), xs = [.str s, .str t] ∧ ((s.size : Int) > 200 ∨ (t.size : Int) > 200 → n = 0 ∧ e = 2) ∧ ((s.size : Int) ≤ 200 → (t.size : Int) ≤ 200 → n = distP (pts s) (pts t) ∧ e = 0) ∧ r = .tcons (.i n) (.tcons (.i e) .tnil)
  cost _ := 0
  fresh := true
theorem distance2_ctr {cx : Cx} (h : Seat cx) (hU : Utf8 cx) : Ctr cx 21 distanceS2 := by
  refine Ctr.weaken (distance_ctr h hU) (fun _ hx => hx) (fun xs r hx hr => ?_) (fun _ => Nat.le_refl _) rfl
  obtain ⟨s, t, rfl, rfl⟩ := hr
  by_cases c : s.size > 200 ∨ t.size > 200
  · rw [if_pos c]
    exact ⟨s, t, 0, 2, rfl, fun _ => ⟨rfl, rfl⟩, fun _ _ => by omega, rfl⟩
  · rw [if_neg c]
    exact ⟨s, t, _, 0, rfl, fun _ => by omega, fun _ _ => ⟨rfl, rfl⟩, rfl⟩
theorem intsD_inj' {l m : List Int} : intsD l = intsD m ↔ l = m := rowsK_inj (k := .i64)
def repS : Spec where
  pre xs := ∃ (s : ByteArray) (c : Int), xs = [.str s, .i c] ∧ 0 ≤ c ∧ c ≤ 1000 ∧ s.size ≤ 1000000
  post xs r := ∃ v : ByteArray, r = .str v
  cost _ := 0
  fresh := true
theorem rep_ctr {cx : Cx} (h : Seat cx) : Ctr cx 20 repS := by
  refine ctr_flat (by rw [h.hP]; exact ⟨_, Tryd.func20, by kernel_rfl, by kernel_rfl⟩) (fun _ => rfl) ?_
  rintro xs ⟨s, c, rfl, h1, h2, h3⟩
  obtain ⟨n, rfl⟩ : ∃ n : Nat, c = n := ⟨c.toNat, by omega⟩
  refine ⟨_, .str ⟨(Lib.repeatL s.data.toList n).toArray⟩, _, rfl, ⟨_, rfl⟩, rfl, fun w hw => ?_⟩
  rw [h.hP]
  exact Tryd.strings_Repeat s n w (by omega) (Nat.le_trans (Nat.mul_le_mul h3 (show n ≤ 1000 by omega)) (by decide))
set_option maxHeartbeats 4000000 in
theorem sd_walk {L : List Int} {A : Option Addr} {cp : Nat} {W : World} (hng : 5 ≤ W.heap.size) (hrd : Rd (fun k => k < W.heap.size) W (.sl (intRows L)) (.slice A L.length cp)) {glob : Nat → Option (List D)} (hgl : GlAt ⟨Tryd.prog, none, L, 25, 5, glob⟩ W) (hU : ∀ cx : Cx, (∀ w, GlAt cx w → GlAt ⟨Tryd.prog, none, L, 25, 5, glob⟩ w) → Utf8 cx) :
    Calls Tryd.prog 4 [Value.slice A L.length cp].toArray W fun e W' => e = .returned (.bool true) ∧ RowKit.Below W.heap.size W W' := by
  refine law_calls (E := envL [(11, strangeS), (19, flipS), (14, pickS), (15, changedS), (20, repS), (21, distanceS2), (22, farS), (18, peopleS)]) (B := 60) (live := [0, 2, 3, 4, 5, 6, 7, 16, 23, 43]) (hz := []) (d := 2) (x1 := 8) (x2 := 9) (x3 := 10) (x4 := 3) (ng := 5) (glob := glob) Tryd.func4 rfl rfl (by kernel_rfl) ⟨rfl, rfl, rfl⟩ ⟨rfl, rfl, rfl⟩ ⟨rfl, rfl, rfl⟩ ⟨rfl, rfl, rfl⟩ ⟨rfl, rfl, rfl⟩ build_stream ⟨by simp, by decide, by decide, by decide, by decide, by decide, by rw [Tryd.ntmps4]; decide⟩ (ex := []) (xv := []) rfl (fun i x u hx hu => by simp at hx) (by decide) hng hrd hgl ?_
  intro cx hP hS hG
  have h : Seat cx := ⟨hP, hS⟩
  refine ⟨envL_cons (strange_ctr cx h.hP h.hS) (envL_cons (flip_ctr cx h.hP h.hS) (envL_cons (pick_ctr cx h.hP h.hS) (envL_cons (changed_ctr h) (envL_cons (rep_ctr h) (envL_cons (distance2_ctr h (hU cx hG)) (envL_cons (far_ctr h (hU cx hG)) (envL_cons (people_ctr h (hU cx hG)) (env0 h.hP)))))))), ?_⟩
  simp only [go_sem, h.hP, strangeS, flipS, pickS, changedS, repS, distanceS2, farS, peopleS, show ([[D.int .i64 99], [D.int .i64 100], [D.int .i64 101]] : List (List D)) = intsD [99, 100, 101] from rfl, intsD_inj', Tryd.ntmps4, Nat.reduceEqDiff, reduceCtorEq, Nat.reduceMul, Nat.reduceAdd, Nat.reduceLeDiff, Nat.reduceLT, Nat.reduceBNe, Nat.reduceBEq, reduceIte, Int.reduceLE, Int.reduceLT, Int.reduceToNat, Int.reduceNeg, Int.reduceAdd, Int.reduceSub, Int.reduceMul, Int.reduceEq]
  have fin : ∀ (a b : ByteArray) (n e : Int), (200 < (a.size : Int) ∨ 200 < (b.size : Int) → n = 0 ∧ e = 2) → ((a.size : Int) ≤ 200 → (b.size : Int) ≤ 200 → n = distP (pts a) (pts b) ∧ e = 0) →
      (¬200 < (a.size : Int) → (200 < (b.size : Int) → (e = 2 → ¬n = 0 → False) ∧ (¬e = 2 → False)) ∧ (¬200 < (b.size : Int) → (e = 0 → a.size ≤ 1073741824 ∧ b.size ≤ 1073741824 ∧ (¬n = ed (pts a) (pts b) → False)) ∧ (¬e = 0 → False))) ∧
      (200 < (a.size : Int) → (e = 2 → ¬n = 0 → False) ∧ (¬e = 2 → False)) := fun a b n e c1 c2 => by
    refine ⟨fun g1 => ⟨fun g2 => ?_, fun g2 => ?_⟩, fun g1 => ?_⟩
    · obtain ⟨rfl, rfl⟩ := c1 (.inr g2)
      exact ⟨fun _ x => x rfl, fun x => x rfl⟩
    · obtain ⟨rfl, rfl⟩ := c2 (by omega) (by omega)
      exact ⟨fun _ => ⟨by omega, by omega, fun x => x (distP_ed _ _)⟩, fun x => x rfl⟩
    · obtain ⟨rfl, rfl⟩ := c1 (.inl g1)
      exact ⟨fun _ x => x rfl, fun x => x rfl⟩
  have inr : ∀ n, isIn n [99, 100, 101] → 0 ≤ n ∧ n ≤ 1000 := fun n hn => by
    unfold isIn at hn
    simp only [List.mem_cons, List.not_mem_nil, or_false] at hn
    omega
  intro a ha b hb f1
  refine ⟨fun _ => ⟨by omega, fun b1 hb1 => ⟨by omega, fun b2 hb2 f2 => ⟨fun _ a1 ha1 n hn => ?_, fun _ => fin a b2⟩⟩⟩, fun _ f2 => ⟨fun _ a1 ha1 n hn => ?_, fun _ => fin a b⟩⟩
  · obtain ⟨n1, n2⟩ := inr n hn
    exact ⟨n1, n2, by omega, fun v => fin v b2⟩
  · obtain ⟨n1, n2⟩ := inr n hn
    exact ⟨n1, n2, by omega, fun v => fin v b⟩
end Go.Avc
