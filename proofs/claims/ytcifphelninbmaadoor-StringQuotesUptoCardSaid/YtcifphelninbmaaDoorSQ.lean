/- StringQuotes: its walk. No condition. -/
import Derived.Test.YtcifphelninbmaaDoorPeople
import Derived.Test.YtcifphelninbmaaDoorLaw
import Derived.Test.YtcifphelninbmaaDoorStrange
set_option linter.unusedVariables false
set_option linter.unusedSimpArgs false
set_option maxRecDepth 100000
namespace Go.Avc
open Go Go.Proofs

theorem intsD_inj {l m : List Int} : intsD l = intsD m ↔ l = m := rowsK_inj (k := .i64)
theorem flat1 (s : ByteArray) : ∀ (i : Nat) (x : AV) (u : Value), [AV.str s][i]? = some x → [Value.string s][i]? = some u → flatV1 x = some u := fun i x u hx hu => by
  cases i with
  | zero => cases hx; cases hu; rfl
  | succ i => simp at hx
set_option maxHeartbeats 4000000 in
theorem sq_walk {any : ByteArray} (ha : any.size ≤ 1048576) {L : List Int} {A : Option Addr} {cp : Nat} {W : World} (hng : 5 ≤ W.heap.size) (hrd : Rd (fun k => k < W.heap.size) W (.sl (intRows L)) (.slice A L.length cp)) {glob : Nat → Option (List D)} (hgl : GlAt ⟨Tryd.prog, none, L, 25, 5, glob⟩ W) (hU : ∀ cx : Cx, (∀ w, GlAt cx w → GlAt ⟨Tryd.prog, none, L, 25, 5, glob⟩ w) → Utf8 cx) :
    Calls Tryd.prog 3 [Value.slice A L.length cp, .string any].toArray W fun e W' => e = .returned (.bool true) ∧ RowKit.Below W.heap.size W W' := by
  refine law_calls (E := envL [(11, strangeS), (12, quoteS), (13, quoteS), (14, pickS), (15, changedS), (16, unqSp), (17, unqRSp), (18, peopleS)]) (B := 25) (live := [0, 1, 4, 5, 6, 7, 9, 10, 11, 12, 13, 14, 15, 32, 40, 41, 42, 49, 50, 51, 52, 97]) (hz := []) (d := 4) (x1 := 16) (x2 := 17) (x3 := 18) (x4 := 5) (ng := 5) (glob := glob) Tryd.func3 rfl rfl (by kernel_rfl) ⟨rfl, rfl, rfl⟩ ⟨rfl, rfl, rfl⟩ ⟨rfl, rfl, rfl⟩ ⟨rfl, rfl, rfl⟩ ⟨rfl, rfl, rfl⟩ build_stream ⟨by simp, by decide, by decide, by decide, by decide, by decide, by rw [Tryd.ntmps3]; decide⟩ (ex := [.str any]) (xv := [.string any]) rfl (flat1 any) (by decide) hng hrd hgl ?_
  intro cx hP hS hG
  have h : Seat cx := ⟨hP, hS⟩
  refine ⟨envL_cons (strange_ctr cx h.hP h.hS) (envL_cons (quote_ctr h) (envL_cons (quoted_ctr h) (envL_cons (pick_ctr cx h.hP h.hS) (envL_cons (changed_ctr h) (envL_cons (unq_ctr h) (envL_cons (unqr_ctr h) (envL_cons (people_ctr h (hU cx hG)) (env0 h.hP)))))))), ?_⟩
  simp only [go_sem, h.hP, strangeS, quoteS, pickS, changedS, unqSp, unqRSp, peopleS, show ([[D.int .i64 0], [D.int .i64 0], [D.int .i64 1], [D.int .i64 2]] : List (List D)) = intsD [0, 0, 1, 2] from rfl, intsD_inj, Tryd.ntmps3, Nat.reduceEqDiff, reduceCtorEq, Nat.reduceMul, Nat.reduceAdd, Nat.reduceLeDiff, Nat.reduceLT, Nat.reduceBNe, Nat.reduceBEq, reduceIte, Int.reduceLE, Int.reduceLT, Int.reduceToNat, Int.reduceNeg, Int.reduceAdd, Int.reduceSub, Int.reduceMul, Int.reduceEq]
  intro a ha1
  have hqs : ∀ s : ByteArray, (quotedF s).size ≤ 4 * s.size + 2 := fun s => by
    rw [← bl_length, bl_quotedF]
    unfold quotedL
    have := flatMap_len (bl s)
    rw [bl_length] at this
    simp only [List.length_cons, List.length_append, List.length_nil]
    omega
  have h1 := hqs a
  have h2 := hqs any
  refine ⟨by omega, by omega, by omega, by omega, by omega, fun a2 ha2 => ⟨by omega, fun n hn => ?_⟩⟩
  have hn' : 0 ≤ n ∧ n ≤ 2 := by
    unfold isIn at hn
    simp only [List.mem_cons, List.not_mem_nil, or_false] at hn
    omega
  refine vc_loop _ (fun p : ByteArray × Nat => ⟨[(1, .str any), (5, .st), (7, .str p.1), (40, .i n), (41, .i p.2)], [], 19 + 3 * p.2⟩) (fun p => p.1.size ≤ 400 + 14 * p.2 ∧ (p.2 : Int) ≤ n) (fun p => 2 - p.2) [] ?_ ?_
  · refine meets_mk _ (quotedF a ++ a2, 0) ⟨by show (quotedF a ++ a2).size ≤ _; rw [ByteArray.size_append]; omega, by show ((0 : Nat) : Int) ≤ n; omega⟩ ?_
    simp only [go_sem, h.hP, Tryd.ntmps3, Nat.reduceEqDiff, reduceCtorEq, Nat.reduceMul, Nat.reduceAdd, Nat.reduceLeDiff, Nat.reduceLT, Nat.reduceBNe, Nat.reduceBEq, reduceIte, Int.reduceLE, Int.reduceLT, Int.reduceToNat, Int.reduceNeg, Int.reduceAdd, Int.reduceSub, Int.reduceMul, Int.reduceEq]
    rfl
  · rintro ⟨t, i⟩ ⟨j1, j2⟩
    simp only at j1 j2
    simp only [go_sem, h.hP, strangeS, quoteS, pickS, changedS, unqSp, unqRSp, peopleS, Tryd.ntmps3, Nat.reduceEqDiff, reduceCtorEq, Nat.reduceMul, Nat.reduceAdd, Nat.reduceLeDiff, Nat.reduceLT, Nat.reduceBNe, Nat.reduceBEq, reduceIte, Int.reduceLE, Int.reduceLT, Int.reduceToNat, Int.reduceNeg, Int.reduceAdd, Int.reduceSub, Int.reduceMul, Int.reduceEq]
    refine ⟨by omega, fun c1 => ⟨by omega, by omega, by omega, by omega, fun v hv => ⟨by omega, by omega, by omega, ?_⟩⟩, fun c1 => ⟨by omega, by omega, by omega, by omega, by omega, ?_⟩⟩
    · refine below_mk _ (v, i + 1) ⟨by show v.size ≤ 400 + 14 * (i + 1); omega, by show ((i + 1 : Nat) : Int) ≤ n; omega⟩ (by show 2 - (i + 1) < 2 - i; omega) ?_
      simp only [go_sem, h.hP, Tryd.ntmps3, Nat.reduceEqDiff, reduceCtorEq, Nat.reduceMul, Nat.reduceAdd, Nat.reduceLeDiff, Nat.reduceLT, Nat.reduceBNe, Nat.reduceBEq, reduceIte, Int.reduceLE, Int.reduceLT, Int.reduceToNat, Int.reduceNeg, Int.reduceAdd, Int.reduceSub, Int.reduceMul, Int.reduceEq]
      exact ⟨i64s (by omega), by omega⟩
    · refine vc_loop _ (fun i : Nat => ⟨[(49, .lit [[.str t], [.str any]]), (50, .i 2), (51, .i i)], [], 25⟩) (fun i => i ≤ 2) (fun i => 2 - i) [] ?_ ?_
      · refine meets_mk _ 0 (Nat.zero_le _) ?_
        simp only [go_sem, h.hP, Tryd.ntmps3, Nat.reduceEqDiff, reduceCtorEq, Nat.reduceMul, Nat.reduceAdd, Nat.reduceLeDiff, Nat.reduceLT, Nat.reduceBNe, Nat.reduceBEq, reduceIte, Int.reduceLE, Int.reduceLT, Int.reduceToNat, Int.reduceNeg, Int.reduceAdd, Int.reduceSub, Int.reduceMul, Int.reduceEq]
        exact ⟨rfl, rfl, by omega⟩
      · intro i hi
        have step : ∀ u : ByteArray, u.size ≤ 16777216 → ∀ b, (unqOut u = .tcons (.str ⟨#[]⟩) (.tcons (.i 0) (.tcons (.i 9) .tnil)) ∧ unqROut u = .tcons (.str ⟨#[]⟩) (.tcons (.i 0) (.tcons (.b false) .tnil))) ∨ (∃ l k, unqOut u = .tcons (.str l) (.tcons (.i k) (.tcons (.i 0) .tnil)) ∧ unqROut u = .tcons (.str l) (.tcons (.i k) (.tcons (.b true) .tnil))) ∨ b = false := fun u hu b => by
          cases hq : unqS u with
          | none => exact .inl ⟨out_none hq, rout_none hq⟩
          | some p => exact .inr (.inl ⟨_, _, out_some hq, rout_some hq⟩)
        have k0 : ((0 : Nat) : Int) = 0 := rfl
        have k1 : ((1 : Nat) : Int) = 1 := rfl
        have k2 : ((2 : Nat) : Int) = 2 := rfl
        match i, hi with
        | 0, _ =>
          rcases step t (by omega) true with ⟨e1, e2⟩ | ⟨l, k, e1, e2⟩ | e
          · simp only [go_sem, h.hP, k0, k2, strangeS, quoteS, pickS, changedS, unqSp, unqRSp, peopleS, e1, e2, Tryd.ntmps3, Nat.reduceEqDiff, reduceCtorEq, Nat.reduceMul, Nat.reduceAdd, Nat.reduceLeDiff, Nat.reduceLT, Nat.reduceBNe, Nat.reduceBEq, reduceIte, Int.reduceLE, Int.reduceLT, Int.reduceToNat, Int.reduceNeg, Int.reduceAdd, Int.reduceSub, Int.reduceMul, Int.reduceEq]
            refine ⟨by omega, by omega, below_mk _ 1 (by decide) (by decide) ?_⟩
            simp only [go_sem, h.hP, k0, k1, k2, Tryd.ntmps3, Nat.reduceEqDiff, reduceCtorEq, Nat.reduceMul, Nat.reduceAdd, Nat.reduceLeDiff, Nat.reduceLT, Nat.reduceBNe, Nat.reduceBEq, reduceIte, Int.reduceLE, Int.reduceLT, Int.reduceToNat, Int.reduceNeg, Int.reduceAdd, Int.reduceSub, Int.reduceMul, Int.reduceEq]
            rfl
          · simp only [go_sem, h.hP, k0, k2, strangeS, quoteS, pickS, changedS, unqSp, unqRSp, peopleS, e1, e2, Tryd.ntmps3, Nat.reduceEqDiff, reduceCtorEq, Nat.reduceMul, Nat.reduceAdd, Nat.reduceLeDiff, Nat.reduceLT, Nat.reduceBNe, Nat.reduceBEq, reduceIte, Int.reduceLE, Int.reduceLT, Int.reduceToNat, Int.reduceNeg, Int.reduceAdd, Int.reduceSub, Int.reduceMul, Int.reduceEq]
            refine ⟨by omega, by omega, below_mk _ 1 (by decide) (by decide) ?_⟩
            simp only [go_sem, h.hP, k0, k1, k2, Tryd.ntmps3, Nat.reduceEqDiff, reduceCtorEq, Nat.reduceMul, Nat.reduceAdd, Nat.reduceLeDiff, Nat.reduceLT, Nat.reduceBNe, Nat.reduceBEq, reduceIte, Int.reduceLE, Int.reduceLT, Int.reduceToNat, Int.reduceNeg, Int.reduceAdd, Int.reduceSub, Int.reduceMul, Int.reduceEq]
            rfl
          · cases e
        | 1, _ =>
          rcases step any (by omega) true with ⟨e1, e2⟩ | ⟨l, k, e1, e2⟩ | e
          · simp only [go_sem, h.hP, k1, k2, strangeS, quoteS, pickS, changedS, unqSp, unqRSp, peopleS, e1, e2, Tryd.ntmps3, Nat.reduceEqDiff, reduceCtorEq, Nat.reduceMul, Nat.reduceAdd, Nat.reduceLeDiff, Nat.reduceLT, Nat.reduceBNe, Nat.reduceBEq, reduceIte, Int.reduceLE, Int.reduceLT, Int.reduceToNat, Int.reduceNeg, Int.reduceAdd, Int.reduceSub, Int.reduceMul, Int.reduceEq]
            refine ⟨by omega, by omega, below_mk _ 2 (by decide) (by decide) ?_⟩
            simp only [go_sem, h.hP, k0, k1, k2, Tryd.ntmps3, Nat.reduceEqDiff, reduceCtorEq, Nat.reduceMul, Nat.reduceAdd, Nat.reduceLeDiff, Nat.reduceLT, Nat.reduceBNe, Nat.reduceBEq, reduceIte, Int.reduceLE, Int.reduceLT, Int.reduceToNat, Int.reduceNeg, Int.reduceAdd, Int.reduceSub, Int.reduceMul, Int.reduceEq]
            rfl
          · simp only [go_sem, h.hP, k1, k2, strangeS, quoteS, pickS, changedS, unqSp, unqRSp, peopleS, e1, e2, Tryd.ntmps3, Nat.reduceEqDiff, reduceCtorEq, Nat.reduceMul, Nat.reduceAdd, Nat.reduceLeDiff, Nat.reduceLT, Nat.reduceBNe, Nat.reduceBEq, reduceIte, Int.reduceLE, Int.reduceLT, Int.reduceToNat, Int.reduceNeg, Int.reduceAdd, Int.reduceSub, Int.reduceMul, Int.reduceEq]
            refine ⟨by omega, by omega, below_mk _ 2 (by decide) (by decide) ?_⟩
            simp only [go_sem, h.hP, k0, k1, k2, Tryd.ntmps3, Nat.reduceEqDiff, reduceCtorEq, Nat.reduceMul, Nat.reduceAdd, Nat.reduceLeDiff, Nat.reduceLT, Nat.reduceBNe, Nat.reduceBEq, reduceIte, Int.reduceLE, Int.reduceLT, Int.reduceToNat, Int.reduceNeg, Int.reduceAdd, Int.reduceSub, Int.reduceMul, Int.reduceEq]
            rfl
          · cases e
        | 2, _ =>
          simp only [go_sem, h.hP, k2, strangeS, quoteS, pickS, changedS, unqSp, unqRSp, peopleS, Tryd.ntmps3, Nat.reduceEqDiff, reduceCtorEq, Nat.reduceMul, Nat.reduceAdd, Nat.reduceLeDiff, Nat.reduceLT, Nat.reduceBNe, Nat.reduceBEq, reduceIte, Int.reduceLE, Int.reduceLT, Int.reduceToNat, Int.reduceNeg, Int.reduceAdd, Int.reduceSub, Int.reduceMul, Int.reduceEq]
        | i + 3, hi => omega
end Go.Avc
