/- Quote and the reference's Quoted: their contracts. No condition. -/
import Derived.Test.YtcifphelninbmaaDoorQuo1
set_option linter.unusedVariables false
set_option linter.unusedSimpArgs false
set_option maxRecDepth 100000
namespace Go.Avc
open Go Go.Proofs

theorem take_succ_bt {s : ByteArray} {i : Nat} (h : i < s.size) : (bl s).take (i + 1) = (bl s).take i ++ [bt s (i : Int)] := by
  have h' : i < (bl s).length := by rw [bl_length]; exact h
  rw [bt_bl, Int.toNat_natCast, getD_lt h', List.take_succ_eq_append_getElem h']
theorem fm_succ {s : ByteArray} {i : Nat} (h : i < s.size) : ((bl s).take (i + 1)).flatMap q1 = ((bl s).take i).flatMap q1 ++ q1 (bt s (i : Int)) := by
  rw [take_succ_bt h, List.flatMap_append]
  simp
theorem fm_one {s : ByteArray} (h : 0 < s.size) : ((bl s).take (0 + 1)).flatMap q1 = q1 (bt s 0) := by rw [fm_succ h]; rfl
theorem fm_len (s : ByteArray) (i : Nat) : (((bl s).take i).flatMap q1).length ≤ 4 * s.size := by
  have h1 := flatMap_len ((bl s).take i)
  have h2 : ((bl s).take i).length ≤ s.size := by rw [List.length_take, bl_length]; omega
  omega
theorem hex_at {c : Int} (h : 0 ≤ c ∧ c ≤ 255) : bt ⟨#[48, 49, 50, 51, 52, 53, 54, 55, 56, 57, 97, 98, 99, 100, 101, 102]⟩ c = hexL.getD c.toNat 0 := by
  rw [bt_bl, show bl ⟨#[48, 49, 50, 51, 52, 53, 54, 55, 56, 57, 97, 98, 99, 100, 101, 102]⟩ = hexL from bl_hex]
theorem q1_esc {c : Int} (h : c = 34 ∨ c = 92) : q1 c = [92, c] := by unfold q1; rw [if_pos h]
theorem q1_nl {c : Int} (h : c = 10) : q1 c = [92, 110] := by unfold q1; rw [if_neg (by omega), if_pos h]
theorem q1_hid {c : Int} (h0 : 0 ≤ c ∧ c ≤ 255) (h1 : ¬ c = 34) (h2 : ¬ c = 92) (h3 : ¬ c = 10) (h : hid c = true) : q1 c = [92, 120, bt ⟨#[48, 49, 50, 51, 52, 53, 54, 55, 56, 57, 97, 98, 99, 100, 101, 102]⟩ (c / 16), bt ⟨#[48, 49, 50, 51, 52, 53, 54, 55, 56, 57, 97, 98, 99, 100, 101, 102]⟩ (c % 16)] := by
  have := (hid_iff c).1 h
  unfold q1
  rw [if_neg (by omega), if_neg h3, if_pos (by omega), hex_at (by omega), hex_at (by omega)]
theorem q1_plain {c : Int} (h1 : ¬ c = 34) (h2 : ¬ c = 92) (h3 : ¬ c = 10) (h : hid c = false) : q1 c = [c] := by
  have : ¬ (c < 33 ∧ c ≠ 10 ∨ 127 ≤ c) := fun h' => by rw [(hid_iff c).2 h'] at h; cases h
  unfold q1
  rw [if_neg (by omega), if_neg h3, if_neg (by omega)]
theorem qbs (s : ByteArray) : isBs (34 :: (bl s).flatMap q1 ++ [34]) := quotedL_bs (bl_bs s)
theorem qend {s : ByteArray} {i : Nat} (h : i = s.size) : (bl s).take i = bl s := by rw [h, ← bl_length, List.take_length]
def quotedF (s : ByteArray) : ByteArray := strOfNums (quotedL (bl s))
def quoteS : Spec where
  pre xs := ∃ s : ByteArray, xs = [.str s] ∧ s.size ≤ 16777216
  post xs r := ∃ s : ByteArray, xs = [.str s] ∧ r = .str (quotedF s)
  cost _ := 0
  fresh := true
def quoteSf (s : ByteArray) (i : Nat) : Sh := ⟨[(0, .str s), (3, .ptr 3 0), (8, .i s.size), (9, .i i)], [(3, .bld bT 5003), (5003, .arr bE 1 (rowsB (34 :: ((bl s).take i).flatMap q1)))], 0⟩
theorem quote_ctr {cx : Cx} (h : Seat cx) : Ctr cx 12 quoteS := by
  refine ctr_of (fn := Tryd.f12) (l := [.tmp 2]) (envL [(61, hiddenS)]) [0, 2, 3, 4, 5, 8, 9, 10, 17, 27, 31] [] [] (envL_cons (hidden_ctr h) (env0 h.hP)) ?_ (by rw [h.hP]; exact Tryd.func12) rfl (by kernel_rfl) rfl ?_ ?_
  · rw [h.hP]; exact ⟨_, Tryd.func12, by kernel_rfl, by kernel_rfl⟩
  · rintro xs ⟨s, rfl, hs⟩; exact ⟨_, s, rfl, rfl⟩
  · rintro xs ⟨s, rfl, hs⟩
    refine ⟨by rw [Tryd.ntmps12]; simp, ?_⟩
    simp only [go_sem, h.hP, quoteS, hiddenS, Tryd.ntmps12, Nat.reduceEqDiff, reduceCtorEq, Nat.reduceMul, Nat.reduceAdd, Nat.reduceLeDiff, Nat.reduceLT, Nat.reduceBNe, Nat.reduceBEq, reduceIte, Int.reduceLE, Int.reduceLT, Int.reduceToNat, Int.reduceNeg, Int.reduceAdd, Int.reduceSub, Int.reduceMul, Int.reduceEq]
    refine vc_loop _ (quoteSf s) (fun i => i ≤ s.size) (fun i => s.size - i) [] ?_ ?_
    · refine meets_mk _ 0 (Nat.zero_le _) ?_
      simp only [go_sem, h.hP, quoteSf, Tryd.ntmps12, Nat.reduceEqDiff, reduceCtorEq, Nat.reduceMul, Nat.reduceAdd, Nat.reduceLeDiff, Nat.reduceLT, Nat.reduceBNe, Nat.reduceBEq, reduceIte, Int.reduceLE, Int.reduceLT, Int.reduceToNat, Int.reduceNeg, Int.reduceAdd, Int.reduceSub, Int.reduceMul, Int.reduceEq]
      exact ⟨rfl, rfl⟩
    · intro i hi
      simp only [go_sem, h.hP, quoteSf, quoteS, hiddenS, Tryd.ntmps12, Nat.reduceEqDiff, reduceCtorEq, Nat.reduceMul, Nat.reduceAdd, Nat.reduceLeDiff, Nat.reduceLT, Nat.reduceBNe, Nat.reduceBEq, reduceIte, Int.reduceLE, Int.reduceLT, Int.reduceToNat, Int.reduceNeg, Int.reduceAdd, Int.reduceSub, Int.reduceMul, Int.reduceEq]
      have hr := bt_range s i
      have hl := fm_len s i
      simp only [bt_tdiv16, bt_tmod16, rowsB_len, strRows_rowsB, rows1, List.length_append, List.length_cons, List.length_nil, show bl ⟨#[92, 110]⟩ = [92, 110] by decide, show bl ⟨#[92, 120]⟩ = [92, 120] by decide]
      (repeat' (first | with_reducible apply And.intro | with_reducible intro))
      all_goals try omega
      all_goals first
        | (have hi' : i < s.size := by omega
           refine below_mk (J := fun i => i ≤ s.size) (μ := fun i => s.size - i) _ (i + 1) (show i + 1 ≤ s.size by omega) (show s.size - (i + 1) < s.size - i by omega) ?_
           simp only [go_sem, h.hP, quoteSf, Tryd.ntmps12, Nat.reduceEqDiff, reduceCtorEq, Nat.reduceMul, Nat.reduceAdd, Nat.reduceLeDiff, Nat.reduceLT, Nat.reduceBNe, Nat.reduceBEq, reduceIte, Int.reduceLE, Int.reduceLT, Int.reduceToNat, Int.reduceNeg, Int.reduceAdd, Int.reduceSub, Int.reduceMul, Int.reduceEq]
           refine ⟨i64s (by omega), ?_⟩
           rw [fm_succ hi']
           first
             | rw [q1_esc (by omega)]
             | rw [q1_nl (by omega)]
             | rw [q1_hid hr (by omega) (by omega) (by omega) (by assumption)]
             | rw [q1_plain (by omega) (by omega) (by omega) (by assumption)]
           simp only [← rowsB_app, List.cons_append, List.append_assoc, List.nil_append, *])
        | skip
      · rename_i hx
        rw [qend (show i = s.size by omega), ← rowsB_app] at hx
        exact rowsB_ok (qbs s) _ hx
      · rw [qend (show i = s.size by omega), ← rowsB_app, numsOf_rowsB]
        rfl

def quotedSf (s : ByteArray) (p : Nat × Bool) : Sh := match p.2 with
  | true => ⟨[(0, .str s), (3, .lit [[.int .u8 34]]), (8, .i s.size), (9, .i 0)], [], 0⟩
  | false => ⟨[(0, .str s), (3, .own 3), (8, .i s.size), (9, .i p.1)], [(3, .arr 5 1 (rowsB (34 :: ((bl s).take p.1).flatMap q1)))], 0⟩
def quotedJ (s : ByteArray) (p : Nat × Bool) : Prop := match p.2 with
  | true => p.1 = 0
  | false => p.1 ≤ s.size
theorem quoted_leaf {s : ByteArray} {i : Nat} {n m : Nat} {σ : St} (hi : i < s.size) (hm : m = s.size - i) (h : At n [(3, 5, 1)] (quotedSf s (i + 1, false)) σ) : Below n [(3, 5, 1)] (quotedSf s) (quotedJ s) (fun p => s.size - p.1) m σ :=
  below_mk _ (i + 1, false) (by show i + 1 ≤ s.size; omega) (by show s.size - (i + 1) < m; omega) h
theorem hid_not {c : Int} : (c < 33 → hid c = true ∨ c = 10) ∧ (126 < c → hid c = true) ∧ (¬ c < 33 → ¬ 126 < c → hid c = false) := by
  refine ⟨fun h => ?_, fun h => (hid_iff c).2 (by omega), fun h1 h2 => ?_⟩
  · by_cases e : c = 10
    · exact .inr e
    · exact .inl ((hid_iff c).2 (by omega))
  · cases e : hid c with
    | false => rfl
    | true => have := (hid_iff c).1 e; omega
theorem quoted_ctr {cx : Cx} (h : Seat cx) : Ctr cx 13 quoteS := by
  refine ctr_of (fn := Tryd.f13) (l := [.tmp 2]) (envL []) [0, 2, 3, 4, 5, 8, 9, 10, 19, 30, 35] [] [] (env0 h.hP) ?_ (by rw [h.hP]; exact Tryd.func13) rfl (by kernel_rfl) rfl ?_ ?_
  · rw [h.hP]; exact ⟨_, Tryd.func13, by kernel_rfl, by kernel_rfl⟩
  · rintro xs ⟨s, rfl, hs⟩; exact ⟨_, s, rfl, rfl⟩
  · rintro xs ⟨s, rfl, hs⟩
    refine ⟨by rw [Tryd.ntmps13]; simp, ?_⟩
    simp only [go_sem, h.hP, quoteS, Tryd.ntmps13, Nat.reduceEqDiff, reduceCtorEq, Nat.reduceMul, Nat.reduceAdd, Nat.reduceLeDiff, Nat.reduceLT, Nat.reduceBNe, Nat.reduceBEq, reduceIte, Int.reduceLE, Int.reduceLT, Int.reduceToNat, Int.reduceNeg, Int.reduceAdd, Int.reduceSub, Int.reduceMul, Int.reduceEq]
    refine vc_loop _ (quotedSf s) (quotedJ s) (fun p => s.size - p.1) [(3, 5, 1)] ?_ ?_
    · refine meets_mk _ (0, true) rfl ?_
      simp only [go_sem, h.hP, quotedSf, Tryd.ntmps13, Nat.reduceEqDiff, reduceCtorEq, Nat.reduceMul, Nat.reduceAdd, Nat.reduceLeDiff, Nat.reduceLT, Nat.reduceBNe, Nat.reduceBEq, reduceIte, Int.reduceLE, Int.reduceLT, Int.reduceToNat, Int.reduceNeg, Int.reduceAdd, Int.reduceSub, Int.reduceMul, Int.reduceEq]
    · rintro ⟨i, b⟩ hi
      have hl := fm_len s i
      have hr := bt_range s i
      cases b
      · have hi' : i ≤ s.size := hi
        simp only [go_sem, h.hP, quotedSf, quoteS, Tryd.ntmps13, Nat.reduceEqDiff, reduceCtorEq, Nat.reduceMul, Nat.reduceAdd, Nat.reduceLeDiff, Nat.reduceLT, Nat.reduceBNe, Nat.reduceBEq, reduceIte, Int.reduceLE, Int.reduceLT, Int.reduceToNat, Int.reduceNeg, Int.reduceAdd, Int.reduceSub, Int.reduceMul, Int.reduceEq]
        simp only [bt_tdiv16, bt_tmod16, rowsB_len, strRows_rowsB, rows1, List.length_append, List.length_cons, List.length_nil, show bl ⟨#[92, 110]⟩ = [92, 110] by decide]
        (repeat' (first | with_reducible apply And.intro | with_reducible intro))
        all_goals try omega
        all_goals first
          | (have hi2 : i < s.size := by omega
             refine quoted_leaf hi2 rfl ?_
             simp only [go_sem, h.hP, quotedSf, Tryd.ntmps13, Nat.reduceEqDiff, reduceCtorEq, Nat.reduceMul, Nat.reduceAdd, Nat.reduceLeDiff, Nat.reduceLT, Nat.reduceBNe, Nat.reduceBEq, reduceIte, Int.reduceLE, Int.reduceLT, Int.reduceToNat, Int.reduceNeg, Int.reduceAdd, Int.reduceSub, Int.reduceMul, Int.reduceEq]
             refine ⟨i64s (by omega), ?_⟩
             rw [fm_succ hi2]
             first
               | rw [q1_esc (by omega)]
               | rw [q1_nl (by omega)]
               | rw [q1_hid hr (by omega) (by omega) (by omega) ((hid_iff _).2 (by omega))]
               | rw [q1_plain (by omega) (by omega) (by omega) (hid_not.2.2 (by omega) (by omega))]
             simp only [rowsB, List.map_cons, List.map_append, List.map_nil, List.cons_append, List.append_assoc, List.nil_append, List.flatMap_nil, List.take_zero, *]
             try rfl)
          | skip
        · rename_i hx
          rw [← rowsB_app] at hx
          exact rowsB_u8 _ _ hx
        · rw [qend (show i = s.size by omega), ← rowsB_app, numsOf_rowsB]
          rfl
      · have hi' : i = 0 := hi
        subst hi'
        have hr := bt_range s 0
        simp only [go_sem, h.hP, quotedSf, quoteS, Tryd.ntmps13, Nat.reduceEqDiff, reduceCtorEq, Nat.reduceMul, Nat.reduceAdd, Nat.reduceLeDiff, Nat.reduceLT, Nat.reduceBNe, Nat.reduceBEq, reduceIte, Int.reduceLE, Int.reduceLT, Int.reduceToNat, Int.reduceNeg, Int.reduceAdd, Int.reduceSub, Int.reduceMul, Int.reduceEq]
        simp only [bt_tdiv16, bt_tmod16, rowsB_len, strRows_rowsB, rows1, List.length_append, List.length_cons, List.length_nil, show bl ⟨#[92, 110]⟩ = [92, 110] by decide]
        (repeat' (first | with_reducible apply And.intro | with_reducible intro))
        all_goals try omega
        all_goals first
          | (have hi2 : 0 < s.size := by omega
             refine quoted_leaf hi2 rfl ?_
             simp only [go_sem, h.hP, quotedSf, Tryd.ntmps13, Nat.reduceEqDiff, reduceCtorEq, Nat.reduceMul, Nat.reduceAdd, Nat.reduceLeDiff, Nat.reduceLT, Nat.reduceBNe, Nat.reduceBEq, reduceIte, Int.reduceLE, Int.reduceLT, Int.reduceToNat, Int.reduceNeg, Int.reduceAdd, Int.reduceSub, Int.reduceMul, Int.reduceEq]
             refine ⟨rfl, ?_⟩
             rw [fm_one hi2]
             first
               | rw [q1_esc (by omega)]
               | rw [q1_nl (by omega)]
               | rw [q1_hid hr (by omega) (by omega) (by omega) ((hid_iff _).2 (by omega))]
               | rw [q1_plain (by omega) (by omega) (by omega) (hid_not.2.2 (by omega) (by omega))]
             simp only [rowsB, List.map_cons, List.map_append, List.map_nil, List.cons_append, List.append_assoc, List.nil_append, List.flatMap_nil, List.take_zero, *]
             try rfl)
          | skip
        · rename_i hx
          rw [← rowsB_app] at hx
          exact rowsB_u8 _ _ hx
        · rw [← rowsB_app, numsOf_rowsB]
          have he : bl s = [] := List.eq_nil_of_length_eq_zero (by rw [bl_length]; omega)
          unfold quotedF
          rw [he]
          rfl
end Go.Avc
