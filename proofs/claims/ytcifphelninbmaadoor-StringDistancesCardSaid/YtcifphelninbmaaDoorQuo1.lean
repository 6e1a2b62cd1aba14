/- hidden, IndexByte, HasPrefix, escaped: their contracts. No condition. -/
import Derived.Test.YtcifphelninbmaaDoorSeat
import Derived.Test.YtcifphelninbmaaDoorShelf
set_option linter.unusedVariables false
set_option linter.unusedSimpArgs false
set_option maxRecDepth 100000
namespace Go.Avc
open Go Go.Proofs

def hiddenS : Spec where
  pre xs := ∃ c : Int, xs = [.dv (.d (.int .u8 c))]
  post xs r := ∃ c : Int, xs = [.dv (.d (.int .u8 c))] ∧ r = .b (hid c)
  cost _ := 0
  fresh := true
theorem hidden_ctr {cx : Cx} (h : Seat cx) : Ctr cx 61 hiddenS := by
  refine ctr_of (fn := Tryd.f61) (l := [.tmp 2]) (envL []) [0, 2] [] [] (env0 h.hP) ?_ (by rw [h.hP]; exact Tryd.func61) rfl (by kernel_rfl) rfl ?_ ?_
  · rw [h.hP]; exact ⟨_, Tryd.func61, by kernel_rfl, by kernel_rfl⟩
  · rintro xs ⟨c, rfl⟩; exact ⟨_, c, rfl, rfl⟩
  · rintro xs ⟨c, rfl⟩
    refine ⟨by rw [Tryd.ntmps61]; simp, ?_⟩
    simp only [go_sem, h.hP, hiddenS, Tryd.ntmps61, Nat.reduceEqDiff, reduceCtorEq, Nat.reduceMul, Nat.reduceAdd, Nat.reduceLeDiff, Nat.reduceLT, Nat.reduceBNe, Nat.reduceBEq, reduceIte, Int.reduceLE, Int.reduceLT, Int.reduceToNat, Int.reduceNeg, Int.reduceAdd, Int.reduceSub, Int.reduceMul, Int.reduceEq]
    (repeat' (first | with_reducible apply And.intro | with_reducible intro)) <;> (rw [Bool.eq_iff_iff]; simp [hid]; omega)

def hasPre (s p : ByteArray) : Bool := (bl p).isPrefixOf (bl s)
def hasPreS : Spec where
  pre xs := ∃ s p : ByteArray, xs = [.str s, .str p] ∧ s.size ≤ 9223372036854775807
  post xs r := ∃ s p : ByteArray, xs = [.str s, .str p] ∧ r = .b (hasPre s p)
  cost _ := 0
  fresh := true
theorem hasPre_of (s p : ByteArray) (h : p.size ≤ s.size) : ((s.extract 0 p.size).toList == p.toList) = hasPre s p := by
  rw [str_beq, Bool.eq_iff_iff, decide_eq_true_eq, ← bl_inj, bl_extract, List.drop_zero]
  unfold hasPre
  rw [List.isPrefixOf_iff_prefix, List.prefix_iff_eq_take, bl_length]
  exact ⟨fun e => e.symm, fun e => e.symm⟩
theorem hasPre_not (s p : ByteArray) (h : s.size < p.size) : hasPre s p = false := by
  unfold hasPre
  rw [Bool.eq_false_iff]
  intro e
  have := (List.isPrefixOf_iff_prefix.1 e).length_le
  rw [bl_length, bl_length] at this
  omega
theorem hasPre0_ctr {cx : Cx} (h : Seat cx) : Ctr cx 120 hasPreS := by
  refine ctr_of (fn := Tryd.f120) (l := [.tmp 4]) (envL []) [0, 1, 4] [] [] (env0 h.hP) ?_ (by rw [h.hP]; exact Tryd.func120) rfl (by kernel_rfl) rfl ?_ ?_
  · rw [h.hP]; exact ⟨_, Tryd.func120, by kernel_rfl, by kernel_rfl⟩
  · rintro xs ⟨s, p, rfl, hs⟩; exact ⟨_, s, p, rfl, rfl⟩
  · rintro xs ⟨s, p, rfl, hs⟩
    refine ⟨by rw [Tryd.ntmps120]; simp, ?_⟩
    simp only [go_sem, h.hP, hasPreS, Tryd.ntmps120, Nat.reduceEqDiff, reduceCtorEq, Nat.reduceMul, Nat.reduceAdd, Nat.reduceLeDiff, Nat.reduceLT, Nat.reduceBNe, Nat.reduceBEq, reduceIte, Int.reduceLE, Int.reduceLT, Int.reduceToNat, Int.reduceNeg, Int.reduceAdd, Int.reduceSub, Int.reduceMul, Int.reduceEq]
    exact ⟨fun h1 => ⟨by omega, by omega, by rw [← str_beq]; exact hasPre_of s p (by omega)⟩, fun h1 => (hasPre_not s p (by omega)).symm⟩
theorem hasPre_ctr {cx : Cx} (h : Seat cx) : Ctr cx 64 hasPreS := by
  refine ctr_of (fn := Tryd.f64) (l := [.tmp 4]) (envL [(120, hasPreS)]) [0, 1, 4] [] [] (envL_cons (hasPre0_ctr h) (env0 h.hP)) ?_ (by rw [h.hP]; exact Tryd.func64) rfl (by kernel_rfl) rfl ?_ ?_
  · rw [h.hP]; exact ⟨_, Tryd.func64, by kernel_rfl, by kernel_rfl⟩
  · rintro xs ⟨s, p, rfl, hs⟩; exact ⟨_, s, p, rfl, rfl⟩
  · rintro xs ⟨s, p, rfl, hs⟩
    refine ⟨by rw [Tryd.ntmps64]; simp, ?_⟩
    simp only [go_sem, h.hP, hasPreS, Tryd.ntmps64, Nat.reduceEqDiff, reduceCtorEq, Nat.reduceMul, Nat.reduceAdd, Nat.reduceLeDiff, Nat.reduceLT, Nat.reduceBNe, Nat.reduceBEq, reduceIte, Int.reduceLE, Int.reduceLT, Int.reduceToNat, Int.reduceNeg, Int.reduceAdd, Int.reduceSub, Int.reduceMul, Int.reduceEq]
    exact hs

theorem ix_same (s : ByteArray) (c : Int) (h : 0 ≤ c ∧ c ≤ 255) : Lib.indexByte s.data.toList c.toNat.toUInt8 = ixL (bl s) c := by
  unfold bl
  generalize s.data.toList = l
  induction l with
  | nil => rfl
  | cons x r ih =>
    rw [List.map_cons]
    unfold Lib.indexByte ixL
    have hx : (x == c.toNat.toUInt8) = decide ((x.toNat : Int) = c) := by
      rw [Bool.eq_iff_iff, beq_iff_eq, decide_eq_true_eq]
      constructor
      · intro e; rw [e]; simp [Nat.toUInt8]; omega
      · intro e; apply UInt8.toNat.inj; simp [Nat.toUInt8]; omega
    rw [hx, ih]
    by_cases h1 : (x.toNat : Int) = c
    · rw [if_pos (by simpa using h1), if_pos h1]
    · rw [if_neg (by simpa using h1), if_neg h1]
      by_cases h2 : ixL (r.map fun b => (b.toNat : Int)) c = -1
      · rw [if_pos (by simpa using h2), if_pos h2]
      · rw [if_neg (by simpa using h2), if_neg h2]
def ixS : Spec where
  pre xs := ∃ (s : ByteArray) (c : Int), xs = [.str s, .dv (.d (.int .u8 c))] ∧ 0 ≤ c ∧ c ≤ 255
  post xs r := ∃ (s : ByteArray) (c : Int), xs = [.str s, .dv (.d (.int .u8 c))] ∧ r = .i (ixL (bl s) c)
  cost _ := 0
  fresh := true
theorem ix_ctr {cx : Cx} (h : Seat cx) : Ctr cx 117 ixS := by
  refine ctr_flat (by rw [h.hP]; exact ⟨_, Tryd.func117, by kernel_rfl, by kernel_rfl⟩) (fun _ => rfl) ?_
  rintro xs ⟨s, c, rfl, h0, h1⟩
  refine ⟨_, _, _, rfl, ⟨s, c, rfl, rfl⟩, rfl, fun w _ => ?_⟩
  rw [h.hP]
  refine (Tryd.strings_IndexByte s c w).mono ?_
  rintro e w' ⟨rfl, rfl⟩
  rw [ix_same s c ⟨h0, h1⟩]
  exact ⟨rfl, Go.RowKit.Below.refl _ _⟩

def escS : Spec where
  pre xs := ∃ s : ByteArray, xs = [.str s] ∧ s.size ≤ 9223372036854775807
  post xs r := ∃ s : ByteArray, xs = [.str s] ∧ r = .tcons (.dv (.d (.int .u8 (escL (bl s)).1))) (.tcons (.i (escL (bl s)).2) .tnil)
  cost _ := 0
  fresh := true
theorem esc_ctr {cx : Cx} (h : Seat cx) : Ctr cx 63 escS := by
  refine ctr_of (fn := Tryd.f63) (l := [.tmp 2, .tmp 3]) (envL [(117, ixS), (61, hiddenS)]) [0, 2, 3, 4, 5, 6, 8, 10, 11, 16, 18, 22, 34, 41] [] [] (envL_cons (ix_ctr h) (envL_cons (hidden_ctr h) (env0 h.hP))) ?_ (by rw [h.hP]; exact Tryd.func63) rfl (by kernel_rfl) rfl ?_ ?_
  · rw [h.hP]; exact ⟨_, Tryd.func63, by kernel_rfl, by kernel_rfl⟩
  · rintro xs ⟨s, rfl, hs⟩; exact ⟨_, s, rfl, rfl⟩
  · rintro xs ⟨s, rfl, hs⟩
    refine ⟨by rw [Tryd.ntmps63]; simp, ?_⟩
    simp only [go_sem, h.hP, escS, ixS, hiddenS, Tryd.ntmps63, Nat.reduceEqDiff, reduceCtorEq, Nat.reduceMul, Nat.reduceAdd, Nat.reduceLeDiff, Nat.reduceLT, Nat.reduceBNe, Nat.reduceBEq, reduceIte, Int.reduceLE, Int.reduceLT, Int.reduceToNat, Int.reduceNeg, Int.reduceAdd, Int.reduceSub, Int.reduceMul, Int.reduceEq]
    have hlen := bl_length s
    have hb := bl_bs s
    simp only [str_beq_nil, bt_bl, ← hlen, Int.reduceToNat, show bl ⟨#[48, 49, 50, 51, 52, 53, 54, 55, 56, 57, 97, 98, 99, 100, 101, 102]⟩ = hexL from bl_hex]
    generalize bl s = l at *
    clear hlen hs s
    rcases l with _ | ⟨c, _ | ⟨a, _ | ⟨b, t⟩⟩⟩
    · (repeat' (first | with_reducible apply And.intro | with_reducible intro)) <;> simp_all [escL]
    · (repeat' (first | with_reducible apply And.intro | with_reducible intro)) <;> simp_all [escL]
    · (repeat' (first | with_reducible apply And.intro | with_reducible intro)) <;> simp_all [escL]
    · have ha := (isBs_cons.1 (isBs_cons.1 hb).2).1
      have hb2 := (isBs_cons.1 (isBs_cons.1 (isBs_cons.1 hb).2).2).1
      have h1 := ixL_lt hexL a
      have h2 := ixL_lt hexL b
      have hw : 0 ≤ ixL hexL a → 0 ≤ ixL hexL b → IntKind.u8.wrap (IntKind.i64.wrap (IntKind.i64.wrap (16 * ixL hexL a) + ixL hexL b)) = 16 * ixL hexL a + ixL hexL b := fun h3 h4 => by
        rw [show hexL.length = 16 from rfl] at h1 h2
        rw [i64w (n := 16 * ixL hexL a) (by omega) (by omega), i64w (by omega) (by omega), u8w (by omega) (by omega)]
      clear h1 h2 hb
      (repeat' (first | with_reducible apply And.intro | with_reducible intro)) <;> simp_all [escL] <;> (try omega)
      all_goals (rw [if_neg (by omega)])
end Go.Avc
