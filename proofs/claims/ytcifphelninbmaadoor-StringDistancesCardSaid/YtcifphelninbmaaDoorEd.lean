/- The distance reckoned from the front (with all three ways at each place) is the distance reckoned from the end (with the short way where the signs are alike). No condition. -/
import Derived.Test.YtcifphelninbmaaDoorDist2
set_option linter.unusedVariables false
namespace Go.Avc

def ne1 (x y : Int) : Int := if x = y then 0 else 1
/-- all three ways -/
def lv : List Int → List Int → Int
  | [], b => b.length
  | x :: a, [] => a.length + 1
  | x :: a, y :: b => min3 (lv a b + ne1 x y) (lv (x :: a) b + 1) (lv a (y :: b) + 1)
termination_by a b => a.length + b.length
/-- the short way -/
def ed : List Int → List Int → Int
  | [], b => b.length
  | x :: a, [] => a.length + 1
  | x :: a, y :: b => if x = y then ed a b else 1 + min3 (ed a b) (ed a (y :: b)) (ed (x :: a) b)
termination_by a b => a.length + b.length
theorem lv_nil (b : List Int) : lv [] b = b.length := by unfold lv; rfl
theorem lv_nil' (a : List Int) : lv a [] = a.length := by
  cases a with
  | nil => unfold lv; rfl
  | cons x a => unfold lv; rfl
theorem lv_cons (x y : Int) (a b : List Int) : lv (x :: a) (y :: b) = min3 (lv a b + ne1 x y) (lv (x :: a) b + 1) (lv a (y :: b) + 1) := by conv => lhs; unfold lv
theorem min3_spec (x y z : Int) : min3 x y z ≤ x ∧ min3 x y z ≤ y ∧ min3 x y z ≤ z ∧ (min3 x y z = x ∨ min3 x y z = y ∨ min3 x y z = z) := by
  unfold min3
  repeat' split
  all_goals omega
theorem ne1_le (x y : Int) : 0 ≤ ne1 x y ∧ ne1 x y ≤ 1 := by
  unfold ne1
  split <;> omega

/-- a way from the one to the other, and its cost -/
inductive Way : List Int → List Int → Int → Prop
  | nil : Way [] [] 0
  | both (x y : Int) {a b : List Int} {n : Int} : Way a b n → Way (x :: a) (y :: b) (n + ne1 x y)
  | ins (y : Int) {a b : List Int} {n : Int} : Way a b n → Way a (y :: b) (n + 1)
  | del (x : Int) {a b : List Int} {n : Int} : Way a b n → Way (x :: a) b (n + 1)
theorem Way.ins' : ∀ b : List Int, Way [] b b.length
  | [] => .nil
  | y :: b => (Way.ins' b).ins y
theorem Way.del' : ∀ a : List Int, Way a [] a.length
  | [] => .nil
  | x :: a => (Way.del' a).del x
theorem way_lv : ∀ a b : List Int, Way a b (lv a b)
  | [], b => by rw [lv_nil]; exact .ins' b
  | x :: a, [] => by rw [lv_nil']; exact .del' _
  | x :: a, y :: b => by
    rw [lv_cons]
    have h1 := way_lv a b
    have h2 := way_lv (x :: a) b
    have h3 := way_lv a (y :: b)
    rcases (min3_spec (lv a b + ne1 x y) (lv (x :: a) b + 1) (lv a (y :: b) + 1)).2.2.2 with e | e | e
    · rw [e]; exact h1.both x y
    · rw [e]; exact h2.ins y
    · rw [e]; exact h3.del x
termination_by a b => a.length + b.length
theorem lv_ins (y : Int) (a b : List Int) : lv a (y :: b) ≤ lv a b + 1 := by
  cases a with
  | nil => rw [lv_nil, lv_nil, List.length_cons]; omega
  | cons x a => rw [lv_cons]; exact (min3_spec _ _ _).2.1
theorem lv_del (x : Int) (a b : List Int) : lv (x :: a) b ≤ lv a b + 1 := by
  cases b with
  | nil => rw [lv_nil', lv_nil', List.length_cons]; omega
  | cons y b => rw [lv_cons]; exact (min3_spec _ _ _).2.2.1
theorem lv_both (x y : Int) (a b : List Int) : lv (x :: a) (y :: b) ≤ lv a b + ne1 x y := by rw [lv_cons]; exact (min3_spec _ _ _).1
theorem lv_le {a b : List Int} {n : Int} (h : Way a b n) : lv a b ≤ n := by
  induction h with
  | nil => rw [lv_nil]; exact Int.le_refl 0
  | both x y h ih => exact Int.le_trans (lv_both x y _ _) (Int.add_le_add_right ih _)
  | ins y h ih => exact Int.le_trans (lv_ins y _ _) (Int.add_le_add_right ih 1)
  | del x h ih => exact Int.le_trans (lv_del x _ _) (Int.add_le_add_right ih 1)

/-! ### from the end -/
theorem Way.cost {a b : List Int} {n m : Int} (h : Way a b n) (e : n = m) : Way a b m := e ▸ h
theorem Way.bothE (x y : Int) {a b : List Int} {n : Int} (h : Way a b n) : Way (a ++ [x]) (b ++ [y]) (n + ne1 x y) := by
  induction h with
  | nil => exact Way.nil.both x y
  | both x' y' h ih => exact (ih.both x' y').cost (by omega)
  | ins y' h ih => exact (ih.ins y').cost (by omega)
  | del x' h ih => exact (ih.del x').cost (by omega)
theorem Way.insE (y : Int) {a b : List Int} {n : Int} (h : Way a b n) : Way a (b ++ [y]) (n + 1) := by
  induction h with
  | nil => exact Way.nil.ins y
  | both x' y' h ih => exact (ih.both x' y').cost (by omega)
  | ins y' h ih => exact (ih.ins y').cost (by omega)
  | del x' h ih => exact (ih.del x').cost (by omega)
theorem Way.delE (x : Int) {a b : List Int} {n : Int} (h : Way a b n) : Way (a ++ [x]) b (n + 1) := by
  induction h with
  | nil => exact Way.nil.del x
  | both x' y' h ih => exact (ih.both x' y').cost (by omega)
  | ins y' h ih => exact (ih.ins y').cost (by omega)
  | del x' h ih => exact (ih.del x').cost (by omega)
theorem Way.rev {a b : List Int} {n : Int} (h : Way a b n) : Way a.reverse b.reverse n := by
  induction h with
  | nil => exact .nil
  | both x y h ih => rw [List.reverse_cons, List.reverse_cons]; exact ih.bothE x y
  | ins y h ih => rw [List.reverse_cons]; exact ih.insE y
  | del x h ih => rw [List.reverse_cons]; exact ih.delE x
theorem lv_rev (a b : List Int) : lv a.reverse b.reverse = lv a b := by
  apply Int.le_antisymm
  · exact lv_le (way_lv a b).rev
  · have := lv_le (way_lv a.reverse b.reverse).rev
    rwa [List.reverse_reverse, List.reverse_reverse] at this

/-! ### the short way -/
theorem lv_ins_ge (y : Int) : ∀ a b : List Int, lv a b ≤ lv a (y :: b) + 1
  | [], b => by rw [lv_nil, lv_nil, List.length_cons]; omega
  | x :: a, b => by
    rw [lv_cons]
    have h1 := lv_del x a b
    have h2 := ne1_le x y
    have h3 := lv_ins_ge y a b
    have h4 := min3_spec (lv a b + ne1 x y) (lv (x :: a) b + 1) (lv a (y :: b) + 1)
    rcases h4.2.2.2 with e | e | e <;> rw [e] <;> omega
termination_by a b => a.length
theorem lv_del_ge (x : Int) : ∀ b a : List Int, lv a b ≤ lv (x :: a) b + 1
  | [], a => by rw [lv_nil', lv_nil', List.length_cons]; omega
  | y :: b, a => by
    rw [lv_cons]
    have h1 := lv_ins y a b
    have h2 := ne1_le x y
    have h3 := lv_del_ge x b a
    have h4 := min3_spec (lv a b + ne1 x y) (lv (x :: a) b + 1) (lv a (y :: b) + 1)
    rcases h4.2.2.2 with e | e | e <;> rw [e] <;> omega
termination_by b a => b.length
theorem ed_eq : ∀ a b : List Int, ed a b = lv a b
  | [], b => by unfold ed lv; rfl
  | x :: a, [] => by unfold ed lv; rfl
  | x :: a, y :: b => by
    unfold ed
    rw [lv_cons, ed_eq a b, ed_eq a (y :: b), ed_eq (x :: a) b]
    have h1 := lv_ins_ge y a b
    have h2 := lv_del_ge x b a
    unfold ne1 min3
    repeat' split
    all_goals omega
termination_by a b => a.length + b.length

/-! ### the program's rows -/
def tl (pa : List Int) : List Int → List Int → List Int
  | _, [] => []
  | pb, y :: b => lv pa (y :: pb) :: tl pa (y :: pb) b
theorem dStep_tl (x : Int) (pa : List Int) : ∀ (b pb : List Int), dStep x (lv pa pb) (lv (x :: pa) pb) b (tl pa pb b) = tl (x :: pa) pb b
  | [], pb => by unfold dStep tl; rfl
  | y :: b, pb => by
    have e : min3 (if x = y then lv pa pb else lv pa pb + 1) (lv (x :: pa) pb + 1) (lv pa (y :: pb) + 1) = lv (x :: pa) (y :: pb) := by
      rw [lv_cons]
      unfold ne1
      split
      · rw [Int.add_zero]
      · rfl
    unfold tl dStep
    rw [e, dStep_tl x pa b (y :: pb)]
theorem dRow_tl (x : Int) (pa b : List Int) : dRow x pa.length b (lv pa [] :: tl pa [] b) = lv (x :: pa) [] :: tl (x :: pa) [] b := by
  have e : ((pa.length : Nat) : Int) + 1 = lv (x :: pa) [] := by rw [lv_nil', List.length_cons]; omega
  unfold dRow
  rw [e, ← dStep_tl x pa b []]
  rfl
theorem dRows_tl (b : List Int) : ∀ (a pa : List Int), dRows b a pa.length (lv pa [] :: tl pa [] b) = lv (a.reverse ++ pa) [] :: tl (a.reverse ++ pa) [] b
  | [], pa => rfl
  | x :: a, pa => by
    unfold dRows
    rw [dRow_tl]
    have := dRows_tl b a (x :: pa)
    rw [List.length_cons] at this
    rw [this, List.reverse_cons, List.append_assoc]
    rfl
theorem tl_nil : ∀ (b pb : List Int), tl [] pb b = (List.range' (pb.length + 1) b.length).map fun (j : Nat) => (j : Int)
  | [], pb => rfl
  | y :: b, pb => by
    unfold tl
    rw [lv_nil, tl_nil b (y :: pb), List.length_cons, List.length_cons, List.range'_succ]
    rfl
theorem row0_tl (b : List Int) : row0 b.length = lv [] [] :: tl [] [] b := by
  rw [lv_nil, tl_nil]
  unfold row0
  rw [List.range_eq_range', List.range'_succ]
  rfl
theorem tl_get (pa : List Int) : ∀ (b pb : List Int), (lv pa pb :: tl pa pb b).getD b.length 0 = lv pa (b.reverse ++ pb)
  | [], pb => rfl
  | y :: b, pb => by
    unfold tl
    rw [List.reverse_cons, List.append_assoc]
    exact tl_get pa b (y :: pb)
theorem distP_lv (a b : List Int) : distP a b = lv a b := by
  unfold distP
  rw [row0_tl]
  have := dRows_tl b a []
  rw [List.length_nil] at this
  rw [this, List.append_nil, tl_get, List.append_nil, lv_rev]
/-- ██ both distances are one ██ -/
theorem distP_ed (a b : List Int) : distP a b = ed a b := by rw [distP_lv, ed_eq]
theorem ed_nil (b : List Int) : ed [] b = b.length := by unfold ed; rfl
theorem ed_nil' (a : List Int) : ed a [] = a.length := by rw [ed_eq, lv_nil']
theorem ed_cons (x y : Int) (a b : List Int) : ed (x :: a) (y :: b) = if x = y then ed a b else 1 + min3 (ed a b) (ed a (y :: b)) (ed (x :: a) b) := by conv => lhs; unfold ed
theorem ed_range : ∀ a b : List Int, 0 ≤ ed a b ∧ ed a b ≤ a.length + b.length
  | [], b => by rw [ed_nil, List.length_nil]; omega
  | x :: a, [] => by rw [ed_nil', List.length_nil]; omega
  | x :: a, y :: b => by
    have h1 := ed_range a b
    have h2 := ed_range a (y :: b)
    have h3 := ed_range (x :: a) b
    rw [ed_cons]
    have h4 := min3_spec (ed a b) (ed a (y :: b)) (ed (x :: a) b)
    simp only [List.length_cons] at h1 h2 h3 ⊢
    split
    · omega
    · rcases h4.2.2.2 with e | e | e <;> rw [e] <;> omega
termination_by a b => a.length + b.length
end Go.Avc
