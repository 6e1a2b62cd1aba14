/- The program's structs as Lean structures, and how they lie in rows of cells. No condition. -/
import Derived.Test.YtcifphelninbmaaDoorSeat
set_option linter.unusedVariables false
set_option linter.unusedSimpArgs false
set_option maxRecDepth 100000
namespace Go.Avc
open Go Go.Proofs

def rowsK (k : IntKind) (l : List Int) : List (List D) := l.map fun c => [.int k c]
theorem rowsK_len (k : IntKind) (l : List Int) : (rowsK k l).length = l.length := List.length_map ..
theorem rowsK_app (k : IntKind) (l m : List Int) : rowsK k (l ++ m) = rowsK k l ++ rowsK k m := List.map_append ..
theorem rowsK_one (k : IntKind) (c : Int) : [[D.int k c]] = rowsK k [c] := rfl
theorem rowsK_get (k : IntKind) (l : List Int) (i : Nat) : (rowsK k l).getD i [.int k 0] = [.int k (l.getD i 0)] := by
  unfold rowsK
  rw [List.getD_eq_getElem?_getD, List.getElem?_map, List.getD_eq_getElem?_getD]
  cases l[i]? <;> rfl
theorem rowsK_set (k : IntKind) (l : List Int) (i : Nat) (c : Int) : (rowsK k l).set i [.int k c] = rowsK k (l.set i c) := by
  unfold rowsK
  rw [List.map_set]
theorem rowsK_z (k : IntKind) (l : List Int) : ∀ x ∈ rowsK k l, x.length = 1 := by
  intro x hx
  obtain ⟨c, _, rfl⟩ := List.mem_map.1 hx
  rfl
theorem rowsK_flat (k : IntKind) (l : List Int) : ((rowsK k l).all fun x => x.all D.flat) = true := by
  rw [List.all_eq_true]
  intro x hx
  obtain ⟨c, _, rfl⟩ := List.mem_map.1 hx
  rfl
/-- strings as a slice -/
def rowsT (l : List ByteArray) : List (List D) := l.map fun s => [.str s]
theorem rowsT_len (l : List ByteArray) : (rowsT l).length = l.length := List.length_map ..
theorem rowsT_get (l : List ByteArray) (i : Nat) : (rowsT l).getD i [.str ⟨#[]⟩] = [.str (l.getD i ⟨#[]⟩)] := by
  unfold rowsT
  rw [List.getD_eq_getElem?_getD, List.getElem?_map, List.getD_eq_getElem?_getD]
  cases l[i]? <;> rfl
theorem map_inj_of {α β : Type} {f : α → β} (h : ∀ a b, f a = f b → a = b) : ∀ {l m : List α}, (l.map f = m.map f) = (l = m)
  | [], [] => by simp
  | [], b :: m => by simp
  | a :: l, [] => by simp
  | a :: l, b :: m => by
    rw [List.map_cons, List.map_cons, List.cons.injEq, List.cons.injEq, map_inj_of h]
    exact propext ⟨fun ⟨x, y⟩ => ⟨h _ _ x, y⟩, fun ⟨x, y⟩ => ⟨x ▸ rfl, y⟩⟩
theorem rowsT_inj {l m : List ByteArray} : (rowsT l = rowsT m) = (l = m) := map_inj_of fun a b h => by
  simp only [List.cons.injEq, D.str.injEq, and_true] at h; exact h
theorem rowsKi_inj {k : IntKind} {l m : List Int} : (rowsK k l = rowsK k m) = (l = m) := map_inj_of fun a b h => by
  simp only [List.cons.injEq, D.int.injEq, and_true, true_and] at h; exact h
theorem intsDi_inj {l m : List Int} : (intsD l = intsD m) = (l = m) := rowsKi_inj (k := .i64)
theorem intsD_K (l : List Int) : intsD l = rowsK .i64 l := rfl
theorem intsD_app (l m : List Int) : intsD (l ++ m) = intsD l ++ intsD m := List.map_append ..
theorem intsD_nil : intsD [] = [] := rfl
theorem intsD_cons (c : Int) (l : List Int) : intsD (c :: l) = [.int .i64 c] :: intsD l := rfl
theorem rowsT_nil : rowsT [] = [] := rfl
theorem rowsT_cons (c : ByteArray) (l : List ByteArray) : rowsT (c :: l) = [.str c] :: rowsT l := rfl
theorem rowsT_app (l m : List ByteArray) : rowsT (l ++ m) = rowsT l ++ rowsT m := List.map_append ..
theorem rowsT_take (l : List ByteArray) (n : Nat) : (rowsT l).take n = rowsT (l.take n) := List.map_take.symm
theorem rowsT_drop (l : List ByteArray) (n : Nat) : (rowsT l).drop n = rowsT (l.drop n) := List.map_drop.symm
theorem intsD_take (l : List Int) (n : Nat) : (intsD l).take n = intsD (l.take n) := List.map_take.symm
theorem intsD_drop (l : List Int) (n : Nat) : (intsD l).drop n = intsD (l.drop n) := List.map_drop.symm
/-- Bounds of what is drawn. -/
def okI (n : Int) : Prop := -1125899906842624 ≤ n ∧ n ≤ 1125899906842624
def okS (s : ByteArray) : Prop := s.size ≤ 1073741824
def okL {α : Type} (p : α → Prop) (l : List α) : Prop := l.length ≤ 1048576 ∧ ∀ x ∈ l, p x
theorem okI_z : okI 0 := ⟨by decide, by decide⟩
theorem okS_z : okS ⟨#[]⟩ := by unfold okS; decide
theorem okL_z {α : Type} (p : α → Prop) : okL p [] := ⟨Nat.zero_le _, fun _ h => by cases h⟩
theorem map_get {α : Type} (f : α → List D) (l : List α) (i : Nat) (z : α) : (l.map f).getD i (f z) = f (l.getD i z) := by
  rw [List.getD_eq_getElem?_getD, List.getElem?_map, List.getD_eq_getElem?_getD]
  cases l[i]? <;> rfl
theorem ints1 (a : Int) : [[D.int .i64 a]] = intsD [a] := rfl
theorem intsc (a : Int) (l : List Int) : [D.int .i64 a] :: intsD l = intsD (a :: l) := rfl
theorem intsD_app' (l m : List Int) : intsD l ++ intsD m = intsD (l ++ m) := (List.map_append ..).symm
theorem ints_nil1 (l : List Int) : (intsD l = []) = (l = []) := propext List.map_eq_nil_iff
theorem ints_nil2 (l : List Int) : ([] = intsD l) = (l = []) := propext ⟨fun h => List.map_eq_nil_iff.1 h.symm, fun h => h ▸ rfl⟩
theorem intsD_len (l : List Int) : (intsD l).length = l.length := List.length_map ..
theorem intsD_get (l : List Int) (i : Nat) : (intsD l).getD i [.int .i64 0] = [.int .i64 (l.getD i 0)] := rowsK_get .i64 l i
theorem intsD_any (l : List Int) (p : List D → Bool) : (intsD l).any p = l.any fun a => p [.int .i64 a] := List.any_map
theorem rowsT_any (l : List ByteArray) (p : List D → Bool) : (rowsT l).any p = l.any fun a => p [.str a] := List.any_map
theorem intsD_zlT (l : List Int) : (∀ y ∈ intsD l, y.length = 1) = True := eq_true (rowsK_z .i64 l)
theorem rowsT_zlT (l : List ByteArray) : (∀ y ∈ rowsT l, y.length = 1) = True := eq_true fun y hy => by obtain ⟨x, _, rfl⟩ := List.mem_map.1 hy; rfl
theorem strs1 (a : ByteArray) : [[D.str a]] = rowsT [a] := rfl
theorem strsc (a : ByteArray) (l : List ByteArray) : [D.str a] :: rowsT l = rowsT (a :: l) := rfl
theorem rowsT_app' (l m : List ByteArray) : rowsT l ++ rowsT m = rowsT (l ++ m) := (List.map_append ..).symm
theorem strs_nil1 (l : List ByteArray) : (rowsT l = []) = (l = []) := propext List.map_eq_nil_iff
theorem strs_nil2 (l : List ByteArray) : ([] = rowsT l) = (l = []) := propext ⟨fun h => List.map_eq_nil_iff.1 h.symm, fun h => h ▸ rfl⟩
/-- slices of slices of numbers, of strings -/
def rowsLI (l : List (List Int)) : List (List D) := l.map fun q => [.sl (intsD q)]
theorem rowsLI_len (l : List (List Int)) : (rowsLI l).length = l.length := List.length_map ..
theorem rowsLI_get (l : List (List Int)) (i : Nat) : (rowsLI l).getD i [.sl []] = [.sl (intsD (l.getD i []))] := map_get (fun q : List Int => [.sl (intsD q)]) l i []
theorem LI_1 (q : List Int) : [[D.sl (intsD q)]] = rowsLI [q] := rfl
theorem LI_c (q : List Int) (l : List (List Int)) : [D.sl (intsD q)] :: rowsLI l = rowsLI (q :: l) := rfl
theorem LI_n (l : List (List Int)) : [D.sl []] :: rowsLI l = rowsLI ([] :: l) := rfl
def rowsLT (l : List (List ByteArray)) : List (List D) := l.map fun q => [.sl (rowsT q)]
theorem LT_1 (q : List ByteArray) : [[D.sl (rowsT q)]] = rowsLT [q] := rfl
theorem LT_c (q : List ByteArray) (l : List (List ByteArray)) : [D.sl (rowsT q)] :: rowsLT l = rowsLT (q :: l) := rfl
theorem LT_n (l : List (List ByteArray)) : [D.sl []] :: rowsLT l = rowsLT ([] :: l) := rfl
theorem rowsLT_len (l : List (List ByteArray)) : (rowsLT l).length = l.length := List.length_map ..
theorem rowsLT_get (l : List (List ByteArray)) (i : Nat) : (rowsLT l).getD i [.sl []] = [.sl (rowsT (l.getD i []))] := map_get (fun q : List ByteArray => [.sl (rowsT q)]) l i []

structure TId where
  kind : Int
  text : ByteArray
def TId.z : TId := ⟨0, ⟨#[]⟩⟩
instance : Inhabited TId := ⟨TId.z⟩
def TId.row (x : TId) : List D := [.int .i64 x.kind, .str x.text]
def TId.rows (l : List TId) : List (List D) := l.map TId.row
theorem TId.inj {x y : TId} (h : x.row = y.row) : x = y := by
  obtain ⟨_, _⟩ := x; obtain ⟨_, _⟩ := y
  simp only [TId.row, List.cons.injEq, D.int.injEq, D.str.injEq, D.bool.injEq, D.sl.injEq, true_and, and_true] at h
  obtain ⟨rfl, rfl⟩ := h; rfl
theorem TId.row_inj {x y : TId} : (x.row = y.row) = (x = y) := propext ⟨TId.inj, fun h => h ▸ rfl⟩
theorem TId.rows_inj {l m : List TId} : (TId.rows l = TId.rows m) = (l = m) := map_inj_of fun _ _ => TId.inj
theorem TId.len (l : List TId) : (TId.rows l).length = l.length := List.length_map ..
theorem TId.app (l m : List TId) : TId.rows (l ++ m) = TId.rows l ++ TId.rows m := List.map_append ..
theorem TId.nil : TId.rows [] = [] := rfl
theorem TId.cons (x : TId) (l : List TId) : TId.rows (x :: l) = x.row :: TId.rows l := rfl
theorem TId.rtake (l : List TId) (n : Nat) : (TId.rows l).take n = TId.rows (l.take n) := List.map_take.symm
theorem TId.rdrop (l : List TId) (n : Nat) : (TId.rows l).drop n = TId.rows (l.drop n) := List.map_drop.symm
theorem TId.rset (l : List TId) (n : Nat) (x : TId) : (TId.rows l).set n x.row = TId.rows (l.set n x) := by simp only [TId.rows, List.map_set]
theorem TId.get (l : List TId) (i : Nat) : (TId.rows l).getD i [.int .i64 0, .str ⟨#[]⟩] = [.int .i64 (l.getD i TId.z).kind, .str (l.getD i TId.z).text] := map_get TId.row l i TId.z
theorem TId.z_len (l : List TId) : ∀ y ∈ TId.rows l, y.length = 2 := fun y hy => by obtain ⟨x, _, rfl⟩ := List.mem_map.1 hy; rfl
theorem TId.zlT (l : List TId) : (∀ y ∈ TId.rows l, y.length = 2) = True := eq_true (TId.z_len l)
theorem TId.any (l : List TId) (p : List D → Bool) : (TId.rows l).any p = l.any fun a => p a.row := List.any_map
theorem TId.ex {p : TId → Prop} : (∃ x, p x) = ∃ a0 a1, p ⟨a0, a1⟩ := propext ⟨fun ⟨⟨a0, a1⟩, h⟩ => ⟨a0, a1, h⟩, fun ⟨a0, a1, h⟩ => ⟨⟨a0, a1⟩, h⟩⟩
theorem TId.nil1 (l : List TId) : (TId.rows l = []) = (l = []) := propext List.map_eq_nil_iff
theorem TId.nil2 (l : List TId) : ([] = TId.rows l) = (l = []) := propext ⟨fun h => List.map_eq_nil_iff.1 h.symm, fun h => h ▸ rfl⟩
theorem TId.fold1 (b1 : Int) (b2 : ByteArray) : [[D.int .i64 b1, D.str b2]] = TId.rows [⟨b1, b2⟩] := rfl
theorem TId.foldc (b1 : Int) (b2 : ByteArray) (l : List TId) : [D.int .i64 b1, D.str b2] :: TId.rows l = TId.rows (⟨b1, b2⟩ :: l) := rfl
theorem TId.foldr (b1 : Int) (b2 : ByteArray) (x : TId) : ([D.int .i64 b1, D.str b2] = x.row) = (x = ⟨b1, b2⟩) := propext ⟨fun h => TId.inj (x := x) (y := ⟨b1, b2⟩) h.symm, fun h => h ▸ rfl⟩
theorem TId.app' (l m : List TId) : TId.rows l ++ TId.rows m = TId.rows (l ++ m) := (List.map_append ..).symm
def TId.ok (x : TId) : Prop := okI x.kind ∧ okS x.text
theorem TId.z_ok : TId.z.ok := ⟨okI_z, okS_z⟩
theorem TId.flat (l : List TId) : ((TId.rows l).all fun x => x.all D.flat) = true := by
  rw [List.all_eq_true]; intro y hy; obtain ⟨x, _, rfl⟩ := List.mem_map.1 hy; rfl
structure TValue where
  kind : Int
  text : ByteArray
  number : Int
def TValue.z : TValue := ⟨0, ⟨#[]⟩, 0⟩
instance : Inhabited TValue := ⟨TValue.z⟩
def TValue.row (x : TValue) : List D := [.int .i64 x.kind, .str x.text, .int .i64 x.number]
def TValue.rows (l : List TValue) : List (List D) := l.map TValue.row
theorem TValue.inj {x y : TValue} (h : x.row = y.row) : x = y := by
  obtain ⟨_, _, _⟩ := x; obtain ⟨_, _, _⟩ := y
  simp only [TValue.row, List.cons.injEq, D.int.injEq, D.str.injEq, D.bool.injEq, D.sl.injEq, true_and, and_true] at h
  obtain ⟨rfl, rfl, rfl⟩ := h; rfl
theorem TValue.row_inj {x y : TValue} : (x.row = y.row) = (x = y) := propext ⟨TValue.inj, fun h => h ▸ rfl⟩
theorem TValue.rows_inj {l m : List TValue} : (TValue.rows l = TValue.rows m) = (l = m) := map_inj_of fun _ _ => TValue.inj
theorem TValue.len (l : List TValue) : (TValue.rows l).length = l.length := List.length_map ..
theorem TValue.app (l m : List TValue) : TValue.rows (l ++ m) = TValue.rows l ++ TValue.rows m := List.map_append ..
theorem TValue.nil : TValue.rows [] = [] := rfl
theorem TValue.cons (x : TValue) (l : List TValue) : TValue.rows (x :: l) = x.row :: TValue.rows l := rfl
theorem TValue.rtake (l : List TValue) (n : Nat) : (TValue.rows l).take n = TValue.rows (l.take n) := List.map_take.symm
theorem TValue.rdrop (l : List TValue) (n : Nat) : (TValue.rows l).drop n = TValue.rows (l.drop n) := List.map_drop.symm
theorem TValue.rset (l : List TValue) (n : Nat) (x : TValue) : (TValue.rows l).set n x.row = TValue.rows (l.set n x) := by simp only [TValue.rows, List.map_set]
theorem TValue.get (l : List TValue) (i : Nat) : (TValue.rows l).getD i [.int .i64 0, .str ⟨#[]⟩, .int .i64 0] = [.int .i64 (l.getD i TValue.z).kind, .str (l.getD i TValue.z).text, .int .i64 (l.getD i TValue.z).number] := map_get TValue.row l i TValue.z
theorem TValue.z_len (l : List TValue) : ∀ y ∈ TValue.rows l, y.length = 3 := fun y hy => by obtain ⟨x, _, rfl⟩ := List.mem_map.1 hy; rfl
theorem TValue.zlT (l : List TValue) : (∀ y ∈ TValue.rows l, y.length = 3) = True := eq_true (TValue.z_len l)
theorem TValue.any (l : List TValue) (p : List D → Bool) : (TValue.rows l).any p = l.any fun a => p a.row := List.any_map
theorem TValue.ex {p : TValue → Prop} : (∃ x, p x) = ∃ a0 a1 a2, p ⟨a0, a1, a2⟩ := propext ⟨fun ⟨⟨a0, a1, a2⟩, h⟩ => ⟨a0, a1, a2, h⟩, fun ⟨a0, a1, a2, h⟩ => ⟨⟨a0, a1, a2⟩, h⟩⟩
theorem TValue.nil1 (l : List TValue) : (TValue.rows l = []) = (l = []) := propext List.map_eq_nil_iff
theorem TValue.nil2 (l : List TValue) : ([] = TValue.rows l) = (l = []) := propext ⟨fun h => List.map_eq_nil_iff.1 h.symm, fun h => h ▸ rfl⟩
theorem TValue.fold1 (b1 : Int) (b2 : ByteArray) (b3 : Int) : [[D.int .i64 b1, D.str b2, D.int .i64 b3]] = TValue.rows [⟨b1, b2, b3⟩] := rfl
theorem TValue.foldc (b1 : Int) (b2 : ByteArray) (b3 : Int) (l : List TValue) : [D.int .i64 b1, D.str b2, D.int .i64 b3] :: TValue.rows l = TValue.rows (⟨b1, b2, b3⟩ :: l) := rfl
theorem TValue.foldr (b1 : Int) (b2 : ByteArray) (b3 : Int) (x : TValue) : ([D.int .i64 b1, D.str b2, D.int .i64 b3] = x.row) = (x = ⟨b1, b2, b3⟩) := propext ⟨fun h => TValue.inj (x := x) (y := ⟨b1, b2, b3⟩) h.symm, fun h => h ▸ rfl⟩
theorem TValue.app' (l m : List TValue) : TValue.rows l ++ TValue.rows m = TValue.rows (l ++ m) := (List.map_append ..).symm
def TValue.ok (x : TValue) : Prop := okI x.kind ∧ okS x.text ∧ okI x.number
theorem TValue.z_ok : TValue.z.ok := ⟨okI_z, okS_z, okI_z⟩
theorem TValue.flat (l : List TValue) : ((TValue.rows l).all fun x => x.all D.flat) = true := by
  rw [List.all_eq_true]; intro y hy; obtain ⟨x, _, rfl⟩ := List.mem_map.1 hy; rfl
structure TField where
  name : ByteArray
  value : TValue
def TField.z : TField := ⟨⟨#[]⟩, ⟨0, ⟨#[]⟩, 0⟩⟩
instance : Inhabited TField := ⟨TField.z⟩
def TField.row (x : TField) : List D := [.str x.name, .int .i64 x.value.kind, .str x.value.text, .int .i64 x.value.number]
def TField.rows (l : List TField) : List (List D) := l.map TField.row
theorem TField.inj {x y : TField} (h : x.row = y.row) : x = y := by
  obtain ⟨_, ⟨_, _, _⟩⟩ := x; obtain ⟨_, ⟨_, _, _⟩⟩ := y
  simp only [TField.row, List.cons.injEq, D.int.injEq, D.str.injEq, D.bool.injEq, D.sl.injEq, true_and, and_true] at h
  obtain ⟨rfl, rfl, rfl, rfl⟩ := h; rfl
theorem TField.row_inj {x y : TField} : (x.row = y.row) = (x = y) := propext ⟨TField.inj, fun h => h ▸ rfl⟩
theorem TField.rows_inj {l m : List TField} : (TField.rows l = TField.rows m) = (l = m) := map_inj_of fun _ _ => TField.inj
theorem TField.len (l : List TField) : (TField.rows l).length = l.length := List.length_map ..
theorem TField.app (l m : List TField) : TField.rows (l ++ m) = TField.rows l ++ TField.rows m := List.map_append ..
theorem TField.nil : TField.rows [] = [] := rfl
theorem TField.cons (x : TField) (l : List TField) : TField.rows (x :: l) = x.row :: TField.rows l := rfl
theorem TField.rtake (l : List TField) (n : Nat) : (TField.rows l).take n = TField.rows (l.take n) := List.map_take.symm
theorem TField.rdrop (l : List TField) (n : Nat) : (TField.rows l).drop n = TField.rows (l.drop n) := List.map_drop.symm
theorem TField.rset (l : List TField) (n : Nat) (x : TField) : (TField.rows l).set n x.row = TField.rows (l.set n x) := by simp only [TField.rows, List.map_set]
theorem TField.get (l : List TField) (i : Nat) : (TField.rows l).getD i [.str ⟨#[]⟩, .int .i64 0, .str ⟨#[]⟩, .int .i64 0] = [.str (l.getD i TField.z).name, .int .i64 (l.getD i TField.z).value.kind, .str (l.getD i TField.z).value.text, .int .i64 (l.getD i TField.z).value.number] := map_get TField.row l i TField.z
theorem TField.z_len (l : List TField) : ∀ y ∈ TField.rows l, y.length = 4 := fun y hy => by obtain ⟨x, _, rfl⟩ := List.mem_map.1 hy; rfl
theorem TField.zlT (l : List TField) : (∀ y ∈ TField.rows l, y.length = 4) = True := eq_true (TField.z_len l)
theorem TField.any (l : List TField) (p : List D → Bool) : (TField.rows l).any p = l.any fun a => p a.row := List.any_map
theorem TField.ex {p : TField → Prop} : (∃ x, p x) = ∃ a0 a1, p ⟨a0, a1⟩ := propext ⟨fun ⟨⟨a0, a1⟩, h⟩ => ⟨a0, a1, h⟩, fun ⟨a0, a1, h⟩ => ⟨⟨a0, a1⟩, h⟩⟩
theorem TField.nil1 (l : List TField) : (TField.rows l = []) = (l = []) := propext List.map_eq_nil_iff
theorem TField.nil2 (l : List TField) : ([] = TField.rows l) = (l = []) := propext ⟨fun h => List.map_eq_nil_iff.1 h.symm, fun h => h ▸ rfl⟩
theorem TField.fold1 (b1 : ByteArray) (b2 : Int) (b3 : ByteArray) (b4 : Int) : [[D.str b1, D.int .i64 b2, D.str b3, D.int .i64 b4]] = TField.rows [⟨b1, ⟨b2, b3, b4⟩⟩] := rfl
theorem TField.foldc (b1 : ByteArray) (b2 : Int) (b3 : ByteArray) (b4 : Int) (l : List TField) : [D.str b1, D.int .i64 b2, D.str b3, D.int .i64 b4] :: TField.rows l = TField.rows (⟨b1, ⟨b2, b3, b4⟩⟩ :: l) := rfl
theorem TField.foldr (b1 : ByteArray) (b2 : Int) (b3 : ByteArray) (b4 : Int) (x : TField) : ([D.str b1, D.int .i64 b2, D.str b3, D.int .i64 b4] = x.row) = (x = ⟨b1, ⟨b2, b3, b4⟩⟩) := propext ⟨fun h => TField.inj (x := x) (y := ⟨b1, ⟨b2, b3, b4⟩⟩) h.symm, fun h => h ▸ rfl⟩
theorem TField.app' (l m : List TField) : TField.rows l ++ TField.rows m = TField.rows (l ++ m) := (List.map_append ..).symm
def TField.ok (x : TField) : Prop := okS x.name ∧ TValue.ok x.value
theorem TField.z_ok : TField.z.ok := ⟨okS_z, TValue.z_ok⟩
theorem TField.flat (l : List TField) : ((TField.rows l).all fun x => x.all D.flat) = true := by
  rw [List.all_eq_true]; intro y hy; obtain ⟨x, _, rfl⟩ := List.mem_map.1 hy; rfl
structure TShift where
  at_ : Int
  offset : Int
def TShift.z : TShift := ⟨0, 0⟩
instance : Inhabited TShift := ⟨TShift.z⟩
def TShift.row (x : TShift) : List D := [.int .i64 x.at_, .int .i64 x.offset]
def TShift.rows (l : List TShift) : List (List D) := l.map TShift.row
theorem TShift.inj {x y : TShift} (h : x.row = y.row) : x = y := by
  obtain ⟨_, _⟩ := x; obtain ⟨_, _⟩ := y
  simp only [TShift.row, List.cons.injEq, D.int.injEq, D.str.injEq, D.bool.injEq, D.sl.injEq, true_and, and_true] at h
  obtain ⟨rfl, rfl⟩ := h; rfl
theorem TShift.row_inj {x y : TShift} : (x.row = y.row) = (x = y) := propext ⟨TShift.inj, fun h => h ▸ rfl⟩
theorem TShift.rows_inj {l m : List TShift} : (TShift.rows l = TShift.rows m) = (l = m) := map_inj_of fun _ _ => TShift.inj
theorem TShift.len (l : List TShift) : (TShift.rows l).length = l.length := List.length_map ..
theorem TShift.app (l m : List TShift) : TShift.rows (l ++ m) = TShift.rows l ++ TShift.rows m := List.map_append ..
theorem TShift.nil : TShift.rows [] = [] := rfl
theorem TShift.cons (x : TShift) (l : List TShift) : TShift.rows (x :: l) = x.row :: TShift.rows l := rfl
theorem TShift.rtake (l : List TShift) (n : Nat) : (TShift.rows l).take n = TShift.rows (l.take n) := List.map_take.symm
theorem TShift.rdrop (l : List TShift) (n : Nat) : (TShift.rows l).drop n = TShift.rows (l.drop n) := List.map_drop.symm
theorem TShift.rset (l : List TShift) (n : Nat) (x : TShift) : (TShift.rows l).set n x.row = TShift.rows (l.set n x) := by simp only [TShift.rows, List.map_set]
theorem TShift.get (l : List TShift) (i : Nat) : (TShift.rows l).getD i [.int .i64 0, .int .i64 0] = [.int .i64 (l.getD i TShift.z).at_, .int .i64 (l.getD i TShift.z).offset] := map_get TShift.row l i TShift.z
theorem TShift.z_len (l : List TShift) : ∀ y ∈ TShift.rows l, y.length = 2 := fun y hy => by obtain ⟨x, _, rfl⟩ := List.mem_map.1 hy; rfl
theorem TShift.zlT (l : List TShift) : (∀ y ∈ TShift.rows l, y.length = 2) = True := eq_true (TShift.z_len l)
theorem TShift.any (l : List TShift) (p : List D → Bool) : (TShift.rows l).any p = l.any fun a => p a.row := List.any_map
theorem TShift.ex {p : TShift → Prop} : (∃ x, p x) = ∃ a0 a1, p ⟨a0, a1⟩ := propext ⟨fun ⟨⟨a0, a1⟩, h⟩ => ⟨a0, a1, h⟩, fun ⟨a0, a1, h⟩ => ⟨⟨a0, a1⟩, h⟩⟩
theorem TShift.nil1 (l : List TShift) : (TShift.rows l = []) = (l = []) := propext List.map_eq_nil_iff
theorem TShift.nil2 (l : List TShift) : ([] = TShift.rows l) = (l = []) := propext ⟨fun h => List.map_eq_nil_iff.1 h.symm, fun h => h ▸ rfl⟩
theorem TShift.fold1 (b1 : Int) (b2 : Int) : [[D.int .i64 b1, D.int .i64 b2]] = TShift.rows [⟨b1, b2⟩] := rfl
theorem TShift.foldc (b1 : Int) (b2 : Int) (l : List TShift) : [D.int .i64 b1, D.int .i64 b2] :: TShift.rows l = TShift.rows (⟨b1, b2⟩ :: l) := rfl
theorem TShift.foldr (b1 : Int) (b2 : Int) (x : TShift) : ([D.int .i64 b1, D.int .i64 b2] = x.row) = (x = ⟨b1, b2⟩) := propext ⟨fun h => TShift.inj (x := x) (y := ⟨b1, b2⟩) h.symm, fun h => h ▸ rfl⟩
theorem TShift.app' (l m : List TShift) : TShift.rows l ++ TShift.rows m = TShift.rows (l ++ m) := (List.map_append ..).symm
def TShift.ok (x : TShift) : Prop := okI x.at_ ∧ okI x.offset
theorem TShift.z_ok : TShift.z.ok := ⟨okI_z, okI_z⟩
theorem TShift.flat (l : List TShift) : ((TShift.rows l).all fun x => x.all D.flat) = true := by
  rw [List.all_eq_true]; intro y hy; obtain ⟨x, _, rfl⟩ := List.mem_map.1 hy; rfl
structure TZone where
  name : ByteArray
  shifts : List TShift
def TZone.z : TZone := ⟨⟨#[]⟩, []⟩
instance : Inhabited TZone := ⟨TZone.z⟩
def TZone.row (x : TZone) : List D := [.str x.name, .sl (TShift.rows x.shifts)]
def TZone.rows (l : List TZone) : List (List D) := l.map TZone.row
theorem TZone.inj {x y : TZone} (h : x.row = y.row) : x = y := by
  obtain ⟨_, _⟩ := x; obtain ⟨_, _⟩ := y
  simp only [TZone.row, List.cons.injEq, D.int.injEq, D.str.injEq, D.bool.injEq, D.sl.injEq, true_and, and_true, TShift.rows_inj] at h
  obtain ⟨rfl, rfl⟩ := h; rfl
theorem TZone.row_inj {x y : TZone} : (x.row = y.row) = (x = y) := propext ⟨TZone.inj, fun h => h ▸ rfl⟩
theorem TZone.rows_inj {l m : List TZone} : (TZone.rows l = TZone.rows m) = (l = m) := map_inj_of fun _ _ => TZone.inj
theorem TZone.len (l : List TZone) : (TZone.rows l).length = l.length := List.length_map ..
theorem TZone.app (l m : List TZone) : TZone.rows (l ++ m) = TZone.rows l ++ TZone.rows m := List.map_append ..
theorem TZone.nil : TZone.rows [] = [] := rfl
theorem TZone.cons (x : TZone) (l : List TZone) : TZone.rows (x :: l) = x.row :: TZone.rows l := rfl
theorem TZone.rtake (l : List TZone) (n : Nat) : (TZone.rows l).take n = TZone.rows (l.take n) := List.map_take.symm
theorem TZone.rdrop (l : List TZone) (n : Nat) : (TZone.rows l).drop n = TZone.rows (l.drop n) := List.map_drop.symm
theorem TZone.rset (l : List TZone) (n : Nat) (x : TZone) : (TZone.rows l).set n x.row = TZone.rows (l.set n x) := by simp only [TZone.rows, List.map_set]
theorem TZone.get (l : List TZone) (i : Nat) : (TZone.rows l).getD i [.str ⟨#[]⟩, .sl []] = [.str (l.getD i TZone.z).name, .sl (TShift.rows (l.getD i TZone.z).shifts)] := map_get TZone.row l i TZone.z
theorem TZone.z_len (l : List TZone) : ∀ y ∈ TZone.rows l, y.length = 2 := fun y hy => by obtain ⟨x, _, rfl⟩ := List.mem_map.1 hy; rfl
theorem TZone.zlT (l : List TZone) : (∀ y ∈ TZone.rows l, y.length = 2) = True := eq_true (TZone.z_len l)
theorem TZone.any (l : List TZone) (p : List D → Bool) : (TZone.rows l).any p = l.any fun a => p a.row := List.any_map
theorem TZone.ex {p : TZone → Prop} : (∃ x, p x) = ∃ a0 a1, p ⟨a0, a1⟩ := propext ⟨fun ⟨⟨a0, a1⟩, h⟩ => ⟨a0, a1, h⟩, fun ⟨a0, a1, h⟩ => ⟨⟨a0, a1⟩, h⟩⟩
theorem TZone.nil1 (l : List TZone) : (TZone.rows l = []) = (l = []) := propext List.map_eq_nil_iff
theorem TZone.nil2 (l : List TZone) : ([] = TZone.rows l) = (l = []) := propext ⟨fun h => List.map_eq_nil_iff.1 h.symm, fun h => h ▸ rfl⟩
theorem TZone.fold1 (b1 : ByteArray) (b2 : List TShift) : [[D.str b1, D.sl (TShift.rows b2)]] = TZone.rows [⟨b1, b2⟩] := rfl
theorem TZone.foldc (b1 : ByteArray) (b2 : List TShift) (l : List TZone) : [D.str b1, D.sl (TShift.rows b2)] :: TZone.rows l = TZone.rows (⟨b1, b2⟩ :: l) := rfl
theorem TZone.foldr (b1 : ByteArray) (b2 : List TShift) (x : TZone) : ([D.str b1, D.sl (TShift.rows b2)] = x.row) = (x = ⟨b1, b2⟩) := propext ⟨fun h => TZone.inj (x := x) (y := ⟨b1, b2⟩) h.symm, fun h => h ▸ rfl⟩
theorem TZone.app' (l m : List TZone) : TZone.rows l ++ TZone.rows m = TZone.rows (l ++ m) := (List.map_append ..).symm
def TZone.ok (x : TZone) : Prop := okS x.name ∧ okL TShift.ok x.shifts
theorem TZone.z_ok : TZone.z.ok := ⟨okS_z, okL_z _⟩
structure TWindow where
  from_ : Int
  to_ : Int
def TWindow.z : TWindow := ⟨0, 0⟩
instance : Inhabited TWindow := ⟨TWindow.z⟩
def TWindow.row (x : TWindow) : List D := [.int .i64 x.from_, .int .i64 x.to_]
def TWindow.rows (l : List TWindow) : List (List D) := l.map TWindow.row
theorem TWindow.inj {x y : TWindow} (h : x.row = y.row) : x = y := by
  obtain ⟨_, _⟩ := x; obtain ⟨_, _⟩ := y
  simp only [TWindow.row, List.cons.injEq, D.int.injEq, D.str.injEq, D.bool.injEq, D.sl.injEq, true_and, and_true] at h
  obtain ⟨rfl, rfl⟩ := h; rfl
theorem TWindow.row_inj {x y : TWindow} : (x.row = y.row) = (x = y) := propext ⟨TWindow.inj, fun h => h ▸ rfl⟩
theorem TWindow.rows_inj {l m : List TWindow} : (TWindow.rows l = TWindow.rows m) = (l = m) := map_inj_of fun _ _ => TWindow.inj
theorem TWindow.len (l : List TWindow) : (TWindow.rows l).length = l.length := List.length_map ..
theorem TWindow.app (l m : List TWindow) : TWindow.rows (l ++ m) = TWindow.rows l ++ TWindow.rows m := List.map_append ..
theorem TWindow.nil : TWindow.rows [] = [] := rfl
theorem TWindow.cons (x : TWindow) (l : List TWindow) : TWindow.rows (x :: l) = x.row :: TWindow.rows l := rfl
theorem TWindow.rtake (l : List TWindow) (n : Nat) : (TWindow.rows l).take n = TWindow.rows (l.take n) := List.map_take.symm
theorem TWindow.rdrop (l : List TWindow) (n : Nat) : (TWindow.rows l).drop n = TWindow.rows (l.drop n) := List.map_drop.symm
theorem TWindow.rset (l : List TWindow) (n : Nat) (x : TWindow) : (TWindow.rows l).set n x.row = TWindow.rows (l.set n x) := by simp only [TWindow.rows, List.map_set]
theorem TWindow.get (l : List TWindow) (i : Nat) : (TWindow.rows l).getD i [.int .i64 0, .int .i64 0] = [.int .i64 (l.getD i TWindow.z).from_, .int .i64 (l.getD i TWindow.z).to_] := map_get TWindow.row l i TWindow.z
theorem TWindow.z_len (l : List TWindow) : ∀ y ∈ TWindow.rows l, y.length = 2 := fun y hy => by obtain ⟨x, _, rfl⟩ := List.mem_map.1 hy; rfl
theorem TWindow.zlT (l : List TWindow) : (∀ y ∈ TWindow.rows l, y.length = 2) = True := eq_true (TWindow.z_len l)
theorem TWindow.any (l : List TWindow) (p : List D → Bool) : (TWindow.rows l).any p = l.any fun a => p a.row := List.any_map
theorem TWindow.ex {p : TWindow → Prop} : (∃ x, p x) = ∃ a0 a1, p ⟨a0, a1⟩ := propext ⟨fun ⟨⟨a0, a1⟩, h⟩ => ⟨a0, a1, h⟩, fun ⟨a0, a1, h⟩ => ⟨⟨a0, a1⟩, h⟩⟩
theorem TWindow.nil1 (l : List TWindow) : (TWindow.rows l = []) = (l = []) := propext List.map_eq_nil_iff
theorem TWindow.nil2 (l : List TWindow) : ([] = TWindow.rows l) = (l = []) := propext ⟨fun h => List.map_eq_nil_iff.1 h.symm, fun h => h ▸ rfl⟩
theorem TWindow.fold1 (b1 : Int) (b2 : Int) : [[D.int .i64 b1, D.int .i64 b2]] = TWindow.rows [⟨b1, b2⟩] := rfl
theorem TWindow.foldc (b1 : Int) (b2 : Int) (l : List TWindow) : [D.int .i64 b1, D.int .i64 b2] :: TWindow.rows l = TWindow.rows (⟨b1, b2⟩ :: l) := rfl
theorem TWindow.foldr (b1 : Int) (b2 : Int) (x : TWindow) : ([D.int .i64 b1, D.int .i64 b2] = x.row) = (x = ⟨b1, b2⟩) := propext ⟨fun h => TWindow.inj (x := x) (y := ⟨b1, b2⟩) h.symm, fun h => h ▸ rfl⟩
theorem TWindow.app' (l m : List TWindow) : TWindow.rows l ++ TWindow.rows m = TWindow.rows (l ++ m) := (List.map_append ..).symm
def TWindow.ok (x : TWindow) : Prop := okI x.from_ ∧ okI x.to_
theorem TWindow.z_ok : TWindow.z.ok := ⟨okI_z, okI_z⟩
theorem TWindow.flat (l : List TWindow) : ((TWindow.rows l).all fun x => x.all D.flat) = true := by
  rw [List.all_eq_true]; intro y hy; obtain ⟨x, _, rfl⟩ := List.mem_map.1 hy; rfl
structure TCap where
  channel : Int
  purpose : ByteArray
  many : Int
  within : Int
def TCap.z : TCap := ⟨0, ⟨#[]⟩, 0, 0⟩
instance : Inhabited TCap := ⟨TCap.z⟩
def TCap.row (x : TCap) : List D := [.int .i64 x.channel, .str x.purpose, .int .i64 x.many, .int .i64 x.within]
def TCap.rows (l : List TCap) : List (List D) := l.map TCap.row
theorem TCap.inj {x y : TCap} (h : x.row = y.row) : x = y := by
  obtain ⟨_, _, _, _⟩ := x; obtain ⟨_, _, _, _⟩ := y
  simp only [TCap.row, List.cons.injEq, D.int.injEq, D.str.injEq, D.bool.injEq, D.sl.injEq, true_and, and_true] at h
  obtain ⟨rfl, rfl, rfl, rfl⟩ := h; rfl
theorem TCap.row_inj {x y : TCap} : (x.row = y.row) = (x = y) := propext ⟨TCap.inj, fun h => h ▸ rfl⟩
theorem TCap.rows_inj {l m : List TCap} : (TCap.rows l = TCap.rows m) = (l = m) := map_inj_of fun _ _ => TCap.inj
theorem TCap.len (l : List TCap) : (TCap.rows l).length = l.length := List.length_map ..
theorem TCap.app (l m : List TCap) : TCap.rows (l ++ m) = TCap.rows l ++ TCap.rows m := List.map_append ..
theorem TCap.nil : TCap.rows [] = [] := rfl
theorem TCap.cons (x : TCap) (l : List TCap) : TCap.rows (x :: l) = x.row :: TCap.rows l := rfl
theorem TCap.rtake (l : List TCap) (n : Nat) : (TCap.rows l).take n = TCap.rows (l.take n) := List.map_take.symm
theorem TCap.rdrop (l : List TCap) (n : Nat) : (TCap.rows l).drop n = TCap.rows (l.drop n) := List.map_drop.symm
theorem TCap.rset (l : List TCap) (n : Nat) (x : TCap) : (TCap.rows l).set n x.row = TCap.rows (l.set n x) := by simp only [TCap.rows, List.map_set]
theorem TCap.get (l : List TCap) (i : Nat) : (TCap.rows l).getD i [.int .i64 0, .str ⟨#[]⟩, .int .i64 0, .int .i64 0] = [.int .i64 (l.getD i TCap.z).channel, .str (l.getD i TCap.z).purpose, .int .i64 (l.getD i TCap.z).many, .int .i64 (l.getD i TCap.z).within] := map_get TCap.row l i TCap.z
theorem TCap.z_len (l : List TCap) : ∀ y ∈ TCap.rows l, y.length = 4 := fun y hy => by obtain ⟨x, _, rfl⟩ := List.mem_map.1 hy; rfl
theorem TCap.zlT (l : List TCap) : (∀ y ∈ TCap.rows l, y.length = 4) = True := eq_true (TCap.z_len l)
theorem TCap.any (l : List TCap) (p : List D → Bool) : (TCap.rows l).any p = l.any fun a => p a.row := List.any_map
theorem TCap.ex {p : TCap → Prop} : (∃ x, p x) = ∃ a0 a1 a2 a3, p ⟨a0, a1, a2, a3⟩ := propext ⟨fun ⟨⟨a0, a1, a2, a3⟩, h⟩ => ⟨a0, a1, a2, a3, h⟩, fun ⟨a0, a1, a2, a3, h⟩ => ⟨⟨a0, a1, a2, a3⟩, h⟩⟩
theorem TCap.nil1 (l : List TCap) : (TCap.rows l = []) = (l = []) := propext List.map_eq_nil_iff
theorem TCap.nil2 (l : List TCap) : ([] = TCap.rows l) = (l = []) := propext ⟨fun h => List.map_eq_nil_iff.1 h.symm, fun h => h ▸ rfl⟩
theorem TCap.fold1 (b1 : Int) (b2 : ByteArray) (b3 : Int) (b4 : Int) : [[D.int .i64 b1, D.str b2, D.int .i64 b3, D.int .i64 b4]] = TCap.rows [⟨b1, b2, b3, b4⟩] := rfl
theorem TCap.foldc (b1 : Int) (b2 : ByteArray) (b3 : Int) (b4 : Int) (l : List TCap) : [D.int .i64 b1, D.str b2, D.int .i64 b3, D.int .i64 b4] :: TCap.rows l = TCap.rows (⟨b1, b2, b3, b4⟩ :: l) := rfl
theorem TCap.foldr (b1 : Int) (b2 : ByteArray) (b3 : Int) (b4 : Int) (x : TCap) : ([D.int .i64 b1, D.str b2, D.int .i64 b3, D.int .i64 b4] = x.row) = (x = ⟨b1, b2, b3, b4⟩) := propext ⟨fun h => TCap.inj (x := x) (y := ⟨b1, b2, b3, b4⟩) h.symm, fun h => h ▸ rfl⟩
theorem TCap.app' (l m : List TCap) : TCap.rows l ++ TCap.rows m = TCap.rows (l ++ m) := (List.map_append ..).symm
def TCap.ok (x : TCap) : Prop := okI x.channel ∧ okS x.purpose ∧ okI x.many ∧ okI x.within
theorem TCap.z_ok : TCap.z.ok := ⟨okI_z, okS_z, okI_z, okI_z⟩
theorem TCap.flat (l : List TCap) : ((TCap.rows l).all fun x => x.all D.flat) = true := by
  rw [List.all_eq_true]; intro y hy; obtain ⟨x, _, rfl⟩ := List.mem_map.1 hy; rfl
structure TPool where
  name : ByteArray
  channel : Int
  perMinute : Int
  first : Int
  warm : List Int
def TPool.z : TPool := ⟨⟨#[]⟩, 0, 0, 0, []⟩
instance : Inhabited TPool := ⟨TPool.z⟩
def TPool.row (x : TPool) : List D := [.str x.name, .int .i64 x.channel, .int .i64 x.perMinute, .int .i64 x.first, .sl (intsD x.warm)]
def TPool.rows (l : List TPool) : List (List D) := l.map TPool.row
theorem TPool.inj {x y : TPool} (h : x.row = y.row) : x = y := by
  obtain ⟨_, _, _, _, _⟩ := x; obtain ⟨_, _, _, _, _⟩ := y
  simp only [TPool.row, List.cons.injEq, D.int.injEq, D.str.injEq, D.bool.injEq, D.sl.injEq, true_and, and_true, intsDi_inj] at h
  obtain ⟨rfl, rfl, rfl, rfl, rfl⟩ := h; rfl
theorem TPool.row_inj {x y : TPool} : (x.row = y.row) = (x = y) := propext ⟨TPool.inj, fun h => h ▸ rfl⟩
theorem TPool.rows_inj {l m : List TPool} : (TPool.rows l = TPool.rows m) = (l = m) := map_inj_of fun _ _ => TPool.inj
theorem TPool.len (l : List TPool) : (TPool.rows l).length = l.length := List.length_map ..
theorem TPool.app (l m : List TPool) : TPool.rows (l ++ m) = TPool.rows l ++ TPool.rows m := List.map_append ..
theorem TPool.nil : TPool.rows [] = [] := rfl
theorem TPool.cons (x : TPool) (l : List TPool) : TPool.rows (x :: l) = x.row :: TPool.rows l := rfl
theorem TPool.rtake (l : List TPool) (n : Nat) : (TPool.rows l).take n = TPool.rows (l.take n) := List.map_take.symm
theorem TPool.rdrop (l : List TPool) (n : Nat) : (TPool.rows l).drop n = TPool.rows (l.drop n) := List.map_drop.symm
theorem TPool.rset (l : List TPool) (n : Nat) (x : TPool) : (TPool.rows l).set n x.row = TPool.rows (l.set n x) := by simp only [TPool.rows, List.map_set]
theorem TPool.get (l : List TPool) (i : Nat) : (TPool.rows l).getD i [.str ⟨#[]⟩, .int .i64 0, .int .i64 0, .int .i64 0, .sl []] = [.str (l.getD i TPool.z).name, .int .i64 (l.getD i TPool.z).channel, .int .i64 (l.getD i TPool.z).perMinute, .int .i64 (l.getD i TPool.z).first, .sl (intsD (l.getD i TPool.z).warm)] := map_get TPool.row l i TPool.z
theorem TPool.z_len (l : List TPool) : ∀ y ∈ TPool.rows l, y.length = 5 := fun y hy => by obtain ⟨x, _, rfl⟩ := List.mem_map.1 hy; rfl
theorem TPool.zlT (l : List TPool) : (∀ y ∈ TPool.rows l, y.length = 5) = True := eq_true (TPool.z_len l)
theorem TPool.any (l : List TPool) (p : List D → Bool) : (TPool.rows l).any p = l.any fun a => p a.row := List.any_map
theorem TPool.ex {p : TPool → Prop} : (∃ x, p x) = ∃ a0 a1 a2 a3 a4, p ⟨a0, a1, a2, a3, a4⟩ := propext ⟨fun ⟨⟨a0, a1, a2, a3, a4⟩, h⟩ => ⟨a0, a1, a2, a3, a4, h⟩, fun ⟨a0, a1, a2, a3, a4, h⟩ => ⟨⟨a0, a1, a2, a3, a4⟩, h⟩⟩
theorem TPool.nil1 (l : List TPool) : (TPool.rows l = []) = (l = []) := propext List.map_eq_nil_iff
theorem TPool.nil2 (l : List TPool) : ([] = TPool.rows l) = (l = []) := propext ⟨fun h => List.map_eq_nil_iff.1 h.symm, fun h => h ▸ rfl⟩
theorem TPool.fold1 (b1 : ByteArray) (b2 : Int) (b3 : Int) (b4 : Int) (b5 : List Int) : [[D.str b1, D.int .i64 b2, D.int .i64 b3, D.int .i64 b4, D.sl (intsD b5)]] = TPool.rows [⟨b1, b2, b3, b4, b5⟩] := rfl
theorem TPool.foldc (b1 : ByteArray) (b2 : Int) (b3 : Int) (b4 : Int) (b5 : List Int) (l : List TPool) : [D.str b1, D.int .i64 b2, D.int .i64 b3, D.int .i64 b4, D.sl (intsD b5)] :: TPool.rows l = TPool.rows (⟨b1, b2, b3, b4, b5⟩ :: l) := rfl
theorem TPool.foldr (b1 : ByteArray) (b2 : Int) (b3 : Int) (b4 : Int) (b5 : List Int) (x : TPool) : ([D.str b1, D.int .i64 b2, D.int .i64 b3, D.int .i64 b4, D.sl (intsD b5)] = x.row) = (x = ⟨b1, b2, b3, b4, b5⟩) := propext ⟨fun h => TPool.inj (x := x) (y := ⟨b1, b2, b3, b4, b5⟩) h.symm, fun h => h ▸ rfl⟩
theorem TPool.app' (l m : List TPool) : TPool.rows l ++ TPool.rows m = TPool.rows (l ++ m) := (List.map_append ..).symm
def TPool.ok (x : TPool) : Prop := okS x.name ∧ okI x.channel ∧ okI x.perMinute ∧ okI x.first ∧ okL okI x.warm
theorem TPool.z_ok : TPool.z.ok := ⟨okS_z, okI_z, okI_z, okI_z, okL_z _⟩
structure TSendRules where
  quiet : List Int
  quietFrom : Int
  quietTo : Int
  ranks : List ByteArray
  caps : List TCap
  pools : List TPool
  delays : List Int
def TSendRules.z : TSendRules := ⟨[], 0, 0, [], [], [], []⟩
instance : Inhabited TSendRules := ⟨TSendRules.z⟩
def TSendRules.row (x : TSendRules) : List D := [.sl (intsD x.quiet), .int .i64 x.quietFrom, .int .i64 x.quietTo, .sl (rowsT x.ranks), .sl (TCap.rows x.caps), .sl (TPool.rows x.pools), .sl (intsD x.delays)]
def TSendRules.rows (l : List TSendRules) : List (List D) := l.map TSendRules.row
theorem TSendRules.inj {x y : TSendRules} (h : x.row = y.row) : x = y := by
  obtain ⟨_, _, _, _, _, _, _⟩ := x; obtain ⟨_, _, _, _, _, _, _⟩ := y
  simp only [TSendRules.row, List.cons.injEq, D.int.injEq, D.str.injEq, D.bool.injEq, D.sl.injEq, true_and, and_true, TCap.rows_inj, TPool.rows_inj, intsDi_inj, rowsT_inj] at h
  obtain ⟨rfl, rfl, rfl, rfl, rfl, rfl, rfl⟩ := h; rfl
theorem TSendRules.row_inj {x y : TSendRules} : (x.row = y.row) = (x = y) := propext ⟨TSendRules.inj, fun h => h ▸ rfl⟩
theorem TSendRules.rows_inj {l m : List TSendRules} : (TSendRules.rows l = TSendRules.rows m) = (l = m) := map_inj_of fun _ _ => TSendRules.inj
theorem TSendRules.len (l : List TSendRules) : (TSendRules.rows l).length = l.length := List.length_map ..
theorem TSendRules.app (l m : List TSendRules) : TSendRules.rows (l ++ m) = TSendRules.rows l ++ TSendRules.rows m := List.map_append ..
theorem TSendRules.nil : TSendRules.rows [] = [] := rfl
theorem TSendRules.cons (x : TSendRules) (l : List TSendRules) : TSendRules.rows (x :: l) = x.row :: TSendRules.rows l := rfl
theorem TSendRules.rtake (l : List TSendRules) (n : Nat) : (TSendRules.rows l).take n = TSendRules.rows (l.take n) := List.map_take.symm
theorem TSendRules.rdrop (l : List TSendRules) (n : Nat) : (TSendRules.rows l).drop n = TSendRules.rows (l.drop n) := List.map_drop.symm
theorem TSendRules.rset (l : List TSendRules) (n : Nat) (x : TSendRules) : (TSendRules.rows l).set n x.row = TSendRules.rows (l.set n x) := by simp only [TSendRules.rows, List.map_set]
theorem TSendRules.get (l : List TSendRules) (i : Nat) : (TSendRules.rows l).getD i [.sl [], .int .i64 0, .int .i64 0, .sl [], .sl [], .sl [], .sl []] = [.sl (intsD (l.getD i TSendRules.z).quiet), .int .i64 (l.getD i TSendRules.z).quietFrom, .int .i64 (l.getD i TSendRules.z).quietTo, .sl (rowsT (l.getD i TSendRules.z).ranks), .sl (TCap.rows (l.getD i TSendRules.z).caps), .sl (TPool.rows (l.getD i TSendRules.z).pools), .sl (intsD (l.getD i TSendRules.z).delays)] := map_get TSendRules.row l i TSendRules.z
theorem TSendRules.z_len (l : List TSendRules) : ∀ y ∈ TSendRules.rows l, y.length = 7 := fun y hy => by obtain ⟨x, _, rfl⟩ := List.mem_map.1 hy; rfl
theorem TSendRules.zlT (l : List TSendRules) : (∀ y ∈ TSendRules.rows l, y.length = 7) = True := eq_true (TSendRules.z_len l)
theorem TSendRules.any (l : List TSendRules) (p : List D → Bool) : (TSendRules.rows l).any p = l.any fun a => p a.row := List.any_map
theorem TSendRules.ex {p : TSendRules → Prop} : (∃ x, p x) = ∃ a0 a1 a2 a3 a4 a5 a6, p ⟨a0, a1, a2, a3, a4, a5, a6⟩ := propext ⟨fun ⟨⟨a0, a1, a2, a3, a4, a5, a6⟩, h⟩ => ⟨a0, a1, a2, a3, a4, a5, a6, h⟩, fun ⟨a0, a1, a2, a3, a4, a5, a6, h⟩ => ⟨⟨a0, a1, a2, a3, a4, a5, a6⟩, h⟩⟩
theorem TSendRules.nil1 (l : List TSendRules) : (TSendRules.rows l = []) = (l = []) := propext List.map_eq_nil_iff
theorem TSendRules.nil2 (l : List TSendRules) : ([] = TSendRules.rows l) = (l = []) := propext ⟨fun h => List.map_eq_nil_iff.1 h.symm, fun h => h ▸ rfl⟩
theorem TSendRules.fold1 (b1 : List Int) (b2 : Int) (b3 : Int) (b4 : List ByteArray) (b5 : List TCap) (b6 : List TPool) (b7 : List Int) : [[D.sl (intsD b1), D.int .i64 b2, D.int .i64 b3, D.sl (rowsT b4), D.sl (TCap.rows b5), D.sl (TPool.rows b6), D.sl (intsD b7)]] = TSendRules.rows [⟨b1, b2, b3, b4, b5, b6, b7⟩] := rfl
theorem TSendRules.foldc (b1 : List Int) (b2 : Int) (b3 : Int) (b4 : List ByteArray) (b5 : List TCap) (b6 : List TPool) (b7 : List Int) (l : List TSendRules) : [D.sl (intsD b1), D.int .i64 b2, D.int .i64 b3, D.sl (rowsT b4), D.sl (TCap.rows b5), D.sl (TPool.rows b6), D.sl (intsD b7)] :: TSendRules.rows l = TSendRules.rows (⟨b1, b2, b3, b4, b5, b6, b7⟩ :: l) := rfl
theorem TSendRules.foldr (b1 : List Int) (b2 : Int) (b3 : Int) (b4 : List ByteArray) (b5 : List TCap) (b6 : List TPool) (b7 : List Int) (x : TSendRules) : ([D.sl (intsD b1), D.int .i64 b2, D.int .i64 b3, D.sl (rowsT b4), D.sl (TCap.rows b5), D.sl (TPool.rows b6), D.sl (intsD b7)] = x.row) = (x = ⟨b1, b2, b3, b4, b5, b6, b7⟩) := propext ⟨fun h => TSendRules.inj (x := x) (y := ⟨b1, b2, b3, b4, b5, b6, b7⟩) h.symm, fun h => h ▸ rfl⟩
theorem TSendRules.app' (l m : List TSendRules) : TSendRules.rows l ++ TSendRules.rows m = TSendRules.rows (l ++ m) := (List.map_append ..).symm
def TSendRules.ok (x : TSendRules) : Prop := okL okI x.quiet ∧ okI x.quietFrom ∧ okI x.quietTo ∧ okL okS x.ranks ∧ okL TCap.ok x.caps ∧ okL TPool.ok x.pools ∧ okL okI x.delays
theorem TSendRules.z_ok : TSendRules.z.ok := ⟨okL_z _, okI_z, okI_z, okL_z _, okL_z _, okL_z _, okL_z _⟩
structure TMeasure where
  name : ByteArray
  how : Int
  far : Int
  points : Int
def TMeasure.z : TMeasure := ⟨⟨#[]⟩, 0, 0, 0⟩
instance : Inhabited TMeasure := ⟨TMeasure.z⟩
def TMeasure.row (x : TMeasure) : List D := [.str x.name, .int .i64 x.how, .int .i64 x.far, .int .i64 x.points]
def TMeasure.rows (l : List TMeasure) : List (List D) := l.map TMeasure.row
theorem TMeasure.inj {x y : TMeasure} (h : x.row = y.row) : x = y := by
  obtain ⟨_, _, _, _⟩ := x; obtain ⟨_, _, _, _⟩ := y
  simp only [TMeasure.row, List.cons.injEq, D.int.injEq, D.str.injEq, D.bool.injEq, D.sl.injEq, true_and, and_true] at h
  obtain ⟨rfl, rfl, rfl, rfl⟩ := h; rfl
theorem TMeasure.row_inj {x y : TMeasure} : (x.row = y.row) = (x = y) := propext ⟨TMeasure.inj, fun h => h ▸ rfl⟩
theorem TMeasure.rows_inj {l m : List TMeasure} : (TMeasure.rows l = TMeasure.rows m) = (l = m) := map_inj_of fun _ _ => TMeasure.inj
theorem TMeasure.len (l : List TMeasure) : (TMeasure.rows l).length = l.length := List.length_map ..
theorem TMeasure.app (l m : List TMeasure) : TMeasure.rows (l ++ m) = TMeasure.rows l ++ TMeasure.rows m := List.map_append ..
theorem TMeasure.nil : TMeasure.rows [] = [] := rfl
theorem TMeasure.cons (x : TMeasure) (l : List TMeasure) : TMeasure.rows (x :: l) = x.row :: TMeasure.rows l := rfl
theorem TMeasure.rtake (l : List TMeasure) (n : Nat) : (TMeasure.rows l).take n = TMeasure.rows (l.take n) := List.map_take.symm
theorem TMeasure.rdrop (l : List TMeasure) (n : Nat) : (TMeasure.rows l).drop n = TMeasure.rows (l.drop n) := List.map_drop.symm
theorem TMeasure.rset (l : List TMeasure) (n : Nat) (x : TMeasure) : (TMeasure.rows l).set n x.row = TMeasure.rows (l.set n x) := by simp only [TMeasure.rows, List.map_set]
theorem TMeasure.get (l : List TMeasure) (i : Nat) : (TMeasure.rows l).getD i [.str ⟨#[]⟩, .int .i64 0, .int .i64 0, .int .i64 0] = [.str (l.getD i TMeasure.z).name, .int .i64 (l.getD i TMeasure.z).how, .int .i64 (l.getD i TMeasure.z).far, .int .i64 (l.getD i TMeasure.z).points] := map_get TMeasure.row l i TMeasure.z
theorem TMeasure.z_len (l : List TMeasure) : ∀ y ∈ TMeasure.rows l, y.length = 4 := fun y hy => by obtain ⟨x, _, rfl⟩ := List.mem_map.1 hy; rfl
theorem TMeasure.zlT (l : List TMeasure) : (∀ y ∈ TMeasure.rows l, y.length = 4) = True := eq_true (TMeasure.z_len l)
theorem TMeasure.any (l : List TMeasure) (p : List D → Bool) : (TMeasure.rows l).any p = l.any fun a => p a.row := List.any_map
theorem TMeasure.ex {p : TMeasure → Prop} : (∃ x, p x) = ∃ a0 a1 a2 a3, p ⟨a0, a1, a2, a3⟩ := propext ⟨fun ⟨⟨a0, a1, a2, a3⟩, h⟩ => ⟨a0, a1, a2, a3, h⟩, fun ⟨a0, a1, a2, a3, h⟩ => ⟨⟨a0, a1, a2, a3⟩, h⟩⟩
theorem TMeasure.nil1 (l : List TMeasure) : (TMeasure.rows l = []) = (l = []) := propext List.map_eq_nil_iff
theorem TMeasure.nil2 (l : List TMeasure) : ([] = TMeasure.rows l) = (l = []) := propext ⟨fun h => List.map_eq_nil_iff.1 h.symm, fun h => h ▸ rfl⟩
theorem TMeasure.fold1 (b1 : ByteArray) (b2 : Int) (b3 : Int) (b4 : Int) : [[D.str b1, D.int .i64 b2, D.int .i64 b3, D.int .i64 b4]] = TMeasure.rows [⟨b1, b2, b3, b4⟩] := rfl
theorem TMeasure.foldc (b1 : ByteArray) (b2 : Int) (b3 : Int) (b4 : Int) (l : List TMeasure) : [D.str b1, D.int .i64 b2, D.int .i64 b3, D.int .i64 b4] :: TMeasure.rows l = TMeasure.rows (⟨b1, b2, b3, b4⟩ :: l) := rfl
theorem TMeasure.foldr (b1 : ByteArray) (b2 : Int) (b3 : Int) (b4 : Int) (x : TMeasure) : ([D.str b1, D.int .i64 b2, D.int .i64 b3, D.int .i64 b4] = x.row) = (x = ⟨b1, b2, b3, b4⟩) := propext ⟨fun h => TMeasure.inj (x := x) (y := ⟨b1, b2, b3, b4⟩) h.symm, fun h => h ▸ rfl⟩
theorem TMeasure.app' (l m : List TMeasure) : TMeasure.rows l ++ TMeasure.rows m = TMeasure.rows (l ++ m) := (List.map_append ..).symm
def TMeasure.ok (x : TMeasure) : Prop := okS x.name ∧ okI x.how ∧ okI x.far ∧ okI x.points
theorem TMeasure.z_ok : TMeasure.z.ok := ⟨okS_z, okI_z, okI_z, okI_z⟩
theorem TMeasure.flat (l : List TMeasure) : ((TMeasure.rows l).all fun x => x.all D.flat) = true := by
  rw [List.all_eq_true]; intro y hy; obtain ⟨x, _, rfl⟩ := List.mem_map.1 hy; rfl
structure TNeed where
  name : ByteArray
  kind : Int
  must : Bool
def TNeed.z : TNeed := ⟨⟨#[]⟩, 0, false⟩
instance : Inhabited TNeed := ⟨TNeed.z⟩
def TNeed.row (x : TNeed) : List D := [.str x.name, .int .i64 x.kind, .bool x.must]
def TNeed.rows (l : List TNeed) : List (List D) := l.map TNeed.row
theorem TNeed.inj {x y : TNeed} (h : x.row = y.row) : x = y := by
  obtain ⟨_, _, _⟩ := x; obtain ⟨_, _, _⟩ := y
  simp only [TNeed.row, List.cons.injEq, D.int.injEq, D.str.injEq, D.bool.injEq, D.sl.injEq, true_and, and_true] at h
  obtain ⟨rfl, rfl, rfl⟩ := h; rfl
theorem TNeed.row_inj {x y : TNeed} : (x.row = y.row) = (x = y) := propext ⟨TNeed.inj, fun h => h ▸ rfl⟩
theorem TNeed.rows_inj {l m : List TNeed} : (TNeed.rows l = TNeed.rows m) = (l = m) := map_inj_of fun _ _ => TNeed.inj
theorem TNeed.len (l : List TNeed) : (TNeed.rows l).length = l.length := List.length_map ..
theorem TNeed.app (l m : List TNeed) : TNeed.rows (l ++ m) = TNeed.rows l ++ TNeed.rows m := List.map_append ..
theorem TNeed.nil : TNeed.rows [] = [] := rfl
theorem TNeed.cons (x : TNeed) (l : List TNeed) : TNeed.rows (x :: l) = x.row :: TNeed.rows l := rfl
theorem TNeed.rtake (l : List TNeed) (n : Nat) : (TNeed.rows l).take n = TNeed.rows (l.take n) := List.map_take.symm
theorem TNeed.rdrop (l : List TNeed) (n : Nat) : (TNeed.rows l).drop n = TNeed.rows (l.drop n) := List.map_drop.symm
theorem TNeed.rset (l : List TNeed) (n : Nat) (x : TNeed) : (TNeed.rows l).set n x.row = TNeed.rows (l.set n x) := by simp only [TNeed.rows, List.map_set]
theorem TNeed.get (l : List TNeed) (i : Nat) : (TNeed.rows l).getD i [.str ⟨#[]⟩, .int .i64 0, .bool false] = [.str (l.getD i TNeed.z).name, .int .i64 (l.getD i TNeed.z).kind, .bool (l.getD i TNeed.z).must] := map_get TNeed.row l i TNeed.z
theorem TNeed.z_len (l : List TNeed) : ∀ y ∈ TNeed.rows l, y.length = 3 := fun y hy => by obtain ⟨x, _, rfl⟩ := List.mem_map.1 hy; rfl
theorem TNeed.zlT (l : List TNeed) : (∀ y ∈ TNeed.rows l, y.length = 3) = True := eq_true (TNeed.z_len l)
theorem TNeed.any (l : List TNeed) (p : List D → Bool) : (TNeed.rows l).any p = l.any fun a => p a.row := List.any_map
theorem TNeed.ex {p : TNeed → Prop} : (∃ x, p x) = ∃ a0 a1 a2, p ⟨a0, a1, a2⟩ := propext ⟨fun ⟨⟨a0, a1, a2⟩, h⟩ => ⟨a0, a1, a2, h⟩, fun ⟨a0, a1, a2, h⟩ => ⟨⟨a0, a1, a2⟩, h⟩⟩
theorem TNeed.nil1 (l : List TNeed) : (TNeed.rows l = []) = (l = []) := propext List.map_eq_nil_iff
theorem TNeed.nil2 (l : List TNeed) : ([] = TNeed.rows l) = (l = []) := propext ⟨fun h => List.map_eq_nil_iff.1 h.symm, fun h => h ▸ rfl⟩
theorem TNeed.fold1 (b1 : ByteArray) (b2 : Int) (b3 : Bool) : [[D.str b1, D.int .i64 b2, D.bool b3]] = TNeed.rows [⟨b1, b2, b3⟩] := rfl
theorem TNeed.foldc (b1 : ByteArray) (b2 : Int) (b3 : Bool) (l : List TNeed) : [D.str b1, D.int .i64 b2, D.bool b3] :: TNeed.rows l = TNeed.rows (⟨b1, b2, b3⟩ :: l) := rfl
theorem TNeed.foldr (b1 : ByteArray) (b2 : Int) (b3 : Bool) (x : TNeed) : ([D.str b1, D.int .i64 b2, D.bool b3] = x.row) = (x = ⟨b1, b2, b3⟩) := propext ⟨fun h => TNeed.inj (x := x) (y := ⟨b1, b2, b3⟩) h.symm, fun h => h ▸ rfl⟩
theorem TNeed.app' (l m : List TNeed) : TNeed.rows l ++ TNeed.rows m = TNeed.rows (l ++ m) := (List.map_append ..).symm
def TNeed.ok (x : TNeed) : Prop := okS x.name ∧ okI x.kind
theorem TNeed.z_ok : TNeed.z.ok := ⟨okS_z, okI_z⟩
theorem TNeed.flat (l : List TNeed) : ((TNeed.rows l).all fun x => x.all D.flat) = true := by
  rw [List.all_eq_true]; intro y hy; obtain ⟨x, _, rfl⟩ := List.mem_map.1 hy; rfl
structure TSchema where
  name : ByteArray
  needs : List TNeed
def TSchema.z : TSchema := ⟨⟨#[]⟩, []⟩
instance : Inhabited TSchema := ⟨TSchema.z⟩
def TSchema.row (x : TSchema) : List D := [.str x.name, .sl (TNeed.rows x.needs)]
def TSchema.rows (l : List TSchema) : List (List D) := l.map TSchema.row
theorem TSchema.inj {x y : TSchema} (h : x.row = y.row) : x = y := by
  obtain ⟨_, _⟩ := x; obtain ⟨_, _⟩ := y
  simp only [TSchema.row, List.cons.injEq, D.int.injEq, D.str.injEq, D.bool.injEq, D.sl.injEq, true_and, and_true, TNeed.rows_inj] at h
  obtain ⟨rfl, rfl⟩ := h; rfl
theorem TSchema.row_inj {x y : TSchema} : (x.row = y.row) = (x = y) := propext ⟨TSchema.inj, fun h => h ▸ rfl⟩
theorem TSchema.rows_inj {l m : List TSchema} : (TSchema.rows l = TSchema.rows m) = (l = m) := map_inj_of fun _ _ => TSchema.inj
theorem TSchema.len (l : List TSchema) : (TSchema.rows l).length = l.length := List.length_map ..
theorem TSchema.app (l m : List TSchema) : TSchema.rows (l ++ m) = TSchema.rows l ++ TSchema.rows m := List.map_append ..
theorem TSchema.nil : TSchema.rows [] = [] := rfl
theorem TSchema.cons (x : TSchema) (l : List TSchema) : TSchema.rows (x :: l) = x.row :: TSchema.rows l := rfl
theorem TSchema.rtake (l : List TSchema) (n : Nat) : (TSchema.rows l).take n = TSchema.rows (l.take n) := List.map_take.symm
theorem TSchema.rdrop (l : List TSchema) (n : Nat) : (TSchema.rows l).drop n = TSchema.rows (l.drop n) := List.map_drop.symm
theorem TSchema.rset (l : List TSchema) (n : Nat) (x : TSchema) : (TSchema.rows l).set n x.row = TSchema.rows (l.set n x) := by simp only [TSchema.rows, List.map_set]
theorem TSchema.get (l : List TSchema) (i : Nat) : (TSchema.rows l).getD i [.str ⟨#[]⟩, .sl []] = [.str (l.getD i TSchema.z).name, .sl (TNeed.rows (l.getD i TSchema.z).needs)] := map_get TSchema.row l i TSchema.z
theorem TSchema.z_len (l : List TSchema) : ∀ y ∈ TSchema.rows l, y.length = 2 := fun y hy => by obtain ⟨x, _, rfl⟩ := List.mem_map.1 hy; rfl
theorem TSchema.zlT (l : List TSchema) : (∀ y ∈ TSchema.rows l, y.length = 2) = True := eq_true (TSchema.z_len l)
theorem TSchema.any (l : List TSchema) (p : List D → Bool) : (TSchema.rows l).any p = l.any fun a => p a.row := List.any_map
theorem TSchema.ex {p : TSchema → Prop} : (∃ x, p x) = ∃ a0 a1, p ⟨a0, a1⟩ := propext ⟨fun ⟨⟨a0, a1⟩, h⟩ => ⟨a0, a1, h⟩, fun ⟨a0, a1, h⟩ => ⟨⟨a0, a1⟩, h⟩⟩
theorem TSchema.nil1 (l : List TSchema) : (TSchema.rows l = []) = (l = []) := propext List.map_eq_nil_iff
theorem TSchema.nil2 (l : List TSchema) : ([] = TSchema.rows l) = (l = []) := propext ⟨fun h => List.map_eq_nil_iff.1 h.symm, fun h => h ▸ rfl⟩
theorem TSchema.fold1 (b1 : ByteArray) (b2 : List TNeed) : [[D.str b1, D.sl (TNeed.rows b2)]] = TSchema.rows [⟨b1, b2⟩] := rfl
theorem TSchema.foldc (b1 : ByteArray) (b2 : List TNeed) (l : List TSchema) : [D.str b1, D.sl (TNeed.rows b2)] :: TSchema.rows l = TSchema.rows (⟨b1, b2⟩ :: l) := rfl
theorem TSchema.foldr (b1 : ByteArray) (b2 : List TNeed) (x : TSchema) : ([D.str b1, D.sl (TNeed.rows b2)] = x.row) = (x = ⟨b1, b2⟩) := propext ⟨fun h => TSchema.inj (x := x) (y := ⟨b1, b2⟩) h.symm, fun h => h ▸ rfl⟩
theorem TSchema.app' (l m : List TSchema) : TSchema.rows l ++ TSchema.rows m = TSchema.rows (l ++ m) := (List.map_append ..).symm
def TSchema.ok (x : TSchema) : Prop := okS x.name ∧ okL TNeed.ok x.needs
theorem TSchema.z_ok : TSchema.z.ok := ⟨okS_z, okL_z _⟩
structure TEvent where
  id : ByteArray
  name : ByteArray
  at_ : Int
  who : TId
  fields : List TField
def TEvent.z : TEvent := ⟨⟨#[]⟩, ⟨#[]⟩, 0, ⟨0, ⟨#[]⟩⟩, []⟩
instance : Inhabited TEvent := ⟨TEvent.z⟩
def TEvent.row (x : TEvent) : List D := [.str x.id, .str x.name, .int .i64 x.at_, .int .i64 x.who.kind, .str x.who.text, .sl (TField.rows x.fields)]
def TEvent.rows (l : List TEvent) : List (List D) := l.map TEvent.row
theorem TEvent.inj {x y : TEvent} (h : x.row = y.row) : x = y := by
  obtain ⟨_, _, _, ⟨_, _⟩, _⟩ := x; obtain ⟨_, _, _, ⟨_, _⟩, _⟩ := y
  simp only [TEvent.row, List.cons.injEq, D.int.injEq, D.str.injEq, D.bool.injEq, D.sl.injEq, true_and, and_true, TField.rows_inj] at h
  obtain ⟨rfl, rfl, rfl, rfl, rfl, rfl⟩ := h; rfl
theorem TEvent.row_inj {x y : TEvent} : (x.row = y.row) = (x = y) := propext ⟨TEvent.inj, fun h => h ▸ rfl⟩
theorem TEvent.rows_inj {l m : List TEvent} : (TEvent.rows l = TEvent.rows m) = (l = m) := map_inj_of fun _ _ => TEvent.inj
theorem TEvent.len (l : List TEvent) : (TEvent.rows l).length = l.length := List.length_map ..
theorem TEvent.app (l m : List TEvent) : TEvent.rows (l ++ m) = TEvent.rows l ++ TEvent.rows m := List.map_append ..
theorem TEvent.nil : TEvent.rows [] = [] := rfl
theorem TEvent.cons (x : TEvent) (l : List TEvent) : TEvent.rows (x :: l) = x.row :: TEvent.rows l := rfl
theorem TEvent.rtake (l : List TEvent) (n : Nat) : (TEvent.rows l).take n = TEvent.rows (l.take n) := List.map_take.symm
theorem TEvent.rdrop (l : List TEvent) (n : Nat) : (TEvent.rows l).drop n = TEvent.rows (l.drop n) := List.map_drop.symm
theorem TEvent.rset (l : List TEvent) (n : Nat) (x : TEvent) : (TEvent.rows l).set n x.row = TEvent.rows (l.set n x) := by simp only [TEvent.rows, List.map_set]
theorem TEvent.get (l : List TEvent) (i : Nat) : (TEvent.rows l).getD i [.str ⟨#[]⟩, .str ⟨#[]⟩, .int .i64 0, .int .i64 0, .str ⟨#[]⟩, .sl []] = [.str (l.getD i TEvent.z).id, .str (l.getD i TEvent.z).name, .int .i64 (l.getD i TEvent.z).at_, .int .i64 (l.getD i TEvent.z).who.kind, .str (l.getD i TEvent.z).who.text, .sl (TField.rows (l.getD i TEvent.z).fields)] := map_get TEvent.row l i TEvent.z
theorem TEvent.z_len (l : List TEvent) : ∀ y ∈ TEvent.rows l, y.length = 6 := fun y hy => by obtain ⟨x, _, rfl⟩ := List.mem_map.1 hy; rfl
theorem TEvent.zlT (l : List TEvent) : (∀ y ∈ TEvent.rows l, y.length = 6) = True := eq_true (TEvent.z_len l)
theorem TEvent.any (l : List TEvent) (p : List D → Bool) : (TEvent.rows l).any p = l.any fun a => p a.row := List.any_map
theorem TEvent.ex {p : TEvent → Prop} : (∃ x, p x) = ∃ a0 a1 a2 a3 a4, p ⟨a0, a1, a2, a3, a4⟩ := propext ⟨fun ⟨⟨a0, a1, a2, a3, a4⟩, h⟩ => ⟨a0, a1, a2, a3, a4, h⟩, fun ⟨a0, a1, a2, a3, a4, h⟩ => ⟨⟨a0, a1, a2, a3, a4⟩, h⟩⟩
theorem TEvent.nil1 (l : List TEvent) : (TEvent.rows l = []) = (l = []) := propext List.map_eq_nil_iff
theorem TEvent.nil2 (l : List TEvent) : ([] = TEvent.rows l) = (l = []) := propext ⟨fun h => List.map_eq_nil_iff.1 h.symm, fun h => h ▸ rfl⟩
theorem TEvent.fold1 (b1 : ByteArray) (b2 : ByteArray) (b3 : Int) (b4 : Int) (b5 : ByteArray) (b6 : List TField) : [[D.str b1, D.str b2, D.int .i64 b3, D.int .i64 b4, D.str b5, D.sl (TField.rows b6)]] = TEvent.rows [⟨b1, b2, b3, ⟨b4, b5⟩, b6⟩] := rfl
theorem TEvent.foldc (b1 : ByteArray) (b2 : ByteArray) (b3 : Int) (b4 : Int) (b5 : ByteArray) (b6 : List TField) (l : List TEvent) : [D.str b1, D.str b2, D.int .i64 b3, D.int .i64 b4, D.str b5, D.sl (TField.rows b6)] :: TEvent.rows l = TEvent.rows (⟨b1, b2, b3, ⟨b4, b5⟩, b6⟩ :: l) := rfl
theorem TEvent.foldr (b1 : ByteArray) (b2 : ByteArray) (b3 : Int) (b4 : Int) (b5 : ByteArray) (b6 : List TField) (x : TEvent) : ([D.str b1, D.str b2, D.int .i64 b3, D.int .i64 b4, D.str b5, D.sl (TField.rows b6)] = x.row) = (x = ⟨b1, b2, b3, ⟨b4, b5⟩, b6⟩) := propext ⟨fun h => TEvent.inj (x := x) (y := ⟨b1, b2, b3, ⟨b4, b5⟩, b6⟩) h.symm, fun h => h ▸ rfl⟩
theorem TEvent.app' (l m : List TEvent) : TEvent.rows l ++ TEvent.rows m = TEvent.rows (l ++ m) := (List.map_append ..).symm
def TEvent.ok (x : TEvent) : Prop := okS x.id ∧ okS x.name ∧ okI x.at_ ∧ TId.ok x.who ∧ okL TField.ok x.fields
theorem TEvent.z_ok : TEvent.z.ok := ⟨okS_z, okS_z, okI_z, TId.z_ok, okL_z _⟩
structure TTerm where
  region : ByteArray
  channel : Int
  free : Bool
  days : Int
  wait : Int
def TTerm.z : TTerm := ⟨⟨#[]⟩, 0, false, 0, 0⟩
instance : Inhabited TTerm := ⟨TTerm.z⟩
def TTerm.row (x : TTerm) : List D := [.str x.region, .int .i64 x.channel, .bool x.free, .int .i64 x.days, .int .i64 x.wait]
def TTerm.rows (l : List TTerm) : List (List D) := l.map TTerm.row
theorem TTerm.inj {x y : TTerm} (h : x.row = y.row) : x = y := by
  obtain ⟨_, _, _, _, _⟩ := x; obtain ⟨_, _, _, _, _⟩ := y
  simp only [TTerm.row, List.cons.injEq, D.int.injEq, D.str.injEq, D.bool.injEq, D.sl.injEq, true_and, and_true] at h
  obtain ⟨rfl, rfl, rfl, rfl, rfl⟩ := h; rfl
theorem TTerm.row_inj {x y : TTerm} : (x.row = y.row) = (x = y) := propext ⟨TTerm.inj, fun h => h ▸ rfl⟩
theorem TTerm.rows_inj {l m : List TTerm} : (TTerm.rows l = TTerm.rows m) = (l = m) := map_inj_of fun _ _ => TTerm.inj
theorem TTerm.len (l : List TTerm) : (TTerm.rows l).length = l.length := List.length_map ..
theorem TTerm.app (l m : List TTerm) : TTerm.rows (l ++ m) = TTerm.rows l ++ TTerm.rows m := List.map_append ..
theorem TTerm.nil : TTerm.rows [] = [] := rfl
theorem TTerm.cons (x : TTerm) (l : List TTerm) : TTerm.rows (x :: l) = x.row :: TTerm.rows l := rfl
theorem TTerm.rtake (l : List TTerm) (n : Nat) : (TTerm.rows l).take n = TTerm.rows (l.take n) := List.map_take.symm
theorem TTerm.rdrop (l : List TTerm) (n : Nat) : (TTerm.rows l).drop n = TTerm.rows (l.drop n) := List.map_drop.symm
theorem TTerm.rset (l : List TTerm) (n : Nat) (x : TTerm) : (TTerm.rows l).set n x.row = TTerm.rows (l.set n x) := by simp only [TTerm.rows, List.map_set]
theorem TTerm.get (l : List TTerm) (i : Nat) : (TTerm.rows l).getD i [.str ⟨#[]⟩, .int .i64 0, .bool false, .int .i64 0, .int .i64 0] = [.str (l.getD i TTerm.z).region, .int .i64 (l.getD i TTerm.z).channel, .bool (l.getD i TTerm.z).free, .int .i64 (l.getD i TTerm.z).days, .int .i64 (l.getD i TTerm.z).wait] := map_get TTerm.row l i TTerm.z
theorem TTerm.z_len (l : List TTerm) : ∀ y ∈ TTerm.rows l, y.length = 5 := fun y hy => by obtain ⟨x, _, rfl⟩ := List.mem_map.1 hy; rfl
theorem TTerm.zlT (l : List TTerm) : (∀ y ∈ TTerm.rows l, y.length = 5) = True := eq_true (TTerm.z_len l)
theorem TTerm.any (l : List TTerm) (p : List D → Bool) : (TTerm.rows l).any p = l.any fun a => p a.row := List.any_map
theorem TTerm.ex {p : TTerm → Prop} : (∃ x, p x) = ∃ a0 a1 a2 a3 a4, p ⟨a0, a1, a2, a3, a4⟩ := propext ⟨fun ⟨⟨a0, a1, a2, a3, a4⟩, h⟩ => ⟨a0, a1, a2, a3, a4, h⟩, fun ⟨a0, a1, a2, a3, a4, h⟩ => ⟨⟨a0, a1, a2, a3, a4⟩, h⟩⟩
theorem TTerm.nil1 (l : List TTerm) : (TTerm.rows l = []) = (l = []) := propext List.map_eq_nil_iff
theorem TTerm.nil2 (l : List TTerm) : ([] = TTerm.rows l) = (l = []) := propext ⟨fun h => List.map_eq_nil_iff.1 h.symm, fun h => h ▸ rfl⟩
theorem TTerm.fold1 (b1 : ByteArray) (b2 : Int) (b3 : Bool) (b4 : Int) (b5 : Int) : [[D.str b1, D.int .i64 b2, D.bool b3, D.int .i64 b4, D.int .i64 b5]] = TTerm.rows [⟨b1, b2, b3, b4, b5⟩] := rfl
theorem TTerm.foldc (b1 : ByteArray) (b2 : Int) (b3 : Bool) (b4 : Int) (b5 : Int) (l : List TTerm) : [D.str b1, D.int .i64 b2, D.bool b3, D.int .i64 b4, D.int .i64 b5] :: TTerm.rows l = TTerm.rows (⟨b1, b2, b3, b4, b5⟩ :: l) := rfl
theorem TTerm.foldr (b1 : ByteArray) (b2 : Int) (b3 : Bool) (b4 : Int) (b5 : Int) (x : TTerm) : ([D.str b1, D.int .i64 b2, D.bool b3, D.int .i64 b4, D.int .i64 b5] = x.row) = (x = ⟨b1, b2, b3, b4, b5⟩) := propext ⟨fun h => TTerm.inj (x := x) (y := ⟨b1, b2, b3, b4, b5⟩) h.symm, fun h => h ▸ rfl⟩
theorem TTerm.app' (l m : List TTerm) : TTerm.rows l ++ TTerm.rows m = TTerm.rows (l ++ m) := (List.map_append ..).symm
def TTerm.ok (x : TTerm) : Prop := okS x.region ∧ okI x.channel ∧ okI x.days ∧ okI x.wait
theorem TTerm.z_ok : TTerm.z.ok := ⟨okS_z, okI_z, okI_z, okI_z⟩
theorem TTerm.flat (l : List TTerm) : ((TTerm.rows l).all fun x => x.all D.flat) = true := by
  rw [List.all_eq_true]; intro y hy; obtain ⟨x, _, rfl⟩ := List.mem_map.1 hy; rfl
structure TPurpose where
  name : ByteArray
  terms : List TTerm
def TPurpose.z : TPurpose := ⟨⟨#[]⟩, []⟩
instance : Inhabited TPurpose := ⟨TPurpose.z⟩
def TPurpose.row (x : TPurpose) : List D := [.str x.name, .sl (TTerm.rows x.terms)]
def TPurpose.rows (l : List TPurpose) : List (List D) := l.map TPurpose.row
theorem TPurpose.inj {x y : TPurpose} (h : x.row = y.row) : x = y := by
  obtain ⟨_, _⟩ := x; obtain ⟨_, _⟩ := y
  simp only [TPurpose.row, List.cons.injEq, D.int.injEq, D.str.injEq, D.bool.injEq, D.sl.injEq, true_and, and_true, TTerm.rows_inj] at h
  obtain ⟨rfl, rfl⟩ := h; rfl
theorem TPurpose.row_inj {x y : TPurpose} : (x.row = y.row) = (x = y) := propext ⟨TPurpose.inj, fun h => h ▸ rfl⟩
theorem TPurpose.rows_inj {l m : List TPurpose} : (TPurpose.rows l = TPurpose.rows m) = (l = m) := map_inj_of fun _ _ => TPurpose.inj
theorem TPurpose.len (l : List TPurpose) : (TPurpose.rows l).length = l.length := List.length_map ..
theorem TPurpose.app (l m : List TPurpose) : TPurpose.rows (l ++ m) = TPurpose.rows l ++ TPurpose.rows m := List.map_append ..
theorem TPurpose.nil : TPurpose.rows [] = [] := rfl
theorem TPurpose.cons (x : TPurpose) (l : List TPurpose) : TPurpose.rows (x :: l) = x.row :: TPurpose.rows l := rfl
theorem TPurpose.rtake (l : List TPurpose) (n : Nat) : (TPurpose.rows l).take n = TPurpose.rows (l.take n) := List.map_take.symm
theorem TPurpose.rdrop (l : List TPurpose) (n : Nat) : (TPurpose.rows l).drop n = TPurpose.rows (l.drop n) := List.map_drop.symm
theorem TPurpose.rset (l : List TPurpose) (n : Nat) (x : TPurpose) : (TPurpose.rows l).set n x.row = TPurpose.rows (l.set n x) := by simp only [TPurpose.rows, List.map_set]
theorem TPurpose.get (l : List TPurpose) (i : Nat) : (TPurpose.rows l).getD i [.str ⟨#[]⟩, .sl []] = [.str (l.getD i TPurpose.z).name, .sl (TTerm.rows (l.getD i TPurpose.z).terms)] := map_get TPurpose.row l i TPurpose.z
theorem TPurpose.z_len (l : List TPurpose) : ∀ y ∈ TPurpose.rows l, y.length = 2 := fun y hy => by obtain ⟨x, _, rfl⟩ := List.mem_map.1 hy; rfl
theorem TPurpose.zlT (l : List TPurpose) : (∀ y ∈ TPurpose.rows l, y.length = 2) = True := eq_true (TPurpose.z_len l)
theorem TPurpose.any (l : List TPurpose) (p : List D → Bool) : (TPurpose.rows l).any p = l.any fun a => p a.row := List.any_map
theorem TPurpose.ex {p : TPurpose → Prop} : (∃ x, p x) = ∃ a0 a1, p ⟨a0, a1⟩ := propext ⟨fun ⟨⟨a0, a1⟩, h⟩ => ⟨a0, a1, h⟩, fun ⟨a0, a1, h⟩ => ⟨⟨a0, a1⟩, h⟩⟩
theorem TPurpose.nil1 (l : List TPurpose) : (TPurpose.rows l = []) = (l = []) := propext List.map_eq_nil_iff
theorem TPurpose.nil2 (l : List TPurpose) : ([] = TPurpose.rows l) = (l = []) := propext ⟨fun h => List.map_eq_nil_iff.1 h.symm, fun h => h ▸ rfl⟩
theorem TPurpose.fold1 (b1 : ByteArray) (b2 : List TTerm) : [[D.str b1, D.sl (TTerm.rows b2)]] = TPurpose.rows [⟨b1, b2⟩] := rfl
theorem TPurpose.foldc (b1 : ByteArray) (b2 : List TTerm) (l : List TPurpose) : [D.str b1, D.sl (TTerm.rows b2)] :: TPurpose.rows l = TPurpose.rows (⟨b1, b2⟩ :: l) := rfl
theorem TPurpose.foldr (b1 : ByteArray) (b2 : List TTerm) (x : TPurpose) : ([D.str b1, D.sl (TTerm.rows b2)] = x.row) = (x = ⟨b1, b2⟩) := propext ⟨fun h => TPurpose.inj (x := x) (y := ⟨b1, b2⟩) h.symm, fun h => h ▸ rfl⟩
theorem TPurpose.app' (l m : List TPurpose) : TPurpose.rows l ++ TPurpose.rows m = TPurpose.rows (l ++ m) := (List.map_append ..).symm
def TPurpose.ok (x : TPurpose) : Prop := okS x.name ∧ okL TTerm.ok x.terms
theorem TPurpose.z_ok : TPurpose.z.ok := ⟨okS_z, okL_z _⟩
structure TStatement where
  no : Int
  at_ : Int
  id : TId
  purpose : ByteArray
  region : ByteArray
  channel : Int
  what : Int
def TStatement.z : TStatement := ⟨0, 0, ⟨0, ⟨#[]⟩⟩, ⟨#[]⟩, ⟨#[]⟩, 0, 0⟩
instance : Inhabited TStatement := ⟨TStatement.z⟩
def TStatement.row (x : TStatement) : List D := [.int .i64 x.no, .int .i64 x.at_, .int .i64 x.id.kind, .str x.id.text, .str x.purpose, .str x.region, .int .i64 x.channel, .int .i64 x.what]
def TStatement.rows (l : List TStatement) : List (List D) := l.map TStatement.row
theorem TStatement.inj {x y : TStatement} (h : x.row = y.row) : x = y := by
  obtain ⟨_, _, ⟨_, _⟩, _, _, _, _⟩ := x; obtain ⟨_, _, ⟨_, _⟩, _, _, _, _⟩ := y
  simp only [TStatement.row, List.cons.injEq, D.int.injEq, D.str.injEq, D.bool.injEq, D.sl.injEq, true_and, and_true] at h
  obtain ⟨rfl, rfl, rfl, rfl, rfl, rfl, rfl, rfl⟩ := h; rfl
theorem TStatement.row_inj {x y : TStatement} : (x.row = y.row) = (x = y) := propext ⟨TStatement.inj, fun h => h ▸ rfl⟩
theorem TStatement.rows_inj {l m : List TStatement} : (TStatement.rows l = TStatement.rows m) = (l = m) := map_inj_of fun _ _ => TStatement.inj
theorem TStatement.len (l : List TStatement) : (TStatement.rows l).length = l.length := List.length_map ..
theorem TStatement.app (l m : List TStatement) : TStatement.rows (l ++ m) = TStatement.rows l ++ TStatement.rows m := List.map_append ..
theorem TStatement.nil : TStatement.rows [] = [] := rfl
theorem TStatement.cons (x : TStatement) (l : List TStatement) : TStatement.rows (x :: l) = x.row :: TStatement.rows l := rfl
theorem TStatement.rtake (l : List TStatement) (n : Nat) : (TStatement.rows l).take n = TStatement.rows (l.take n) := List.map_take.symm
theorem TStatement.rdrop (l : List TStatement) (n : Nat) : (TStatement.rows l).drop n = TStatement.rows (l.drop n) := List.map_drop.symm
theorem TStatement.rset (l : List TStatement) (n : Nat) (x : TStatement) : (TStatement.rows l).set n x.row = TStatement.rows (l.set n x) := by simp only [TStatement.rows, List.map_set]
theorem TStatement.get (l : List TStatement) (i : Nat) : (TStatement.rows l).getD i [.int .i64 0, .int .i64 0, .int .i64 0, .str ⟨#[]⟩, .str ⟨#[]⟩, .str ⟨#[]⟩, .int .i64 0, .int .i64 0] = [.int .i64 (l.getD i TStatement.z).no, .int .i64 (l.getD i TStatement.z).at_, .int .i64 (l.getD i TStatement.z).id.kind, .str (l.getD i TStatement.z).id.text, .str (l.getD i TStatement.z).purpose, .str (l.getD i TStatement.z).region, .int .i64 (l.getD i TStatement.z).channel, .int .i64 (l.getD i TStatement.z).what] := map_get TStatement.row l i TStatement.z
theorem TStatement.z_len (l : List TStatement) : ∀ y ∈ TStatement.rows l, y.length = 8 := fun y hy => by obtain ⟨x, _, rfl⟩ := List.mem_map.1 hy; rfl
theorem TStatement.zlT (l : List TStatement) : (∀ y ∈ TStatement.rows l, y.length = 8) = True := eq_true (TStatement.z_len l)
theorem TStatement.any (l : List TStatement) (p : List D → Bool) : (TStatement.rows l).any p = l.any fun a => p a.row := List.any_map
theorem TStatement.ex {p : TStatement → Prop} : (∃ x, p x) = ∃ a0 a1 a2 a3 a4 a5 a6, p ⟨a0, a1, a2, a3, a4, a5, a6⟩ := propext ⟨fun ⟨⟨a0, a1, a2, a3, a4, a5, a6⟩, h⟩ => ⟨a0, a1, a2, a3, a4, a5, a6, h⟩, fun ⟨a0, a1, a2, a3, a4, a5, a6, h⟩ => ⟨⟨a0, a1, a2, a3, a4, a5, a6⟩, h⟩⟩
theorem TStatement.nil1 (l : List TStatement) : (TStatement.rows l = []) = (l = []) := propext List.map_eq_nil_iff
theorem TStatement.nil2 (l : List TStatement) : ([] = TStatement.rows l) = (l = []) := propext ⟨fun h => List.map_eq_nil_iff.1 h.symm, fun h => h ▸ rfl⟩
theorem TStatement.fold1 (b1 : Int) (b2 : Int) (b3 : Int) (b4 : ByteArray) (b5 : ByteArray) (b6 : ByteArray) (b7 : Int) (b8 : Int) : [[D.int .i64 b1, D.int .i64 b2, D.int .i64 b3, D.str b4, D.str b5, D.str b6, D.int .i64 b7, D.int .i64 b8]] = TStatement.rows [⟨b1, b2, ⟨b3, b4⟩, b5, b6, b7, b8⟩] := rfl
theorem TStatement.foldc (b1 : Int) (b2 : Int) (b3 : Int) (b4 : ByteArray) (b5 : ByteArray) (b6 : ByteArray) (b7 : Int) (b8 : Int) (l : List TStatement) : [D.int .i64 b1, D.int .i64 b2, D.int .i64 b3, D.str b4, D.str b5, D.str b6, D.int .i64 b7, D.int .i64 b8] :: TStatement.rows l = TStatement.rows (⟨b1, b2, ⟨b3, b4⟩, b5, b6, b7, b8⟩ :: l) := rfl
theorem TStatement.foldr (b1 : Int) (b2 : Int) (b3 : Int) (b4 : ByteArray) (b5 : ByteArray) (b6 : ByteArray) (b7 : Int) (b8 : Int) (x : TStatement) : ([D.int .i64 b1, D.int .i64 b2, D.int .i64 b3, D.str b4, D.str b5, D.str b6, D.int .i64 b7, D.int .i64 b8] = x.row) = (x = ⟨b1, b2, ⟨b3, b4⟩, b5, b6, b7, b8⟩) := propext ⟨fun h => TStatement.inj (x := x) (y := ⟨b1, b2, ⟨b3, b4⟩, b5, b6, b7, b8⟩) h.symm, fun h => h ▸ rfl⟩
theorem TStatement.app' (l m : List TStatement) : TStatement.rows l ++ TStatement.rows m = TStatement.rows (l ++ m) := (List.map_append ..).symm
def TStatement.ok (x : TStatement) : Prop := okI x.no ∧ okI x.at_ ∧ TId.ok x.id ∧ okS x.purpose ∧ okS x.region ∧ okI x.channel ∧ okI x.what
theorem TStatement.z_ok : TStatement.z.ok := ⟨okI_z, okI_z, TId.z_ok, okS_z, okS_z, okI_z, okI_z⟩
theorem TStatement.flat (l : List TStatement) : ((TStatement.rows l).all fun x => x.all D.flat) = true := by
  rw [List.all_eq_true]; intro y hy; obtain ⟨x, _, rfl⟩ := List.mem_map.1 hy; rfl
end Go.Avc
