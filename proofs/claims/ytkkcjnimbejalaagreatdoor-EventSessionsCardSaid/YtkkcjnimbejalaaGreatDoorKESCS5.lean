/- Rows of events as they lie in memory: their values, and that they are read and sorted as events. No condition. -/
import Derived.ChangeSlices
import Derived.ChangeMaps5
import Derived.ChangeSame
import Derived.OpenShut
import Derived.Lib.DecodeN
import Derived.Test.YtkkcjnimbejalaaGreatDoorChecked
import Derived.WalkKit
import Derived.Carry
import Derived.LoopN
import Derived.Laws.IdiomCopy
import Derived.Lib.ValidLaws
import Derived.Lib.TrimUEq
import Derived.Lib.Repeat
import Derived.Test.YtkkcjnimbejalaaGreatDoorRows
import Derived.Lib.LaidU8
import Derived.Lib.IndexMore
import Derived.Lib.SplitLaws
import Derived.Test.YtkkcjnimbejalaaGreatDoorKESCS1
import Derived.Test.YtkkcjnimbejalaaGreatDoorKESCS2
import Derived.Test.YtkkcjnimbejalaaGreatDoorKESCS3
import Derived.Test.YtkkcjnimbejalaaGreatDoorKESCS4
/- Rows of events as they lie in memory: their values, and that they are read and sorted as events. No condition. -/
set_option linter.unusedVariables false
set_option linter.unusedSimpArgs false
set_option maxRecDepth 100000
namespace Go.Avc
open Go Go.Proofs

/-- The six cells of an event. -/
structure EvV where
  id : ByteArray
  name : ByteArray
  at_ : Int
  kind : Int
  text : ByteArray
  A : Option Addr
  n : Nat
  c : Nat
def EvV.z : EvV := ⟨⟨#[]⟩, ⟨#[]⟩, 0, 0, ⟨#[]⟩, none, 0, 0⟩
instance : Inhabited EvV := ⟨EvV.z⟩
def EvV.enc (x : EvV) : List Value := [.string x.id, .string x.name, .int .i64 x.at_, .int .i64 x.kind, .string x.text, .slice x.A x.n x.c]
theorem EvV.len (x : EvV) : x.enc.length = 6 := rfl
theorem EvV.one (x : EvV) : ∀ v ∈ x.enc, v.oneCell' = true := by
  intro v hv
  simp only [EvV.enc, List.mem_cons, List.not_mem_nil, or_false] at hv
  rcases hv with rfl | rfl | rfl | rfl | rfl | rfl <;> rfl
/-- An event and how it lies. -/
def Lay (ok : Nat → Prop) (w : World) (p : TEvent × EvV) : Prop := RdL ok w p.1.row p.2.enc
theorem Lay.mono {ok ok' : Nat → Prop} {w w' : World} {p : TEvent × EvV} (h : Lay ok w p) (hs : w.heap.size ≤ w'.heap.size)
    (hk : ∀ b, ok b → b < w.heap.size → ok' b) (hw : ∀ b, ok b → b < w.heap.size → w'.heap[b]? = w.heap[b]?) : Lay ok' w' p := RdL.mono h hs hk hw
theorem rd_sl_val {ok : Nat → Prop} {w : World} {l : List (List D)} {v : Value} (h : Rd ok w (.sl l) v) : ∃ A n c, v = .slice A n c := by
  generalize e : D.sl l = d at h
  cases h with
  | nil A c => exact ⟨_, _, _, rfl⟩
  | sl l z b o c u hc hb hlt hz hu hr => exact ⟨_, _, _, rfl⟩
  | _ => cases e
theorem rd_str_val {ok : Nat → Prop} {w : World} {s : ByteArray} {v : Value} (h : Rd ok w (.str s) v) : v = .string s := by
  cases h; rfl
theorem rd_int_val {ok : Nat → Prop} {w : World} {k : IntKind} {n : Int} {v : Value} (h : Rd ok w (.int k n) v) : v = .int k n := by
  cases h; rfl
/-- An event's strings and numbers are those of its cells. -/
theorem Lay.same {ok : Nat → Prop} {w : World} {p : TEvent × EvV} (h : Lay ok w p) : p.2.id = p.1.id ∧ p.2.at_ = p.1.at_ := by
  have h0 := rd_str_val (h.2 0 (.str p.1.id) (.string p.2.id) rfl rfl)
  have h2 := rd_int_val (h.2 2 (.int .i64 p.1.at_) (.int .i64 p.2.at_) rfl rfl)
  simp only [Value.string.injEq, Value.int.injEq, true_and] at h0 h2
  exact ⟨h0, h2⟩
theorem lay_one {ok : Nat → Prop} {w : World} {x : TEvent} {cs : List Value} (h : RdL ok w x.row cs) : ∃ v : EvV, cs = v.enc := by
  have hl := h.1
  match cs, hl with
  | [a, b, c, d, e, f], _ =>
    have h0 := rd_str_val (h.2 0 (.str x.id) a rfl rfl)
    have h1 := rd_str_val (h.2 1 (.str x.name) b rfl rfl)
    have h2 := rd_int_val (h.2 2 (.int .i64 x.at_) c rfl rfl)
    have h3 := rd_int_val (h.2 3 (.int .i64 x.who.kind) d rfl rfl)
    have h4 := rd_str_val (h.2 4 (.str x.who.text) e rfl rfl)
    obtain ⟨A, n, c', h5⟩ := rd_sl_val (h.2 5 (.sl (TField.rows x.fields)) f rfl rfl)
    subst h0 h1 h2 h3 h4 h5
    exact ⟨⟨x.id, x.name, x.at_, x.who.kind, x.who.text, A, n, c'⟩, rfl⟩
def encP (ps : List (TEvent × EvV)) : List Value := (ps.map fun p => p.2.enc).flatten
theorem encP_len (ps : List (TEvent × EvV)) : (encP ps).length = ps.length * 6 := by
  induction ps with
  | nil => rfl
  | cons p r ih =>
    show (p.2.enc ++ encP r).length = _
    rw [List.length_append, ih, EvV.len, List.length_cons]
    omega
theorem encP_one (ps : List (TEvent × EvV)) : ∀ v ∈ encP ps, v.oneCell' = true := fun v hv => by
  obtain ⟨r, hr, hv⟩ := List.mem_flatten.1 hv
  obtain ⟨p, _, rfl⟩ := List.mem_map.1 hr
  exact p.2.one v hv
theorem lays_of {ok : Nat → Prop} {w : World} : ∀ (l : List TEvent) (cs : List Value), RdL ok w (TEvent.rows l).flatten cs → ∃ ps : List (TEvent × EvV), ps.map Prod.fst = l ∧ cs = encP ps ∧ ∀ p ∈ ps, Lay ok w p
  | [], cs, h => by
    have : cs = [] := List.eq_nil_of_length_eq_zero h.1.symm
    subst this
    exact ⟨[], rfl, rfl, fun p hp => by cases hp⟩
  | x :: r, cs, h => by
    have h1 : RdL ok w x.row (cs.take 6) := by
      have := h.slice 0 6
      rwa [List.drop_zero, List.drop_zero, show ((TEvent.rows (x :: r)).flatten).take 6 = x.row from rfl] at this
    have h2 : RdL ok w (TEvent.rows r).flatten (cs.drop 6) := by
      have := h.drop 6
      rwa [show ((TEvent.rows (x :: r)).flatten).drop 6 = (TEvent.rows r).flatten from rfl] at this
    obtain ⟨v, hv⟩ := lay_one h1
    obtain ⟨ps, q1, q2, q3⟩ := lays_of r _ h2
    refine ⟨(x, v) :: ps, by rw [List.map_cons, q1], ?_, fun p hp => ?_⟩
    · show cs = v.enc ++ encP ps
      rw [← hv, ← q2, List.take_append_drop]
    · rcases List.mem_cons.1 hp with rfl | hp
      · show RdL ok w x.row v.enc
        rw [← hv]
        exact h1
      · exact q3 p hp
theorem lays_to {ok : Nat → Prop} {w : World} : ∀ (ps : List (TEvent × EvV)), (∀ p ∈ ps, Lay ok w p) → RdL ok w (TEvent.rows (ps.map Prod.fst)).flatten (encP ps)
  | [], _ => RdL.nil
  | p :: r, h => (show RdL ok w (p.1.row ++ (TEvent.rows (r.map Prod.fst)).flatten) (p.2.enc ++ encP r) from RdL.append (h p List.mem_cons_self) (lays_to r fun q hq => h q (List.mem_cons_of_mem _ hq)))
theorem encP_get (ps : List (TEvent × EvV)) {j c : Nat} {p : TEvent × EvV} (hj : ps[j]? = some p) (hc : c < 6) : (encP ps)[j * 6 + c]? = p.2.enc[c]? := by
  induction ps generalizing j with
  | nil => simp at hj
  | cons q r ih =>
    show (q.2.enc ++ encP r)[j * 6 + c]? = _
    cases j with
    | zero =>
      simp only [List.getElem?_cons_zero, Option.some.injEq] at hj
      subst hj
      rw [Nat.zero_mul, Nat.zero_add, List.getElem?_append_left (by rw [EvV.len]; exact hc)]
    | succ j =>
      rw [List.getElem?_append_right (by rw [EvV.len]; omega), EvV.len, show (j + 1) * 6 + c - 6 = j * 6 + c by omega]
      exact ih (by simpa using hj)

/-! ### A row whose first n places hold events of a list -/
def RowsIn (S : TEvent × EvV → Prop) (cur : Array Value) (n : Nat) : Prop := ∀ j, j < n → ∃ p, S p ∧ ∀ c, c < 6 → cur[j * 6 + c]? = p.2.enc[c]?
theorem RowsIn.list {S : TEvent × EvV → Prop} {cur : Array Value} : ∀ {n : Nat}, RowsIn S cur n → ∃ ps : List (TEvent × EvV), ps.length = n ∧ (∀ p ∈ ps, S p) ∧ cur.toList.take (n * 6) = encP ps := by
  intro n
  induction n with
  | zero => exact fun _ => ⟨[], rfl, fun p hp => (by cases hp), by rw [Nat.zero_mul]; rfl⟩
  | succ n ih =>
    intro h
    obtain ⟨ps, h1, h2, h3⟩ := ih fun j hj => h j (by omega)
    obtain ⟨p, hp, hc⟩ := h n (by omega)
    have he : encP (ps ++ [p]) = encP ps ++ p.2.enc := by
      unfold encP
      rw [List.map_append, List.flatten_append]
      simp
    refine ⟨ps ++ [p], by rw [List.length_append, h1]; rfl, fun q hq => ?_, ?_⟩
    · rcases List.mem_append.1 hq with hq | hq
      · exact h2 q hq
      · rw [List.mem_singleton.1 hq]; exact hp
    · rw [he]
      apply List.ext_getElem?
      intro i
      have hl : (encP ps).length = n * 6 := by rw [encP_len, h1]
      rw [List.getElem?_take]
      by_cases hi : i < n * 6
      · rw [if_pos (by omega), List.getElem?_append_left (by omega), ← h3, List.getElem?_take, if_pos hi]
      · rw [List.getElem?_append_right (by omega), hl]
        by_cases hi2 : i < (n + 1) * 6
        · rw [if_pos hi2, Array.getElem?_toList]
          have := hc (i - n * 6) (by omega)
          rwa [show n * 6 + (i - n * 6) = i by omega] at this
        · rw [if_neg hi2, eq_comm, List.getElem?_eq_none_iff, EvV.len]
          omega
theorem RowsIn.of {cur : Array Value} {ps : List (TEvent × EvV)} (h : cur.toList.take (ps.length * 6) = encP ps) : RowsIn (· ∈ ps) cur ps.length := fun j hj => by
  refine ⟨ps[j], List.getElem_mem hj, fun c hc => ?_⟩
  have := congrArg (fun q : List Value => q[j * 6 + c]?) h
  simp only [List.getElem?_take, Array.getElem?_toList] at this
  rw [if_pos (by omega)] at this
  rw [this]
  exact encP_get ps (List.getElem?_eq_getElem hj) hc
end Go.Avc

/- A slice of numbers that is handed in: it reads as numbers; it reads so still in a world of which all that was there is left. No condition. -/
set_option linter.unusedVariables false
namespace Go.Avc
open Go Go.Proofs Go.ChangeShapes Go.ChangeMaps

theorem cell_spot' {w : World} {a : Addr} {v : Value} (h : w.cell? a = some v) : a.spot = none := by
  obtain ⟨b, o, s⟩ := a
  cases s with
  | none => rfl
  | some x =>
    unfold World.cell? at h
    split at h <;> simp at h
section
variable {H : Type} {enc : TypeId × Value → H} {P : Program} {W : World}
theorem open_nums {t e : TypeId} {r : Reach} {b0 : Nat} {v : Value} {d : DataW H} {ps : List MemPlace} (ht : P.underlying t = some (.slice e)) (he : P.underlying e = some (.int .i64)) (hc : P.cellsOf e = 1)
    (hval : Value.okWide P W r b0 t v) (hd : DataW.Trod enc P W 0 (fun _ => true) true t v d ps) :
    ∃ (A : Option Addr) (L : List Int) (cp : Nat), v = .slice A L.length cp ∧ Rd (fun k => k < W.heap.size) W (.sl (intRows L)) v ∧
      ∀ W', RowKit.Below W.heap.size W W' → ∀ sp : Nat → Bool, (∀ p ∈ ps, sp p.block = true) → DataW.Trod enc P W' 0 sp true t v d ps := by
  obtain ⟨a0, len0, cap0, rfl⟩ := Go.WideShapes.okWide_slice ht hval
  obtain ⟨fuel, hf⟩ := hd
  rcases open_ints ht he hc hf with ⟨h1, h2⟩ | ⟨a, len, cap, zs, h1, hb, hl, hm, hz, hx, hcell, hw⟩
  · have h1' : [Value.slice a0 len0 cap0] = [Value.slice none 0 0] := h1
    simp only [List.cons.injEq, Value.slice.injEq, and_true] at h1'
    obtain ⟨rfl, rfl, rfl⟩ := h1'
    cases h2
    refine ⟨none, [], 0, rfl, .nil none 0, fun W' _ sp _ => ⟨1, ?_⟩⟩
    simp [DataW.trod, Value.cells, ht]
  · have h1' : [Value.slice a0 len0 cap0] = [Value.slice (some a) len cap] := h1
    simp only [List.cons.injEq, Value.slice.injEq, and_true] at h1'
    obtain ⟨rfl, rfl, rfl⟩ := h1'
    simp only [if_true] at hz
    cases hx
    have hin : ∀ i, i < zs.length → a.block < W.heap.size := fun i hi => by
      have := hcell i hi
      by_cases h : a.block < W.heap.size
      · exact h
      · have e : W.heap[(a.add i).block]? = none := by
          rw [Array.getElem?_eq_none]
          rw [block_add]
          omega
        unfold World.cell? at this
        rw [e] at this
        cases this
    refine ⟨some a, zs.take len0, cap0, by rw [List.length_take, Nat.min_eq_left (by omega)], ?_, fun W' hW sp hsp => ⟨2, ?_⟩⟩
    · have hlen : (zs.take len0).length = len0 := by rw [List.length_take, Nat.min_eq_left (by omega)]
      by_cases h0 : len0 = 0
      · subst h0
        rw [List.take_zero]
        exact .nil (some a) cap0
      · have hs : a.spot = none := cell_spot' (a := a.add 0) (hcell 0 (by omega))
        obtain ⟨b, o, s⟩ := a
        have hs' : s = none := hs
        subst hs'
        have hr : Rd (fun k => k < W.heap.size) W (.sl (intRows (zs.take len0))) (.slice (some ⟨b, o, none⟩) (intRows (zs.take len0)).length cap0) := by
          refine .sl (intRows (zs.take len0)) 1 b o cap0 (fun i _ => .int .i64 (zs.getD i 0)) ?_ (hin 0 (by omega)) (hin 0 (by omega)) ?_ ?_ ?_
          · unfold intRows
            rw [List.length_map, hlen]
            exact hl
          · intro i x hx
            unfold intRows at hx
            rw [List.getElem?_map] at hx
            obtain ⟨y, _, rfl⟩ := Option.map_eq_some_iff.1 hx
            rfl
          · intro i x hx j y hy
            unfold intRows at hx
            rw [List.getElem?_map] at hx
            obtain ⟨n, hn, rfl⟩ := Option.map_eq_some_iff.1 hx
            have hi : i < len0 := by
              have := (List.getElem?_eq_some_iff.1 hn).1
              omega
            cases j with
            | zero =>
              have := hcell i (by omega)
              rw [Go.WideShapes.add_plain] at this
              rw [Nat.mul_one, Nat.add_zero]
              exact this
            | succ j => simp at hy
          · intro i x hx j y hy
            unfold intRows at hx
            rw [List.getElem?_map] at hx
            obtain ⟨n, hn, rfl⟩ := Option.map_eq_some_iff.1 hx
            have hi : i < len0 := by
              have := (List.getElem?_eq_some_iff.1 hn).1
              omega
            cases j with
            | zero =>
              have hy' : D.int .i64 n = y := Option.some.inj hy
              subst hy'
              have hn' : zs.getD i 0 = n := by
                rw [List.getElem?_take, if_pos hi] at hn
                rw [List.getD_eq_getElem?_getD, hn]
                rfl
              show Rd _ _ _ (Value.int .i64 (zs.getD i 0))
              rw [hn']
              exact .int _ _
            | succ j => simp at hy
        have hl' : (intRows (zs.take len0)).length = len0 := by unfold intRows; rw [List.length_map, hlen]
        rw [hl'] at hr
        exact hr
    · refine shut_ints 0 ht he hc hb hl hm ?_ (fun i hi => ?_) hw
      · by_cases h0 : cap0 = 0
        · have : len0 = 0 := by omega
          subst h0
          subst this
          rw [hz]
          split <;> rfl
        · have := hsp (.cell a.block (a.off + 0)) (List.mem_map.2 ⟨0, List.mem_range.2 (by omega), rfl⟩)
          have e : sp a.block = true := this
          rw [if_pos e, hz]
      · rw [hW.cell (by rw [block_add]; exact hin i hi)]
        exact hcell i hi
end

section
open Go.RowKit Go.WideShapes
variable {H : Type} {enc : TypeId × Value → H} {P : Program}
theorem post_of_below {f : Func} {s : ChangeSpec} {apart fresh handsOn again : Bool} {W W' : World} {args : Array Value} {v : Value} {ds gs : List (DataW H)} {before pa pv : List MemPlace}
    (hW : DataW.Whole enc P f.params.toList s.vars apart W args.toList ds gs before)
    (hres : ∀ (b : Nat) (sp : Nat → Bool) (hd : Bool), DataW.TrodAll enc P W' b sp hd f.resultTypes.toList (v.resultList f.resultTypes.size) (s.fn H (ds ++ gs)).results [])
    (hargs : ∀ sp : Nat → Bool, (∀ p ∈ before, sp p.block = true) → DataW.TrodAll enc P W' 0 sp true f.params.toList args.toList (s.fn H (ds ++ gs)).args pa)
    (hvars : ∀ sp : Nat → Bool, (∀ p ∈ before, sp p.block = true) → DataW.TrodVars enc P W' sp s.vars (s.fn H (ds ++ gs)).vars pv)
    (hps : before = pa ++ pv) (hb : RowKit.Below W.heap.size W W')
    (hok : ∀ (j : Nat) (t : TypeId) (r : Value), f.resultTypes[j]? = some t → (v.resultList f.resultTypes.size)[j]? = some r → Value.okWide P W' .any 0 t r) :
    s.post enc P f apart fresh handsOn again W args v W' := by
  have hlt : ∀ p ∈ before, p.block < W.heap.size := fun p hp => hW.lt p hp
  have hold : ∀ p ∈ before, (fun b => decide (b < W.heap.size)) p.block = true := fun p hp => by simpa using hlt p hp
  refine ⟨ds, gs, before, [], pa, pv, hW, hres _ _ _, hargs _ hold, hvars _ hold, World.keptBut_mono (fun p hp => ⟨hp, ?_⟩) (hb.frame (· ∈ before)), fun _ => ?_⟩
  · rw [hps, List.mem_append] at hp
    exact Or.inr hp
  · obtain ⟨_, _, _, _, _, hz, hn⟩ := hW
    refine ⟨hok, _, _, ([] ++ pa) ++ pv, ⟨[] ++ pa, pv, trodAll_append (hargs _ (fun _ _ => rfl)) (hres _ _ _), hvars _ (fun _ _ => rfl), rfl, ?_, ?_⟩, ?_⟩
    · intro b off hp
      have hin : MemPlace.cell b off ∈ before := by rw [hps]; simpa using hp
      rw [hb.frozen (hlt _ hin)]
      exact hz b off hin
    · intro ha
      have := hn ha
      rw [hps] at this
      simpa using this
    · intro p hp _
      rw [hps]
      simpa using hp
end
end Go.Avc

/- The tables of unicode/utf8 and DecodeRuneInString; a text as its points. No condition. -/
set_option linter.unusedVariables false
set_option linter.unusedSimpArgs false
set_option maxRecDepth 100000
namespace Go.Avc
open Go Go.Proofs

/-- The tables of unicode/utf8 lie as they are laid. -/
def Utf8 (cx : Cx) : Prop := ∀ w, GlAt cx w → Lib.Utf8Tabs 4 5 w
def decS : Spec where
  pre xs := ∃ s : ByteArray, xs = [.str s]
  post xs r := ∃ s : ByteArray, xs = [.str s] ∧ r = .tcons (.dv (.d (.int .i32 (Lib.decodeGo s).1))) (.tcons (.i (Lib.decodeGo s).2) .tnil)
  cost _ := 0
  fresh := true
theorem dec_ctr {cx : Cx} (h : Seat cx) (hU : Utf8 cx) : Ctr cx 180 decS := by
  refine ctr_flat (by rw [h.hP]; exact ⟨_, Tryz.func180, by kernel_rfl, by kernel_rfl⟩) (fun _ => rfl) ?_
  rintro xs ⟨s, rfl⟩
  refine ⟨_, _, _, rfl, ⟨s, rfl, rfl⟩, rfl, fun w hw => ?_⟩
  rw [h.hP]
  exact Tryz.utf8_DecodeRuneInString s w (hU w hw)

theorem spl_one (x y : D) : spl [x] 0 [y] = [y] := rfl

/-- How many bytes the first code point takes. -/
def wid (s : ByteArray) : Nat := (Lib.decodeGo s).2
def ptOf (s : ByteArray) : Int := if ((Lib.decodeGo s).1 : Int) = 65533 ∧ ((Lib.decodeGo s).2 : Int) = 1 then -1 - bt s 0 else ((Lib.decodeGo s).1 : Int)
def ptsL : Nat → ByteArray → List Int
  | 0, _ => []
  | k + 1, s => if s.size = 0 then [] else ptOf s :: ptsL k (s.extract (wid s) s.size)
/-- The code points of a string; a byte that is none is below 0. -/
def pts (s : ByteArray) : List Int := ptsL s.size s
theorem i32w {n : Int} (h1 : -2147483648 ≤ n) (h2 : n ≤ 2147483647) : IntKind.i32.wrap n = n := IntWalk.i32_in _ ⟨h1, h2⟩
theorem decodeN_w (n b0 b1 b2 b3 : Nat) (hn : 1 ≤ n) (hb : b0 < 256) : 1 ≤ (Lib.decodeN n b0 b1 b2 b3).2 ∧ (Lib.decodeN n b0 b1 b2 b3).2 ≤ n ∧ (Lib.decodeN n b0 b1 b2 b3).1 ≤ 1114111 := by
  unfold Lib.decodeN
  repeat' split
  all_goals (simp only; omega)
theorem wid_ge {s : ByteArray} (h : s.size ≠ 0) : 1 ≤ wid s ∧ wid s ≤ s.size ∧ (Lib.decodeGo s).1 ≤ 1114111 := by
  unfold wid Lib.decodeGo
  rw [if_neg h, Lib.decode_at]
  exact decodeN_w _ _ _ _ _ (by omega) (UInt8.toNat_lt _)
theorem ptsL_step {s : ByteArray} {k : Nat} (h : s.size ≠ 0) (hk : s.size ≤ k) : ∃ k', k = k' + 1 ∧ ptsL k s = ptOf s :: ptsL k' (s.extract (wid s) s.size) := by
  obtain ⟨k', rfl⟩ : ∃ k', k = k' + 1 := ⟨k - 1, by omega⟩
  exact ⟨k', rfl, by conv => lhs; unfold ptsL
                     rw [if_neg h]⟩
theorem ptsL_nil {s : ByteArray} (h : s.size = 0) (k : Nat) : ptsL k s = [] := by
  cases k with
  | zero => rfl
  | succ k => unfold ptsL; rw [if_pos h]
theorem ptsL_len : ∀ (k : Nat) (s : ByteArray), (ptsL k s).length ≤ s.size
  | 0, s => Nat.zero_le _
  | k + 1, s => by
    unfold ptsL
    split
    · exact Nat.zero_le _
    · rename_i h
      have h1 := wid_ge h
      have h2 := ptsL_len k (s.extract (wid s) s.size)
      rw [ByteArray.size_extract] at h2
      rw [List.length_cons]
      omega
end Go.Avc

/- Small functions of the sending rules: their contracts. No condition. -/
set_option linter.unusedVariables false
set_option linter.unusedSimpArgs false
set_option maxRecDepth 100000
namespace Go.Avc
open Go Go.Proofs

theorem rowsK_inj' {l m : List Int} : intsD l = intsD m ↔ l = m := by
  refine ⟨fun h => ?_, fun h => by rw [h]⟩
  have e : ∀ l : List Int, numsOf (intsD l) = l := fun l => by
    unfold numsOf intsD
    rw [List.map_map]
    induction l with
    | nil => rfl
    | cons x r ih => simp [ih]
  rw [← e l, ← e m, h]
def chanS  : Spec where
  pre xs := ∃ (n : Int), xs = [.i n]
  post xs y := ∃ (n : Int), xs = [.i n] ∧ y = .b (inB n 1 4)
  cost _ := 0
  fresh := true
theorem chanS_c  (xs : List AV) : (chanS).cost xs = 0 := nr rfl
theorem chanS_f  : (chanS).fresh = true := nr rfl
theorem chanS_q  (n : Int) : (chanS).pre [.i n] = (True) := propext ⟨fun h => by
  have h' : ∃ (n' : Int), ([.i n] : List AV) = [.i n'] := h
  obtain ⟨n', e⟩ := h'
  simp only [List.cons.injEq, AV.dv.injEq, AV.dp.injEq, AV.fv.injEq, DV.d.injEq, DV.ag.injEq, D.int.injEq, D.str.injEq, D.bool.injEq, D.sl.injEq, true_and, and_true, intsDi_inj, rowsT_inj, rowsKi_inj] at e
  obtain rfl := e
  exact trivial, fun h => ⟨n, rfl⟩⟩
theorem chanS_p  (n : Int) : (chanS).post [.i n] = fun y => y = .b (inB n 1 4) := funext fun y => propext ⟨fun h => by
  have h' : ∃ (n' : Int), ([.i n] : List AV) = [.i n'] ∧ y = .b (inB n' 1 4) := h
  obtain ⟨n', e, h⟩ := h'
  simp only [List.cons.injEq, AV.dv.injEq, AV.dp.injEq, AV.fv.injEq, DV.d.injEq, DV.ag.injEq, D.int.injEq, D.str.injEq, D.bool.injEq, D.sl.injEq, true_and, and_true, intsDi_inj, rowsT_inj, rowsKi_inj] at e
  obtain rfl := e
  exact h, fun h => ⟨n, rfl, h⟩⟩
def kindL : List Int := [0, 1, 2, 4, 3]
def kindS  : Spec where
  pre xs := ∃ (n : Int), xs = [.i n] ∧ (0 ≤ n ∧ n ≤ 4)
  post xs y := ∃ (n : Int), xs = [.i n] ∧ y = .i (kindL.getD n.toNat 0)
  cost _ := 0
  fresh := true
theorem kindS_c  (xs : List AV) : (kindS).cost xs = 0 := nr rfl
theorem kindS_f  : (kindS).fresh = true := nr rfl
theorem kindS_q  (n : Int) : (kindS).pre [.i n] = (0 ≤ n ∧ n ≤ 4) := propext ⟨fun h => by
  have h' : ∃ (n' : Int), ([.i n] : List AV) = [.i n'] ∧ (0 ≤ n' ∧ n' ≤ 4) := h
  obtain ⟨n', e, h⟩ := h'
  simp only [List.cons.injEq, AV.dv.injEq, AV.dp.injEq, AV.fv.injEq, DV.d.injEq, DV.ag.injEq, D.int.injEq, D.str.injEq, D.bool.injEq, D.sl.injEq, true_and, and_true, intsDi_inj, rowsT_inj, rowsKi_inj] at e
  obtain rfl := e
  exact h, fun h => ⟨n, rfl, h⟩⟩
theorem kindS_p  (n : Int) : (kindS).post [.i n] = fun y => y = .i (kindL.getD n.toNat 0) := funext fun y => propext ⟨fun h => by
  have h' : ∃ (n' : Int), ([.i n] : List AV) = [.i n'] ∧ y = .i (kindL.getD n'.toNat 0) := h
  obtain ⟨n', e, h⟩ := h'
  simp only [List.cons.injEq, AV.dv.injEq, AV.dp.injEq, AV.fv.injEq, DV.d.injEq, DV.ag.injEq, D.int.injEq, D.str.injEq, D.bool.injEq, D.sl.injEq, true_and, and_true, intsDi_inj, rowsT_inj, rowsKi_inj] at e
  obtain rfl := e
  exact h, fun h => ⟨n, rfl, h⟩⟩
def isKindS : Spec where
  pre xs := ∃ n : Int, xs = [.i n]
  post xs r := ∃ (n k e : Int), xs = [.i n] ∧ (inB n 1 4 = true → k = kindL.getD n.toNat 0 ∧ e = 0) ∧ (inB n 1 4 = false → k = 0 ∧ e = 4) ∧ r = .tcons (.i k) (.tcons (.i e) .tnil)
  cost _ := 0
  fresh := true
def oddS : Spec where
  pre xs := ∃ lo hi : Int, xs = [.st, .i lo, .i hi] ∧ -1073741824 ≤ lo ∧ lo ≤ 1073741823 ∧ -1073741823 ≤ hi ∧ hi ≤ 1073741823
  post xs r := ∃ lo hi q : Int, xs = [.st, .i lo, .i hi] ∧ -1099511627776 ≤ q ∧ q ≤ 1099511627776 ∧ r = .i q
  cost _ := 2
  fresh := true
theorem odd_ctr {cx : Cx} (h : Seat cx) : Ctr cx 68 oddS := by
  refine ctr_of (fn := Tryz.f68) (l := [.tmp 6]) (envL [(26, flipS), (12, pickS), (11, rangeS)]) [0, 1, 2, 6, 8] [] [] (envL_cons (flip_ctr cx h.hP h.hS) (envL_cons (pick_ctr cx h.hP h.hS) (envL_cons (range_ctr cx h.hP h.hS) (env0 h.hP)))) ?_ (by rw [h.hP]; exact Tryz.func68) rfl (by kernel_rfl) rfl ?_ ?_
  · rw [h.hP]; exact ⟨_, Tryz.func68, by kernel_rfl, by kernel_rfl⟩
  · rintro xs ⟨lo, hi, rfl, h1, h2, h3, h4⟩; exact ⟨_, lo, hi, 0, rfl, by omega, by omega, rfl⟩
  · rintro xs ⟨lo, hi, rfl, h1, h2, h3, h4⟩
    refine ⟨by rw [Tryz.ntmps68]; simp, ?_⟩
    simp only [go_sem, h.hP, flipS, pickS, rangeS, oddS, show ∀ a b c d e f : Int, ([[D.int .i64 a], [D.int .i64 b], [D.int .i64 c], [D.int .i64 d], [D.int .i64 e], [D.int .i64 f]] : List (List D)) = intsD [a, b, c, d, e, f] from fun _ _ _ _ _ _ => rfl, (show ∀ l m : List Int, (intsD l = intsD m) = (l = m) from fun l m => propext rowsK_inj'), Tryz.ntmps68, Nat.reduceEqDiff, reduceCtorEq, Nat.reduceMul, Nat.reduceAdd, Nat.reduceSub, Nat.reduceDiv, Nat.reduceMod, Nat.reduceLeDiff, Nat.reduceLT, Nat.reduceBNe, Nat.reduceBEq, reduceIte, Int.reduceLE, Int.reduceLT, Int.reduceToNat, Int.reduceNeg, Int.reduceAdd, Int.reduceSub, Int.reduceMul, Int.reduceEq]
    rw [i64w (n := lo - 1) (by omega) (by omega), i64w (n := hi + 1) (by omega) (by omega)]
    refine fun a => ⟨fun _ x hx => ?_, fun _ => ⟨by omega, by omega, by omega, by omega, fun x a1 a2 a3 => ⟨x, by omega, ?_, rfl⟩⟩⟩
    · unfold isIn at hx
      simp only [List.mem_cons, List.not_mem_nil, or_false] at hx
      exact ⟨x, by omega, by omega, rfl⟩
    · by_cases c : lo ≤ hi
      · have := a2 c; omega
      · have := a3 (by omega); omega
def isOf (x : ByteArray) (l : List ByteArray) : Prop := x ∈ l
def oneS : Spec where
  pre xs := ∃ l : List ByteArray, xs = [.st, .sl (rowsT l)] ∧ l ≠ [] ∧ l.length ≤ 1073741824
  post xs r := ∃ (l : List ByteArray) (x : ByteArray), xs = [.st, .sl (rowsT l)] ∧ isOf x l ∧ r = .str x
  cost _ := 1
  fresh := true
theorem one_ctr {cx : Cx} (h : Seat cx) : Ctr cx 61 oneS := by
  refine ctr_of (fn := Tryz.f61) (l := [.tmp 4]) (envL [(55, nextS)]) [0, 1, 4] [] [] (envL_cons (next_ctr cx h.hP h.hS) (env0 h.hP)) ?_ (by rw [h.hP]; exact Tryz.func61) rfl (by kernel_rfl) rfl ?_ ?_
  · rw [h.hP]; exact ⟨_, Tryz.func61, by kernel_rfl, by kernel_rfl⟩
  · rintro xs ⟨l, rfl, h1, h2⟩
    exact (match l, h1 with | x :: t, _ => ⟨.str x, x :: t, x, rfl, List.mem_cons_self, rfl⟩)
  · rintro xs ⟨l, rfl, h1, h2⟩
    refine ⟨by rw [Tryz.ntmps61]; simp, ?_⟩
    simp only [go_sem, h.hP, nextS, oneS, rowsT_len, rowsT_get, rowsT_inj, Tryz.ntmps61, Nat.reduceEqDiff, reduceCtorEq, Nat.reduceMul, Nat.reduceAdd, Nat.reduceSub, Nat.reduceDiv, Nat.reduceMod, Nat.reduceLeDiff, Nat.reduceLT, Nat.reduceBNe, Nat.reduceBEq, reduceIte, Int.reduceLE, Int.reduceLT, Int.reduceToNat, Int.reduceNeg, Int.reduceAdd, Int.reduceSub, Int.reduceMul, Int.reduceEq]
    have hl := List.length_pos_iff.2 h1
    refine ⟨by omega, fun a e1 _ => ?_⟩
    have ha := e1 (by omega)
    refine ⟨ha.1, ha.2, ?_⟩
    rw [List.getD_eq_getElem?_getD, List.getElem?_eq_getElem (by omega)]
    exact List.getElem_mem _
/-! ### The stream's functions, as equations -/
theorem nextS_q (m : Int) : nextS.pre [.st, .i m] = (m ≤ 9223372036854775807) := propext ⟨fun ⟨m', e, h⟩ => by
  simp only [List.cons.injEq, AV.dv.injEq, DV.d.injEq, D.int.injEq, true_and, and_true] at e; subst e; exact h, fun h => ⟨m, rfl, h⟩⟩
theorem nextS_p (m : Int) : nextS.post [.st, .i m] = fun y => ∃ q : Int, (1 ≤ m → 0 ≤ q ∧ q < m) ∧ (m < 1 → q = 0) ∧ y = .i q := funext fun y => propext ⟨fun ⟨m', q, e, h⟩ => by
  simp only [List.cons.injEq, AV.dv.injEq, DV.d.injEq, D.int.injEq, true_and, and_true] at e; subst e; exact ⟨q, h⟩, fun ⟨q, h⟩ => ⟨m, q, rfl, h⟩⟩
theorem nextS_c (xs : List AV) : nextS.cost xs = 1 := nr rfl
theorem nextS_f : nextS.fresh = true := nr rfl
theorem flipS_q (m : Int) : flipS.pre [.st, .i m] = (m ≤ 9223372036854775807) := propext ⟨fun ⟨m', e, h⟩ => by
  simp only [List.cons.injEq, AV.dv.injEq, DV.d.injEq, D.int.injEq, true_and, and_true] at e; subst e; exact h, fun h => ⟨m, rfl, h⟩⟩
theorem flipS_p (m : Int) : flipS.post [.st, .i m] = fun y => ∃ b : Bool, y = .b b := funext fun y => propext ⟨fun ⟨m', q, e, h⟩ => ⟨q, h⟩, fun ⟨q, h⟩ => ⟨m, q, rfl, h⟩⟩
theorem flipS_c (xs : List AV) : flipS.cost xs = 1 := nr rfl
theorem flipS_f : flipS.fresh = true := nr rfl
theorem pickS_q (l : List Int) : pickS.pre [.st, .sl (intsD l)] = (l ≠ [] ∧ l.length ≤ 1073741824) := propext ⟨fun ⟨m', e, h⟩ => by
  simp only [List.cons.injEq, AV.dv.injEq, DV.d.injEq, D.sl.injEq, intsDi_inj, true_and, and_true] at e; subst e; exact h, fun h => ⟨l, rfl, h⟩⟩
theorem pickS_p (l : List Int) : pickS.post [.st, .sl (intsD l)] = fun y => ∃ x : Int, isIn x l ∧ y = .i x := funext fun y => propext ⟨fun ⟨m', q, e, h⟩ => by
  simp only [List.cons.injEq, AV.dv.injEq, DV.d.injEq, D.sl.injEq, intsDi_inj, true_and, and_true] at e; subst e; exact ⟨q, h⟩, fun ⟨q, h⟩ => ⟨l, q, rfl, h⟩⟩
theorem pickS_c (xs : List AV) : pickS.cost xs = 1 := nr rfl
theorem pickS_f : pickS.fresh = true := nr rfl
theorem oneS_q (l : List ByteArray) : oneS.pre [.st, .sl (rowsT l)] = (l ≠ [] ∧ l.length ≤ 1073741824) := propext ⟨fun ⟨m', e, h⟩ => by
  simp only [List.cons.injEq, AV.dv.injEq, DV.d.injEq, D.sl.injEq, rowsT_inj, true_and, and_true] at e; subst e; exact h, fun h => ⟨l, rfl, h⟩⟩
theorem oneS_p (l : List ByteArray) : oneS.post [.st, .sl (rowsT l)] = fun y => ∃ x : ByteArray, isOf x l ∧ y = .str x := funext fun y => propext ⟨fun ⟨m', q, e, h⟩ => by
  simp only [List.cons.injEq, AV.dv.injEq, DV.d.injEq, D.sl.injEq, rowsT_inj, true_and, and_true] at e; subst e; exact ⟨q, h⟩, fun ⟨q, h⟩ => ⟨l, q, rfl, h⟩⟩
theorem oneS_c (xs : List AV) : oneS.cost xs = 1 := nr rfl
theorem oneS_f : oneS.fresh = true := nr rfl
theorem rangeS_q (lo hi : Int) : rangeS.pre [.st, .i lo, .i hi] = (-1073741824 ≤ lo ∧ lo ≤ 1073741824 ∧ -1073741824 ≤ hi ∧ hi ≤ 1073741824) := propext ⟨fun ⟨a, b, e, h⟩ => by
  simp only [List.cons.injEq, AV.dv.injEq, DV.d.injEq, D.int.injEq, true_and, and_true] at e; obtain ⟨rfl, rfl⟩ := e; exact h, fun h => ⟨lo, hi, rfl, h⟩⟩
theorem rangeS_p (lo hi : Int) : rangeS.post [.st, .i lo, .i hi] = fun y => ∃ q : Int, lo ≤ q ∧ (lo ≤ hi → q ≤ hi) ∧ (hi < lo → q = lo) ∧ y = .i q := funext fun y => propext ⟨fun ⟨a, b, q, e, h⟩ => by
  simp only [List.cons.injEq, AV.dv.injEq, DV.d.injEq, D.int.injEq, true_and, and_true] at e; obtain ⟨rfl, rfl⟩ := e; exact ⟨q, h⟩, fun ⟨q, h⟩ => ⟨lo, hi, q, rfl, h⟩⟩
theorem rangeS_c (xs : List AV) : rangeS.cost xs = 1 := nr rfl
theorem rangeS_f : rangeS.fresh = true := nr rfl
theorem oddS_q (lo hi : Int) : oddS.pre [.st, .i lo, .i hi] = (-1073741824 ≤ lo ∧ lo ≤ 1073741823 ∧ -1073741823 ≤ hi ∧ hi ≤ 1073741823) := propext ⟨fun ⟨a, b, e, h⟩ => by
  simp only [List.cons.injEq, AV.dv.injEq, DV.d.injEq, D.int.injEq, true_and, and_true] at e; obtain ⟨rfl, rfl⟩ := e; exact h, fun h => ⟨lo, hi, rfl, h⟩⟩
theorem oddS_p (lo hi : Int) : oddS.post [.st, .i lo, .i hi] = fun y => ∃ q : Int, -1099511627776 ≤ q ∧ q ≤ 1099511627776 ∧ y = .i q := funext fun y => propext ⟨fun ⟨a, b, q, e, h⟩ => by
  simp only [List.cons.injEq, AV.dv.injEq, DV.d.injEq, D.int.injEq, true_and, and_true] at e; obtain ⟨rfl, rfl⟩ := e; exact ⟨q, h⟩, fun ⟨q, h⟩ => ⟨lo, hi, q, rfl, h⟩⟩
theorem oddS_c (xs : List AV) : oddS.cost xs = 2 := nr rfl
theorem oddS_f : oddS.fresh = true := nr rfl
end Go.Avc

/- Striking events out of a row: its walk. No condition. -/
set_option linter.unusedVariables false
set_option linter.unusedSimpArgs false
namespace Go.Avc
open Go Go.RowKit Go.Proofs

/-- A world behind w in which the row at block b still holds events such as S tells, and all else is as it was. -/
structure DelW (w : World) (b off n0 : Nat) (S : TEvent × EvV → Prop) (W : World) : Prop where
  os : W.os = w.os
  tape : W.tape = w.tape
  out : W.output = w.output
  size : w.heap.size ≤ W.heap.size
  keep : ∀ k, k < w.heap.size → k ≠ b → W.heap[k]? = w.heap[k]?
  rows : ∀ j, j < n0 → ∃ p, S p ∧ ∀ c v, p.2.enc[c]? = some v → W.cell? ⟨b, off + j * 6 + c, none⟩ = some v
  frz : ∀ o, W.frozen? ⟨b, o, none⟩ = false
section
variable {w W W' : World} {b off n0 : Nat} {S : TEvent × EvV → Prop}
theorem DelW.below (h : DelW w b off n0 S W) (hb : b < w.heap.size) (hB : RowKit.Below W.heap.size W W') : DelW w b off n0 S W' where
  os := hB.os.trans h.os
  tape := hB.tape.trans h.tape
  out := hB.output.trans h.out
  size := Nat.le_trans h.size hB.size
  keep := fun k hk hne => (hB.block k (Nat.lt_of_lt_of_le hk h.size)).trans (h.keep k hk hne)
  rows := fun j hj => by
    obtain ⟨p, hp, hc⟩ := h.rows j hj
    exact ⟨p, hp, fun c v hv => (cell_congr (a := ⟨b, off + j * 6 + c, none⟩) (hB.block b (Nat.lt_of_lt_of_le hb h.size))).trans (hc c v hv)⟩
  frz := fun o => by
    have := h.frz o
    unfold World.frozen? at this ⊢
    rw [show (⟨b, o, none⟩ : Addr).block = b from rfl] at this ⊢
    rw [hB.block b (Nat.lt_of_lt_of_le hb h.size)]
    exact this
theorem DelW.at_ (h : DelW w b off n0 S W) {j : Nat} (hj : j < n0) : ∃ p : TEvent × EvV, S p ∧ W.cell? ⟨b, off + j * 6, none⟩ = some (.string p.2.id) ∧ W.cell? ⟨b, off + j * 6 + 1, none⟩ = some (.string p.2.name) ∧ W.cell? ⟨b, off + j * 6 + 2, none⟩ = some (.int .i64 p.2.at_) ∧
    W.cell? ⟨b, off + j * 6 + 3, none⟩ = some (.int .i64 p.2.kind) ∧ W.cell? ⟨b, off + j * 6 + 4, none⟩ = some (.string p.2.text) ∧ W.cell? ⟨b, off + j * 6 + 5, none⟩ = some (.slice p.2.A p.2.n p.2.c) := by
  obtain ⟨p, hp, hc⟩ := h.rows j hj
  exact ⟨p, hp, hc 0 _ rfl, hc 1 _ rfl, hc 2 _ rfl, hc 3 _ rfl, hc 4 _ rfl, hc 5 _ rfl⟩
end
theorem setCells_keep (b : Nat) : ∀ (vs : List Value) (o : Nat) (W : World), (W.setCells b o vs).os = W.os ∧ (W.setCells b o vs).tape = W.tape ∧ (W.setCells b o vs).output = W.output ∧ (W.setCells b o vs).heap.size = W.heap.size ∧ ∀ k, k ≠ b → (W.setCells b o vs).heap[k]? = W.heap[k]?
  | [], _, _ => ⟨rfl, rfl, rfl, rfl, fun _ _ => rfl⟩
  | v :: r, o, W => by
    obtain ⟨h1, h2, h3, h4, h5⟩ := setCells_keep b r (o + 1) (W.setCell ⟨b, o, none⟩ v)
    exact ⟨h1, h2, h3, h4.trans (by simp [World.setCell]), fun k hk => (h5 k hk).trans (heap_setCell_other _ _ _ _ (by exact hk))⟩
section
variable {w W W' : World} {b off n0 : Nat} {S : TEvent × EvV → Prop}
theorem DelW.cut (h : DelW w b off n0 S W) {k : Nat} (hk : k ≤ n0) (vs : List Value) : DelW w b off k S (W.setCells b (off + k * 6) vs) := by
  obtain ⟨h1, h2, h3, h4, h5⟩ := setCells_keep b vs (off + k * 6) W
  refine ⟨h1.trans h.os, h2.trans h.tape, h3.trans h.out, h4.symm ▸ h.size, fun j hj hne => (h5 j hne).trans (h.keep j hj hne), fun j hj => ?_, fun o => (World.frozen?_setCells b _ _ _ _).trans (h.frz o)⟩
  obtain ⟨p, hp, hc⟩ := h.rows j (by omega)
  refine ⟨p, hp, fun c v hv => ?_⟩
  have hc6 : c < 6 := (List.getElem?_eq_some_iff.1 hv).1
  rw [World.cell?_setCells_out b _ _ _ _ (fun _ _ => .inl (by show off + j * 6 + c < off + k * 6; omega))]
  exact hc c v hv
theorem in_at {b o : Nat} {vs : List Value} {W : World} (h : ∀ j, j < vs.length → (W.cell? ⟨b, o + j, none⟩).isSome = true) {c : Nat} {v : Value} (hv : vs[c]? = some v) : (W.setCells b o vs).cell? ⟨b, o + c, none⟩ = some v := by
  obtain ⟨hc, rfl⟩ := List.getElem?_eq_some_iff.1 hv
  exact World.cell?_setCells_in b vs o W h c hc
theorem DelW.store (h : DelW w b off n0 S W) {i : Nat} (hi : i < n0) {p : TEvent × EvV} (hp : S p) : DelW w b off n0 S (W.setCells b (off + i * 6) p.2.enc) := by
  have hl : p.2.enc.length = 6 := rfl
  generalize hvs : p.2.enc = vs at hl ⊢
  obtain ⟨h1, h2, h3, h4, h5⟩ := setCells_keep b vs (off + i * 6) W
  refine ⟨h1.trans h.os, h2.trans h.tape, h3.trans h.out, h4.symm ▸ h.size, fun j hj hne => (h5 j hne).trans (h.keep j hj hne), fun j hj => ?_, fun o => (World.frozen?_setCells b _ _ _ _).trans (h.frz o)⟩
  by_cases e : j = i
  · subst e
    refine ⟨p, hp, fun c v hv => in_at (fun c hc => ?_) (by rw [← hvs]; exact hv)⟩
    obtain ⟨q, _, hq⟩ := h.rows j hj
    rw [hq c _ (List.getElem?_eq_getElem (show c < q.2.enc.length by rw [EvV.len, ← hl]; exact hc))]
    rfl
  · obtain ⟨q, hq, hc⟩ := h.rows j hj
    refine ⟨q, hq, fun c v hv => ?_⟩
    have hc6 : c < 6 := (List.getElem?_eq_some_iff.1 hv).1
    rw [World.cell?_setCells_out b _ _ _ _ (fun _ _ => by show off + j * 6 + c < off + i * 6 ∨ off + i * 6 + vs.length ≤ off + j * 6 + c; rw [hl]; omega)]
    exact hc c v hv
theorem zero_one (n : Nat) (h : n < 6) : (#[.string ⟨#[]⟩, .string ⟨#[]⟩, .int .i64 0, .int .i64 0, .string ⟨#[]⟩, .slice none 0 0] : Array Value)[n]!.oneCell' = true := by
  match n, h with
  | 0, _ => rfl
  | 1, _ => rfl
  | 2, _ => rfl
  | 3, _ => rfl
  | 4, _ => rfl
  | 5, _ => rfl
theorem DelW.clear (h : DelW w b off n0 S W) {k : Nat} (hk : k < n0) (c : Nat) : ∃ vs, (Builtin.clear_ #[26] 0 #[.slice (some ⟨b, off + k * 6, none⟩) (n0 - k) c]).run Tryz.prog W = .ok (.tuple #[]) (W.setCells b (off + k * 6) vs) := by
  have hz : ∀ W, (zeroValue 52).run Tryz.prog W = .ok (.agg #[.string ⟨#[]⟩, .string ⟨#[]⟩, .int .i64 0, .int .i64 0, .string ⟨#[]⟩, .slice none 0 0]) W := fun W => by
    obtain ⟨i0, hi, hz0, hz1, hz2⟩ := info_parts (P := Tryz.prog) (e := 52) (z := .agg #[.string ⟨#[]⟩, .string ⟨#[]⟩, .int .i64 0, .int .i64 0, .string ⟨#[]⟩, .slice none 0 0]) (size := 6) (bytes := 88) (by kernel_rfl)
    simp only [zeroValue, run_typeInfo W hi, hz0, Sem.run_bind, Result.andThen_ok]
    rfl
  obtain ⟨m, hm⟩ : ∃ m, n0 - k = m + 1 := ⟨n0 - k - 1, by omega⟩
  refine ⟨(Builtin.zeroCells #[.string ⟨#[]⟩, .string ⟨#[]⟩, .int .i64 0, .int .i64 0, .string ⟨#[]⟩, .slice none 0 0] (n0 - k)).toList, ?_⟩
  have hl : (Builtin.zeroCells #[.string ⟨#[]⟩, .string ⟨#[]⟩, .int .i64 0, .int .i64 0, .string ⟨#[]⟩, .slice none 0 0] (n0 - k)).toList.length = (n0 - k) * 6 := by
    simp [Builtin.zeroCells]
  have hst := run_storeCells_cells (P := Tryz.prog) b (off + k * 6) (Builtin.zeroCells #[.string ⟨#[]⟩, .string ⟨#[]⟩, .int .i64 0, .int .i64 0, .string ⟨#[]⟩, .slice none 0 0] (n0 - k)).toList 0 W (fun j hj => by
      rw [hl] at hj
      obtain ⟨q, _, hq⟩ := h.rows (k + j / 6) (by omega)
      have hj6 : j % 6 < 6 := Nat.mod_lt _ (by decide)
      have := hq (j % 6) _ (List.getElem?_eq_getElem (show j % 6 < q.2.enc.length by rw [EvV.len]; exact hj6))
      rw [show off + k * 6 + 0 + j = off + (k + j / 6) * 6 + j % 6 by omega, this]
      rfl) (fun j hj => h.frz _) (fun v hv => by
      simp only [Builtin.zeroCells, Array.toList_map, List.mem_map] at hv
      obtain ⟨i, _, rfl⟩ := hv
      exact zero_one _ (Nat.mod_lt _ (by decide)))
  rw [Nat.add_zero] at hst
  rw [hm] at hst ⊢
  simp [Builtin.clear_, run_underlying Tryz.underlying26, hz, Value.cells, hst]
end
theorem box_at {W : World} {n : Nat} {a b c d e f : Value} {T : TypeId} (h : W.heap[n]? = some (.cells #[a, b, c, d, e, f] T (0, 0))) : W.cell? ⟨n, 0, none⟩ = some a ∧ W.cell? ⟨n, 1, none⟩ = some b ∧ W.cell? ⟨n, 2, none⟩ = some c ∧ W.cell? ⟨n, 3, none⟩ = some d ∧ W.cell? ⟨n, 4, none⟩ = some e ∧ W.cell? ⟨n, 5, none⟩ = some f := by
  refine ⟨?_, ?_, ?_, ?_, ?_, ?_⟩ <;> rw [Lib.cell_of_heap h] <;> rfl
def ivD : Value → Int
  | .int _ n => n
  | _ => 0
set_option maxHeartbeats 4000000 in
set_option maxRecDepth 100000 in
theorem idx_walk {w : World} {b off cap n0 g : Nat} {S : TEvent × EvV → Prop} (hb : b < w.heap.size) (hn : n0 ≤ 1048576) (h0 : DelW w b off n0 S w) (eg : ∀ args w, (callFunc g args).run Tryz.prog w = .ok (.enter g args) w)
    (hp : ∀ p, S p → ∀ W, DelW w b off n0 S W → Calls Tryz.prog g #[.agg p.2.enc.toArray] W fun e W' => ∃ q : Bool, e = .returned (.bool q) ∧ RowKit.Below W.heap.size W W') :
    Calls Tryz.prog 87 #[.slice (some ⟨b, off, none⟩) n0 cap, .func (.func g) #[] #[]] w fun e W => ∃ i : Int, e = .returned (.int .i64 i) ∧ (i = -1 ∨ 0 ≤ i ∧ i < n0) ∧ DelW w b off n0 S W := by
  go_enter Tryz.func87, Tryz.ntmps87
  go_wp2
  go_loopw [8] (fun i wr => ∃ k : Nat, k ≤ n0 ∧ i = .int .i64 (k : Int) ∧ DelW w b off n0 S wr) (fun i _ => n0 - (ivD i).toNat)
  case atStart => exact ⟨0, Nat.zero_le _, rfl, h0⟩
  case round =>
    obtain ⟨k, hk, rfl, hd⟩ := hrel
    by_cases hlt : k < n0
    · obtain ⟨p, hp1, c0, c1, c2, c3, c4, c5⟩ := hd.at_ hlt
      have hcall := hp p hp1 wr hd
      rw [show p.2.enc.toArray = #[.string p.2.id, .string p.2.name, .int .i64 p.2.at_, .int .i64 p.2.kind, .string p.2.text, .slice p.2.A p.2.n p.2.c] from rfl] at hcall
      go_wp2_with (go_at_fn g; refine hcall.mono ?_; rintro e w' ⟨q, rfl, hbl⟩; cases q)
      · go_roundw
        case rel => exact ⟨k + 1, by omega, by simp, hd.below hb hbl⟩
        case measure => simp [ivD] <;> omega
      · go_ret
        exact ⟨k, rfl, .inr ⟨by omega, by omega⟩, hd.below hb hbl⟩
    · obtain rfl : k = n0 := by omega
      go_wp2
      go_ret
      exact ⟨-1, rfl, .inl rfl, hd⟩
set_option maxHeartbeats 8000000 in
set_option maxRecDepth 100000 in
theorem del_walk {w : World} {b off cap n0 g : Nat} {S : TEvent × EvV → Prop} (hb : b < w.heap.size) (hn : n0 ≤ 1048576) (hcap : n0 ≤ cap) (h0 : DelW w b off n0 S w) (eg : ∀ args w, (callFunc g args).run Tryz.prog w = .ok (.enter g args) w)
    (hp : ∀ p, S p → ∀ W, DelW w b off n0 S W → Calls Tryz.prog g #[.agg p.2.enc.toArray] W fun e W' => ∃ q : Bool, e = .returned (.bool q) ∧ RowKit.Below W.heap.size W W') :
    Calls Tryz.prog 37 #[.slice (some ⟨b, off, none⟩) n0 cap, .func (.func g) #[] #[]] w fun e W => ∃ i : Nat, i ≤ n0 ∧ e = .returned (.slice (some ⟨b, off, none⟩) i cap) ∧ DelW w b off i S W := by
  go_enter Tryz.func37, Tryz.ntmps37
  go_wp2_with (go_at_call 87; refine (idx_walk (cap := cap) hb hn h0 eg hp).mono ?_; rintro e w1 ⟨i0, rfl, hi0 | ⟨hi0, hi1⟩, hd1⟩)
  · subst hi0
    go_wp2
    go_ret
    exact ⟨n0, Nat.le_refl _, rfl, hd1⟩
  · obtain ⟨k0, rfl⟩ : ∃ k : Nat, i0 = k := ⟨i0.toNat, by omega⟩
    go_wp2
    go_loopw [5, 6] (fun i j wr => ∃ k m : Nat, k < m ∧ m ≤ n0 ∧ i = .int .i64 (k : Int) ∧ j = .int .i64 (m : Int) ∧ DelW w b off n0 S wr) (fun i j _ => n0 - (ivD j).toNat)
    case atStart => exact ⟨k0, k0 + 1, by omega, by omega, rfl, by simp, hd1⟩
    case round =>
      obtain ⟨k, m, hk, hm, rfl, rfl, hd⟩ := hrel
      by_cases hlt : m < n0
      · obtain ⟨p, hp1, c0, c1, c2, c3, c4, c5⟩ := hd.at_ hlt
        have hcall := fun W hW => hp p hp1 W hW
        rw [show p.2.enc.toArray = #[.string p.2.id, .string p.2.name, .int .i64 p.2.at_, .int .i64 p.2.kind, .string p.2.text, .slice p.2.A p.2.n p.2.c] from rfl] at hcall
        have hA := (RowKit.Below.refl wr.heap.size wr).alloc (Nat.le_refl _) (Obj.cells #[.string p.2.id, .string p.2.name, .int .i64 p.2.at_, .int .i64 p.2.kind, .string p.2.text, .slice p.2.A p.2.n p.2.c] 52)
        have hdA := hd.below hb hA
        have hB := heap_alloc_new wr (Obj.cells #[.string p.2.id, .string p.2.name, .int .i64 p.2.at_, .int .i64 p.2.kind, .string p.2.text, .slice p.2.A p.2.n p.2.c] 52)
        have hsz : wr.heap.size < (wr.alloc (Obj.cells #[.string p.2.id, .string p.2.name, .int .i64 p.2.at_, .int .i64 p.2.kind, .string p.2.text, .slice p.2.A p.2.n p.2.c] 52)).heap.size := by simp
        go_wp2_with (go_at_fn g; refine (hcall _ hdA).mono ?_; rintro e w' ⟨q, rfl, hbl⟩; have hd2 := hdA.below hb hbl; obtain ⟨p', hp', d0, d1, d2, d3, d4, d5⟩ := hd2.at_ (j := k) (by omega); have f0 := hd2.frz (off + k * 6); have f1 := hd2.frz (off + k * 6 + 1); have f2 := hd2.frz (off + k * 6 + 2); have f3 := hd2.frz (off + k * 6 + 3); have f4 := hd2.frz (off + k * 6 + 4); have f5 := hd2.frz (off + k * 6 + 5); have hB' := (hbl.block _ hsz).trans hB; clear hcall hp hA hB hbl; obtain ⟨e0, e1, e2, e3, e4, e5⟩ := box_at hB'; cases q)
        · refine ⟨⟨_, _, _, _, _, _, _, _, _, _, _, _, _, _, _, _, _, _, _, _, _, _, _, ⟨k + 1, m + 1, by omega, by omega, ?_, ?_, ?_⟩, rfl⟩, ?_⟩
          · simp
          · simp
          · exact hd2.store (show k < n0 by omega) hp1
          · simp [ivD] <;> omega
        · refine ⟨⟨_, _, _, _, _, _, _, _, _, _, _, _, _, _, _, _, _, _, _, _, _, _, _, ⟨k, m + 1, by omega, by omega, ?_, ?_, ?_⟩, rfl⟩, ?_⟩
          · simp
          · simp
          · exact hd2
          · simp [ivD] <;> omega
      · obtain rfl : m = n0 := by omega
        obtain ⟨vs, hcl⟩ := hd.clear hk (cap - k)
        have hkc : ¬ cap < k := by omega
        have hkc' : k ≤ cap := by omega
        go_wp2
        go_ret
        exact ⟨k, by omega, rfl, hd.cut (by omega) vs⟩
end Go.Avc

/- The text of a value: valid UTF-8 without control bytes, and by its code points: plain law. No condition. -/
set_option linter.unusedVariables false
set_option linter.unusedSimpArgs false
namespace Go.Avc
open Go
def byteOk (c : UInt8) : Bool := decide (32 ≤ c.toNat) && decide (c.toNat ≠ 127)
def badPt (p : Int) : Bool := decide (p < 32) || (p == 127)
def ptL (l : List UInt8) : Int := if (Lib.decodeL l).1 = 65533 ∧ (Lib.decodeL l).2 = 1 then -1 - ((l.getD 0 0).toNat : Int) else ((Lib.decodeL l).1 : Int)
def ptsF : Nat → List UInt8 → List Int
  | 0, _ => []
  | k + 1, l => if l = [] then [] else ptL l :: ptsF k (l.drop (Lib.decodeL l).2)
theorem dec_hi (n b0 b1 b2 b3 : Nat) (hb : 128 ≤ b0) (h : ¬ ((Lib.decodeN n b0 b1 b2 b3).1 = 65533 ∧ (Lib.decodeN n b0 b1 b2 b3).2 = 1)) :
    128 ≤ (Lib.decodeN n b0 b1 b2 b3).1 ∧ (Lib.decodeN n b0 b1 b2 b3).2 ≤ 4 ∧ (2 ≤ (Lib.decodeN n b0 b1 b2 b3).2 → 128 ≤ b1) ∧ (3 ≤ (Lib.decodeN n b0 b1 b2 b3).2 → 128 ≤ b2) ∧ (4 ≤ (Lib.decodeN n b0 b1 b2 b3).2 → 128 ≤ b3) := by
  unfold Lib.decodeN at h ⊢
  repeat' split
  all_goals first
    | (exfalso; omega)
    | (refine ⟨?_, ?_, ?_, ?_, ?_⟩ <;> simp only <;> omega)
    | (exfalso; simp_all)
theorem byteOk_hi {c : UInt8} (h : 128 ≤ c.toNat) : byteOk c = true := by
  unfold byteOk
  simp only [Bool.and_eq_true, decide_eq_true_eq]
  omega
theorem head_ok (l : List UInt8) (hne : l ≠ []) (h : ¬ ((Lib.decodeL l).1 = 65533 ∧ (Lib.decodeL l).2 = 1)) : (l.take (Lib.decodeL l).2).all byteOk = !badPt ((Lib.decodeL l).1 : Int) := by
  obtain ⟨b, t, rfl⟩ : ∃ b t, l = b :: t := by cases l with | nil => exact absurd rfl hne | cons b t => exact ⟨b, t, rfl⟩
  by_cases hb : b.toNat < 128
  · rw [Lib.decodeL_ascii b t hb]
    show ([b].all byteOk) = _
    unfold badPt byteOk
    simp only [List.all_cons, List.all_nil, Bool.and_true]
    rw [Bool.eq_iff_iff]
    simp
    omega
  · rw [Lib.decodeL_N] at h ⊢
    have h0 : ((b :: t).getD 0 0).toNat = b.toNat := rfl
    rw [h0] at h ⊢
    obtain ⟨h1, h2, h3, h4, h5⟩ := dec_hi _ b.toNat _ _ _ (by omega) h
    have hbad : badPt ((Lib.decodeN (b :: t).length b.toNat ((b :: t).getD 1 0).toNat ((b :: t).getD 2 0).toNat ((b :: t).getD 3 0).toNat).1 : Int) = false := by
      unfold badPt
      simp only [Bool.or_eq_false_iff, decide_eq_false_iff_not, beq_eq_false_iff_ne]
      omega
    rw [hbad]
    rw [Bool.not_false, List.all_eq_true]
    intro x hx
    obtain ⟨j, hj, rfl⟩ := List.mem_iff_getElem.1 hx
    rw [List.length_take] at hj
    rw [List.getElem_take]
    refine byteOk_hi ?_
    have hd : ∀ k : Nat, ∀ hk : k < (b :: t).length, (b :: t)[k] = (b :: t).getD k 0 := fun k hk => by rw [List.getD_eq_getElem?_getD, List.getElem?_eq_getElem hk]; rfl
    rw [hd j (by omega)]
    match j with
    | 0 => show 128 ≤ b.toNat; omega
    | 1 => exact h3 (by omega)
    | 2 => exact h4 (by omega)
    | 3 => exact h5 (by omega)
    | j + 4 => omega
theorem text_law : ∀ (k : Nat) (l : List UInt8), l.length ≤ k → (Lib.validD l && l.all byteOk) = !(ptsF k l).any badPt
  | 0, l, h => by
    have : l = [] := List.eq_nil_of_length_eq_zero (by omega)
    subst this
    rfl
  | k + 1, l, h => by
    by_cases hne : l = []
    · subst hne; rfl
    · rw [Lib.validD_step l hne]
      unfold ptsF
      rw [if_neg hne]
      by_cases hd : (Lib.decodeL l).1 = 65533 ∧ (Lib.decodeL l).2 = 1
      · rw [if_pos hd, List.any_cons]
        have : badPt (ptL l) = true := by
          unfold ptL badPt
          rw [if_pos hd]
          simp only [Bool.or_eq_true, decide_eq_true_eq]
          omega
        rw [this]; rfl
      · rw [if_neg hd, List.any_cons]
        have hp : badPt (ptL l) = badPt ((Lib.decodeL l).1 : Int) := by unfold ptL; rw [if_neg hd]
        have hw := Lib.decodeL_width l
        have ih := text_law k (l.drop (Lib.decodeL l).2) (by rw [List.length_drop]; have : 0 < l.length := List.length_pos_iff.2 hne; omega)
        have hs : l.all byteOk = ((l.take (Lib.decodeL l).2).all byteOk && (l.drop (Lib.decodeL l).2).all byteOk) := by rw [← List.all_append, List.take_append_drop]
        rw [hs, hp, head_ok l hne hd]
        rw [Bool.not_or, ← ih]
        cases badPt ((Lib.decodeL l).1 : Int) <;> cases Lib.validD (l.drop (Lib.decodeL l).2) <;> simp
theorem ptsL_F : ∀ (k : Nat) (s : ByteArray), ptsL k s = ptsF k s.data.toList
  | 0, s => rfl
  | k + 1, s => by
    unfold ptsL ptsF
    have hsz : (s.size = 0) = (s.data.toList = []) := by
      apply propext
      rw [← List.length_eq_zero_iff, Array.length_toList]
      exact Iff.rfl
    by_cases h : s.size = 0
    · rw [if_pos h, if_pos (hsz ▸ h)]
    · rw [if_neg h, if_neg (hsz ▸ h)]
      have hd : Lib.decodeL s.data.toList = Lib.decodeGo s := by
        unfold Lib.decodeL Lib.decodeGo
        rw [if_neg h]
      rw [ptsL_F k]
      have hx : (s.extract (wid s) s.size).data.toList = s.data.toList.drop (Lib.decodeL s.data.toList).2 := by
        rw [ByteArray.data_extract, Array.toList_extract, hd, List.extract_eq_take_drop]
        show (s.data.toList.drop (wid s)).take (s.size - wid s) = s.data.toList.drop (wid s)
        rw [List.take_of_length_le]
        rw [List.length_drop, Array.length_toList]
        exact Nat.le_refl _
      rw [hx]
      congr 1
      unfold ptOf ptL
      rw [hd]
      by_cases c : (Lib.decodeGo s).1 = 65533 ∧ (Lib.decodeGo s).2 = 1
      · rw [if_pos (by omega), if_pos c]
        rfl
      · rw [if_neg (by omega), if_neg c]
/-- What ValidString and a look at the bytes say is what the code points say. -/
theorem text_pts (s : ByteArray) : (Lib.validD s.data.toList && s.data.toList.all byteOk) = !(pts s).any badPt := by
  unfold pts
  rw [ptsL_F, text_law s.size s.data.toList (by rw [Array.length_toList]; exact Nat.le_refl _)]
end Go.Avc

/- Keys by the reference: strings.Trim at a cutset of ASCII bytes. No condition. -/
set_option linter.unusedVariables false
set_option linter.unusedSimpArgs false
set_option maxRecDepth 100000
namespace Go.Avc
open Go Go.Proofs

def asciiB (c : ByteArray) : Bool := c.data.toList.all fun b => decide (b.toNat < 128)
def trimF (s c : ByteArray) : ByteArray := ⟨(Lib.trimS s.data.toList c.data.toList).toArray⟩
def trimSp  : Spec where
  pre xs := ∃ (s : ByteArray) (c : ByteArray), xs = [.str s, .str c] ∧ (s.size ≤ 4611686018427387904 ∧ c.size ≤ 1000000 ∧ asciiB c = true)
  post xs y := ∃ (s : ByteArray) (c : ByteArray), xs = [.str s, .str c] ∧ y = .str (trimF s c)
  cost _ := 0
  fresh := true
theorem trimSp_c  (xs : List AV) : (trimSp).cost xs = 0 := nr rfl
theorem trimSp_f  : (trimSp).fresh = true := nr rfl
theorem trimSp_q  (s : ByteArray) (c : ByteArray) : (trimSp).pre [.str s, .str c] = (s.size ≤ 4611686018427387904 ∧ c.size ≤ 1000000 ∧ asciiB c = true) := propext ⟨fun h => by
  have h' : ∃ (s' : ByteArray) (c' : ByteArray), ([.str s, .str c] : List AV) = [.str s', .str c'] ∧ (s'.size ≤ 4611686018427387904 ∧ c'.size ≤ 1000000 ∧ asciiB c' = true) := h
  obtain ⟨s', c', e, h⟩ := h'
  simp only [List.cons.injEq, AV.dv.injEq, AV.dp.injEq, AV.fv.injEq, DV.d.injEq, DV.ag.injEq, D.int.injEq, D.str.injEq, D.bool.injEq, D.sl.injEq, true_and, and_true, intsDi_inj, rowsT_inj, rowsKi_inj] at e
  obtain ⟨rfl, rfl⟩ := e
  exact h, fun h => ⟨s, c, rfl, h⟩⟩
theorem trimSp_p  (s : ByteArray) (c : ByteArray) : (trimSp).post [.str s, .str c] = fun y => y = .str (trimF s c) := funext fun y => propext ⟨fun h => by
  have h' : ∃ (s' : ByteArray) (c' : ByteArray), ([.str s, .str c] : List AV) = [.str s', .str c'] ∧ y = .str (trimF s' c') := h
  obtain ⟨s', c', e, h⟩ := h'
  simp only [List.cons.injEq, AV.dv.injEq, AV.dp.injEq, AV.fv.injEq, DV.d.injEq, DV.ag.injEq, D.int.injEq, D.str.injEq, D.bool.injEq, D.sl.injEq, true_and, and_true, intsDi_inj, rowsT_inj, rowsKi_inj] at e
  obtain ⟨rfl, rfl⟩ := e
  exact h, fun h => ⟨s, c, rfl, h⟩⟩
theorem trim_ctr {cx : Cx} (h : Seat cx) : Ctr cx 83 trimSp := by
  refine ctr_flat (by rw [h.hP]; exact ⟨_, Tryz.func83, by kernel_rfl, by kernel_rfl⟩) (fun _ => rfl) ?_
  rintro xs ⟨s, c, rfl, h1, h2, h3⟩
  refine ⟨_, _, _, rfl, ⟨s, c, rfl, rfl⟩, rfl, fun w hw => ?_⟩
  rw [h.hP]
  exact Tryz.strings_Trim_ascii s c w (by omega) (by omega) (ascii_of_all h3)
def onlyB (s c : ByteArray) : Bool := s.data.toList.all fun b => c.data.toList.contains b
theorem drop_nil_of {α : Type} {p : α → Bool} : ∀ {l : List α}, l.dropWhile p = [] ↔ l.all p = true
  | [] => by simp
  | x :: l => by
    cases h : p x with
    | true => rw [List.dropWhile_cons_of_pos h, List.all_cons, h, Bool.true_and]; exact drop_nil_of
    | false => rw [List.dropWhile_cons_of_neg (by simp [h]), List.all_cons, h]; simp
theorem drop_head {α : Type} {p : α → Bool} : ∀ {l : List α} {x : α} {r : List α}, l.dropWhile p = x :: r → p x = false
  | [], x, r, h => by simp at h
  | y :: l, x, r, h => by
    cases hy : p y with
    | true => rw [List.dropWhile_cons_of_pos hy] at h; exact drop_head h
    | false => rw [List.dropWhile_cons_of_neg (by simp [hy])] at h; cases h; exact hy
theorem trim_nil (s c : ByteArray) : ((trimF s c).size = 0) = (onlyB s c = true) := by
  apply propext
  unfold trimF onlyB Lib.trimS Lib.trimLeftS Lib.trimRightS
  show (List.toArray _).size = 0 ↔ _
  rw [List.size_toArray, List.length_eq_zero_iff, drop_nil_of, List.all_reverse]
  generalize hp : (fun b : UInt8 => c.data.toList.contains b) = p
  constructor
  · intro h
    have : s.data.toList.reverse.dropWhile p = [] := by
      cases e : s.data.toList.reverse.dropWhile p with
      | nil => rfl
      | cons x r =>
        have h1 := drop_head e
        rw [e] at h
        rw [List.all_cons, h1] at h
        cases h
    rw [drop_nil_of, List.all_reverse] at this
    exact this
  · intro h
    have : s.data.toList.reverse.dropWhile p = [] := by rw [drop_nil_of, List.all_reverse]; exact h
    rw [this]; rfl
def onlyS  : Spec where
  pre xs := ∃ (s : ByteArray) (c : ByteArray), xs = [.str s, .str c] ∧ (s.size ≤ 4611686018427387904 ∧ c.size ≤ 1000000 ∧ asciiB c = true)
  post xs y := ∃ (s : ByteArray) (c : ByteArray), xs = [.str s, .str c] ∧ y = .b (onlyB s c)
  cost _ := 0
  fresh := true
theorem onlyS_c  (xs : List AV) : (onlyS).cost xs = 0 := nr rfl
theorem onlyS_f  : (onlyS).fresh = true := nr rfl
theorem onlyS_q  (s : ByteArray) (c : ByteArray) : (onlyS).pre [.str s, .str c] = (s.size ≤ 4611686018427387904 ∧ c.size ≤ 1000000 ∧ asciiB c = true) := propext ⟨fun h => by
  have h' : ∃ (s' : ByteArray) (c' : ByteArray), ([.str s, .str c] : List AV) = [.str s', .str c'] ∧ (s'.size ≤ 4611686018427387904 ∧ c'.size ≤ 1000000 ∧ asciiB c' = true) := h
  obtain ⟨s', c', e, h⟩ := h'
  simp only [List.cons.injEq, AV.dv.injEq, AV.dp.injEq, AV.fv.injEq, DV.d.injEq, DV.ag.injEq, D.int.injEq, D.str.injEq, D.bool.injEq, D.sl.injEq, true_and, and_true, intsDi_inj, rowsT_inj, rowsKi_inj] at e
  obtain ⟨rfl, rfl⟩ := e
  exact h, fun h => ⟨s, c, rfl, h⟩⟩
theorem onlyS_p  (s : ByteArray) (c : ByteArray) : (onlyS).post [.str s, .str c] = fun y => y = .b (onlyB s c) := funext fun y => propext ⟨fun h => by
  have h' : ∃ (s' : ByteArray) (c' : ByteArray), ([.str s, .str c] : List AV) = [.str s', .str c'] ∧ y = .b (onlyB s' c') := h
  obtain ⟨s', c', e, h⟩ := h'
  simp only [List.cons.injEq, AV.dv.injEq, AV.dp.injEq, AV.fv.injEq, DV.d.injEq, DV.ag.injEq, D.int.injEq, D.str.injEq, D.bool.injEq, D.sl.injEq, true_and, and_true, intsDi_inj, rowsT_inj, rowsKi_inj] at e
  obtain ⟨rfl, rfl⟩ := e
  exact h, fun h => ⟨s, c, rfl, h⟩⟩
theorem only_ctr {cx : Cx} (h : Seat cx) : Ctr cx 82 onlyS := by
  refine ctr_of (fn := Tryz.f82) (l := [.tmp 4]) (envL [(83, trimSp)]) [0, 1, 4] [] [] (envL_cons (trim_ctr h) (env0 h.hP)) ?_ (by rw [h.hP]; exact Tryz.func82) rfl (by kernel_rfl) rfl ?_ ?_
  · rw [h.hP]; exact ⟨_, Tryz.func82, by kernel_rfl, by kernel_rfl⟩
  · rintro xs ⟨s, c, rfl, h1, h2, h3⟩; exact ⟨_, s, c, rfl, rfl⟩
  · rintro xs ⟨s, c, rfl, h1, h2, h3⟩
    refine ⟨by rw [Tryz.ntmps82]; simp, ?_⟩
    simp only [go_sem, h.hP, List.cons_append, List.nil_append, Meets_e, Below_e, Prod.exists, exists_eq, exists_eq_left, exists_eq_left', exists_eq_right, exists_eq_right', exists_and_left, exists_and_right, Ob.arr.injEq, AV.own.injEq, AV.fv.injEq, onlyS_q, onlyS_p, onlyS_c, onlyS_f, trimSp_q, trimSp_p, trimSp_c, trimSp_f, str_nil, trim_nil, Tryz.ntmps82, Nat.reduceEqDiff, reduceCtorEq, Nat.reduceMul, Nat.reduceAdd, Nat.reduceSub, Nat.reduceDiv, Nat.reduceMod, Nat.reduceLeDiff, Nat.reduceLT, Nat.reduceBNe, Nat.reduceBEq, reduceIte, Int.reduceLE, Int.reduceLT, Int.reduceToNat, Int.reduceNeg, Int.reduceAdd, Int.reduceSub, Int.reduceMul, Int.reduceEq]
    exact ⟨h1, h2, h3, by cases onlyB s c <;> rfl⟩
theorem u8_all {p : UInt8 → Bool} (h : ((List.range 256).all fun n => p (UInt8.ofNat n)) = true) (c : UInt8) : p c = true := by
  rw [List.all_eq_true] at h
  have := h c.toNat (List.mem_range.2 (UInt8.toNat_lt c))
  rwa [UInt8.ofNat_toNat] at this
theorem u8_same {p q : UInt8 → Bool} (h : ((List.range 256).all fun n => p (UInt8.ofNat n) == q (UInt8.ofNat n)) = true) (c : UInt8) : p c = q c := by
  have := u8_all (p := fun c => p c == q c) h c
  simpa using this
theorem bl_all (s : ByteArray) (p : Int → Bool) : (bl s).all p = s.data.toList.all fun c => p (c.toNat : Int) := by
  unfold bl
  rw [List.all_map]; rfl
theorem only_all {c : ByteArray} {p : Int → Bool} (h : ((List.range 256).all fun n => c.data.toList.contains (UInt8.ofNat n) == p (((UInt8.ofNat n).toNat : Nat) : Int)) = true) (s : ByteArray) : onlyB s c = (bl s).all p := by
  rw [bl_all]
  unfold onlyB
  rw [funext (u8_same (p := fun b => c.data.toList.contains b) (q := fun b => p (b.toNat : Int)) h)]
theorem Key_ctr {cx : Cx} (h : Seat cx) : Ctr cx 65 (strB keyB) := by
  refine ctr_of (fn := Tryz.f65) (l := [.tmp 2]) (envL [(57, inS), (82, onlyS)]) [0, 2] [] [] (envL_cons (in_ctr h) (envL_cons (only_ctr h) (env0 h.hP))) ?_ (by rw [h.hP]; exact Tryz.func65) rfl (by kernel_rfl) rfl ?_ ?_
  · rw [h.hP]; exact ⟨_, Tryz.func65, by kernel_rfl, by kernel_rfl⟩
  · rintro xs ⟨s, rfl, hs⟩; exact ⟨_, s, rfl, rfl⟩
  · rintro xs ⟨s, rfl, hs⟩
    refine ⟨by rw [Tryz.ntmps65]; simp, ?_⟩
    simp only [go_sem, h.hP, List.cons_append, List.nil_append, Meets_e, Below_e, Prod.exists, exists_eq, exists_eq_left, exists_eq_left', exists_eq_right, exists_eq_right', exists_and_left, exists_and_right, Ob.arr.injEq, AV.own.injEq, AV.fv.injEq, strB_q, strB_p, strB_c, strB_f, inS_q, inS_p, inS_c, inS_f, onlyS_q, onlyS_p, onlyS_c, onlyS_f, Tryz.ntmps65, Nat.reduceEqDiff, reduceCtorEq, Nat.reduceMul, Nat.reduceAdd, Nat.reduceSub, Nat.reduceDiv, Nat.reduceMod, Nat.reduceLeDiff, Nat.reduceLT, Nat.reduceBNe, Nat.reduceBEq, reduceIte, Int.reduceLE, Int.reduceLT, Int.reduceToNat, Int.reduceNeg, Int.reduceAdd, Int.reduceSub, Int.reduceMul, Int.reduceEq]
    have e1 := only_all (c := ⟨#[97, 98, 99, 100, 101, 102, 103, 104, 105, 106, 107, 108, 109, 110, 111, 112, 113, 114, 115, 116, 117, 118, 119, 120, 121, 122]⟩) (p := smallC) (by decide +kernel) (s.extract 0 1)
    have e2 := only_all (c := ⟨#[97, 98, 99, 100, 101, 102, 103, 104, 105, 106, 107, 108, 109, 110, 111, 112, 113, 114, 115, 116, 117, 118, 119, 120, 121, 122, 48, 49, 50, 51, 52, 53, 54, 55, 56, 57, 45, 95]⟩) (p := keyC) (by decide +kernel) s
    have hx : (s.extract 0 1).size ≤ s.size := by rw [ByteArray.size_extract]; omega
    have e3 : 1 ≤ s.size → (bl (s.extract 0 1)).all smallC = smallC (bt s 0) := fun h1 => by
      have : bl (s.extract 0 1) = [bt s 0] := by
        have h2 : s.data.toList ≠ [] := fun e => by rw [← bl_length] at h1; unfold bl at h1; rw [e] at h1; simp at h1
        cases hd : s.data.toList with
        | nil => exact absurd hd h2
        | cons x r =>
          unfold bl bt
          rw [ByteArray.data_extract, Array.toList_extract, hd]
          simp
      rw [this]; simp
    rw [e1, e2]
    unfold keyB
    refine ⟨fun c1 => ?_, fun c1 => by rw [c1]; rfl⟩
    have h1 : 1 ≤ s.size := by unfold inB at c1; rw [decide_eq_true_eq] at c1; omega
    rw [c1, e3 h1]
    refine ⟨by omega, by omega, by decide +kernel, fun c2 => ⟨hs, by decide +kernel, by rw [c2]; rfl⟩, fun c2 => by rw [c2]; rfl⟩
end Go.Avc

/- Loops that look for the first error, and what the generators' lists hold: plain law. No condition. -/
set_option linter.unusedVariables false
set_option linter.unusedSimpArgs false
namespace Go.Avc
open Go Go.Proofs

/-- The first of some errors. -/
def firstI (n : Nat) (f : Nat → Int) : Int := match (List.range n).find? (fun i => decide (f i ≠ 0)) with
  | some i => f i
  | none => 0
theorem firstI_no {n : Nat} {f : Nat → Int} {i : Int} (h : ∀ j : Nat, (j : Int) < i → f j = 0) (hi : n ≤ i) : firstI n f = 0 := by
  unfold firstI
  rw [List.find?_eq_none.2]
  intro x hx
  simp [h x (by have := List.mem_range.1 hx; omega)]
theorem firstI_at {n : Nat} {f : Nat → Int} {i : Int} (h0 : 0 ≤ i) (h1 : i < n) (h : ∀ j : Nat, (j : Int) < i → f j = 0) (hf : f i.toNat ≠ 0) : firstI n f = f i.toNat := by
  unfold firstI
  obtain ⟨k, rfl⟩ : ∃ k : Nat, i = k := ⟨i.toNat, by omega⟩
  rw [Int.toNat_natCast] at hf ⊢
  have : (List.range n).find? (fun i => decide (f i ≠ 0)) = some k := by
    rw [List.find?_range_eq_some]
    refine ⟨by simpa using hf, List.mem_range.2 (by omega), fun j hj => by simp [h j (by omega)]⟩
  rw [this]
/-- The rounds of a loop that looks for the first error. -/
def Rounds (n : Nat) (f : Nat → Int) (i : Int) : Prop := 0 ≤ i ∧ i ≤ n ∧ ∀ j : Nat, (j : Int) < i → f j = 0
theorem Rounds.start {n : Nat} {f : Nat → Int} : Rounds n f 0 := ⟨by decide, Int.natCast_nonneg _, fun j hj => by omega⟩
theorem Rounds.use {n : Nat} {f : Nat → Int} {i : Int} (h : Rounds n f i) (hn : n ≤ 4611686018427387904) :
    0 ≤ i ∧ (i < n → f i.toNat = 0 → Rounds n f (IntKind.i64.wrap (i + 1))) ∧ (i < n → ((n : Int) - IntKind.i64.wrap (i + 1)).toNat < ((n : Int) - i).toNat) ∧
    (∀ e, i < n → f i.toNat = e → e ≠ 0 → firstI n f = e) ∧ (¬ i < n → firstI n f = 0) := by
  obtain ⟨j1, j2, j3⟩ := h
  refine ⟨j1, fun c hf => ?_, fun c => by rw [i64w (by omega) (by omega)]; omega, fun e c hf he => by subst hf; exact firstI_at j1 c j3 he, fun c => firstI_no j3 (by omega)⟩
  rw [i64w (by omega) (by omega)]
  refine ⟨by omega, by omega, fun j hj => ?_⟩
  by_cases e : (j : Int) = i
  · rw [← e, Int.toNat_natCast] at hf; exact hf
  · exact j3 j (by omega)
theorem any_first {α : Type} (l : List α) (d : α) (q : α → Bool) {e : Int} (he : e ≠ 0) : firstI l.length (fun i => if q (l.getD i d) = true then e else 0) = if l.any q = true then e else 0 := by
  by_cases h : l.any q = true
  · rw [if_pos h]
    have hne : ∃ i, i < l.length ∧ q (l.getD i d) = true := by
      obtain ⟨x, hx, hq⟩ := List.any_eq_true.1 h
      obtain ⟨i, hi, rfl⟩ := List.mem_iff_getElem.1 hx
      exact ⟨i, hi, by rw [List.getD_eq_getElem?_getD, List.getElem?_eq_getElem hi]; exact hq⟩
    unfold firstI
    cases hf : (List.range l.length).find? (fun i => decide ((if q (l.getD i d) = true then e else 0) ≠ 0)) with
    | none =>
      obtain ⟨i, hi, hq⟩ := hne
      have := List.find?_eq_none.1 hf i (List.mem_range.2 hi)
      simp only [decide_eq_true_eq] at this
      rw [if_pos hq] at this
      exact absurd he this
    | some i =>
      have := List.find?_some hf
      simp only [decide_eq_true_eq] at this
      split at this
      · rename_i hq; simp only [hq, if_true]
      · exact absurd rfl this
  · rw [if_neg h]
    refine firstI_no (i := l.length) (fun j hj => ?_) (by omega)
    rw [if_neg]
    intro hq
    have hj' : j < l.length := by omega
    rw [List.getD_eq_getElem?_getD, List.getElem?_eq_getElem hj'] at hq
    exact h (List.any_eq_true.2 ⟨_, List.getElem_mem hj', hq⟩)
theorem inB_iff {n lo hi : Int} : inB n lo hi = true ↔ lo ≤ n ∧ n ≤ hi := by unfold inB; exact decide_eq_true_iff
theorem okL_get {α : Type} {p : α → Prop} {l : List α} {d : α} (h : okL p l) (hd : p d) (i : Nat) : p (l.getD i d) := by
  rw [List.getD_eq_getElem?_getD]
  cases e : l[i]? with
  | none => exact hd
  | some x => exact h.2 x (List.mem_of_getElem? e)
theorem ne_ft {b : Bool} (h : b = true) : ¬ b = false := fun e => by rw [h] at e; cases e
theorem ne_tf {b : Bool} (h : b = false) : ¬ b = true := fun e => by rw [h] at e; cases e
def orE (a b : Int) : Int := if a ≠ 0 then a else b
theorem orE_l {a b : Int} (h : a ≠ 0) : orE a b = a := if_pos h
theorem orE_r {a b : Int} (h : a = 0) : orE a b = b := if_neg (fun e => e h)
theorem firstI_zero {n : Nat} {f : Nat → Int} (h : firstI n f = 0) (i : Nat) (hi : i < n) : f i = 0 := by
  unfold firstI at h
  cases hf : (List.range n).find? (fun i => decide (f i ≠ 0)) with
  | none =>
    have := List.find?_eq_none.1 hf i (List.mem_range.2 hi)
    simpa using this
  | some k =>
    rw [hf] at h
    have := List.find?_some hf
    simp only [decide_eq_true_eq] at this
    exact absurd h this
theorem orE_zero {a b : Int} (h : orE a b = 0) : a = 0 ∧ b = 0 := by
  unfold orE at h
  split at h
  · rename_i c; exact absurd h c
  · rename_i c; exact ⟨Decidable.not_not.1 c, h⟩
theorem isIn_le {x : Int} {l : List Int} (h : isIn x l) {b : Int} (hb : l.all (fun y => decide (-b ≤ y ∧ y ≤ b)) = true) : -b ≤ x ∧ x ≤ b := by
  have := List.all_eq_true.1 hb x h
  simpa using this
theorem isOf_ok {x : ByteArray} {l : List ByteArray} (h : isOf x l) (hb : l.all (fun y => decide (y.size ≤ 1000)) = true) : x.size ≤ 1000 := by
  have := List.all_eq_true.1 hb x h
  simpa using this
theorem okI_of {x : Int} {b : Int} (h : -b ≤ x ∧ x ≤ b) (hb : b ≤ 1125899906842624) : okI x := ⟨by omega, by omega⟩
theorem isIn_ok {x : Int} {l : List Int} (h : isIn x l) (hb : l.all (fun y => decide (-1125899906842624 ≤ y ∧ y ≤ 1125899906842624)) = true) : okI x := isIn_le h hb
theorem okL_app {α : Type} {p : α → Prop} {l : List α} {x : α} (h : ∀ y ∈ l, p y) (hx : p x) : ∀ y ∈ l ++ [x], p y := fun y hy => by
  rcases List.mem_append.1 hy with hy | hy
  · exact h y hy
  · rw [List.mem_singleton] at hy; rw [hy]; exact hx
theorem okL_mem {α : Type} {p : α → Prop} {l : List α} {x y : α} (hm : y ∈ l ++ [x]) (h : ∀ y ∈ l, p y) (hx : p x) : p y := okL_app h hx y hm
theorem okL_one {α : Type} {p : α → Prop} {x : α} (hx : p x) : okL p [x] := ⟨by simp, fun y hy => by rw [List.mem_singleton] at hy; rw [hy]; exact hx⟩
theorem okS_of {s : ByteArray} (h : s.size ≤ 1000) : okS s := by unfold okS; omega
theorem odd_ok {q : Int} (h1 : -1099511627776 ≤ q) (h2 : q ≤ 1099511627776) : okI q := ⟨by omega, by omega⟩
theorem all_get {α : Type} {p : α → Prop} {l : List α} {d : α} (h : ∀ x ∈ l, p x) (hd : p d) (i : Nat) : p (l.getD i d) := by
  rw [List.getD_eq_getElem?_getD]
  cases e : l[i]? with
  | none => exact hd
  | some x => exact h x (List.mem_of_getElem? e)
def okIB (l : List Int) : Bool := decide (l.length ≤ 1048576) && l.all fun y => decide (-1125899906842624 ≤ y ∧ y ≤ 1125899906842624)
theorem okLI_of {l : List Int} (h : okIB l = true) : okL okI l := by
  unfold okIB at h
  rw [Bool.and_eq_true, decide_eq_true_eq, List.all_eq_true] at h
  exact ⟨h.1, fun x hx => by have := h.2 x hx; unfold okI; simpa using this⟩
def okSB (l : List ByteArray) : Bool := decide (l.length ≤ 1048576) && l.all fun y => decide (y.size ≤ 1000)
theorem okLS_of {l : List ByteArray} (h : okSB l = true) : okL okS l := by
  unfold okSB at h
  rw [Bool.and_eq_true, decide_eq_true_eq, List.all_eq_true] at h
  exact ⟨h.1, fun x hx => okS_of (by simpa using h.2 x hx)⟩
theorem okLI_lit {ls : List (List Int)} (h : ls.all okIB = true) (i : Nat) : okL okI (ls.getD i []) := all_get (p := okL okI) (fun x hx => okLI_of (List.all_eq_true.1 h x hx)) (okL_z _) i
theorem okLS_lit {ls : List (List ByteArray)} (h : ls.all okSB = true) (i : Nat) : okL okS (ls.getD i []) := all_get (p := okL okS) (fun x hx => okLS_of (List.all_eq_true.1 h x hx)) (okL_z _) i
theorem okL_snoc {α : Type} {p : α → Prop} {l : List α} {x : α} (h : ∀ y ∈ l, p y) (hl : (l.length : Int) ≤ 1000) (hx : p x) : okL p (l ++ [x]) := ⟨by rw [List.length_append, List.length_singleton]; omega, okL_app h hx⟩
end Go.Avc

/- Code points and distances of strings: the program's functions: their contracts. No condition. -/
set_option linter.unusedVariables false
set_option linter.unusedSimpArgs false
set_option maxRecDepth 100000
namespace Go.Avc
open Go Go.Proofs
def ptsS (k : IntKind) : Spec where
  pre xs := ∃ s : ByteArray, xs = [.str s] ∧ s.size ≤ 1073741824
  post xs r := ∃ s : ByteArray, xs = [.str s] ∧ r = .sl (rowsK k (pts s))
  cost _ := 0
  fresh := true
def ptsSf (p : ByteArray × List Int × Nat) : Sh := ⟨[(0, .str p.1), (3, .own 3)], [(3, .arr 21 1 (rowsK .i32 p.2.1))], 0⟩
def ptsJ (s : ByteArray) (p : ByteArray × List Int × Nat) : Prop := p.2.1.length + p.1.size ≤ s.size ∧ p.1.size ≤ p.2.2 ∧ p.2.1 ++ ptsL p.2.2 p.1 = pts s
def rptsSf (p : ByteArray × List Int × Nat) : Sh := ⟨[(0, .str p.1), (3, .own 3)], [(3, .arr 3 1 (rowsK .i64 p.2.1))], 0⟩
theorem rpts_ctr {cx : Cx} (h : Seat cx) (hU : Utf8 cx) : Ctr cx 199 (ptsS .i64) := by
  refine ctr_of (fn := Tryz.f199) (l := [.tmp 2]) (envL [(180, decS)]) [0, 2, 3, 4, 5, 7, 18] [] [] (envL_cons (dec_ctr h hU) (env0 h.hP)) ?_ (by rw [h.hP]; exact Tryz.func199) rfl (by kernel_rfl) rfl ?_ ?_
  · rw [h.hP]; exact ⟨_, Tryz.func199, by kernel_rfl, by kernel_rfl⟩
  · rintro xs ⟨s, rfl, hs⟩; exact ⟨_, s, rfl, rfl⟩
  · rintro xs ⟨s, rfl, hs⟩
    refine ⟨by rw [Tryz.ntmps199]; simp, ?_⟩
    simp only [go_sem, h.hP, ptsS, decS, Tryz.ntmps199, Nat.reduceEqDiff, reduceCtorEq, Nat.reduceMul, Nat.reduceAdd, Nat.reduceSub, Nat.reduceDiv, Nat.reduceMod, Nat.reduceLeDiff, Nat.reduceLT, Nat.reduceBNe, Nat.reduceBEq, reduceIte, Int.reduceLE, Int.reduceLT, Int.reduceToNat, Int.reduceNeg, Int.reduceAdd, Int.reduceSub, Int.reduceMul, Int.reduceEq]
    refine vc_loop _ rptsSf (ptsJ s) (fun p => p.1.size) [(3, 3, 1)] ?_ ?_
    · refine meets_mk _ (s, [], s.size) ⟨by show 0 + s.size ≤ s.size; omega, Nat.le_refl _, rfl⟩ ?_
      simp only [go_sem, h.hP, rptsSf, Tryz.ntmps199, Nat.reduceEqDiff, reduceCtorEq, Nat.reduceMul, Nat.reduceAdd, Nat.reduceSub, Nat.reduceDiv, Nat.reduceMod, Nat.reduceLeDiff, Nat.reduceLT, Nat.reduceBNe, Nat.reduceBEq, reduceIte, Int.reduceLE, Int.reduceLT, Int.reduceToNat, Int.reduceNeg, Int.reduceAdd, Int.reduceSub, Int.reduceMul, Int.reduceEq]
      rfl
    · rintro ⟨t, acc, k⟩ ⟨j1, j2, j3⟩
      simp only at j1 j2 j3
      simp only [go_sem, h.hP, rptsSf, ptsS, decS, str_nil, Tryz.ntmps199, Nat.reduceEqDiff, reduceCtorEq, Nat.reduceMul, Nat.reduceAdd, Nat.reduceSub, Nat.reduceDiv, Nat.reduceMod, Nat.reduceLeDiff, Nat.reduceLT, Nat.reduceBNe, Nat.reduceBEq, reduceIte, Int.reduceLE, Int.reduceLT, Int.reduceToNat, Int.reduceNeg, Int.reduceAdd, Int.reduceSub, Int.reduceMul, Int.reduceEq]
      simp only [rowsK_flat, rowsK_len, rowsK_one, Bool.true_eq_false, if_false, D.sl.injEq, AV.dv.injEq, DV.d.injEq]
      have hr := bt_range t 0
      have hw : t.size ≠ 0 → 1 ≤ wid t ∧ wid t ≤ t.size ∧ (Lib.decodeGo t).1 ≤ 1114111 := wid_ge
      have hx : (t.extract (wid t) t.size).size = t.size - wid t := by rw [ByteArray.size_extract]; omega
      have hb : IntKind.i64.wrap (-1 - IntKind.i64.wrap (bt t 0)) = -1 - bt t 0 := by rw [i64w (n := bt t 0) (by omega) (by omega), i64w (by omega) (by omega)]
      have hd : t.size ≠ 0 → IntKind.i64.wrap ((Lib.decodeGo t).1 : Int) = ((Lib.decodeGo t).1 : Int) := fun hne => i64w (by omega) (by have := hw hne; omega)
      have key : t.size ≠ 0 → ∃ k', k = k' + 1 ∧ (acc ++ [ptOf t]) ++ ptsL k' (t.extract (wid t) t.size) = pts s := fun hne => by
        obtain ⟨k', rfl, hst⟩ := ptsL_step hne j2
        rw [hst] at j3
        exact ⟨k', rfl, by rw [List.append_assoc]; exact j3⟩
      have leaf : ∀ c : Int, t.size ≠ 0 → c = ptOf t → ∀ σ, At 35 [(3, 3, 1)] (rptsSf (t.extract (wid t) t.size, acc ++ [c], k - 1)) σ → Below 35 [(3, 3, 1)] rptsSf (ptsJ s) (fun p => p.1.size) t.size σ := fun c hne hc σ hσ => by
        obtain ⟨k', rfl, hk⟩ := key hne
        have h1 := hw hne
        refine below_mk _ _ ⟨?_, ?_, ?_⟩ ?_ hσ
        · show (acc ++ [c]).length + (t.extract (wid t) t.size).size ≤ s.size
          rw [List.length_append, List.length_singleton]; omega
        · show (t.extract (wid t) t.size).size ≤ k' + 1 - 1; omega
        · show (acc ++ [c]) ++ ptsL k' _ = _
          rw [hc]; exact hk
        · show (t.extract (wid t) t.size).size < t.size; omega
      have hwd : (Lib.decodeGo t).2 = wid t := rfl
      rw [hb, hwd]
      clear key
      refine ⟨fun hne => ?_, fun he => ?_⟩
      · have h1 := hw hne
        rw [hd hne]
        clear hd
        refine ⟨fun c1 => ⟨fun c2 => ?_, fun c2 => ?_⟩, fun c1 => ?_⟩
        · refine ⟨by omega, by omega, by omega, by omega, by omega, by omega, leaf (-1 - bt t 0) hne ?_ _ ?_⟩
          · unfold ptOf; rw [if_pos ⟨c1, c2⟩]
          · simp only [go_sem, h.hP, rptsSf, Tryz.ntmps199, Nat.reduceEqDiff, reduceCtorEq, Nat.reduceMul, Nat.reduceAdd, Nat.reduceSub, Nat.reduceDiv, Nat.reduceMod, Nat.reduceLeDiff, Nat.reduceLT, Nat.reduceBNe, Nat.reduceBEq, reduceIte, Int.reduceLE, Int.reduceLT, Int.reduceToNat, Int.reduceNeg, Int.reduceAdd, Int.reduceSub, Int.reduceMul, Int.reduceEq]
            rw [rowsK_app]
        · refine ⟨by omega, by omega, by omega, by omega, by omega, leaf _ hne (?_ : ((Lib.decodeGo t).1 : Int) = _) _ ?_⟩
          · unfold ptOf; rw [if_neg (fun e => c2 e.2)]
          · simp only [go_sem, h.hP, rptsSf, Tryz.ntmps199, Nat.reduceEqDiff, reduceCtorEq, Nat.reduceMul, Nat.reduceAdd, Nat.reduceSub, Nat.reduceDiv, Nat.reduceMod, Nat.reduceLeDiff, Nat.reduceLT, Nat.reduceBNe, Nat.reduceBEq, reduceIte, Int.reduceLE, Int.reduceLT, Int.reduceToNat, Int.reduceNeg, Int.reduceAdd, Int.reduceSub, Int.reduceMul, Int.reduceEq]
            rw [rowsK_app]
        · refine ⟨by omega, by omega, by omega, by omega, by omega, leaf _ hne (?_ : ((Lib.decodeGo t).1 : Int) = _) _ ?_⟩
          · unfold ptOf; rw [if_neg (fun e => c1 e.1)]
          · simp only [go_sem, h.hP, rptsSf, Tryz.ntmps199, Nat.reduceEqDiff, reduceCtorEq, Nat.reduceMul, Nat.reduceAdd, Nat.reduceSub, Nat.reduceDiv, Nat.reduceMod, Nat.reduceLeDiff, Nat.reduceLT, Nat.reduceBNe, Nat.reduceBEq, reduceIte, Int.reduceLE, Int.reduceLT, Int.reduceToNat, Int.reduceNeg, Int.reduceAdd, Int.reduceSub, Int.reduceMul, Int.reduceEq]
            rw [rowsK_app]
      · rw [ptsL_nil he, List.append_nil] at j3
        rw [j3]
end Go.Avc

/- The program's within, in package event: its contract. No condition. -/
set_option linter.unusedVariables false
set_option linter.unusedSimpArgs false
namespace Go.Avc
open Go Go.Proofs

theorem ewithin_ctr {cx : Cx} (h : Seat cx) : Ctr cx 56 inS := by
  refine ctr_of (fn := Tryz.f56) (l := [.tmp 6]) (envL []) [0, 1, 2, 6] [] [] (env0 h.hP) ?_ (by rw [h.hP]; exact Tryz.func56) rfl (by kernel_rfl) rfl ?_ ?_
  · rw [h.hP]; exact ⟨_, Tryz.func56, by kernel_rfl, by kernel_rfl⟩
  · rintro xs ⟨n, a, b, rfl⟩; exact ⟨_, n, a, b, rfl, rfl⟩
  · rintro xs ⟨n, a, b, rfl⟩
    refine ⟨by rw [Tryz.ntmps56]; simp, ?_⟩
    simp only [go_sem, h.hP, List.cons_append, List.nil_append, Meets_e, Below_e, Prod.exists, exists_eq, exists_eq_left, exists_eq_left', exists_eq_right, exists_eq_right', exists_and_left, exists_and_right, Ob.arr.injEq, AV.own.injEq, AV.fv.injEq, inS_q, inS_p, inS_c, inS_f, Tryz.ntmps56, Nat.reduceEqDiff, reduceCtorEq, Nat.reduceMul, Nat.reduceAdd, Nat.reduceSub, Nat.reduceDiv, Nat.reduceMod, Nat.reduceLeDiff, Nat.reduceLT, Nat.reduceBNe, Nat.reduceBEq, reduceIte, Int.reduceLE, Int.reduceLT, Int.reduceToNat, Int.reduceNeg, Int.reduceAdd, Int.reduceSub, Int.reduceMul, Int.reduceEq]
    grind [inB]
end Go.Avc

/- Functions that ask of one captured variable: their contracts, as functions and as function values. No condition. -/
set_option linter.unusedVariables false
set_option linter.unusedSimpArgs false
set_option maxRecDepth 100000
namespace Go.Avc
open Go Go.Proofs

/-! ### Functions that ask of one or two variables -/
def c1S {α : Type} (row : α → List D) (ok : α → Prop) (F : α → Int) : Spec where
  pre xs := ∃ a, xs = [.dp (row a)] ∧ ok a
  post xs r := ∃ a, xs = [.dp (row a)] ∧ r = .i (F a)
  cost _ := 0
  fresh := true
def c1Φ {α : Type} (row : α → List D) (ok : α → Prop) (F : α → Int) (caps : List (List D)) : FSpec where
  pre xs := ∃ a, caps = [row a] ∧ xs = [] ∧ ok a
  post xs r := ∃ a, caps = [row a] ∧ xs = [] ∧ r = .d (.int .i64 (F a))
section
variable {α : Type} {row : α → List D} {ok : α → Prop} {F : α → Int}
theorem c1_of (inj : ∀ {a b}, row a = row b → a = b) {cx : Cx} {fn : FuncId} (h : Ctr cx fn (c1S row ok F)) (caps : List (List D)) : Ctr cx fn (clo (c1Φ row ok F) caps) := by
  refine h.weaken (fun xs hx => ?_) (fun xs r hx hr => ?_) (fun _ => Nat.le_refl _) rfl
  · obtain ⟨ys, rfl, a, rfl, rfl, h1⟩ := hx
    exact ⟨a, rfl, h1⟩
  · obtain ⟨ys, rfl, a, rfl, rfl, h1⟩ := hx
    obtain ⟨b, q, rfl⟩ := hr
    simp only [List.map_cons, List.map_nil, List.nil_append, List.cons.injEq, AV.dp.injEq, and_true] at q
    obtain rfl := inj q
    exact ⟨_, _, rfl, rfl, a, rfl, rfl, rfl⟩
theorem c1_pre (inj : ∀ {a b}, row a = row b → a = b) (a : α) : (c1Φ row ok F [row a]).pre [] = ok a := propext ⟨fun ⟨b, q, _, h⟩ => by
  simp only [List.cons.injEq, and_true] at q
  obtain rfl := inj q
  exact h, fun h => ⟨a, rfl, rfl, h⟩⟩
theorem c1_post (inj : ∀ {a b}, row a = row b → a = b) (a : α) (y : DV) : (c1Φ row ok F [row a]).post [] y = (y = .d (.int .i64 (F a))) := propext ⟨fun ⟨b, q, _, h⟩ => by
  simp only [List.cons.injEq, and_true] at q
  obtain rfl := inj q
  exact h, fun h => ⟨a, rfl, rfl, h⟩⟩
theorem c1S_q (a : α) : (c1S row ok F).pre [.dp (row a)] = ((∃ b, [AV.dp (row a)] = [AV.dp (row b)] ∧ ok b)) := rfl
theorem c1S_c (xs : List AV) : (c1S row ok F).cost xs = 0 := nr rfl
theorem c1S_f : (c1S row ok F).fresh = true := nr rfl
theorem c1S_p (inj : ∀ {a b}, row a = row b → a = b) (a : α) : (c1S row ok F).post [.dp (row a)] = fun r => r = .i (F a) := funext fun r => propext ⟨fun ⟨b, q, h⟩ => by
  simp only [List.cons.injEq, AV.dp.injEq, and_true] at q
  obtain rfl := inj q
  exact h, fun h => ⟨a, rfl, h⟩⟩
end
end Go.Avc

/- slices.Equal at sessions. No condition. -/
set_option linter.unusedVariables false
set_option linter.unusedSimpArgs false
set_option maxRecDepth 100000
namespace Go.Avc
open Go Go.Proofs
open Classical in
noncomputable def eqSeB (l m : List TSession) : Bool := decide (l = m)
open Classical in
theorem eqSeB_t {l m : List TSession} (h : l = m) : eqSeB l m = true := by unfold eqSeB; exact decide_eq_true h
open Classical in
theorem eqSeB_f {l m : List TSession} (h : ¬ l = m) : eqSeB l m = false := by unfold eqSeB; exact decide_eq_false h
def eqSeS  : Spec where
  pre xs := ∃ (l : List TSession) (m : List TSession), xs = [.sl (TSession.rows l), .sl (TSession.rows m)] ∧ (l.length ≤ 1048576)
  post xs y := ∃ (l : List TSession) (m : List TSession), xs = [.sl (TSession.rows l), .sl (TSession.rows m)] ∧ y = .b (eqSeB l m)
  cost _ := 0
  fresh := true
theorem eqSeS_c  (xs : List AV) : (eqSeS).cost xs = 0 := nr rfl
theorem eqSeS_f  : (eqSeS).fresh = true := nr rfl
theorem eqSeS_q  (l : List TSession) (m : List TSession) : (eqSeS).pre [.sl (TSession.rows l), .sl (TSession.rows m)] = (l.length ≤ 1048576) := propext ⟨fun h => by
  have h' : ∃ (l' : List TSession) (m' : List TSession), ([.sl (TSession.rows l), .sl (TSession.rows m)] : List AV) = [.sl (TSession.rows l'), .sl (TSession.rows m')] ∧ (l'.length ≤ 1048576) := h
  obtain ⟨l', m', e, h⟩ := h'
  simp only [List.cons.injEq, AV.dv.injEq, AV.dp.injEq, AV.fv.injEq, DV.d.injEq, DV.ag.injEq, D.int.injEq, D.str.injEq, D.bool.injEq, D.sl.injEq, true_and, and_true, intsDi_inj, rowsT_inj, rowsKi_inj, TSession.row_inj, TSession.rows_inj, TSession.row_inj, TSession.rows_inj] at e
  obtain ⟨rfl, rfl⟩ := e
  exact h, fun h => ⟨l, m, rfl, h⟩⟩
theorem eqSeS_p  (l : List TSession) (m : List TSession) : (eqSeS).post [.sl (TSession.rows l), .sl (TSession.rows m)] = fun y => y = .b (eqSeB l m) := funext fun y => propext ⟨fun h => by
  have h' : ∃ (l' : List TSession) (m' : List TSession), ([.sl (TSession.rows l), .sl (TSession.rows m)] : List AV) = [.sl (TSession.rows l'), .sl (TSession.rows m')] ∧ y = .b (eqSeB l' m') := h
  obtain ⟨l', m', e, h⟩ := h'
  simp only [List.cons.injEq, AV.dv.injEq, AV.dp.injEq, AV.fv.injEq, DV.d.injEq, DV.ag.injEq, D.int.injEq, D.str.injEq, D.bool.injEq, D.sl.injEq, true_and, and_true, intsDi_inj, rowsT_inj, rowsKi_inj, TSession.row_inj, TSession.rows_inj, TSession.row_inj, TSession.rows_inj] at e
  obtain ⟨rfl, rfl⟩ := e
  exact h, fun h => ⟨l, m, rfl, h⟩⟩
set_option maxHeartbeats 4000000 in
theorem eqSe_ctr {cx : Cx} (h : Seat cx) : Ctr cx 17 eqSeS := by
  refine ctr_of (fn := Tryz.f17) (l := [.tmp 4]) (envL []) [0, 1, 4, 5, 10, 12, 13, 14, 24] [] [] (env0 h.hP) ?_ (by rw [h.hP]; exact Tryz.func17) rfl (by kernel_rfl) rfl ?_ ?_
  · rw [h.hP]; exact ⟨_, Tryz.func17, by kernel_rfl, by kernel_rfl⟩
  · rintro xs ⟨l, m, rfl, h1⟩; exact ⟨_, l, m, rfl, rfl⟩
  · rintro xs ⟨l, m, rfl, h1⟩
    refine ⟨by rw [Tryz.ntmps17]; simp, ?_⟩
    simp only [go_sem, h.hP, List.cons_append, List.nil_append, Meets_e, Below_e, Prod.exists, exists_eq, exists_eq_left, exists_eq_left', exists_eq_right, exists_eq_right', exists_and_left, exists_and_right, Ob.arr.injEq, AV.own.injEq, AV.fv.injEq, eqSeS_q, eqSeS_p, eqSeS_c, eqSeS_f, TSession.len, Tryz.ntmps17, Nat.reduceEqDiff, reduceCtorEq, Nat.reduceMul, Nat.reduceAdd, Nat.reduceSub, Nat.reduceDiv, Nat.reduceMod, Nat.reduceLeDiff, Nat.reduceLT, Nat.reduceBNe, Nat.reduceBEq, reduceIte, Int.reduceLE, Int.reduceLT, Int.reduceToNat, Int.reduceNeg, Int.reduceAdd, Int.reduceSub, Int.reduceMul, Int.reduceEq]
    refine ⟨fun c => (eqSeB_f (fun e => c (by rw [e]))).symm, fun c => ?_⟩
    refine vc_loopS (Int) (fun (i : Int) => [(13, .i i)]) [] (fun (i : Int) => []) (fun (i : Int) => []) (fun (i : Int) => 0) (fun (i : Int) => 0 ≤ i ∧ i ≤ l.length ∧ ∀ j : Nat, (j : Int) < i → l.getD j TSession.z = m.getD j TSession.z) (fun (i : Int) => (l.length - i).toNat) [] ?_ ?_
    · simp only [go_sem, h.hP, List.cons_append, List.nil_append, Meets_e, Below_e, Prod.exists, exists_eq, exists_eq_left, exists_eq_left', exists_eq_right, exists_eq_right', exists_and_left, exists_and_right, Ob.arr.injEq, AV.own.injEq, AV.fv.injEq, Tryz.ntmps17, Nat.reduceEqDiff, reduceCtorEq, Nat.reduceMul, Nat.reduceAdd, Nat.reduceSub, Nat.reduceDiv, Nat.reduceMod, Nat.reduceLeDiff, Nat.reduceLT, Nat.reduceBNe, Nat.reduceBEq, reduceIte, Int.reduceLE, Int.reduceLT, Int.reduceToNat, Int.reduceNeg, Int.reduceAdd, Int.reduceSub, Int.reduceMul, Int.reduceEq]
      exact ⟨by omega, fun j hj => by omega⟩
    · rintro i ⟨i0, i1, hj⟩
      have hw : i < l.length → IntKind.i64.wrap (i + 1) = i + 1 := fun _ => i64w (by omega) (by omega)
      simp only [go_sem, h.hP, List.cons_append, List.nil_append, Meets_e, Below_e, Prod.exists, exists_eq, exists_eq_left, exists_eq_left', exists_eq_right, exists_eq_right', exists_and_left, exists_and_right, Ob.arr.injEq, AV.own.injEq, AV.fv.injEq, eqSeS_q, eqSeS_p, eqSeS_c, eqSeS_f, TSession.len, TSession.get, TSession.row, Tryz.ntmps17, Nat.reduceEqDiff, reduceCtorEq, Nat.reduceMul, Nat.reduceAdd, Nat.reduceSub, Nat.reduceDiv, Nat.reduceMod, Nat.reduceLeDiff, Nat.reduceLT, Nat.reduceBNe, Nat.reduceBEq, reduceIte, Int.reduceLE, Int.reduceLT, Int.reduceToNat, Int.reduceNeg, Int.reduceAdd, Int.reduceSub, Int.reduceMul, Int.reduceEq]
      refine ⟨fun z => ⟨i0, z, i0, by omega, fun f => (eqSeB_f fun e => ?_).symm, fun ⟨f1, f2, f3, f4⟩ => ?_⟩, fun z => (eqSeB_t ?_).symm⟩
      · rw [e] at f
        simp at f
      · rw [hw z]
        refine ⟨by omega, by omega, fun j hj2 => ?_, by omega⟩
        by_cases e : (j : Int) = i
        · have : i.toNat = j := by omega
          rw [← this]
          apply TSession.inj
          unfold TSession.row
          rw [f1, f2, f3, f4]
        · exact hj j (by omega)
      · apply List.ext_getElem (by omega)
        intro j h2 h3
        have := hj j (by omega)
        rwa [List.getD_eq_getElem?_getD, List.getD_eq_getElem?_getD, List.getElem?_eq_getElem h2, List.getElem?_eq_getElem h3] at this
end Go.Avc

/- Changed: its contract. No condition. -/
set_option linter.unusedVariables false
set_option linter.unusedSimpArgs false
set_option maxRecDepth 100000
namespace Go.Avc
open Go Go.Proofs

theorem enc_le (n : Int) : (Utf8.encode n).size ≤ 4 := by
  unfold Utf8.encode
  simp only
  generalize (if Utf8.valid n = true then n.toNat else Utf8.runeError) = c
  split
  · exact (by decide : (1 : Nat) ≤ 4)
  · split
    · exact (by decide : (2 : Nat) ≤ 4)
    · split
      · exact (by decide : (3 : Nat) ≤ 4)
      · exact (by decide : (4 : Nat) ≤ 4)
def changedS : Spec where
  pre xs := ∃ t u : ByteArray, xs = [.st, .str t, .str u] ∧ t.size ≤ 1073741824 ∧ u.size ≤ 1073741824
  post xs r := ∃ t u v : ByteArray, xs = [.st, .str t, .str u] ∧ v.size ≤ t.size + u.size + 4 ∧ r = .str v
  cost _ := 3
  fresh := true
theorem changed_ctr {cx : Cx} (h : Seat cx) : Ctr cx 126 changedS := by
  refine ctr_of (fn := Tryz.f126) (l := [.tmp 6]) (envL [(55, nextS)]) [0, 1, 2, 6, 7, 8, 14, 27, 28, 42] [] [] (envL_cons (next_ctr cx h.hP h.hS) (env0 h.hP)) ?_ (by rw [h.hP]; exact Tryz.func126) rfl (by kernel_rfl) rfl ?_ ?_
  · rw [h.hP]; exact ⟨_, Tryz.func126, by kernel_rfl, by kernel_rfl⟩
  · rintro xs ⟨t, u, rfl, h1, h2⟩; exact ⟨_, t, u, ⟨#[]⟩, rfl, Nat.zero_le _, rfl⟩
  · rintro xs ⟨t, u, rfl, h1, h2⟩
    refine ⟨by rw [Tryz.ntmps126]; simp, ?_⟩
    simp only [go_sem, h.hP, changedS, nextS, str_nil, Tryz.ntmps126, Nat.reduceEqDiff, reduceCtorEq, Nat.reduceMul, Nat.reduceAdd, Nat.reduceSub, Nat.reduceDiv, Nat.reduceMod, Nat.reduceLeDiff, Nat.reduceLT, Nat.reduceBNe, Nat.reduceBEq, reduceIte, Int.reduceLE, Int.reduceLT, Int.reduceToNat, Int.reduceNeg, Int.reduceAdd, Int.reduceSub, Int.reduceMul, Int.reduceEq]
    refine ⟨fun c1 => ⟨fun c2 => by omega, fun c2 => ⟨by omega, fun a h3 h4 => ⟨by omega, fun b h5 h6 => ⟨by omega, by omega, fun q h7 h8 => ?_⟩⟩⟩⟩, fun c1 => by omega⟩
    obtain ⟨ha0, ha1⟩ := h3 (by omega)
    have he := enc_le (IntKind.i32.wrap (bt u b))
    rw [i64w (n := a + 1) (by omega) (by omega)]
    simp only [ByteArray.size_extract]
    clear h3 h4 h5 h6
    (repeat' (first | with_reducible apply And.intro | with_reducible intro)) <;> omega
end Go.Avc

/- The generators of values and fields: their contracts. No condition. -/
set_option linter.unusedVariables false
set_option linter.unusedSimpArgs false
set_option maxRecDepth 100000
namespace Go.Avc
open Go Go.Proofs

def repL (s : ByteArray) (c : Int) : ByteArray := ⟨(Lib.repeatL s.data.toList c.toNat).toArray⟩
theorem repL_size (s : ByteArray) {c : Int} (h : 0 ≤ c) : ((repL s c).size : Int) = c * s.size := by
  show (((Lib.repeatL s.data.toList c.toNat).toArray.size : Nat) : Int) = _
  rw [List.size_toArray, Lib.repeatL_length, Array.length_toList, Int.natCast_mul, Int.toNat_of_nonneg h]
  rfl
def rep2S  : Spec where
  pre xs := ∃ (s : ByteArray) (c : Int), xs = [.str s, .i c] ∧ (0 ≤ c ∧ c ≤ 1000 ∧ s.size ≤ 1000000)
  post xs y := ∃ (s : ByteArray) (c : Int), xs = [.str s, .i c] ∧ y = .str (repL s c)
  cost _ := 0
  fresh := true
theorem rep2S_c  (xs : List AV) : (rep2S).cost xs = 0 := nr rfl
theorem rep2S_f  : (rep2S).fresh = true := nr rfl
theorem rep2S_q  (s : ByteArray) (c : Int) : (rep2S).pre [.str s, .i c] = (0 ≤ c ∧ c ≤ 1000 ∧ s.size ≤ 1000000) := propext ⟨fun h => by
  have h' : ∃ (s' : ByteArray) (c' : Int), ([.str s, .i c] : List AV) = [.str s', .i c'] ∧ (0 ≤ c' ∧ c' ≤ 1000 ∧ s'.size ≤ 1000000) := h
  obtain ⟨s', c', e, h⟩ := h'
  simp only [List.cons.injEq, AV.dv.injEq, AV.dp.injEq, AV.fv.injEq, DV.d.injEq, DV.ag.injEq, D.int.injEq, D.str.injEq, D.bool.injEq, D.sl.injEq, true_and, and_true, intsDi_inj, rowsT_inj, rowsKi_inj] at e
  obtain ⟨rfl, rfl⟩ := e
  exact h, fun h => ⟨s, c, rfl, h⟩⟩
theorem rep2S_p  (s : ByteArray) (c : Int) : (rep2S).post [.str s, .i c] = fun y => y = .str (repL s c) := funext fun y => propext ⟨fun h => by
  have h' : ∃ (s' : ByteArray) (c' : Int), ([.str s, .i c] : List AV) = [.str s', .i c'] ∧ y = .str (repL s' c') := h
  obtain ⟨s', c', e, h⟩ := h'
  simp only [List.cons.injEq, AV.dv.injEq, AV.dp.injEq, AV.fv.injEq, DV.d.injEq, DV.ag.injEq, D.int.injEq, D.str.injEq, D.bool.injEq, D.sl.injEq, true_and, and_true, intsDi_inj, rowsT_inj, rowsKi_inj] at e
  obtain ⟨rfl, rfl⟩ := e
  exact h, fun h => ⟨s, c, rfl, h⟩⟩
theorem rep2_ctr {cx : Cx} (h : Seat cx) : Ctr cx 125 rep2S := by
  refine ctr_flat (by rw [h.hP]; exact ⟨_, Tryz.func125, by kernel_rfl, by kernel_rfl⟩) (fun _ => rfl) ?_
  rintro xs ⟨s, c, rfl, h1, h2, h3⟩
  obtain ⟨n, rfl⟩ : ∃ n : Nat, c = n := ⟨c.toNat, by omega⟩
  refine ⟨_, .str (repL s n), _, rfl, ⟨s, n, rfl, rfl⟩, rfl, fun w hw => ?_⟩
  rw [h.hP]
  exact Tryz.strings_Repeat s n w (by omega) (Nat.le_trans (Nat.mul_le_mul h3 (show n ≤ 1000 by omega)) (by decide))
theorem exV {k n : Int} {s : ByteArray} (h1 : okI k) (h2 : okS s) (h3 : okI n) : ∃ v : TValue, v.ok ∧ [D.int .i64 k, D.str s, D.int .i64 n] = v.row := ⟨⟨k, s, n⟩, ⟨h1, h2, h3⟩, rfl⟩
def valueG : Spec where
  pre xs := xs = [.st]
  post xs y := ∃ v : TValue, v.ok ∧ y = .dv (.ag v.row)
  cost _ := 6
  fresh := false
set_option maxHeartbeats 8000000 in
theorem Value_ctr {cx : Cx} (h : Seat cx) : Ctr cx 160 valueG := by
  refine ctr_of (fn := Tryz.f160) (l := [.cell 2 97]) (envL [(55, nextS), (12, pickS), (26, flipS), (61, oneS), (125, rep2S)]) [0, 2, 3, 9, 14, 20, 26, 32, 34, 41, 47] [] [] (envL_cons (next_ctr cx h.hP h.hS) (envL_cons (pick_ctr cx h.hP h.hS) (envL_cons (flip_ctr cx h.hP h.hS) (envL_cons (one_ctr h) (envL_cons (rep2_ctr h) (env0 h.hP)))))) ?_ (by rw [h.hP]; exact Tryz.func160) rfl (by kernel_rfl) rfl ?_ ?_
  · rw [h.hP]; exact ⟨_, Tryz.func160, by kernel_rfl, by kernel_rfl⟩
  · rintro xs rfl; exact ⟨_, TValue.z, TValue.z_ok, rfl⟩
  · rintro xs rfl
    refine ⟨by rw [Tryz.ntmps160]; simp, ?_⟩
    simp only [go_sem, h.hP, List.cons_append, List.nil_append, Meets_e, Below_e, Prod.exists, exists_eq, exists_eq_left, exists_eq_left', exists_eq_right, exists_eq_right', exists_and_left, exists_and_right, Ob.arr.injEq, AV.own.injEq, AV.fv.injEq, valueG, nextS_q, nextS_p, nextS_c, nextS_f, pickS_q, pickS_p, pickS_c, pickS_f, flipS_q, flipS_p, flipS_c, flipS_f, oneS_q, oneS_p, oneS_c, oneS_f, rep2S_q, rep2S_p, rep2S_c, rep2S_f, ints1, intsc, strs1, strsc, Tryz.ntmps160, Nat.reduceEqDiff, reduceCtorEq, Nat.reduceMul, Nat.reduceAdd, Nat.reduceSub, Nat.reduceDiv, Nat.reduceMod, Nat.reduceLeDiff, Nat.reduceLT, Nat.reduceBNe, Nat.reduceBEq, reduceIte, Int.reduceLE, Int.reduceLT, Int.reduceToNat, Int.reduceNeg, Int.reduceAdd, Int.reduceSub, Int.reduceMul, Int.reduceEq]
    ((repeat' (first | with_reducible apply And.intro | with_reducible intro)) <;> refine exV ?_ ?_ ?_ <;> first | exact isIn_ok (by assumption) (by decide) | exact okS_z | exact okS_of (isOf_ok (by assumption) (by decide +kernel)) | exact ⟨by omega, by omega⟩)
def namesL : List ByteArray := [⟨#[97, 103, 101]⟩, ⟨#[99, 105, 116, 121]⟩, ⟨#[106, 111, 105, 110, 101, 100]⟩, ⟨#[110, 97, 109, 101]⟩, ⟨#[112, 108, 97, 110]⟩, ⟨#[118, 105, 112]⟩]
def namesD : List D := namesL.map D.str
theorem namesD_len : namesD.length = 6 := rfl
theorem namesD_take : namesD.take 6 = namesD := rfl
theorem namesD_get (n : Nat) : namesD.getD n (.str ⟨#[]⟩) = .str (namesL.getD n ⟨#[]⟩) := by
  unfold namesD
  rw [List.getD_eq_getElem?_getD, List.getD_eq_getElem?_getD, List.getElem?_map]
  cases namesL[n]? <;> rfl
theorem names_ok (n : Nat) : okS (namesL.getD n ⟨#[]⟩) := okS_of (all_get (p := fun s : ByteArray => s.size ≤ 1000) (fun x hx => by simpa using List.all_eq_true.1 (show namesL.all (fun y => decide (y.size ≤ 1000)) = true by decide) x hx) (by decide) n)
def fieldsG : Spec where
  pre xs := ∃ m : Int, xs = [.st, .i m]
  post xs y := ∃ (m : Int) (l : List TField), xs = [.st, .i m] ∧ l.length ≤ 7 ∧ (∀ x ∈ l, x.ok) ∧ y = .sl (TField.rows l)
  cost _ := 60
  fresh := false
set_option maxHeartbeats 8000000 in
theorem Fields_own {cx : Cx} (h : Seat cx) (hN : cx.glob 2 = some namesD) : CtrO cx 116 fieldsG 118 4 := by
  refine ctrO_of (fn := Tryz.f116) (t := 4) (envL [(160, valueG), (26, flipS), (61, oneS), (125, rep2S)]) [0, 1, 4, 5, 7, 8, 9, 10, 19, 29] [] [] (envL_cons (Value_ctr h) (envL_cons (flip_ctr cx h.hP h.hS) (envL_cons (one_ctr h) (envL_cons (rep2_ctr h) (env0 h.hP))))) ?_ (by rw [h.hP]; exact Tryz.func116) rfl (by kernel_rfl) rfl ?_ (by decide)
  · rw [h.hP]; exact ⟨_, Tryz.func116, by kernel_rfl, by kernel_rfl⟩
  · rintro xs ⟨m, rfl⟩
    refine ⟨by rw [Tryz.ntmps116]; simp, ?_⟩
    simp only [go_sem, h.hP, List.cons_append, List.nil_append, Meets_e, Below_e, Prod.exists, exists_eq, exists_eq_left, exists_eq_left', exists_eq_right, exists_eq_right', exists_and_left, exists_and_right, Ob.arr.injEq, AV.own.injEq, AV.fv.injEq, fieldsG, flipS_q, flipS_p, flipS_c, flipS_f, hN, Tryz.ntmps116, Nat.reduceEqDiff, reduceCtorEq, Nat.reduceMul, Nat.reduceAdd, Nat.reduceSub, Nat.reduceDiv, Nat.reduceMod, Nat.reduceLeDiff, Nat.reduceLT, Nat.reduceBNe, Nat.reduceBEq, reduceIte, Int.reduceLE, Int.reduceLT, Int.reduceToNat, Int.reduceNeg, Int.reduceAdd, Int.reduceSub, Int.reduceMul, Int.reduceEq]
    refine ⟨by rw [namesD_len]; decide, ?_⟩
    refine vc_loopS (Int × List TField) (fun (x : Int × List TField) => match x with | (i, l) => [(5, .own 5), (9, .i i)]) [] (fun (x : Int × List TField) => match x with | (i, l) => []) (fun (x : Int × List TField) => match x with | (i, l) => [(5, .arr 118 4 (TField.rows l))]) (fun (x : Int × List TField) => match x with | (i, l) => 7 * i.toNat) (fun (x : Int × List TField) => match x with | (i, l) => 0 ≤ i ∧ i ≤ 6 ∧ (l.length : Int) ≤ i ∧ ∀ c ∈ l, c.ok) (fun (x : Int × List TField) => match x with | (i, l) => (6 - i).toNat) [(5, 118, 4)] ?_ ?_
    · simp only [go_sem, h.hP, List.cons_append, List.nil_append, Meets_e, Below_e, Prod.exists, exists_eq, exists_eq_left, exists_eq_left', exists_eq_right, exists_eq_right', exists_and_left, exists_and_right, Ob.arr.injEq, AV.own.injEq, AV.fv.injEq, TField.nil2, Tryz.ntmps116, Nat.reduceEqDiff, reduceCtorEq, Nat.reduceMul, Nat.reduceAdd, Nat.reduceSub, Nat.reduceDiv, Nat.reduceMod, Nat.reduceLeDiff, Nat.reduceLT, Nat.reduceBNe, Nat.reduceBEq, reduceIte, Int.reduceLE, Int.reduceLT, Int.reduceToNat, Int.reduceNeg, Int.reduceAdd, Int.reduceSub, Int.reduceMul, Int.reduceEq]
      exact Int.le_refl _
    · rintro ⟨i, l⟩ ⟨j1, j2, j3, j4⟩
      have hw : IntKind.i64.wrap (i + 1) = i + 1 := i64w (by omega) (by omega)
      simp only [go_sem, h.hP, List.cons_append, List.nil_append, Meets_e, Below_e, Prod.exists, exists_eq, exists_eq_left, exists_eq_left', exists_eq_right, exists_eq_right', exists_and_left, exists_and_right, Ob.arr.injEq, AV.own.injEq, AV.fv.injEq, fieldsG, flipS_q, flipS_p, flipS_c, flipS_f, oneS_q, oneS_p, oneS_c, oneS_f, rep2S_q, rep2S_p, rep2S_c, rep2S_f, valueG, strs1, strsc, TValue.row, TField.fold1, TField.app', TField.rows_inj, TField.zlT, TField.len, TField.flat, List.length_append, List.length_singleton, namesD_len, namesD_take, namesD_get, hw, Tryz.ntmps116, Nat.reduceEqDiff, reduceCtorEq, Nat.reduceMul, Nat.reduceAdd, Nat.reduceSub, Nat.reduceDiv, Nat.reduceMod, Nat.reduceLeDiff, Nat.reduceLT, Nat.reduceBNe, Nat.reduceBEq, reduceIte, Int.reduceLE, Int.reduceLT, Int.reduceToNat, Int.reduceNeg, Int.reduceAdd, Int.reduceSub, Int.reduceMul, Int.reduceEq]
      have fin : ∀ {n : ByteArray} {v : TValue}, okS n → v.ok → i ≤ 6 → ∃ x : List TField, x.length ≤ 7 ∧ (∀ c ∈ x, c.ok) ∧ l ++ [⟨n, ⟨v.kind, v.text, v.number⟩⟩] = x := fun h1 h2 _ => ⟨_, by rw [List.length_append, List.length_singleton]; omega, okL_app j4 ⟨h1, h2⟩, rfl⟩
      clear hw
      ((repeat' (first | with_reducible apply And.intro | with_reducible intro)) <;> try first | omega | assumption | exact okL_mem (by assumption) j4 ⟨names_ok _, by assumption⟩ | exact fin (okS_of (isOf_ok (by assumption) (by decide +kernel))) (by assumption) j2 | exact ⟨l, by omega, j4, rfl⟩ | exact j4 _ (by assumption))
/-- What is handed over may be read as data. -/
theorem ctr_ofO {cx : Cx} {f : FuncId} {sp : Spec} {e : TypeId} {z : Nat} (hz : z < 1000) (hne : ∀ xs, sp.pre xs → ∃ r, sp.post xs r) (h : CtrO cx f sp e z) : Ctr cx f sp := by
  refine ⟨h.1, hne, fun F xs vals hcx hF hst hgl hc hl ha hp => (h.2.1 (by omega) F xs vals hcx hF hst hgl hc hl ha hp).mono ?_⟩
  rintro e' w' ⟨v, r, rfl, hg, hst2, hpo, hh⟩
  rcases hh with ⟨l, xs, _, rfl, hown, hzl, hR⟩ | ⟨_, _, _, _, _, h1, _⟩
  · refine ⟨v, _, rfl, hg, hst2, hpo, rfl, ?_⟩
    show Rd (resOk F sp.fresh) w' (.sl l) v
    rcases hown.2 with ⟨h1, hn⟩ | ⟨g, cap, cur, hv, hb, hg', _, hcap, _⟩
    · have : l = [] := List.eq_nil_of_length_eq_zero hn
      subst this
      rw [h1]
      exact Rd.nil _ _
    · rw [hv]
      have hlt : g < w'.heap.size := (Array.getElem?_eq_some_iff.1 hg').1
      exact Rd.of_flat hzl (hR.mono (Nat.le_refl _) (fun b hb _ => hb.1) (fun _ _ _ => rfl)) (ownsRow_cells hown hv) (.inr hb) hlt (by assumption)
  · omega
theorem Fields_ctr {cx : Cx} (h : Seat cx) (hN : cx.glob 2 = some namesD) : Ctr cx 116 fieldsG :=
  ctr_ofO (by decide) (fun xs ⟨m, hm⟩ => ⟨.sl (TField.rows []), m, [], hm, Nat.zero_le _, (fun x hx => by cases hx), rfl⟩) (Fields_own h hN)
end Go.Avc

/- The tables of unicode/utf8, from a row's list to what the walks ask. No condition. -/
set_option linter.unusedVariables false
set_option maxRecDepth 100000
namespace Go.Avc
open Go Go.Proofs

def acceptL : List Int := (List.range 16).flatMap fun i => [(Lib.accLo i : Int), (Lib.accHi i : Int)]
def globU : Nat → Option (List D)
  | 4 => some (Lib.firstTab.map (D.int .u8))
  | 5 => some (acceptL.map (D.int .u8))
  | _ => none
theorem glob_first {cs : List Value} {ok : Nat → Prop} {w : World} {l : List Int} (h : RdL ok w (l.map (D.int .u8)) cs) (i : Nat) (hi : i < l.length) : cs[i]? = some (.int .u8 (l.getD i 0)) := by
  obtain ⟨v, hv, hr⟩ := h.get (j := i) (x := D.int .u8 (l.getD i 0)) (by rw [List.getElem?_map, List.getD_eq_getElem?_getD, List.getElem?_eq_getElem hi]; rfl)
  rw [hv]
  cases hr
  rfl
theorem rdL_ints {ok : Nat → Prop} {w : World} (l : List Int) : RdL ok w (l.map (D.int .u8)) (l.map (Value.int .u8)) := ⟨by rw [List.length_map, List.length_map], fun j x v hx hv => by
  rw [List.getElem?_map] at hx hv
  obtain ⟨n, hn, rfl⟩ := Option.map_eq_some_iff.1 hx
  rw [hn] at hv
  cases hv
  exact .int _ _⟩
theorem accept_at : ∀ i, i < 16 → acceptL.getD (2 * i) 0 = Lib.accLo i ∧ acceptL.getD (2 * i + 1) 0 = Lib.accHi i := by decide +kernel
theorem utf8_of_glob {cx : Cx} {W0 : Cx} (hW : W0.glob = globU) (h : ∀ w, GlAt cx w → GlAt W0 w) : Utf8 cx := by
  intro w hw
  have hg := h w hw
  obtain ⟨_, _, cs, hc, hr⟩ := hg 4 _ (by rw [hW]; rfl)
  obtain ⟨_, _, cs', hc', hr'⟩ := hg 5 _ (by rw [hW]; rfl)
  have hl : Lib.firstTab.length = 256 := by unfold Lib.firstTab; rw [List.length_map, List.length_range]
  have hl' : acceptL.length = 32 := by decide +kernel
  refine ⟨fun c hc0 => ?_, fun i hi => ?_⟩
  · have := hc c _ (glob_first hr c (by omega))
    rw [this]
    unfold Lib.firstTab
    rw [List.getD_eq_getElem?_getD, List.getElem?_map, List.getElem?_range hc0]
    rfl
  · obtain ⟨e1, e2⟩ := accept_at i hi
    have h1 := hc' (2 * i) _ (glob_first hr' (2 * i) (by omega))
    have h2 := hc' (2 * i + 1) _ (glob_first hr' (2 * i + 1) (by omega))
    rw [e1] at h1
    rw [e2] at h2
    exact ⟨h1, h2⟩
theorem glAt_of_tabs {W : World} {L : List Int} {ST : TypeId} (h : Lib.Utf8Tabs 4 5 W) : GlAt ⟨Tryz.prog, none, L, ST, 6, globU⟩ W := by
  obtain ⟨h1, h2⟩ := h
  have hin : ∀ (b o : Nat) (v : Value), W.cell? ⟨b, o, none⟩ = some v → b < W.heap.size := fun b o v hv => by
    by_cases hb : b < W.heap.size
    · exact hb
    · unfold World.cell? at hv
      rw [Array.getElem?_eq_none (show W.heap.size ≤ b by omega)] at hv
      cases hv
  intro k l hk
  have hk' : globU k = some l := hk
  have hl' : acceptL.length = 32 := by decide +kernel
  match k, hk' with
  | 4, hk' =>
    cases hk'
    refine ⟨Nat.lt_of_sub_eq_succ rfl, hin _ _ _ (h1 0 (by decide)), Lib.firstTab.map (Value.int .u8), fun j u hj => ?_, rdL_ints _⟩
    rw [List.getElem?_map] at hj
    obtain ⟨n, hn, rfl⟩ := Option.map_eq_some_iff.1 hj
    unfold Lib.firstTab at hn
    rw [List.getElem?_map] at hn
    obtain ⟨c, hc, rfl⟩ := Option.map_eq_some_iff.1 hn
    have hc1 := (List.getElem?_eq_some_iff.1 hc).1
    rw [List.length_range] at hc1
    rw [List.getElem?_range hc1] at hc
    cases hc
    exact h1 _ hc1
  | 5, hk' =>
    cases hk'
    refine ⟨Nat.lt_of_sub_eq_succ rfl, hin _ _ _ (h2 0 (by decide)).1, acceptL.map (Value.int .u8), fun j u hj => ?_, rdL_ints _⟩
    rw [List.getElem?_map] at hj
    obtain ⟨n, hn, rfl⟩ := Option.map_eq_some_iff.1 hj
    have hj1 := (List.getElem?_eq_some_iff.1 hn).1
    have hn' : acceptL.getD j 0 = n := by rw [List.getD_eq_getElem?_getD, hn]; rfl
    obtain ⟨e1, e2⟩ := accept_at (j / 2) (by omega)
    obtain ⟨g1, g2⟩ := h2 (j / 2) (by omega)
    rcases Nat.mod_two_eq_zero_or_one j with hm | hm
    · have hj2 : 2 * (j / 2) = j := by omega
      rw [hj2] at e1 g1
      rw [← hn', e1]
      exact g1
    · have hj2 : 2 * (j / 2) + 1 = j := by omega
      rw [hj2] at e2 g2
      rw [← hn', e2]
      exact g2
theorem u8Extra : U8Extra Tryz.prog Tryz.lays260_ren := ⟨by kernel_rfl, by kernel_rfl, by kernel_rfl, by kernel_rfl, by kernel_rfl, by kernel_rfl, by kernel_rfl⟩
theorem first_eq : YtkkcjnimbejalaaGreatDoor.Rows.laid_unicode_utf8_first = Lib.firstData := by kernel_rfl
theorem accept_eq : (YtkkcjnimbejalaaGreatDoor.Rows.laid_unicode_utf8_acceptRanges : DataW Unit) = Lib.acceptData := by kernel_rfl
/-- A row that lists the two tables, first of all: they lie so. -/
theorem tabs_of_laid {W : World} (h : laidMet Tryz.prog [("unicode/utf8.acceptRanges", YtkkcjnimbejalaaGreatDoor.Rows.laid_unicode_utf8_acceptRanges), ("unicode/utf8.first", YtkkcjnimbejalaaGreatDoor.Rows.laid_unicode_utf8_first)] W) : Lib.Utf8Tabs 4 5 W := by
  rw [first_eq, accept_eq] at h
  exact utf8Tabs_of_reads Tryz.lays260 u8Extra (Lib.laidMet.reads h (by simp)) (Lib.laidMet.reads h (by simp))
/-- The package-level variables are there. -/
theorem ng_of_shaped {W : World} (h : W.ShapedOpen Tryz.prog) : 6 ≤ W.heap.size := by
  have h0 : (((begin Tryz.prog (fun _ _ => 0) default).world.heap[5]?).bind Obj.row?).isSome = true := by kernel_rfl
  obtain ⟨⟨zero, t⟩, hz⟩ := Option.isSome_iff_exists.1 h0
  obtain ⟨cs, hc, _⟩ := h.1 5 zero t (of_decide_eq_true (by kernel_rfl)) hz
  have := (Array.getElem?_eq_some_iff.1 hc).1
  omega
/-- A world for a witness: the two tables hold what the program lays. -/
noncomputable def laidWorld (os : Os) : World :=
  { World.holding Tryz.prog os ⟨#[], #[], []⟩ with heap := (((World.holding Tryz.prog os ⟨#[], #[], []⟩).heap.modify 4 (fun o => match o with
      | .cells _ t frozen => .cells (Lib.firstTab.map (Value.int .u8)).toArray t frozen
      | o => o)).modify 5 (fun o => match o with
      | .cells _ t frozen => .cells (acceptL.map (Value.int .u8)).toArray t frozen
      | o => o)) }
theorem laid_met (os : Os) (args : Array Value) : laidMet Tryz.prog [("unicode/utf8.acceptRanges", YtkkcjnimbejalaaGreatDoor.Rows.laid_unicode_utf8_acceptRanges), ("unicode/utf8.first", YtkkcjnimbejalaaGreatDoor.Rows.laid_unicode_utf8_first)] ((laidWorld os).forCall (fun _ _ => 0) ⟨#[], args, []⟩).memory :=
  laidMet_of_run' 8 (by kernel_rfl) (by kernel_rfl)
end Go.Avc

/- Ids: their forms, check signs and order: plain law. No condition. -/
set_option linter.unusedVariables false
set_option linter.unusedSimpArgs false
set_option maxRecDepth 100000
namespace Go.Avc
open Go Go.Proofs

def cutL (s p : ByteArray) : ByteArray := ⟨(Lib.cut s.data.toList p.data.toList).1.toArray⟩
def cutR (s p : ByteArray) : ByteArray := ⟨(Lib.cut s.data.toList p.data.toList).2.1.toArray⟩
def cutB (s p : ByteArray) : Bool := (Lib.cut s.data.toList p.data.toList).2.2
theorem size_list (l : List UInt8) : (⟨l.toArray⟩ : ByteArray).size = l.length := rfl
theorem len_size (s : ByteArray) : s.data.toList.length = s.size := Array.length_toList
theorem cutL_size (s p : ByteArray) : (cutL s p).size ≤ s.size := by
  unfold cutL
  rw [size_list, ← len_size s]
  unfold Lib.cut
  split
  · show (List.take _ _).length ≤ _
    rw [List.length_take]; omega
  · exact Nat.le_refl _
theorem cutR_size (s p : ByteArray) : (cutR s p).size ≤ s.size := by
  unfold cutR
  rw [size_list, ← len_size s]
  unfold Lib.cut
  split
  · show (List.drop _ _).length ≤ _
    rw [List.length_drop]; omega
  · exact Nat.zero_le _
def splitS (s p : ByteArray) : List ByteArray := Lib.splitB p 0 (Lib.countB s p) s
theorem splitB_size (p : ByteArray) : ∀ (k : Nat) (s x : ByteArray), x ∈ Lib.splitB p 0 k s → x.size ≤ s.size
  | 0, s, x, h => by
    rw [Lib.splitB_zero, List.mem_singleton] at h
    rw [h]; exact Nat.le_refl _
  | k + 1, s, x, h => by
    unfold Lib.splitB at h
    split at h
    · rw [List.mem_singleton] at h
      rw [h]; exact Nat.le_refl _
    · rcases List.mem_cons.1 h with e | e
      · rw [e, ByteArray.size_extract]; omega
      · have := splitB_size p k _ x e
        rw [ByteArray.size_extract] at this
        omega
theorem splitS_size {s p x : ByteArray} (h : x ∈ splitS s p) : x.size ≤ s.size := splitB_size p _ s x h
theorem splitS_get (s p : ByteArray) (i : Nat) : ((splitS s p).getD i ⟨#[]⟩).size ≤ s.size := by
  rw [List.getD_eq_getElem?_getD]
  cases e : (splitS s p)[i]? with
  | none => exact Nat.zero_le _
  | some x => exact splitS_size (List.mem_of_getElem? e)
theorem splitS_len {s p : ByteArray} (h : 1 ≤ p.size) : (splitS s p).length = Lib.countB s p + 1 := Lib.splitB_all p h 0 _ s rfl
theorem splitS_le {s p : ByteArray} (h : 1 ≤ p.size) : (splitS s p).length ≤ s.size + 1 := by
  rw [splitS_len h]
  have := Lib.countB_le p h s.size s (Nat.le_refl _)
  omega
def conS (s p : ByteArray) : Bool := Lib.contains s.data.toList p.data.toList
def preS (s p : ByteArray) : Bool := Lib.hasPrefix s.data.toList p.data.toList
/-- Trim at one byte leaves a string as it is: it neither begins nor ends with the byte. -/
theorem drop_same {α : Type} {p : α → Bool} : ∀ {l : List α}, l.dropWhile p = l ↔ ∀ x, l.head? = some x → p x = false
  | [] => by simp
  | x :: l => by
    cases h : p x with
    | true =>
      rw [List.dropWhile_cons_of_pos h]
      constructor
      · intro e
        have := congrArg List.length e
        have h2 : (l.dropWhile p).length ≤ l.length := (List.dropWhile_sublist p).length_le
        simp at this
        omega
      · intro e
        have := e x rfl
        rw [h] at this
        cases this
    | false =>
      rw [List.dropWhile_cons_of_neg (by simp [h])]
      simp [h]
theorem trim_same (l : List UInt8) (c : UInt8) : Lib.trimS l [c] = l ↔ l.head? ≠ some c ∧ l.getLast? ≠ some c := by
  have hp : ∀ x : UInt8, [c].contains x = false ↔ x ≠ c := fun x => by simp
  have hR : Lib.trimRightS l [c] = l ↔ l.getLast? ≠ some c := by
    unfold Lib.trimRightS
    rw [List.reverse_eq_iff, drop_same]
    rw [List.head?_reverse]
    constructor
    · intro h e
      have := h c e
      rw [hp] at this
      exact this rfl
    · intro h x hx
      rw [hp]
      intro e
      rw [e] at hx
      exact h hx
  have hL : ∀ m : List UInt8, Lib.trimLeftS m [c] = m ↔ m.head? ≠ some c := fun m => by
    unfold Lib.trimLeftS
    rw [drop_same]
    constructor
    · intro h e
      have := h c e
      rw [hp] at this
      exact this rfl
    · intro h x hx
      rw [hp]
      intro e
      rw [e] at hx
      exact h hx
  have hlR : (Lib.trimRightS l [c]).length ≤ l.length := by
    unfold Lib.trimRightS
    rw [List.length_reverse]
    have := (List.dropWhile_sublist (l := l.reverse) fun x => [c].contains x).length_le
    rwa [List.length_reverse] at this
  unfold Lib.trimS
  constructor
  · intro h
    have h1 : (Lib.trimLeftS (Lib.trimRightS l [c]) [c]).length ≤ (Lib.trimRightS l [c]).length := (List.dropWhile_sublist _).length_le
    rw [h] at h1
    have h2 : Lib.trimRightS l [c] = l := by
      have hs : (Lib.trimRightS l [c]).Sublist l := by
        unfold Lib.trimRightS
        have := (List.dropWhile_sublist (l := l.reverse) fun x => [c].contains x).reverse
        rwa [List.reverse_reverse] at this
      exact hs.eq_of_length (by omega)
    rw [h2] at h
    exact ⟨(hL l).1 h, hR.1 h2⟩
  · rintro ⟨h1, h2⟩
    rw [hR.2 h2, (hL l).2 h1]
theorem bt_head {s : ByteArray} (h : 1 ≤ s.size) (c : UInt8) : s.data.toList.head? ≠ some c ↔ bt s 0 ≠ (c.toNat : Int) := by
  cases hd : s.data.toList with
  | nil => rw [← len_size, hd] at h; cases h
  | cons x r =>
    have : bt s 0 = (x.toNat : Int) := by unfold bt; rw [hd]; rfl
    rw [this]
    simp only [List.head?_cons, ne_eq, Option.some.injEq, Int.natCast_inj]
    exact ⟨fun h e => h (UInt8.toNat_inj.1 e), fun h e => h (by rw [e])⟩
theorem bt_last {s : ByteArray} (h : 1 ≤ s.size) (c : UInt8) : s.data.toList.getLast? ≠ some c ↔ bt s ((s.size : Int) - 1) ≠ (c.toNat : Int) := by
  have hl := len_size s
  have e1 : ((s.size : Int) - 1).toNat = s.size - 1 := by omega
  have hlt : s.size - 1 < s.data.toList.length := by omega
  have : bt s ((s.size : Int) - 1) = ((s.data.toList[s.size - 1]'hlt).toNat : Int) := by
    unfold bt
    rw [e1, List.getD_eq_getElem?_getD, List.getElem?_eq_getElem hlt]; rfl
  rw [this, List.getLast?_eq_getElem?, hl, List.getElem?_eq_getElem hlt]
  simp only [ne_eq, Option.some.injEq, Int.natCast_inj]
  exact ⟨fun h e => h (UInt8.toNat_inj.1 e), fun h e => h (by rw [e])⟩
theorem ba_eq {s t : ByteArray} : s = t ↔ s.data.toList = t.data.toList := ⟨fun h => by rw [h], fun h => ByteArray.ext (Array.ext' h)⟩
theorem trim_one {s : ByteArray} (h : 1 ≤ s.size) (c : UInt8) : trimF s ⟨#[c]⟩ = s ↔ bt s 0 ≠ (c.toNat : Int) ∧ bt s ((s.size : Int) - 1) ≠ (c.toNat : Int) := by
  rw [ba_eq]
  unfold trimF
  show Lib.trimS s.data.toList [c] = _ ↔ _
  rw [trim_same, bt_head h, bt_last h]
theorem all_no {α : Type} {l : List α} {p : α → Bool} {i : Nat} {d : α} (hi : i < l.length) (h : p (l.getD i d) = false) : l.all p = false := by
  cases e : l.all p with
  | false => rfl
  | true =>
    rw [List.all_eq_true] at e
    have := e _ (List.getElem_mem hi)
    rw [List.getD_eq_getElem?_getD, List.getElem?_eq_getElem hi, Option.getD_some] at h
    rw [h] at this
    cases this
theorem all_yes {α : Type} {l : List α} {p : α → Bool} (d : α) (h : ∀ j : Nat, j < l.length → p (l.getD j d) = true) : l.all p = true := by
  rw [List.all_eq_true]
  intro x hx
  obtain ⟨k, hk, rfl⟩ := List.mem_iff_getElem.1 hx
  have := h k hk
  rwa [List.getD_eq_getElem?_getD, List.getElem?_eq_getElem hk] at this
/-! ### The forms -/
def labC (c : Int) : Bool := smallC c || digitC c || (c == 45)
def locC (c : Int) : Bool := smallC c || digitC c || (c == 46) || (c == 45) || (c == 95)
def memC (c : Int) : Bool := digitC c || capitalC c
def hexC (c : Int) : Bool := digitC c || decide (97 ≤ c ∧ c ≤ 102)
def labelB (s : ByteArray) : Bool := inB s.size 1 30 && decide (bt s 0 ≠ 45) && decide (bt s ((s.size : Int) - 1) ≠ 45) && (bl s).all labC
def atS : ByteArray := ⟨#[64]⟩
def dotS : ByteArray := ⟨#[46]⟩
def dotsS : ByteArray := ⟨#[46, 46]⟩
def plusS : ByteArray := ⟨#[43]⟩
def localB (s : ByteArray) : Bool := inB s.size 1 64 && decide (bt s 0 ≠ 46) && decide (bt s ((s.size : Int) - 1) ≠ 46) && !conS s dotsS && (bl s).all locC
def mailB (s : ByteArray) : Bool := cutB s atS && decide ((s.size : Int) ≤ 80) && localB (cutL s atS) && (splitS (cutR s atS) dotS).all labelB && decide (2 ≤ (splitS (cutR s atS) dotS).length)
def phoneB (s : ByteArray) : Bool := preS s plusS && inB s.size 8 16 && (bl (s.extract 1 s.size)).all digitC && decide (bt s 1 ≠ 48)
def memberB (s : ByteArray) : Bool := inB s.size 4 20 && (bl s).all memC
def deviceB (s : ByteArray) : Bool := decide ((s.size : Int) = 32) && (bl s).all hexC
/-- the check sign -/
def idxC (c : Int) : Int := if digitC c = true then c - 48 else c - 55
def termS (s : ByteArray) (i : Nat) : Int := let p := if (s.size - i) % 2 = 1 then 2 * idxC (bt s i) else idxC (bt s i); p / 36 + p % 36
def sumUp (s : ByteArray) : Nat → Int
  | 0 => 0
  | n + 1 => sumUp s n + termS s n
def signN (s : ByteArray) : Int := (36 - sumUp s s.size % 36) % 36
def signsB : ByteArray := ⟨#[48, 49, 50, 51, 52, 53, 54, 55, 56, 57, 65, 66, 67, 68, 69, 70, 71, 72, 73, 74, 75, 76, 77, 78, 79, 80, 81, 82, 83, 84, 85, 86, 87, 88, 89, 90]⟩
theorem idxC_in {c : Int} (h : memC c = true) : 0 ≤ idxC c ∧ idxC c ≤ 35 := by
  unfold memC digitC capitalC at h
  unfold idxC digitC
  simp only [Bool.or_eq_true, decide_eq_true_eq] at h
  split <;> rename_i c1 <;> simp only [decide_eq_true_eq] at c1 <;> omega
theorem idx_signs : ∀ c : UInt8, memC (c.toNat : Int) = true → Lib.indexByte signsB.data.toList c = idxC (c.toNat : Int) := by
  have h := u8_all (p := fun c => !memC (c.toNat : Int) || (Lib.indexByte signsB.data.toList c == idxC (c.toNat : Int))) (by decide +kernel)
  intro c hc
  have := h c
  rw [hc] at this
  simpa using this
theorem bt_u8 (s : ByteArray) (i : Int) : (bt s i).toNat.toUInt8 = s.data.toList.getD i.toNat 0 := by
  unfold bt
  rw [Int.toNat_natCast]
  exact UInt8.ofNat_toNat
theorem idx_bt {s : ByteArray} {i : Int} (h : memC (bt s i) = true) : Lib.indexByte signsB.data.toList (bt s i).toNat.toUInt8 = idxC (bt s i) := by
  rw [bt_u8]
  exact idx_signs _ h
theorem all_at {s : ByteArray} {p : Int → Bool} (h : (bl s).all p = true) {i : Int} (h0 : 0 ≤ i) (h1 : i < s.size) : p (bt s i) = true := by
  rw [all_bt] at h
  have := h i.toNat (by omega)
  rwa [Int.toNat_of_nonneg h0] at this
theorem term_in {s : ByteArray} (h : (bl s).all memC = true) {i : Nat} (hi : i < s.size) : 0 ≤ termS s i ∧ termS s i ≤ 36 := by
  have := idxC_in (all_at h (i := i) (by omega) (by omega))
  unfold termS
  simp only
  split <;> omega
theorem sumUp_in {s : ByteArray} (h : (bl s).all memC = true) : ∀ n, n ≤ s.size → 0 ≤ sumUp s n ∧ sumUp s n ≤ 36 * n
  | 0, _ => ⟨Int.le_refl _, Int.le_refl _⟩
  | n + 1, hn => by
    have h1 := sumUp_in h n (by omega)
    have h2 := term_in h (i := n) (by omega)
    unfold sumUp
    omega
theorem signN_in (s : ByteArray) : 0 ≤ signN s ∧ signN s < 36 := by
  unfold signN
  omega
/-- What is wrong with an id. -/
def initS (s : ByteArray) : ByteArray := s.extract 0 (s.size - 1)
def idF (x : TId) : Int := if x.kind = 1 then (if mailB x.text = true then 0 else 3) else if x.kind = 2 then (if phoneB x.text = true then 0 else 3) else
  if x.kind = 3 then (if memberB x.text = true then (if bt signsB (signN (initS x.text)) ≠ bt x.text ((x.text.size : Int) - 1) then 15 else 0) else 3) else
  if x.kind = 4 then (if deviceB x.text = true then 0 else 3) else 4
/-- Their order. -/
def cmpI (a b : Int) : Int := if a < b then -1 else if a > b then 1 else 0
def lessS (s t : ByteArray) : Bool := Op.bytesLess s.toList t.toList
def cmpT (s t : ByteArray) : Int := if lessS s t = true then -1 else if s = t then 0 else 1
def ordF (a b : TId) : Int := if a.kind < b.kind then -1 else if a.kind > b.kind then 1 else cmpT a.text b.text
end Go.Avc

/- Package-level tables of numbers, strings and structs of them, from a row's list to what the walks ask. No condition. -/
set_option linter.unusedVariables false
set_option linter.unusedSimpArgs false
set_option maxRecDepth 100000
namespace Go.Avc
open Go Go.Proofs

/-- A type whose cells are numbers, bools and strings only: how many. -/
def tileF (P : Program) (rec : TypeId → Option Nat) : List Field → Nat → Option Nat
  | [], o => some o
  | f :: r, o => match rec f.type with
    | some z => if f.offset = o ∧ P.cellsOf f.type = z then tileF P rec r (o + z) else none
    | none => none
def tile (P : Program) : Nat → TypeId → Option Nat
  | 0, _ => none
  | k + 1, t => match P.underlying t with
    | some (.int _) => some 1
    | some .bool => some 1
    | some .string => some 1
    | some (.struct fs) => (match tileF P (tile P k) fs.toList 0 with
      | some n => if P.cellsOf t = n then some n else none
      | none => none)
    | some (.array n e) => (match tile P k e with
      | some z => if P.cellsOf e = z ∧ P.cellsOf t = n * z then some (n * z) else none
      | none => none)
    | _ => none
mutual
def flatW {H : Type} : DataW H → Option (List D)
  | .lit (.int k z) => some [.int k z]
  | .lit (.bool b) => some [.bool b]
  | .lit (.string b) => some [.str ⟨b.toArray⟩]
  | .agg ds => flatWs ds
  | _ => none
def flatWs {H : Type} : List (DataW H) → Option (List D)
  | [] => some []
  | d :: r => match flatW d, flatWs r with
    | some l, some m => some (l ++ m)
    | _, _ => none
end
section
variable {H : Type} {enc : TypeId × Value → H} {P : Program} {w : World} {base : Nat} {sp : Nat → Bool} {held : Bool}
def TileOk (enc : TypeId × Value → H) (P : Program) (w : World) (base : Nat) (sp : Nat → Bool) (held : Bool) (k : Nat) : Prop := ∀ t n, tile P k t = some n → ∀ fuel cs d p, DataW.trod enc P w base sp held fuel t cs = some (d, p) → ∃ l, flatW d = some l ∧ cs = l.map vD ∧ l.length = n
theorem tile_fields {k : Nat} (ih : TileOk enc P w base sp held k) {n : Nat} {cs : List Value} : ∀ (fs : List Field) (o m : Nat) (xs : List (DataW H × List MemPlace)), tileF P (tile P k) fs o = some m → (fs.mapM fun f => DataW.trod enc P w base sp held n f.type ((cs.drop f.offset).take (P.cellsOf f.type))) = some xs → cs.length = m →
    ∃ l, flatWs (xs.map (·.1)) = some l ∧ cs.drop o = l.map vD ∧ o + l.length = m
  | [], o, m, xs, h, hx, hc => by
    cases h
    simp only [List.mapM_nil, Option.pure_def, Option.some.injEq] at hx
    subst hx
    exact ⟨[], rfl, by rw [List.drop_eq_nil_of_le (Nat.le_of_eq hc)]; rfl, rfl⟩
  | f :: r, o, m, xs, h, hx, hc => by
    unfold tileF at h
    split at h
    · rename_i z e
      split at h
      · rename_i hz
        obtain ⟨ho, hz⟩ := hz
        simp only [List.mapM_cons, Option.bind_eq_bind, Option.bind_eq_some_iff, Option.pure_def, Option.some.injEq] at hx
        obtain ⟨⟨d, p⟩, h1, ys, h2, rfl⟩ := hx
        obtain ⟨l, l1, l2, l3⟩ := ih _ _ e n _ d p h1
        obtain ⟨l', l4, l5, l6⟩ := tile_fields ih r (o + z) m ys h h2 hc
        rw [ho, hz] at l2
        refine ⟨l ++ l', ?_, ?_, by rw [List.length_append, l3]; omega⟩
        · rw [List.map_cons]
          unfold flatWs
          simp only [l1, l4]
        · rw [List.map_append, ← l2, ← l5, ← List.drop_drop, List.take_append_drop]
      · cases h
    · cases h
theorem tile_elems {k : Nat} (ih : TileOk enc P w base sp held k) {e : TypeId} {z n : Nat} (he : tile P k e = some z) {cs : List Value} : ∀ (m o : Nat) (xs : List (DataW H × List MemPlace)), ((List.range' o m).mapM fun i => DataW.trod enc P w base sp held n e ((cs.drop (i * z)).take z)) = some xs → cs.length = (o + m) * z →
    ∃ l, flatWs (xs.map (·.1)) = some l ∧ cs.drop (o * z) = l.map vD ∧ l.length = m * z
  | 0, o, xs, hx, hc => by
    simp only [List.range'_zero, List.mapM_nil, Option.pure_def, Option.some.injEq] at hx
    subst hx
    exact ⟨[], rfl, by rw [List.drop_eq_nil_of_le (by rw [hc]; exact Nat.le_refl _)]; rfl, (Nat.zero_mul z).symm⟩
  | m + 1, o, xs, hx, hc => by
    rw [List.range'_succ] at hx
    simp only [List.mapM_cons, Option.bind_eq_bind, Option.bind_eq_some_iff, Option.pure_def, Option.some.injEq] at hx
    obtain ⟨⟨d, p⟩, h1, ys, h2, rfl⟩ := hx
    obtain ⟨l, l1, l2, l3⟩ := ih _ _ he n _ d p h1
    obtain ⟨l', l4, l5, l6⟩ := tile_elems ih he m (o + 1) ys h2 (by rw [hc]; congr 1; omega)
    refine ⟨l ++ l', ?_, ?_, by rw [List.length_append, l3, l6, Nat.succ_mul]; omega⟩
    · rw [List.map_cons]
      unfold flatWs
      simp only [l1, l4]
    · rw [List.map_append, ← l2, ← l5, Nat.succ_mul, ← List.drop_drop, List.take_append_drop]
theorem tile_ok : ∀ k, TileOk enc P w base sp held k
  | 0 => fun t n h => by cases h
  | k + 1 => fun t n h fuel cs d p hd => by
    unfold tile at h
    split at h <;> rename_i hu
    · cases h
      obtain ⟨z, rfl, hx, _⟩ := DataW.trod_int hu hd
      cases hx
      exact ⟨_, rfl, rfl, rfl⟩
    · cases h
      obtain ⟨z, rfl, hx⟩ := DataW.trod_bool hu hd
      cases hx
      exact ⟨_, rfl, rfl, rfl⟩
    · cases h
      obtain ⟨z, rfl, hx, _⟩ := DataW.trod_string hu hd
      cases hx
      exact ⟨_, rfl, rfl, rfl⟩
    · rename_i fs
      split at h
      · rename_i m e
        split at h
        · rename_i hc
          cases h
          cases fuel with
          | zero => simp [DataW.trod] at hd
          | succ fuel =>
            change DataW.trodStep enc P w base sp held (DataW.trod enc P w base sp held fuel) t cs = _ at hd
            unfold DataW.trodStep at hd
            rw [hu] at hd
            simp only at hd
            split at hd
            · rename_i hl
              obtain ⟨xs, hx, hxs⟩ := Option.map_eq_some_iff.1 hd
              cases hxs
              obtain ⟨l, l1, l2, l3⟩ := tile_fields (tile_ok k) fs.toList 0 _ xs e hx (by rw [hl, hc])
              exact ⟨l, l1, by rw [List.drop_zero] at l2; exact l2, by omega⟩
            · cases hd
        · cases h
      · cases h
    · rename_i n' e
      split at h
      · rename_i z hz
        split at h
        · rename_i hc
          cases h
          cases fuel with
          | zero => simp [DataW.trod] at hd
          | succ fuel =>
            change DataW.trodStep enc P w base sp held (DataW.trod enc P w base sp held fuel) t cs = _ at hd
            unfold DataW.trodStep at hd
            rw [hu] at hd
            simp only at hd
            split at hd
            · rename_i hl
              obtain ⟨xs, hx, hxs⟩ := Option.map_eq_some_iff.1 hd
              cases hxs
              rw [hc.1, List.range_eq_range'] at hx
              obtain ⟨l, l1, l2, l3⟩ := tile_elems (tile_ok k) hz n' 0 xs hx (by rw [hl, hc.2, Nat.zero_add])
              exact ⟨l, l1, by rw [Nat.zero_mul, List.drop_zero] at l2; exact l2, l3⟩
            · cases hd
        · cases h
      · cases h
    · cases h
end
theorem vD_rd {ok : Nat → Prop} {w : World} {x : D} (h : x.flat = true) : Rd ok w x (match x with | .sl _ => .slice none 0 0 | x => vD x) := by
  cases x with
  | int k n => exact .int k n
  | bool b => exact .bool b
  | str s => exact .str s
  | sl l =>
    have : l = [] := by simpa [D.flat] using h
    subst this
    exact .nil _ _
theorem rdL_vD' {ok : Nat → Prop} {w : World} {l : List D} (h : (l.map D.ek).all EK.ok = true) : RdL ok w l (l.map vD) := ⟨by rw [List.length_map], fun j x v hx hv => by
  rw [List.getElem?_map, hx] at hv
  cases hv
  have hk := List.all_eq_true.1 h _ (List.mem_map.2 ⟨x, List.mem_of_getElem? hx, rfl⟩)
  cases x with
  | int k n => exact .int k n
  | bool b => exact .bool b
  | str s => exact .str s
  | sl l => cases hk⟩
/-- A listed variable lies so. -/
theorem lies_of_reads {P : Program} {w : World} {n : String} {d : DataW Unit} (h : Lib.VarReads P w n d) {g : Nat} {t : TypeId} {l : List D} {m : Nat} (hg : P.globalNamed n = some g) (ht : (P.globals[g]?).map (·.type) = some t) (htl : tile P 8 t = some m) (hl : flatW d = some l) (hne : l ≠ []) :
    g < w.heap.size ∧ ∀ (j : Nat) (u : Value), (l.map vD)[j]? = some u → w.cell? ⟨g, j, none⟩ = some u := by
  obtain ⟨g', t', cs, fuel, p, e1, e2, hvar, hd⟩ := h
  obtain rfl := Option.some.inj (hg.symm.trans e1)
  obtain rfl := Option.some.inj (ht.symm.trans e2)
  obtain ⟨l', l1, l2, _⟩ := tile_ok 8 _ _ htl _ _ _ _ hd
  obtain rfl := Option.some.inj (hl.symm.trans l1)
  have hcell : ∀ (j : Nat) (u : Value), (l.map vD)[j]? = some u → w.cell? ⟨g, j, none⟩ = some u := fun j u hj => by
    rw [World.var?_cell hg hvar j, ← Array.getElem?_toList, l2]
    exact hj
  refine ⟨?_, hcell⟩
  have h0 : ∃ u, (l.map vD)[0]? = some u := by
    cases l with
    | nil => exact absurd rfl hne
    | cons x r => exact ⟨vD x, rfl⟩
  obtain ⟨u, hu⟩ := h0
  have := hcell 0 u hu
  by_cases hb : g < w.heap.size
  · exact hb
  · unfold World.cell? at this
    rw [Array.getElem?_eq_none (show w.heap.size ≤ g by omega)] at this
    cases this
/-- The tables of unicode/utf8 and further ones. -/
def globX (ex : Nat → Option (List D)) : Nat → Option (List D) := fun k => match globU k with
  | some l => some l
  | none => ex k
def Lies (w : World) (ex : Nat → Option (List D)) : Prop := ∀ k l, ex k = some l → k < 6 ∧ k < w.heap.size ∧ (l.map D.ek).all EK.ok = true ∧ ∀ (j : Nat) (u : Value), (l.map vD)[j]? = some u → w.cell? ⟨k, j, none⟩ = some u
theorem glAt_X {W : World} {L : List Int} {ST : TypeId} {ex : Nat → Option (List D)} (h : Lib.Utf8Tabs 4 5 W) (hx : Lies W ex) : GlAt ⟨Tryz.prog, none, L, ST, 6, globX ex⟩ W := by
  intro k l hk
  have hU := glAt_of_tabs (L := L) (ST := ST) h
  change globX ex k = some l at hk
  unfold globX at hk
  split at hk
  · rename_i l' e
    cases hk
    exact hU k l e
  · obtain ⟨h1, h2, h3, h4⟩ := hx k l hk
    exact ⟨h1, h2, _, h4, rdL_vD' h3⟩
theorem utf8_of_globX {cx : Cx} {W0 : Cx} {ex : Nat → Option (List D)} (hW : W0.glob = globX ex) (h : ∀ w, GlAt cx w → GlAt W0 w) : Utf8 cx := by
  refine utf8_of_glob (W0 := { W0 with glob := globU }) rfl fun w hw k l hk => ?_
  refine h w hw k l ?_
  rw [hW]
  unfold globX
  rw [show globU k = some l from hk]
theorem tabs_of_list {W : World} {ls : List (String × DataW Unit)} (h : laidMet Tryz.prog ls W) (h1 : ("unicode/utf8.first", YtkkcjnimbejalaaGreatDoor.Rows.laid_unicode_utf8_first) ∈ ls) (h2 : ("unicode/utf8.acceptRanges", YtkkcjnimbejalaaGreatDoor.Rows.laid_unicode_utf8_acceptRanges) ∈ ls) : Lib.Utf8Tabs 4 5 W := by
  rw [first_eq] at h1
  rw [accept_eq] at h2
  exact utf8Tabs_of_reads Tryz.lays260 u8Extra (Lib.laidMet.reads h h1) (Lib.laidMet.reads h h2)
end Go.Avc

/- Functions of package strings on plain strings, and comparisons: their contracts. No condition. -/
set_option linter.unusedVariables false
set_option linter.unusedSimpArgs false
set_option maxRecDepth 100000
namespace Go.Avc
open Go Go.Proofs

/-- The greatest length for which package bytealg looks for a string is some number. -/
def MaxL (cx : Cx) : Prop := ∀ w, GlAt cx w → ∃ m : Int, w.cell? ⟨3, 0, none⟩ = some (.int .i64 m)
theorem below_same {w w' : World} (h : w' = w) : RowKit.Below w.heap.size w w' := by
  subst h
  exact ⟨rfl, rfl, rfl, Nat.le_refl _, fun _ _ => rfl⟩
theorem below_drawn {w w' : World} (h : ∃ n, w' = w.drewN n) : RowKit.Below w.heap.size w w' := by
  obtain ⟨n, rfl⟩ := h
  exact ⟨rfl, rfl, rfl, Nat.le_refl _, fun _ _ => rfl⟩
def cutSp  : Spec where
  pre xs := ∃ (s : ByteArray) (p : ByteArray), xs = [.str s, .str p] ∧ (s.size ≤ 4000000000)
  post xs y := ∃ (s : ByteArray) (p : ByteArray), xs = [.str s, .str p] ∧ y = .tcons (.str (cutL s p)) (.tcons (.str (cutR s p)) (.tcons (.b (cutB s p)) .tnil))
  cost _ := 0
  fresh := true
theorem cutSp_c  (xs : List AV) : (cutSp).cost xs = 0 := nr rfl
theorem cutSp_f  : (cutSp).fresh = true := nr rfl
theorem cutSp_q  (s : ByteArray) (p : ByteArray) : (cutSp).pre [.str s, .str p] = (s.size ≤ 4000000000) := propext ⟨fun h => by
  have h' : ∃ (s' : ByteArray) (p' : ByteArray), ([.str s, .str p] : List AV) = [.str s', .str p'] ∧ (s'.size ≤ 4000000000) := h
  obtain ⟨s', p', e, h⟩ := h'
  simp only [List.cons.injEq, AV.dv.injEq, AV.dp.injEq, AV.fv.injEq, DV.d.injEq, DV.ag.injEq, D.int.injEq, D.str.injEq, D.bool.injEq, D.sl.injEq, true_and, and_true, intsDi_inj, rowsT_inj, rowsKi_inj] at e
  obtain ⟨rfl, rfl⟩ := e
  exact h, fun h => ⟨s, p, rfl, h⟩⟩
theorem cutSp_p  (s : ByteArray) (p : ByteArray) : (cutSp).post [.str s, .str p] = fun y => y = .tcons (.str (cutL s p)) (.tcons (.str (cutR s p)) (.tcons (.b (cutB s p)) .tnil)) := funext fun y => propext ⟨fun h => by
  have h' : ∃ (s' : ByteArray) (p' : ByteArray), ([.str s, .str p] : List AV) = [.str s', .str p'] ∧ y = .tcons (.str (cutL s' p')) (.tcons (.str (cutR s' p')) (.tcons (.b (cutB s' p')) .tnil)) := h
  obtain ⟨s', p', e, h⟩ := h'
  simp only [List.cons.injEq, AV.dv.injEq, AV.dp.injEq, AV.fv.injEq, DV.d.injEq, DV.ag.injEq, D.int.injEq, D.str.injEq, D.bool.injEq, D.sl.injEq, true_and, and_true, intsDi_inj, rowsT_inj, rowsKi_inj] at e
  obtain ⟨rfl, rfl⟩ := e
  exact h, fun h => ⟨s, p, rfl, h⟩⟩
theorem cut_ctr {cx : Cx} (h : Seat cx) (hM : MaxL cx) : Ctr cx 80 cutSp := by
  refine ctr_flat (by rw [h.hP]; exact ⟨_, Tryz.func80, by kernel_rfl, by kernel_rfl⟩) (fun _ => rfl) ?_
  rintro xs ⟨s, p, rfl, h1⟩
  refine ⟨_, _, _, rfl, ⟨s, p, rfl, rfl⟩, rfl, fun w hw => ?_⟩
  rw [h.hP]
  obtain ⟨m, hm⟩ := hM w hw
  exact (Tryz.strings_Cut s p m w (by omega) hm).mono fun e w' ⟨h1, h2⟩ => ⟨h1, below_drawn h2⟩
def conSp  : Spec where
  pre xs := ∃ (s : ByteArray) (p : ByteArray), xs = [.str s, .str p] ∧ (s.size ≤ 4000000000)
  post xs y := ∃ (s : ByteArray) (p : ByteArray), xs = [.str s, .str p] ∧ y = .b (conS s p)
  cost _ := 0
  fresh := true
theorem conSp_c  (xs : List AV) : (conSp).cost xs = 0 := nr rfl
theorem conSp_f  : (conSp).fresh = true := nr rfl
theorem conSp_q  (s : ByteArray) (p : ByteArray) : (conSp).pre [.str s, .str p] = (s.size ≤ 4000000000) := propext ⟨fun h => by
  have h' : ∃ (s' : ByteArray) (p' : ByteArray), ([.str s, .str p] : List AV) = [.str s', .str p'] ∧ (s'.size ≤ 4000000000) := h
  obtain ⟨s', p', e, h⟩ := h'
  simp only [List.cons.injEq, AV.dv.injEq, AV.dp.injEq, AV.fv.injEq, DV.d.injEq, DV.ag.injEq, D.int.injEq, D.str.injEq, D.bool.injEq, D.sl.injEq, true_and, and_true, intsDi_inj, rowsT_inj, rowsKi_inj] at e
  obtain ⟨rfl, rfl⟩ := e
  exact h, fun h => ⟨s, p, rfl, h⟩⟩
theorem conSp_p  (s : ByteArray) (p : ByteArray) : (conSp).post [.str s, .str p] = fun y => y = .b (conS s p) := funext fun y => propext ⟨fun h => by
  have h' : ∃ (s' : ByteArray) (p' : ByteArray), ([.str s, .str p] : List AV) = [.str s', .str p'] ∧ y = .b (conS s' p') := h
  obtain ⟨s', p', e, h⟩ := h'
  simp only [List.cons.injEq, AV.dv.injEq, AV.dp.injEq, AV.fv.injEq, DV.d.injEq, DV.ag.injEq, D.int.injEq, D.str.injEq, D.bool.injEq, D.sl.injEq, true_and, and_true, intsDi_inj, rowsT_inj, rowsKi_inj] at e
  obtain ⟨rfl, rfl⟩ := e
  exact h, fun h => ⟨s, p, rfl, h⟩⟩
theorem contains_ctr {cx : Cx} (h : Seat cx) (hM : MaxL cx) : Ctr cx 84 conSp := by
  refine ctr_flat (by rw [h.hP]; exact ⟨_, Tryz.func84, by kernel_rfl, by kernel_rfl⟩) (fun _ => rfl) ?_
  rintro xs ⟨s, p, rfl, h1⟩
  refine ⟨_, _, _, rfl, ⟨s, p, rfl, rfl⟩, rfl, fun w hw => ?_⟩
  rw [h.hP]
  obtain ⟨m, hm⟩ := hM w hw
  exact (Tryz.strings_Contains s p m w (by omega) hm).mono fun e w' ⟨h1, h2⟩ => ⟨h1, below_same h2⟩
def preSp  : Spec where
  pre xs := ∃ (s : ByteArray) (p : ByteArray), xs = [.str s, .str p]
  post xs y := ∃ (s : ByteArray) (p : ByteArray), xs = [.str s, .str p] ∧ y = .b (preS s p)
  cost _ := 0
  fresh := true
theorem preSp_c  (xs : List AV) : (preSp).cost xs = 0 := nr rfl
theorem preSp_f  : (preSp).fresh = true := nr rfl
theorem preSp_q  (s : ByteArray) (p : ByteArray) : (preSp).pre [.str s, .str p] = (True) := propext ⟨fun h => by
  have h' : ∃ (s' : ByteArray) (p' : ByteArray), ([.str s, .str p] : List AV) = [.str s', .str p'] := h
  obtain ⟨s', p', e⟩ := h'
  simp only [List.cons.injEq, AV.dv.injEq, AV.dp.injEq, AV.fv.injEq, DV.d.injEq, DV.ag.injEq, D.int.injEq, D.str.injEq, D.bool.injEq, D.sl.injEq, true_and, and_true, intsDi_inj, rowsT_inj, rowsKi_inj] at e
  obtain ⟨rfl, rfl⟩ := e
  exact trivial, fun h => ⟨s, p, rfl⟩⟩
theorem preSp_p  (s : ByteArray) (p : ByteArray) : (preSp).post [.str s, .str p] = fun y => y = .b (preS s p) := funext fun y => propext ⟨fun h => by
  have h' : ∃ (s' : ByteArray) (p' : ByteArray), ([.str s, .str p] : List AV) = [.str s', .str p'] ∧ y = .b (preS s' p') := h
  obtain ⟨s', p', e, h⟩ := h'
  simp only [List.cons.injEq, AV.dv.injEq, AV.dp.injEq, AV.fv.injEq, DV.d.injEq, DV.ag.injEq, D.int.injEq, D.str.injEq, D.bool.injEq, D.sl.injEq, true_and, and_true, intsDi_inj, rowsT_inj, rowsKi_inj] at e
  obtain ⟨rfl, rfl⟩ := e
  exact h, fun h => ⟨s, p, rfl, h⟩⟩
theorem hasPrefix_ctr {cx : Cx} (h : Seat cx) : Ctr cx 166 preSp := by
  refine ctr_flat (by rw [h.hP]; exact ⟨_, Tryz.func166, by kernel_rfl, by kernel_rfl⟩) (fun _ => rfl) ?_
  rintro xs ⟨s, p, rfl⟩
  refine ⟨_, _, _, rfl, ⟨s, p, rfl, rfl⟩, rfl, fun w hw => ?_⟩
  rw [h.hP]
  exact (Tryz.strings_HasPrefix s p w).mono fun e w' ⟨h1, h2⟩ => ⟨h1, below_same h2⟩
def cpreF (s p : ByteArray) : ByteArray := ⟨(Lib.trimPrefix s.data.toList p.data.toList).toArray⟩
def cpreSp  : Spec where
  pre xs := ∃ (s : ByteArray) (p : ByteArray), xs = [.str s, .str p]
  post xs y := ∃ (s : ByteArray) (p : ByteArray), xs = [.str s, .str p] ∧ y = .tcons (.str (cpreF s p)) (.tcons (.b (preS s p)) .tnil)
  cost _ := 0
  fresh := true
theorem cpreSp_c  (xs : List AV) : (cpreSp).cost xs = 0 := nr rfl
theorem cpreSp_f  : (cpreSp).fresh = true := nr rfl
theorem cpreSp_q  (s : ByteArray) (p : ByteArray) : (cpreSp).pre [.str s, .str p] = (True) := propext ⟨fun h => by
  have h' : ∃ (s' : ByteArray) (p' : ByteArray), ([.str s, .str p] : List AV) = [.str s', .str p'] := h
  obtain ⟨s', p', e⟩ := h'
  simp only [List.cons.injEq, AV.dv.injEq, AV.dp.injEq, AV.fv.injEq, DV.d.injEq, DV.ag.injEq, D.int.injEq, D.str.injEq, D.bool.injEq, D.sl.injEq, true_and, and_true, intsDi_inj, rowsT_inj, rowsKi_inj] at e
  obtain ⟨rfl, rfl⟩ := e
  exact trivial, fun h => ⟨s, p, rfl⟩⟩
theorem cpreSp_p  (s : ByteArray) (p : ByteArray) : (cpreSp).post [.str s, .str p] = fun y => y = .tcons (.str (cpreF s p)) (.tcons (.b (preS s p)) .tnil) := funext fun y => propext ⟨fun h => by
  have h' : ∃ (s' : ByteArray) (p' : ByteArray), ([.str s, .str p] : List AV) = [.str s', .str p'] ∧ y = .tcons (.str (cpreF s' p')) (.tcons (.b (preS s' p')) .tnil) := h
  obtain ⟨s', p', e, h⟩ := h'
  simp only [List.cons.injEq, AV.dv.injEq, AV.dp.injEq, AV.fv.injEq, DV.d.injEq, DV.ag.injEq, D.int.injEq, D.str.injEq, D.bool.injEq, D.sl.injEq, true_and, and_true, intsDi_inj, rowsT_inj, rowsKi_inj] at e
  obtain ⟨rfl, rfl⟩ := e
  exact h, fun h => ⟨s, p, rfl, h⟩⟩
theorem cutPrefix_ctr {cx : Cx} (h : Seat cx) : Ctr cx 85 cpreSp := by
  refine ctr_flat (by rw [h.hP]; exact ⟨_, Tryz.func85, by kernel_rfl, by kernel_rfl⟩) (fun _ => rfl) ?_
  rintro xs ⟨s, p, rfl⟩
  refine ⟨_, _, _, rfl, ⟨s, p, rfl, rfl⟩, rfl, fun w hw => ?_⟩
  rw [h.hP]
  exact (Tryz.strings_CutPrefix s p w).mono fun e w' ⟨h1, h2⟩ => ⟨h1, below_same h2⟩
def ixB (s : ByteArray) (c : Int) : Int := Lib.indexByte s.data.toList c.toNat.toUInt8
def ixSp  : Spec where
  pre xs := ∃ (s : ByteArray) (c : Int), xs = [.str s, .u8 c]
  post xs y := ∃ (s : ByteArray) (c : Int), xs = [.str s, .u8 c] ∧ y = .i (ixB s c)
  cost _ := 0
  fresh := true
theorem ixSp_c  (xs : List AV) : (ixSp).cost xs = 0 := nr rfl
theorem ixSp_f  : (ixSp).fresh = true := nr rfl
theorem ixSp_q  (s : ByteArray) (c : Int) : (ixSp).pre [.str s, .u8 c] = (True) := propext ⟨fun h => by
  have h' : ∃ (s' : ByteArray) (c' : Int), ([.str s, .u8 c] : List AV) = [.str s', .u8 c'] := h
  obtain ⟨s', c', e⟩ := h'
  simp only [List.cons.injEq, AV.dv.injEq, AV.dp.injEq, AV.fv.injEq, DV.d.injEq, DV.ag.injEq, D.int.injEq, D.str.injEq, D.bool.injEq, D.sl.injEq, true_and, and_true, intsDi_inj, rowsT_inj, rowsKi_inj] at e
  obtain ⟨rfl, rfl⟩ := e
  exact trivial, fun h => ⟨s, c, rfl⟩⟩
theorem ixSp_p  (s : ByteArray) (c : Int) : (ixSp).post [.str s, .u8 c] = fun y => y = .i (ixB s c) := funext fun y => propext ⟨fun h => by
  have h' : ∃ (s' : ByteArray) (c' : Int), ([.str s, .u8 c] : List AV) = [.str s', .u8 c'] ∧ y = .i (ixB s' c') := h
  obtain ⟨s', c', e, h⟩ := h'
  simp only [List.cons.injEq, AV.dv.injEq, AV.dp.injEq, AV.fv.injEq, DV.d.injEq, DV.ag.injEq, D.int.injEq, D.str.injEq, D.bool.injEq, D.sl.injEq, true_and, and_true, intsDi_inj, rowsT_inj, rowsKi_inj] at e
  obtain ⟨rfl, rfl⟩ := e
  exact h, fun h => ⟨s, c, rfl, h⟩⟩
theorem indexByte_ctr {cx : Cx} (h : Seat cx) : Ctr cx 143 ixSp := by
  refine ctr_flat (by rw [h.hP]; exact ⟨_, Tryz.func143, by kernel_rfl, by kernel_rfl⟩) (fun _ => rfl) ?_
  rintro xs ⟨s, c, rfl⟩
  refine ⟨_, _, _, rfl, ⟨s, c, rfl, rfl⟩, rfl, fun w hw => ?_⟩
  rw [h.hP]
  exact (Tryz.strings_IndexByte s c w).mono fun e w' ⟨h1, h2⟩ => ⟨h1, below_same h2⟩
def splitSp  : Spec where
  pre xs := ∃ (s : ByteArray) (p : ByteArray), xs = [.str s, .str p] ∧ (s.size ≤ 4000000000 ∧ 1 ≤ p.size)
  post xs y := ∃ (s : ByteArray) (p : ByteArray), xs = [.str s, .str p] ∧ y = .sl (rowsT (splitS s p))
  cost _ := 0
  fresh := true
theorem splitSp_c  (xs : List AV) : (splitSp).cost xs = 0 := nr rfl
theorem splitSp_f  : (splitSp).fresh = true := nr rfl
theorem splitSp_q  (s : ByteArray) (p : ByteArray) : (splitSp).pre [.str s, .str p] = (s.size ≤ 4000000000 ∧ 1 ≤ p.size) := propext ⟨fun h => by
  have h' : ∃ (s' : ByteArray) (p' : ByteArray), ([.str s, .str p] : List AV) = [.str s', .str p'] ∧ (s'.size ≤ 4000000000 ∧ 1 ≤ p'.size) := h
  obtain ⟨s', p', e, h⟩ := h'
  simp only [List.cons.injEq, AV.dv.injEq, AV.dp.injEq, AV.fv.injEq, DV.d.injEq, DV.ag.injEq, D.int.injEq, D.str.injEq, D.bool.injEq, D.sl.injEq, true_and, and_true, intsDi_inj, rowsT_inj, rowsKi_inj] at e
  obtain ⟨rfl, rfl⟩ := e
  exact h, fun h => ⟨s, p, rfl, h⟩⟩
theorem splitSp_p  (s : ByteArray) (p : ByteArray) : (splitSp).post [.str s, .str p] = fun y => y = .sl (rowsT (splitS s p)) := funext fun y => propext ⟨fun h => by
  have h' : ∃ (s' : ByteArray) (p' : ByteArray), ([.str s, .str p] : List AV) = [.str s', .str p'] ∧ y = .sl (rowsT (splitS s' p')) := h
  obtain ⟨s', p', e, h⟩ := h'
  simp only [List.cons.injEq, AV.dv.injEq, AV.dp.injEq, AV.fv.injEq, DV.d.injEq, DV.ag.injEq, D.int.injEq, D.str.injEq, D.bool.injEq, D.sl.injEq, true_and, and_true, intsDi_inj, rowsT_inj, rowsKi_inj] at e
  obtain ⟨rfl, rfl⟩ := e
  exact h, fun h => ⟨s, p, rfl, h⟩⟩
theorem split_ctr {cx : Cx} (h : Seat cx) (hM : MaxL cx) : Ctr cx 81 splitSp := by
  refine ⟨by rw [h.hP]; exact ⟨_, Tryz.func81, by kernel_rfl, by kernel_rfl⟩, fun xs ⟨s, p, e, _⟩ => ⟨_, s, p, e, rfl⟩, ?_⟩
  rintro F xs us hcx hF hst hgl hco hlen hargs ⟨s, p, rfl, h1, h2⟩
  obtain rfl := vals_of (vs := [.string s, .string p]) rfl hlen hargs
  rw [h.hP]
  obtain ⟨m, hm⟩ := hM F.w0 hgl
  refine (Tryz.strings_Split s p m F.w0 (by omega) hm h2).mono ?_
  rintro e w' ⟨rfl, rfl⟩
  refine ⟨_, _, rfl, Gr.alloc _ F.w0 _, hst.keep (Nat.le_of_lt (alloc_size F.w0 _)) (fun b hb => (alloc_gr F.w0 _).block b hb (by simp)), ⟨s, p, rfl, rfl⟩, rfl, ?_⟩
  show Rd _ _ (.sl (rowsT (splitS s p))) _
  have hl : (rowsT (splitS s p)).length = Lib.countB s p + 1 := by rw [rowsT_len, splitS_len h2]
  rw [← hl]
  have hg : ∀ (i : Nat) (x : List D), (rowsT (splitS s p))[i]? = some x → ∃ t, (splitS s p)[i]? = some t ∧ x = [.str t] := fun i x hx => by
    unfold rowsT at hx
    rw [List.getElem?_map, Option.map_eq_some_iff] at hx
    obtain ⟨t, ht, rfl⟩ := hx
    exact ⟨t, ht, rfl⟩
  refine .sl _ 1 F.w0.heap.size 0 _ (fun i _ => .string ((splitS s p).getD i ⟨#[]⟩)) (Nat.le_refl _) (.inr (Nat.le_refl _)) (alloc_size F.w0 _) (fun i x hx => ?_) (fun i x hx j y hy => ?_) (fun i x hx j y hy => ?_)
  · obtain ⟨t, ht, rfl⟩ := hg i x hx
    rfl
  · obtain ⟨t, ht, rfl⟩ := hg i x hx
    cases j with
    | succ j => simp at hy
    | zero =>
      unfold World.cell?
      rw [heap_alloc_new]
      show (((Lib.splitB p 0 (Lib.countB s p) s).map Value.string).toArray)[0 + i * 1 + 0]? = _
      rw [List.getElem?_toArray, List.getElem?_map, List.getD_eq_getElem?_getD, ht, show 0 + i * 1 + 0 = i by omega]
      show ((splitS s p)[i]?).map _ = _
      rw [ht]
      rfl
  · obtain ⟨t, ht, rfl⟩ := hg i x hx
    cases j with
    | succ j => simp at hy
    | zero =>
      cases hy
      rw [List.getD_eq_getElem?_getD, ht]
      exact .str t
/-! ### Comparisons -/
def cmpISp  : Spec where
  pre xs := ∃ (a : Int) (b : Int), xs = [.i a, .i b]
  post xs y := ∃ (a : Int) (b : Int), xs = [.i a, .i b] ∧ y = .i (cmpI a b)
  cost _ := 0
  fresh := true
theorem cmpISp_c  (xs : List AV) : (cmpISp).cost xs = 0 := nr rfl
theorem cmpISp_f  : (cmpISp).fresh = true := nr rfl
theorem cmpISp_q  (a : Int) (b : Int) : (cmpISp).pre [.i a, .i b] = (True) := propext ⟨fun h => by
  have h' : ∃ (a' : Int) (b' : Int), ([.i a, .i b] : List AV) = [.i a', .i b'] := h
  obtain ⟨a', b', e⟩ := h'
  simp only [List.cons.injEq, AV.dv.injEq, AV.dp.injEq, AV.fv.injEq, DV.d.injEq, DV.ag.injEq, D.int.injEq, D.str.injEq, D.bool.injEq, D.sl.injEq, true_and, and_true, intsDi_inj, rowsT_inj, rowsKi_inj] at e
  obtain ⟨rfl, rfl⟩ := e
  exact trivial, fun h => ⟨a, b, rfl⟩⟩
theorem cmpISp_p  (a : Int) (b : Int) : (cmpISp).post [.i a, .i b] = fun y => y = .i (cmpI a b) := funext fun y => propext ⟨fun h => by
  have h' : ∃ (a' : Int) (b' : Int), ([.i a, .i b] : List AV) = [.i a', .i b'] ∧ y = .i (cmpI a' b') := h
  obtain ⟨a', b', e, h⟩ := h'
  simp only [List.cons.injEq, AV.dv.injEq, AV.dp.injEq, AV.fv.injEq, DV.d.injEq, DV.ag.injEq, D.int.injEq, D.str.injEq, D.bool.injEq, D.sl.injEq, true_and, and_true, intsDi_inj, rowsT_inj, rowsKi_inj] at e
  obtain ⟨rfl, rfl⟩ := e
  exact h, fun h => ⟨a, b, rfl, h⟩⟩
theorem compareI_ctr {cx : Cx} (h : Seat cx) : Ctr cx 119 cmpISp := by
  refine ctr_flat (by rw [h.hP]; exact ⟨_, Tryz.func119, by kernel_rfl, by kernel_rfl⟩) (fun _ => rfl) ?_
  rintro xs ⟨a, b, rfl⟩
  refine ⟨_, _, _, rfl, ⟨a, b, rfl, rfl⟩, rfl, fun w hw => ?_⟩
  rw [h.hP]
  exact (Tryz.cmp_Compare_int a b w).mono fun e w' ⟨h1, h2⟩ => ⟨h1, below_same h2⟩
end Go.Avc

/- Zones: what is wrong with them, by the program and by the reference; what their clocks show: the program. No condition. -/
set_option linter.unusedVariables false
set_option linter.unusedSimpArgs false
set_option maxRecDepth 100000
namespace Go.Avc
open Go Go.Proofs

def shE (l : List TShift) (i : Nat) : Int := if inB (l.getD i TShift.z).at_ 0 4321439 = false ∨ inB (l.getD i TShift.z).offset (-720) 840 = false then 1 else if i = 0 ∧ ¬ (l.getD i TShift.z).at_ = 0 then 3 else if 0 < (i : Int) ∧ (l.getD i TShift.z).at_ < (l.getD (i - 1) TShift.z).at_ + 1800 then 7 else 0
def zoneF (z : TZone) : Int := if keyB z.name = false then 5 else if z.shifts.length = 0 then 3 else if 100 < (z.shifts.length : Int) then 2 else firstI z.shifts.length (shE z.shifts)
/-- In a round of the loop all shifts behind are in their bounds. -/
theorem shE_in {l : List TShift} {i : Nat} (h : shE l i = 0) : 0 ≤ (l.getD i TShift.z).at_ ∧ (l.getD i TShift.z).at_ ≤ 4321439 ∧ -720 ≤ (l.getD i TShift.z).offset ∧ (l.getD i TShift.z).offset ≤ 840 := by
  unfold shE at h
  split at h
  · cases h
  · rename_i c
    simp only [not_or, Bool.not_eq_false] at c
    have c1 := of_decide_eq_true c.1
    have c2 := of_decide_eq_true c.2
    exact ⟨c1.1, c1.2, c2.1, c2.2⟩
def zoneS  : Spec where
  pre xs := ∃ (z : TZone), xs = [.dv (.ag z.row)] ∧ (z.ok)
  post xs y := ∃ (z : TZone), xs = [.dv (.ag z.row)] ∧ y = .i (zoneF z)
  cost _ := 0
  fresh := true
theorem zoneS_c  (xs : List AV) : (zoneS).cost xs = 0 := nr rfl
theorem zoneS_f  : (zoneS).fresh = true := nr rfl
theorem zoneS_q  (z : TZone) : (zoneS).pre [.dv (.ag [.str z.name, .sl (TShift.rows z.shifts)])] = (z.ok) := propext ⟨fun h => by
  have h' : ∃ (z' : TZone), ([.dv (.ag z.row)] : List AV) = [.dv (.ag z'.row)] ∧ (z'.ok) := h
  obtain ⟨z', e, h⟩ := h'
  simp only [List.cons.injEq, AV.dv.injEq, AV.dp.injEq, AV.fv.injEq, DV.d.injEq, DV.ag.injEq, D.int.injEq, D.str.injEq, D.bool.injEq, D.sl.injEq, true_and, and_true, intsDi_inj, rowsT_inj, rowsKi_inj, TZone.row_inj, TZone.rows_inj] at e
  obtain rfl := e
  exact h, fun h => ⟨z, rfl, h⟩⟩
theorem zoneS_p  (z : TZone) : (zoneS).post [.dv (.ag [.str z.name, .sl (TShift.rows z.shifts)])] = fun y => y = .i (zoneF z) := funext fun y => propext ⟨fun h => by
  have h' : ∃ (z' : TZone), ([.dv (.ag z.row)] : List AV) = [.dv (.ag z'.row)] ∧ y = .i (zoneF z') := h
  obtain ⟨z', e, h⟩ := h'
  simp only [List.cons.injEq, AV.dv.injEq, AV.dp.injEq, AV.fv.injEq, DV.d.injEq, DV.ag.injEq, D.int.injEq, D.str.injEq, D.bool.injEq, D.sl.injEq, true_and, and_true, intsDi_inj, rowsT_inj, rowsKi_inj, TZone.row_inj, TZone.rows_inj] at e
  obtain rfl := e
  exact h, fun h => ⟨z, rfl, h⟩⟩
set_option maxHeartbeats 4000000 in
theorem CheckZone_ctr {cx : Cx} (h : Seat cx) : Ctr cx 69 zoneS := by
  refine ctr_of (fn := Tryz.f69) (l := [.tmp 2]) (envL [(90, (strB keyB)), (56, inS)]) [0, 1, 2, 3, 4, 5, 10, 15, 21, 22, 23, 24, 28, 39, 47] [] [] (envL_cons (IsKey_ctr h) (envL_cons (ewithin_ctr h) (env0 h.hP))) ?_ (by rw [h.hP]; exact Tryz.func69) rfl (by kernel_rfl) rfl ?_ ?_
  · rw [h.hP]; exact ⟨_, Tryz.func69, by kernel_rfl, by kernel_rfl⟩
  · rintro xs ⟨z, rfl, h1⟩; exact ⟨_, z, rfl, rfl⟩
  · rintro xs ⟨z, rfl, h1⟩
    refine ⟨by rw [Tryz.ntmps69]; simp, ?_⟩
    simp only [go_sem, h.hP, List.cons_append, List.nil_append, Meets_e, Below_e, Prod.exists, exists_eq, exists_eq_left, exists_eq_left', exists_eq_right, exists_eq_right', exists_and_left, exists_and_right, Ob.arr.injEq, AV.own.injEq, AV.fv.injEq, zoneS_q, zoneS_p, zoneS_c, zoneS_f, strB_q, strB_p, strB_c, strB_f, TZone.row, TShift.len, Tryz.ntmps69, Nat.reduceEqDiff, reduceCtorEq, Nat.reduceMul, Nat.reduceAdd, Nat.reduceSub, Nat.reduceDiv, Nat.reduceMod, Nat.reduceLeDiff, Nat.reduceLT, Nat.reduceBNe, Nat.reduceBEq, reduceIte, Int.reduceLE, Int.reduceLT, Int.reduceToNat, Int.reduceNeg, Int.reduceAdd, Int.reduceSub, Int.reduceMul, Int.reduceEq]
    obtain ⟨o1, o2⟩ := h1
    unfold okS at o1
    refine ⟨by omega, fun c => (if_pos c).symm, fun c => ⟨fun d => ((if_neg (ne_ft c)).trans (if_pos (by omega))).symm, fun d => ⟨fun e => ((if_neg (ne_ft c)).trans ((if_neg (by omega)).trans (if_pos e))).symm, fun e => ?_⟩⟩⟩
    have hc : zoneF z = firstI z.shifts.length (shE z.shifts) := (if_neg (ne_ft c)).trans ((if_neg (by omega)).trans (if_neg e))
    rw [hc]
    refine vc_loopS (Int) (fun (i : Int) => [(23, .i i)]) [1] (fun (i : Int) => []) (fun (i : Int) => []) (fun (i : Int) => 0) (fun (i : Int) => Rounds z.shifts.length (shE z.shifts) i) (fun (i : Int) => (z.shifts.length - i).toNat) [] ?_ ?_
    · simp only [go_sem, h.hP, List.cons_append, List.nil_append, Meets_e, Below_e, Prod.exists, exists_eq, exists_eq_left, exists_eq_left', exists_eq_right, exists_eq_right', exists_and_left, exists_and_right, Ob.arr.injEq, AV.own.injEq, AV.fv.injEq, Tryz.ntmps69, Nat.reduceEqDiff, reduceCtorEq, Nat.reduceMul, Nat.reduceAdd, Nat.reduceSub, Nat.reduceDiv, Nat.reduceMod, Nat.reduceLeDiff, Nat.reduceLT, Nat.reduceBNe, Nat.reduceBEq, reduceIte, Int.reduceLE, Int.reduceLT, Int.reduceToNat, Int.reduceNeg, Int.reduceAdd, Int.reduceSub, Int.reduceMul, Int.reduceEq]
      exact Rounds.start
    · rintro i hr
      have hP : 0 < i → 0 ≤ (z.shifts.getD (i.toNat - 1) TShift.z).at_ ∧ (z.shifts.getD (i.toNat - 1) TShift.z).at_ ≤ 4321439 := fun a => by
        have := shE_in (hr.2.2 (i.toNat - 1) (by omega))
        exact ⟨this.1, this.2.1⟩
      obtain ⟨hi, hS, hM, hE, hN⟩ := hr.use (by omega)
      have hw : 0 < i → i < z.shifts.length → IntKind.i64.wrap (i - 1) = i - 1 := fun a b => i64w (by omega) (by omega)
      simp only [go_sem, h.hP, List.cons_append, List.nil_append, Meets_e, Below_e, Prod.exists, exists_eq, exists_eq_left, exists_eq_left', exists_eq_right, exists_eq_right', exists_and_left, exists_and_right, Ob.arr.injEq, AV.own.injEq, AV.fv.injEq, zoneS_q, zoneS_p, zoneS_c, zoneS_f, inS_q, inS_p, inS_c, inS_f, TZone.row, TShift.len, TShift.get, TShift.rows_inj, Tryz.ntmps69, Nat.reduceEqDiff, reduceCtorEq, Nat.reduceMul, Nat.reduceAdd, Nat.reduceSub, Nat.reduceDiv, Nat.reduceMod, Nat.reduceLeDiff, Nat.reduceLT, Nat.reduceBNe, Nat.reduceBEq, reduceIte, Int.reduceLE, Int.reduceLT, Int.reduceToNat, Int.reduceNeg, Int.reduceAdd, Int.reduceSub, Int.reduceMul, Int.reduceEq]
      refine ⟨fun q => ?_, fun q => (hN q).symm⟩
      have hq : shE z.shifts i.toNat = if inB (z.shifts.getD i.toNat TShift.z).at_ 0 4321439 = false ∨ inB (z.shifts.getD i.toNat TShift.z).offset (-720) 840 = false then 1 else if i = 0 ∧ ¬ (z.shifts.getD i.toNat TShift.z).at_ = 0 then 3 else if 0 < i ∧ (z.shifts.getD i.toNat TShift.z).at_ < (z.shifts.getD (i.toNat - 1) TShift.z).at_ + 1800 then 7 else 0 := by
        unfold shE
        rw [Int.toNat_of_nonneg hi]
        congr 2
        rw [show (i.toNat = 0) = (i = 0) from propext ⟨fun _ => by omega, fun _ => by omega⟩]
      have A1 : (inB (z.shifts.getD i.toNat TShift.z).at_ 0 4321439 = false ∨ inB (z.shifts.getD i.toNat TShift.z).offset (-720) 840 = false) → 1 = firstI z.shifts.length (shE z.shifts) := fun a => (hE 1 q (hq.trans (if_pos a)) (by decide)).symm
      have no : inB (z.shifts.getD i.toNat TShift.z).at_ 0 4321439 = true → inB (z.shifts.getD i.toNat TShift.z).offset (-720) 840 = true → ¬ (inB (z.shifts.getD i.toNat TShift.z).at_ 0 4321439 = false ∨ inB (z.shifts.getD i.toNat TShift.z).offset (-720) 840 = false) := fun a b c => c.elim (ne_ft a) (ne_ft b)
      have A3 : inB (z.shifts.getD i.toNat TShift.z).at_ 0 4321439 = true → inB (z.shifts.getD i.toNat TShift.z).offset (-720) 840 = true → i = 0 → ¬ (z.shifts.getD i.toNat TShift.z).at_ = 0 → 3 = firstI z.shifts.length (shE z.shifts) := fun a b c d => (hE 3 q (hq.trans ((if_neg (no a b)).trans (if_pos ⟨c, d⟩))) (by decide)).symm
      have A7 : inB (z.shifts.getD i.toNat TShift.z).at_ 0 4321439 = true → inB (z.shifts.getD i.toNat TShift.z).offset (-720) 840 = true → 0 < i → (z.shifts.getD i.toNat TShift.z).at_ < IntKind.i64.wrap ((z.shifts.getD (IntKind.i64.wrap (i - 1)).toNat TShift.z).at_ + 1800) → 7 = firstI z.shifts.length (shE z.shifts) := fun a b c d => by
        rw [hw c q, show (i - 1).toNat = i.toNat - 1 by omega, i64w (by have := hP c; omega) (by have := hP c; omega)] at d
        exact (hE 7 q (hq.trans ((if_neg (no a b)).trans ((if_neg (by omega)).trans (if_pos ⟨c, d⟩)))) (by decide)).symm
      have A0 : inB (z.shifts.getD i.toNat TShift.z).at_ 0 4321439 = true → inB (z.shifts.getD i.toNat TShift.z).offset (-720) 840 = true → (i = 0 → (z.shifts.getD i.toNat TShift.z).at_ = 0) → (0 < i → ¬ (z.shifts.getD i.toNat TShift.z).at_ < IntKind.i64.wrap ((z.shifts.getD (IntKind.i64.wrap (i - 1)).toNat TShift.z).at_ + 1800)) → Rounds z.shifts.length (shE z.shifts) (IntKind.i64.wrap (i + 1)) ∧ ((z.shifts.length : Int) - IntKind.i64.wrap (i + 1)).toNat < ((z.shifts.length : Int) - i).toNat := fun a b c d => by
        refine ⟨hS q (hq.trans ((if_neg (no a b)).trans ((if_neg (fun e => e.2 (c e.1))).trans (if_neg ?_)))), hM q⟩
        rintro ⟨e1, e2⟩
        refine d e1 ?_
        rw [hw e1 q, show (i - 1).toNat = i.toNat - 1 by omega, i64w (by have := hP e1; omega) (by have := hP e1; omega)]
        exact e2
      have W : 0 < i → 0 ≤ IntKind.i64.wrap (i - 1) ∧ IntKind.i64.wrap (i - 1) < z.shifts.length := fun a => by rw [hw a q]; omega
      exact ⟨hi, q, fun a => ⟨fun b => A1 (.inr b), fun b => ⟨fun c => ⟨A3 a b c, fun d => ⟨fun e => ((by omega : False)).elim, fun e => A0 a b (fun _ => d) (fun e' => absurd e' e)⟩⟩, fun c => ⟨fun e => ⟨(W e).1, (W e).2, A7 a b e, fun f => A0 a b (fun c' => absurd c' c) (fun _ => f)⟩, fun e => ((by omega : False)).elim⟩⟩⟩, fun a => A1 (.inl a)⟩
set_option maxHeartbeats 4000000 in
theorem ZoneFault_ctr {cx : Cx} (h : Seat cx) : Ctr cx 28 zoneS := by
  refine ctr_of (fn := Tryz.f28) (l := [.tmp 2]) (envL [(65, (strB keyB)), (57, inS)]) [0, 1, 2, 3, 4, 5, 10, 15, 21, 22, 23, 24, 28, 39, 47] [] [] (envL_cons (Key_ctr h) (envL_cons (in_ctr h) (env0 h.hP))) ?_ (by rw [h.hP]; exact Tryz.func28) rfl (by kernel_rfl) rfl ?_ ?_
  · rw [h.hP]; exact ⟨_, Tryz.func28, by kernel_rfl, by kernel_rfl⟩
  · rintro xs ⟨z, rfl, h1⟩; exact ⟨_, z, rfl, rfl⟩
  · rintro xs ⟨z, rfl, h1⟩
    refine ⟨by rw [Tryz.ntmps28]; simp, ?_⟩
    simp only [go_sem, h.hP, List.cons_append, List.nil_append, Meets_e, Below_e, Prod.exists, exists_eq, exists_eq_left, exists_eq_left', exists_eq_right, exists_eq_right', exists_and_left, exists_and_right, Ob.arr.injEq, AV.own.injEq, AV.fv.injEq, zoneS_q, zoneS_p, zoneS_c, zoneS_f, strB_q, strB_p, strB_c, strB_f, TZone.row, TShift.len, Tryz.ntmps28, Nat.reduceEqDiff, reduceCtorEq, Nat.reduceMul, Nat.reduceAdd, Nat.reduceSub, Nat.reduceDiv, Nat.reduceMod, Nat.reduceLeDiff, Nat.reduceLT, Nat.reduceBNe, Nat.reduceBEq, reduceIte, Int.reduceLE, Int.reduceLT, Int.reduceToNat, Int.reduceNeg, Int.reduceAdd, Int.reduceSub, Int.reduceMul, Int.reduceEq]
    obtain ⟨o1, o2⟩ := h1
    unfold okS at o1
    refine ⟨by omega, fun c => (if_pos c).symm, fun c => ⟨fun d => ((if_neg (ne_ft c)).trans (if_pos (by omega))).symm, fun d => ⟨fun e => ((if_neg (ne_ft c)).trans ((if_neg (by omega)).trans (if_pos e))).symm, fun e => ?_⟩⟩⟩
    have hc : zoneF z = firstI z.shifts.length (shE z.shifts) := (if_neg (ne_ft c)).trans ((if_neg (by omega)).trans (if_neg e))
    rw [hc]
    refine vc_loopS (Int) (fun (i : Int) => [(23, .i i)]) [1] (fun (i : Int) => []) (fun (i : Int) => []) (fun (i : Int) => 0) (fun (i : Int) => Rounds z.shifts.length (shE z.shifts) i) (fun (i : Int) => (z.shifts.length - i).toNat) [] ?_ ?_
    · simp only [go_sem, h.hP, List.cons_append, List.nil_append, Meets_e, Below_e, Prod.exists, exists_eq, exists_eq_left, exists_eq_left', exists_eq_right, exists_eq_right', exists_and_left, exists_and_right, Ob.arr.injEq, AV.own.injEq, AV.fv.injEq, Tryz.ntmps28, Nat.reduceEqDiff, reduceCtorEq, Nat.reduceMul, Nat.reduceAdd, Nat.reduceSub, Nat.reduceDiv, Nat.reduceMod, Nat.reduceLeDiff, Nat.reduceLT, Nat.reduceBNe, Nat.reduceBEq, reduceIte, Int.reduceLE, Int.reduceLT, Int.reduceToNat, Int.reduceNeg, Int.reduceAdd, Int.reduceSub, Int.reduceMul, Int.reduceEq]
      exact Rounds.start
    · rintro i hr
      have hP : 0 < i → 0 ≤ (z.shifts.getD (i.toNat - 1) TShift.z).at_ ∧ (z.shifts.getD (i.toNat - 1) TShift.z).at_ ≤ 4321439 := fun a => by
        have := shE_in (hr.2.2 (i.toNat - 1) (by omega))
        exact ⟨this.1, this.2.1⟩
      obtain ⟨hi, hS, hM, hE, hN⟩ := hr.use (by omega)
      have hw : 0 < i → i < z.shifts.length → IntKind.i64.wrap (i - 1) = i - 1 := fun a b => i64w (by omega) (by omega)
      simp only [go_sem, h.hP, List.cons_append, List.nil_append, Meets_e, Below_e, Prod.exists, exists_eq, exists_eq_left, exists_eq_left', exists_eq_right, exists_eq_right', exists_and_left, exists_and_right, Ob.arr.injEq, AV.own.injEq, AV.fv.injEq, zoneS_q, zoneS_p, zoneS_c, zoneS_f, inS_q, inS_p, inS_c, inS_f, TZone.row, TShift.len, TShift.get, TShift.rows_inj, Tryz.ntmps28, Nat.reduceEqDiff, reduceCtorEq, Nat.reduceMul, Nat.reduceAdd, Nat.reduceSub, Nat.reduceDiv, Nat.reduceMod, Nat.reduceLeDiff, Nat.reduceLT, Nat.reduceBNe, Nat.reduceBEq, reduceIte, Int.reduceLE, Int.reduceLT, Int.reduceToNat, Int.reduceNeg, Int.reduceAdd, Int.reduceSub, Int.reduceMul, Int.reduceEq]
      refine ⟨fun q => ?_, fun q => (hN q).symm⟩
      have hq : shE z.shifts i.toNat = if inB (z.shifts.getD i.toNat TShift.z).at_ 0 4321439 = false ∨ inB (z.shifts.getD i.toNat TShift.z).offset (-720) 840 = false then 1 else if i = 0 ∧ ¬ (z.shifts.getD i.toNat TShift.z).at_ = 0 then 3 else if 0 < i ∧ (z.shifts.getD i.toNat TShift.z).at_ < (z.shifts.getD (i.toNat - 1) TShift.z).at_ + 1800 then 7 else 0 := by
        unfold shE
        rw [Int.toNat_of_nonneg hi]
        congr 2
        rw [show (i.toNat = 0) = (i = 0) from propext ⟨fun _ => by omega, fun _ => by omega⟩]
      have A1 : (inB (z.shifts.getD i.toNat TShift.z).at_ 0 4321439 = false ∨ inB (z.shifts.getD i.toNat TShift.z).offset (-720) 840 = false) → 1 = firstI z.shifts.length (shE z.shifts) := fun a => (hE 1 q (hq.trans (if_pos a)) (by decide)).symm
      have no : inB (z.shifts.getD i.toNat TShift.z).at_ 0 4321439 = true → inB (z.shifts.getD i.toNat TShift.z).offset (-720) 840 = true → ¬ (inB (z.shifts.getD i.toNat TShift.z).at_ 0 4321439 = false ∨ inB (z.shifts.getD i.toNat TShift.z).offset (-720) 840 = false) := fun a b c => c.elim (ne_ft a) (ne_ft b)
      have A3 : inB (z.shifts.getD i.toNat TShift.z).at_ 0 4321439 = true → inB (z.shifts.getD i.toNat TShift.z).offset (-720) 840 = true → i = 0 → ¬ (z.shifts.getD i.toNat TShift.z).at_ = 0 → 3 = firstI z.shifts.length (shE z.shifts) := fun a b c d => (hE 3 q (hq.trans ((if_neg (no a b)).trans (if_pos ⟨c, d⟩))) (by decide)).symm
      have A7 : inB (z.shifts.getD i.toNat TShift.z).at_ 0 4321439 = true → inB (z.shifts.getD i.toNat TShift.z).offset (-720) 840 = true → 0 < i → (z.shifts.getD i.toNat TShift.z).at_ < IntKind.i64.wrap ((z.shifts.getD (IntKind.i64.wrap (i - 1)).toNat TShift.z).at_ + 1800) → 7 = firstI z.shifts.length (shE z.shifts) := fun a b c d => by
        rw [hw c q, show (i - 1).toNat = i.toNat - 1 by omega, i64w (by have := hP c; omega) (by have := hP c; omega)] at d
        exact (hE 7 q (hq.trans ((if_neg (no a b)).trans ((if_neg (by omega)).trans (if_pos ⟨c, d⟩)))) (by decide)).symm
      have A0 : inB (z.shifts.getD i.toNat TShift.z).at_ 0 4321439 = true → inB (z.shifts.getD i.toNat TShift.z).offset (-720) 840 = true → (i = 0 → (z.shifts.getD i.toNat TShift.z).at_ = 0) → (0 < i → ¬ (z.shifts.getD i.toNat TShift.z).at_ < IntKind.i64.wrap ((z.shifts.getD (IntKind.i64.wrap (i - 1)).toNat TShift.z).at_ + 1800)) → Rounds z.shifts.length (shE z.shifts) (IntKind.i64.wrap (i + 1)) ∧ ((z.shifts.length : Int) - IntKind.i64.wrap (i + 1)).toNat < ((z.shifts.length : Int) - i).toNat := fun a b c d => by
        refine ⟨hS q (hq.trans ((if_neg (no a b)).trans ((if_neg (fun e => e.2 (c e.1))).trans (if_neg ?_)))), hM q⟩
        rintro ⟨e1, e2⟩
        refine d e1 ?_
        rw [hw e1 q, show (i - 1).toNat = i.toNat - 1 by omega, i64w (by have := hP e1; omega) (by have := hP e1; omega)]
        exact e2
      have W : 0 < i → 0 ≤ IntKind.i64.wrap (i - 1) ∧ IntKind.i64.wrap (i - 1) < z.shifts.length := fun a => by rw [hw a q]; omega
      exact ⟨hi, q, fun a => ⟨fun b => A1 (.inr b), fun b => ⟨fun c => ⟨A3 a b c, fun d => ⟨fun e => ((by omega : False)).elim, fun e => A0 a b (fun _ => d) (fun e' => absurd e' e)⟩⟩, fun c => ⟨fun e => ⟨(W e).1, (W e).2, A7 a b e, fun f => A0 a b (fun c' => absurd c' c) (fun _ => f)⟩, fun e => ((by omega : False)).elim⟩⟩⟩, fun a => A1 (.inl a)⟩

end Go.Avc

/- Ids: what is wrong with them and their order, by the program. No condition. -/
set_option linter.unusedVariables false
set_option linter.unusedSimpArgs false
set_option maxRecDepth 100000
namespace Go.Avc
open Go Go.Proofs

/-- a closure over nothing on bytes -/
def byteΦ (p : Int → Bool) : List (List D) → FSpec := csp F0 u8D fun _ c => p c
theorem byteΦ_h (p : Int → Bool) (c : Int) : (byteΦ p []).holds (.d (.int .u8 c)) = p c := csp_holds (g := fun _ c => p c) F0_inj u8D_inj () c
theorem byteΦ_d (p : Int → Bool) (c : Int) : (byteΦ p []).det (.d (.int .u8 c)) := csp_det (g := fun _ c => p c) F0_inj u8D_inj () c
theorem byteΦ_of {cx : Cx} {fn : FuncId} {p : Int → Bool} (h : Ctr cx fn (byteS p)) : ∀ caps, Ctr cx fn (clo (byteΦ p) caps) := clo_of (g := fun _ c => p c) (h.weaken (fun xs ⟨_, a, e⟩ => ⟨a, e⟩) (fun xs r ⟨_, a, e⟩ ⟨b, e2, e3⟩ => ⟨(), b, e2, e3⟩) (fun _ => Nat.le_refl _) rfl)
theorem isLabel1_ctr {cx : Cx} (h : Seat cx) : Ctr cx 204 (byteS labC) := by
  refine ctr_of (fn := Tryz.f204) (l := [.tmp 2]) (envL [(145, (byteS smallC)), (148, (byteS digitC))]) [0, 2] [] [] (envL_cons (small_ctr h) (envL_cons (digit_ctr h) (env0 h.hP))) ?_ (by rw [h.hP]; exact Tryz.func204) rfl (by kernel_rfl) rfl ?_ ?_
  · rw [h.hP]; exact ⟨_, Tryz.func204, by kernel_rfl, by kernel_rfl⟩
  · rintro xs ⟨c, rfl⟩; exact ⟨_, c, rfl, rfl⟩
  · rintro xs ⟨c, rfl⟩
    refine ⟨by rw [Tryz.ntmps204]; simp, ?_⟩
    simp only [go_sem, h.hP, byteS_q, byteS_p, byteS_c, byteS_f, Tryz.ntmps204, Nat.reduceEqDiff, reduceCtorEq, Nat.reduceMul, Nat.reduceAdd, Nat.reduceSub, Nat.reduceDiv, Nat.reduceMod, Nat.reduceLeDiff, Nat.reduceLT, Nat.reduceBNe, Nat.reduceBEq, reduceIte, Int.reduceLE, Int.reduceLT, Int.reduceToNat, Int.reduceNeg, Int.reduceAdd, Int.reduceSub, Int.reduceMul, Int.reduceEq]
    grind [labC]
theorem isMail1_ctr {cx : Cx} (h : Seat cx) : Ctr cx 171 (byteS locC) := by
  refine ctr_of (fn := Tryz.f171) (l := [.tmp 2]) (envL [(145, (byteS smallC)), (148, (byteS digitC))]) [0, 2] [] [] (envL_cons (small_ctr h) (envL_cons (digit_ctr h) (env0 h.hP))) ?_ (by rw [h.hP]; exact Tryz.func171) rfl (by kernel_rfl) rfl ?_ ?_
  · rw [h.hP]; exact ⟨_, Tryz.func171, by kernel_rfl, by kernel_rfl⟩
  · rintro xs ⟨c, rfl⟩; exact ⟨_, c, rfl, rfl⟩
  · rintro xs ⟨c, rfl⟩
    refine ⟨by rw [Tryz.ntmps171]; simp, ?_⟩
    simp only [go_sem, h.hP, byteS_q, byteS_p, byteS_c, byteS_f, Tryz.ntmps171, Nat.reduceEqDiff, reduceCtorEq, Nat.reduceMul, Nat.reduceAdd, Nat.reduceSub, Nat.reduceDiv, Nat.reduceMod, Nat.reduceLeDiff, Nat.reduceLT, Nat.reduceBNe, Nat.reduceBEq, reduceIte, Int.reduceLE, Int.reduceLT, Int.reduceToNat, Int.reduceNeg, Int.reduceAdd, Int.reduceSub, Int.reduceMul, Int.reduceEq]
    grind [locC]
theorem capital_ctr {cx : Cx} (h : Seat cx) : Ctr cx 174 (byteS capitalC) := by
  refine ctr_of (fn := Tryz.f174) (l := [.tmp 2]) (envL []) [0, 2] [] [] (env0 h.hP) ?_ (by rw [h.hP]; exact Tryz.func174) rfl (by kernel_rfl) rfl ?_ ?_
  · rw [h.hP]; exact ⟨_, Tryz.func174, by kernel_rfl, by kernel_rfl⟩
  · rintro xs ⟨c, rfl⟩; exact ⟨_, c, rfl, rfl⟩
  · rintro xs ⟨c, rfl⟩
    refine ⟨by rw [Tryz.ntmps174]; simp, ?_⟩
    simp only [go_sem, h.hP, byteS_q, byteS_p, byteS_c, byteS_f, Tryz.ntmps174, Nat.reduceEqDiff, reduceCtorEq, Nat.reduceMul, Nat.reduceAdd, Nat.reduceSub, Nat.reduceDiv, Nat.reduceMod, Nat.reduceLeDiff, Nat.reduceLT, Nat.reduceBNe, Nat.reduceBEq, reduceIte, Int.reduceLE, Int.reduceLT, Int.reduceToNat, Int.reduceNeg, Int.reduceAdd, Int.reduceSub, Int.reduceMul, Int.reduceEq]
    unfold capitalC
    exact ⟨fun c => by simp [c], fun c => by simp [c]⟩
theorem isMember1_ctr {cx : Cx} (h : Seat cx) : Ctr cx 173 (byteS memC) := by
  refine ctr_of (fn := Tryz.f173) (l := [.tmp 2]) (envL [(174, (byteS capitalC)), (148, (byteS digitC))]) [0, 2] [] [] (envL_cons (capital_ctr h) (envL_cons (digit_ctr h) (env0 h.hP))) ?_ (by rw [h.hP]; exact Tryz.func173) rfl (by kernel_rfl) rfl ?_ ?_
  · rw [h.hP]; exact ⟨_, Tryz.func173, by kernel_rfl, by kernel_rfl⟩
  · rintro xs ⟨c, rfl⟩; exact ⟨_, c, rfl, rfl⟩
  · rintro xs ⟨c, rfl⟩
    refine ⟨by rw [Tryz.ntmps173]; simp, ?_⟩
    simp only [go_sem, h.hP, byteS_q, byteS_p, byteS_c, byteS_f, Tryz.ntmps173, Nat.reduceEqDiff, reduceCtorEq, Nat.reduceMul, Nat.reduceAdd, Nat.reduceSub, Nat.reduceDiv, Nat.reduceMod, Nat.reduceLeDiff, Nat.reduceLT, Nat.reduceBNe, Nat.reduceBEq, reduceIte, Int.reduceLE, Int.reduceLT, Int.reduceToNat, Int.reduceNeg, Int.reduceAdd, Int.reduceSub, Int.reduceMul, Int.reduceEq]
    grind [memC]
theorem isDevice1_ctr {cx : Cx} (h : Seat cx) : Ctr cx 175 (byteS hexC) := by
  refine ctr_of (fn := Tryz.f175) (l := [.tmp 2]) (envL [(148, (byteS digitC))]) [0, 2] [] [] (envL_cons (digit_ctr h) (env0 h.hP)) ?_ (by rw [h.hP]; exact Tryz.func175) rfl (by kernel_rfl) rfl ?_ ?_
  · rw [h.hP]; exact ⟨_, Tryz.func175, by kernel_rfl, by kernel_rfl⟩
  · rintro xs ⟨c, rfl⟩; exact ⟨_, c, rfl, rfl⟩
  · rintro xs ⟨c, rfl⟩
    refine ⟨by rw [Tryz.ntmps175]; simp, ?_⟩
    simp only [go_sem, h.hP, byteS_q, byteS_p, byteS_c, byteS_f, Tryz.ntmps175, Nat.reduceEqDiff, reduceCtorEq, Nat.reduceMul, Nat.reduceAdd, Nat.reduceSub, Nat.reduceDiv, Nat.reduceMod, Nat.reduceLeDiff, Nat.reduceLT, Nat.reduceBNe, Nat.reduceBEq, reduceIte, Int.reduceLE, Int.reduceLT, Int.reduceToNat, Int.reduceNeg, Int.reduceAdd, Int.reduceSub, Int.reduceMul, Int.reduceEq]
    grind [hexC]
def strB4 (p : ByteArray → Bool) : Spec where
  pre xs := ∃ (s : ByteArray), xs = [.str s] ∧ (s.size ≤ 4000000000)
  post xs y := ∃ (s : ByteArray), xs = [.str s] ∧ y = .b (p s)
  cost _ := 0
  fresh := true
theorem strB4_c (p : ByteArray → Bool) (xs : List AV) : (strB4 p).cost xs = 0 := nr rfl
theorem strB4_f (p : ByteArray → Bool) : (strB4 p).fresh = true := nr rfl
theorem strB4_q (p : ByteArray → Bool) (s : ByteArray) : (strB4 p).pre [.str s] = (s.size ≤ 4000000000) := propext ⟨fun h => by
  have h' : ∃ (s' : ByteArray), ([.str s] : List AV) = [.str s'] ∧ (s'.size ≤ 4000000000) := h
  obtain ⟨s', e, h⟩ := h'
  simp only [List.cons.injEq, AV.dv.injEq, AV.dp.injEq, AV.fv.injEq, DV.d.injEq, DV.ag.injEq, D.int.injEq, D.str.injEq, D.bool.injEq, D.sl.injEq, true_and, and_true, intsDi_inj, rowsT_inj, rowsKi_inj] at e
  obtain rfl := e
  exact h, fun h => ⟨s, rfl, h⟩⟩
theorem strB4_p (p : ByteArray → Bool) (s : ByteArray) : (strB4 p).post [.str s] = fun y => y = .b (p s) := funext fun y => propext ⟨fun h => by
  have h' : ∃ (s' : ByteArray), ([.str s] : List AV) = [.str s'] ∧ y = .b (p s') := h
  obtain ⟨s', e, h⟩ := h'
  simp only [List.cons.injEq, AV.dv.injEq, AV.dp.injEq, AV.fv.injEq, DV.d.injEq, DV.ag.injEq, D.int.injEq, D.str.injEq, D.bool.injEq, D.sl.injEq, true_and, and_true, intsDi_inj, rowsT_inj, rowsKi_inj] at e
  obtain rfl := e
  exact h, fun h => ⟨s, rfl, h⟩⟩
theorem isLabel_ctr {cx : Cx} (h : Seat cx) : Ctr cx 172 (strB4 labelB) := by
  refine ctr_of (fn := Tryz.f172) (l := [.tmp 2]) (envF [(144, inS), (146, allS)] [(204, (byteΦ labC))]) [0, 2] [] [] (envF_cons (byteΦ_of (isLabel1_ctr h)) (envF_nil (envL_cons (pwithin_ctr h) (envL_cons (all_ctr h) (env0 h.hP))))) ?_ (by rw [h.hP]; exact Tryz.func172) rfl (by kernel_rfl) rfl ?_ ?_
  · rw [h.hP]; exact ⟨_, Tryz.func172, by kernel_rfl, by kernel_rfl⟩
  · rintro xs ⟨s, rfl, hs⟩; exact ⟨_, s, rfl, rfl⟩
  · rintro xs ⟨s, rfl, hs⟩
    refine ⟨by rw [Tryz.ntmps172]; simp, ?_⟩
    simp only [go_sem, h.hP, List.cons_append, List.nil_append, Meets_e, Below_e, Prod.exists, exists_eq, exists_eq_left, exists_eq_left', exists_eq_right, exists_eq_right', exists_and_left, exists_and_right, Ob.arr.injEq, AV.own.injEq, AV.fv.injEq, strB4_q, strB4_p, strB4_c, strB4_f, inS_q, inS_p, inS_c, inS_f, allS, byteΦ_h, byteΦ_d, Tryz.ntmps172, Nat.reduceEqDiff, reduceCtorEq, Nat.reduceMul, Nat.reduceAdd, Nat.reduceSub, Nat.reduceDiv, Nat.reduceMod, Nat.reduceLeDiff, Nat.reduceLT, Nat.reduceBNe, Nat.reduceBEq, reduceIte, Int.reduceLE, Int.reduceLT, Int.reduceToNat, Int.reduceNeg, Int.reduceAdd, Int.reduceSub, Int.reduceMul, Int.reduceEq]
    unfold labelB
    refine ⟨fun c => ?_, fun c => by simp [c]⟩
    have e1 := inB_iff.1 c
    rw [i64w (n := (s.size : Int) - 1) (by omega) (by omega)]
    refine ⟨by omega, fun c1 => ⟨by omega, by omega, fun c2 => ⟨by omega, by simp [c, c1, c2]⟩, fun c2 => by simp [c2]⟩, fun c1 => by simp [c1]⟩
theorem isPhone_ctr {cx : Cx} (h : Seat cx) : Ctr cx 128 (strB4 phoneB) := by
  refine ctr_of (fn := Tryz.f128) (l := [.tmp 2]) (envF [(144, inS), (146, allS), (166, preSp)] [(148, (byteΦ digitC))]) [0, 2] [] [] (envF_cons (byteΦ_of (digit_ctr h)) (envF_nil (envL_cons (pwithin_ctr h) (envL_cons (all_ctr h) (envL_cons (hasPrefix_ctr h) (env0 h.hP)))))) ?_ (by rw [h.hP]; exact Tryz.func128) rfl (by kernel_rfl) rfl ?_ ?_
  · rw [h.hP]; exact ⟨_, Tryz.func128, by kernel_rfl, by kernel_rfl⟩
  · rintro xs ⟨s, rfl, hs⟩; exact ⟨_, s, rfl, rfl⟩
  · rintro xs ⟨s, rfl, hs⟩
    refine ⟨by rw [Tryz.ntmps128]; simp, ?_⟩
    simp only [go_sem, h.hP, List.cons_append, List.nil_append, Meets_e, Below_e, Prod.exists, exists_eq, exists_eq_left, exists_eq_left', exists_eq_right, exists_eq_right', exists_and_left, exists_and_right, Ob.arr.injEq, AV.own.injEq, AV.fv.injEq, strB4_q, strB4_p, strB4_c, strB4_f, inS_q, inS_p, inS_c, inS_f, preSp_q, preSp_p, preSp_c, preSp_f, allS, byteΦ_h, byteΦ_d, Tryz.ntmps128, Nat.reduceEqDiff, reduceCtorEq, Nat.reduceMul, Nat.reduceAdd, Nat.reduceSub, Nat.reduceDiv, Nat.reduceMod, Nat.reduceLeDiff, Nat.reduceLT, Nat.reduceBNe, Nat.reduceBEq, reduceIte, Int.reduceLE, Int.reduceLT, Int.reduceToNat, Int.reduceNeg, Int.reduceAdd, Int.reduceSub, Int.reduceMul, Int.reduceEq]
    unfold phoneB
    refine ⟨fun c0 => ⟨fun c => ?_, fun c => by simp [c]⟩, fun c0 => by simp [plusS, c0]⟩
    have e1 := inB_iff.1 c
    refine ⟨by omega, by omega, by rw [ByteArray.size_extract]; omega, fun c1 => ⟨by omega, ?_⟩, fun c1 => by simp [c1]⟩
    simp only [plusS, c0, c, c1, Bool.true_and]
    grind
theorem isMember_ctr {cx : Cx} (h : Seat cx) : Ctr cx 129 (strB4 memberB) := by
  refine ctr_of (fn := Tryz.f129) (l := [.tmp 2]) (envF [(144, inS), (146, allS)] [(173, (byteΦ memC))]) [0, 2] [] [] (envF_cons (byteΦ_of (isMember1_ctr h)) (envF_nil (envL_cons (pwithin_ctr h) (envL_cons (all_ctr h) (env0 h.hP))))) ?_ (by rw [h.hP]; exact Tryz.func129) rfl (by kernel_rfl) rfl ?_ ?_
  · rw [h.hP]; exact ⟨_, Tryz.func129, by kernel_rfl, by kernel_rfl⟩
  · rintro xs ⟨s, rfl, hs⟩; exact ⟨_, s, rfl, rfl⟩
  · rintro xs ⟨s, rfl, hs⟩
    refine ⟨by rw [Tryz.ntmps129]; simp, ?_⟩
    simp only [go_sem, h.hP, List.cons_append, List.nil_append, Meets_e, Below_e, Prod.exists, exists_eq, exists_eq_left, exists_eq_left', exists_eq_right, exists_eq_right', exists_and_left, exists_and_right, Ob.arr.injEq, AV.own.injEq, AV.fv.injEq, strB4_q, strB4_p, strB4_c, strB4_f, inS_q, inS_p, inS_c, inS_f, allS, byteΦ_h, byteΦ_d, Tryz.ntmps129, Nat.reduceEqDiff, reduceCtorEq, Nat.reduceMul, Nat.reduceAdd, Nat.reduceSub, Nat.reduceDiv, Nat.reduceMod, Nat.reduceLeDiff, Nat.reduceLT, Nat.reduceBNe, Nat.reduceBEq, reduceIte, Int.reduceLE, Int.reduceLT, Int.reduceToNat, Int.reduceNeg, Int.reduceAdd, Int.reduceSub, Int.reduceMul, Int.reduceEq]
    unfold memberB
    exact ⟨fun c => ⟨by omega, by simp [c]⟩, fun c => by simp [c]⟩
theorem isDevice_ctr {cx : Cx} (h : Seat cx) : Ctr cx 130 (strB4 deviceB) := by
  refine ctr_of (fn := Tryz.f130) (l := [.tmp 2]) (envF [(144, inS), (146, allS)] [(175, (byteΦ hexC))]) [0, 2] [] [] (envF_cons (byteΦ_of (isDevice1_ctr h)) (envF_nil (envL_cons (pwithin_ctr h) (envL_cons (all_ctr h) (env0 h.hP))))) ?_ (by rw [h.hP]; exact Tryz.func130) rfl (by kernel_rfl) rfl ?_ ?_
  · rw [h.hP]; exact ⟨_, Tryz.func130, by kernel_rfl, by kernel_rfl⟩
  · rintro xs ⟨s, rfl, hs⟩; exact ⟨_, s, rfl, rfl⟩
  · rintro xs ⟨s, rfl, hs⟩
    refine ⟨by rw [Tryz.ntmps130]; simp, ?_⟩
    simp only [go_sem, h.hP, List.cons_append, List.nil_append, Meets_e, Below_e, Prod.exists, exists_eq, exists_eq_left, exists_eq_left', exists_eq_right, exists_eq_right', exists_and_left, exists_and_right, Ob.arr.injEq, AV.own.injEq, AV.fv.injEq, strB4_q, strB4_p, strB4_c, strB4_f, inS_q, inS_p, inS_c, inS_f, allS, byteΦ_h, byteΦ_d, Tryz.ntmps130, Nat.reduceEqDiff, reduceCtorEq, Nat.reduceMul, Nat.reduceAdd, Nat.reduceSub, Nat.reduceDiv, Nat.reduceMod, Nat.reduceLeDiff, Nat.reduceLT, Nat.reduceBNe, Nat.reduceBEq, reduceIte, Int.reduceLE, Int.reduceLT, Int.reduceToNat, Int.reduceNeg, Int.reduceAdd, Int.reduceSub, Int.reduceMul, Int.reduceEq]
    unfold deviceB
    exact ⟨fun c => ⟨by omega, by simp [c]⟩, fun c => by simp [c]⟩
theorem isMail_ctr {cx : Cx} (h : Seat cx) (hM : MaxL cx) : Ctr cx 127 (strB4 mailB) := by
  refine ctr_of (fn := Tryz.f127) (l := [.tmp 2]) (envF [(80, cutSp), (144, inS), (84, conSp), (146, allS), (81, splitSp), (172, (strB4 labelB))] [(171, (byteΦ locC))]) [0, 2, 3, 4, 5, 6, 8, 44, 47, 50, 51, 52, 53, 58] [] [] (envF_cons (byteΦ_of (isMail1_ctr h)) (envF_nil (envL_cons (cut_ctr h hM) (envL_cons (pwithin_ctr h) (envL_cons (contains_ctr h hM) (envL_cons (all_ctr h) (envL_cons (split_ctr h hM) (envL_cons (isLabel_ctr h) (env0 h.hP))))))))) ?_ (by rw [h.hP]; exact Tryz.func127) rfl (by kernel_rfl) rfl ?_ ?_
  · rw [h.hP]; exact ⟨_, Tryz.func127, by kernel_rfl, by kernel_rfl⟩
  · rintro xs ⟨s, rfl, hs⟩; exact ⟨_, s, rfl, rfl⟩
  · rintro xs ⟨s, rfl, hs⟩
    refine ⟨by rw [Tryz.ntmps127]; simp, ?_⟩
    simp only [go_sem, h.hP, List.cons_append, List.nil_append, Meets_e, Below_e, Prod.exists, exists_eq, exists_eq_left, exists_eq_left', exists_eq_right, exists_eq_right', exists_and_left, exists_and_right, Ob.arr.injEq, AV.own.injEq, AV.fv.injEq, strB4_q, strB4_p, strB4_c, strB4_f, inS_q, inS_p, inS_c, inS_f, cutSp_q, cutSp_p, cutSp_c, cutSp_f, conSp_q, conSp_p, conSp_c, conSp_f, splitSp_q, splitSp_p, splitSp_c, splitSp_f, allS, byteΦ_h, byteΦ_d, Tryz.ntmps127, Nat.reduceEqDiff, reduceCtorEq, Nat.reduceMul, Nat.reduceAdd, Nat.reduceSub, Nat.reduceDiv, Nat.reduceMod, Nat.reduceLeDiff, Nat.reduceLT, Nat.reduceBNe, Nat.reduceBEq, reduceIte, Int.reduceLE, Int.reduceLT, Int.reduceToNat, Int.reduceNeg, Int.reduceAdd, Int.reduceSub, Int.reduceMul, Int.reduceEq]
    have hL := cutL_size s ⟨#[64]⟩
    have hR := cutR_size s ⟨#[64]⟩
    have hD : mailB s = (cutB s ⟨#[64]⟩ && decide ((s.size : Int) ≤ 80) && localB (cutL s ⟨#[64]⟩) && (splitS (cutR s ⟨#[64]⟩) ⟨#[46]⟩).all labelB && decide (2 ≤ (splitS (cutR s ⟨#[64]⟩) ⟨#[46]⟩).length)) := rfl
    generalize mailB s = R at hD
    generalize cutL s ⟨#[64]⟩ = a at *
    generalize cutR s ⟨#[64]⟩ = b at *
    have hA : localB a = (inB a.size 1 64 && decide (bt a 0 ≠ 46) && decide (bt a ((a.size : Int) - 1) ≠ 46) && !conS a ⟨#[46, 46]⟩ && (bl a).all locC) := rfl
    refine ⟨hs, fun c1 => ⟨fun c2 => ⟨fun c3 => ?_, fun c3 => by rw [hD, hA]; simp [c3]⟩, fun c2 => by rw [hD]; simp; omega⟩, fun c1 => by rw [hD]; simp [c1]⟩
    have e3 := inB_iff.1 c3
    rw [i64w (n := (a.size : Int) - 1) (by omega) (by omega)]
    refine ⟨by omega, fun c4 => ⟨by omega, by omega, fun c5 => ⟨by omega, fun c6 => by rw [hD, hA]; simp [c6], fun c6 => ⟨by omega, fun c7 => by rw [hD, hA]; simp [show (bl a).all locC = false from c7], fun c7 => ⟨by omega, ?_⟩⟩⟩, fun c5 => by rw [hD, hA]; simp [c5]⟩, fun c4 => by rw [hD, hA]; simp [c4]⟩
    have hl : localB a = true := by rw [hA]; simp [c3, c4, c5, c6, show (bl a).all locC = true from c7]
    have hle := splitS_le (s := b) (p := ⟨#[46]⟩) (by decide)
    have hsz := splitS_get b ⟨#[46]⟩
    rw [c1, hl, decide_eq_true (show (s.size : Int) ≤ 80 by omega)] at hD
    generalize splitS b ⟨#[46]⟩ = l at *
    refine vc_loopS (Int) (fun (i : Int) => [(52, .i i)]) [] (fun (i : Int) => []) (fun (i : Int) => []) (fun (i : Int) => 0) (fun (i : Int) => 0 ≤ i ∧ i ≤ l.length ∧ ∀ j : Nat, (j : Int) < i → labelB (l.getD j ⟨#[]⟩) = true) (fun (i : Int) => (l.length - i).toNat) [] ?_ ?_
    · simp only [go_sem, h.hP, List.cons_append, List.nil_append, Meets_e, Below_e, Prod.exists, exists_eq, exists_eq_left, exists_eq_left', exists_eq_right, exists_eq_right', exists_and_left, exists_and_right, Ob.arr.injEq, AV.own.injEq, AV.fv.injEq, rowsT_len, Tryz.ntmps127, Nat.reduceEqDiff, reduceCtorEq, Nat.reduceMul, Nat.reduceAdd, Nat.reduceSub, Nat.reduceDiv, Nat.reduceMod, Nat.reduceLeDiff, Nat.reduceLT, Nat.reduceBNe, Nat.reduceBEq, reduceIte, Int.reduceLE, Int.reduceLT, Int.reduceToNat, Int.reduceNeg, Int.reduceAdd, Int.reduceSub, Int.reduceMul, Int.reduceEq]
      exact ⟨by omega, fun j hj => by omega⟩
    · rintro i ⟨j1, j2, j3⟩
      simp only [go_sem, h.hP, List.cons_append, List.nil_append, Meets_e, Below_e, Prod.exists, exists_eq, exists_eq_left, exists_eq_left', exists_eq_right, exists_eq_right', exists_and_left, exists_and_right, Ob.arr.injEq, AV.own.injEq, AV.fv.injEq, strB4_q, strB4_p, strB4_c, strB4_f, rowsT_len, rowsT_get, Tryz.ntmps127, Nat.reduceEqDiff, reduceCtorEq, Nat.reduceMul, Nat.reduceAdd, Nat.reduceSub, Nat.reduceDiv, Nat.reduceMod, Nat.reduceLeDiff, Nat.reduceLT, Nat.reduceBNe, Nat.reduceBEq, reduceIte, Int.reduceLE, Int.reduceLT, Int.reduceToNat, Int.reduceNeg, Int.reduceAdd, Int.reduceSub, Int.reduceMul, Int.reduceEq]
      refine ⟨fun q => ?_, fun q => ?_⟩
      · have := hsz i.toNat
        refine ⟨j1, q, by omega, fun d => ?_, fun d => ?_⟩
        · have := all_no (p := labelB) (show i.toNat < l.length by omega) d
          rw [hD, this]; simp
        · rw [i64w (n := i + 1) (by omega) (by omega)]
          refine ⟨by omega, by omega, fun j hj => ?_, by omega⟩
          by_cases e : (j : Int) = i
          · have : i.toNat = j := by omega
            rw [← this]; exact d
          · exact j3 j (by omega)
      · have := all_yes (p := labelB) ⟨#[]⟩ fun j hj => j3 j (by omega)
        rw [hD, this]
        simp only [Bool.true_and]
        exact decide_eq_decide.2 (by omega)
end Go.Avc

/- Values and fields: what is wrong with them, by the program and by the reference. No condition. -/
set_option linter.unusedVariables false
set_option linter.unusedSimpArgs false
set_option maxRecDepth 100000
namespace Go.Avc
open Go Go.Proofs

def validB (s : ByteArray) : Bool := Lib.validD s.data.toList
def validSp  : Spec where
  pre xs := ∃ (s : ByteArray), xs = [.str s] ∧ (s.size ≤ 4611686018427387904)
  post xs y := ∃ (s : ByteArray), xs = [.str s] ∧ y = .b (validB s)
  cost _ := 0
  fresh := true
theorem validSp_c  (xs : List AV) : (validSp).cost xs = 0 := nr rfl
theorem validSp_f  : (validSp).fresh = true := nr rfl
theorem validSp_q  (s : ByteArray) : (validSp).pre [.str s] = (s.size ≤ 4611686018427387904) := propext ⟨fun h => by
  have h' : ∃ (s' : ByteArray), ([.str s] : List AV) = [.str s'] ∧ (s'.size ≤ 4611686018427387904) := h
  obtain ⟨s', e, h⟩ := h'
  simp only [List.cons.injEq, AV.dv.injEq, AV.dp.injEq, AV.fv.injEq, DV.d.injEq, DV.ag.injEq, D.int.injEq, D.str.injEq, D.bool.injEq, D.sl.injEq, true_and, and_true, intsDi_inj, rowsT_inj, rowsKi_inj] at e
  obtain rfl := e
  exact h, fun h => ⟨s, rfl, h⟩⟩
theorem validSp_p  (s : ByteArray) : (validSp).post [.str s] = fun y => y = .b (validB s) := funext fun y => propext ⟨fun h => by
  have h' : ∃ (s' : ByteArray), ([.str s] : List AV) = [.str s'] ∧ y = .b (validB s') := h
  obtain ⟨s', e, h⟩ := h'
  simp only [List.cons.injEq, AV.dv.injEq, AV.dp.injEq, AV.fv.injEq, DV.d.injEq, DV.ag.injEq, D.int.injEq, D.str.injEq, D.bool.injEq, D.sl.injEq, true_and, and_true, intsDi_inj, rowsT_inj, rowsKi_inj] at e
  obtain rfl := e
  exact h, fun h => ⟨s, rfl, h⟩⟩
theorem valid_ctr {cx : Cx} (h : Seat cx) (hU : Utf8 cx) : Ctr cx 227 validSp := by
  refine ctr_flat (by rw [h.hP]; exact ⟨_, Tryz.func227, by kernel_rfl, by kernel_rfl⟩) (fun _ => rfl) ?_
  rintro xs ⟨s, rfl, h1⟩
  refine ⟨_, _, _, rfl, ⟨s, rfl, rfl⟩, rfl, fun w hw => ?_⟩
  rw [h.hP]
  exact Tryz.utf8_ValidString s w (by omega) (hU w hw)
/-- the text of a value -/
def textF (s : ByteArray) : Int := if 200 < (s.size : Int) then 2 else if (pts s).any badPt = true then 3 else 0
def txtC (c : Int) : Bool := decide (32 ≤ c) && decide (c ≠ 127)
def txtΦ : List (List D) → FSpec := csp F0 u8D fun _ c => txtC c
theorem txtΦ_h (c : Int) : (txtΦ []).holds (.d (.int .u8 c)) = txtC c := csp_holds F0_inj u8D_inj () c
theorem txtΦ_d (c : Int) : (txtΦ []).det (.d (.int .u8 c)) := csp_det F0_inj u8D_inj () c
theorem txt_all (s : ByteArray) : ((bl s).all fun c => txtC c) = s.data.toList.all byteOk := by
  rw [bl_all]
  refine congrArg (fun p => s.data.toList.all p) (funext fun c => ?_)
  unfold txtC byteOk
  rw [Bool.eq_iff_iff]
  simp only [Bool.and_eq_true, decide_eq_true_eq]
  omega
theorem checkText1_ctr {cx : Cx} (h : Seat cx) : Ctr cx 228 (cloS F0 u8D fun _ c => txtC c) := by
  refine ctr_of (fn := Tryz.f228) (l := [.tmp 2]) (envL []) [0, 2] [] [] (env0 h.hP) ?_ (by rw [h.hP]; exact Tryz.func228) rfl (by kernel_rfl) rfl ?_ ?_
  · rw [h.hP]; exact ⟨_, Tryz.func228, by kernel_rfl, by kernel_rfl⟩
  · rintro xs ⟨c, a, rfl⟩; exact ⟨_, c, a, rfl, rfl⟩
  · rintro xs ⟨c, a, rfl⟩
    refine ⟨by rw [Tryz.ntmps228]; simp [F0], ?_⟩
    simp only [go_sem, h.hP, List.cons_append, List.nil_append, Meets_e, Below_e, Prod.exists, exists_eq, exists_eq_left, exists_eq_left', exists_eq_right, exists_eq_right', exists_and_left, exists_and_right, Ob.arr.injEq, AV.own.injEq, AV.fv.injEq, F0, u8D, cloS, Tryz.ntmps228, Nat.reduceEqDiff, reduceCtorEq, Nat.reduceMul, Nat.reduceAdd, Nat.reduceSub, Nat.reduceDiv, Nat.reduceMod, Nat.reduceLeDiff, Nat.reduceLT, Nat.reduceBNe, Nat.reduceBEq, reduceIte, Int.reduceLE, Int.reduceLT, Int.reduceToNat, Int.reduceNeg, Int.reduceAdd, Int.reduceSub, Int.reduceMul, Int.reduceEq]
    grind [txtC]
def textS  : Spec where
  pre xs := ∃ (s : ByteArray), xs = [.str s] ∧ (s.size ≤ 4611686018427387904)
  post xs y := ∃ (s : ByteArray), xs = [.str s] ∧ y = .i (textF s)
  cost _ := 0
  fresh := true
theorem textS_c  (xs : List AV) : (textS).cost xs = 0 := nr rfl
theorem textS_f  : (textS).fresh = true := nr rfl
theorem textS_q  (s : ByteArray) : (textS).pre [.str s] = (s.size ≤ 4611686018427387904) := propext ⟨fun h => by
  have h' : ∃ (s' : ByteArray), ([.str s] : List AV) = [.str s'] ∧ (s'.size ≤ 4611686018427387904) := h
  obtain ⟨s', e, h⟩ := h'
  simp only [List.cons.injEq, AV.dv.injEq, AV.dp.injEq, AV.fv.injEq, DV.d.injEq, DV.ag.injEq, D.int.injEq, D.str.injEq, D.bool.injEq, D.sl.injEq, true_and, and_true, intsDi_inj, rowsT_inj, rowsKi_inj] at e
  obtain rfl := e
  exact h, fun h => ⟨s, rfl, h⟩⟩
theorem textS_p  (s : ByteArray) : (textS).post [.str s] = fun y => y = .i (textF s) := funext fun y => propext ⟨fun h => by
  have h' : ∃ (s' : ByteArray), ([.str s] : List AV) = [.str s'] ∧ y = .i (textF s') := h
  obtain ⟨s', e, h⟩ := h'
  simp only [List.cons.injEq, AV.dv.injEq, AV.dp.injEq, AV.fv.injEq, DV.d.injEq, DV.ag.injEq, D.int.injEq, D.str.injEq, D.bool.injEq, D.sl.injEq, true_and, and_true, intsDi_inj, rowsT_inj, rowsKi_inj] at e
  obtain rfl := e
  exact h, fun h => ⟨s, rfl, h⟩⟩
theorem checkText_ctr {cx : Cx} (h : Seat cx) (hU : Utf8 cx) : Ctr cx 198 textS := by
  refine ctr_of (fn := Tryz.f198) (l := [.tmp 2]) (envF [(227, validSp), (146, allS)] [(228, txtΦ)]) [0, 2, 5, 13] [] [] (envF_cons (clo_of (checkText1_ctr h)) (envF_nil (envL_cons (valid_ctr h hU) (envL_cons (all_ctr h) (env0 h.hP))))) ?_ (by rw [h.hP]; exact Tryz.func198) rfl (by kernel_rfl) rfl ?_ ?_
  · rw [h.hP]; exact ⟨_, Tryz.func198, by kernel_rfl, by kernel_rfl⟩
  · rintro xs ⟨s, rfl, h1⟩; exact ⟨_, s, rfl, rfl⟩
  · rintro xs ⟨s, rfl, h1⟩
    refine ⟨by rw [Tryz.ntmps198]; simp, ?_⟩
    simp only [go_sem, h.hP, List.cons_append, List.nil_append, Meets_e, Below_e, Prod.exists, exists_eq, exists_eq_left, exists_eq_left', exists_eq_right, exists_eq_right', exists_and_left, exists_and_right, Ob.arr.injEq, AV.own.injEq, AV.fv.injEq, textS_q, textS_p, textS_c, textS_f, validSp_q, validSp_p, validSp_c, validSp_f, allS, txtΦ_h, txtΦ_d, txt_all, Tryz.ntmps198, Nat.reduceEqDiff, reduceCtorEq, Nat.reduceMul, Nat.reduceAdd, Nat.reduceSub, Nat.reduceDiv, Nat.reduceMod, Nat.reduceLeDiff, Nat.reduceLT, Nat.reduceBNe, Nat.reduceBEq, reduceIte, Int.reduceLE, Int.reduceLT, Int.reduceToNat, Int.reduceNeg, Int.reduceAdd, Int.reduceSub, Int.reduceMul, Int.reduceEq]
    have ht := text_pts s
    unfold textF validB
    generalize Lib.validD s.data.toList = v at ht ⊢
    generalize s.data.toList.all byteOk = q at ht ⊢
    generalize (pts s).any badPt = z at ht ⊢
    refine ⟨fun c => (if_pos c).symm, fun c => ⟨h1, fun c1 => ⟨h1, fun c2 => ?_, fun c2 => ?_⟩, fun c1 => ?_⟩⟩
    all_goals rw [if_neg c]
    · subst c1 c2
      cases z with
      | true => rfl
      | false => cases ht
    · subst c1 c2
      cases z with
      | true => cases ht
      | false => rfl
    · subst c1
      cases z with
      | true => rfl
      | false => cases ht
/-- a value -/
def lowV (k : Int) : Int := if k = 2 then -1000000000000 else 0
def highV (k : Int) : Int := if k = 2 then 1000000000000 else if k = 3 then 1 else 4321439
def valF (v : TValue) : Int := if inB v.kind 1 4 = false then 4 else if v.kind = 1 then (if v.number ≠ 0 then 3 else textF v.text) else if v.text.size ≠ 0 then 3 else if inB v.number (lowV v.kind) (highV v.kind) = false then 1 else 0
def valS  : Spec where
  pre xs := ∃ (v : TValue), xs = [.dv (.ag v.row)] ∧ (v.ok)
  post xs y := ∃ (v : TValue), xs = [.dv (.ag v.row)] ∧ y = .i (valF v)
  cost _ := 0
  fresh := true
theorem valS_c  (xs : List AV) : (valS).cost xs = 0 := nr rfl
theorem valS_f  : (valS).fresh = true := nr rfl
theorem valS_q  (v : TValue) : (valS).pre [.dv (.ag [.int .i64 v.kind, .str v.text, .int .i64 v.number])] = (v.ok) := propext ⟨fun h => by
  have h' : ∃ (v' : TValue), ([.dv (.ag v.row)] : List AV) = [.dv (.ag v'.row)] ∧ (v'.ok) := h
  obtain ⟨v', e, h⟩ := h'
  simp only [List.cons.injEq, AV.dv.injEq, AV.dp.injEq, AV.fv.injEq, DV.d.injEq, DV.ag.injEq, D.int.injEq, D.str.injEq, D.bool.injEq, D.sl.injEq, true_and, and_true, intsDi_inj, rowsT_inj, rowsKi_inj, TValue.row_inj, TValue.rows_inj] at e
  obtain rfl := e
  exact h, fun h => ⟨v, rfl, h⟩⟩
theorem valS_p  (v : TValue) : (valS).post [.dv (.ag [.int .i64 v.kind, .str v.text, .int .i64 v.number])] = fun y => y = .i (valF v) := funext fun y => propext ⟨fun h => by
  have h' : ∃ (v' : TValue), ([.dv (.ag v.row)] : List AV) = [.dv (.ag v'.row)] ∧ y = .i (valF v') := h
  obtain ⟨v', e, h⟩ := h'
  simp only [List.cons.injEq, AV.dv.injEq, AV.dp.injEq, AV.fv.injEq, DV.d.injEq, DV.ag.injEq, D.int.injEq, D.str.injEq, D.bool.injEq, D.sl.injEq, true_and, and_true, intsDi_inj, rowsT_inj, rowsKi_inj, TValue.row_inj, TValue.rows_inj] at e
  obtain rfl := e
  exact h, fun h => ⟨v, rfl, h⟩⟩
theorem CheckValue_ctr {cx : Cx} (h : Seat cx) (hU : Utf8 cx) : Ctr cx 161 valS := by
  refine ctr_of (fn := Tryz.f161) (l := [.tmp 2]) (envL [(198, textS), (144, inS)]) [0, 1, 2, 3, 4, 6, 7, 11, 15, 17, 19, 23, 29] [] [] (envL_cons (checkText_ctr h hU) (envL_cons (pwithin_ctr h) (env0 h.hP))) ?_ (by rw [h.hP]; exact Tryz.func161) rfl (by kernel_rfl) rfl ?_ ?_
  · rw [h.hP]; exact ⟨_, Tryz.func161, by kernel_rfl, by kernel_rfl⟩
  · rintro xs ⟨v, rfl, h1⟩; exact ⟨_, v, rfl, rfl⟩
  · rintro xs ⟨v, rfl, h1⟩
    obtain ⟨o1, o2, o3⟩ := h1
    refine ⟨by rw [Tryz.ntmps161]; simp, ?_⟩
    simp only [go_sem, h.hP, List.cons_append, List.nil_append, Meets_e, Below_e, Prod.exists, exists_eq, exists_eq_left, exists_eq_left', exists_eq_right, exists_eq_right', exists_and_left, exists_and_right, Ob.arr.injEq, AV.own.injEq, AV.fv.injEq, valS_q, valS_p, valS_c, valS_f, textS_q, textS_p, textS_c, textS_f, inS_q, inS_p, inS_c, inS_f, TValue.row, str_nil, Tryz.ntmps161, Nat.reduceEqDiff, reduceCtorEq, Nat.reduceMul, Nat.reduceAdd, Nat.reduceSub, Nat.reduceDiv, Nat.reduceMod, Nat.reduceLeDiff, Nat.reduceLT, Nat.reduceBNe, Nat.reduceBEq, reduceIte, Int.reduceLE, Int.reduceLT, Int.reduceToNat, Int.reduceNeg, Int.reduceAdd, Int.reduceSub, Int.reduceMul, Int.reduceEq]
    have hk : (v.kind = 1 ∨ v.kind = 2 ∨ v.kind = 3 ∨ v.kind = 4) → ¬ inB v.kind 1 4 = false := fun c => ne_ft (inB_iff.2 (by omega))
    have n0 : ∀ {k : Int}, v.kind = k → (k = 2 ∨ k = 3 ∨ k = 4) → ¬ v.kind = 1 := fun a b => by omega
    refine ⟨fun c => ?_, fun c => ⟨fun c1 => ?_, fun c1 => ⟨fun c2 => ?_, fun c2 => ⟨fun c3 => ?_, fun c3 => ?_⟩⟩⟩⟩
    · refine ⟨fun d => ?_, fun d => ⟨by unfold okS at o2; omega, ?_⟩⟩
      · exact ((if_neg (hk (.inl c))).trans ((if_pos c).trans (if_pos d))).symm
      · exact ((if_neg (hk (.inl c))).trans ((if_pos c).trans (if_neg (fun e => e d)))).symm
    · have e0 : valF v = if v.text.size ≠ 0 then 3 else if inB v.number (lowV v.kind) (highV v.kind) = false then 1 else 0 := (if_neg (hk (by omega))).trans (if_neg c)
      rw [e0, c1]
      exact ⟨fun d => (if_pos d).symm, fun d => ⟨fun e => ((if_neg (fun x => x d)).trans (if_pos e)).symm, fun e => ((if_neg (fun x => x d)).trans (if_neg (ne_ft e))).symm⟩⟩
    · have e0 : valF v = if v.text.size ≠ 0 then 3 else if inB v.number (lowV v.kind) (highV v.kind) = false then 1 else 0 := (if_neg (hk (by omega))).trans (if_neg c)
      rw [e0, c2]
      exact ⟨fun d => (if_pos d).symm, fun d => ⟨fun e => ((if_neg (fun x => x d)).trans (if_pos e)).symm, fun e => ((if_neg (fun x => x d)).trans (if_neg (ne_ft e))).symm⟩⟩
    · have e0 : valF v = if v.text.size ≠ 0 then 3 else if inB v.number (lowV v.kind) (highV v.kind) = false then 1 else 0 := (if_neg (hk (by omega))).trans (if_neg c)
      rw [e0, c3]
      exact ⟨fun d => (if_pos d).symm, fun d => ⟨fun e => ((if_neg (fun x => x d)).trans (if_pos e)).symm, fun e => ((if_neg (fun x => x d)).trans (if_neg (ne_ft e))).symm⟩⟩
    · have : inB v.kind 1 4 = false := by
        cases e : inB v.kind 1 4 with
        | true => have := inB_iff.1 e; omega
        | false => rfl
      exact (if_pos this).symm
theorem dlit5 (a b c d e z : Int) (n : Nat) : ([D.int .i64 a, D.int .i64 b, D.int .i64 c, D.int .i64 d, D.int .i64 e] : List D).getD n (D.int .i64 z) = D.int .i64 (([a, b, c, d, e] : List Int).getD n z) := by
  match n with
  | 0 => rfl
  | 1 => rfl
  | 2 => rfl
  | 3 => rfl
  | 4 => rfl
  | n + 5 => rfl
theorem low_lit {k : Int} (h : 0 ≤ k) : ([0, 0, -1000000000000, 0, 0] : List Int).getD k.toNat 0 = lowV k := by
  unfold lowV
  obtain ⟨n, rfl⟩ : ∃ n : Nat, k = n := ⟨k.toNat, by omega⟩
  rw [Int.toNat_natCast]
  match n with
  | 0 => rfl
  | 1 => rfl
  | 2 => rfl
  | 3 => rfl
  | 4 => rfl
  | n + 5 => rw [if_neg (by omega)]; rfl
theorem high_lit {k : Int} (h : 2 ≤ k) (h4 : k ≤ 4) : ([0, 0, 1000000000000, 1, 4321439] : List Int).getD k.toNat 0 = highV k := by
  unfold highV
  obtain ⟨n, rfl⟩ : ∃ n : Nat, k = n := ⟨k.toNat, by omega⟩
  rw [Int.toNat_natCast]
  match n with
  | 0 => omega
  | 1 => omega
  | 2 => rfl
  | 3 => rfl
  | 4 => rfl
  | n + 5 => omega
def badF (l : List Int) (i : Nat) : Int := if badPt (l.getD i 0) = true then 3 else 0
theorem bad_any (l : List Int) : firstI l.length (badF l) = if l.any badPt = true then 3 else 0 := any_first l 0 badPt (by decide)
set_option maxHeartbeats 4000000 in
theorem ValueFault_ctr {cx : Cx} (h : Seat cx) (hU : Utf8 cx) : Ctr cx 164 valS := by
  refine ctr_of (fn := Tryz.f164) (l := [.tmp 2]) (envL [(199, (ptsS .i64)), (57, inS)]) [0, 1, 2, 4, 5, 6, 10, 13, 14, 18, 25, 26, 27, 28, 36, 40, 54] [] [] (envL_cons (rpts_ctr h hU) (envL_cons (in_ctr h) (env0 h.hP))) ?_ (by rw [h.hP]; exact Tryz.func164) rfl (by kernel_rfl) rfl ?_ ?_
  · rw [h.hP]; exact ⟨_, Tryz.func164, by kernel_rfl, by kernel_rfl⟩
  · rintro xs ⟨v, rfl, h1⟩; exact ⟨_, v, rfl, rfl⟩
  · rintro xs ⟨v, rfl, h1⟩
    obtain ⟨o1, o2, o3⟩ := h1
    refine ⟨by rw [Tryz.ntmps164]; simp, ?_⟩
    simp only [go_sem, h.hP, List.cons_append, List.nil_append, Meets_e, Below_e, Prod.exists, exists_eq, exists_eq_left, exists_eq_left', exists_eq_right, exists_eq_right', exists_and_left, exists_and_right, Ob.arr.injEq, AV.own.injEq, AV.fv.injEq, valS_q, valS_p, valS_c, valS_f, inS_q, inS_p, inS_c, inS_f, ptsS, TValue.row, str_nil, dlit5, Tryz.ntmps164, Nat.reduceEqDiff, reduceCtorEq, Nat.reduceMul, Nat.reduceAdd, Nat.reduceSub, Nat.reduceDiv, Nat.reduceMod, Nat.reduceLeDiff, Nat.reduceLT, Nat.reduceBNe, Nat.reduceBEq, reduceIte, Int.reduceLE, Int.reduceLT, Int.reduceToNat, Int.reduceNeg, Int.reduceAdd, Int.reduceSub, Int.reduceMul, Int.reduceEq]
    unfold okS at o2
    refine ⟨fun c => (if_pos c).symm, fun c => ?_⟩
    have hk := inB_iff.1 c
    have e1 : v.kind = 1 → valF v = if v.number ≠ 0 then 3 else textF v.text := fun d => (if_neg (ne_ft c)).trans (if_pos d)
    have e2 : ¬ v.kind = 1 → valF v = if v.text.size ≠ 0 then 3 else if inB v.number (lowV v.kind) (highV v.kind) = false then 1 else 0 := fun d => (if_neg (ne_ft c)).trans (if_neg d)
    refine ⟨fun d => ⟨fun f => ?_, fun f => ⟨fun g => ?_, fun g => ⟨by omega, ?_⟩⟩⟩, fun d => ⟨fun f => ?_, fun f => ?_⟩⟩
    · rw [e1 d, if_pos f]
    · rw [e1 d, if_neg (fun x => x f)]
      exact (if_pos g).symm
    · have e3 : valF v = if (pts v.text).any badPt = true then 3 else 0 := by
        rw [e1 d, if_neg (fun x => x f)]
        exact if_neg g
      rw [e3, ← bad_any]
      have hp : (pts v.text).length ≤ v.text.size := ptsL_len v.text.size v.text
      generalize pts v.text = l at *
      refine vc_loopS (Int) (fun (i : Int) => [(25, .sl (rowsK .i64 l)), (27, .i i)]) [1] (fun (i : Int) => []) (fun (i : Int) => []) (fun (i : Int) => 0) (fun (i : Int) => Rounds l.length (badF l) i) (fun (i : Int) => (l.length - i).toNat) [] ?_ ?_
      · simp only [go_sem, h.hP, List.cons_append, List.nil_append, Meets_e, Below_e, Prod.exists, exists_eq, exists_eq_left, exists_eq_left', exists_eq_right, exists_eq_right', exists_and_left, exists_and_right, Ob.arr.injEq, AV.own.injEq, AV.fv.injEq, Tryz.ntmps164, Nat.reduceEqDiff, reduceCtorEq, Nat.reduceMul, Nat.reduceAdd, Nat.reduceSub, Nat.reduceDiv, Nat.reduceMod, Nat.reduceLeDiff, Nat.reduceLT, Nat.reduceBNe, Nat.reduceBEq, reduceIte, Int.reduceLE, Int.reduceLT, Int.reduceToNat, Int.reduceNeg, Int.reduceAdd, Int.reduceSub, Int.reduceMul, Int.reduceEq]
        exact Rounds.start
      · rintro i hr
        obtain ⟨hi, hS, hM, hE, hN⟩ := hr.use (by omega)
        simp only [go_sem, h.hP, List.cons_append, List.nil_append, Meets_e, Below_e, Prod.exists, exists_eq, exists_eq_left, exists_eq_left', exists_eq_right, exists_eq_right', exists_and_left, exists_and_right, Ob.arr.injEq, AV.own.injEq, AV.fv.injEq, valS_q, valS_p, valS_c, valS_f, rowsK_len, rowsK_get, Tryz.ntmps164, Nat.reduceEqDiff, reduceCtorEq, Nat.reduceMul, Nat.reduceAdd, Nat.reduceSub, Nat.reduceDiv, Nat.reduceMod, Nat.reduceLeDiff, Nat.reduceLT, Nat.reduceBNe, Nat.reduceBEq, reduceIte, Int.reduceLE, Int.reduceLT, Int.reduceToNat, Int.reduceNeg, Int.reduceAdd, Int.reduceSub, Int.reduceMul, Int.reduceEq]
        have b1 : badPt (l.getD i.toNat 0) = true → badF l i.toNat = 3 := fun a => if_pos a
        have b0 : badPt (l.getD i.toNat 0) = false → badF l i.toNat = 0 := fun a => if_neg (ne_tf a)
        have bd : badPt (l.getD i.toNat 0) = (decide (l.getD i.toNat 0 < 32) || (l.getD i.toNat 0 == 127)) := rfl
        generalize l.getD i.toNat 0 = x at *
        refine ⟨fun a => ⟨hi, a, fun b => ⟨fun c => ?_, fun c => ?_⟩, fun b => ?_⟩, fun a => (hN a).symm⟩
        · exact (hE 3 a (b1 (by rw [bd]; simp [c])) (by decide)).symm
        · exact ⟨hS a (b0 (by rw [bd]; simp [b, c])), hM a⟩
        · exact (hE 3 a (b1 (by rw [bd]; simp [b])) (by decide)).symm
    · rw [e2 d, if_pos f]
    · rw [e2 d, if_neg (fun x => x f), low_lit (by omega), high_lit (by omega) (by omega)]
      exact ⟨by omega, by omega, by omega, by omega, by omega, by omega, fun x => (if_pos x).symm, fun x => (if_neg (ne_ft x)).symm⟩
theorem le_nil {s : ByteArray} (h : keyB s = true) : ¬ (Op.bytesLess s.toList (⟨#[]⟩ : ByteArray).toList = true ∨ s = ⟨#[]⟩) := by
  rintro (c | rfl)
  · rw [toList_eq_data (⟨#[]⟩ : ByteArray)] at c
    change Op.bytesLess s.toList [] = true at c
    unfold Op.bytesLess at c
    exact absurd c (by simp)
  · revert h
    decide
/-- fields -/
def fieldF (l : List TField) (i : Nat) : Int := if keyB (l.getD i TField.z).name = false then 5 else if valF (l.getD i TField.z).value ≠ 0 then valF (l.getD i TField.z).value else
  if 0 < (i : Int) ∧ (Op.bytesLess (l.getD i TField.z).name.toList (l.getD (i - 1) TField.z).name.toList = true ∨ (l.getD i TField.z).name = (l.getD (i - 1) TField.z).name) then 7 else 0
def fieldsF (l : List TField) : Int := if 30 < (l.length : Int) then 2 else firstI l.length (fieldF l)
def fieldsS  : Spec where
  pre xs := ∃ (l : List TField), xs = [.sl (TField.rows l)] ∧ (okL TField.ok l)
  post xs y := ∃ (l : List TField), xs = [.sl (TField.rows l)] ∧ y = .i (fieldsF l)
  cost _ := 0
  fresh := true
theorem fieldsS_c  (xs : List AV) : (fieldsS).cost xs = 0 := nr rfl
theorem fieldsS_f  : (fieldsS).fresh = true := nr rfl
theorem fieldsS_q  (l : List TField) : (fieldsS).pre [.sl (TField.rows l)] = (okL TField.ok l) := propext ⟨fun h => by
  have h' : ∃ (l' : List TField), ([.sl (TField.rows l)] : List AV) = [.sl (TField.rows l')] ∧ (okL TField.ok l') := h
  obtain ⟨l', e, h⟩ := h'
  simp only [List.cons.injEq, AV.dv.injEq, AV.dp.injEq, AV.fv.injEq, DV.d.injEq, DV.ag.injEq, D.int.injEq, D.str.injEq, D.bool.injEq, D.sl.injEq, true_and, and_true, intsDi_inj, rowsT_inj, rowsKi_inj, TField.row_inj, TField.rows_inj] at e
  obtain rfl := e
  exact h, fun h => ⟨l, rfl, h⟩⟩
theorem fieldsS_p  (l : List TField) : (fieldsS).post [.sl (TField.rows l)] = fun y => y = .i (fieldsF l) := funext fun y => propext ⟨fun h => by
  have h' : ∃ (l' : List TField), ([.sl (TField.rows l)] : List AV) = [.sl (TField.rows l')] ∧ y = .i (fieldsF l') := h
  obtain ⟨l', e, h⟩ := h'
  simp only [List.cons.injEq, AV.dv.injEq, AV.dp.injEq, AV.fv.injEq, DV.d.injEq, DV.ag.injEq, D.int.injEq, D.str.injEq, D.bool.injEq, D.sl.injEq, true_and, and_true, intsDi_inj, rowsT_inj, rowsKi_inj, TField.row_inj, TField.rows_inj] at e
  obtain rfl := e
  exact h, fun h => ⟨l, rfl, h⟩⟩
theorem CheckFields_ctr {cx : Cx} (h : Seat cx) (hU : Utf8 cx) : Ctr cx 117 fieldsS := by
  refine ctr_of (fn := Tryz.f117) (l := [.tmp 2]) (envL [(90, (strB keyB)), (161, valS)]) [0, 2, 3, 4, 5, 8, 9, 10, 11, 12, 19, 24, 38] [] [] (envL_cons (IsKey_ctr h) (envL_cons (CheckValue_ctr h hU) (env0 h.hP))) ?_ (by rw [h.hP]; exact Tryz.func117) rfl (by kernel_rfl) rfl ?_ ?_
  · rw [h.hP]; exact ⟨_, Tryz.func117, by kernel_rfl, by kernel_rfl⟩
  · rintro xs ⟨l, rfl, h1⟩; exact ⟨_, l, rfl, rfl⟩
  · rintro xs ⟨l, rfl, h1⟩
    refine ⟨by rw [Tryz.ntmps117]; simp, ?_⟩
    simp only [go_sem, h.hP, List.cons_append, List.nil_append, Meets_e, Below_e, Prod.exists, exists_eq, exists_eq_left, exists_eq_left', exists_eq_right, exists_eq_right', exists_and_left, exists_and_right, Ob.arr.injEq, AV.own.injEq, AV.fv.injEq, fieldsS_q, fieldsS_p, fieldsS_c, fieldsS_f, TField.len, Tryz.ntmps117, Nat.reduceEqDiff, reduceCtorEq, Nat.reduceMul, Nat.reduceAdd, Nat.reduceSub, Nat.reduceDiv, Nat.reduceMod, Nat.reduceLeDiff, Nat.reduceLT, Nat.reduceBNe, Nat.reduceBEq, reduceIte, Int.reduceLE, Int.reduceLT, Int.reduceToNat, Int.reduceNeg, Int.reduceAdd, Int.reduceSub, Int.reduceMul, Int.reduceEq]
    refine ⟨fun c => (if_pos c).symm, fun c => ?_⟩
    have hc : fieldsF l = firstI l.length (fieldF l) := if_neg c
    rw [hc]
    refine vc_loopS (Int) (fun (i : Int) => [(11, .i i)]) [] (fun (i : Int) => []) (fun (i : Int) => []) (fun (i : Int) => 0) (fun (i : Int) => Rounds l.length (fieldF l) i) (fun (i : Int) => (l.length - i).toNat) [] ?_ ?_
    · simp only [go_sem, h.hP, List.cons_append, List.nil_append, Meets_e, Below_e, Prod.exists, exists_eq, exists_eq_left, exists_eq_left', exists_eq_right, exists_eq_right', exists_and_left, exists_and_right, Ob.arr.injEq, AV.own.injEq, AV.fv.injEq, Tryz.ntmps117, Nat.reduceEqDiff, reduceCtorEq, Nat.reduceMul, Nat.reduceAdd, Nat.reduceSub, Nat.reduceDiv, Nat.reduceMod, Nat.reduceLeDiff, Nat.reduceLT, Nat.reduceBNe, Nat.reduceBEq, reduceIte, Int.reduceLE, Int.reduceLT, Int.reduceToNat, Int.reduceNeg, Int.reduceAdd, Int.reduceSub, Int.reduceMul, Int.reduceEq]
      exact Rounds.start
    · rintro i hr
      obtain ⟨hi, hS, hM, hE, hN⟩ := hr.use (by have := h1.1; omega)
      have ho : (l.getD i.toNat TField.z).ok := okL_get h1 TField.z_ok _
      simp only [go_sem, h.hP, List.cons_append, List.nil_append, Meets_e, Below_e, Prod.exists, exists_eq, exists_eq_left, exists_eq_left', exists_eq_right, exists_eq_right', exists_and_left, exists_and_right, Ob.arr.injEq, AV.own.injEq, AV.fv.injEq, fieldsS_q, fieldsS_p, fieldsS_c, fieldsS_f, strB_q, strB_p, strB_c, strB_f, valS_q, valS_p, valS_c, valS_f, TField.len, TField.get, Tryz.ntmps117, Nat.reduceEqDiff, reduceCtorEq, Nat.reduceMul, Nat.reduceAdd, Nat.reduceSub, Nat.reduceDiv, Nat.reduceMod, Nat.reduceLeDiff, Nat.reduceLT, Nat.reduceBNe, Nat.reduceBEq, reduceIte, Int.reduceLE, Int.reduceLT, Int.reduceToNat, Int.reduceNeg, Int.reduceAdd, Int.reduceSub, Int.reduceMul, Int.reduceEq]
      have hl := h1.1
      have hw : 0 < i → i < l.length → IntKind.i64.wrap (i - 1) = i - 1 := fun a b => i64w (by omega) (by omega)
      have e0 : fieldF l i.toNat = if keyB (l.getD i.toNat TField.z).name = false then 5 else if valF (l.getD i.toNat TField.z).value ≠ 0 then valF (l.getD i.toNat TField.z).value else if 0 < i ∧ (Op.bytesLess (l.getD i.toNat TField.z).name.toList (l.getD (i - 1).toNat TField.z).name.toList = true ∨ (l.getD i.toNat TField.z).name = (l.getD (i - 1).toNat TField.z).name) then 7 else 0 := by
        unfold fieldF
        rw [Int.toNat_of_nonneg hi, show i.toNat - 1 = (i - 1).toNat by omega]
      generalize l.getD i.toNat TField.z = x at *
      obtain ⟨p1, p2⟩ := ho
      unfold okS at p1
      refine ⟨fun a => ⟨hi, a, by omega, fun b => (hE 5 a (e0.trans (if_pos b)) (by decide)).symm, fun b => ⟨p2, fun c => (hE _ a (e0.trans ((if_neg (ne_ft b)).trans (if_pos c))) c).symm, fun c => ⟨fun d => ?_, fun d => ?_⟩⟩⟩, fun a => (hN a).symm⟩
      · rw [hw d a]
        have e1 := e0.trans ((if_neg (ne_ft b)).trans (if_neg (fun q => q c)))
        refine ⟨by omega, by omega, fun e => (hE 7 a (e1.trans (if_pos ⟨d, e⟩)) (by decide)).symm, fun e => ⟨hS a (e1.trans (if_neg fun q => ?_)), hM a⟩⟩
        rw [Bool.or_eq_false_iff, decide_eq_false_iff_not] at e
        exact q.2.elim (ne_tf e.1) e.2
      · have e1 := e0.trans ((if_neg (ne_ft b)).trans (if_neg (fun q => q c)))
        exact ⟨hS a (e1.trans (if_neg fun q => d q.1)), hM a⟩
set_option maxHeartbeats 4000000 in
theorem FieldsFault_ctr {cx : Cx} (h : Seat cx) (hU : Utf8 cx) : Ctr cx 124 fieldsS := by
  refine ctr_of (fn := Tryz.f124) (l := [.tmp 2]) (envL [(65, (strB keyB)), (164, valS)]) [0, 2, 3, 5, 6, 9, 10, 11, 12, 13, 19, 24, 29] [] [] (envL_cons (Key_ctr h) (envL_cons (ValueFault_ctr h hU) (env0 h.hP))) ?_ (by rw [h.hP]; exact Tryz.func124) rfl (by kernel_rfl) rfl ?_ ?_
  · rw [h.hP]; exact ⟨_, Tryz.func124, by kernel_rfl, by kernel_rfl⟩
  · rintro xs ⟨l, rfl, h1⟩; exact ⟨_, l, rfl, rfl⟩
  · rintro xs ⟨l, rfl, h1⟩
    refine ⟨by rw [Tryz.ntmps124]; simp, ?_⟩
    simp only [go_sem, h.hP, List.cons_append, List.nil_append, Meets_e, Below_e, Prod.exists, exists_eq, exists_eq_left, exists_eq_left', exists_eq_right, exists_eq_right', exists_and_left, exists_and_right, Ob.arr.injEq, AV.own.injEq, AV.fv.injEq, fieldsS_q, fieldsS_p, fieldsS_c, fieldsS_f, TField.len, Tryz.ntmps124, Nat.reduceEqDiff, reduceCtorEq, Nat.reduceMul, Nat.reduceAdd, Nat.reduceSub, Nat.reduceDiv, Nat.reduceMod, Nat.reduceLeDiff, Nat.reduceLT, Nat.reduceBNe, Nat.reduceBEq, reduceIte, Int.reduceLE, Int.reduceLT, Int.reduceToNat, Int.reduceNeg, Int.reduceAdd, Int.reduceSub, Int.reduceMul, Int.reduceEq]
    refine ⟨fun c => (if_pos c).symm, fun c => ?_⟩
    have hc : fieldsF l = firstI l.length (fieldF l) := if_neg c
    rw [hc]
    refine vc_loopS (Int × ByteArray) (fun (x : Int × ByteArray) => match x with | (i, s) => [(12, .i i), (3, .str s)]) [] (fun (x : Int × ByteArray) => match x with | (i, s) => []) (fun (x : Int × ByteArray) => match x with | (i, s) => []) (fun (x : Int × ByteArray) => match x with | (i, s) => 0) (fun (x : Int × ByteArray) => match x with | (i, s) => Rounds l.length (fieldF l) i ∧ (0 < i → s = (l.getD (i - 1).toNat TField.z).name) ∧ (i = 0 → s = ⟨#[]⟩)) (fun (x : Int × ByteArray) => match x with | (i, s) => (l.length - i).toNat) [] ?_ ?_
    · simp only [go_sem, h.hP, List.cons_append, List.nil_append, Meets_e, Below_e, Prod.exists, exists_eq, exists_eq_left, exists_eq_left', exists_eq_right, exists_eq_right', exists_and_left, exists_and_right, Ob.arr.injEq, AV.own.injEq, AV.fv.injEq, Tryz.ntmps124, Nat.reduceEqDiff, reduceCtorEq, Nat.reduceMul, Nat.reduceAdd, Nat.reduceSub, Nat.reduceDiv, Nat.reduceMod, Nat.reduceLeDiff, Nat.reduceLT, Nat.reduceBNe, Nat.reduceBEq, reduceIte, Int.reduceLE, Int.reduceLT, Int.reduceToNat, Int.reduceNeg, Int.reduceAdd, Int.reduceSub, Int.reduceMul, Int.reduceEq]
      exact Rounds.start
    · rintro ⟨i, s⟩ ⟨hr, j2, j3⟩
      obtain ⟨hi, hS, hM, hE, hN⟩ := hr.use (by have := h1.1; omega)
      have ho : (l.getD i.toNat TField.z).ok := okL_get h1 TField.z_ok _
      simp only [go_sem, h.hP, List.cons_append, List.nil_append, Meets_e, Below_e, Prod.exists, exists_eq, exists_eq_left, exists_eq_left', exists_eq_right, exists_eq_right', exists_and_left, exists_and_right, Ob.arr.injEq, AV.own.injEq, AV.fv.injEq, fieldsS_q, fieldsS_p, fieldsS_c, fieldsS_f, strB_q, strB_p, strB_c, strB_f, valS_q, valS_p, valS_c, valS_f, TField.len, TField.get, Tryz.ntmps124, Nat.reduceEqDiff, reduceCtorEq, Nat.reduceMul, Nat.reduceAdd, Nat.reduceSub, Nat.reduceDiv, Nat.reduceMod, Nat.reduceLeDiff, Nat.reduceLT, Nat.reduceBNe, Nat.reduceBEq, reduceIte, Int.reduceLE, Int.reduceLT, Int.reduceToNat, Int.reduceNeg, Int.reduceAdd, Int.reduceSub, Int.reduceMul, Int.reduceEq]
      have hl := h1.1
      have hw : i < l.length → IntKind.i64.wrap (i + 1) = i + 1 := fun b => i64w (by omega) (by omega)
      have e0 : fieldF l i.toNat = if keyB (l.getD i.toNat TField.z).name = false then 5 else if valF (l.getD i.toNat TField.z).value ≠ 0 then valF (l.getD i.toNat TField.z).value else if 0 < i ∧ (Op.bytesLess (l.getD i.toNat TField.z).name.toList (l.getD (i - 1).toNat TField.z).name.toList = true ∨ (l.getD i.toNat TField.z).name = (l.getD (i - 1).toNat TField.z).name) then 7 else 0 := by
        unfold fieldF
        rw [Int.toNat_of_nonneg hi, show i.toNat - 1 = (i - 1).toNat by omega]
      have hg : (l.getD (i + 1 - 1).toNat TField.z).name = (l.getD i.toNat TField.z).name := by rw [show i + 1 - 1 = i by omega]
      generalize l.getD i.toNat TField.z = x at *
      obtain ⟨p1, p2⟩ := ho
      unfold okS at p1
      refine ⟨fun a => ⟨hi, a, by omega, fun b => (hE 5 a (e0.trans (if_pos b)) (by decide)).symm, fun b => ⟨p2, fun c => (hE _ a (e0.trans ((if_neg (ne_ft b)).trans (if_pos c))) c).symm, fun c => ?_⟩⟩, fun a => (hN a).symm⟩
      have e1 := e0.trans ((if_neg (ne_ft b)).trans (if_neg (fun q => q c)))
      have i0 : Op.bytesLess x.name.toList s.toList = true ∨ x.name = s → 0 < i := fun e => by
        rcases Int.lt_or_eq_of_le hi with g | g
        · exact g
        · rw [j3 g.symm] at e
          exact absurd e (le_nil b)
      refine ⟨fun e => ?_, fun e => ?_⟩
      · have g := i0 e
        rw [j2 g] at e
        exact (hE 7 a (e1.trans (if_pos ⟨g, e⟩)) (by decide)).symm
      · rw [Bool.or_eq_false_iff, decide_eq_false_iff_not] at e
        have s0 := hS a (e1.trans (if_neg fun q => by rw [← j2 q.1] at q; exact q.2.elim (ne_tf e.1) e.2))
        have m0 := hM a
        rw [hw a] at s0 m0 ⊢
        exact ⟨s0, fun _ => hg.symm, fun g => by omega, m0⟩
end Go.Avc

/- Check signs of member numbers, by the program and by the reference. No condition. -/
set_option linter.unusedVariables false
set_option linter.unusedSimpArgs false
set_option maxRecDepth 100000
namespace Go.Avc
open Go Go.Proofs

theorem ix_lit {s : ByteArray} {i : Int} (h : memC (bt s i) = true) : ixB ⟨#[48, 49, 50, 51, 52, 53, 54, 55, 56, 57, 65, 66, 67, 68, 69, 70, 71, 72, 73, 74, 75, 76, 77, 78, 79, 80, 81, 82, 83, 84, 85, 86, 87, 88, 89, 90]⟩ (bt s i) = idxC (bt s i) := idx_bt h
theorem tdivN {a b : Int} (h : 0 ≤ a) : a.tdiv b = a / b := Int.tdiv_eq_ediv_of_nonneg h
theorem tmodN {a b : Int} (h : 0 ≤ a) : a.tmod b = a % b := Int.tmod_eq_emod_of_nonneg h
theorem signs_lit (i : Int) : bt ⟨#[48, 49, 50, 51, 52, 53, 54, 55, 56, 57, 65, 66, 67, 68, 69, 70, 71, 72, 73, 74, 75, 76, 77, 78, 79, 80, 81, 82, 83, 84, 85, 86, 87, 88, 89, 90]⟩ i = bt signsB i := rfl
theorem sumUp_step (s : ByteArray) {i : Int} (h : 0 ≤ i) : sumUp s (i + 1).toNat = sumUp s i.toNat + termS s i.toNat := by
  rw [show (i + 1).toNat = i.toNat + 1 by omega]
  rfl
def signP  : Spec where
  pre xs := ∃ (s : ByteArray), xs = [.str s] ∧ (s.size ≤ 100 ∧ (bl s).all memC = true)
  post xs y := ∃ (s : ByteArray), xs = [.str s] ∧ y = .u8 (bt signsB (signN s))
  cost _ := 0
  fresh := true
theorem signP_c  (xs : List AV) : (signP).cost xs = 0 := nr rfl
theorem signP_f  : (signP).fresh = true := nr rfl
theorem signP_q  (s : ByteArray) : (signP).pre [.str s] = (s.size ≤ 100 ∧ (bl s).all memC = true) := propext ⟨fun h => by
  have h' : ∃ (s' : ByteArray), ([.str s] : List AV) = [.str s'] ∧ (s'.size ≤ 100 ∧ (bl s').all memC = true) := h
  obtain ⟨s', e, h⟩ := h'
  simp only [List.cons.injEq, AV.dv.injEq, AV.dp.injEq, AV.fv.injEq, DV.d.injEq, DV.ag.injEq, D.int.injEq, D.str.injEq, D.bool.injEq, D.sl.injEq, true_and, and_true, intsDi_inj, rowsT_inj, rowsKi_inj] at e
  obtain rfl := e
  exact h, fun h => ⟨s, rfl, h⟩⟩
theorem signP_p  (s : ByteArray) : (signP).post [.str s] = fun y => y = .u8 (bt signsB (signN s)) := funext fun y => propext ⟨fun h => by
  have h' : ∃ (s' : ByteArray), ([.str s] : List AV) = [.str s'] ∧ y = .u8 (bt signsB (signN s')) := h
  obtain ⟨s', e, h⟩ := h'
  simp only [List.cons.injEq, AV.dv.injEq, AV.dp.injEq, AV.fv.injEq, DV.d.injEq, DV.ag.injEq, D.int.injEq, D.str.injEq, D.bool.injEq, D.sl.injEq, true_and, and_true, intsDi_inj, rowsT_inj, rowsKi_inj] at e
  obtain rfl := e
  exact h, fun h => ⟨s, rfl, h⟩⟩
theorem pcheckSign_ctr {cx : Cx} (h : Seat cx) : Ctr cx 131 signP := by
  refine ctr_of (fn := Tryz.f131) (l := [.tmp 2]) (envL [(143, ixSp)]) [0, 2, 3, 4, 5, 6, 11] [] [] (envL_cons (indexByte_ctr h) (env0 h.hP)) ?_ (by rw [h.hP]; exact Tryz.func131) rfl (by kernel_rfl) rfl ?_ ?_
  · rw [h.hP]; exact ⟨_, Tryz.func131, by kernel_rfl, by kernel_rfl⟩
  · rintro xs ⟨s, rfl, h1, h2⟩; exact ⟨_, s, rfl, rfl⟩
  · rintro xs ⟨s, rfl, h1, h2⟩
    refine ⟨by rw [Tryz.ntmps131]; simp, ?_⟩
    simp only [go_sem, h.hP, List.cons_append, List.nil_append, Meets_e, Below_e, Prod.exists, exists_eq, exists_eq_left, exists_eq_left', exists_eq_right, exists_eq_right', exists_and_left, exists_and_right, Ob.arr.injEq, AV.own.injEq, AV.fv.injEq, signP_q, signP_p, signP_c, signP_f, ixSp_q, ixSp_p, ixSp_c, ixSp_f, Tryz.ntmps131, Nat.reduceEqDiff, reduceCtorEq, Nat.reduceMul, Nat.reduceAdd, Nat.reduceSub, Nat.reduceDiv, Nat.reduceMod, Nat.reduceLeDiff, Nat.reduceLT, Nat.reduceBNe, Nat.reduceBEq, reduceIte, Int.reduceLE, Int.reduceLT, Int.reduceToNat, Int.reduceNeg, Int.reduceAdd, Int.reduceSub, Int.reduceMul, Int.reduceEq]
    refine vc_loopS (Int × Int × Int) (fun (x : Int × Int × Int) => match x with | (i, u, t) => [(5, .i i), (3, .i u), (4, .i t)]) [] (fun (x : Int × Int × Int) => match x with | (i, u, t) => []) (fun (x : Int × Int × Int) => match x with | (i, u, t) => []) (fun (x : Int × Int × Int) => match x with | (i, u, t) => 0) (fun (x : Int × Int × Int) => match x with | (i, u, t) => -1 ≤ i ∧ i < s.size ∧ u + sumUp s (i + 1).toNat = sumUp s s.size ∧ (t = if ((s.size : Int) - i) % 2 = 1 then 2 else 1) ∧ 0 ≤ u) (fun (x : Int × Int × Int) => match x with | (i, u, t) => (i + 1).toNat) [] ?_ ?_
    · simp only [go_sem, h.hP, List.cons_append, List.nil_append, Meets_e, Below_e, Prod.exists, exists_eq, exists_eq_left, exists_eq_left', exists_eq_right, exists_eq_right', exists_and_left, exists_and_right, Ob.arr.injEq, AV.own.injEq, AV.fv.injEq, Tryz.ntmps131, Nat.reduceEqDiff, reduceCtorEq, Nat.reduceMul, Nat.reduceAdd, Nat.reduceSub, Nat.reduceDiv, Nat.reduceMod, Nat.reduceLeDiff, Nat.reduceLT, Nat.reduceBNe, Nat.reduceBEq, reduceIte, Int.reduceLE, Int.reduceLT, Int.reduceToNat, Int.reduceNeg, Int.reduceAdd, Int.reduceSub, Int.reduceMul, Int.reduceEq]
      rw [i64w (n := (s.size : Int) - 1) (by omega) (by omega), show ((s.size : Int) - 1 + 1).toNat = s.size by omega]
      exact ⟨by omega, by omega, Int.zero_add _, (if_pos (by omega)).symm⟩
    · rintro ⟨i, u, t⟩ ⟨j1, j2, j3, j4, j5⟩
      simp only [go_sem, h.hP, List.cons_append, List.nil_append, Meets_e, Below_e, Prod.exists, exists_eq, exists_eq_left, exists_eq_left', exists_eq_right, exists_eq_right', exists_and_left, exists_and_right, Ob.arr.injEq, AV.own.injEq, AV.fv.injEq, signP_q, signP_p, signP_c, signP_f, ixSp_q, ixSp_p, ixSp_c, ixSp_f, Tryz.ntmps131, Nat.reduceEqDiff, reduceCtorEq, Nat.reduceMul, Nat.reduceAdd, Nat.reduceSub, Nat.reduceDiv, Nat.reduceMod, Nat.reduceLeDiff, Nat.reduceLT, Nat.reduceBNe, Nat.reduceBEq, reduceIte, Int.reduceLE, Int.reduceLT, Int.reduceToNat, Int.reduceNeg, Int.reduceAdd, Int.reduceSub, Int.reduceMul, Int.reduceEq]
      have hs0 := sumUp_in h2 s.size (Nat.le_refl _)
      have hs1 := sumUp_in h2 (i + 1).toNat (by omega)
      refine ⟨fun c => ?_, fun c => ?_⟩
      · have hm := all_at h2 c j2
        rw [ix_lit hm]
        have hx := idxC_in hm
        have ht := sumUp_step s c
        have hterm : termS s i.toNat = t * idxC (bt s i) / 36 + t * idxC (bt s i) % 36 := by
          unfold termS
          simp only
          rw [Int.toNat_of_nonneg c, j4]
          by_cases e : ((s.size : Int) - i) % 2 = 1
          · rw [if_pos e, if_pos (by omega)]
          · rw [if_neg e, if_neg (by omega), Int.one_mul]
        have hp0 : 0 ≤ t * idxC (bt s i) ∧ t * idxC (bt s i) ≤ 70 := by
          rw [j4]
          split <;> omega
        generalize t * idxC (bt s i) = p at *
        rw [i64w (n := p) (by omega) (by omega), tdivN hp0.1, tmodN hp0.1, i64w (n := p / 36) (by omega) (by omega), i64w (n := p / 36 + p % 36) (by omega) (by omega), i64w (n := u + (p / 36 + p % 36)) (by omega) (by omega), i64w (n := i - 1) (by omega) (by omega), i64w (n := 3 - t) (by rw [j4]; split <;> omega) (by rw [j4]; split <;> omega), show i - 1 + 1 = i by omega]
        exact ⟨c, j2, by omega, by omega, by omega, by rw [j4]; split <;> split <;> omega, by omega, by omega⟩
      · have hi : (i + 1).toNat = 0 := by omega
        rw [hi] at j3
        have hz : sumUp s 0 = 0 := rfl
        have hsg := signN_in s
        have e1 : (36 - u % 36) % 36 = signN s := by
          unfold signN
          rw [show u = sumUp s s.size by omega]
        rw [tmodN j5, i64w (n := 36 - u % 36) (by omega) (by omega), tmodN (by omega), signs_lit, e1]
        exact ⟨by omega, by omega, rfl⟩
def signR  : Spec where
  pre xs := ∃ (s : ByteArray), xs = [.str s] ∧ (s.size ≤ 100 ∧ (bl s).all memC = true)
  post xs y := ∃ (s : ByteArray), xs = [.str s] ∧ y = .i (signN s)
  cost _ := 0
  fresh := true
theorem signR_c  (xs : List AV) : (signR).cost xs = 0 := nr rfl
theorem signR_f  : (signR).fresh = true := nr rfl
theorem signR_q  (s : ByteArray) : (signR).pre [.str s] = (s.size ≤ 100 ∧ (bl s).all memC = true) := propext ⟨fun h => by
  have h' : ∃ (s' : ByteArray), ([.str s] : List AV) = [.str s'] ∧ (s'.size ≤ 100 ∧ (bl s').all memC = true) := h
  obtain ⟨s', e, h⟩ := h'
  simp only [List.cons.injEq, AV.dv.injEq, AV.dp.injEq, AV.fv.injEq, DV.d.injEq, DV.ag.injEq, D.int.injEq, D.str.injEq, D.bool.injEq, D.sl.injEq, true_and, and_true, intsDi_inj, rowsT_inj, rowsKi_inj] at e
  obtain rfl := e
  exact h, fun h => ⟨s, rfl, h⟩⟩
theorem signR_p  (s : ByteArray) : (signR).post [.str s] = fun y => y = .i (signN s) := funext fun y => propext ⟨fun h => by
  have h' : ∃ (s' : ByteArray), ([.str s] : List AV) = [.str s'] ∧ y = .i (signN s') := h
  obtain ⟨s', e, h⟩ := h'
  simp only [List.cons.injEq, AV.dv.injEq, AV.dp.injEq, AV.fv.injEq, DV.d.injEq, DV.ag.injEq, D.int.injEq, D.str.injEq, D.bool.injEq, D.sl.injEq, true_and, and_true, intsDi_inj, rowsT_inj, rowsKi_inj] at e
  obtain rfl := e
  exact h, fun h => ⟨s, rfl, h⟩⟩
theorem rcheckSign_ctr {cx : Cx} (h : Seat cx) : Ctr cx 86 signR := by
  refine ctr_of (fn := Tryz.f86) (l := [.tmp 2]) (envL [(143, ixSp)]) [0, 2, 3, 4, 5, 6, 8, 9, 10, 21, 32, 33, 39] [] [] (envL_cons (indexByte_ctr h) (env0 h.hP)) ?_ (by rw [h.hP]; exact Tryz.func86) rfl (by kernel_rfl) rfl ?_ ?_
  · rw [h.hP]; exact ⟨_, Tryz.func86, by kernel_rfl, by kernel_rfl⟩
  · rintro xs ⟨s, rfl, h1, h2⟩; exact ⟨_, s, rfl, rfl⟩
  · rintro xs ⟨s, rfl, h1, h2⟩
    refine ⟨by rw [Tryz.ntmps86]; simp, ?_⟩
    simp only [go_sem, h.hP, List.cons_append, List.nil_append, Meets_e, Below_e, Prod.exists, exists_eq, exists_eq_left, exists_eq_left', exists_eq_right, exists_eq_right', exists_and_left, exists_and_right, Ob.arr.injEq, AV.own.injEq, AV.fv.injEq, signR_q, signR_p, signR_c, signR_f, ixSp_q, ixSp_p, ixSp_c, ixSp_f, Tryz.ntmps86, Nat.reduceEqDiff, reduceCtorEq, Nat.reduceMul, Nat.reduceAdd, Nat.reduceSub, Nat.reduceDiv, Nat.reduceMod, Nat.reduceLeDiff, Nat.reduceLT, Nat.reduceBNe, Nat.reduceBEq, reduceIte, Int.reduceLE, Int.reduceLT, Int.reduceToNat, Int.reduceNeg, Int.reduceAdd, Int.reduceSub, Int.reduceMul, Int.reduceEq]
    refine vc_loopS (Int × Int) (fun (x : Int × Int) => match x with | (i, u) => [(9, .i i), (3, .i u)]) [] (fun (x : Int × Int) => match x with | (i, u) => []) (fun (x : Int × Int) => match x with | (i, u) => []) (fun (x : Int × Int) => match x with | (i, u) => 0) (fun (x : Int × Int) => match x with | (i, u) => 0 ≤ i ∧ i ≤ s.size ∧ u = sumUp s i.toNat) (fun (x : Int × Int) => match x with | (i, u) => (s.size - i).toNat) [] ?_ ?_
    · simp only [go_sem, h.hP, List.cons_append, List.nil_append, Meets_e, Below_e, Prod.exists, exists_eq, exists_eq_left, exists_eq_left', exists_eq_right, exists_eq_right', exists_and_left, exists_and_right, Ob.arr.injEq, AV.own.injEq, AV.fv.injEq, Tryz.ntmps86, Nat.reduceEqDiff, reduceCtorEq, Nat.reduceMul, Nat.reduceAdd, Nat.reduceSub, Nat.reduceDiv, Nat.reduceMod, Nat.reduceLeDiff, Nat.reduceLT, Nat.reduceBNe, Nat.reduceBEq, reduceIte, Int.reduceLE, Int.reduceLT, Int.reduceToNat, Int.reduceNeg, Int.reduceAdd, Int.reduceSub, Int.reduceMul, Int.reduceEq]
      exact ⟨Int.natCast_nonneg _, rfl⟩
    · rintro ⟨i, u⟩ ⟨j1, j2, j3⟩
      simp only [go_sem, h.hP, List.cons_append, List.nil_append, Meets_e, Below_e, Prod.exists, exists_eq, exists_eq_left, exists_eq_left', exists_eq_right, exists_eq_right', exists_and_left, exists_and_right, Ob.arr.injEq, AV.own.injEq, AV.fv.injEq, signR_q, signR_p, signR_c, signR_f, ixSp_q, ixSp_p, ixSp_c, ixSp_f, Tryz.ntmps86, Nat.reduceEqDiff, reduceCtorEq, Nat.reduceMul, Nat.reduceAdd, Nat.reduceSub, Nat.reduceDiv, Nat.reduceMod, Nat.reduceLeDiff, Nat.reduceLT, Nat.reduceBNe, Nat.reduceBEq, reduceIte, Int.reduceLE, Int.reduceLT, Int.reduceToNat, Int.reduceNeg, Int.reduceAdd, Int.reduceSub, Int.reduceMul, Int.reduceEq]
      have hs1 := sumUp_in h2 i.toNat (by omega)
      refine ⟨fun c => ?_, fun c => ?_⟩
      · have hm := all_at h2 j1 c
        rw [ix_lit hm]
        have hx := idxC_in hm
        have ht := sumUp_step s j1
        have hterm : termS s i.toNat = if ((s.size : Int) - i) % 2 = 1 then idxC (bt s i) * 2 / 36 + idxC (bt s i) * 2 % 36 else idxC (bt s i) / 36 + idxC (bt s i) % 36 := by
          unfold termS
          simp only
          rw [Int.toNat_of_nonneg j1]
          by_cases e : ((s.size : Int) - i) % 2 = 1
          · rw [if_pos e, if_pos (by omega), Int.mul_comm]
          · rw [if_neg e, if_neg (by omega)]
        generalize idxC (bt s i) = x at *
        rw [i64w (n := (s.size : Int) - i) (by omega) (by omega), tmodN (by omega), i64w (n := i + 1) (by omega) (by omega)]
        refine ⟨j1, c, fun e => ?_, fun e => ?_⟩
        · rw [if_pos e] at hterm
          rw [i64w (n := x * 2) (by omega) (by omega), tdivN (by omega), tmodN (by omega), i64w (n := x * 2 / 36) (by omega) (by omega), i64w (n := x * 2 / 36 + x * 2 % 36) (by omega) (by omega), i64w (n := u + (x * 2 / 36 + x * 2 % 36)) (by omega) (by omega)]
          exact ⟨by omega, by omega, by omega, by omega⟩
        · rw [if_neg e] at hterm
          rw [tdivN (by omega), tmodN (by omega), i64w (n := x / 36) (by omega) (by omega), i64w (n := x / 36 + x % 36) (by omega) (by omega), i64w (n := u + (x / 36 + x % 36)) (by omega) (by omega)]
          exact ⟨by omega, by omega, by omega, by omega⟩
      · have hi : i.toNat = s.size := by omega
        rw [hi] at j3
        have hsg := signN_in s
        have e1 : (36 - u % 36) % 36 = signN s := by
          unfold signN
          rw [j3]
        refine vc_loopT (Int) (fun (c : Int) => [(32, .i c)]) [] (fun (c : Int) => []) (fun (c : Int) => []) (fun (c : Int) => 0) (fun (c : Int) => 0 ≤ c ∧ c ≤ signN s) (fun (c : Int) => (36 - c).toNat) [] ?_ ?_
        · simp only [go_sem, h.hP, List.cons_append, List.nil_append, Meets_e, Below_e, Prod.exists, exists_eq, exists_eq_left, exists_eq_left', exists_eq_right, exists_eq_right', exists_and_left, exists_and_right, Ob.arr.injEq, AV.own.injEq, AV.fv.injEq, Tryz.ntmps86, Nat.reduceEqDiff, reduceCtorEq, Nat.reduceMul, Nat.reduceAdd, Nat.reduceSub, Nat.reduceDiv, Nat.reduceMod, Nat.reduceLeDiff, Nat.reduceLT, Nat.reduceBNe, Nat.reduceBEq, reduceIte, Int.reduceLE, Int.reduceLT, Int.reduceToNat, Int.reduceNeg, Int.reduceAdd, Int.reduceSub, Int.reduceMul, Int.reduceEq]
          exact hsg.1
        · rintro d ⟨k1, k2⟩
          have hs2 := sumUp_in h2 s.size (Nat.le_refl _)
          simp only [go_sem, h.hP, List.cons_append, List.nil_append, Meets_e, Below_e, Prod.exists, exists_eq, exists_eq_left, exists_eq_left', exists_eq_right, exists_eq_right', exists_and_left, exists_and_right, Ob.arr.injEq, AV.own.injEq, AV.fv.injEq, signR_q, signR_p, signR_c, signR_f, Tryz.ntmps86, Nat.reduceEqDiff, reduceCtorEq, Nat.reduceMul, Nat.reduceAdd, Nat.reduceSub, Nat.reduceDiv, Nat.reduceMod, Nat.reduceLeDiff, Nat.reduceLT, Nat.reduceBNe, Nat.reduceBEq, reduceIte, Int.reduceLE, Int.reduceLT, Int.reduceToNat, Int.reduceNeg, Int.reduceAdd, Int.reduceSub, Int.reduceMul, Int.reduceEq]
          refine ⟨fun q => ?_, fun q => by omega⟩
          rw [i64w (n := u + d) (by omega) (by omega), tmodN (by omega), i64w (n := d + 1) (by omega) (by omega)]
          exact ⟨fun e => by omega, fun e => ⟨by omega, by omega, by omega⟩⟩
end Go.Avc

/- What the clocks of a right zone show: sort.Search and LocalAt; plain law. No condition. -/
set_option linter.unusedVariables false
set_option linter.unusedSimpArgs false
set_option maxRecDepth 100000
namespace Go.Avc
open Go Go.Proofs

/-! ### Plain law -/
def ascZ (l : List TShift) : Prop := ∀ i j : Nat, i ≤ j → j < l.length → (l.getD i TShift.z).at_ ≤ (l.getD j TShift.z).at_
structure OkZ (l : List TShift) : Prop where
  one : 1 ≤ l.length
  few : l.length ≤ 100
  asc : ascZ l
  fst : (l.getD 0 TShift.z).at_ = 0
  offs : ∀ i : Nat, i < l.length → -720 ≤ (l.getD i TShift.z).offset ∧ (l.getD i TShift.z).offset ≤ 840
  tops : ∀ i : Nat, i < l.length → (l.getD i TShift.z).at_ ≤ 4321439
theorem okZ {z : TZone} (h : zoneF z = 0) : OkZ z.shifts := by
  unfold zoneF at h
  split at h
  · cases h
  split at h
  · cases h
  split at h
  · cases h
  rename_i c1 c2 c3
  have hz := firstI_zero h
  have hstep : ∀ i : Nat, i + 1 < z.shifts.length → (z.shifts.getD i TShift.z).at_ ≤ (z.shifts.getD (i + 1) TShift.z).at_ := fun i hi => by
    have := hz (i + 1) hi
    unfold shE at this
    split at this
    · cases this
    split at this
    · cases this
    split at this
    · cases this
    rename_i d1 d2 d3
    rw [Nat.add_sub_cancel] at d3
    have : ¬ (z.shifts.getD (i + 1) TShift.z).at_ < (z.shifts.getD i TShift.z).at_ + 1800 := fun e => d3 ⟨by omega, e⟩
    omega
  refine ⟨by omega, by omega, ?_, ?_, fun i hi => ⟨(shE_in (hz i hi)).2.2.1, (shE_in (hz i hi)).2.2.2⟩, fun i hi => (shE_in (hz i hi)).2.1⟩
  · intro i j hij
    induction j with
    | zero =>
      intro _
      obtain rfl : i = 0 := by omega
      exact Int.le_refl _
    | succ j ih =>
      intro hj
      by_cases e : i = j + 1
      · subst e; exact Int.le_refl _
      · exact Int.le_trans (ih (by omega) (by omega)) (hstep j hj)
  · have := hz 0 (by omega)
    unfold shE at this
    split at this
    · cases this
    split at this
    · cases this
    rename_i d1 d2
    exact Decidable.not_not.1 (fun e => d2 ⟨rfl, e⟩)
/-- The first shift that is still to come. -/
def srchN (l : List TShift) (m : Int) : Nat := l.findIdx fun s => decide (m < s.at_)
theorem srchN_is {l : List TShift} {m i : Int} (h0 : 0 ≤ i) (h1 : i ≤ l.length) (h2 : ∀ k : Nat, (k : Int) < i → (l.getD k TShift.z).at_ ≤ m) (h3 : ∀ k : Nat, i ≤ (k : Int) → k < l.length → m < (l.getD k TShift.z).at_) : i = (srchN l m : Int) := by
  obtain ⟨n, rfl⟩ : ∃ n : Nat, i = n := ⟨i.toNat, by omega⟩
  have h1' : n ≤ l.length := by omega
  congr 1
  symm
  unfold srchN
  have hb : ∀ k : Nat, k < n → ∃ hk : k < l.length, decide (m < (l[k]'hk).at_) = false := fun k hk => by
    have := h2 k (by omega)
    rw [List.getD_eq_getElem?_getD, List.getElem?_eq_getElem (by omega), Option.getD_some] at this
    exact ⟨by omega, decide_eq_false (by omega)⟩
  by_cases e : n = l.length
  · subst e
    rw [List.findIdx_eq_length]
    intro x hx
    obtain ⟨k, hk, rfl⟩ := List.mem_iff_getElem.1 hx
    exact (hb k hk).2
  · have hn : n < l.length := by omega
    rw [List.findIdx_eq hn]
    refine ⟨?_, fun j hj => (hb j hj).2⟩
    have := h3 n (by omega) hn
    rw [List.getD_eq_getElem?_getD, List.getElem?_eq_getElem hn, Option.getD_some] at this
    exact decide_eq_true this
theorem srchN_le (l : List TShift) (m : Int) : srchN l m ≤ l.length := List.findIdx_le_length
theorem srchN_lt {l : List TShift} {m : Int} {k : Nat} (h : k < srchN l m) : (l.getD k TShift.z).at_ ≤ m := by
  have hl : k < l.length := Nat.lt_of_lt_of_le h (srchN_le l m)
  have := List.not_of_lt_findIdx h
  rw [List.getD_eq_getElem?_getD, List.getElem?_eq_getElem hl, Option.getD_some]
  simpa using this
theorem srchN_ge {l : List TShift} {m : Int} (ha : ascZ l) {k : Nat} (h : srchN l m ≤ k) (hk : k < l.length) : m < (l.getD k TShift.z).at_ := by
  have h0 : srchN l m < l.length := Nat.lt_of_le_of_lt h hk
  have := List.findIdx_getElem (w := h0)
  have h2 := ha _ _ h hk
  rw [List.getD_eq_getElem?_getD, List.getElem?_eq_getElem h0, Option.getD_some] at h2
  have := of_decide_eq_true this
  exact Int.lt_of_lt_of_le this h2
theorem srchN_pos {l : List TShift} {m : Int} (h : OkZ l) (hm : 0 ≤ m) : 1 ≤ srchN l m := by
  rcases Nat.eq_zero_or_pos (srchN l m) with e | e
  · have := srchN_ge (m := m) h.asc (k := 0) (by omega) (by have := h.one; omega)
    rw [h.fst] at this
    omega
  · exact e
def locF (l : List TShift) (m : Int) : Int := m + (l.getD (srchN l m - 1) TShift.z).offset
theorem locF_le {l : List TShift} {m : Int} (h : OkZ l) (hm : 0 ≤ m) : m - 720 ≤ locF l m ∧ locF l m ≤ m + 840 := by
  have h1 := srchN_pos h hm
  have h2 := srchN_le l m
  have := h.offs (srchN l m - 1) (by omega)
  unfold locF
  omega
def pairsZ (l : List TShift) : List (Int × Int) := l.map fun s => (s.at_, s.offset)
theorem pairsZ_len (l : List TShift) : (pairsZ l).length = l.length := List.length_map ..
theorem pairsZ_get (l : List TShift) (i : Nat) : (pairsZ l)[i]?.getD (0, 0) = ((l.getD i TShift.z).at_, (l.getD i TShift.z).offset) := by
  unfold pairsZ
  rw [List.getElem?_map, List.getD_eq_getElem?_getD]
  cases l[i]? <;> rfl
/-- The clock goes back from the last shift: it finds the same one. -/
theorem clock_eq {l : List TShift} {m : Int} (h : OkZ l) (hm : 0 ≤ m) (hm2 : m ≤ 4321440) : Clk.clock m (pairsZ l) = locF l m := by
  have h1 := srchN_pos h hm
  have h2 := srchN_le l m
  have ho := h.offs (srchN l m - 1) (by omega)
  have hlast : Clk.upto (Clk.nth (pairsZ l)) (l.length - srchN l m + 1) = Clk.upto (Clk.nth (pairsZ l)) (l.length - srchN l m) ++ [Clk.nth (pairsZ l) (l.length - srchN l m)] := Clk.upto_succ _ _
  have e := Clk.clock_some (m := m) (zs := pairsZ l) (k := l.length - srchN l m + 1) (by rw [pairsZ_len]; omega) hlast ?_ ?_
  · rw [e]
    unfold locF Clk.nth
    dsimp only
    rw [pairsZ_get, pairsZ_len, show l.length - 1 - (l.length - srchN l m) = srchN l m - 1 by omega]
    dsimp only
    unfold RowKit.wrap64
    omega
  · intro p hp
    obtain ⟨j, hj, rfl⟩ := List.mem_map.1 hp
    have hj := List.mem_range.1 hj
    unfold Clk.hit Clk.nth
    dsimp only
    rw [pairsZ_get, pairsZ_len]
    have := srchN_ge (m := m) h.asc (k := l.length - 1 - j) (by omega) (by omega)
    exact decide_eq_false (by dsimp only; omega)
  · unfold Clk.hit Clk.nth
    dsimp only
    rw [pairsZ_get, pairsZ_len]
    have := srchN_lt (l := l) (m := m) (k := l.length - 1 - (l.length - srchN l m)) (by omega)
    exact decide_eq_true (by dsimp only; exact this)
/-! ### The program -/
def locS : Spec where
  pre xs := ∃ (i : Int) (z : TZone) (m : Int), xs = [.i i, .dp z.row, .dp [.int .i64 m]] ∧ 0 ≤ i ∧ i < z.shifts.length
  post xs r := ∃ (i : Int) (z : TZone) (m : Int), xs = [.i i, .dp z.row, .dp [.int .i64 m]] ∧ r = .b (decide (m < (z.shifts.getD i.toNat TShift.z).at_))
  cost _ := 0
  fresh := true
theorem locS_c (xs : List AV) : locS.cost xs = 0 := nr rfl
theorem locS_f : locS.fresh = true := nr rfl
theorem LocalAt1_ctr {cx : Cx} (h : Seat cx) : Ctr cx 158 locS := by
  refine ctr_of (fn := Tryz.f158) (l := [.tmp 4]) (envL []) [0, 1, 2, 4] [] [] (env0 h.hP) ?_ (by rw [h.hP]; exact Tryz.func158) rfl (by kernel_rfl) rfl ?_ ?_
  · rw [h.hP]; exact ⟨_, Tryz.func158, by kernel_rfl, by kernel_rfl⟩
  · rintro xs ⟨i, z, m, rfl, h1⟩; exact ⟨_, i, z, m, rfl, rfl⟩
  · rintro xs ⟨i, z, m, rfl, h1, h2⟩
    refine ⟨by rw [Tryz.ntmps158]; simp, ?_⟩
    simp only [go_sem, h.hP, List.cons_append, List.nil_append, Meets_e, Below_e, Prod.exists, exists_eq, exists_eq_left, exists_eq_left', exists_eq_right, exists_eq_right', exists_and_left, exists_and_right, Ob.arr.injEq, AV.own.injEq, AV.fv.injEq, TZone.row, TShift.len, TShift.get, locS_c, locS_f, Tryz.ntmps158, Nat.reduceEqDiff, reduceCtorEq, Nat.reduceMul, Nat.reduceAdd, Nat.reduceSub, Nat.reduceDiv, Nat.reduceMod, Nat.reduceLeDiff, Nat.reduceLT, Nat.reduceBNe, Nat.reduceBEq, reduceIte, Int.reduceLE, Int.reduceLT, Int.reduceToNat, Int.reduceNeg, Int.reduceAdd, Int.reduceSub, Int.reduceMul, Int.reduceEq]
    exact ⟨h1, h2, i, z, m, rfl, rfl⟩
def locΦ (caps : List (List D)) : FSpec where
  pre xs := ∃ (z : TZone) (m i : Int), caps = [z.row, [.int .i64 m]] ∧ xs = [.d (.int .i64 i)] ∧ 0 ≤ i ∧ i < z.shifts.length
  post xs r := ∃ (z : TZone) (m i : Int), caps = [z.row, [.int .i64 m]] ∧ xs = [.d (.int .i64 i)] ∧ r = .d (.bool (decide (m < (z.shifts.getD i.toNat TShift.z).at_)))
theorem locΦ_of {cx : Cx} {fn : FuncId} (h : Ctr cx fn locS) (caps : List (List D)) : Ctr cx fn (clo locΦ caps) := by
  refine h.weaken (fun xs hx => ?_) (fun xs r hx hr => ?_) (fun _ => Nat.le_refl _) rfl
  · obtain ⟨ys, rfl, z, m, i, rfl, rfl, h1, h2⟩ := hx
    exact ⟨i, z, m, rfl, h1, h2⟩
  · obtain ⟨ys, rfl, z, m, i, rfl, rfl, h1, h2⟩ := hx
    obtain ⟨i', z', m', e, rfl⟩ := hr
    simp only [List.map_cons, List.map_nil, List.cons_append, List.nil_append, List.cons.injEq, AV.dv.injEq, AV.dp.injEq, DV.d.injEq, D.int.injEq, true_and, and_true] at e
    obtain ⟨rfl, e1, rfl⟩ := e
    obtain rfl := TZone.inj e1
    exact ⟨_, _, rfl, rfl, _, _, _, rfl, rfl, rfl⟩
theorem locΦ_pre (z : TZone) (m i : Int) : (locΦ [[.str z.name, .sl (TShift.rows z.shifts)], [.int .i64 m]]).pre [.d (.int .i64 i)] = (0 ≤ i ∧ i < z.shifts.length) := by
  apply propext
  constructor
  · rintro ⟨z', m', i', e1, e2, h1, h2⟩
    simp only [List.cons.injEq, DV.d.injEq, D.int.injEq, true_and, and_true] at e1 e2
    obtain rfl := TZone.inj (x := z) e1.1
    subst e2
    exact ⟨h1, h2⟩
  · rintro ⟨h1, h2⟩
    exact ⟨z, m, i, rfl, rfl, h1, h2⟩
theorem locΦ_post (z : TZone) (m i : Int) (y : DV) : (locΦ [[.str z.name, .sl (TShift.rows z.shifts)], [.int .i64 m]]).post [.d (.int .i64 i)] y = (y = .d (.bool (decide (m < (z.shifts.getD i.toNat TShift.z).at_)))) := by
  apply propext
  constructor
  · rintro ⟨z', m', i', e1, e2, rfl⟩
    simp only [List.cons.injEq, DV.d.injEq, D.int.injEq, true_and, and_true] at e1 e2
    obtain ⟨e1, rfl⟩ := e1
    obtain rfl := TZone.inj (x := z) e1
    subst e2
    rfl
  · rintro rfl
    exact ⟨z, m, i, rfl, rfl, rfl⟩
def searchS : Spec where
  pre xs := ∃ (z : TZone) (m : Int), xs = [.i z.shifts.length, .fv (locΦ [z.row, [.int .i64 m]])] ∧ ascZ z.shifts ∧ z.shifts.length ≤ 100
  post xs r := ∃ (z : TZone) (m : Int), xs = [.i z.shifts.length, .fv (locΦ [z.row, [.int .i64 m]])] ∧ ascZ z.shifts ∧ r = .i (srchN z.shifts m)
  cost _ := 0
  fresh := true
theorem searchS_c (xs : List AV) : searchS.cost xs = 0 := nr rfl
theorem searchS_f : searchS.fresh = true := nr rfl
theorem searchS_q (z : TZone) (m : Int) (h1 : ascZ z.shifts) (h2 : z.shifts.length ≤ 100) : searchS.pre [.i z.shifts.length, .fv (locΦ [[.str z.name, .sl (TShift.rows z.shifts)], [.int .i64 m]])] = True := eq_true ⟨z, m, rfl, h1, h2⟩
theorem searchS_p (z : TZone) (m : Int) (h1 : ascZ z.shifts) : searchS.post [.i z.shifts.length, .fv (locΦ [[.str z.name, .sl (TShift.rows z.shifts)], [.int .i64 m]])] = fun r => r = .i (srchN z.shifts m) := by
  funext r
  apply propext
  constructor
  · rintro ⟨z', m', e, h2, rfl⟩
    simp only [List.cons.injEq, AV.dv.injEq, DV.d.injEq, D.int.injEq, AV.fv.injEq, true_and, and_true] at e
    obtain ⟨e1, e2⟩ := e
    have e1' : z.shifts.length = z'.shifts.length := by omega
    have hd : ∀ k : Nat, (m < (z.shifts.getD k TShift.z).at_) = (m' < (z'.shifts.getD k TShift.z).at_) := fun k => by
      have a1 := locΦ_post z m k (.d (.bool true))
      have a2 := locΦ_post z' m' k (.d (.bool true))
      have e3 : locΦ [[D.str z.name, D.sl (TShift.rows z.shifts)], [D.int IntKind.i64 m]] = locΦ [[D.str z'.name, D.sl (TShift.rows z'.shifts)], [D.int IntKind.i64 m']] := e2
      rw [e3] at a1
      have a3 := a1.symm.trans a2
      simp only [DV.d.injEq, D.bool.injEq, Int.toNat_natCast] at a3
      simpa [eq_comm] using a3
    congr 1
    have hs := srchN_le z'.shifts m'
    have := srchN_is (l := z.shifts) (m := m) (i := srchN z'.shifts m') (by omega) (by omega) (fun k hk => ?_) (fun k hk hl => ?_)
    · rw [this]
    · have := srchN_lt (l := z'.shifts) (m := m') (k := k) (by omega)
      have h := hd k
      exact Int.not_lt.1 (fun w => by rw [h] at w; omega)
    · rw [hd k]
      exact srchN_ge h2 (by omega) (by omega)
  · rintro rfl
    exact ⟨z, m, rfl, h1, rfl⟩
theorem u64z {n : Int} (h1 : 0 ≤ n) (h2 : n ≤ 9223372036854775807) : IntKind.u64.wrap n = n := by rw [IntKind.wrap_u64]; omega
theorem search_ctr {cx : Cx} (h : Seat cx) : Ctr cx 157 searchS := by
  refine ctr_of (fn := Tryz.f157) (l := [.tmp 4]) (envL []) [0, 1, 4, 5, 6, 7, 11, 21] [] [] (env0 h.hP) ?_ (by rw [h.hP]; exact Tryz.func157) rfl (by kernel_rfl) rfl ?_ ?_
  · rw [h.hP]; exact ⟨_, Tryz.func157, by kernel_rfl, by kernel_rfl⟩
  · rintro xs ⟨z, m, rfl, h1⟩; exact ⟨_, z, m, rfl, h1.1, rfl⟩
  · rintro xs ⟨z, m, rfl, h1, h2⟩
    refine ⟨by rw [Tryz.ntmps157]; simp, ?_⟩
    simp only [go_sem, h.hP, List.cons_append, List.nil_append, Meets_e, Below_e, Prod.exists, exists_eq, exists_eq_left, exists_eq_left', exists_eq_right, exists_eq_right', exists_and_left, exists_and_right, Ob.arr.injEq, AV.own.injEq, AV.fv.injEq, searchS_c, searchS_f, TZone.row, Tryz.ntmps157, Nat.reduceEqDiff, reduceCtorEq, Nat.reduceMul, Nat.reduceAdd, Nat.reduceSub, Nat.reduceDiv, Nat.reduceMod, Nat.reduceLeDiff, Nat.reduceLT, Nat.reduceBNe, Nat.reduceBEq, reduceIte, Int.reduceLE, Int.reduceLT, Int.reduceToNat, Int.reduceNeg, Int.reduceAdd, Int.reduceSub, Int.reduceMul, Int.reduceEq]
    refine vc_loopS (Int × Int) (fun (x : Int × Int) => match x with | (i, j) => [(5, .i i), (6, .i j)]) [] (fun (x : Int × Int) => match x with | (i, j) => []) (fun (x : Int × Int) => match x with | (i, j) => []) (fun (x : Int × Int) => match x with | (i, j) => 0) (fun (x : Int × Int) => match x with | (i, j) => 0 ≤ i ∧ i ≤ j ∧ j ≤ z.shifts.length ∧ (∀ k : Nat, (k : Int) < i → (z.shifts.getD k TShift.z).at_ ≤ m) ∧ (∀ k : Nat, j ≤ (k : Int) → k < z.shifts.length → m < (z.shifts.getD k TShift.z).at_)) (fun (x : Int × Int) => match x with | (i, j) => (j - i).toNat) [] ?_ ?_
    · simp only [go_sem, h.hP, List.cons_append, List.nil_append, Meets_e, Below_e, Prod.exists, exists_eq, exists_eq_left, exists_eq_left', exists_eq_right, exists_eq_right', exists_and_left, exists_and_right, Ob.arr.injEq, AV.own.injEq, AV.fv.injEq, TShift.len, Tryz.ntmps157, Nat.reduceEqDiff, reduceCtorEq, Nat.reduceMul, Nat.reduceAdd, Nat.reduceSub, Nat.reduceDiv, Nat.reduceMod, Nat.reduceLeDiff, Nat.reduceLT, Nat.reduceBNe, Nat.reduceBEq, reduceIte, Int.reduceLE, Int.reduceLT, Int.reduceToNat, Int.reduceNeg, Int.reduceAdd, Int.reduceSub, Int.reduceMul, Int.reduceEq]
      exact ⟨by omega, by omega, fun k hk => by omega, fun k a b => by omega⟩
    · rintro ⟨i, j⟩ ⟨j1, j2, j3, j4, j5⟩
      simp only [go_sem, h.hP, List.cons_append, List.nil_append, Meets_e, Below_e, Prod.exists, exists_eq, exists_eq_left, exists_eq_left', exists_eq_right, exists_eq_right', exists_and_left, exists_and_right, Ob.arr.injEq, AV.own.injEq, AV.fv.injEq, searchS_c, searchS_f, locΦ_pre, locΦ_post, TZone.row, Tryz.ntmps157, Nat.reduceEqDiff, reduceCtorEq, Nat.reduceMul, Nat.reduceAdd, Nat.reduceSub, Nat.reduceDiv, Nat.reduceMod, Nat.reduceLeDiff, Nat.reduceLT, Nat.reduceBNe, Nat.reduceBEq, reduceIte, Int.reduceLE, Int.reduceLT, Int.reduceToNat, Int.reduceNeg, Int.reduceAdd, Int.reduceSub, Int.reduceMul, Int.reduceEq]
      refine ⟨fun c => ?_, fun c => ⟨z, m, rfl, h1, by rw [srchN_is j1 (by omega) j4 (fun k a b => j5 k (by omega) b)]⟩⟩
      rw [i64w (n := i + j) (by omega) (by omega), u64z (n := i + j) (by omega) (by omega), i64w (n := (i + j) / 2) (by omega) (by omega)]
      obtain ⟨q, hq⟩ : ∃ q : Int, q = (i + j) / 2 := ⟨_, rfl⟩
      rw [← hq]
      have q1 : i ≤ q := by omega
      have q2 : q < j := by omega
      clear hq
      rw [i64w (n := q + 1) (by omega) (by omega)]
      refine ⟨by omega, by omega, fun d => ⟨by omega, by omega, j3, fun k hk => ?_, j5, by omega⟩, fun d => ⟨j1, q1, by omega, j4, fun k a b => ?_, by omega⟩⟩
      · have := h1 k q.toNat (by omega) (by omega)
        omega
      · have := h1 q.toNat k (by omega) b
        omega
def localS  : Spec where
  pre xs := ∃ (z : TZone) (m : Int), xs = [.dv (.ag z.row), .i m] ∧ (OkZ z.shifts ∧ 0 ≤ m ∧ m ≤ 4321440)
  post xs y := ∃ (z : TZone) (m : Int), xs = [.dv (.ag z.row), .i m] ∧ y = .i (locF z.shifts m)
  cost _ := 0
  fresh := true
theorem localS_c  (xs : List AV) : (localS).cost xs = 0 := nr rfl
theorem localS_f  : (localS).fresh = true := nr rfl
theorem localS_q  (z : TZone) (m : Int) : (localS).pre [.dv (.ag [.str z.name, .sl (TShift.rows z.shifts)]), .i m] = (OkZ z.shifts ∧ 0 ≤ m ∧ m ≤ 4321440) := propext ⟨fun h => by
  have h' : ∃ (z' : TZone) (m' : Int), ([.dv (.ag z.row), .i m] : List AV) = [.dv (.ag z'.row), .i m'] ∧ (OkZ z'.shifts ∧ 0 ≤ m' ∧ m' ≤ 4321440) := h
  obtain ⟨z', m', e, h⟩ := h'
  simp only [List.cons.injEq, AV.dv.injEq, AV.dp.injEq, AV.fv.injEq, DV.d.injEq, DV.ag.injEq, D.int.injEq, D.str.injEq, D.bool.injEq, D.sl.injEq, true_and, and_true, intsDi_inj, rowsT_inj, rowsKi_inj, TZone.row_inj, TZone.rows_inj] at e
  obtain ⟨rfl, rfl⟩ := e
  exact h, fun h => ⟨z, m, rfl, h⟩⟩
theorem localS_p  (z : TZone) (m : Int) : (localS).post [.dv (.ag [.str z.name, .sl (TShift.rows z.shifts)]), .i m] = fun y => y = .i (locF z.shifts m) := funext fun y => propext ⟨fun h => by
  have h' : ∃ (z' : TZone) (m' : Int), ([.dv (.ag z.row), .i m] : List AV) = [.dv (.ag z'.row), .i m'] ∧ y = .i (locF z'.shifts m') := h
  obtain ⟨z', m', e, h⟩ := h'
  simp only [List.cons.injEq, AV.dv.injEq, AV.dp.injEq, AV.fv.injEq, DV.d.injEq, DV.ag.injEq, D.int.injEq, D.str.injEq, D.bool.injEq, D.sl.injEq, true_and, and_true, intsDi_inj, rowsT_inj, rowsKi_inj, TZone.row_inj, TZone.rows_inj] at e
  obtain ⟨rfl, rfl⟩ := e
  exact h, fun h => ⟨z, m, rfl, h⟩⟩
theorem LocalAt_ctr {cx : Cx} (h : Seat cx) : Ctr cx 113 localS := by
  refine ctr_of (fn := Tryz.f113) (l := [.tmp 4]) (envF [(157, searchS)] [(158, locΦ)]) [0, 1, 2, 3, 4, 5] [] [] (envF_cons (locΦ_of (LocalAt1_ctr h)) (envF_nil (envL_cons (search_ctr h) (env0 h.hP)))) ?_ (by rw [h.hP]; exact Tryz.func113) rfl (by kernel_rfl) rfl ?_ ?_
  · rw [h.hP]; exact ⟨_, Tryz.func113, by kernel_rfl, by kernel_rfl⟩
  · rintro xs ⟨z, m, rfl, h1⟩; exact ⟨_, z, m, rfl, rfl⟩
  · rintro xs ⟨z, m, rfl, h1, h2, h3⟩
    have hq := searchS_q z m h1.asc h1.few
    have hp := searchS_p z m h1.asc
    refine ⟨by rw [Tryz.ntmps113]; simp, ?_⟩
    simp only [go_sem, h.hP, List.cons_append, List.nil_append, Meets_e, Below_e, Prod.exists, exists_eq, exists_eq_left, exists_eq_left', exists_eq_right, exists_eq_right', exists_and_left, exists_and_right, Ob.arr.injEq, AV.own.injEq, AV.fv.injEq, localS_q, localS_p, localS_c, localS_f, searchS_c, searchS_f, hq, hp, TZone.row, TShift.len, TShift.get, Tryz.ntmps113, Nat.reduceEqDiff, reduceCtorEq, Nat.reduceMul, Nat.reduceAdd, Nat.reduceSub, Nat.reduceDiv, Nat.reduceMod, Nat.reduceLeDiff, Nat.reduceLT, Nat.reduceBNe, Nat.reduceBEq, reduceIte, Int.reduceLE, Int.reduceLT, Int.reduceToNat, Int.reduceNeg, Int.reduceAdd, Int.reduceSub, Int.reduceMul, Int.reduceEq]
    have k1 := srchN_pos h1 h2
    have k2 := srchN_le z.shifts m
    have k3 := h1.few
    rw [i64w (n := (srchN z.shifts m : Int) - 1) (by omega) (by omega)]
    have k4 := locF_le h1 h2
    have k5 : ((srchN z.shifts m : Int) - 1).toNat = srchN z.shifts m - 1 := by omega
    rw [k5]
    refine ⟨by omega, by omega, ?_⟩
    unfold locF at *
    exact i64w (by omega) (by omega)
def minF (l : List TShift) (m : Int) : Int := (locF l m + 1440).tmod 1440
def minS  : Spec where
  pre xs := ∃ (z : TZone) (m : Int), xs = [.dv (.ag z.row), .i m] ∧ (OkZ z.shifts ∧ 0 ≤ m ∧ m ≤ 4321440)
  post xs y := ∃ (z : TZone) (m : Int), xs = [.dv (.ag z.row), .i m] ∧ y = .i (minF z.shifts m)
  cost _ := 0
  fresh := true
theorem minS_c  (xs : List AV) : (minS).cost xs = 0 := nr rfl
theorem minS_f  : (minS).fresh = true := nr rfl
theorem minS_q  (z : TZone) (m : Int) : (minS).pre [.dv (.ag [.str z.name, .sl (TShift.rows z.shifts)]), .i m] = (OkZ z.shifts ∧ 0 ≤ m ∧ m ≤ 4321440) := propext ⟨fun h => by
  have h' : ∃ (z' : TZone) (m' : Int), ([.dv (.ag z.row), .i m] : List AV) = [.dv (.ag z'.row), .i m'] ∧ (OkZ z'.shifts ∧ 0 ≤ m' ∧ m' ≤ 4321440) := h
  obtain ⟨z', m', e, h⟩ := h'
  simp only [List.cons.injEq, AV.dv.injEq, AV.dp.injEq, AV.fv.injEq, DV.d.injEq, DV.ag.injEq, D.int.injEq, D.str.injEq, D.bool.injEq, D.sl.injEq, true_and, and_true, intsDi_inj, rowsT_inj, rowsKi_inj, TZone.row_inj, TZone.rows_inj] at e
  obtain ⟨rfl, rfl⟩ := e
  exact h, fun h => ⟨z, m, rfl, h⟩⟩
theorem minS_p  (z : TZone) (m : Int) : (minS).post [.dv (.ag [.str z.name, .sl (TShift.rows z.shifts)]), .i m] = fun y => y = .i (minF z.shifts m) := funext fun y => propext ⟨fun h => by
  have h' : ∃ (z' : TZone) (m' : Int), ([.dv (.ag z.row), .i m] : List AV) = [.dv (.ag z'.row), .i m'] ∧ y = .i (minF z'.shifts m') := h
  obtain ⟨z', m', e, h⟩ := h'
  simp only [List.cons.injEq, AV.dv.injEq, AV.dp.injEq, AV.fv.injEq, DV.d.injEq, DV.ag.injEq, D.int.injEq, D.str.injEq, D.bool.injEq, D.sl.injEq, true_and, and_true, intsDi_inj, rowsT_inj, rowsKi_inj, TZone.row_inj, TZone.rows_inj] at e
  obtain ⟨rfl, rfl⟩ := e
  exact h, fun h => ⟨z, m, rfl, h⟩⟩
theorem shifts_of {ok : Nat → Prop} {w : World} {l : List TShift} {sv : Value} (h : Rd ok w (.sl (TShift.rows l)) sv) : ∃ A cap, sv = .slice A l.length cap ∧ Clk.Shifts w.heap.size w sv (pairsZ l) := by
  generalize e : TShift.rows l = r at h
  cases h with
  | nil A c =>
    have : l = [] := by simpa [TShift.nil1] using e
    subst this
    exact ⟨A, c, rfl, .inl ⟨A, c, rfl, rfl⟩⟩
  | sl r z b o c u hc hb hlt hz hu hr =>
    subst e
    rw [TShift.len]
    refine ⟨_, _, rfl, ?_⟩
    by_cases e0 : l = []
    · subst e0
      exact .inl ⟨_, _, rfl, rfl⟩
    have hg : ∀ j : Nat, j < l.length → (TShift.rows l)[j]? = some [.int .i64 (l.getD j TShift.z).at_, .int .i64 (l.getD j TShift.z).offset] := fun j hj => by
      unfold TShift.rows
      rw [List.getElem?_map, List.getD_eq_getElem?_getD, List.getElem?_eq_getElem hj]
      rfl
    have hz2 : z = 2 := (hz 0 _ (hg 0 (List.length_pos_iff.2 e0))).symm
    subst hz2
    refine .inr ⟨b, o, c, by rw [pairsZ_len], hlt, fun j hj => ?_⟩
    rw [pairsZ_len] at hj
    rw [pairsZ_get]
    have a1 := hu j _ (hg j hj) 0 _ rfl
    have a2 := hu j _ (hg j hj) 1 _ rfl
    have b1 := hr j _ (hg j hj) 0 _ rfl
    have b2 := hr j _ (hg j hj) 1 _ rfl
    refine ⟨?_, ?_⟩
    · rw [Nat.add_zero] at a1
      rw [a1]
      generalize u j 0 = v at b1
      cases b1
      rfl
    · rw [a2]
      generalize u j 1 = v at b2
      cases b2
      rfl
def clockS  : Spec where
  pre xs := ∃ (z : TZone) (m : Int), xs = [.dv (.ag z.row), .i m] ∧ (OkZ z.shifts ∧ 0 ≤ m ∧ m ≤ 4321440)
  post xs y := ∃ (z : TZone) (m : Int), xs = [.dv (.ag z.row), .i m] ∧ y = .i (locF z.shifts m)
  cost _ := 0
  fresh := true
theorem clockS_c  (xs : List AV) : (clockS).cost xs = 0 := nr rfl
theorem clockS_f  : (clockS).fresh = true := nr rfl
theorem clockS_q  (z : TZone) (m : Int) : (clockS).pre [.dv (.ag [.str z.name, .sl (TShift.rows z.shifts)]), .i m] = (OkZ z.shifts ∧ 0 ≤ m ∧ m ≤ 4321440) := propext ⟨fun h => by
  have h' : ∃ (z' : TZone) (m' : Int), ([.dv (.ag z.row), .i m] : List AV) = [.dv (.ag z'.row), .i m'] ∧ (OkZ z'.shifts ∧ 0 ≤ m' ∧ m' ≤ 4321440) := h
  obtain ⟨z', m', e, h⟩ := h'
  simp only [List.cons.injEq, AV.dv.injEq, AV.dp.injEq, AV.fv.injEq, DV.d.injEq, DV.ag.injEq, D.int.injEq, D.str.injEq, D.bool.injEq, D.sl.injEq, true_and, and_true, intsDi_inj, rowsT_inj, rowsKi_inj, TZone.row_inj, TZone.rows_inj] at e
  obtain ⟨rfl, rfl⟩ := e
  exact h, fun h => ⟨z, m, rfl, h⟩⟩
theorem clockS_p  (z : TZone) (m : Int) : (clockS).post [.dv (.ag [.str z.name, .sl (TShift.rows z.shifts)]), .i m] = fun y => y = .i (locF z.shifts m) := funext fun y => propext ⟨fun h => by
  have h' : ∃ (z' : TZone) (m' : Int), ([.dv (.ag z.row), .i m] : List AV) = [.dv (.ag z'.row), .i m'] ∧ y = .i (locF z'.shifts m') := h
  obtain ⟨z', m', e, h⟩ := h'
  simp only [List.cons.injEq, AV.dv.injEq, AV.dp.injEq, AV.fv.injEq, DV.d.injEq, DV.ag.injEq, D.int.injEq, D.str.injEq, D.bool.injEq, D.sl.injEq, true_and, and_true, intsDi_inj, rowsT_inj, rowsKi_inj, TZone.row_inj, TZone.rows_inj] at e
  obtain ⟨rfl, rfl⟩ := e
  exact h, fun h => ⟨z, m, rfl, h⟩⟩
theorem Clock_ctr {cx : Cx} (h : Seat cx) : Ctr cx 115 clockS := by
  refine ⟨by rw [h.hP]; exact ⟨_, Tryz.func115, by kernel_rfl, by kernel_rfl⟩, fun xs ⟨z, m, e, _⟩ => ⟨_, z, m, e, rfl⟩, ?_⟩
  rintro F xs us hcx hF hst hgl hco hlen hargs ⟨z, m, rfl, h1, h2, h3⟩
  match us, hlen with
  | [a, b], _ =>
  obtain ⟨cs, rfl, c1, c2⟩ := hargs 0 _ _ rfl rfl
  have hb := hargs 1 _ _ rfl rfl
  cases hb
  match cs, c1 with
  | [n, sv], _ =>
  have d1 := c2 0 _ _ rfl rfl
  have d2 := c2 1 _ _ rfl rfl
  cases d1
  obtain ⟨A, cap, rfl, hI⟩ := shifts_of d2
  rw [h.hP]
  refine ((callsIn_wide (n := 3)).1 (Clk.Clock_in Fence.wide 3 trivial trivial trivial rfl (by decide) z.name A z.shifts.length cap m (pairsZ z.shifts) (by rw [pairsZ_len]; have := h1.few; omega) F.w0 hI)).mono ?_
  rintro e w' ⟨rfl, hb⟩
  rw [clock_eq h1 h2 h3]
  have hm := flatR_mk (cx := cx) (w0 := F.w0) (ok := resOk F clockS.fresh) (ρ := fun _ => undef) (w := w') (a := .i (locF z.shifts m)) (v := .int .i64 (locF z.shifts m)) rfl
  exact ⟨_, _, rfl, ⟨hb.os, hb.tape, hb.output, hb.size, fun b hlt _ => hb.block b hlt⟩, hst.keep hb.size (fun b hlt => hb.block b hlt), ⟨z, m, rfl, rfl⟩, hm.2, hm.1⟩
end Go.Avc

/- Ids: what is wrong with them, and their order, by the program. No condition. -/
set_option linter.unusedVariables false
set_option linter.unusedSimpArgs false
set_option maxRecDepth 100000
namespace Go.Avc
open Go Go.Proofs

def idS  : Spec where
  pre xs := ∃ (x : TId), xs = [.dv (.ag x.row)] ∧ (x.ok)
  post xs y := ∃ (x : TId), xs = [.dv (.ag x.row)] ∧ y = .i (idF x)
  cost _ := 0
  fresh := true
theorem idS_c  (xs : List AV) : (idS).cost xs = 0 := nr rfl
theorem idS_f  : (idS).fresh = true := nr rfl
theorem idS_q  (x : TId) : (idS).pre [.dv (.ag [.int .i64 x.kind, .str x.text])] = (x.ok) := propext ⟨fun h => by
  have h' : ∃ (x' : TId), ([.dv (.ag x.row)] : List AV) = [.dv (.ag x'.row)] ∧ (x'.ok) := h
  obtain ⟨x', e, h⟩ := h'
  simp only [List.cons.injEq, AV.dv.injEq, AV.dp.injEq, AV.fv.injEq, DV.d.injEq, DV.ag.injEq, D.int.injEq, D.str.injEq, D.bool.injEq, D.sl.injEq, true_and, and_true, intsDi_inj, rowsT_inj, rowsKi_inj, TId.row_inj, TId.rows_inj] at e
  obtain rfl := e
  exact h, fun h => ⟨x, rfl, h⟩⟩
theorem idS_p  (x : TId) : (idS).post [.dv (.ag [.int .i64 x.kind, .str x.text])] = fun y => y = .i (idF x) := funext fun y => propext ⟨fun h => by
  have h' : ∃ (x' : TId), ([.dv (.ag x.row)] : List AV) = [.dv (.ag x'.row)] ∧ y = .i (idF x') := h
  obtain ⟨x', e, h⟩ := h'
  simp only [List.cons.injEq, AV.dv.injEq, AV.dp.injEq, AV.fv.injEq, DV.d.injEq, DV.ag.injEq, D.int.injEq, D.str.injEq, D.bool.injEq, D.sl.injEq, true_and, and_true, intsDi_inj, rowsT_inj, rowsKi_inj, TId.row_inj, TId.rows_inj] at e
  obtain rfl := e
  exact h, fun h => ⟨x, rfl, h⟩⟩
set_option maxHeartbeats 4000000 in
theorem CheckId_ctr {cx : Cx} (h : Seat cx) (hM : MaxL cx) : Ctr cx 79 idS := by
  refine ctr_of (fn := Tryz.f79) (l := [.tmp 2]) (envL [(127, (strB4 mailB)), (128, (strB4 phoneB)), (129, (strB4 memberB)), (130, (strB4 deviceB)), (131, signP)]) [0, 1, 2, 3, 4, 6, 7, 12, 17, 22, 28, 47] [] [] (envL_cons (isMail_ctr h hM) (envL_cons (isPhone_ctr h) (envL_cons (isMember_ctr h) (envL_cons (isDevice_ctr h) (envL_cons (pcheckSign_ctr h) (env0 h.hP)))))) ?_ (by rw [h.hP]; exact Tryz.func79) rfl (by kernel_rfl) rfl ?_ ?_
  · rw [h.hP]; exact ⟨_, Tryz.func79, by kernel_rfl, by kernel_rfl⟩
  · rintro xs ⟨x, rfl, h1⟩; exact ⟨_, x, rfl, rfl⟩
  · rintro xs ⟨x, rfl, h1⟩
    obtain ⟨o1, o2⟩ := h1
    refine ⟨by rw [Tryz.ntmps79]; simp, ?_⟩
    simp only [go_sem, h.hP, List.cons_append, List.nil_append, Meets_e, Below_e, Prod.exists, exists_eq, exists_eq_left, exists_eq_left', exists_eq_right, exists_eq_right', exists_and_left, exists_and_right, Ob.arr.injEq, AV.own.injEq, AV.fv.injEq, idS_q, idS_p, idS_c, idS_f, strB4_q, strB4_p, strB4_c, strB4_f, signP_q, signP_p, signP_c, signP_f, TId.row, Tryz.ntmps79, Nat.reduceEqDiff, reduceCtorEq, Nat.reduceMul, Nat.reduceAdd, Nat.reduceSub, Nat.reduceDiv, Nat.reduceMod, Nat.reduceLeDiff, Nat.reduceLT, Nat.reduceBNe, Nat.reduceBEq, reduceIte, Int.reduceLE, Int.reduceLT, Int.reduceToNat, Int.reduceNeg, Int.reduceAdd, Int.reduceSub, Int.reduceMul, Int.reduceEq]
    unfold okS at o2
    have m0 : memberB x.text = true → 4 ≤ (x.text.size : Int) ∧ (x.text.size : Int) ≤ 20 ∧ (bl x.text).all memC = true := fun e => by
      unfold memberB at e
      rw [Bool.and_eq_true] at e
      have := inB_iff.1 e.1
      exact ⟨this.1, this.2, e.2⟩
    have hI : 4 ≤ (x.text.size : Int) → x.text.extract 0 (IntKind.i64.wrap ((x.text.size : Int) - 1)).toNat = initS x.text := fun e => by
      rw [i64w (n := (x.text.size : Int) - 1) (by omega) (by omega), show ((x.text.size : Int) - 1).toNat = x.text.size - 1 by omega]
      rfl
    have hIs : (initS x.text).size ≤ x.text.size := by unfold initS; rw [ByteArray.size_extract]; omega
    have hIm : (bl x.text).all memC = true → (bl (initS x.text)).all memC = true := fun e => by
      unfold initS
      rw [bl_extract, List.drop_zero]
      rw [List.all_eq_true] at e ⊢
      exact fun y hy => e y (List.mem_of_mem_take hy)
    have e1 : x.kind = 1 → idF x = if mailB x.text = true then 0 else 3 := fun c => if_pos c
    have e2 : ¬ x.kind = 1 → x.kind = 2 → idF x = if phoneB x.text = true then 0 else 3 := fun c d => (if_neg c).trans (if_pos d)
    have e3 : ¬ x.kind = 1 → ¬ x.kind = 2 → x.kind = 3 → idF x = if memberB x.text = true then (if bt signsB (signN (initS x.text)) ≠ bt x.text ((x.text.size : Int) - 1) then 15 else 0) else 3 := fun c d e => (if_neg c).trans ((if_neg d).trans (if_pos e))
    have e4 : ¬ x.kind = 1 → ¬ x.kind = 2 → ¬ x.kind = 3 → idF x = if x.kind = 4 then (if deviceB x.text = true then 0 else 3) else 4 := fun c d e => (if_neg c).trans ((if_neg d).trans (if_neg e))
    generalize idF x = R at *
    refine ⟨fun c1 => ⟨by omega, fun c => ?_, fun c => ⟨fun d => by omega, fun _ => ?_⟩⟩, fun c1 => ⟨fun c2 => ⟨by omega, fun c => ?_, fun c => ⟨fun d => by omega, fun _ => ?_⟩⟩, fun c2 => ⟨fun c3 => ⟨by omega, fun c => ?_, fun c => ⟨fun _ => ?_, fun d => absurd c3 d⟩⟩, fun c3 => ⟨fun c4 => ⟨by omega, fun c => ?_, fun c => ⟨fun d => absurd d c3, fun _ => ?_⟩⟩, fun c4 => ?_⟩⟩⟩⟩
    · rw [e1 c1, if_neg (ne_tf c)]
    · rw [e1 c1, if_pos c]
    · rw [e2 c1 c2, if_neg (ne_tf c)]
    · rw [e2 c1 c2, if_pos c]
    · rw [e3 c1 c2 c3, if_neg (ne_tf c)]
    · obtain ⟨n1, n2, n3⟩ := m0 c
      rw [hI n1, i64w (n := (x.text.size : Int) - 1) (by omega) (by omega), e3 c1 c2 c3, if_pos c]
      exact ⟨by omega, by omega, by omega, hIm n3, by omega, by omega, fun q => (if_pos q).symm, fun q => (if_neg (fun z => z q)).symm⟩
    · rw [e4 c1 c2 c3, if_pos c4, if_neg (ne_tf c)]
    · rw [e4 c1 c2 c3, if_pos c4, if_pos c]
    · rw [e4 c1 c2 c3, if_neg c4]
/-! ### Comparisons -/
def nanT  : Spec where
  pre xs := ∃ (s : ByteArray), xs = [.str s]
  post xs y := ∃ (s : ByteArray), xs = [.str s] ∧ y = .b false
  cost _ := 0
  fresh := true
theorem nanT_c  (xs : List AV) : (nanT).cost xs = 0 := nr rfl
theorem nanT_f  : (nanT).fresh = true := nr rfl
theorem nanT_q  (s : ByteArray) : (nanT).pre [.str s] = (True) := propext ⟨fun h => by
  have h' : ∃ (s' : ByteArray), ([.str s] : List AV) = [.str s'] := h
  obtain ⟨s', e⟩ := h'
  simp only [List.cons.injEq, AV.dv.injEq, AV.dp.injEq, AV.fv.injEq, DV.d.injEq, DV.ag.injEq, D.int.injEq, D.str.injEq, D.bool.injEq, D.sl.injEq, true_and, and_true, intsDi_inj, rowsT_inj, rowsKi_inj] at e
  obtain rfl := e
  exact trivial, fun h => ⟨s, rfl⟩⟩
theorem nanT_p  (s : ByteArray) : (nanT).post [.str s] = fun y => y = .b false := funext fun y => propext ⟨fun h => by
  have h' : ∃ (s' : ByteArray), ([.str s] : List AV) = [.str s'] ∧ y = .b false := h
  obtain ⟨s', e, h⟩ := h'
  simp only [List.cons.injEq, AV.dv.injEq, AV.dp.injEq, AV.fv.injEq, DV.d.injEq, DV.ag.injEq, D.int.injEq, D.str.injEq, D.bool.injEq, D.sl.injEq, true_and, and_true, intsDi_inj, rowsT_inj, rowsKi_inj] at e
  obtain rfl := e
  exact h, fun h => ⟨s, rfl, h⟩⟩
theorem isNaNT_ctr {cx : Cx} (h : Seat cx) : Ctr cx 163 nanT := by
  refine ctr_of (fn := Tryz.f163) (l := [.tmp 2]) (envL []) [0, 2] [] [] (env0 h.hP) ?_ (by rw [h.hP]; exact Tryz.func163) rfl (by kernel_rfl) rfl ?_ ?_
  · rw [h.hP]; exact ⟨_, Tryz.func163, by kernel_rfl, by kernel_rfl⟩
  · rintro xs ⟨s, rfl⟩; exact ⟨_, s, rfl, rfl⟩
  · rintro xs ⟨s, rfl⟩
    refine ⟨by rw [Tryz.ntmps163]; simp, ?_⟩
    simp only [go_sem, h.hP, List.cons_append, List.nil_append, Meets_e, Below_e, Prod.exists, exists_eq, exists_eq_left, exists_eq_left', exists_eq_right, exists_eq_right', exists_and_left, exists_and_right, Ob.arr.injEq, AV.own.injEq, AV.fv.injEq, nanT_q, nanT_p, nanT_c, nanT_f, Tryz.ntmps163, Nat.reduceEqDiff, reduceCtorEq, Nat.reduceMul, Nat.reduceAdd, Nat.reduceSub, Nat.reduceDiv, Nat.reduceMod, Nat.reduceLeDiff, Nat.reduceLT, Nat.reduceBNe, Nat.reduceBEq, reduceIte, Int.reduceLE, Int.reduceLT, Int.reduceToNat, Int.reduceNeg, Int.reduceAdd, Int.reduceSub, Int.reduceMul, Int.reduceEq]
def cmpTSp  : Spec where
  pre xs := ∃ (s : ByteArray) (t : ByteArray), xs = [.str s, .str t]
  post xs y := ∃ (s : ByteArray) (t : ByteArray), xs = [.str s, .str t] ∧ y = .i (cmpT s t)
  cost _ := 0
  fresh := true
theorem cmpTSp_c  (xs : List AV) : (cmpTSp).cost xs = 0 := nr rfl
theorem cmpTSp_f  : (cmpTSp).fresh = true := nr rfl
theorem cmpTSp_q  (s : ByteArray) (t : ByteArray) : (cmpTSp).pre [.str s, .str t] = (True) := propext ⟨fun h => by
  have h' : ∃ (s' : ByteArray) (t' : ByteArray), ([.str s, .str t] : List AV) = [.str s', .str t'] := h
  obtain ⟨s', t', e⟩ := h'
  simp only [List.cons.injEq, AV.dv.injEq, AV.dp.injEq, AV.fv.injEq, DV.d.injEq, DV.ag.injEq, D.int.injEq, D.str.injEq, D.bool.injEq, D.sl.injEq, true_and, and_true, intsDi_inj, rowsT_inj, rowsKi_inj] at e
  obtain ⟨rfl, rfl⟩ := e
  exact trivial, fun h => ⟨s, t, rfl⟩⟩
theorem cmpTSp_p  (s : ByteArray) (t : ByteArray) : (cmpTSp).post [.str s, .str t] = fun y => y = .i (cmpT s t) := funext fun y => propext ⟨fun h => by
  have h' : ∃ (s' : ByteArray) (t' : ByteArray), ([.str s, .str t] : List AV) = [.str s', .str t'] ∧ y = .i (cmpT s' t') := h
  obtain ⟨s', t', e, h⟩ := h'
  simp only [List.cons.injEq, AV.dv.injEq, AV.dp.injEq, AV.fv.injEq, DV.d.injEq, DV.ag.injEq, D.int.injEq, D.str.injEq, D.bool.injEq, D.sl.injEq, true_and, and_true, intsDi_inj, rowsT_inj, rowsKi_inj] at e
  obtain ⟨rfl, rfl⟩ := e
  exact h, fun h => ⟨s, t, rfl, h⟩⟩
theorem compareT_ctr {cx : Cx} (h : Seat cx) : Ctr cx 120 cmpTSp := by
  refine ctr_of (fn := Tryz.f120) (l := [.tmp 4]) (envL [(163, nanT)]) [0, 1, 4, 5, 6, 11, 12, 13, 16, 19] [] [] (envL_cons (isNaNT_ctr h) (env0 h.hP)) ?_ (by rw [h.hP]; exact Tryz.func120) rfl (by kernel_rfl) rfl ?_ ?_
  · rw [h.hP]; exact ⟨_, Tryz.func120, by kernel_rfl, by kernel_rfl⟩
  · rintro xs ⟨s, t, rfl⟩; exact ⟨_, s, t, rfl, rfl⟩
  · rintro xs ⟨s, t, rfl⟩
    refine ⟨by rw [Tryz.ntmps120]; simp, ?_⟩
    simp only [go_sem, h.hP, List.cons_append, List.nil_append, Meets_e, Below_e, Prod.exists, exists_eq, exists_eq_left, exists_eq_left', exists_eq_right, exists_eq_right', exists_and_left, exists_and_right, Ob.arr.injEq, AV.own.injEq, AV.fv.injEq, cmpTSp_q, cmpTSp_p, cmpTSp_c, cmpTSp_f, nanT_q, nanT_p, nanT_c, nanT_f, Tryz.ntmps120, Nat.reduceEqDiff, reduceCtorEq, Nat.reduceMul, Nat.reduceAdd, Nat.reduceSub, Nat.reduceDiv, Nat.reduceMod, Nat.reduceLeDiff, Nat.reduceLT, Nat.reduceBNe, Nat.reduceBEq, reduceIte, Int.reduceLE, Int.reduceLT, Int.reduceToNat, Int.reduceNeg, Int.reduceAdd, Int.reduceSub, Int.reduceMul, Int.reduceEq]
    have e : cmpT s t = if lessS s t = true then -1 else if s = t then 0 else 1 := rfl
    have el : lessS s t = Op.bytesLess s.toList t.toList := rfl
    generalize Op.bytesLess s.toList t.toList = q at *
    rw [e, el]
    refine ⟨fun c => (if_pos c).symm, fun c => ⟨fun d => ?_, fun d => ?_⟩⟩
    · rw [if_neg (ne_tf c)]
      rw [c, Bool.false_or, decide_eq_false_iff_not] at d
      rw [if_neg d]
    · rw [if_neg (ne_tf c), if_pos (d.resolve_left (ne_tf c))]
def orSp  : Spec where
  pre xs := ∃ (l : List Int), xs = [.sl (intsD l)] ∧ (l.length ≤ 1048576)
  post xs y := ∃ (l : List Int), xs = [.sl (intsD l)] ∧ y = .i (firstI l.length fun i => l.getD i 0)
  cost _ := 0
  fresh := true
theorem orSp_c  (xs : List AV) : (orSp).cost xs = 0 := nr rfl
theorem orSp_f  : (orSp).fresh = true := nr rfl
theorem orSp_q  (l : List Int) : (orSp).pre [.sl (intsD l)] = (l.length ≤ 1048576) := propext ⟨fun h => by
  have h' : ∃ (l' : List Int), ([.sl (intsD l)] : List AV) = [.sl (intsD l')] ∧ (l'.length ≤ 1048576) := h
  obtain ⟨l', e, h⟩ := h'
  simp only [List.cons.injEq, AV.dv.injEq, AV.dp.injEq, AV.fv.injEq, DV.d.injEq, DV.ag.injEq, D.int.injEq, D.str.injEq, D.bool.injEq, D.sl.injEq, true_and, and_true, intsDi_inj, rowsT_inj, rowsKi_inj] at e
  obtain rfl := e
  exact h, fun h => ⟨l, rfl, h⟩⟩
theorem orSp_p  (l : List Int) : (orSp).post [.sl (intsD l)] = fun y => y = .i (firstI l.length fun i => l.getD i 0) := funext fun y => propext ⟨fun h => by
  have h' : ∃ (l' : List Int), ([.sl (intsD l)] : List AV) = [.sl (intsD l')] ∧ y = .i (firstI l'.length fun i => l'.getD i 0) := h
  obtain ⟨l', e, h⟩ := h'
  simp only [List.cons.injEq, AV.dv.injEq, AV.dp.injEq, AV.fv.injEq, DV.d.injEq, DV.ag.injEq, D.int.injEq, D.str.injEq, D.bool.injEq, D.sl.injEq, true_and, and_true, intsDi_inj, rowsT_inj, rowsKi_inj] at e
  obtain rfl := e
  exact h, fun h => ⟨l, rfl, h⟩⟩
theorem or_ctr {cx : Cx} (h : Seat cx) : Ctr cx 118 orSp := by
  refine ctr_of (fn := Tryz.f118) (l := [.tmp 2]) (envL []) [0, 2, 3, 5, 6, 7, 8, 9, 14] [] [] (env0 h.hP) ?_ (by rw [h.hP]; exact Tryz.func118) rfl (by kernel_rfl) rfl ?_ ?_
  · rw [h.hP]; exact ⟨_, Tryz.func118, by kernel_rfl, by kernel_rfl⟩
  · rintro xs ⟨l, rfl, h1⟩; exact ⟨_, l, rfl, rfl⟩
  · rintro xs ⟨l, rfl, h1⟩
    refine ⟨by rw [Tryz.ntmps118]; simp, ?_⟩
    simp only [go_sem, h.hP, List.cons_append, List.nil_append, Meets_e, Below_e, Prod.exists, exists_eq, exists_eq_left, exists_eq_left', exists_eq_right, exists_eq_right', exists_and_left, exists_and_right, Ob.arr.injEq, AV.own.injEq, AV.fv.injEq, orSp_q, orSp_p, orSp_c, orSp_f, intsD_len, Tryz.ntmps118, Nat.reduceEqDiff, reduceCtorEq, Nat.reduceMul, Nat.reduceAdd, Nat.reduceSub, Nat.reduceDiv, Nat.reduceMod, Nat.reduceLeDiff, Nat.reduceLT, Nat.reduceBNe, Nat.reduceBEq, reduceIte, Int.reduceLE, Int.reduceLT, Int.reduceToNat, Int.reduceNeg, Int.reduceAdd, Int.reduceSub, Int.reduceMul, Int.reduceEq]
    refine vc_loopS (Int) (fun (i : Int) => [(8, .i i)]) [] (fun (i : Int) => []) (fun (i : Int) => []) (fun (i : Int) => 0) (fun (i : Int) => Rounds l.length (fun i => l.getD i 0) i) (fun (i : Int) => (l.length - i).toNat) [] ?_ ?_
    · simp only [go_sem, h.hP, List.cons_append, List.nil_append, Meets_e, Below_e, Prod.exists, exists_eq, exists_eq_left, exists_eq_left', exists_eq_right, exists_eq_right', exists_and_left, exists_and_right, Ob.arr.injEq, AV.own.injEq, AV.fv.injEq, Tryz.ntmps118, Nat.reduceEqDiff, reduceCtorEq, Nat.reduceMul, Nat.reduceAdd, Nat.reduceSub, Nat.reduceDiv, Nat.reduceMod, Nat.reduceLeDiff, Nat.reduceLT, Nat.reduceBNe, Nat.reduceBEq, reduceIte, Int.reduceLE, Int.reduceLT, Int.reduceToNat, Int.reduceNeg, Int.reduceAdd, Int.reduceSub, Int.reduceMul, Int.reduceEq]
      exact Rounds.start
    · rintro i hr
      obtain ⟨hi, hS, hM, hE, hN⟩ := hr.use (by omega)
      simp only [go_sem, h.hP, List.cons_append, List.nil_append, Meets_e, Below_e, Prod.exists, exists_eq, exists_eq_left, exists_eq_left', exists_eq_right, exists_eq_right', exists_and_left, exists_and_right, Ob.arr.injEq, AV.own.injEq, AV.fv.injEq, orSp_q, orSp_p, orSp_c, orSp_f, intsD_len, intsD_get, Tryz.ntmps118, Nat.reduceEqDiff, reduceCtorEq, Nat.reduceMul, Nat.reduceAdd, Nat.reduceSub, Nat.reduceDiv, Nat.reduceMod, Nat.reduceLeDiff, Nat.reduceLT, Nat.reduceBNe, Nat.reduceBEq, reduceIte, Int.reduceLE, Int.reduceLT, Int.reduceToNat, Int.reduceNeg, Int.reduceAdd, Int.reduceSub, Int.reduceMul, Int.reduceEq]
      refine ⟨fun c => ⟨hi, c, fun d => (hE _ c rfl d).symm, fun d => ⟨hS c d, hM c⟩⟩, fun c => (hN c).symm⟩
theorem or_two (a b : Int) : firstI 2 (fun i => [a, b].getD i 0) = if a ≠ 0 then a else b := by
  by_cases h : a ≠ 0
  · rw [if_pos h]
    exact firstI_at (n := 2) (f := fun i => [a, b].getD i 0) (i := 0) (by decide) (by decide) (fun j hj => by omega) h
  · rw [if_neg h]
    have h0 : ∀ j : Nat, (j : Int) < 1 → [a, b].getD j 0 = 0 := fun j hj => by
      obtain rfl : j = 0 := by omega
      exact Decidable.not_not.1 h
    by_cases h2 : b ≠ 0
    · exact firstI_at (n := 2) (f := fun i => [a, b].getD i 0) (i := 1) (by decide) (by decide) h0 h2
    · rw [firstI_no (n := 2) (f := fun i => [a, b].getD i 0) (i := 2) (fun j hj => ?_) (by decide), Decidable.not_not.1 h2]
      by_cases hj1 : (j : Int) < 1
      · exact h0 j hj1
      · obtain rfl : j = 1 := by omega
        exact Decidable.not_not.1 h2
def ordS  : Spec where
  pre xs := ∃ (a : TId) (b : TId), xs = [.dv (.ag a.row), .dv (.ag b.row)]
  post xs y := ∃ (a : TId) (b : TId), xs = [.dv (.ag a.row), .dv (.ag b.row)] ∧ y = .i (ordF a b)
  cost _ := 0
  fresh := true
theorem ordS_c  (xs : List AV) : (ordS).cost xs = 0 := nr rfl
theorem ordS_f  : (ordS).fresh = true := nr rfl
theorem ordS_q  (a : TId) (b : TId) : (ordS).pre [.dv (.ag [.int .i64 a.kind, .str a.text]), .dv (.ag [.int .i64 b.kind, .str b.text])] = (True) := propext ⟨fun h => by
  have h' : ∃ (a' : TId) (b' : TId), ([.dv (.ag a.row), .dv (.ag b.row)] : List AV) = [.dv (.ag a'.row), .dv (.ag b'.row)] := h
  obtain ⟨a', b', e⟩ := h'
  simp only [List.cons.injEq, AV.dv.injEq, AV.dp.injEq, AV.fv.injEq, DV.d.injEq, DV.ag.injEq, D.int.injEq, D.str.injEq, D.bool.injEq, D.sl.injEq, true_and, and_true, intsDi_inj, rowsT_inj, rowsKi_inj, TId.row_inj, TId.rows_inj, TId.row_inj, TId.rows_inj] at e
  obtain ⟨rfl, rfl⟩ := e
  exact trivial, fun h => ⟨a, b, rfl⟩⟩
theorem ordS_p  (a : TId) (b : TId) : (ordS).post [.dv (.ag [.int .i64 a.kind, .str a.text]), .dv (.ag [.int .i64 b.kind, .str b.text])] = fun y => y = .i (ordF a b) := funext fun y => propext ⟨fun h => by
  have h' : ∃ (a' : TId) (b' : TId), ([.dv (.ag a.row), .dv (.ag b.row)] : List AV) = [.dv (.ag a'.row), .dv (.ag b'.row)] ∧ y = .i (ordF a' b') := h
  obtain ⟨a', b', e, h⟩ := h'
  simp only [List.cons.injEq, AV.dv.injEq, AV.dp.injEq, AV.fv.injEq, DV.d.injEq, DV.ag.injEq, D.int.injEq, D.str.injEq, D.bool.injEq, D.sl.injEq, true_and, and_true, intsDi_inj, rowsT_inj, rowsKi_inj, TId.row_inj, TId.rows_inj, TId.row_inj, TId.rows_inj] at e
  obtain ⟨rfl, rfl⟩ := e
  exact h, fun h => ⟨a, b, rfl, h⟩⟩
end Go.Avc

/- Days and moments of zones: by the program and by the reference. No condition. -/
set_option linter.unusedVariables false
set_option linter.unusedSimpArgs false
set_option maxRecDepth 100000
namespace Go.Avc
open Go Go.Proofs

/-! ### Plain law -/
/-- The local day of a moment. -/
def dayF (l : List TShift) (m : Int) : Int := (locF l m + 1440) / 1440 - 1
/-- The first moment, from one on, at which clocks show at least a minute, or the end. -/
noncomputable def fstM (l : List TShift) (f t : Int) : Int := f + ((List.range (4321440 - f).toNat).findIdx fun k : Nat => decide (t ≤ locF l (f + (k : Int))) : Nat)
/-- Where a shift ends. -/
def atN (l : List TShift) (i : Nat) : Int := if i < l.length then (l.getD i TShift.z).at_ else 4321440
/-! ### The program -/
def dayS  : Spec where
  pre xs := ∃ (z : TZone) (m : Int), xs = [.dv (.ag z.row), .i m] ∧ (OkZ z.shifts ∧ 0 ≤ m ∧ m ≤ 4321440)
  post xs y := ∃ (z : TZone) (m : Int), xs = [.dv (.ag z.row), .i m] ∧ y = .i (dayF z.shifts m)
  cost _ := 0
  fresh := true
theorem dayS_c  (xs : List AV) : (dayS).cost xs = 0 := nr rfl
theorem dayS_f  : (dayS).fresh = true := nr rfl
theorem dayS_q  (z : TZone) (m : Int) : (dayS).pre [.dv (.ag [.str z.name, .sl (TShift.rows z.shifts)]), .i m] = (OkZ z.shifts ∧ 0 ≤ m ∧ m ≤ 4321440) := propext ⟨fun h => by
  have h' : ∃ (z' : TZone) (m' : Int), ([.dv (.ag z.row), .i m] : List AV) = [.dv (.ag z'.row), .i m'] ∧ (OkZ z'.shifts ∧ 0 ≤ m' ∧ m' ≤ 4321440) := h
  obtain ⟨z', m', e, h⟩ := h'
  simp only [List.cons.injEq, AV.dv.injEq, AV.dp.injEq, AV.fv.injEq, DV.d.injEq, DV.ag.injEq, D.int.injEq, D.str.injEq, D.bool.injEq, D.sl.injEq, true_and, and_true, intsDi_inj, rowsT_inj, rowsKi_inj, TZone.row_inj, TZone.rows_inj] at e
  obtain ⟨rfl, rfl⟩ := e
  exact h, fun h => ⟨z, m, rfl, h⟩⟩
theorem dayS_p  (z : TZone) (m : Int) : (dayS).post [.dv (.ag [.str z.name, .sl (TShift.rows z.shifts)]), .i m] = fun y => y = .i (dayF z.shifts m) := funext fun y => propext ⟨fun h => by
  have h' : ∃ (z' : TZone) (m' : Int), ([.dv (.ag z.row), .i m] : List AV) = [.dv (.ag z'.row), .i m'] ∧ y = .i (dayF z'.shifts m') := h
  obtain ⟨z', m', e, h⟩ := h'
  simp only [List.cons.injEq, AV.dv.injEq, AV.dp.injEq, AV.fv.injEq, DV.d.injEq, DV.ag.injEq, D.int.injEq, D.str.injEq, D.bool.injEq, D.sl.injEq, true_and, and_true, intsDi_inj, rowsT_inj, rowsKi_inj, TZone.row_inj, TZone.rows_inj] at e
  obtain ⟨rfl, rfl⟩ := e
  exact h, fun h => ⟨z, m, rfl, h⟩⟩
theorem DayAt_ctr {cx : Cx} (h : Seat cx) : Ctr cx 70 dayS := by
  refine ctr_of (fn := Tryz.f70) (l := [.tmp 4]) (envL [(113, localS)]) [0, 1, 2, 4, 5, 11] [] [] (envL_cons (LocalAt_ctr h) (env0 h.hP)) ?_ (by rw [h.hP]; exact Tryz.func70) rfl (by kernel_rfl) rfl ?_ ?_
  · rw [h.hP]; exact ⟨_, Tryz.func70, by kernel_rfl, by kernel_rfl⟩
  · rintro xs ⟨z, m, rfl, h1⟩; exact ⟨_, z, m, rfl, rfl⟩
  · rintro xs ⟨z, m, rfl, h1, h2, h3⟩
    refine ⟨by rw [Tryz.ntmps70]; simp, ?_⟩
    simp only [go_sem, h.hP, List.cons_append, List.nil_append, Meets_e, Below_e, Prod.exists, exists_eq, exists_eq_left, exists_eq_left', exists_eq_right, exists_eq_right', exists_and_left, exists_and_right, Ob.arr.injEq, AV.own.injEq, AV.fv.injEq, dayS_q, dayS_p, dayS_c, dayS_f, localS_q, localS_p, localS_c, localS_f, TZone.row, Tryz.ntmps70, Nat.reduceEqDiff, reduceCtorEq, Nat.reduceMul, Nat.reduceAdd, Nat.reduceSub, Nat.reduceDiv, Nat.reduceMod, Nat.reduceLeDiff, Nat.reduceLT, Nat.reduceBNe, Nat.reduceBEq, reduceIte, Int.reduceLE, Int.reduceLT, Int.reduceToNat, Int.reduceNeg, Int.reduceAdd, Int.reduceSub, Int.reduceMul, Int.reduceEq]
    have := locF_le h1 h2
    refine ⟨h1, h2, h3, ?_⟩
    rw [i64w (n := locF z.shifts m + 1440) (by omega) (by omega)]
    unfold dayF
    refine ⟨fun e => by omega, fun _ => ?_⟩
    rw [Int.tdiv_eq_ediv_of_nonneg (by omega)]
    generalize hq : (locF z.shifts m + 1440) / 1440 = q
    rw [i64w (n := q) (by omega) (by omega), i64w (by omega) (by omega)]
def downS  : Spec where
  pre xs := ∃ (a : Int), xs = [.i a, .i 1440] ∧ (-1000000000 ≤ a ∧ a ≤ 1000000000)
  post xs y := ∃ (a : Int), xs = [.i a, .i 1440] ∧ y = .i (a / 1440)
  cost _ := 0
  fresh := true
def localE (z : TZone) (m : Int) : Int := if zoneF z ≠ 0 then zoneF z else if inB m 0 4321439 = false then 1 else 0
def localN (z : TZone) (m : Int) : Int := if localE z m = 0 then locF z.shifts m else 0
def dayN (z : TZone) (m : Int) : Int := if localE z m = 0 then dayF z.shifts m else 0
theorem localE_use {z : TZone} {m : Int} (h : localE z m = 0) : OkZ z.shifts ∧ 0 ≤ m ∧ m ≤ 4321439 := by
  unfold localE at h
  split at h
  · rename_i c; exact absurd h c
  split at h
  · cases h
  rename_i c d
  have e := inB_iff.1 (by simpa using d : inB m 0 4321439 = true)
  exact ⟨okZ (Decidable.not_not.1 c), e.1, e.2⟩
def localNS  : Spec where
  pre xs := ∃ (z : TZone) (m : Int), xs = [.dv (.ag z.row), .i m] ∧ (z.ok)
  post xs y := ∃ (z : TZone) (m : Int), xs = [.dv (.ag z.row), .i m] ∧ y = .tcons (.i (localN z m)) (.tcons (.i (localE z m)) .tnil)
  cost _ := 0
  fresh := true
def dayNS  : Spec where
  pre xs := ∃ (z : TZone) (m : Int), xs = [.dv (.ag z.row), .i m] ∧ (z.ok)
  post xs y := ∃ (z : TZone) (m : Int), xs = [.dv (.ag z.row), .i m] ∧ y = .tcons (.i (dayN z m)) (.tcons (.i (localE z m)) .tnil)
  cost _ := 0
  fresh := true
theorem dayNS_c  (xs : List AV) : (dayNS).cost xs = 0 := nr rfl
theorem dayNS_f  : (dayNS).fresh = true := nr rfl
theorem dayNS_q  (z : TZone) (m : Int) : (dayNS).pre [.dv (.ag [.str z.name, .sl (TShift.rows z.shifts)]), .i m] = (z.ok) := propext ⟨fun h => by
  have h' : ∃ (z' : TZone) (m' : Int), ([.dv (.ag z.row), .i m] : List AV) = [.dv (.ag z'.row), .i m'] ∧ (z'.ok) := h
  obtain ⟨z', m', e, h⟩ := h'
  simp only [List.cons.injEq, AV.dv.injEq, AV.dp.injEq, AV.fv.injEq, DV.d.injEq, DV.ag.injEq, D.int.injEq, D.str.injEq, D.bool.injEq, D.sl.injEq, true_and, and_true, intsDi_inj, rowsT_inj, rowsKi_inj, TZone.row_inj, TZone.rows_inj] at e
  obtain ⟨rfl, rfl⟩ := e
  exact h, fun h => ⟨z, m, rfl, h⟩⟩
theorem dayNS_p  (z : TZone) (m : Int) : (dayNS).post [.dv (.ag [.str z.name, .sl (TShift.rows z.shifts)]), .i m] = fun y => y = .tcons (.i (dayN z m)) (.tcons (.i (localE z m)) .tnil) := funext fun y => propext ⟨fun h => by
  have h' : ∃ (z' : TZone) (m' : Int), ([.dv (.ag z.row), .i m] : List AV) = [.dv (.ag z'.row), .i m'] ∧ y = .tcons (.i (dayN z' m')) (.tcons (.i (localE z' m')) .tnil) := h
  obtain ⟨z', m', e, h⟩ := h'
  simp only [List.cons.injEq, AV.dv.injEq, AV.dp.injEq, AV.fv.injEq, DV.d.injEq, DV.ag.injEq, D.int.injEq, D.str.injEq, D.bool.injEq, D.sl.injEq, true_and, and_true, intsDi_inj, rowsT_inj, rowsKi_inj, TZone.row_inj, TZone.rows_inj] at e
  obtain ⟨rfl, rfl⟩ := e
  exact h, fun h => ⟨z, m, rfl, h⟩⟩
theorem Day_ctr {cx : Cx} (h : Seat cx) : Ctr cx 58 dayNS := by
  refine ctr_of (fn := Tryz.f58) (l := [.tmp 4, .tmp 5]) (envL [(69, zoneS), (56, inS), (70, dayS)]) [0, 1, 2, 4, 5, 6, 10, 14] [] [] (envL_cons (CheckZone_ctr h) (envL_cons (ewithin_ctr h) (envL_cons (DayAt_ctr h) (env0 h.hP)))) ?_ (by rw [h.hP]; exact Tryz.func58) rfl (by kernel_rfl) rfl ?_ ?_
  · rw [h.hP]; exact ⟨_, Tryz.func58, by kernel_rfl, by kernel_rfl⟩
  · rintro xs ⟨z, m, rfl, h1⟩; exact ⟨_, z, m, rfl, rfl⟩
  · rintro xs ⟨z, m, rfl, h1⟩
    refine ⟨by rw [Tryz.ntmps58]; simp, ?_⟩
    simp only [go_sem, h.hP, List.cons_append, List.nil_append, Meets_e, Below_e, Prod.exists, exists_eq, exists_eq_left, exists_eq_left', exists_eq_right, exists_eq_right', exists_and_left, exists_and_right, Ob.arr.injEq, AV.own.injEq, AV.fv.injEq, dayNS_q, dayNS_p, dayNS_c, dayNS_f, zoneS_q, zoneS_p, zoneS_c, zoneS_f, inS_q, inS_p, inS_c, inS_f, dayS_q, dayS_p, dayS_c, dayS_f, TZone.row, Tryz.ntmps58, Nat.reduceEqDiff, reduceCtorEq, Nat.reduceMul, Nat.reduceAdd, Nat.reduceSub, Nat.reduceDiv, Nat.reduceMod, Nat.reduceLeDiff, Nat.reduceLT, Nat.reduceBNe, Nat.reduceBEq, reduceIte, Int.reduceLE, Int.reduceLT, Int.reduceToNat, Int.reduceNeg, Int.reduceAdd, Int.reduceSub, Int.reduceMul, Int.reduceEq]
    have e1 : ¬ zoneF z = 0 → localE z m = zoneF z := fun c => if_pos c
    have e2 : zoneF z = 0 → inB m 0 4321439 = false → localE z m = 1 := fun c d => (if_neg (fun e => e c)).trans (if_pos d)
    have e3 : zoneF z = 0 → inB m 0 4321439 = true → localE z m = 0 := fun c d => (if_neg (fun e => e c)).trans (if_neg (ne_ft d))
    refine ⟨h1, fun c => ⟨(if_neg (by rw [e1 c]; exact c)).symm, (e1 c).symm⟩, fun c => ⟨fun d => ⟨(if_neg (by rw [e2 c d]; decide)).symm, (e2 c d).symm⟩, fun d => ?_⟩⟩
    have u := localE_use (e3 c d)
    exact ⟨u.1, u.2.1, by omega, (if_pos (e3 c d)).symm, (e3 c d).symm⟩
noncomputable def reachN (l : List TShift) (f t : Int) : Int := if fstM l f t < 4321440 then fstM l f t else 0
def reachS  : Spec where
  pre xs := ∃ (z : TZone) (f : Int) (t : Int), xs = [.dv (.ag z.row), .i f, .i t] ∧ (OkZ z.shifts ∧ 0 ≤ f ∧ f ≤ 4321440 ∧ -1000000000 ≤ t ∧ t ≤ 1000000000)
  post xs y := ∃ (z : TZone) (f : Int) (t : Int), xs = [.dv (.ag z.row), .i f, .i t] ∧ y = .tcons (.i (reachN z.shifts f t)) (.tcons (.b (decide (fstM z.shifts f t < 4321440))) .tnil)
  cost _ := 0
  fresh := true
def startE (z : TZone) (d m : Int) : Int := if zoneF z ≠ 0 then zoneF z else if inB d 0 3000 = false ∨ inB m 0 1439 = false then 1 else 0
noncomputable def momE (z : TZone) (d m : Int) : Int := if startE z d m ≠ 0 then startE z d m else if fstM z.shifts 0 (d * 1440 + m) < 4321440 then 0 else 8
noncomputable def momN (z : TZone) (d m : Int) : Int := if startE z d m ≠ 0 then 0 else reachN z.shifts 0 (d * 1440 + m)
def momNS  : Spec where
  pre xs := ∃ (z : TZone) (d : Int) (m : Int), xs = [.dv (.ag z.row), .i d, .i m] ∧ (z.ok)
  post xs y := ∃ (z : TZone) (d : Int) (m : Int), xs = [.dv (.ag z.row), .i d, .i m] ∧ y = .tcons (.i (momN z d m)) (.tcons (.i (momE z d m)) .tnil)
  cost _ := 0
  fresh := true
def startS  : Spec where
  pre xs := ∃ (z : TZone) (d : Int), xs = [.dv (.ag z.row), .i d] ∧ (z.ok)
  post xs y := ∃ (z : TZone) (d : Int), xs = [.dv (.ag z.row), .i d] ∧ y = .tcons (.i (momN z d 0)) (.tcons (.i (momE z d 0)) .tnil)
  cost _ := 0
  fresh := true
def momOfS  : Spec where
  pre xs := ∃ (z : TZone) (d : Int) (m : Int), xs = [.dv (.ag z.row), .i d, .i m] ∧ (OkZ z.shifts ∧ 0 ≤ d ∧ d ≤ 3000 ∧ 0 ≤ m ∧ m ≤ 1439)
  post xs y := ∃ (z : TZone) (d : Int) (m : Int), xs = [.dv (.ag z.row), .i d, .i m] ∧ y = .tcons (.i (fstM z.shifts 0 (d * 1440 + m))) (.tcons (.b (decide (fstM z.shifts 0 (d * 1440 + m) < 4321440))) .tnil)
  cost _ := 0
  fresh := true
end Go.Avc
