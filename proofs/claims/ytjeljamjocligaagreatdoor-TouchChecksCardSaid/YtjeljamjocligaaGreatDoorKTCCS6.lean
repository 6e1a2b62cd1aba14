/- TouchChecks returns true for every slice of numbers, and leaves it as it was; the two tables of unicode/utf8, the pool of ids and the names of fields, which its row lists, lie as the program lays them. -/
import Derived.Test.YtjeljamjocligaaGreatDoorCards
import Derived.Test.YtjeljamjocligaaGreatDoorTie
import Derived.WalkKit
import Derived.ProofKit
import Derived.OpenShut
import Derived.Deep.DeepHandedRow
import Derived.Test.YtjeljamjocligaaGreatDoorKTCCS1
import Derived.Test.YtjeljamjocligaaGreatDoorKTCCS2
import Derived.Test.YtjeljamjocligaaGreatDoorKTCCS3
import Derived.Test.YtjeljamjocligaaGreatDoorKTCCS4
import Derived.Test.YtjeljamjocligaaGreatDoorKTCCS5
/- Distance, people, Changed: their contracts. No condition. -/
set_option linter.unusedVariables false
set_option linter.unusedSimpArgs false
set_option maxRecDepth 100000
namespace Go.Avc
open Go Go.Proofs

def distanceS : Spec where
  pre xs := ∃ s t : ByteArray, xs = [.str s, .str t]
  post xs r := ∃ s t : ByteArray, xs = [.str s, .str t] ∧ r = if s.size > 200 ∨ t.size > 200 then .tcons (.i 0) (.tcons (.i 2) .tnil) else .tcons (.i (distP (pts s) (pts t))) (.tcons (.i 0) .tnil)
  cost _ := 0
  fresh := true
theorem distance_ctr {cx : Cx} (h : Seat cx) (hU : Utf8 cx) : Ctr cx 44 distanceS := by
  refine ctr_of (fn := Tryz.f44) (l := [.tmp 4, .tmp 5]) (envL [(84, (ptsS .i32)), (83, distS)]) [0, 1, 4, 5, 13] [] [] (envL_cons (pts_ctr h hU) (envL_cons (dist_ctr h) (env0 h.hP))) ?_ (by rw [h.hP]; exact Tryz.func44) rfl (by kernel_rfl) rfl ?_ ?_
  · rw [h.hP]; exact ⟨_, Tryz.func44, by kernel_rfl, by kernel_rfl⟩
  · rintro xs ⟨s, t, rfl⟩; exact ⟨_, s, t, rfl, rfl⟩
  · rintro xs ⟨s, t, rfl⟩
    refine ⟨by rw [Tryz.ntmps44]; simp, ?_⟩
    simp only [go_sem, h.hP, distanceS, ptsS, distS, rowsK_inj, Tryz.ntmps44, Nat.reduceEqDiff, reduceCtorEq, Nat.reduceMul, Nat.reduceAdd, Nat.reduceSub, Nat.reduceDiv, Nat.reduceMod, Nat.reduceLeDiff, Nat.reduceLT, Nat.reduceBNe, Nat.reduceBEq, reduceIte, Int.reduceLE, Int.reduceLT, Int.reduceToNat, Int.reduceNeg, Int.reduceAdd, Int.reduceSub, Int.reduceMul, Int.reduceEq]
    have hp : (pts s).length ≤ s.size := ptsL_len s.size s
    have hq : (pts t).length ≤ t.size := ptsL_len t.size t
    (repeat' (first | with_reducible apply And.intro | with_reducible intro))
    all_goals first
      | omega
      | rw [if_pos (by omega)]
      | rw [if_neg (by omega)]
theorem kitten : distP (pts ⟨#[107, 105, 116, 116, 101, 110]⟩) (pts ⟨#[115, 105, 116, 116, 105, 110, 103]⟩) = 3 := by decide +kernel
theorem quote_space : quotedF ⟨#[32]⟩ = ⟨#[34, 92, 120, 50, 48, 34]⟩ := by decide +kernel
def peopleS : Spec where
  pre xs := xs = []
  post xs r := r = .b true
  cost _ := 0
  fresh := true
theorem people_ctr {cx : Cx} (h : Seat cx) (hU : Utf8 cx) : Ctr cx 13 peopleS := by
  refine ctr_of (fn := Tryz.f13) (l := [.tmp 0]) (envL [(44, distanceS), (45, quoteS)]) [0, 1, 2] [] [] (envL_cons (distance_ctr h hU) (envL_cons (quote_ctr h) (env0 h.hP))) ?_ (by rw [h.hP]; exact Tryz.func13) rfl (by kernel_rfl) rfl ?_ ?_
  · rw [h.hP]; exact ⟨_, Tryz.func13, by kernel_rfl, by kernel_rfl⟩
  · rintro xs rfl; exact ⟨_, rfl⟩
  · rintro xs rfl
    refine ⟨by rw [Tryz.ntmps13]; simp, ?_⟩
    simp only [go_sem, h.hP, peopleS, distanceS, quoteS, Tryz.ntmps13, Nat.reduceEqDiff, reduceCtorEq, Nat.reduceMul, Nat.reduceAdd, Nat.reduceSub, Nat.reduceDiv, Nat.reduceMod, Nat.reduceLeDiff, Nat.reduceLT, Nat.reduceBNe, Nat.reduceBEq, reduceIte, Int.reduceLE, Int.reduceLT, Int.reduceToNat, Int.reduceNeg, Int.reduceAdd, Int.reduceSub, Int.reduceMul, Int.reduceEq]
    exact ⟨fun _ => quote_space, fun e => e kitten⟩
end Go.Avc

/- Ids are ordered: the order's laws; the comparison's walk; sorting and turning a row of ids of one's own. No condition. -/
set_option linter.unusedVariables false
set_option linter.unusedSimpArgs false
set_option maxRecDepth 100000
namespace Go.Avc
open Go Go.Proofs Go.Shelf Go.Sort

theorem ord_lt (a b : TId) : ltOf ordF a b = true ↔ a.kind < b.kind ∨ (a.kind = b.kind ∧ lessS a.text b.text = true) := by
  unfold ltOf ordF cmpT
  rw [decide_eq_true_eq]
  by_cases h1 : a.kind < b.kind
  · rw [if_pos h1]
    exact ⟨fun _ => .inl h1, fun _ => by decide⟩
  · rw [if_neg h1]
    by_cases h2 : a.kind > b.kind
    · rw [if_pos h2]
      exact ⟨fun h => absurd h (by decide), fun h => by omega⟩
    · rw [if_neg h2]
      by_cases h3 : lessS a.text b.text = true
      · rw [if_pos h3]
        exact ⟨fun _ => .inr ⟨by omega, h3⟩, fun _ => by decide⟩
      · rw [if_neg h3]
        refine ⟨fun h => ?_, fun h => ?_⟩
        · split at h <;> exact absurd h (by decide)
        · rcases h with h | ⟨_, h⟩
          · omega
          · exact absurd h h3
theorem ord_swo : SWO (ltOf ordF) where
  irrefl x := by
    rw [Bool.eq_false_iff, Ne, ord_lt]
    rintro (h | ⟨_, h⟩)
    · omega
    · rw [lessS_irrefl] at h
      cases h
  trans x y z h k := by
    rw [ord_lt] at h k ⊢
    rcases h with h | ⟨h1, h2⟩ <;> rcases k with k | ⟨k1, k2⟩
    · exact .inl (by omega)
    · exact .inl (by omega)
    · exact .inl (by omega)
    · exact .inr ⟨by omega, lessS_trans h2 k2⟩
  ntrans x y z h k := by
    rw [Bool.eq_false_iff, Ne, ord_lt] at h k ⊢
    intro c
    have key : ∀ {s t u : ByteArray}, ¬ lessS s t = true → ¬ lessS t u = true → ¬ lessS s u = true := fun {s t u} h1 h2 h3 => by
      by_cases e1 : s = t
      · subst e1; exact h2 h3
      by_cases e2 : t = u
      · subst e2; exact h1 h3
      have g1 := lessS_total (s := s) (t := t) (fun q => q.elim h1 e1)
      have g2 := lessS_total (s := t) (t := u) (fun q => q.elim h2 e2)
      have g3 := lessS_trans (lessS_trans g2 g1) h3
      rw [lessS_irrefl] at g3
      cases g3
    rcases c with c | ⟨c1, c2⟩
    · have h1 : ¬ x.kind < y.kind := fun e => h (.inl e)
      have h2 : ¬ y.kind < z.kind := fun e => k (.inl e)
      omega
    · have h1 : ¬ x.kind < y.kind := fun e => h (.inl e)
      have h2 : ¬ y.kind < z.kind := fun e => k (.inl e)
      exact key (fun e => h (.inr ⟨by omega, e⟩)) (fun e => k (.inr ⟨by omega, e⟩)) c2

theorem ordV_eq (x y : TId) : OrdW.ordV x.kind y.kind x.text y.text = ordF x y := by
  unfold OrdW.ordV ordF cmpT lessS
  have h : (x.text.toList = y.text.toList) = (x.text = y.text) := by
    have := str_beq x.text y.text
    apply propext
    constructor
    · intro e
      rw [e] at this
      simpa using this.symm
    · intro e
      rw [e]
  simp only [h]
def sortI : Spec where
  pre az := ∃ l : List TId, az = [.sl (TId.rows l), .fn 64 []] ∧ l.length ≤ 1048576
  post az r := ∃ l l' : List TId, az = [.sl (TId.rows l), .fn 64 []] ∧ l'.length = l.length ∧ (∀ x ∈ l', x ∈ l) ∧ r = .sl (TId.rows l')
  cost _ := 0
  fresh := true
def revI : Spec where
  pre az := ∃ l : List TId, az = [.sl (TId.rows l)] ∧ l.length ≤ 1048576
  post az r := ∃ l : List TId, az = [.sl (TId.rows l)] ∧ r = .sl (TId.rows l.reverse)
  cost _ := 0
  fresh := true
theorem CtrO.weaken {cx : Cx} {f : FuncId} {sp sp' : Spec} {e : TypeId} {z : Nat} (h : CtrO cx f sp e z) (hz : 1000000 ≤ z) (h1 : ∀ xs, sp'.pre xs → sp.pre xs) (h2 : ∀ xs r, sp'.pre xs → sp.post xs r → sp'.post xs r) : CtrO cx f sp' e z := by
  refine ⟨h.1, fun hz' => by omega, fun _ => ?_⟩
  intro F base l xs v az vals hcx hF hst hgl hlen hargs hb hown hblk hz2 hR hp
  refine (h.2.2 hz F base l xs v az vals hcx hF hst hgl hlen hargs hb hown hblk hz2 hR (h1 _ hp)).mono ?_
  rintro e' w' ⟨l', xs', h3, h4, h5⟩
  exact ⟨l', xs', h3, h2 _ _ hp h4, h5⟩
theorem enc_row (x : TId) : (encR TId.row x).toArray = #[.int .i64 x.kind, .string x.text] := rfl
theorem isAgg_id {cx : Cx} (h : Seat cx) (w : World) : (isAgg 42).run cx.P w = .ok true w := by
  rw [h.hP]
  simp [isAgg, run_underlying Tryz.underlying42]
theorem sizeOf_id {cx : Cx} (h : Seat cx) (w : World) : (Go.sizeOf 42).run cx.P w = .ok 2 w := by
  rw [h.hP]
  have hc : Tryz.prog.cellsOf 42 = 2 := by kernel_rfl
  have := size_run (P := Tryz.prog) (t := 42) (by rw [hc]; decide) w
  rw [hc] at this
  exact this
theorem sortIds {cx : Cx} (h : Seat cx) : CtrO cx 63 sortI 42 1000002 := by
  have hs := sort_own (row := TId.row) (k := 2) (cx := cx) (ρ := Tryz.laysSortId_ren) (by rw [h.hP]; exact Tryz.laysSortId) (e := 42) (by decide) (isAgg_id h) (sizeOf_id h) (fun _ => rfl) (fun _ => rfl) ordF ord_swo
    (g := 64) (by rw [h.hP]; exact ⟨_, Tryz.func64, by kernel_rfl, by kernel_rfl⟩) (fun x y W => by rw [h.hP, enc_row, enc_row, ← ordV_eq]; exact OrdW.order_walk _ _ _ _ W)
    (by rw [h.hP]; exact ⟨_, Tryz.func63, by kernel_rfl, by kernel_rfl⟩)
  refine CtrO.weaken hs (by decide) (fun xs hx => hx) (fun xs r hx hr => ?_)
  obtain ⟨l, l', e, hp, _, rfl⟩ := hr
  exact ⟨l, l', e, hp.length_eq, fun x hx => hp.mem_iff.1 hx, rfl⟩
theorem revIds {cx : Cx} (h : Seat cx) : CtrO cx 71 revI 42 1000002 := by
  have hs := rev_own (row := TId.row) (k := 2) (cx := cx) (ρ := Tryz.laysRevId_ren) (by rw [h.hP]; exact Tryz.laysRevId) (e := 42) (by decide) (isAgg_id h) (sizeOf_id h) (fun _ => rfl) (fun _ => rfl)
    (by rw [h.hP]; exact ⟨_, Tryz.func71, by kernel_rfl, by kernel_rfl⟩)
  exact CtrO.weaken hs (by decide) (fun xs hx => hx) (fun xs r hx hr => hr)
end Go.Avc

/- Touches: what is wrong with them, by the program and by the reference. No condition. -/
set_option linter.unusedVariables false
set_option linter.unusedSimpArgs false
set_option maxRecDepth 100000
namespace Go.Avc
open Go Go.Proofs

/-- Turned round, the order turns round. -/
theorem ord_flip (a b : TId) : (0 ≤ ordF b a) = (ordF a b ≤ 0) := by
  have ha : ∀ s t : ByteArray, lessS s t = true → ¬ lessS t s = true := fun s t h k => by
    have := lessS_trans h k
    rw [lessS_irrefl] at this
    cases this
  have hc : (0 ≤ cmpT b.text a.text) ↔ (cmpT a.text b.text ≤ 0) := by
    unfold cmpT
    by_cases h1 : lessS a.text b.text = true
    · rw [if_pos h1, if_neg (ha _ _ h1)]
      exact ⟨fun _ => by decide, fun _ => by split <;> decide⟩
    · rw [if_neg h1]
      by_cases h2 : a.text = b.text
      · have e1 : ¬ lessS b.text b.text = true := by rw [lessS_irrefl]; decide
        rw [h2, if_pos rfl, if_neg e1]
      · rw [if_neg h2, if_pos (lessS_total fun q => q.elim h1 h2)]
        exact ⟨fun h => absurd h (by decide), fun h => absurd h (by decide)⟩
  unfold ordF
  apply propext
  by_cases h1 : a.kind < b.kind
  · rw [if_neg (show ¬ b.kind < a.kind by omega), if_pos (show b.kind > a.kind from h1), if_pos h1]
    exact ⟨fun _ => by decide, fun _ => by decide⟩
  · by_cases h2 : a.kind > b.kind
    · rw [if_pos (show b.kind < a.kind from h2), if_neg h1, if_pos h2]
      exact ⟨fun h => absurd h (by decide), fun h => absurd h (by decide)⟩
    · rw [if_neg (show ¬ b.kind < a.kind by omega), if_neg (show ¬ b.kind > a.kind by omega), if_neg h1, if_neg h2]
      exact hc
/-! ### Ids that rise -/
theorem idS_q2 (k : Int) (s : ByteArray) : idS.pre [.dv (.ag [.int .i64 k, .str s])] = (TId.mk k s).ok := idS_q ⟨k, s⟩
theorem idS_p2 (k : Int) (s : ByteArray) : idS.post [.dv (.ag [.int .i64 k, .str s])] = fun y => y = .i (idF ⟨k, s⟩) := idS_p ⟨k, s⟩
theorem ordS_q2 (k m : Int) (s t : ByteArray) : ordS.pre [.dv (.ag [.int .i64 k, .str s]), .dv (.ag [.int .i64 m, .str t])] = True := ordS_q ⟨k, s⟩ ⟨m, t⟩
theorem ordS_p2 (k m : Int) (s t : ByteArray) : ordS.post [.dv (.ag [.int .i64 k, .str s]), .dv (.ag [.int .i64 m, .str t])] = fun y => y = .i (ordF ⟨k, s⟩ ⟨m, t⟩) := ordS_p ⟨k, s⟩ ⟨m, t⟩
def idE (l : List TId) (i : Nat) : Int := if idF (l.getD i TId.z) ≠ 0 then idF (l.getD i TId.z) else if 0 < (i : Int) ∧ ordF (l.getD i TId.z) (l.getD (i - 1) TId.z) ≤ 0 then 7 else 0
def idsF (l : List TId) : Int := firstI l.length (idE l)
def idsS  : Spec where
  pre xs := ∃ (l : List TId), xs = [.sl (TId.rows l)] ∧ (okL TId.ok l)
  post xs y := ∃ (l : List TId), xs = [.sl (TId.rows l)] ∧ y = .i (idsF l)
  cost _ := 0
  fresh := true
theorem idsS_c  (xs : List AV) : (idsS).cost xs = 0 := nr rfl
theorem idsS_f  : (idsS).fresh = true := nr rfl
theorem idsS_q  (l : List TId) : (idsS).pre [.sl (TId.rows l)] = (okL TId.ok l) := propext ⟨fun h => by
  have h' : ∃ (l' : List TId), ([.sl (TId.rows l)] : List AV) = [.sl (TId.rows l')] ∧ (okL TId.ok l') := h
  obtain ⟨l', e, h⟩ := h'
  simp only [List.cons.injEq, AV.dv.injEq, AV.dp.injEq, AV.fv.injEq, DV.d.injEq, DV.ag.injEq, D.int.injEq, D.str.injEq, D.bool.injEq, D.sl.injEq, true_and, and_true, intsDi_inj, rowsT_inj, rowsKi_inj, TId.row_inj, TId.rows_inj] at e
  obtain rfl := e
  exact h, fun h => ⟨l, rfl, h⟩⟩
theorem idsS_p  (l : List TId) : (idsS).post [.sl (TId.rows l)] = fun y => y = .i (idsF l) := funext fun y => propext ⟨fun h => by
  have h' : ∃ (l' : List TId), ([.sl (TId.rows l)] : List AV) = [.sl (TId.rows l')] ∧ y = .i (idsF l') := h
  obtain ⟨l', e, h⟩ := h'
  simp only [List.cons.injEq, AV.dv.injEq, AV.dp.injEq, AV.fv.injEq, DV.d.injEq, DV.ag.injEq, D.int.injEq, D.str.injEq, D.bool.injEq, D.sl.injEq, true_and, and_true, intsDi_inj, rowsT_inj, rowsKi_inj, TId.row_inj, TId.rows_inj] at e
  obtain rfl := e
  exact h, fun h => ⟨l, rfl, h⟩⟩
set_option maxHeartbeats 4000000 in
theorem checkIds_ctr {cx : Cx} (h : Seat cx) (hM : MaxL cx) : Ctr cx 39 idsS := by
  refine ctr_of (fn := Tryz.f39) (l := [.tmp 2]) (envL [(49, idS), (68, ordS)]) [0, 2, 3, 4, 5, 6, 7, 8, 9, 16, 29] [] [] (envL_cons (CheckId_ctr h hM) (envL_cons (CompareIds_ctr h) (env0 h.hP))) ?_ (by rw [h.hP]; exact Tryz.func39) rfl (by kernel_rfl) rfl ?_ ?_
  · rw [h.hP]; exact ⟨_, Tryz.func39, by kernel_rfl, by kernel_rfl⟩
  · rintro xs ⟨l, rfl, h1⟩; exact ⟨_, l, rfl, rfl⟩
  · rintro xs ⟨l, rfl, h1⟩
    refine ⟨by rw [Tryz.ntmps39]; simp, ?_⟩
    simp only [go_sem, h.hP, List.cons_append, List.nil_append, Meets_e, Below_e, Prod.exists, exists_eq, exists_eq_left, exists_eq_left', exists_eq_right, exists_eq_right', exists_and_left, exists_and_right, Ob.arr.injEq, AV.own.injEq, AV.fv.injEq, idsS_q, idsS_p, idsS_c, idsS_f, TId.len, Tryz.ntmps39, Nat.reduceEqDiff, reduceCtorEq, Nat.reduceMul, Nat.reduceAdd, Nat.reduceSub, Nat.reduceDiv, Nat.reduceMod, Nat.reduceLeDiff, Nat.reduceLT, Nat.reduceBNe, Nat.reduceBEq, reduceIte, Int.reduceLE, Int.reduceLT, Int.reduceToNat, Int.reduceNeg, Int.reduceAdd, Int.reduceSub, Int.reduceMul, Int.reduceEq]
    unfold idsF
    refine vc_loopS (Int) (fun (i : Int) => [(8, .i i)]) [] (fun (i : Int) => []) (fun (i : Int) => []) (fun (i : Int) => 0) (fun (i : Int) => Rounds l.length (idE l) i) (fun (i : Int) => (l.length - i).toNat) [] ?_ ?_
    · simp only [go_sem, h.hP, List.cons_append, List.nil_append, Meets_e, Below_e, Prod.exists, exists_eq, exists_eq_left, exists_eq_left', exists_eq_right, exists_eq_right', exists_and_left, exists_and_right, Ob.arr.injEq, AV.own.injEq, AV.fv.injEq, Tryz.ntmps39, Nat.reduceEqDiff, reduceCtorEq, Nat.reduceMul, Nat.reduceAdd, Nat.reduceSub, Nat.reduceDiv, Nat.reduceMod, Nat.reduceLeDiff, Nat.reduceLT, Nat.reduceBNe, Nat.reduceBEq, reduceIte, Int.reduceLE, Int.reduceLT, Int.reduceToNat, Int.reduceNeg, Int.reduceAdd, Int.reduceSub, Int.reduceMul, Int.reduceEq]
      exact Rounds.start
    · rintro i hr
      obtain ⟨hi, hS, hM', hE, hN⟩ := hr.use (by have := h1.1; omega)
      have ho : (l.getD i.toNat TId.z).ok := okL_get h1 TId.z_ok _
      simp only [go_sem, h.hP, List.cons_append, List.nil_append, Meets_e, Below_e, Prod.exists, exists_eq, exists_eq_left, exists_eq_left', exists_eq_right, exists_eq_right', exists_and_left, exists_and_right, Ob.arr.injEq, AV.own.injEq, AV.fv.injEq, idS_q, idS_p, idS_c, idS_f, ordS_q, ordS_p, ordS_c, ordS_f, TId.len, TId.get, idS_q2, idS_p2, ordS_q2, ordS_p2, Tryz.ntmps39, Nat.reduceEqDiff, reduceCtorEq, Nat.reduceMul, Nat.reduceAdd, Nat.reduceSub, Nat.reduceDiv, Nat.reduceMod, Nat.reduceLeDiff, Nat.reduceLT, Nat.reduceBNe, Nat.reduceBEq, reduceIte, Int.reduceLE, Int.reduceLT, Int.reduceToNat, Int.reduceNeg, Int.reduceAdd, Int.reduceSub, Int.reduceMul, Int.reduceEq]
      have hw : i < l.length → 0 < i → IntKind.i64.wrap (i - 1) = i - 1 := fun _ a => i64w (by omega) (by have := h1.1; omega)
      have e0 : idE l i.toNat = if idF (l.getD i.toNat TId.z) ≠ 0 then idF (l.getD i.toNat TId.z) else if 0 < i ∧ ordF (l.getD i.toNat TId.z) (l.getD (i - 1).toNat TId.z) ≤ 0 then 7 else 0 := by
        unfold idE
        rw [Int.toNat_of_nonneg hi, show i.toNat - 1 = (i - 1).toNat by omega]
      refine ⟨fun a => ⟨hi, a, ho, fun b => (hE _ a (e0.trans (if_pos b)) b).symm, fun b => ⟨fun d => ?_, fun d => ⟨hS a ((e0.trans (if_neg fun q => q b)).trans (if_neg fun q => d q.1)), hM' a⟩⟩⟩, fun a => (hN a).symm⟩
      rw [hw a d]
      have e1 := e0.trans (if_neg fun q => q b)
      exact ⟨by omega, by omega, fun e => (hE 7 a (e1.trans (if_pos ⟨d, e⟩)) (by decide)).symm, fun e => ⟨hS a (e1.trans (if_neg fun q => e q.2)), hM' a⟩⟩
set_option maxHeartbeats 4000000 in
theorem idsFault_ctr {cx : Cx} (h : Seat cx) (hM : MaxL cx) : Ctr cx 42 idsS := by
  refine ctr_of (fn := Tryz.f42) (l := [.tmp 2]) (envL [(18, idS), (64, ordS)]) [0, 2, 3, 4, 5, 6, 7, 8, 9, 16, 29] [] [] (envL_cons (IdFault_ctr h hM) (envL_cons (Order_ctr h) (env0 h.hP))) ?_ (by rw [h.hP]; exact Tryz.func42) rfl (by kernel_rfl) rfl ?_ ?_
  · rw [h.hP]; exact ⟨_, Tryz.func42, by kernel_rfl, by kernel_rfl⟩
  · rintro xs ⟨l, rfl, h1⟩; exact ⟨_, l, rfl, rfl⟩
  · rintro xs ⟨l, rfl, h1⟩
    refine ⟨by rw [Tryz.ntmps42]; simp, ?_⟩
    simp only [go_sem, h.hP, List.cons_append, List.nil_append, Meets_e, Below_e, Prod.exists, exists_eq, exists_eq_left, exists_eq_left', exists_eq_right, exists_eq_right', exists_and_left, exists_and_right, Ob.arr.injEq, AV.own.injEq, AV.fv.injEq, idsS_q, idsS_p, idsS_c, idsS_f, TId.len, Tryz.ntmps42, Nat.reduceEqDiff, reduceCtorEq, Nat.reduceMul, Nat.reduceAdd, Nat.reduceSub, Nat.reduceDiv, Nat.reduceMod, Nat.reduceLeDiff, Nat.reduceLT, Nat.reduceBNe, Nat.reduceBEq, reduceIte, Int.reduceLE, Int.reduceLT, Int.reduceToNat, Int.reduceNeg, Int.reduceAdd, Int.reduceSub, Int.reduceMul, Int.reduceEq]
    unfold idsF
    refine vc_loopS (Int) (fun (i : Int) => [(8, .i i)]) [] (fun (i : Int) => []) (fun (i : Int) => []) (fun (i : Int) => 0) (fun (i : Int) => Rounds l.length (idE l) i) (fun (i : Int) => (l.length - i).toNat) [] ?_ ?_
    · simp only [go_sem, h.hP, List.cons_append, List.nil_append, Meets_e, Below_e, Prod.exists, exists_eq, exists_eq_left, exists_eq_left', exists_eq_right, exists_eq_right', exists_and_left, exists_and_right, Ob.arr.injEq, AV.own.injEq, AV.fv.injEq, Tryz.ntmps42, Nat.reduceEqDiff, reduceCtorEq, Nat.reduceMul, Nat.reduceAdd, Nat.reduceSub, Nat.reduceDiv, Nat.reduceMod, Nat.reduceLeDiff, Nat.reduceLT, Nat.reduceBNe, Nat.reduceBEq, reduceIte, Int.reduceLE, Int.reduceLT, Int.reduceToNat, Int.reduceNeg, Int.reduceAdd, Int.reduceSub, Int.reduceMul, Int.reduceEq]
      exact Rounds.start
    · rintro i hr
      obtain ⟨hi, hS, hM', hE, hN⟩ := hr.use (by have := h1.1; omega)
      have ho : (l.getD i.toNat TId.z).ok := okL_get h1 TId.z_ok _
      simp only [go_sem, h.hP, List.cons_append, List.nil_append, Meets_e, Below_e, Prod.exists, exists_eq, exists_eq_left, exists_eq_left', exists_eq_right, exists_eq_right', exists_and_left, exists_and_right, Ob.arr.injEq, AV.own.injEq, AV.fv.injEq, idS_q, idS_p, idS_c, idS_f, ordS_q, ordS_p, ordS_c, ordS_f, TId.len, TId.get, idS_q2, idS_p2, ordS_q2, ordS_p2, Tryz.ntmps42, Nat.reduceEqDiff, reduceCtorEq, Nat.reduceMul, Nat.reduceAdd, Nat.reduceSub, Nat.reduceDiv, Nat.reduceMod, Nat.reduceLeDiff, Nat.reduceLT, Nat.reduceBNe, Nat.reduceBEq, reduceIte, Int.reduceLE, Int.reduceLT, Int.reduceToNat, Int.reduceNeg, Int.reduceAdd, Int.reduceSub, Int.reduceMul, Int.reduceEq]
      have hw : i < l.length → 0 < i → IntKind.i64.wrap (i - 1) = i - 1 := fun _ a => i64w (by omega) (by have := h1.1; omega)
      have e0 : idE l i.toNat = if idF (l.getD i.toNat TId.z) ≠ 0 then idF (l.getD i.toNat TId.z) else if 0 < i ∧ ordF (l.getD i.toNat TId.z) (l.getD (i - 1).toNat TId.z) ≤ 0 then 7 else 0 := by
        unfold idE
        rw [Int.toNat_of_nonneg hi, show i.toNat - 1 = (i - 1).toNat by omega]
      refine ⟨fun a => ⟨hi, a, ho, fun b => (hE _ a (e0.trans (if_pos b)) b).symm, fun b => ⟨fun d => ?_, fun d => ⟨hS a ((e0.trans (if_neg fun q => q b)).trans (if_neg fun q => d q.1)), hM' a⟩⟩⟩, fun a => (hN a).symm⟩
      rw [hw a d]
      have e1 := e0.trans (if_neg fun q => q b)
      have hf := ord_flip (l.getD i.toNat TId.z) (l.getD (i - 1).toNat TId.z)
      refine ⟨by omega, by omega, fun e => (hE 7 a (e1.trans (if_pos ⟨d, cast hf e⟩)) (by decide)).symm, fun e => ⟨hS a (e1.trans (if_neg fun q => e (cast hf.symm q.2))), hM' a⟩⟩
/-! ### A touch -/
def touchF (t : TTouch) (b : Int) : Int := if inB t.no 1 1000000 = false ∨ inB t.at_ 0 4321439 = false then 1 else if t.no ≤ b then 7 else if keyB t.source = false then 5 else if (t.ids.length : Int) = 0 then 3 else if 10 < (t.ids.length : Int) then 2 else orE (idsF t.ids) (fieldsF t.fields)
def touchS  : Spec where
  pre xs := ∃ (t : TTouch) (b : Int), xs = [.dv (.ag t.row), .i b] ∧ (t.ok)
  post xs y := ∃ (t : TTouch) (b : Int), xs = [.dv (.ag t.row), .i b] ∧ y = .i (touchF t b)
  cost _ := 0
  fresh := true
theorem touchS_c  (xs : List AV) : (touchS).cost xs = 0 := nr rfl
theorem touchS_f  : (touchS).fresh = true := nr rfl
theorem touchS_q  (t : TTouch) (b : Int) : (touchS).pre [.dv (.ag [.int .i64 t.no, .int .i64 t.at_, .str t.source, .sl (TId.rows t.ids), .sl (TField.rows t.fields)]), .i b] = (t.ok) := propext ⟨fun h => by
  have h' : ∃ (t' : TTouch) (b' : Int), ([.dv (.ag t.row), .i b] : List AV) = [.dv (.ag t'.row), .i b'] ∧ (t'.ok) := h
  obtain ⟨t', b', e, h⟩ := h'
  simp only [List.cons.injEq, AV.dv.injEq, AV.dp.injEq, AV.fv.injEq, DV.d.injEq, DV.ag.injEq, D.int.injEq, D.str.injEq, D.bool.injEq, D.sl.injEq, true_and, and_true, intsDi_inj, rowsT_inj, rowsKi_inj, TTouch.row_inj, TTouch.rows_inj] at e
  obtain ⟨rfl, rfl⟩ := e
  exact h, fun h => ⟨t, b, rfl, h⟩⟩
theorem touchS_p  (t : TTouch) (b : Int) : (touchS).post [.dv (.ag [.int .i64 t.no, .int .i64 t.at_, .str t.source, .sl (TId.rows t.ids), .sl (TField.rows t.fields)]), .i b] = fun y => y = .i (touchF t b) := funext fun y => propext ⟨fun h => by
  have h' : ∃ (t' : TTouch) (b' : Int), ([.dv (.ag t.row), .i b] : List AV) = [.dv (.ag t'.row), .i b'] ∧ y = .i (touchF t' b') := h
  obtain ⟨t', b', e, h⟩ := h'
  simp only [List.cons.injEq, AV.dv.injEq, AV.dp.injEq, AV.fv.injEq, DV.d.injEq, DV.ag.injEq, D.int.injEq, D.str.injEq, D.bool.injEq, D.sl.injEq, true_and, and_true, intsDi_inj, rowsT_inj, rowsKi_inj, TTouch.row_inj, TTouch.rows_inj] at e
  obtain ⟨rfl, rfl⟩ := e
  exact h, fun h => ⟨t, b, rfl, h⟩⟩
set_option maxHeartbeats 4000000 in
theorem checkTouch_ctr {cx : Cx} (h : Seat cx) (hU : Utf8 cx) (hM : MaxL cx) : Ctr cx 36 touchS := by
  refine ctr_of (fn := Tryz.f36) (l := [.tmp 4]) (envL [(38, inS), (74, (strB keyB)), (39, idsS), (75, fieldsS)]) [0, 1, 2, 4, 5, 6, 17, 22, 27, 32, 41] [] [] (envL_cons (pwithin_ctr h) (envL_cons (IsKey_ctr h) (envL_cons (checkIds_ctr h hM) (envL_cons (CheckFields_ctr h hU) (env0 h.hP))))) ?_ (by rw [h.hP]; exact Tryz.func36) rfl (by kernel_rfl) rfl ?_ ?_
  · rw [h.hP]; exact ⟨_, Tryz.func36, by kernel_rfl, by kernel_rfl⟩
  · rintro xs ⟨t, b, rfl, h1⟩; exact ⟨_, t, b, rfl, rfl⟩
  · rintro xs ⟨t, b, rfl, h1⟩
    refine ⟨by rw [Tryz.ntmps36]; simp, ?_⟩
    simp only [go_sem, h.hP, List.cons_append, List.nil_append, Meets_e, Below_e, Prod.exists, exists_eq, exists_eq_left, exists_eq_left', exists_eq_right, exists_eq_right', exists_and_left, exists_and_right, Ob.arr.injEq, AV.own.injEq, AV.fv.injEq, touchS_q, touchS_p, touchS_c, touchS_f, inS_q, inS_p, inS_c, inS_f, strB_q, strB_p, strB_c, strB_f, idsS_q, idsS_p, idsS_c, idsS_f, fieldsS_q, fieldsS_p, fieldsS_c, fieldsS_f, TTouch.row, TId.len, Tryz.ntmps36, Nat.reduceEqDiff, reduceCtorEq, Nat.reduceMul, Nat.reduceAdd, Nat.reduceSub, Nat.reduceDiv, Nat.reduceMod, Nat.reduceLeDiff, Nat.reduceLT, Nat.reduceBNe, Nat.reduceBEq, reduceIte, Int.reduceLE, Int.reduceLT, Int.reduceToNat, Int.reduceNeg, Int.reduceAdd, Int.reduceSub, Int.reduceMul, Int.reduceEq]
    obtain ⟨o1, o2, o3, o4, o5⟩ := id h1
    unfold okS at o3
    have t1 : inB t.no 1 1000000 = false ∨ inB t.at_ 0 4321439 = false → touchF t b = 1 := fun c => if_pos c
    have t2 : inB t.no 1 1000000 = true → inB t.at_ 0 4321439 = true → touchF t b = if t.no ≤ b then 7 else if keyB t.source = false then 5 else if (t.ids.length : Int) = 0 then 3 else if 10 < (t.ids.length : Int) then 2 else orE (idsF t.ids) (fieldsF t.fields) := fun c d => if_neg fun q => q.elim (ne_ft c) (ne_ft d)
    refine ⟨fun c1 => ⟨fun c2 => (t1 (.inr c2)).symm, fun c2 => ?_⟩, fun c1 => (t1 (.inl c1)).symm⟩
    rw [t2 c1 c2]
    refine ⟨fun c3 => (if_pos c3).symm, fun c3 => ?_⟩
    rw [if_neg c3]
    refine ⟨by omega, fun c4 => (if_pos c4).symm, fun c4 => ?_⟩
    rw [if_neg (ne_ft c4)]
    refine ⟨fun c5 => (if_pos c5).symm, fun c5 => ?_⟩
    rw [if_neg c5]
    refine ⟨fun c6 => (if_pos c6).symm, fun c6 => ?_⟩
    rw [if_neg c6]
    exact ⟨o4, fun c7 => (orE_l c7).symm, fun c7 => ⟨o5, (orE_r c7).symm⟩⟩
def tIds (t : TTouch) : Int := idsF t.ids
def tFields (t : TTouch) : Int := fieldsF t.fields
theorem tf1_ctr {cx : Cx} (h : Seat cx) (hM : MaxL cx) : Ctr cx 78 (c1S TTouch.row TTouch.ok tIds) := by
  refine ctr_of (fn := Tryz.f78) (l := [.tmp 1]) (envL [(42, idsS)]) [0, 1] [] [] (envL_cons (idsFault_ctr h hM) (env0 h.hP)) ?_ (by rw [h.hP]; exact Tryz.func78) rfl (by kernel_rfl) rfl ?_ ?_
  · rw [h.hP]; exact ⟨_, Tryz.func78, by kernel_rfl, by kernel_rfl⟩
  · rintro xs ⟨t, rfl, h1⟩; exact ⟨_, t, rfl, rfl⟩
  · rintro xs ⟨t, rfl, h1⟩
    refine ⟨by rw [Tryz.ntmps78]; simp, ?_⟩
    simp only [go_sem, h.hP, List.cons_append, List.nil_append, Meets_e, Below_e, Prod.exists, exists_eq, exists_eq_left, exists_eq_left', exists_eq_right, exists_eq_right', exists_and_left, exists_and_right, Ob.arr.injEq, AV.own.injEq, AV.fv.injEq, idsS_q, idsS_p, idsS_c, idsS_f, c1S_c, c1S_f, TTouch.row, Tryz.ntmps78, Nat.reduceEqDiff, reduceCtorEq, Nat.reduceMul, Nat.reduceAdd, Nat.reduceSub, Nat.reduceDiv, Nat.reduceMod, Nat.reduceLeDiff, Nat.reduceLT, Nat.reduceBNe, Nat.reduceBEq, reduceIte, Int.reduceLE, Int.reduceLT, Int.reduceToNat, Int.reduceNeg, Int.reduceAdd, Int.reduceSub, Int.reduceMul, Int.reduceEq]
    exact ⟨h1.2.2.2.1, t, rfl, rfl⟩
theorem tf2_ctr {cx : Cx} (h : Seat cx) (hU : Utf8 cx) : Ctr cx 79 (c1S TTouch.row TTouch.ok tFields) := by
  refine ctr_of (fn := Tryz.f79) (l := [.tmp 1]) (envL [(80, fieldsS)]) [0, 1] [] [] (envL_cons (FieldsFault_ctr h hU) (env0 h.hP)) ?_ (by rw [h.hP]; exact Tryz.func79) rfl (by kernel_rfl) rfl ?_ ?_
  · rw [h.hP]; exact ⟨_, Tryz.func79, by kernel_rfl, by kernel_rfl⟩
  · rintro xs ⟨t, rfl, h1⟩; exact ⟨_, t, rfl, rfl⟩
  · rintro xs ⟨t, rfl, h1⟩
    refine ⟨by rw [Tryz.ntmps79]; simp, ?_⟩
    simp only [go_sem, h.hP, List.cons_append, List.nil_append, Meets_e, Below_e, Prod.exists, exists_eq, exists_eq_left, exists_eq_left', exists_eq_right, exists_eq_right', exists_and_left, exists_and_right, Ob.arr.injEq, AV.own.injEq, AV.fv.injEq, fieldsS_q, fieldsS_p, fieldsS_c, fieldsS_f, c1S_c, c1S_f, TTouch.row, Tryz.ntmps79, Nat.reduceEqDiff, reduceCtorEq, Nat.reduceMul, Nat.reduceAdd, Nat.reduceSub, Nat.reduceDiv, Nat.reduceMod, Nat.reduceLeDiff, Nat.reduceLT, Nat.reduceBNe, Nat.reduceBEq, reduceIte, Int.reduceLE, Int.reduceLT, Int.reduceToNat, Int.reduceNeg, Int.reduceAdd, Int.reduceSub, Int.reduceMul, Int.reduceEq]
    exact ⟨h1.2.2.2.2, t, rfl, rfl⟩
set_option maxHeartbeats 4000000 in
theorem touchFault_ctr {cx : Cx} (h : Seat cx) (hU : Utf8 cx) (hM : MaxL cx) : Ctr cx 37 touchS := by
  refine ctr_of (fn := Tryz.f37) (l := [.tmp 4]) (envF [(76, (strB keyB)), (41, inS)] [(78, (c1Φ TTouch.row TTouch.ok tIds)), (79, (c1Φ TTouch.row TTouch.ok tFields))]) [0, 1, 2, 4, 5, 16, 21, 26, 31] [] [(11, [], [])] (envF_cons (c1_of TTouch.inj (tf1_ctr h hM)) (envF_cons (c1_of TTouch.inj (tf2_ctr h hU)) (envF_nil (envL_cons (Key_ctr h) (envL_cons (in_ctr h) (env0 h.hP)))))) ?_ (by rw [h.hP]; exact Tryz.func37) rfl (by kernel_rfl) rfl ?_ ?_
  · rw [h.hP]; exact ⟨_, Tryz.func37, by kernel_rfl, by kernel_rfl⟩
  · rintro xs ⟨t, b, rfl, h1⟩; exact ⟨_, t, b, rfl, rfl⟩
  · rintro xs ⟨t, b, rfl, h1⟩
    refine ⟨by rw [Tryz.ntmps37]; simp, ?_⟩
    have q1 : (c1Φ TTouch.row TTouch.ok tIds [[.int .i64 t.no, .int .i64 t.at_, .str t.source, .sl (TId.rows t.ids), .sl (TField.rows t.fields)]]).pre [] = t.ok := c1_pre (row := TTouch.row) TTouch.inj t
    have p1 : ∀ y, (c1Φ TTouch.row TTouch.ok tIds [[.int .i64 t.no, .int .i64 t.at_, .str t.source, .sl (TId.rows t.ids), .sl (TField.rows t.fields)]]).post [] y = (y = .d (.int .i64 (tIds t))) := c1_post (row := TTouch.row) TTouch.inj t
    have q2 : (c1Φ TTouch.row TTouch.ok tFields [[.int .i64 t.no, .int .i64 t.at_, .str t.source, .sl (TId.rows t.ids), .sl (TField.rows t.fields)]]).pre [] = t.ok := c1_pre (row := TTouch.row) TTouch.inj t
    have p2 : ∀ y, (c1Φ TTouch.row TTouch.ok tFields [[.int .i64 t.no, .int .i64 t.at_, .str t.source, .sl (TId.rows t.ids), .sl (TField.rows t.fields)]]).post [] y = (y = .d (.int .i64 (tFields t))) := c1_post (row := TTouch.row) TTouch.inj t
    simp only [go_sem, h.hP, List.cons_append, List.nil_append, Meets_e, Below_e, Prod.exists, exists_eq, exists_eq_left, exists_eq_left', exists_eq_right, exists_eq_right', exists_and_left, exists_and_right, Ob.arr.injEq, AV.own.injEq, AV.fv.injEq, touchS_q, touchS_p, touchS_c, touchS_f, strB_q, strB_p, strB_c, strB_f, inS_q, inS_p, inS_c, inS_f, q1, p1, q2, p2, TTouch.row, TId.len, DV.d.injEq, D.int.injEq, Tryz.ntmps37, Nat.reduceEqDiff, reduceCtorEq, Nat.reduceMul, Nat.reduceAdd, Nat.reduceSub, Nat.reduceDiv, Nat.reduceMod, Nat.reduceLeDiff, Nat.reduceLT, Nat.reduceBNe, Nat.reduceBEq, reduceIte, Int.reduceLE, Int.reduceLT, Int.reduceToNat, Int.reduceNeg, Int.reduceAdd, Int.reduceSub, Int.reduceMul, Int.reduceEq]
    obtain ⟨o1, o2, o3, o4, o5⟩ := id h1
    unfold okS at o3
    have t1 : inB t.no 1 1000000 = false ∨ inB t.at_ 0 4321439 = false → touchF t b = 1 := fun c => if_pos c
    have t2 : inB t.no 1 1000000 = true → inB t.at_ 0 4321439 = true → touchF t b = if t.no ≤ b then 7 else if keyB t.source = false then 5 else if (t.ids.length : Int) = 0 then 3 else if 10 < (t.ids.length : Int) then 2 else orE (idsF t.ids) (fieldsF t.fields) := fun c d => if_neg fun q => q.elim (ne_ft c) (ne_ft d)
    refine ⟨fun c1 => ⟨fun c2 => (t1 (.inr c2)).symm, fun c2 => ?_⟩, fun c1 => (t1 (.inl c1)).symm⟩
    rw [t2 c1 c2]
    refine ⟨fun c3 => (if_pos c3).symm, fun c3 => ?_⟩
    rw [if_neg c3]
    refine ⟨by omega, fun c4 => (if_pos c4).symm, fun c4 => ?_⟩
    rw [if_neg (ne_ft c4)]
    refine ⟨fun c5 => (if_pos c5).symm, fun c5 => ?_⟩
    rw [if_neg c5]
    refine ⟨fun c6 => (if_pos c6).symm, fun c6 => ?_⟩
    rw [if_neg c6]
    exact ⟨h1, fun c7 => (orE_l c7).symm, fun c7 => ⟨h1, fun c8 => (orE_r c7).symm, fun c8 => ((orE_r c7).trans c8).symm⟩⟩
/-! ### Touches -/
theorem touchS_q2 (t : TTouch) (b : Int) : touchS.pre [.dv (.ag [.int .i64 t.no, .int .i64 t.at_, .str t.source, .sl (TId.rows t.ids), .sl (TField.rows t.fields)]), .i b] = t.ok := touchS_q t b
theorem touchS_p2 (t : TTouch) (b : Int) : touchS.post [.dv (.ag [.int .i64 t.no, .int .i64 t.at_, .str t.source, .sl (TId.rows t.ids), .sl (TField.rows t.fields)]), .i b] = fun y => y = .i (touchF t b) := touchS_p t b
def prvNo (l : List TTouch) (i : Nat) : Int := if i = 0 then 0 else (l.getD (i - 1) TTouch.z).no
def tchE (l : List TTouch) (i : Nat) : Int := touchF (l.getD i TTouch.z) (prvNo l i)
def touchesF (l : List TTouch) : Int := if 2000 < (l.length : Int) then 2 else firstI l.length (tchE l)
def touchesS  : Spec where
  pre xs := ∃ (l : List TTouch), xs = [.sl (TTouch.rows l)] ∧ (okL TTouch.ok l)
  post xs y := ∃ (l : List TTouch), xs = [.sl (TTouch.rows l)] ∧ y = .i (touchesF l)
  cost _ := 0
  fresh := true
theorem touchesS_c  (xs : List AV) : (touchesS).cost xs = 0 := nr rfl
theorem touchesS_f  : (touchesS).fresh = true := nr rfl
theorem touchesS_q  (l : List TTouch) : (touchesS).pre [.sl (TTouch.rows l)] = (okL TTouch.ok l) := propext ⟨fun h => by
  have h' : ∃ (l' : List TTouch), ([.sl (TTouch.rows l)] : List AV) = [.sl (TTouch.rows l')] ∧ (okL TTouch.ok l') := h
  obtain ⟨l', e, h⟩ := h'
  simp only [List.cons.injEq, AV.dv.injEq, AV.dp.injEq, AV.fv.injEq, DV.d.injEq, DV.ag.injEq, D.int.injEq, D.str.injEq, D.bool.injEq, D.sl.injEq, true_and, and_true, intsDi_inj, rowsT_inj, rowsKi_inj, TTouch.row_inj, TTouch.rows_inj] at e
  obtain rfl := e
  exact h, fun h => ⟨l, rfl, h⟩⟩
theorem touchesS_p  (l : List TTouch) : (touchesS).post [.sl (TTouch.rows l)] = fun y => y = .i (touchesF l) := funext fun y => propext ⟨fun h => by
  have h' : ∃ (l' : List TTouch), ([.sl (TTouch.rows l)] : List AV) = [.sl (TTouch.rows l')] ∧ y = .i (touchesF l') := h
  obtain ⟨l', e, h⟩ := h'
  simp only [List.cons.injEq, AV.dv.injEq, AV.dp.injEq, AV.fv.injEq, DV.d.injEq, DV.ag.injEq, D.int.injEq, D.str.injEq, D.bool.injEq, D.sl.injEq, true_and, and_true, intsDi_inj, rowsT_inj, rowsKi_inj, TTouch.row_inj, TTouch.rows_inj] at e
  obtain rfl := e
  exact h, fun h => ⟨l, rfl, h⟩⟩
theorem prvNo_next (l : List TTouch) {i : Int} (h : 0 ≤ i) : prvNo l (i + 1).toNat = (l.getD i.toNat TTouch.z).no := by
  unfold prvNo
  rw [if_neg (by omega), show (i + 1).toNat - 1 = i.toNat by omega]
set_option maxHeartbeats 4000000 in
theorem Check_ctr {cx : Cx} (h : Seat cx) (hU : Utf8 cx) (hM : MaxL cx) : Ctr cx 9 touchesS := by
  refine ctr_of (fn := Tryz.f9) (l := [.tmp 2]) (envL [(36, touchS)]) [0, 2, 3, 5, 6, 9, 10, 11, 12, 13, 20] [] [] (envL_cons (checkTouch_ctr h hU hM) (env0 h.hP)) ?_ (by rw [h.hP]; exact Tryz.func9) rfl (by kernel_rfl) rfl ?_ ?_
  · rw [h.hP]; exact ⟨_, Tryz.func9, by kernel_rfl, by kernel_rfl⟩
  · rintro xs ⟨l, rfl, h1⟩; exact ⟨_, l, rfl, rfl⟩
  · rintro xs ⟨l, rfl, h1⟩
    refine ⟨by rw [Tryz.ntmps9]; simp, ?_⟩
    simp only [go_sem, h.hP, List.cons_append, List.nil_append, Meets_e, Below_e, Prod.exists, exists_eq, exists_eq_left, exists_eq_left', exists_eq_right, exists_eq_right', exists_and_left, exists_and_right, Ob.arr.injEq, AV.own.injEq, AV.fv.injEq, touchesS_q, touchesS_p, touchesS_c, touchesS_f, TTouch.len, Tryz.ntmps9, Nat.reduceEqDiff, reduceCtorEq, Nat.reduceMul, Nat.reduceAdd, Nat.reduceSub, Nat.reduceDiv, Nat.reduceMod, Nat.reduceLeDiff, Nat.reduceLT, Nat.reduceBNe, Nat.reduceBEq, reduceIte, Int.reduceLE, Int.reduceLT, Int.reduceToNat, Int.reduceNeg, Int.reduceAdd, Int.reduceSub, Int.reduceMul, Int.reduceEq]
    refine ⟨fun c => (if_pos c).symm, fun c => ?_⟩
    have hc : touchesF l = firstI l.length (tchE l) := if_neg c
    rw [hc]
    refine vc_loopS (Int × Int) (fun (x : Int × Int) => match x with | (i, p) => [(12, .i i), (3, .i p)]) [] (fun (x : Int × Int) => match x with | (i, p) => []) (fun (x : Int × Int) => match x with | (i, p) => []) (fun (x : Int × Int) => match x with | (i, p) => 0) (fun (x : Int × Int) => match x with | (i, p) => Rounds l.length (tchE l) i ∧ p = prvNo l i.toNat) (fun (x : Int × Int) => match x with | (i, p) => (l.length - i).toNat) [] ?_ ?_
    · simp only [go_sem, h.hP, List.cons_append, List.nil_append, Meets_e, Below_e, Prod.exists, exists_eq, exists_eq_left, exists_eq_left', exists_eq_right, exists_eq_right', exists_and_left, exists_and_right, Ob.arr.injEq, AV.own.injEq, AV.fv.injEq, Tryz.ntmps9, Nat.reduceEqDiff, reduceCtorEq, Nat.reduceMul, Nat.reduceAdd, Nat.reduceSub, Nat.reduceDiv, Nat.reduceMod, Nat.reduceLeDiff, Nat.reduceLT, Nat.reduceBNe, Nat.reduceBEq, reduceIte, Int.reduceLE, Int.reduceLT, Int.reduceToNat, Int.reduceNeg, Int.reduceAdd, Int.reduceSub, Int.reduceMul, Int.reduceEq]
      exact ⟨Rounds.start, rfl⟩
    · rintro ⟨i, p⟩ ⟨hr, rfl⟩
      obtain ⟨hi, hS, hM', hE, hN⟩ := hr.use (by have := h1.1; omega)
      have ho : (l.getD i.toNat TTouch.z).ok := okL_get h1 TTouch.z_ok _
      simp only [go_sem, h.hP, List.cons_append, List.nil_append, Meets_e, Below_e, Prod.exists, exists_eq, exists_eq_left, exists_eq_left', exists_eq_right, exists_eq_right', exists_and_left, exists_and_right, Ob.arr.injEq, AV.own.injEq, AV.fv.injEq, touchesS_q, touchesS_p, touchesS_c, touchesS_f, touchS_q, touchS_p, touchS_c, touchS_f, TTouch.len, TTouch.get, touchS_q2, touchS_p2, Tryz.ntmps9, Nat.reduceEqDiff, reduceCtorEq, Nat.reduceMul, Nat.reduceAdd, Nat.reduceSub, Nat.reduceDiv, Nat.reduceMod, Nat.reduceLeDiff, Nat.reduceLT, Nat.reduceBNe, Nat.reduceBEq, reduceIte, Int.reduceLE, Int.reduceLT, Int.reduceToNat, Int.reduceNeg, Int.reduceAdd, Int.reduceSub, Int.reduceMul, Int.reduceEq]
      refine ⟨fun a => ⟨hi, a, ho, fun b => (hE _ a rfl b).symm, fun b => ⟨hS a b, ?_, hM' a⟩⟩, fun a => (hN a).symm⟩
      rw [i64w (by omega) (by have := h1.1; omega), prvNo_next l hi]
set_option maxHeartbeats 4000000 in
theorem TouchesFault_ctr {cx : Cx} (h : Seat cx) (hU : Utf8 cx) (hM : MaxL cx) : Ctr cx 10 touchesS := by
  refine ctr_of (fn := Tryz.f10) (l := [.tmp 2]) (envL [(37, touchS)]) [0, 2, 3, 5, 6, 9, 10, 11, 12, 13, 20] [] [] (envL_cons (touchFault_ctr h hU hM) (env0 h.hP)) ?_ (by rw [h.hP]; exact Tryz.func10) rfl (by kernel_rfl) rfl ?_ ?_
  · rw [h.hP]; exact ⟨_, Tryz.func10, by kernel_rfl, by kernel_rfl⟩
  · rintro xs ⟨l, rfl, h1⟩; exact ⟨_, l, rfl, rfl⟩
  · rintro xs ⟨l, rfl, h1⟩
    refine ⟨by rw [Tryz.ntmps10]; simp, ?_⟩
    simp only [go_sem, h.hP, List.cons_append, List.nil_append, Meets_e, Below_e, Prod.exists, exists_eq, exists_eq_left, exists_eq_left', exists_eq_right, exists_eq_right', exists_and_left, exists_and_right, Ob.arr.injEq, AV.own.injEq, AV.fv.injEq, touchesS_q, touchesS_p, touchesS_c, touchesS_f, TTouch.len, Tryz.ntmps10, Nat.reduceEqDiff, reduceCtorEq, Nat.reduceMul, Nat.reduceAdd, Nat.reduceSub, Nat.reduceDiv, Nat.reduceMod, Nat.reduceLeDiff, Nat.reduceLT, Nat.reduceBNe, Nat.reduceBEq, reduceIte, Int.reduceLE, Int.reduceLT, Int.reduceToNat, Int.reduceNeg, Int.reduceAdd, Int.reduceSub, Int.reduceMul, Int.reduceEq]
    refine ⟨fun c => (if_pos c).symm, fun c => ?_⟩
    have hc : touchesF l = firstI l.length (tchE l) := if_neg c
    rw [hc]
    refine vc_loopS (Int × Int) (fun (x : Int × Int) => match x with | (i, p) => [(12, .i i), (3, .i p)]) [] (fun (x : Int × Int) => match x with | (i, p) => []) (fun (x : Int × Int) => match x with | (i, p) => []) (fun (x : Int × Int) => match x with | (i, p) => 0) (fun (x : Int × Int) => match x with | (i, p) => Rounds l.length (tchE l) i ∧ p = prvNo l i.toNat) (fun (x : Int × Int) => match x with | (i, p) => (l.length - i).toNat) [] ?_ ?_
    · simp only [go_sem, h.hP, List.cons_append, List.nil_append, Meets_e, Below_e, Prod.exists, exists_eq, exists_eq_left, exists_eq_left', exists_eq_right, exists_eq_right', exists_and_left, exists_and_right, Ob.arr.injEq, AV.own.injEq, AV.fv.injEq, Tryz.ntmps10, Nat.reduceEqDiff, reduceCtorEq, Nat.reduceMul, Nat.reduceAdd, Nat.reduceSub, Nat.reduceDiv, Nat.reduceMod, Nat.reduceLeDiff, Nat.reduceLT, Nat.reduceBNe, Nat.reduceBEq, reduceIte, Int.reduceLE, Int.reduceLT, Int.reduceToNat, Int.reduceNeg, Int.reduceAdd, Int.reduceSub, Int.reduceMul, Int.reduceEq]
      exact ⟨Rounds.start, rfl⟩
    · rintro ⟨i, p⟩ ⟨hr, rfl⟩
      obtain ⟨hi, hS, hM', hE, hN⟩ := hr.use (by have := h1.1; omega)
      have ho : (l.getD i.toNat TTouch.z).ok := okL_get h1 TTouch.z_ok _
      simp only [go_sem, h.hP, List.cons_append, List.nil_append, Meets_e, Below_e, Prod.exists, exists_eq, exists_eq_left, exists_eq_left', exists_eq_right, exists_eq_right', exists_and_left, exists_and_right, Ob.arr.injEq, AV.own.injEq, AV.fv.injEq, touchesS_q, touchesS_p, touchesS_c, touchesS_f, touchS_q, touchS_p, touchS_c, touchS_f, TTouch.len, TTouch.get, touchS_q2, touchS_p2, Tryz.ntmps10, Nat.reduceEqDiff, reduceCtorEq, Nat.reduceMul, Nat.reduceAdd, Nat.reduceSub, Nat.reduceDiv, Nat.reduceMod, Nat.reduceLeDiff, Nat.reduceLT, Nat.reduceBNe, Nat.reduceBEq, reduceIte, Int.reduceLE, Int.reduceLT, Int.reduceToNat, Int.reduceNeg, Int.reduceAdd, Int.reduceSub, Int.reduceMul, Int.reduceEq]
      refine ⟨fun a => ⟨hi, a, ho, fun b => (hE _ a rfl b).symm, fun b => ⟨hS a b, ?_, hM' a⟩⟩, fun a => (hN a).symm⟩
      rw [i64w (by omega) (by have := h1.1; omega), prvNo_next l hi]
end Go.Avc

/- Rules of joining: what is wrong with them, by the program and by the reference. No condition. -/
set_option linter.unusedVariables false
set_option linter.unusedSimpArgs false
set_option maxRecDepth 100000
namespace Go.Avc
open Go Go.Proofs

/-! ### Sources -/
noncomputable def srcE (l : List ByteArray) (i : Nat) : Int := if keyB (l.getD i ⟨#[]⟩) = false then 5 else if conE (l.getD i ⟨#[]⟩) (l.take i) = true then 6 else 0
noncomputable def sourcesF (s : TSurvival) : Int := if 0 < (s.sources.length : Int) ∧ ¬ s.how = 5 then 3 else if 20 < (s.sources.length : Int) then 2 else firstI s.sources.length (srcE s.sources)
def sourcesS  : Spec where
  pre xs := ∃ (s : TSurvival), xs = [.dv (.ag s.row)] ∧ (s.ok)
  post xs y := ∃ (s : TSurvival), xs = [.dv (.ag s.row)] ∧ y = .i (sourcesF s)
  cost _ := 0
  fresh := true
theorem sourcesS_c  (xs : List AV) : (sourcesS).cost xs = 0 := nr rfl
theorem sourcesS_f  : (sourcesS).fresh = true := nr rfl
theorem sourcesS_q  (s : TSurvival) : (sourcesS).pre [.dv (.ag [.str s.name, .int .i64 s.how, .sl (rowsT s.sources)])] = (s.ok) := propext ⟨fun h => by
  have h' : ∃ (s' : TSurvival), ([.dv (.ag s.row)] : List AV) = [.dv (.ag s'.row)] ∧ (s'.ok) := h
  obtain ⟨s', e, h⟩ := h'
  simp only [List.cons.injEq, AV.dv.injEq, AV.dp.injEq, AV.fv.injEq, DV.d.injEq, DV.ag.injEq, D.int.injEq, D.str.injEq, D.bool.injEq, D.sl.injEq, true_and, and_true, intsDi_inj, rowsT_inj, rowsKi_inj, TSurvival.row_inj, TSurvival.rows_inj] at e
  obtain rfl := e
  exact h, fun h => ⟨s, rfl, h⟩⟩
theorem sourcesS_p  (s : TSurvival) : (sourcesS).post [.dv (.ag [.str s.name, .int .i64 s.how, .sl (rowsT s.sources)])] = fun y => y = .i (sourcesF s) := funext fun y => propext ⟨fun h => by
  have h' : ∃ (s' : TSurvival), ([.dv (.ag s.row)] : List AV) = [.dv (.ag s'.row)] ∧ y = .i (sourcesF s') := h
  obtain ⟨s', e, h⟩ := h'
  simp only [List.cons.injEq, AV.dv.injEq, AV.dp.injEq, AV.fv.injEq, DV.d.injEq, DV.ag.injEq, D.int.injEq, D.str.injEq, D.bool.injEq, D.sl.injEq, true_and, and_true, intsDi_inj, rowsT_inj, rowsKi_inj, TSurvival.row_inj, TSurvival.rows_inj] at e
  obtain rfl := e
  exact h, fun h => ⟨s, rfl, h⟩⟩
theorem mem_take {l : List ByteArray} {x : ByteArray} {n : Nat} (hn : n ≤ l.length) : x ∈ l.take n ↔ ∃ k : Nat, k < n ∧ l.getD k ⟨#[]⟩ = x := by
  rw [List.mem_iff_getElem]
  constructor
  · rintro ⟨k, hk, rfl⟩
    rw [List.length_take] at hk
    refine ⟨k, by omega, ?_⟩
    rw [List.getElem_take, List.getD_eq_getElem?_getD, List.getElem?_eq_getElem (by omega)]
    rfl
  · rintro ⟨k, hk, rfl⟩
    refine ⟨k, by rw [List.length_take]; omega, ?_⟩
    rw [List.getElem_take, List.getD_eq_getElem?_getD, List.getElem?_eq_getElem (by omega)]
    rfl
theorem con_take {l : List ByteArray} {x : ByteArray} {n : Nat} (hn : n ≤ l.length) : (conE x (l.take n) = true) = ∃ k : Nat, k < n ∧ l.getD k ⟨#[]⟩ = x := (conE_iff _ _).trans (propext (mem_take hn))
theorem sourcesS_q2 (s : TSurvival) : sourcesS.pre [.dv (.ag [.str s.name, .int .i64 s.how, .sl (rowsT s.sources)])] = s.ok := sourcesS_q s
theorem sourcesS_p2 (s : TSurvival) : sourcesS.post [.dv (.ag [.str s.name, .int .i64 s.how, .sl (rowsT s.sources)])] = fun y => y = .i (sourcesF s) := sourcesS_p s
set_option maxHeartbeats 4000000 in
theorem checkSources_ctr {cx : Cx} (h : Seat cx) : Ctr cx 81 sourcesS := by
  refine ctr_of (fn := Tryz.f81) (l := [.tmp 2]) (envL [(74, (strB keyB))]) [0, 1, 2, 3, 4, 6, 7, 17, 23, 24, 25, 26, 32, 36, 37, 38, 39, 44] [5] [] (envL_cons (IsKey_ctr h) (env0 h.hP)) ?_ (by rw [h.hP]; exact Tryz.func81) rfl (by kernel_rfl) rfl ?_ ?_
  · rw [h.hP]; exact ⟨_, Tryz.func81, by kernel_rfl, by kernel_rfl⟩
  · rintro xs ⟨s, rfl, h1⟩; exact ⟨_, s, rfl, rfl⟩
  · rintro xs ⟨s, rfl, h1⟩
    refine ⟨by rw [Tryz.ntmps81]; simp, ?_⟩
    simp only [go_sem, h.hP, List.cons_append, List.nil_append, Meets_e, Below_e, Prod.exists, exists_eq, exists_eq_left, exists_eq_left', exists_eq_right, exists_eq_right', exists_and_left, exists_and_right, Ob.arr.injEq, AV.own.injEq, AV.fv.injEq, sourcesS_q, sourcesS_p, sourcesS_c, sourcesS_f, strB_q, strB_p, strB_c, strB_f, TSurvival.row, rowsT_len, Tryz.ntmps81, Nat.reduceEqDiff, reduceCtorEq, Nat.reduceMul, Nat.reduceAdd, Nat.reduceSub, Nat.reduceDiv, Nat.reduceMod, Nat.reduceLeDiff, Nat.reduceLT, Nat.reduceBNe, Nat.reduceBEq, reduceIte, Int.reduceLE, Int.reduceLT, Int.reduceToNat, Int.reduceNeg, Int.reduceAdd, Int.reduceSub, Int.reduceMul, Int.reduceEq]
    obtain ⟨o1, o2, o3⟩ := id h1
    have s1 : 0 < (s.sources.length : Int) → ¬ s.how = 5 → sourcesF s = 3 := fun a b => if_pos ⟨a, b⟩
    have s2 : (0 < (s.sources.length : Int) → s.how = 5) → sourcesF s = if 20 < (s.sources.length : Int) then 2 else firstI s.sources.length (srcE s.sources) := fun a => if_neg fun q => q.2 (a q.1)
    refine vc_cutS (Unit) (fun (u : Unit) => [(7, .un), (17, .un)]) [1] (fun (u : Unit) => []) (fun (u : Unit) => []) (fun (u : Unit) => 0) (fun (u : Unit) => ¬ 20 < (s.sources.length : Int) ∧ sourcesF s = firstI s.sources.length (srcE s.sources)) [] ?_ ?_ ?_
    · rfl
    · simp only [go_sem, h.hP, List.cons_append, List.nil_append, Meets_e, Below_e, Prod.exists, exists_eq, exists_eq_left, exists_eq_left', exists_eq_right, exists_eq_right', exists_and_left, exists_and_right, Ob.arr.injEq, AV.own.injEq, AV.fv.injEq, sourcesS_q, sourcesS_p, sourcesS_c, sourcesS_f, strB_q, strB_p, strB_c, strB_f, TSurvival.row, rowsT_len, Tryz.ntmps81, Nat.reduceEqDiff, reduceCtorEq, Nat.reduceMul, Nat.reduceAdd, Nat.reduceSub, Nat.reduceDiv, Nat.reduceMod, Nat.reduceLeDiff, Nat.reduceLT, Nat.reduceBNe, Nat.reduceBEq, reduceIte, Int.reduceLE, Int.reduceLT, Int.reduceToNat, Int.reduceNeg, Int.reduceAdd, Int.reduceSub, Int.reduceMul, Int.reduceEq]
      refine ⟨fun a => ⟨fun b => (s1 a b).symm, fun b => ?_⟩, fun a => ?_⟩
      · have s3 := s2 fun _ => b
        exact ⟨fun c => by rw [s3, if_pos c], fun c => ⟨c, by rw [s3, if_neg c]⟩⟩
      · have s3 := s2 fun q => absurd q a
        exact ⟨fun c => by rw [s3, if_pos c], fun c => ⟨c, by rw [s3, if_neg c]⟩⟩
    · rintro ⟨⟩ ⟨d1, d2⟩
      simp only [go_sem, h.hP, List.cons_append, List.nil_append, Meets_e, Below_e, Prod.exists, exists_eq, exists_eq_left, exists_eq_left', exists_eq_right, exists_eq_right', exists_and_left, exists_and_right, Ob.arr.injEq, AV.own.injEq, AV.fv.injEq, sourcesS_q, sourcesS_p, sourcesS_c, sourcesS_f, TSurvival.row, rowsT_len, Tryz.ntmps81, Nat.reduceEqDiff, reduceCtorEq, Nat.reduceMul, Nat.reduceAdd, Nat.reduceSub, Nat.reduceDiv, Nat.reduceMod, Nat.reduceLeDiff, Nat.reduceLT, Nat.reduceBNe, Nat.reduceBEq, reduceIte, Int.reduceLE, Int.reduceLT, Int.reduceToNat, Int.reduceNeg, Int.reduceAdd, Int.reduceSub, Int.reduceMul, Int.reduceEq]
      refine vc_loopS (Int) (fun (i : Int) => [(25, .i i)]) [1] (fun (i : Int) => []) (fun (i : Int) => []) (fun (i : Int) => 0) (fun (i : Int) => Rounds s.sources.length (srcE s.sources) i) (fun (i : Int) => (s.sources.length - i).toNat) [] ?_ ?_
      · simp only [go_sem, h.hP, List.cons_append, List.nil_append, Meets_e, Below_e, Prod.exists, exists_eq, exists_eq_left, exists_eq_left', exists_eq_right, exists_eq_right', exists_and_left, exists_and_right, Ob.arr.injEq, AV.own.injEq, AV.fv.injEq, Tryz.ntmps81, Nat.reduceEqDiff, reduceCtorEq, Nat.reduceMul, Nat.reduceAdd, Nat.reduceSub, Nat.reduceDiv, Nat.reduceMod, Nat.reduceLeDiff, Nat.reduceLT, Nat.reduceBNe, Nat.reduceBEq, reduceIte, Int.reduceLE, Int.reduceLT, Int.reduceToNat, Int.reduceNeg, Int.reduceAdd, Int.reduceSub, Int.reduceMul, Int.reduceEq]
        exact Rounds.start
      · rintro i hr
        obtain ⟨hi, hS, hM, hE, hN⟩ := hr.use (by have := o3.1; omega)
        simp only [go_sem, h.hP, List.cons_append, List.nil_append, Meets_e, Below_e, Prod.exists, exists_eq, exists_eq_left, exists_eq_left', exists_eq_right, exists_eq_right', exists_and_left, exists_and_right, Ob.arr.injEq, AV.own.injEq, AV.fv.injEq, sourcesS_q, sourcesS_p, sourcesS_c, sourcesS_f, strB_q, strB_p, strB_c, strB_f, TSurvival.row, rowsT_len, rowsT_get, rowsT_take, rowsT_inj, Tryz.ntmps81, Nat.reduceEqDiff, reduceCtorEq, Nat.reduceMul, Nat.reduceAdd, Nat.reduceSub, Nat.reduceDiv, Nat.reduceMod, Nat.reduceLeDiff, Nat.reduceLT, Nat.reduceBNe, Nat.reduceBEq, reduceIte, Int.reduceLE, Int.reduceLT, Int.reduceToNat, Int.reduceNeg, Int.reduceAdd, Int.reduceSub, Int.reduceMul, Int.reduceEq]
        have hk : (s.sources.getD i.toNat ⟨#[]⟩).size ≤ 1073741824 := okL_get o3 okS_z _
        have hl := o3.1
        refine ⟨fun c => ⟨hi, c, by omega, fun b => by rw [d2]; exact (hE 5 c (if_pos b) (by decide)).symm, fun b => ⟨hi, by omega, fun x hx => by (obtain ⟨y, _, rfl⟩ := List.mem_map.1 hx; rfl), ?_⟩⟩, fun c => by rw [d2]; exact (hN c).symm⟩
        have hct := con_take (l := s.sources) (x := s.sources.getD i.toNat ⟨#[]⟩) (n := i.toNat) (by omega)
        have e6 : (∃ k : Nat, k < i.toNat ∧ s.sources.getD k ⟨#[]⟩ = s.sources.getD i.toNat ⟨#[]⟩) → srcE s.sources i.toNat = 6 := fun q => (if_neg (ne_ft b)).trans (if_pos (cast hct.symm q))
        have e0 : ¬ (∃ k : Nat, k < i.toNat ∧ s.sources.getD k ⟨#[]⟩ = s.sources.getD i.toNat ⟨#[]⟩) → srcE s.sources i.toNat = 0 := fun q => (if_neg (ne_ft b)).trans (if_neg fun z => q (cast hct z))
        clear hct
        refine vc_loopS (Int) (fun (j : Int) => [(38, .i j)]) [1] (fun (j : Int) => []) (fun (j : Int) => []) (fun (j : Int) => 0) (fun (j : Int) => 0 ≤ j ∧ j ≤ i ∧ ∀ k : Nat, (k : Int) < j → ¬ s.sources.getD k ⟨#[]⟩ = s.sources.getD i.toNat ⟨#[]⟩) (fun (j : Int) => (i - j).toNat) [] ?_ ?_
        · simp only [go_sem, h.hP, List.cons_append, List.nil_append, Meets_e, Below_e, Prod.exists, exists_eq, exists_eq_left, exists_eq_left', exists_eq_right, exists_eq_right', exists_and_left, exists_and_right, Ob.arr.injEq, AV.own.injEq, AV.fv.injEq, Tryz.ntmps81, Nat.reduceEqDiff, reduceCtorEq, Nat.reduceMul, Nat.reduceAdd, Nat.reduceSub, Nat.reduceDiv, Nat.reduceMod, Nat.reduceLeDiff, Nat.reduceLT, Nat.reduceBNe, Nat.reduceBEq, reduceIte, Int.reduceLE, Int.reduceLT, Int.reduceToNat, Int.reduceNeg, Int.reduceAdd, Int.reduceSub, Int.reduceMul, Int.reduceEq]
          exact ⟨hi, fun k hk => by omega⟩
        · rintro j ⟨q1, q2, q3⟩
          have hg : j < i → (s.sources.take i.toNat).getD j.toNat ⟨#[]⟩ = s.sources.getD j.toNat ⟨#[]⟩ := fun q => by
            rw [List.getD_eq_getElem?_getD, List.getD_eq_getElem?_getD, List.getElem?_take, if_pos (by omega)]
          have ht : (s.sources.take i.toNat).length = i.toNat := by rw [List.length_take]; omega
          simp only [go_sem, h.hP, List.cons_append, List.nil_append, Meets_e, Below_e, Prod.exists, exists_eq, exists_eq_left, exists_eq_left', exists_eq_right, exists_eq_right', exists_and_left, exists_and_right, Ob.arr.injEq, AV.own.injEq, AV.fv.injEq, sourcesS_q, sourcesS_p, sourcesS_c, sourcesS_f, TSurvival.row, rowsT_len, rowsT_get, rowsT_take, rowsT_inj, ht, Tryz.ntmps81, Nat.reduceEqDiff, reduceCtorEq, Nat.reduceMul, Nat.reduceAdd, Nat.reduceSub, Nat.reduceDiv, Nat.reduceMod, Nat.reduceLeDiff, Nat.reduceLT, Nat.reduceBNe, Nat.reduceBEq, reduceIte, Int.reduceLE, Int.reduceLT, Int.reduceToNat, Int.reduceNeg, Int.reduceAdd, Int.reduceSub, Int.reduceMul, Int.reduceEq]
          have hw : j < i → IntKind.i64.wrap (j + 1) = j + 1 := fun q => i64w (by omega) (by omega)
          refine ⟨fun q => ⟨q1, q, fun w => ?_, fun w => ?_⟩, fun q => ?_⟩
          · rw [hg (by omega)] at w
            rw [d2]
            exact (hE 6 c (e6 ⟨j.toNat, by omega, w⟩) (by decide)).symm
          · rw [hg (by omega)] at w
            rw [hw (by omega)]
            refine ⟨by omega, by omega, fun k hk2 => ?_, by omega⟩
            by_cases hkj : (k : Int) < j
            · exact q3 k hkj
            · obtain rfl : k = j.toNat := by omega
              exact w
          · have hn : ¬ ∃ k : Nat, k < i.toNat ∧ s.sources.getD k ⟨#[]⟩ = s.sources.getD i.toNat ⟨#[]⟩ := fun ⟨k, k1, k2⟩ => q3 k (by omega) k2
            exact ⟨hS c (e0 hn), hM c⟩
/-! ### Survivals -/
def leS (s t : ByteArray) : Prop := Op.bytesLess s.toList t.toList = true ∨ s = t
noncomputable def survE (l : List TSurvival) (i : Nat) : Int := if keyB (l.getD i TSurvival.z).name = false then 5 else if inB (l.getD i TSurvival.z).how 1 7 = false then 4 else if sourcesF (l.getD i TSurvival.z) ≠ 0 then sourcesF (l.getD i TSurvival.z) else
  if 0 < (i : Int) ∧ (Op.bytesLess (l.getD i TSurvival.z).name.toList (l.getD (i - 1) TSurvival.z).name.toList = true ∨ (l.getD i TSurvival.z).name = (l.getD (i - 1) TSurvival.z).name) then 7 else 0
noncomputable def surviveF (l : List TSurvival) : Int := if 30 < (l.length : Int) then 2 else firstI l.length (survE l)
def surviveS  : Spec where
  pre xs := ∃ (l : List TSurvival), xs = [.sl (TSurvival.rows l)] ∧ (okL TSurvival.ok l)
  post xs y := ∃ (l : List TSurvival), xs = [.sl (TSurvival.rows l)] ∧ y = .i (surviveF l)
  cost _ := 0
  fresh := true
theorem surviveS_c  (xs : List AV) : (surviveS).cost xs = 0 := nr rfl
theorem surviveS_f  : (surviveS).fresh = true := nr rfl
theorem surviveS_q  (l : List TSurvival) : (surviveS).pre [.sl (TSurvival.rows l)] = (okL TSurvival.ok l) := propext ⟨fun h => by
  have h' : ∃ (l' : List TSurvival), ([.sl (TSurvival.rows l)] : List AV) = [.sl (TSurvival.rows l')] ∧ (okL TSurvival.ok l') := h
  obtain ⟨l', e, h⟩ := h'
  simp only [List.cons.injEq, AV.dv.injEq, AV.dp.injEq, AV.fv.injEq, DV.d.injEq, DV.ag.injEq, D.int.injEq, D.str.injEq, D.bool.injEq, D.sl.injEq, true_and, and_true, intsDi_inj, rowsT_inj, rowsKi_inj, TSurvival.row_inj, TSurvival.rows_inj] at e
  obtain rfl := e
  exact h, fun h => ⟨l, rfl, h⟩⟩
theorem surviveS_p  (l : List TSurvival) : (surviveS).post [.sl (TSurvival.rows l)] = fun y => y = .i (surviveF l) := funext fun y => propext ⟨fun h => by
  have h' : ∃ (l' : List TSurvival), ([.sl (TSurvival.rows l)] : List AV) = [.sl (TSurvival.rows l')] ∧ y = .i (surviveF l') := h
  obtain ⟨l', e, h⟩ := h'
  simp only [List.cons.injEq, AV.dv.injEq, AV.dp.injEq, AV.fv.injEq, DV.d.injEq, DV.ag.injEq, D.int.injEq, D.str.injEq, D.bool.injEq, D.sl.injEq, true_and, and_true, intsDi_inj, rowsT_inj, rowsKi_inj, TSurvival.row_inj, TSurvival.rows_inj] at e
  obtain rfl := e
  exact h, fun h => ⟨l, rfl, h⟩⟩
set_option maxHeartbeats 4000000 in
theorem checkSurvive_ctr {cx : Cx} (h : Seat cx) : Ctr cx 40 surviveS := by
  refine ctr_of (fn := Tryz.f40) (l := [.tmp 2]) (envL [(74, (strB keyB)), (38, inS), (81, sourcesS)]) [0, 2, 3, 4, 5, 8, 9, 10, 11, 12, 16, 21, 29, 43] [] [] (envL_cons (IsKey_ctr h) (envL_cons (pwithin_ctr h) (envL_cons (checkSources_ctr h) (env0 h.hP)))) ?_ (by rw [h.hP]; exact Tryz.func40) rfl (by kernel_rfl) rfl ?_ ?_
  · rw [h.hP]; exact ⟨_, Tryz.func40, by kernel_rfl, by kernel_rfl⟩
  · rintro xs ⟨l, rfl, h1⟩; exact ⟨_, l, rfl, rfl⟩
  · rintro xs ⟨l, rfl, h1⟩
    refine ⟨by rw [Tryz.ntmps40]; simp, ?_⟩
    simp only [go_sem, h.hP, List.cons_append, List.nil_append, Meets_e, Below_e, Prod.exists, exists_eq, exists_eq_left, exists_eq_left', exists_eq_right, exists_eq_right', exists_and_left, exists_and_right, Ob.arr.injEq, AV.own.injEq, AV.fv.injEq, surviveS_q, surviveS_p, surviveS_c, surviveS_f, TSurvival.len, Tryz.ntmps40, Nat.reduceEqDiff, reduceCtorEq, Nat.reduceMul, Nat.reduceAdd, Nat.reduceSub, Nat.reduceDiv, Nat.reduceMod, Nat.reduceLeDiff, Nat.reduceLT, Nat.reduceBNe, Nat.reduceBEq, reduceIte, Int.reduceLE, Int.reduceLT, Int.reduceToNat, Int.reduceNeg, Int.reduceAdd, Int.reduceSub, Int.reduceMul, Int.reduceEq]
    refine ⟨fun c => (if_pos c).symm, fun c => ?_⟩
    have hc : surviveF l = firstI l.length (survE l) := if_neg c
    rw [hc]
    refine vc_loopS (Int) (fun (i : Int) => [(11, .i i)]) [] (fun (i : Int) => []) (fun (i : Int) => []) (fun (i : Int) => 0) (fun (i : Int) => Rounds l.length (survE l) i) (fun (i : Int) => (l.length - i).toNat) [] ?_ ?_
    · simp only [go_sem, h.hP, List.cons_append, List.nil_append, Meets_e, Below_e, Prod.exists, exists_eq, exists_eq_left, exists_eq_left', exists_eq_right, exists_eq_right', exists_and_left, exists_and_right, Ob.arr.injEq, AV.own.injEq, AV.fv.injEq, Tryz.ntmps40, Nat.reduceEqDiff, reduceCtorEq, Nat.reduceMul, Nat.reduceAdd, Nat.reduceSub, Nat.reduceDiv, Nat.reduceMod, Nat.reduceLeDiff, Nat.reduceLT, Nat.reduceBNe, Nat.reduceBEq, reduceIte, Int.reduceLE, Int.reduceLT, Int.reduceToNat, Int.reduceNeg, Int.reduceAdd, Int.reduceSub, Int.reduceMul, Int.reduceEq]
      exact Rounds.start
    · rintro i hr
      obtain ⟨hi, hS, hM, hE, hN⟩ := hr.use (by have := h1.1; omega)
      have ho : (l.getD i.toNat TSurvival.z).ok := okL_get h1 TSurvival.z_ok _
      simp only [go_sem, h.hP, List.cons_append, List.nil_append, Meets_e, Below_e, Prod.exists, exists_eq, exists_eq_left, exists_eq_left', exists_eq_right, exists_eq_right', exists_and_left, exists_and_right, Ob.arr.injEq, AV.own.injEq, AV.fv.injEq, surviveS_q, surviveS_p, surviveS_c, surviveS_f, strB_q, strB_p, strB_c, strB_f, inS_q, inS_p, inS_c, inS_f, sourcesS_q, sourcesS_p, sourcesS_c, sourcesS_f, TSurvival.len, TSurvival.get, sourcesS_q2, sourcesS_p2, Tryz.ntmps40, Nat.reduceEqDiff, reduceCtorEq, Nat.reduceMul, Nat.reduceAdd, Nat.reduceSub, Nat.reduceDiv, Nat.reduceMod, Nat.reduceLeDiff, Nat.reduceLT, Nat.reduceBNe, Nat.reduceBEq, reduceIte, Int.reduceLE, Int.reduceLT, Int.reduceToNat, Int.reduceNeg, Int.reduceAdd, Int.reduceSub, Int.reduceMul, Int.reduceEq]
      have hl := h1.1
      have hw : 0 < i → i < l.length → IntKind.i64.wrap (i - 1) = i - 1 := fun a b => i64w (by omega) (by omega)
      have e0 : survE l i.toNat = if keyB (l.getD i.toNat TSurvival.z).name = false then 5 else if inB (l.getD i.toNat TSurvival.z).how 1 7 = false then 4 else if sourcesF (l.getD i.toNat TSurvival.z) ≠ 0 then sourcesF (l.getD i.toNat TSurvival.z) else if 0 < i ∧ (Op.bytesLess (l.getD i.toNat TSurvival.z).name.toList (l.getD (i - 1).toNat TSurvival.z).name.toList = true ∨ (l.getD i.toNat TSurvival.z).name = (l.getD (i - 1).toNat TSurvival.z).name) then 7 else 0 := by
        unfold survE
        rw [Int.toNat_of_nonneg hi, show i.toNat - 1 = (i - 1).toNat by omega]
      generalize l.getD i.toNat TSurvival.z = x at *
      have p1 := ho.1
      unfold okS at p1
      refine ⟨fun a => ⟨hi, a, by omega, fun b => (hE 5 a (e0.trans (if_pos b)) (by decide)).symm, fun b => ?_⟩, fun a => (hN a).symm⟩
      have e1 := e0.trans (if_neg (ne_ft b))
      refine ⟨fun c => (hE 4 a (e1.trans (if_pos c)) (by decide)).symm, fun c => ⟨ho, fun d => (hE _ a ((e1.trans (if_neg (ne_ft c))).trans (if_pos d)) d).symm, fun d => ?_⟩⟩
      have e2 := (e1.trans (if_neg (ne_ft c))).trans (if_neg fun q => q d)
      refine ⟨fun f => ?_, fun f => ⟨hS a (e2.trans (if_neg fun q => f q.1)), hM a⟩⟩
      rw [hw f a]
      refine ⟨by omega, by omega, fun e => (hE 7 a (e2.trans (if_pos ⟨f, e⟩)) (by decide)).symm, fun e => ⟨hS a (e2.trans (if_neg fun q => ?_)), hM a⟩⟩
      rw [Bool.or_eq_false_iff, decide_eq_false_iff_not] at e
      exact q.2.elim (ne_tf e.1) e.2
noncomputable def survF (s : TSurvival) (n : ByteArray) : Int := if keyB s.name = false then 5 else if inB s.how 1 7 = false then 4 else if sourcesF s ≠ 0 then sourcesF s else if Op.bytesLess s.name.toList n.toList = true ∨ s.name = n then 7 else 0
def survS  : Spec where
  pre xs := ∃ (s : TSurvival) (n : ByteArray), xs = [.dv (.ag s.row), .str n] ∧ (s.ok)
  post xs y := ∃ (s : TSurvival) (n : ByteArray), xs = [.dv (.ag s.row), .str n] ∧ y = .i (survF s n)
  cost _ := 0
  fresh := true
theorem survS_c  (xs : List AV) : (survS).cost xs = 0 := nr rfl
theorem survS_f  : (survS).fresh = true := nr rfl
theorem survS_q  (s : TSurvival) (n : ByteArray) : (survS).pre [.dv (.ag [.str s.name, .int .i64 s.how, .sl (rowsT s.sources)]), .str n] = (s.ok) := propext ⟨fun h => by
  have h' : ∃ (s' : TSurvival) (n' : ByteArray), ([.dv (.ag s.row), .str n] : List AV) = [.dv (.ag s'.row), .str n'] ∧ (s'.ok) := h
  obtain ⟨s', n', e, h⟩ := h'
  simp only [List.cons.injEq, AV.dv.injEq, AV.dp.injEq, AV.fv.injEq, DV.d.injEq, DV.ag.injEq, D.int.injEq, D.str.injEq, D.bool.injEq, D.sl.injEq, true_and, and_true, intsDi_inj, rowsT_inj, rowsKi_inj, TSurvival.row_inj, TSurvival.rows_inj] at e
  obtain ⟨rfl, rfl⟩ := e
  exact h, fun h => ⟨s, n, rfl, h⟩⟩
theorem survS_p  (s : TSurvival) (n : ByteArray) : (survS).post [.dv (.ag [.str s.name, .int .i64 s.how, .sl (rowsT s.sources)]), .str n] = fun y => y = .i (survF s n) := funext fun y => propext ⟨fun h => by
  have h' : ∃ (s' : TSurvival) (n' : ByteArray), ([.dv (.ag s.row), .str n] : List AV) = [.dv (.ag s'.row), .str n'] ∧ y = .i (survF s' n') := h
  obtain ⟨s', n', e, h⟩ := h'
  simp only [List.cons.injEq, AV.dv.injEq, AV.dp.injEq, AV.fv.injEq, DV.d.injEq, DV.ag.injEq, D.int.injEq, D.str.injEq, D.bool.injEq, D.sl.injEq, true_and, and_true, intsDi_inj, rowsT_inj, rowsKi_inj, TSurvival.row_inj, TSurvival.rows_inj] at e
  obtain ⟨rfl, rfl⟩ := e
  exact h, fun h => ⟨s, n, rfl, h⟩⟩
theorem survS_q2 (s : TSurvival) (n : ByteArray) : survS.pre [.dv (.ag [.str s.name, .int .i64 s.how, .sl (rowsT s.sources)]), .str n] = s.ok := survS_q s n
theorem survS_p2 (s : TSurvival) (n : ByteArray) : survS.post [.dv (.ag [.str s.name, .int .i64 s.how, .sl (rowsT s.sources)]), .str n] = fun y => y = .i (survF s n) := survS_p s n
set_option maxHeartbeats 4000000 in
theorem survivalFault_ctr {cx : Cx} (h : Seat cx) : Ctr cx 43 survS := by
  refine ctr_of (fn := Tryz.f43) (l := [.tmp 4]) (envL [(76, (strB keyB)), (41, inS), (82, con_stringS)]) [0, 1, 2, 4, 5, 6, 7, 12, 17, 27, 33, 34, 35, 36, 42, 48, 53] [9] [] (envL_cons (Key_ctr h) (envL_cons (in_ctr h) (envL_cons (contains_string h) (env0 h.hP)))) ?_ (by rw [h.hP]; exact Tryz.func43) rfl (by kernel_rfl) rfl ?_ ?_
  · rw [h.hP]; exact ⟨_, Tryz.func43, by kernel_rfl, by kernel_rfl⟩
  · rintro xs ⟨s, n, rfl, h1⟩; exact ⟨_, s, n, rfl, rfl⟩
  · rintro xs ⟨s, n, rfl, h1⟩
    refine ⟨by rw [Tryz.ntmps43]; simp, ?_⟩
    simp only [go_sem, h.hP, List.cons_append, List.nil_append, Meets_e, Below_e, Prod.exists, exists_eq, exists_eq_left, exists_eq_left', exists_eq_right, exists_eq_right', exists_and_left, exists_and_right, Ob.arr.injEq, AV.own.injEq, AV.fv.injEq, survS_q, survS_p, survS_c, survS_f, strB_q, strB_p, strB_c, strB_f, inS_q, inS_p, inS_c, inS_f, TSurvival.row, rowsT_len, Tryz.ntmps43, Nat.reduceEqDiff, reduceCtorEq, Nat.reduceMul, Nat.reduceAdd, Nat.reduceSub, Nat.reduceDiv, Nat.reduceMod, Nat.reduceLeDiff, Nat.reduceLT, Nat.reduceBNe, Nat.reduceBEq, reduceIte, Int.reduceLE, Int.reduceLT, Int.reduceToNat, Int.reduceNeg, Int.reduceAdd, Int.reduceSub, Int.reduceMul, Int.reduceEq]
    obtain ⟨o1, o2, o3⟩ := id h1
    have s1 : 0 < (s.sources.length : Int) → ¬ s.how = 5 → sourcesF s = 3 := fun a b => if_pos ⟨a, b⟩
    have s2 : (0 < (s.sources.length : Int) → s.how = 5) → sourcesF s = if 20 < (s.sources.length : Int) then 2 else firstI s.sources.length (srcE s.sources) := fun a => if_neg fun q => q.2 (a q.1)
    have k1 : keyB s.name = false → survF s n = 5 := fun a => if_pos a
    have k2 : keyB s.name = true → inB s.how 1 7 = false → survF s n = 4 := fun a b => (if_neg (ne_ft a)).trans (if_pos b)
    have k3 : keyB s.name = true → inB s.how 1 7 = true → sourcesF s ≠ 0 → survF s n = sourcesF s := fun a b c => (if_neg (ne_ft a)).trans ((if_neg (ne_ft b)).trans (if_pos c))
    have k4 : keyB s.name = true → inB s.how 1 7 = true → sourcesF s = 0 → survF s n = if Op.bytesLess s.name.toList n.toList = true ∨ s.name = n then 7 else 0 := fun a b c => (if_neg (ne_ft a)).trans ((if_neg (ne_ft b)).trans (if_neg fun q => q c))
    refine vc_cutS (Unit) (fun (u : Unit) => [(7, .un), (12, .un), (17, .un), (27, .un)]) [2] (fun (u : Unit) => []) (fun (u : Unit) => []) (fun (u : Unit) => 0) (fun (u : Unit) => keyB s.name = true ∧ inB s.how 1 7 = true ∧ ¬ 20 < (s.sources.length : Int) ∧ sourcesF s = firstI s.sources.length (srcE s.sources)) [] ?_ ?_ ?_
    · rfl
    · simp only [go_sem, h.hP, List.cons_append, List.nil_append, Meets_e, Below_e, Prod.exists, exists_eq, exists_eq_left, exists_eq_left', exists_eq_right, exists_eq_right', exists_and_left, exists_and_right, Ob.arr.injEq, AV.own.injEq, AV.fv.injEq, survS_q, survS_p, survS_c, survS_f, strB_q, strB_p, strB_c, strB_f, inS_q, inS_p, inS_c, inS_f, TSurvival.row, rowsT_len, Tryz.ntmps43, Nat.reduceEqDiff, reduceCtorEq, Nat.reduceMul, Nat.reduceAdd, Nat.reduceSub, Nat.reduceDiv, Nat.reduceMod, Nat.reduceLeDiff, Nat.reduceLT, Nat.reduceBNe, Nat.reduceBEq, reduceIte, Int.reduceLE, Int.reduceLT, Int.reduceToNat, Int.reduceNeg, Int.reduceAdd, Int.reduceSub, Int.reduceMul, Int.reduceEq]
      unfold okS at o1
      refine ⟨by omega, fun a => (k1 a).symm, fun a => ⟨fun b => (k2 a b).symm, fun b => ⟨fun c => ⟨fun d => ?_, fun d => ?_⟩, fun c => ?_⟩⟩⟩
      · have := s1 c d
        rw [k3 a b (by rw [this]; decide), this]
      · have s3 := s2 fun _ => d
        exact ⟨fun e => by rw [k3 a b (by rw [s3, if_pos e]; decide), s3, if_pos e], fun e => ⟨a, b, e, by rw [s3, if_neg e]⟩⟩
      · have s3 := s2 fun q => absurd q c
        exact ⟨fun e => by rw [k3 a b (by rw [s3, if_pos e]; decide), s3, if_pos e], fun e => ⟨a, b, e, by rw [s3, if_neg e]⟩⟩
    · rintro ⟨⟩ ⟨d1, d2, d3, d4⟩
      simp only [go_sem, h.hP, List.cons_append, List.nil_append, Meets_e, Below_e, Prod.exists, exists_eq, exists_eq_left, exists_eq_left', exists_eq_right, exists_eq_right', exists_and_left, exists_and_right, Ob.arr.injEq, AV.own.injEq, AV.fv.injEq, survS_q, survS_p, survS_c, survS_f, TSurvival.row, rowsT_len, Tryz.ntmps43, Nat.reduceEqDiff, reduceCtorEq, Nat.reduceMul, Nat.reduceAdd, Nat.reduceSub, Nat.reduceDiv, Nat.reduceMod, Nat.reduceLeDiff, Nat.reduceLT, Nat.reduceBNe, Nat.reduceBEq, reduceIte, Int.reduceLE, Int.reduceLT, Int.reduceToNat, Int.reduceNeg, Int.reduceAdd, Int.reduceSub, Int.reduceMul, Int.reduceEq]
      refine vc_loopS (Int) (fun (i : Int) => [(35, .i i)]) [2] (fun (i : Int) => []) (fun (i : Int) => []) (fun (i : Int) => 0) (fun (i : Int) => Rounds s.sources.length (srcE s.sources) i) (fun (i : Int) => (s.sources.length - i).toNat) [] ?_ ?_
      · simp only [go_sem, h.hP, List.cons_append, List.nil_append, Meets_e, Below_e, Prod.exists, exists_eq, exists_eq_left, exists_eq_left', exists_eq_right, exists_eq_right', exists_and_left, exists_and_right, Ob.arr.injEq, AV.own.injEq, AV.fv.injEq, Tryz.ntmps43, Nat.reduceEqDiff, reduceCtorEq, Nat.reduceMul, Nat.reduceAdd, Nat.reduceSub, Nat.reduceDiv, Nat.reduceMod, Nat.reduceLeDiff, Nat.reduceLT, Nat.reduceBNe, Nat.reduceBEq, reduceIte, Int.reduceLE, Int.reduceLT, Int.reduceToNat, Int.reduceNeg, Int.reduceAdd, Int.reduceSub, Int.reduceMul, Int.reduceEq]
        exact Rounds.start
      · rintro i hr
        obtain ⟨hi, hS, hM, hE, hN⟩ := hr.use (by have := o3.1; omega)
        simp only [go_sem, h.hP, List.cons_append, List.nil_append, Meets_e, Below_e, Prod.exists, exists_eq, exists_eq_left, exists_eq_left', exists_eq_right, exists_eq_right', exists_and_left, exists_and_right, Ob.arr.injEq, AV.own.injEq, AV.fv.injEq, survS_q, survS_p, survS_c, survS_f, strB_q, strB_p, strB_c, strB_f, con_stringS_q, con_stringS_p, con_stringS_c, con_stringS_f, TSurvival.row, rowsT_len, rowsT_get, rowsT_take, rowsT_inj, rowsT_zlT, Tryz.ntmps43, Nat.reduceEqDiff, reduceCtorEq, Nat.reduceMul, Nat.reduceAdd, Nat.reduceSub, Nat.reduceDiv, Nat.reduceMod, Nat.reduceLeDiff, Nat.reduceLT, Nat.reduceBNe, Nat.reduceBEq, reduceIte, Int.reduceLE, Int.reduceLT, Int.reduceToNat, Int.reduceNeg, Int.reduceAdd, Int.reduceSub, Int.reduceMul, Int.reduceEq]
        have hk : (s.sources.getD i.toNat ⟨#[]⟩).size ≤ 1073741824 := okL_get o3 okS_z _
        have hl := o3.1
        have hz : (s.sources.take i.toNat).length ≤ s.sources.length := List.length_take_le' _ _
        have hE' : ∀ e, i < s.sources.length → srcE s.sources i.toNat = e → e ≠ 0 → e = survF s n := fun e a b c => by
          have := hE e a b c
          rw [k3 d1 d2 (by rw [d4, this]; exact c), d4, this]
        refine ⟨fun c => ⟨hi, c, by omega, fun b => hE' 5 c (if_pos b) (by decide), fun b => ⟨hi, by omega, by omega, fun d => hE' 6 c ((if_neg (ne_ft b)).trans (if_pos d)) (by decide), fun d => ⟨hS c ((if_neg (ne_ft b)).trans (if_neg (ne_tf d))), hM c⟩⟩⟩, fun c => ?_⟩
        have := k4 d1 d2 (d4.trans (hN c))
        refine ⟨fun e => by rw [this, if_pos e], fun e => ?_⟩
        rw [Bool.or_eq_false_iff, decide_eq_false_iff_not] at e
        rw [this, if_neg fun q => q.elim (ne_tf e.1) e.2]
/-! ### Rules -/
def kindE (l : List Int) (i : Nat) : Int := if inB (l.getD i 0) 1 4 = false then 4 else if 0 < (i : Int) ∧ l.getD i 0 ≤ l.getD (i - 1) 0 then 7 else 0
noncomputable def rules2J (r : TJoinRules) : Int := if inB r.most 2 2000 = false then 1 else if 200 < (r.weak.length : Int) then 2 else orE (idsF r.weak) (surviveF r.survive)
noncomputable def rulesJ (r : TJoinRules) : Int := if (r.kinds.length : Int) = 0 then 3 else orE (firstI r.kinds.length (kindE r.kinds)) (rules2J r)
def rulesJS  : Spec where
  pre xs := ∃ (r : TJoinRules), xs = [.dv (.ag r.row)] ∧ (r.ok)
  post xs y := ∃ (r : TJoinRules), xs = [.dv (.ag r.row)] ∧ y = .i (rulesJ r)
  cost _ := 0
  fresh := true
theorem rulesJS_c  (xs : List AV) : (rulesJS).cost xs = 0 := nr rfl
theorem rulesJS_f  : (rulesJS).fresh = true := nr rfl
theorem rulesJS_q  (r : TJoinRules) : (rulesJS).pre [.dv (.ag [.sl (intsD r.kinds), .int .i64 r.most, .sl (TId.rows r.weak), .sl (TSurvival.rows r.survive)])] = (r.ok) := propext ⟨fun h => by
  have h' : ∃ (r' : TJoinRules), ([.dv (.ag r.row)] : List AV) = [.dv (.ag r'.row)] ∧ (r'.ok) := h
  obtain ⟨r', e, h⟩ := h'
  simp only [List.cons.injEq, AV.dv.injEq, AV.dp.injEq, AV.fv.injEq, DV.d.injEq, DV.ag.injEq, D.int.injEq, D.str.injEq, D.bool.injEq, D.sl.injEq, true_and, and_true, intsDi_inj, rowsT_inj, rowsKi_inj, TJoinRules.row_inj, TJoinRules.rows_inj] at e
  obtain rfl := e
  exact h, fun h => ⟨r, rfl, h⟩⟩
theorem rulesJS_p  (r : TJoinRules) : (rulesJS).post [.dv (.ag [.sl (intsD r.kinds), .int .i64 r.most, .sl (TId.rows r.weak), .sl (TSurvival.rows r.survive)])] = fun y => y = .i (rulesJ r) := funext fun y => propext ⟨fun h => by
  have h' : ∃ (r' : TJoinRules), ([.dv (.ag r.row)] : List AV) = [.dv (.ag r'.row)] ∧ y = .i (rulesJ r') := h
  obtain ⟨r', e, h⟩ := h'
  simp only [List.cons.injEq, AV.dv.injEq, AV.dp.injEq, AV.fv.injEq, DV.d.injEq, DV.ag.injEq, D.int.injEq, D.str.injEq, D.bool.injEq, D.sl.injEq, true_and, and_true, intsDi_inj, rowsT_inj, rowsKi_inj, TJoinRules.row_inj, TJoinRules.rows_inj] at e
  obtain rfl := e
  exact h, fun h => ⟨r, rfl, h⟩⟩
set_option maxHeartbeats 8000000 in
theorem CheckRulesJ_ctr {cx : Cx} (h : Seat cx) (hM : MaxL cx) : Ctr cx 11 rulesJS := by
  refine ctr_of (fn := Tryz.f11) (l := [.tmp 2]) (envL [(38, inS), (39, idsS), (40, surviveS)]) [0, 1, 2, 3, 4, 5, 9, 11, 12, 13, 14, 20, 32, 34, 39, 48] [] [] (envL_cons (pwithin_ctr h) (envL_cons (checkIds_ctr h hM) (envL_cons (checkSurvive_ctr h) (env0 h.hP)))) ?_ (by rw [h.hP]; exact Tryz.func11) rfl (by kernel_rfl) rfl ?_ ?_
  · rw [h.hP]; exact ⟨_, Tryz.func11, by kernel_rfl, by kernel_rfl⟩
  · rintro xs ⟨r, rfl, h1⟩; exact ⟨_, r, rfl, rfl⟩
  · rintro xs ⟨r, rfl, h1⟩
    refine ⟨by rw [Tryz.ntmps11]; simp, ?_⟩
    obtain ⟨o1, o2, o3, o4⟩ := id h1
    simp only [go_sem, h.hP, List.cons_append, List.nil_append, Meets_e, Below_e, Prod.exists, exists_eq, exists_eq_left, exists_eq_left', exists_eq_right, exists_eq_right', exists_and_left, exists_and_right, Ob.arr.injEq, AV.own.injEq, AV.fv.injEq, rulesJS_q, rulesJS_p, rulesJS_c, rulesJS_f, TJoinRules.row, intsD_len, Tryz.ntmps11, Nat.reduceEqDiff, reduceCtorEq, Nat.reduceMul, Nat.reduceAdd, Nat.reduceSub, Nat.reduceDiv, Nat.reduceMod, Nat.reduceLeDiff, Nat.reduceLT, Nat.reduceBNe, Nat.reduceBEq, reduceIte, Int.reduceLE, Int.reduceLT, Int.reduceToNat, Int.reduceNeg, Int.reduceAdd, Int.reduceSub, Int.reduceMul, Int.reduceEq]
    refine ⟨fun c => (if_pos c).symm, fun c => ?_⟩
    have hc : rulesJ r = orE (firstI r.kinds.length (kindE r.kinds)) (rules2J r) := if_neg c
    refine vc_loopS (Int) (fun (i : Int) => [(13, .i i)]) [1] (fun (i : Int) => []) (fun (i : Int) => []) (fun (i : Int) => 0) (fun (i : Int) => Rounds r.kinds.length (kindE r.kinds) i) (fun (i : Int) => (r.kinds.length - i).toNat) [] ?_ ?_
    · simp only [go_sem, h.hP, List.cons_append, List.nil_append, Meets_e, Below_e, Prod.exists, exists_eq, exists_eq_left, exists_eq_left', exists_eq_right, exists_eq_right', exists_and_left, exists_and_right, Ob.arr.injEq, AV.own.injEq, AV.fv.injEq, Tryz.ntmps11, Nat.reduceEqDiff, reduceCtorEq, Nat.reduceMul, Nat.reduceAdd, Nat.reduceSub, Nat.reduceDiv, Nat.reduceMod, Nat.reduceLeDiff, Nat.reduceLT, Nat.reduceBNe, Nat.reduceBEq, reduceIte, Int.reduceLE, Int.reduceLT, Int.reduceToNat, Int.reduceNeg, Int.reduceAdd, Int.reduceSub, Int.reduceMul, Int.reduceEq]
      exact Rounds.start
    · rintro i hr
      obtain ⟨hi, hS, hM', hE, hN⟩ := hr.use (by have := o1.1; omega)
      simp only [go_sem, h.hP, List.cons_append, List.nil_append, Meets_e, Below_e, Prod.exists, exists_eq, exists_eq_left, exists_eq_left', exists_eq_right, exists_eq_right', exists_and_left, exists_and_right, Ob.arr.injEq, AV.own.injEq, AV.fv.injEq, rulesJS_q, rulesJS_p, rulesJS_c, rulesJS_f, inS_q, inS_p, inS_c, inS_f, idsS_q, idsS_p, idsS_c, idsS_f, surviveS_q, surviveS_p, surviveS_c, surviveS_f, TJoinRules.row, intsD_len, intsD_get, TId.len, TSurvival.len, Tryz.ntmps11, Nat.reduceEqDiff, reduceCtorEq, Nat.reduceMul, Nat.reduceAdd, Nat.reduceSub, Nat.reduceDiv, Nat.reduceMod, Nat.reduceLeDiff, Nat.reduceLT, Nat.reduceBNe, Nat.reduceBEq, reduceIte, Int.reduceLE, Int.reduceLT, Int.reduceToNat, Int.reduceNeg, Int.reduceAdd, Int.reduceSub, Int.reduceMul, Int.reduceEq]
      have hl := o1.1
      have hw : 0 < i → i < r.kinds.length → IntKind.i64.wrap (i - 1) = i - 1 := fun a b => i64w (by omega) (by omega)
      have hE' : ∀ e, i < r.kinds.length → kindE r.kinds i.toNat = e → e ≠ 0 → e = rulesJ r := fun e a b c => by
        have := hE e a b c
        rw [hc, orE_l (by rw [this]; exact c), this]
      have e0 : kindE r.kinds i.toNat = if inB (r.kinds.getD i.toNat 0) 1 4 = false then 4 else if 0 < i ∧ r.kinds.getD i.toNat 0 ≤ r.kinds.getD (i - 1).toNat 0 then 7 else 0 := by
        unfold kindE
        rw [Int.toNat_of_nonneg hi, show i.toNat - 1 = (i - 1).toNat by omega]
      have e1 : inB (r.kinds.getD i.toNat 0) 1 4 = true → kindE r.kinds i.toNat = if 0 < i ∧ r.kinds.getD i.toNat 0 ≤ r.kinds.getD (i - 1).toNat 0 then 7 else 0 := fun b => e0.trans (if_neg (ne_ft b))
      refine ⟨fun a => ⟨hi, a, fun b => hE' 4 a (e0.trans (if_pos b)) (by decide), fun b => ⟨fun d => ?_, fun d => ⟨hS a ((e1 b).trans (if_neg fun q => d q.1)), hM' a⟩⟩⟩, fun a => ?_⟩
      · rw [hw d a]
        exact ⟨by omega, by omega, fun e => hE' 7 a ((e1 b).trans (if_pos ⟨d, e⟩)) (by decide), fun e => ⟨hS a ((e1 b).trans (if_neg fun q => e q.2)), hM' a⟩⟩
      · have hc2 : rulesJ r = rules2J r := hc.trans (orE_r (hN a))
        rw [hc2]
        have hc3 : inB r.most 2 2000 = true → ¬ 200 < (r.weak.length : Int) → idsF r.weak = 0 → rules2J r = surviveF r.survive := fun a b c => (if_neg (ne_ft a)).trans ((if_neg b).trans (orE_r c))
        exact ⟨fun a => (if_pos a).symm, fun a => ⟨fun b => ((if_neg (ne_ft a)).trans (if_pos b)).symm, fun b => ⟨o3, fun e => ((if_neg (ne_ft a)).trans ((if_neg b).trans (orE_l e))).symm, fun e => ⟨o4, (hc3 a b e).symm⟩⟩⟩⟩
set_option maxHeartbeats 8000000 in
theorem RulesFaultJ_ctr {cx : Cx} (h : Seat cx) (hM : MaxL cx) : Ctr cx 12 rulesJS := by
  refine ctr_of (fn := Tryz.f12) (l := [.tmp 2]) (envL [(41, inS), (42, idsS), (43, survS)]) [0, 1, 2, 3, 4, 5, 6, 7, 9, 10, 14, 16, 17, 18, 19, 25, 32, 38, 42, 47, 52, 54, 55, 56, 57, 64] [13] [] (envL_cons (in_ctr h) (envL_cons (idsFault_ctr h hM) (envL_cons (survivalFault_ctr h) (env0 h.hP)))) ?_ (by rw [h.hP]; exact Tryz.func12) rfl (by kernel_rfl) rfl ?_ ?_
  · rw [h.hP]; exact ⟨_, Tryz.func12, by kernel_rfl, by kernel_rfl⟩
  · rintro xs ⟨r, rfl, h1⟩; exact ⟨_, r, rfl, rfl⟩
  · rintro xs ⟨r, rfl, h1⟩
    refine ⟨by rw [Tryz.ntmps12]; simp, ?_⟩
    obtain ⟨o1, o2, o3, o4⟩ := id h1
    simp only [go_sem, h.hP, List.cons_append, List.nil_append, Meets_e, Below_e, Prod.exists, exists_eq, exists_eq_left, exists_eq_left', exists_eq_right, exists_eq_right', exists_and_left, exists_and_right, Ob.arr.injEq, AV.own.injEq, AV.fv.injEq, rulesJS_q, rulesJS_p, rulesJS_c, rulesJS_f, TJoinRules.row, intsD_len, Tryz.ntmps12, Nat.reduceEqDiff, reduceCtorEq, Nat.reduceMul, Nat.reduceAdd, Nat.reduceSub, Nat.reduceDiv, Nat.reduceMod, Nat.reduceLeDiff, Nat.reduceLT, Nat.reduceBNe, Nat.reduceBEq, reduceIte, Int.reduceLE, Int.reduceLT, Int.reduceToNat, Int.reduceNeg, Int.reduceAdd, Int.reduceSub, Int.reduceMul, Int.reduceEq]
    refine ⟨fun c => (if_pos c).symm, fun c => ?_⟩
    have hc : rulesJ r = orE (firstI r.kinds.length (kindE r.kinds)) (rules2J r) := if_neg c
    refine vc_cutS (Unit) (fun (u : Unit) => [(3, .un), (4, .un), (5, .un), (16, .un), (17, .un), (18, .un), (19, .un), (25, .un), (32, .un)]) [1] (fun (u : Unit) => []) (fun (u : Unit) => []) (fun (u : Unit) => 0) (fun (u : Unit) => firstI r.kinds.length (kindE r.kinds) = 0) [] ?_ ?_ ?_
    · rfl
    · simp only [go_sem, h.hP, List.cons_append, List.nil_append, Meets_e, Below_e, Prod.exists, exists_eq, exists_eq_left, exists_eq_left', exists_eq_right, exists_eq_right', exists_and_left, exists_and_right, Ob.arr.injEq, AV.own.injEq, AV.fv.injEq, rulesJS_q, rulesJS_p, rulesJS_c, rulesJS_f, TJoinRules.row, intsD_len, Tryz.ntmps12, Nat.reduceEqDiff, reduceCtorEq, Nat.reduceMul, Nat.reduceAdd, Nat.reduceSub, Nat.reduceDiv, Nat.reduceMod, Nat.reduceLeDiff, Nat.reduceLT, Nat.reduceBNe, Nat.reduceBEq, reduceIte, Int.reduceLE, Int.reduceLT, Int.reduceToNat, Int.reduceNeg, Int.reduceAdd, Int.reduceSub, Int.reduceMul, Int.reduceEq]
      refine vc_loopS (Int × Int) (fun (x : Int × Int) => match x with | (i, p) => [(18, .i i), (3, .i p)]) [1] (fun (x : Int × Int) => match x with | (i, p) => []) (fun (x : Int × Int) => match x with | (i, p) => []) (fun (x : Int × Int) => match x with | (i, p) => 0) (fun (x : Int × Int) => match x with | (i, p) => Rounds r.kinds.length (kindE r.kinds) i ∧ (0 < i → p = r.kinds.getD (i - 1).toNat 0)) (fun (x : Int × Int) => match x with | (i, p) => (r.kinds.length - i).toNat) [] ?_ ?_
      · simp only [go_sem, h.hP, List.cons_append, List.nil_append, Meets_e, Below_e, Prod.exists, exists_eq, exists_eq_left, exists_eq_left', exists_eq_right, exists_eq_right', exists_and_left, exists_and_right, Ob.arr.injEq, AV.own.injEq, AV.fv.injEq, Tryz.ntmps12, Nat.reduceEqDiff, reduceCtorEq, Nat.reduceMul, Nat.reduceAdd, Nat.reduceSub, Nat.reduceDiv, Nat.reduceMod, Nat.reduceLeDiff, Nat.reduceLT, Nat.reduceBNe, Nat.reduceBEq, reduceIte, Int.reduceLE, Int.reduceLT, Int.reduceToNat, Int.reduceNeg, Int.reduceAdd, Int.reduceSub, Int.reduceMul, Int.reduceEq]
        exact Rounds.start
      · rintro ⟨i, p⟩ ⟨hr, hp⟩
        obtain ⟨hi, hS, hM', hE, hN⟩ := hr.use (by have := o1.1; omega)
        simp only [go_sem, h.hP, List.cons_append, List.nil_append, Meets_e, Below_e, Prod.exists, exists_eq, exists_eq_left, exists_eq_left', exists_eq_right, exists_eq_right', exists_and_left, exists_and_right, Ob.arr.injEq, AV.own.injEq, AV.fv.injEq, rulesJS_q, rulesJS_p, rulesJS_c, rulesJS_f, inS_q, inS_p, inS_c, inS_f, TJoinRules.row, intsD_len, intsD_get, Tryz.ntmps12, Nat.reduceEqDiff, reduceCtorEq, Nat.reduceMul, Nat.reduceAdd, Nat.reduceSub, Nat.reduceDiv, Nat.reduceMod, Nat.reduceLeDiff, Nat.reduceLT, Nat.reduceBNe, Nat.reduceBEq, reduceIte, Int.reduceLE, Int.reduceLT, Int.reduceToNat, Int.reduceNeg, Int.reduceAdd, Int.reduceSub, Int.reduceMul, Int.reduceEq]
        have hl := o1.1
        have hw : 0 < i → i < r.kinds.length → IntKind.i64.wrap (i - 1) = i - 1 := fun a b => i64w (by omega) (by omega)
        have hE' : ∀ e, i < r.kinds.length → kindE r.kinds i.toNat = e → e ≠ 0 → e = rulesJ r := fun e a b c => by
          have := hE e a b c
          rw [hc, orE_l (by rw [this]; exact c), this]
        have e0 : kindE r.kinds i.toNat = if inB (r.kinds.getD i.toNat 0) 1 4 = false then 4 else if 0 < i ∧ r.kinds.getD i.toNat 0 ≤ r.kinds.getD (i - 1).toNat 0 then 7 else 0 := by
          unfold kindE
          rw [Int.toNat_of_nonneg hi, show i.toNat - 1 = (i - 1).toNat by omega]
        have hw2 : i < r.kinds.length → IntKind.i64.wrap (i + 1) = i + 1 := fun a => i64w (by omega) (by omega)
        have hq : i < r.kinds.length → (0 < IntKind.i64.wrap (i + 1) → r.kinds.getD i.toNat 0 = r.kinds.getD (IntKind.i64.wrap (i + 1) - 1).toNat 0) := fun a _ => by rw [hw2 a, show i + 1 - 1 = i by omega]
        refine ⟨fun a => ⟨hi, a, fun b => hE' 4 a (e0.trans (if_pos b)) (by decide), fun b => ⟨fun d => ?_, fun d => ⟨hS a ((e0.trans (if_neg (ne_ft b))).trans (if_neg fun q => d q.1)), hq a, hM' a⟩⟩⟩, fun a => hN a⟩
        rw [hp d]
        have e1 := e0.trans (if_neg (ne_ft b))
        exact ⟨fun e => hE' 7 a (e1.trans (if_pos ⟨d, e⟩)) (by decide), fun e => ⟨hS a (e1.trans (if_neg fun q => e q.2)), hq a, hM' a⟩⟩
    · rintro ⟨⟩ d
      simp only [go_sem, h.hP, List.cons_append, List.nil_append, Meets_e, Below_e, Prod.exists, exists_eq, exists_eq_left, exists_eq_left', exists_eq_right, exists_eq_right', exists_and_left, exists_and_right, Ob.arr.injEq, AV.own.injEq, AV.fv.injEq, rulesJS_q, rulesJS_p, rulesJS_c, rulesJS_f, inS_q, inS_p, inS_c, inS_f, idsS_q, idsS_p, idsS_c, idsS_f, TJoinRules.row, TId.len, TSurvival.len, Tryz.ntmps12, Nat.reduceEqDiff, reduceCtorEq, Nat.reduceMul, Nat.reduceAdd, Nat.reduceSub, Nat.reduceDiv, Nat.reduceMod, Nat.reduceLeDiff, Nat.reduceLT, Nat.reduceBNe, Nat.reduceBEq, reduceIte, Int.reduceLE, Int.reduceLT, Int.reduceToNat, Int.reduceNeg, Int.reduceAdd, Int.reduceSub, Int.reduceMul, Int.reduceEq]
      have hc2 : rulesJ r = rules2J r := hc.trans (orE_r d)
      rw [hc2]
      have hc3 : inB r.most 2 2000 = true → ¬ 200 < (r.weak.length : Int) → idsF r.weak = 0 → rules2J r = surviveF r.survive := fun a b c => (if_neg (ne_ft a)).trans ((if_neg b).trans (orE_r c))
      refine ⟨fun a => (if_pos a).symm, fun a => ⟨fun b => ((if_neg (ne_ft a)).trans (if_pos b)).symm, fun b => ⟨o3, fun e => ((if_neg (ne_ft a)).trans ((if_neg b).trans (orE_l e))).symm, fun e => ?_⟩⟩⟩
      rw [hc3 a b e]
      refine ⟨fun f => (if_pos f).symm, fun f => ?_⟩
      have hc4 : surviveF r.survive = firstI r.survive.length (survE r.survive) := if_neg f
      rw [hc4]
      refine vc_loopS (Int × ByteArray) (fun (x : Int × ByteArray) => match x with | (i, s) => [(56, .i i), (7, .str s)]) [1] (fun (x : Int × ByteArray) => match x with | (i, s) => []) (fun (x : Int × ByteArray) => match x with | (i, s) => []) (fun (x : Int × ByteArray) => match x with | (i, s) => 0) (fun (x : Int × ByteArray) => match x with | (i, s) => Rounds r.survive.length (survE r.survive) i ∧ (0 < i → s = (r.survive.getD (i - 1).toNat TSurvival.z).name) ∧ (i = 0 → s = ⟨#[]⟩)) (fun (x : Int × ByteArray) => match x with | (i, s) => (r.survive.length - i).toNat) [] ?_ ?_
      · simp only [go_sem, h.hP, List.cons_append, List.nil_append, Meets_e, Below_e, Prod.exists, exists_eq, exists_eq_left, exists_eq_left', exists_eq_right, exists_eq_right', exists_and_left, exists_and_right, Ob.arr.injEq, AV.own.injEq, AV.fv.injEq, Tryz.ntmps12, Nat.reduceEqDiff, reduceCtorEq, Nat.reduceMul, Nat.reduceAdd, Nat.reduceSub, Nat.reduceDiv, Nat.reduceMod, Nat.reduceLeDiff, Nat.reduceLT, Nat.reduceBNe, Nat.reduceBEq, reduceIte, Int.reduceLE, Int.reduceLT, Int.reduceToNat, Int.reduceNeg, Int.reduceAdd, Int.reduceSub, Int.reduceMul, Int.reduceEq]
        exact Rounds.start
      · rintro ⟨i, s⟩ ⟨hr, j2, j3⟩
        obtain ⟨hi, hS, hM', hE, hN⟩ := hr.use (by have := o4.1; omega)
        have ho : (r.survive.getD i.toNat TSurvival.z).ok := okL_get o4 TSurvival.z_ok _
        simp only [go_sem, h.hP, List.cons_append, List.nil_append, Meets_e, Below_e, Prod.exists, exists_eq, exists_eq_left, exists_eq_left', exists_eq_right, exists_eq_right', exists_and_left, exists_and_right, Ob.arr.injEq, AV.own.injEq, AV.fv.injEq, rulesJS_q, rulesJS_p, rulesJS_c, rulesJS_f, survS_q, survS_p, survS_c, survS_f, TJoinRules.row, TSurvival.len, TSurvival.get, survS_q2, survS_p2, Tryz.ntmps12, Nat.reduceEqDiff, reduceCtorEq, Nat.reduceMul, Nat.reduceAdd, Nat.reduceSub, Nat.reduceDiv, Nat.reduceMod, Nat.reduceLeDiff, Nat.reduceLT, Nat.reduceBNe, Nat.reduceBEq, reduceIte, Int.reduceLE, Int.reduceLT, Int.reduceToNat, Int.reduceNeg, Int.reduceAdd, Int.reduceSub, Int.reduceMul, Int.reduceEq]
        have hl := o4.1
        have hw2 : i < r.survive.length → IntKind.i64.wrap (i + 1) = i + 1 := fun a => i64w (by omega) (by omega)
        have e0 : survE r.survive i.toNat = if keyB (r.survive.getD i.toNat TSurvival.z).name = false then 5 else if inB (r.survive.getD i.toNat TSurvival.z).how 1 7 = false then 4 else if sourcesF (r.survive.getD i.toNat TSurvival.z) ≠ 0 then sourcesF (r.survive.getD i.toNat TSurvival.z) else if 0 < i ∧ (Op.bytesLess (r.survive.getD i.toNat TSurvival.z).name.toList (r.survive.getD (i - 1).toNat TSurvival.z).name.toList = true ∨ (r.survive.getD i.toNat TSurvival.z).name = (r.survive.getD (i - 1).toNat TSurvival.z).name) then 7 else 0 := by
          unfold survE
          rw [Int.toNat_of_nonneg hi, show i.toNat - 1 = (i - 1).toNat by omega]
        have hsv : survF (r.survive.getD i.toNat TSurvival.z) s = survE r.survive i.toNat := by
          rw [e0]
          generalize r.survive.getD i.toNat TSurvival.z = x at *
          unfold survF
          by_cases b : keyB x.name = false
          · rw [if_pos b, if_pos b]
          rw [if_neg b, if_neg b]
          by_cases c : inB x.how 1 7 = false
          · rw [if_pos c, if_pos c]
          rw [if_neg c, if_neg c]
          by_cases d : sourcesF x ≠ 0
          · rw [if_pos d, if_pos d]
          rw [if_neg d, if_neg d]
          rw [Bool.not_eq_false] at b
          rcases Int.lt_or_eq_of_le hi with g | g
          · rw [j2 g]
            by_cases z : Op.bytesLess x.name.toList (r.survive.getD (i - 1).toNat TSurvival.z).name.toList = true ∨ x.name = (r.survive.getD (i - 1).toNat TSurvival.z).name
            · rw [if_pos z, if_pos ⟨g, z⟩]
            · rw [if_neg z, if_neg fun q => z q.2]
          · rw [j3 g.symm, if_neg (le_nil b), if_neg fun q => by omega]
        rw [hsv]
        refine ⟨fun a => ⟨hi, a, ho, fun b => (hE _ a rfl b).symm, fun b => ?_⟩, fun a => (hN a).symm⟩
        have s0 := hS a b
        have m0 := hM' a
        rw [hw2 a] at s0 m0 ⊢
        exact ⟨s0, fun _ => by rw [show i + 1 - 1 = i by omega], fun q => by omega, m0⟩
end Go.Avc

/- The generators of ids and touches: their contracts. No condition. -/
set_option linter.unusedVariables false
set_option linter.unusedSimpArgs false
set_option maxRecDepth 100000
namespace Go.Avc
open Go Go.Proofs

def idx_TIdS  : Spec where
  pre xs := ∃ (l : List TId) (k : Int) (s : ByteArray), xs = [.sl (TId.rows l), .dv (.ag [.int .i64 k, .str s])] ∧ (l.length ≤ 4611686018427387904)
  post xs y := ∃ (l : List TId) (k : Int) (s : ByteArray), xs = [.sl (TId.rows l), .dv (.ag [.int .i64 k, .str s])] ∧ y = .i (idxE ⟨k, s⟩ l)
  cost _ := 0
  fresh := true
theorem idx_TIdS_c  (xs : List AV) : (idx_TIdS).cost xs = 0 := nr rfl
theorem idx_TIdS_f  : (idx_TIdS).fresh = true := nr rfl
theorem idx_TIdS_q  (l : List TId) (k : Int) (s : ByteArray) : (idx_TIdS).pre [.sl (TId.rows l), .dv (.ag [.int .i64 k, .str s])] = (l.length ≤ 4611686018427387904) := propext ⟨fun h => by
  have h' : ∃ (l' : List TId) (k' : Int) (s' : ByteArray), ([.sl (TId.rows l), .dv (.ag [.int .i64 k, .str s])] : List AV) = [.sl (TId.rows l'), .dv (.ag [.int .i64 k', .str s'])] ∧ (l'.length ≤ 4611686018427387904) := h
  obtain ⟨l', k', s', e, h⟩ := h'
  simp only [List.cons.injEq, AV.dv.injEq, AV.dp.injEq, AV.fv.injEq, DV.d.injEq, DV.ag.injEq, D.int.injEq, D.str.injEq, D.bool.injEq, D.sl.injEq, true_and, and_true, intsDi_inj, rowsT_inj, rowsKi_inj, TId.row_inj, TId.rows_inj] at e
  obtain ⟨rfl, rfl, rfl⟩ := e
  exact h, fun h => ⟨l, k, s, rfl, h⟩⟩
theorem idx_TIdS_p  (l : List TId) (k : Int) (s : ByteArray) : (idx_TIdS).post [.sl (TId.rows l), .dv (.ag [.int .i64 k, .str s])] = fun y => y = .i (idxE ⟨k, s⟩ l) := funext fun y => propext ⟨fun h => by
  have h' : ∃ (l' : List TId) (k' : Int) (s' : ByteArray), ([.sl (TId.rows l), .dv (.ag [.int .i64 k, .str s])] : List AV) = [.sl (TId.rows l'), .dv (.ag [.int .i64 k', .str s'])] ∧ y = .i (idxE ⟨k', s'⟩ l') := h
  obtain ⟨l', k', s', e, h⟩ := h'
  simp only [List.cons.injEq, AV.dv.injEq, AV.dp.injEq, AV.fv.injEq, DV.d.injEq, DV.ag.injEq, D.int.injEq, D.str.injEq, D.bool.injEq, D.sl.injEq, true_and, and_true, intsDi_inj, rowsT_inj, rowsKi_inj, TId.row_inj, TId.rows_inj] at e
  obtain ⟨rfl, rfl, rfl⟩ := e
  exact h, fun h => ⟨l, k, s, rfl, h⟩⟩
def con_TIdS  : Spec where
  pre xs := ∃ (l : List TId) (k : Int) (s : ByteArray), xs = [.sl (TId.rows l), .dv (.ag [.int .i64 k, .str s])] ∧ (l.length ≤ 4611686018427387904)
  post xs y := ∃ (l : List TId) (k : Int) (s : ByteArray), xs = [.sl (TId.rows l), .dv (.ag [.int .i64 k, .str s])] ∧ y = .b (conE ⟨k, s⟩ l)
  cost _ := 0
  fresh := true
theorem con_TIdS_c  (xs : List AV) : (con_TIdS).cost xs = 0 := nr rfl
theorem con_TIdS_f  : (con_TIdS).fresh = true := nr rfl
theorem con_TIdS_q  (l : List TId) (k : Int) (s : ByteArray) : (con_TIdS).pre [.sl (TId.rows l), .dv (.ag [.int .i64 k, .str s])] = (l.length ≤ 4611686018427387904) := propext ⟨fun h => by
  have h' : ∃ (l' : List TId) (k' : Int) (s' : ByteArray), ([.sl (TId.rows l), .dv (.ag [.int .i64 k, .str s])] : List AV) = [.sl (TId.rows l'), .dv (.ag [.int .i64 k', .str s'])] ∧ (l'.length ≤ 4611686018427387904) := h
  obtain ⟨l', k', s', e, h⟩ := h'
  simp only [List.cons.injEq, AV.dv.injEq, AV.dp.injEq, AV.fv.injEq, DV.d.injEq, DV.ag.injEq, D.int.injEq, D.str.injEq, D.bool.injEq, D.sl.injEq, true_and, and_true, intsDi_inj, rowsT_inj, rowsKi_inj, TId.row_inj, TId.rows_inj] at e
  obtain ⟨rfl, rfl, rfl⟩ := e
  exact h, fun h => ⟨l, k, s, rfl, h⟩⟩
theorem con_TIdS_p  (l : List TId) (k : Int) (s : ByteArray) : (con_TIdS).post [.sl (TId.rows l), .dv (.ag [.int .i64 k, .str s])] = fun y => y = .b (conE ⟨k, s⟩ l) := funext fun y => propext ⟨fun h => by
  have h' : ∃ (l' : List TId) (k' : Int) (s' : ByteArray), ([.sl (TId.rows l), .dv (.ag [.int .i64 k, .str s])] : List AV) = [.sl (TId.rows l'), .dv (.ag [.int .i64 k', .str s'])] ∧ y = .b (conE ⟨k', s'⟩ l') := h
  obtain ⟨l', k', s', e, h⟩ := h'
  simp only [List.cons.injEq, AV.dv.injEq, AV.dp.injEq, AV.fv.injEq, DV.d.injEq, DV.ag.injEq, D.int.injEq, D.str.injEq, D.bool.injEq, D.sl.injEq, true_and, and_true, intsDi_inj, rowsT_inj, rowsKi_inj, TId.row_inj, TId.rows_inj] at e
  obtain ⟨rfl, rfl, rfl⟩ := e
  exact h, fun h => ⟨l, k, s, rfl, h⟩⟩
theorem index_TId {cx : Cx} (h : Seat cx) : Ctr cx 65 idx_TIdS := by
  refine ctr_of (fn := Tryz.f65) (l := [.tmp 4]) (envL []) [0, 1, 3, 4, 5, 7, 8, 9, 16] [] [] (env0 h.hP) ?_ (by rw [h.hP]; exact Tryz.func65) rfl (by kernel_rfl) rfl ?_ ?_
  · rw [h.hP]; exact ⟨_, Tryz.func65, by kernel_rfl, by kernel_rfl⟩
  · rintro xs ⟨l, k, s, rfl, h1⟩; exact ⟨_, l, k, s, rfl, rfl⟩
  · rintro xs ⟨l, k, s, rfl, h1⟩
    refine ⟨by rw [Tryz.ntmps65]; simp, ?_⟩
    simp only [go_sem, h.hP, List.cons_append, List.nil_append, Meets_e, Below_e, Prod.exists, exists_eq, exists_eq_left, exists_eq_left', exists_eq_right, exists_eq_right', exists_and_left, exists_and_right, Ob.arr.injEq, AV.own.injEq, AV.fv.injEq, idx_TIdS_q, idx_TIdS_p, idx_TIdS_c, idx_TIdS_f, Tryz.ntmps65, Nat.reduceEqDiff, reduceCtorEq, Nat.reduceMul, Nat.reduceAdd, Nat.reduceSub, Nat.reduceDiv, Nat.reduceMod, Nat.reduceLeDiff, Nat.reduceLT, Nat.reduceBNe, Nat.reduceBEq, reduceIte, Int.reduceLE, Int.reduceLT, Int.reduceToNat, Int.reduceNeg, Int.reduceAdd, Int.reduceSub, Int.reduceMul, Int.reduceEq]
    refine vc_loopS (Int) (fun (i : Int) => [(8, .i i)]) [3] (fun (i : Int) => []) (fun (i : Int) => []) (fun (i : Int) => 0) (fun (i : Int) => 0 ≤ i ∧ i ≤ l.length ∧ ∀ j : Nat, (j : Int) < i → ¬ (⟨k, s⟩ : TId) = l.getD j TId.z) (fun (i : Int) => (l.length - i).toNat) [] ?_ ?_
    · simp only [go_sem, h.hP, List.cons_append, List.nil_append, Meets_e, Below_e, Prod.exists, exists_eq, exists_eq_left, exists_eq_left', exists_eq_right, exists_eq_right', exists_and_left, exists_and_right, Ob.arr.injEq, AV.own.injEq, AV.fv.injEq, TId.len, Tryz.ntmps65, Nat.reduceEqDiff, reduceCtorEq, Nat.reduceMul, Nat.reduceAdd, Nat.reduceSub, Nat.reduceDiv, Nat.reduceMod, Nat.reduceLeDiff, Nat.reduceLT, Nat.reduceBNe, Nat.reduceBEq, reduceIte, Int.reduceLE, Int.reduceLT, Int.reduceToNat, Int.reduceNeg, Int.reduceAdd, Int.reduceSub, Int.reduceMul, Int.reduceEq]
      exact ⟨Int.natCast_nonneg _, fun j hj => by omega⟩
    · rintro i ⟨j1, j2, j3⟩
      simp only [go_sem, h.hP, List.cons_append, List.nil_append, Meets_e, Below_e, Prod.exists, exists_eq, exists_eq_left, exists_eq_left', exists_eq_right, exists_eq_right', exists_and_left, exists_and_right, Ob.arr.injEq, AV.own.injEq, AV.fv.injEq, idx_TIdS_q, idx_TIdS_p, idx_TIdS_c, idx_TIdS_f, TId.len, TId.get, Tryz.ntmps65, Nat.reduceEqDiff, reduceCtorEq, Nat.reduceMul, Nat.reduceAdd, Nat.reduceSub, Nat.reduceDiv, Nat.reduceMod, Nat.reduceLeDiff, Nat.reduceLT, Nat.reduceBNe, Nat.reduceBEq, reduceIte, Int.reduceLE, Int.reduceLT, Int.reduceToNat, Int.reduceNeg, Int.reduceAdd, Int.reduceSub, Int.reduceMul, Int.reduceEq]
      have h0 := idx_leafT j1 j2 j3 h1
      refine ⟨fun c => ?_, h0.2⟩
      obtain ⟨a1, a2, a3, a4⟩ := h0.1 c
      refine ⟨a1, a2, fun e => a3 (by rw [e.1, e.2]), fun e => a4 fun q => ?_⟩
      rw [← q] at e
      simp at e
theorem contains_TId {cx : Cx} (h : Seat cx) : Ctr cx 20 con_TIdS := by
  refine ctr_of (fn := Tryz.f20) (l := [.tmp 4]) (envL [(65, idx_TIdS)]) [0, 1, 3, 4] [] [] (envL_cons (index_TId h) (env0 h.hP)) ?_ (by rw [h.hP]; exact Tryz.func20) rfl (by kernel_rfl) rfl ?_ ?_
  · rw [h.hP]; exact ⟨_, Tryz.func20, by kernel_rfl, by kernel_rfl⟩
  · rintro xs ⟨l, k, s, rfl, h1⟩; exact ⟨_, l, k, s, rfl, rfl⟩
  · rintro xs ⟨l, k, s, rfl, h1⟩
    refine ⟨by rw [Tryz.ntmps20]; simp, ?_⟩
    simp only [go_sem, h.hP, List.cons_append, List.nil_append, Meets_e, Below_e, Prod.exists, exists_eq, exists_eq_left, exists_eq_left', exists_eq_right, exists_eq_right', exists_and_left, exists_and_right, Ob.arr.injEq, AV.own.injEq, AV.fv.injEq, idx_TIdS_q, idx_TIdS_p, idx_TIdS_c, idx_TIdS_f, con_TIdS_q, con_TIdS_p, con_TIdS_c, con_TIdS_f, Tryz.ntmps20, Nat.reduceEqDiff, reduceCtorEq, Nat.reduceMul, Nat.reduceAdd, Nat.reduceSub, Nat.reduceDiv, Nat.reduceMod, Nat.reduceLeDiff, Nat.reduceLT, Nat.reduceBNe, Nat.reduceBEq, reduceIte, Int.reduceLE, Int.reduceLT, Int.reduceToNat, Int.reduceNeg, Int.reduceAdd, Int.reduceSub, Int.reduceMul, Int.reduceEq]
    exact ⟨h1, conE_ge _ l⟩
def idsG : Spec where
  pre xs := ∃ m : Int, xs = [.st, .i m] ∧ m ≤ 10
  post xs y := ∃ (m : Int) (l : List TId), xs = [.st, .i m] ∧ l.length ≤ 10 ∧ (∀ x ∈ l, x.ok) ∧ y = .sl (TId.rows l)
  cost _ := 100
  fresh := false
set_option maxHeartbeats 8000000 in
theorem Ids_own {cx : Cx} (h : Seat cx) (hN : cx.glob 1 = some poolD) : CtrO cx 31 idsG 42 2 := by
  refine ctrO_of (fn := Tryz.f31) (t := 4) (envO [(15, (idG 6)), (20, con_TIdS), (29, flipS)] [] [(63, sortI, 42, 1000002), (71, revI, 42, 1000002)]) [0, 1, 4, 5, 6, 7, 8, 9, 15, 29] [] [] (envO_cons (sortIds h) (envO_cons (revIds h) (envO_nil (envF_nil (envL_cons (Id_ctr h hN) (envL_cons (contains_TId h) (envL_cons (flip_ctr cx h.hP h.hS) (env0 h.hP)))))))) ?_ (by rw [h.hP]; exact Tryz.func31) rfl (by kernel_rfl) rfl ?_ (by decide)
  · rw [h.hP]; exact ⟨_, Tryz.func31, by kernel_rfl, by kernel_rfl⟩
  · rintro xs ⟨m, rfl, h1⟩
    refine ⟨by rw [Tryz.ntmps31]; simp, ?_⟩
    simp only [go_sem, h.hP, List.cons_append, List.nil_append, Meets_e, Below_e, Prod.exists, exists_eq, exists_eq_left, exists_eq_left', exists_eq_right, exists_eq_right', exists_and_left, exists_and_right, Ob.arr.injEq, AV.own.injEq, AV.fv.injEq, idsG, Tryz.ntmps31, Nat.reduceEqDiff, reduceCtorEq, Nat.reduceMul, Nat.reduceAdd, Nat.reduceSub, Nat.reduceDiv, Nat.reduceMod, Nat.reduceLeDiff, Nat.reduceLT, Nat.reduceBNe, Nat.reduceBEq, reduceIte, Int.reduceLE, Int.reduceLT, Int.reduceToNat, Int.reduceNeg, Int.reduceAdd, Int.reduceSub, Int.reduceMul, Int.reduceEq]
    refine vc_loopS (Int × List TId) (fun (x : Int × List TId) => match x with | (i, l) => [(8, .i i), (5, .own 5)]) [] (fun (x : Int × List TId) => match x with | (i, l) => []) (fun (x : Int × List TId) => match x with | (i, l) => [(5, .arr 42 2 (TId.rows l))]) (fun (x : Int × List TId) => match x with | (i, l) => 7 * i.toNat) (fun (x : Int × List TId) => match x with | (i, l) => 0 ≤ i ∧ i ≤ max 0 m ∧ (l.length : Int) ≤ i ∧ ∀ c ∈ l, c.ok) (fun (x : Int × List TId) => match x with | (i, l) => (m - i).toNat) [(5, 42, 2)] ?_ ?_
    · simp only [go_sem, h.hP, List.cons_append, List.nil_append, Meets_e, Below_e, Prod.exists, exists_eq, exists_eq_left, exists_eq_left', exists_eq_right, exists_eq_right', exists_and_left, exists_and_right, Ob.arr.injEq, AV.own.injEq, AV.fv.injEq, TId.nil2, Tryz.ntmps31, Nat.reduceEqDiff, reduceCtorEq, Nat.reduceMul, Nat.reduceAdd, Nat.reduceSub, Nat.reduceDiv, Nat.reduceMod, Nat.reduceLeDiff, Nat.reduceLT, Nat.reduceBNe, Nat.reduceBEq, reduceIte, Int.reduceLE, Int.reduceLT, Int.reduceToNat, Int.reduceNeg, Int.reduceAdd, Int.reduceSub, Int.reduceMul, Int.reduceEq]
      exact ⟨by omega, Int.le_refl _⟩
    · rintro ⟨i, l⟩ ⟨j1, j2, j3, j4⟩
      have hw : IntKind.i64.wrap (i + 1) = i + 1 := i64w (by omega) (by omega)
      simp only [go_sem, h.hP, List.cons_append, List.nil_append, Meets_e, Below_e, Prod.exists, exists_eq, exists_eq_left, exists_eq_left', exists_eq_right, exists_eq_right', exists_and_left, exists_and_right, Ob.arr.injEq, AV.own.injEq, AV.fv.injEq, idsG, idG, sortI, revI, con_TIdS_q, con_TIdS_p, con_TIdS_c, con_TIdS_f, flipS_q, flipS_p, flipS_c, flipS_f, TId.row, TId.fold1, TId.app', TId.rows_inj, TId.zlT, TId.len, TId.flat, List.length_append, List.length_singleton, List.tail_cons, List.any_cons, List.any_nil, hw, Tryz.ntmps31, Nat.reduceEqDiff, reduceCtorEq, Nat.reduceMul, Nat.reduceAdd, Nat.reduceSub, Nat.reduceDiv, Nat.reduceMod, Nat.reduceLeDiff, Nat.reduceLT, Nat.reduceBNe, Nat.reduceBEq, reduceIte, Int.reduceLE, Int.reduceLT, Int.reduceToNat, Int.reduceNeg, Int.reduceAdd, Int.reduceSub, Int.reduceMul, Int.reduceEq]
      clear hw
      refine ⟨by omega, fun c => ⟨by omega, by omega, fun a ha => ⟨by omega, by omega, by omega, by omega, by omega, fun d => ?_, fun d => ?_⟩⟩, fun c => ?_⟩
      · have ho : ∀ c ∈ l ++ [(⟨a.kind, a.text⟩ : TId)], c.ok := okL_app j4 ha
        (repeat' apply And.intro) <;> first | omega | exact ho
      · (repeat' apply And.intro) <;> first | omega | exact j4
      · have fin : ∀ l' : List TId, l'.length ≤ 10 → (∀ x ∈ l', x ∈ l) → ∃ x : List TId, x.length ≤ 10 ∧ (∀ y ∈ x, y.ok) ∧ l' = x := fun l' h1 h2 => ⟨l', h1, fun y hy => j4 y (h2 y hy), rfl⟩
        refine ⟨by omega, by omega, by omega, fun a a1 a2 => ⟨by omega, by omega, by omega, by omega, fun d => ⟨by omega, by omega, fun b => ⟨by omega, fun _ => ⟨by omega, by omega, by omega, by omega, by omega, by omega, fin _ (by rw [List.length_reverse]; omega) fun x hx => a2 x (List.mem_reverse.1 hx)⟩, fun _ => ⟨by omega, by omega, by omega, fin _ (by omega) a2⟩⟩⟩, fun d => ⟨by omega, by omega, by omega, by omega, fin _ (by omega) a2⟩⟩⟩
theorem exTouch {n a : Int} {s : ByteArray} {ids : List TId} {fs : List TField} (h1 : okI n) (h2 : okI a) (h3 : okS s) (h4 : ids.length ≤ 10) (h5 : ∀ x ∈ ids, x.ok) (h6 : fs.length ≤ 7) (h7 : ∀ x ∈ fs, x.ok) :
    ∃ i : TTouch, n = i.no ∧ a = i.at_ ∧ s = i.source ∧ TId.rows ids = TId.rows i.ids ∧ TField.rows fs = TField.rows i.fields ∧ i.ok :=
  ⟨⟨n, a, s, ids, fs⟩, rfl, rfl, rfl, rfl, rfl, h1, h2, h3, ⟨Nat.le_trans h4 (by decide), h5⟩, ⟨Nat.le_trans h6 (by decide), h7⟩⟩
def touchG : Spec where
  pre xs := ∃ n : Int, xs = [.st, .i n] ∧ okI n
  post xs y := ∃ (n : Int) (t : TTouch), xs = [.st, .i n] ∧ t.ok ∧ y = .dv (.ag t.row)
  cost _ := 200
  fresh := false
set_option maxHeartbeats 8000000 in
theorem Touch_ctr {cx : Cx} (h : Seat cx) (hN : cx.glob 1 = some poolD) (hF : cx.glob 0 = some namesD) : Ctr cx 28 touchG := by
  refine ctr_of (fn := Tryz.f28) (l := [.cell 4 64]) (envO [(27, pickS), (35, oneS), (29, flipS), (30, nextS), (32, oddS)] [] [(31, idsG, 42, 2), (69, fieldsG, 168, 4)]) [0, 1, 4, 5, 22, 24, 26, 31, 36] [11] [] (envO_cons (Ids_own h hN) (envO_cons (Fields_own h hF) (envO_nil (envF_nil (envL_cons (pick_ctr cx h.hP h.hS) (envL_cons (one_ctr h) (envL_cons (flip_ctr cx h.hP h.hS) (envL_cons (next_ctr cx h.hP h.hS) (envL_cons (odd_ctr h) (env0 h.hP)))))))))) ?_ (by rw [h.hP]; exact Tryz.func28) rfl (by kernel_rfl) rfl ?_ ?_
  · rw [h.hP]; exact ⟨_, Tryz.func28, by kernel_rfl, by kernel_rfl⟩
  · rintro xs ⟨n, rfl, h1⟩; exact ⟨_, n, TTouch.z, rfl, TTouch.z_ok, rfl⟩
  · rintro xs ⟨n, rfl, h1⟩
    refine ⟨by rw [Tryz.ntmps28]; simp, ?_⟩
    simp only [go_sem, h.hP, List.cons_append, List.nil_append, Meets_e, Below_e, Prod.exists, exists_eq, exists_eq_left, exists_eq_left', exists_eq_right, exists_eq_right', exists_and_left, exists_and_right, Ob.arr.injEq, AV.own.injEq, AV.fv.injEq, touchG, idsG, fieldsG, pickS_q, pickS_p, pickS_c, pickS_f, oneS_q, oneS_p, oneS_c, oneS_f, ints1, intsc, strs1, strsc, Tryz.ntmps28, Nat.reduceEqDiff, reduceCtorEq, Nat.reduceMul, Nat.reduceAdd, Nat.reduceSub, Nat.reduceDiv, Nat.reduceMod, Nat.reduceLeDiff, Nat.reduceLT, Nat.reduceBNe, Nat.reduceBEq, reduceIte, Int.reduceLE, Int.reduceLT, Int.reduceToNat, Int.reduceNeg, Int.reduceAdd, Int.reduceSub, Int.reduceMul, Int.reduceEq]
    intro at_ hat src hsrc q hq
    have hq2 : q ≤ 10 := by
      simp only [isIn, List.mem_cons, List.not_mem_nil, or_false] at hq
      omega
    refine ⟨hq2, fun ids hi1 hi2 fs hf1 hf2 => ?_⟩
    refine vc_cutS (TTouch) (fun (t : TTouch) => [(24, .un), (26, .un), (31, .un), (36, .un)]) [4] (fun (t : TTouch) => []) (fun (t : TTouch) => [(5, .box 64 [.i t.no, .i t.at_, .str t.source, .sl (TId.rows t.ids), .sl (TField.rows t.fields)])]) (fun (t : TTouch) => 199) (fun (t : TTouch) => t.ok) [] ?_ ?_ ?_
    · rfl
    · simp only [go_sem, h.hP, List.cons_append, List.nil_append, Meets_e, Below_e, Prod.exists, exists_eq, exists_eq_left, exists_eq_left', exists_eq_right, exists_eq_right', exists_and_left, exists_and_right, Ob.arr.injEq, AV.own.injEq, AV.fv.injEq, touchG, flipS_q, flipS_p, flipS_c, flipS_f, nextS_q, nextS_p, nextS_c, nextS_f, oddS_q, oddS_p, oddS_c, oddS_f, oneS_q, oneS_p, oneS_c, oneS_f, strs1, strsc, Tryz.ntmps28, Nat.reduceEqDiff, reduceCtorEq, Nat.reduceMul, Nat.reduceAdd, Nat.reduceSub, Nat.reduceDiv, Nat.reduceMod, Nat.reduceLeDiff, Nat.reduceLT, Nat.reduceBNe, Nat.reduceBEq, reduceIte, Int.reduceLE, Int.reduceLT, Int.reduceToNat, Int.reduceNeg, Int.reduceAdd, Int.reduceSub, Int.reduceMul, Int.reduceEq]
      have o2 : okI at_ := isIn_ok hat (by decide)
      have o3 : okS src := okS_of (isOf_ok hsrc (by decide +kernel))
      have fin := exTouch h1 o2 o3 hi1 hi2 hf1 hf2
      refine fun b => ⟨fun _ a a0 a4 => ⟨fun _ x x1 x2 => exTouch ⟨by omega, by omega⟩ o2 o3 hi1 hi2 hf1 hf2, fun _ => ⟨fun _ x x1 x2 => exTouch h1 ⟨by omega, by omega⟩ o3 hi1 hi2 hf1 hf2, fun _ => ⟨fun _ x hx => exTouch h1 o2 (okS_of (isOf_ok hx (by decide +kernel))) hi1 hi2 hf1 hf2, fun _ => exTouch (ids := []) h1 o2 o3 (Nat.zero_le _) (fun x hx => by cases hx) hf1 hf2⟩⟩⟩, fun _ => fin⟩
    · rintro t ht
      simp only [go_sem, h.hP, List.cons_append, List.nil_append, Meets_e, Below_e, Prod.exists, exists_eq, exists_eq_left, exists_eq_left', exists_eq_right, exists_eq_right', exists_and_left, exists_and_right, Ob.arr.injEq, AV.own.injEq, AV.fv.injEq, touchG, TTouch.row, Tryz.ntmps28, Nat.reduceEqDiff, reduceCtorEq, Nat.reduceMul, Nat.reduceAdd, Nat.reduceSub, Nat.reduceDiv, Nat.reduceMod, Nat.reduceLeDiff, Nat.reduceLT, Nat.reduceBNe, Nat.reduceBEq, reduceIte, Int.reduceLE, Int.reduceLT, Int.reduceToNat, Int.reduceNeg, Int.reduceAdd, Int.reduceSub, Int.reduceMul, Int.reduceEq]
      exact ⟨t, ht, rfl, rfl, rfl, rfl, rfl⟩
theorem rsetT (l : List TTouch) (n : Nat) (x : TTouch) : (TTouch.rows l).set n [D.int .i64 x.no, D.int .i64 x.at_, D.str x.source, D.sl (TId.rows x.ids), D.sl (TField.rows x.fields)] = TTouch.rows (l.set n x) := TTouch.rset l n x
theorem ok_set {α : Type} {p : α → Prop} {l : List α} (h : ∀ x ∈ l, p x) {n : Nat} {y : α} (hy : p y) : ∀ x ∈ l.set n y, p x := fun x hx => by
  rcases List.mem_or_eq_of_mem_set hx with h1 | rfl
  · exact h x h1
  · exact hy
theorem ok_get {l : List TTouch} (h : ∀ x ∈ l, x.ok) (n : Nat) : (l.getD n TTouch.z).ok := by
  rw [List.getD_eq_getElem?_getD]
  cases e : l[n]? with
  | none => exact TTouch.z_ok
  | some x => exact h x (List.mem_of_getElem? e)
def touchesG : Spec where
  pre xs := ∃ m : Int, xs = [.st, .i m] ∧ m ≤ 10
  post xs y := ∃ (m : Int) (l : List TTouch), xs = [.st, .i m] ∧ l.length ≤ 10 ∧ (∀ x ∈ l, x.ok) ∧ y = .sl (TTouch.rows l)
  cost _ := 2500
  fresh := false
set_option maxHeartbeats 8000000 in
theorem Touches_ctr {cx : Cx} (h : Seat cx) (hN : cx.glob 1 = some poolD) (hF : cx.glob 0 = some namesD) : Ctr cx 6 touchesG := by
  refine ctr_of (fn := Tryz.f6) (l := [.tmp 4]) (envL [(27, pickS), (29, flipS), (28, touchG)]) [0, 1, 4, 5, 6, 7, 8, 9, 27] [10] [(9, [0, 1, 2, 5], [3, 4, 6, 7, 8, 9, 10, 11])] (envL_cons (pick_ctr cx h.hP h.hS) (envL_cons (flip_ctr cx h.hP h.hS) (envL_cons (Touch_ctr h hN hF) (env0 h.hP)))) ?_ (by rw [h.hP]; exact Tryz.func6) rfl (by kernel_rfl) rfl ?_ ?_
  · rw [h.hP]; exact ⟨_, Tryz.func6, by kernel_rfl, by kernel_rfl⟩
  · rintro xs ⟨m, rfl, h1⟩; exact ⟨_, m, [], rfl, Nat.zero_le _, (fun x hx => by cases hx), rfl⟩
  · rintro xs ⟨m, rfl, h1⟩
    refine ⟨by rw [Tryz.ntmps6]; simp, ?_⟩
    simp only [go_sem, h.hP, List.cons_append, List.nil_append, Meets_e, Below_e, Prod.exists, exists_eq, exists_eq_left, exists_eq_left', exists_eq_right, exists_eq_right', exists_and_left, exists_and_right, Ob.arr.injEq, AV.own.injEq, AV.fv.injEq, touchesG, Tryz.ntmps6, Nat.reduceEqDiff, reduceCtorEq, Nat.reduceMul, Nat.reduceAdd, Nat.reduceSub, Nat.reduceDiv, Nat.reduceMod, Nat.reduceLeDiff, Nat.reduceLT, Nat.reduceBNe, Nat.reduceBEq, reduceIte, Int.reduceLE, Int.reduceLT, Int.reduceToNat, Int.reduceNeg, Int.reduceAdd, Int.reduceSub, Int.reduceMul, Int.reduceEq]
    refine vc_loopS (Int × Int × List TTouch) (fun (x : Int × Int × List TTouch) => match x with | (i, n, l) => [(8, .i i), (6, .i n), (5, .own 5)]) [] (fun (x : Int × Int × List TTouch) => match x with | (i, n, l) => []) (fun (x : Int × Int × List TTouch) => match x with | (i, n, l) => [(5, .arr 64 5 (TTouch.rows l))]) (fun (x : Int × Int × List TTouch) => match x with | (i, n, l) => 201 * i.toNat) (fun (x : Int × Int × List TTouch) => match x with | (i, n, l) => 0 ≤ i ∧ i ≤ max 0 m ∧ (l.length : Int) = i ∧ 0 ≤ n ∧ n ≤ 7 * i ∧ ∀ c ∈ l, c.ok) (fun (x : Int × Int × List TTouch) => match x with | (i, n, l) => (m - i).toNat) [(5, 64, 5)] ?_ ?_
    · simp only [go_sem, h.hP, List.cons_append, List.nil_append, Meets_e, Below_e, Prod.exists, exists_eq, exists_eq_left, exists_eq_left', exists_eq_right, exists_eq_right', exists_and_left, exists_and_right, Ob.arr.injEq, AV.own.injEq, AV.fv.injEq, TTouch.nil2, Tryz.ntmps6, Nat.reduceEqDiff, reduceCtorEq, Nat.reduceMul, Nat.reduceAdd, Nat.reduceSub, Nat.reduceDiv, Nat.reduceMod, Nat.reduceLeDiff, Nat.reduceLT, Nat.reduceBNe, Nat.reduceBEq, reduceIte, Int.reduceLE, Int.reduceLT, Int.reduceToNat, Int.reduceNeg, Int.reduceAdd, Int.reduceSub, Int.reduceMul, Int.reduceEq]
      exact ⟨by omega, rfl⟩
    · rintro ⟨i, n, l⟩ ⟨j1, j2, j3, j4, j5, j6⟩
      have hw : IntKind.i64.wrap (i + 1) = i + 1 := i64w (by omega) (by omega)
      simp only [go_sem, h.hP, List.cons_append, List.nil_append, Meets_e, Below_e, Prod.exists, exists_eq, exists_eq_left, exists_eq_left', exists_eq_right, exists_eq_right', exists_and_left, exists_and_right, Ob.arr.injEq, AV.own.injEq, AV.fv.injEq, touchesG, touchG, pickS_q, pickS_p, pickS_c, pickS_f, flipS_q, flipS_p, flipS_c, flipS_f, ints1, intsc, TTouch.row, TTouch.fold1, TTouch.app', TTouch.rows_inj, TTouch.zlT, TTouch.len, List.length_append, List.length_singleton, hw, Tryz.ntmps6, Nat.reduceEqDiff, reduceCtorEq, Nat.reduceMul, Nat.reduceAdd, Nat.reduceSub, Nat.reduceDiv, Nat.reduceMod, Nat.reduceLeDiff, Nat.reduceLT, Nat.reduceBNe, Nat.reduceBEq, reduceIte, Int.reduceLE, Int.reduceLT, Int.reduceToNat, Int.reduceNeg, Int.reduceAdd, Int.reduceSub, Int.reduceMul, Int.reduceEq]
      clear hw
      refine ⟨by omega, fun c => ⟨by omega, by omega, by omega, by omega, fun a ha => ?_⟩, fun c => ?_⟩
      · have ha2 : 1 ≤ a ∧ a ≤ 7 := by
          simp only [isIn, List.mem_cons, List.not_mem_nil, or_false] at ha
          omega
        have hw : IntKind.i64.wrap (n + a) = n + a := i64w (by omega) (by omega)
        rw [hw]
        refine ⟨by omega, by omega, by omega, by omega, by omega, ⟨by omega, by omega⟩, by omega, fun u hu => ?_⟩
        have ho : ∀ c ∈ l ++ [(⟨u.no, u.at_, u.source, u.ids, u.fields⟩ : TTouch)], c.ok := okL_app j6 hu
        (repeat' apply And.intro) <;> first | omega | exact ho
      · skip
        refine vc_cutT (List TTouch) (fun (l2 : List TTouch) => [(5, .sl (TTouch.rows l2)), (27, .un)]) [] (fun (l2 : List TTouch) => []) (fun (l2 : List TTouch) => []) (fun (l2 : List TTouch) => 2400) (fun (l2 : List TTouch) => l2.length ≤ 10 ∧ ∀ c ∈ l2, c.ok) [] ?_ ?_ ?_
        · rfl
        · simp only [go_sem, h.hP, List.cons_append, List.nil_append, Meets_e, Below_e, Prod.exists, exists_eq, exists_eq_left, exists_eq_left', exists_eq_right, exists_eq_right', exists_and_left, exists_and_right, Ob.arr.injEq, AV.own.injEq, AV.fv.injEq, flipS_q, flipS_p, flipS_c, flipS_f, TTouch.row, TTouch.get, TTouch.rows_inj, TTouch.len, rsetT, List.length_set, List.drop_succ_cons, List.drop_zero, List.drop_nil, Tryz.ntmps6, Nat.reduceEqDiff, reduceCtorEq, Nat.reduceMul, Nat.reduceAdd, Nat.reduceSub, Nat.reduceDiv, Nat.reduceMod, Nat.reduceLeDiff, Nat.reduceLT, Nat.reduceBNe, Nat.reduceBEq, reduceIte, Int.reduceLE, Int.reduceLT, Int.reduceToNat, Int.reduceNeg, Int.reduceAdd, Int.reduceSub, Int.reduceMul, Int.reduceEq]
          refine ⟨by omega, by omega, by omega, fun d => ⟨by omega, by omega, fun a => ⟨by omega, fun _ => ?_, fun _ => ⟨by omega, by omega, j6⟩⟩⟩, fun d => ⟨by omega, by omega, by omega, j6⟩⟩
          have ho := ok_set (ok_set j6 (n := 0) (ok_get j6 1)) (n := 1) (ok_get j6 0)
          (repeat' apply And.intro) <;> first | omega | exact ho
        · rintro l2 ⟨k1, k2⟩
          simp only [go_sem, h.hP, List.cons_append, List.nil_append, Meets_e, Below_e, Prod.exists, exists_eq, exists_eq_left, exists_eq_left', exists_eq_right, exists_eq_right', exists_and_left, exists_and_right, Ob.arr.injEq, AV.own.injEq, AV.fv.injEq, touchesG, TTouch.rows_inj, Tryz.ntmps6, Nat.reduceEqDiff, reduceCtorEq, Nat.reduceMul, Nat.reduceAdd, Nat.reduceSub, Nat.reduceDiv, Nat.reduceMod, Nat.reduceLeDiff, Nat.reduceLT, Nat.reduceBNe, Nat.reduceBEq, reduceIte, Int.reduceLE, Int.reduceLT, Int.reduceToNat, Int.reduceNeg, Int.reduceAdd, Int.reduceSub, Int.reduceMul, Int.reduceEq]
          exact ⟨l2, k1, k2, rfl⟩
end Go.Avc

/- The generator of rules of joining: its contract. No condition. -/
set_option linter.unusedVariables false
set_option linter.unusedSimpArgs false
set_option maxRecDepth 100000
namespace Go.Avc
open Go Go.Proofs

/-- Clone: a row of one's own that holds the same. -/
def cloneS : Spec where
  pre xs := ∃ l : List TId, xs = [.sl (TId.rows l)] ∧ l.length ≤ 1000000
  post xs y := ∃ l : List TId, xs = [.sl (TId.rows l)] ∧ y = .sl (TId.rows l)
  cost _ := 0
  fresh := true
set_option maxHeartbeats 2000000 in
theorem clone_empty (a : Addr) (c : Nat) (w : World) : Calls Tryz.prog 33 #[.slice (some a) 0 c] w fun e w' => ∃ v', e = .returned v' ∧ w'.ownsRow w.heap.size 42 2 v' 0 [] ∧ RowKit.Below w.heap.size w w' := by
  have q22 : ∀ (w : World) (a : Option Addr) (n c n' c' : Nat), (binOp .eql 29 (.slice a n c) (.slice none n' c')).run Tryz.prog w = .ok (.bool a.isNone) w := fun w a n c n' c' => Lib.run_eql_slice_nil w _ _ a n c n' c' Tryz.underlying29
  go_enter Tryz.func33, Tryz.ntmps33
  go_wp2
  go_ret
  exact ⟨_, rfl, ⟨rfl, .inr ⟨w.heap.size, 0, #[], rfl, Nat.le_refl _, heap_alloc_new w _, Nat.le_refl _, by decide, rfl, rfl⟩⟩, (RowKit.Below.refl _ w).alloc (Nat.le_refl _) _⟩
theorem clone_rest (l : List TId) (b o c : Nat) (w : World) (hl : l.length ≤ 1000000) (hc : ∀ j u, ((TId.rows l).flatten.map vD)[j]? = some u → w.cell? ⟨b, o + j, none⟩ = some u) :
    Calls Tryz.prog 33 #[.slice (some ⟨b, o, none⟩) l.length c] w fun e w' => ∃ v', e = .returned v' ∧ w'.ownsRow w.heap.size 42 2 v' l.length ((TId.rows l).flatten.map vD) ∧ RowKit.Below w.heap.size w w' := by
  obtain ⟨i0, hi, hz0, hz1, hz2⟩ := info_parts (P := Tryz.prog) (e := 42) (z := .agg #[.int .i64 0, .string ⟨#[]⟩]) (size := 2) (bytes := 24) (by kernel_rfl)
  have hcc : Tryz.prog.cellsOf 42 = 2 := by kernel_rfl
  have hs := fun w => size_run (P := Tryz.prog) (t := 42) (by rw [hcc]; decide) w
  rw [hcc] at hs
  have hlen : ((TId.rows l).flatten.map vD).length = l.length * 2 := flat_len (row := TId.row) (k := 2) (by decide) (fun _ => rfl) l
  refine (AnyE.slices_Clone Tryz.laysCloneId i0 _ 2 24 hi hz0 hz1 hz2 rfl (by decide) hs b o l.length c _ w hlen (by unfold maxLen; omega) (by omega) hc (fun u hu => ?_)).mono ?_
  · obtain ⟨y, hy, rfl⟩ := List.mem_map.1 hu
    exact oneV (List.all_eq_true.1 (flat_rows (row := TId.row) (fun _ => rfl) l) _ (List.mem_map.2 ⟨y, hy, rfl⟩))
  · rintro e w' ⟨v', h1, h2, _, h3⟩
    exact ⟨v', h1, h2, h3⟩
theorem Clone_own {cx : Cx} (h : Seat cx) : CtrO cx 33 cloneS 42 2 := by
  refine ⟨by rw [h.hP]; exact ⟨_, Tryz.func33, by kernel_rfl, by kernel_rfl⟩, fun _ => ?_, fun hz => by omega⟩
  rintro F xs vals hcx hF hst hgl hco hlen hargs ⟨l, rfl, hl⟩
  obtain ⟨u, rfl⟩ : ∃ u, vals = [u] := List.length_eq_one_iff.1 (by simpa using hlen.symm)
  have hu : Rd F.ok F.w0 (.sl (TId.rows l)) u := hargs 0 _ u rfl rfl
  have fin : ∀ (e : Ending) (w' : World), (∃ v', e = .returned v' ∧ World.ownsRow w' F.w0.heap.size 42 2 v' l.length ((TId.rows l).flatten.map vD) ∧ RowKit.Below F.w0.heap.size F.w0 w') →
      ∃ (v : Value) (r : AV), e = .returned v ∧ Gr cx.g F.w0 w' ∧ StAt cx (F.N + cloneS.cost [.sl (TId.rows l)]) w' ∧ cloneS.post [.sl (TId.rows l)] r ∧ Hands w' F.w0.heap.size 42 2 v r := by
    rintro e w' ⟨v', rfl, hown, hb⟩
    have hg : Gr cx.g F.w0 w' := ⟨hb.os, hb.tape, hb.output, hb.size, fun k hk _ => hb.block k hk⟩
    refine ⟨v', .sl (TId.rows l), rfl, hg, hst.keep hb.size (fun k hk => hb.block k hk), ⟨l, rfl, rfl⟩, .inl ⟨TId.rows l, (TId.rows l).flatten.map vD, by decide, rfl, by rw [TId.len]; exact hown, len_rows (row := TId.row) (fun _ => rfl) l, rdL_flat_mk (flat_rows (row := TId.row) (fun _ => rfl) l)⟩⟩
  rw [h.hP]
  generalize hL : TId.rows l = L at hu
  cases hu with
  | nil A c =>
    obtain rfl : l = [] := by
      have := congrArg List.length hL
      rw [TId.len] at this
      exact List.eq_nil_of_length_eq_zero this
    cases A with
    | none => exact (AnyE.slices_Clone_nil Tryz.laysCloneId 0 c F.w0).mono fun e w' ⟨e1, e2⟩ => fin e w' ⟨_, e1, World.ownsRow_nil .., e2 ▸ below_same rfl⟩
    | some a => exact (clone_empty a c F.w0).mono fun e w' hq => fin e w' hq
  | sl _ z b o c uu hc hb hlt hz hcell hr =>
    rw [← hL, TId.len]
    refine (clone_rest l b o c F.w0 hl fun j v hj => ?_).mono fun e w' hq => fin e w' hq
    subst hL
    have hj2 : j < l.length * 2 := by
      have := (List.getElem?_eq_some_iff.1 hj).1
      exact Nat.lt_of_lt_of_eq this (flat_len (row := TId.row) (k := 2) (by decide) (fun _ => rfl) l)
    obtain ⟨x, h1, h2, h3⟩ := (flat_index (z := 2) (by decide) (len_rows (row := TId.row) (fun _ => rfl) l)).2 j (by rw [List.length_map]; exact hj2)
    have hx2 : x.length = 2 := len_rows (row := TId.row) (fun _ => rfl) l _ x h1
    have hzz : z = 2 := by rw [← hx2]; exact (hz _ x h1).symm
    obtain ⟨y, hy⟩ : ∃ y, x[j % 2]? = some y := ⟨_, List.getElem?_eq_getElem h3⟩
    have h4 := hcell _ x h1 _ y hy
    have h5 := hr _ x h1 _ y hy
    rw [List.getElem?_map] at hj
    have h6 : (TId.rows l).flatten[j]? = some y := h2.trans hy
    rw [h6] at hj
    cases hj
    have hyk : y.ek.ok = true := List.all_eq_true.1 (flat_rows (row := TId.row) (fun _ => rfl) l) _ (List.mem_map.2 ⟨y, List.mem_of_getElem? h6, rfl⟩)
    rw [rd_vD h5 hyk] at h4
    rw [hzz] at h4
    rw [show o + j = o + j / 2 * 2 + j % 2 by omega]
    exact h4
def joinG : Spec where
  pre xs := xs = [.st]
  post xs y := ∃ r : TJoinRules, r.ok ∧ y = .dv (.ag r.row)
  cost _ := 2000
  fresh := false
set_option maxHeartbeats 16000000 in
theorem JoinRules_ctr {cx : Cx} (h : Seat cx) (hN : cx.glob 1 = some poolD) (hF : cx.glob 0 = some namesD) : Ctr cx 8 joinG := by
  refine ctr_of (fn := Tryz.f8) (l := [.cell 2 32]) (envO [(30, nextS), (27, pickS), (29, flipS), (7, rangeS), (35, oneS), (32, oddS), (34, (idG 5))] [] [(31, idsG, 42, 2), (33, cloneS, 42, 2)]) [0, 2, 3, 5, 6, 26, 27, 28, 31, 38, 56, 58, 59, 60, 69, 81, 86, 96, 109] [11, 27] [(1, [], [17, 19])] (envO_cons (Ids_own h hN) (envO_cons (Clone_own h) (envO_nil (envF_nil (envL_cons (next_ctr cx h.hP h.hS) (envL_cons (pick_ctr cx h.hP h.hS) (envL_cons (flip_ctr cx h.hP h.hS) (envL_cons (range_ctr cx h.hP h.hS) (envL_cons (one_ctr h) (envL_cons (odd_ctr h) (envL_cons (SpoiledId_ctr h hN) (env0 h.hP)))))))))))) ?_ (by rw [h.hP]; exact Tryz.func8) rfl (by kernel_rfl) rfl ?_ ?_
  · rw [h.hP]; exact ⟨_, Tryz.func8, by kernel_rfl, by kernel_rfl⟩
  · rintro xs rfl; exact ⟨_, TJoinRules.z, TJoinRules.z_ok, rfl⟩
  · rintro xs rfl
    refine ⟨by rw [Tryz.ntmps8]; simp, ?_⟩
    simp only [go_sem, h.hP, List.cons_append, List.nil_append, Meets_e, Below_e, Prod.exists, exists_eq, exists_eq_left, exists_eq_left', exists_eq_right, exists_eq_right', exists_and_left, exists_and_right, Ob.arr.injEq, AV.own.injEq, AV.fv.injEq, joinG, idsG, nextS_q, nextS_p, nextS_c, nextS_f, pickS_q, pickS_p, pickS_c, pickS_f, ints1, intsc, hF, Tryz.ntmps8, Nat.reduceEqDiff, reduceCtorEq, Nat.reduceMul, Nat.reduceAdd, Nat.reduceSub, Nat.reduceDiv, Nat.reduceMod, Nat.reduceLeDiff, Nat.reduceLT, Nat.reduceBNe, Nat.reduceBEq, reduceIte, Int.reduceLE, Int.reduceLT, Int.reduceToNat, Int.reduceNeg, Int.reduceAdd, Int.reduceSub, Int.reduceMul, Int.reduceEq]
    intro a a0 a5
    have hk : ∃ ks : List Int, okL okI ks ∧ [[D.sl (intsD [1, 2])], [D.sl (intsD [1, 2, 3, 4])], [D.sl (intsD [1])], [D.sl (intsD [2, 3])], [D.sl (intsD [4])]].getD a.toNat [D.sl []] = [D.sl (intsD ks)] := by
      have ok : ∀ ks : List Int, (ks.length ≤ 4 ∧ ks.all (fun y => decide (0 ≤ y ∧ y ≤ 10)) = true) → okL okI ks := fun ks h => ⟨Nat.le_trans h.1 (by decide), fun x hx => by
        have := List.all_eq_true.1 h.2 x hx
        rw [decide_eq_true_eq] at this
        exact ⟨by omega, by omega⟩⟩
      obtain ⟨n, rfl⟩ : ∃ n : Nat, a = n := ⟨a.toNat, by omega⟩
      rw [Int.toNat_natCast]
      match n with
      | 0 => exact ⟨[1, 2], ok _ (by decide), rfl⟩
      | 1 => exact ⟨[1, 2, 3, 4], ok _ (by decide), rfl⟩
      | 2 => exact ⟨[1], ok _ (by decide), rfl⟩
      | 3 => exact ⟨[2, 3], ok _ (by decide), rfl⟩
      | 4 => exact ⟨[4], ok _ (by decide), rfl⟩
      | n + 5 => omega
    obtain ⟨ks, hks, hk⟩ := hk
    rw [hk]
    simp only [go_sem, h.hP, List.cons_append, List.nil_append, Meets_e, Below_e, Prod.exists, exists_eq, exists_eq_left, exists_eq_left', exists_eq_right, exists_eq_right', exists_and_left, exists_and_right, Ob.arr.injEq, AV.own.injEq, AV.fv.injEq, joinG, Tryz.ntmps8, Nat.reduceEqDiff, reduceCtorEq, Nat.reduceMul, Nat.reduceAdd, Nat.reduceSub, Nat.reduceDiv, Nat.reduceMod, Nat.reduceLeDiff, Nat.reduceLT, Nat.reduceBNe, Nat.reduceBEq, reduceIte, Int.reduceLE, Int.reduceLT, Int.reduceToNat, Int.reduceNeg, Int.reduceAdd, Int.reduceSub, Int.reduceMul, Int.reduceEq]
    refine ⟨a0, by omega, fun m hm q hq => ?_⟩
    have hq2 : q ≤ 10 := by
      simp only [isIn, List.mem_cons, List.not_mem_nil, or_false] at hq
      omega
    refine ⟨hq2, fun ids hi1 hi2 => ?_⟩
    refine vc_cutS (List TSurvival) (fun (sv : List TSurvival) => [(5, .un), (6, .un), (26, .un), (27, .un), (28, .un), (31, .un), (38, .un)]) [2, 3, 24] (fun (sv : List TSurvival) => [(3, 3, .own 10303)]) (fun (sv : List TSurvival) => [(10303, .arr 73 3 (TSurvival.rows sv))]) (fun (sv : List TSurvival) => 130) (fun (sv : List TSurvival) => sv.length ≤ 6 ∧ ∀ c ∈ sv, c.ok) [] ?_ ?_ ?_
    · rfl
    · simp only [go_sem, h.hP, List.cons_append, List.nil_append, Meets_e, Below_e, Prod.exists, exists_eq, exists_eq_left, exists_eq_left', exists_eq_right, exists_eq_right', exists_and_left, exists_and_right, Ob.arr.injEq, AV.own.injEq, AV.fv.injEq, joinG, hF, Tryz.ntmps8, Nat.reduceEqDiff, reduceCtorEq, Nat.reduceMul, Nat.reduceAdd, Nat.reduceSub, Nat.reduceDiv, Nat.reduceMod, Nat.reduceLeDiff, Nat.reduceLT, Nat.reduceBNe, Nat.reduceBEq, reduceIte, Int.reduceLE, Int.reduceLT, Int.reduceToNat, Int.reduceNeg, Int.reduceAdd, Int.reduceSub, Int.reduceMul, Int.reduceEq]
      refine ⟨by rw [namesD_len]; decide, ?_⟩
      refine vc_loopS (Int × List TSurvival) (fun (x : Int × List TSurvival) => match x with | (i, sv) => [(27, .i i)]) [2, 3, 24] (fun (x : Int × List TSurvival) => match x with | (i, sv) => [(3, 3, .own 10303)]) (fun (x : Int × List TSurvival) => match x with | (i, sv) => [(10303, .arr 73 3 (TSurvival.rows sv))]) (fun (x : Int × List TSurvival) => match x with | (i, sv) => 103 + 4 * i.toNat) (fun (x : Int × List TSurvival) => match x with | (i, sv) => 0 ≤ i ∧ i ≤ 6 ∧ (sv.length : Int) ≤ i ∧ ∀ c ∈ sv, c.ok) (fun (x : Int × List TSurvival) => match x with | (i, sv) => (6 - i).toNat) [(10303, 73, 3)] ?_ ?_
      · simp only [go_sem, h.hP, List.cons_append, List.nil_append, Meets_e, Below_e, Prod.exists, exists_eq, exists_eq_left, exists_eq_left', exists_eq_right, exists_eq_right', exists_and_left, exists_and_right, Ob.arr.injEq, AV.own.injEq, AV.fv.injEq, TSurvival.nil2, Tryz.ntmps8, Nat.reduceEqDiff, reduceCtorEq, Nat.reduceMul, Nat.reduceAdd, Nat.reduceSub, Nat.reduceDiv, Nat.reduceMod, Nat.reduceLeDiff, Nat.reduceLT, Nat.reduceBNe, Nat.reduceBEq, reduceIte, Int.reduceLE, Int.reduceLT, Int.reduceToNat, Int.reduceNeg, Int.reduceAdd, Int.reduceSub, Int.reduceMul, Int.reduceEq]
        exact Int.le_refl _
      · rintro ⟨i, sv⟩ ⟨j1, j2, j3, j4⟩
        have hw : IntKind.i64.wrap (i + 1) = i + 1 := i64w (by omega) (by omega)
        simp only [go_sem, h.hP, List.cons_append, List.nil_append, Meets_e, Below_e, Prod.exists, exists_eq, exists_eq_left, exists_eq_left', exists_eq_right, exists_eq_right', exists_and_left, exists_and_right, Ob.arr.injEq, AV.own.injEq, AV.fv.injEq, joinG, nextS_q, nextS_p, nextS_c, nextS_f, flipS_q, flipS_p, flipS_c, flipS_f, rangeS_q, rangeS_p, rangeS_c, rangeS_f, strs1, strsc, TSurvival.row, TSurvival.fold1, TSurvival.app', TSurvival.rows_inj, TSurvival.zlT, TSurvival.len, List.length_append, List.length_singleton, namesD_len, namesD_take, namesD_get, hw, Tryz.ntmps8, Nat.reduceEqDiff, reduceCtorEq, Nat.reduceMul, Nat.reduceAdd, Nat.reduceSub, Nat.reduceDiv, Nat.reduceMod, Nat.reduceLeDiff, Nat.reduceLT, Nat.reduceBNe, Nat.reduceBEq, reduceIte, Int.reduceLE, Int.reduceLT, Int.reduceToNat, Int.reduceNeg, Int.reduceAdd, Int.reduceSub, Int.reduceMul, Int.reduceEq]
        clear hw
        have c0 : 103 + 4 * i.toNat ≤ 2000 := by omega
        have c1 : 103 + 4 * i.toNat ≤ 1999 := by omega
        have c2 : 103 + 4 * i.toNat ≤ 1998 := by omega
        have c3 : 103 + 4 * i.toNat ≤ 1997 := by omega
        have c4 : 103 + 4 * i.toNat ≤ 130 := by omega
        have c5 : sv.length ≤ 6 := by omega
        have c6 : (sv.length + 1) * 48 ≤ 140737488355328 := by omega
        have c7 : sv.length ≤ 9223372036854775806 := by omega
        simp only [c0, c1, c2, c3, c4, c5, c6, c7, j1, true_and, and_true, implies_true]
        have fin : ∀ (p : Int) (ss : List ByteArray) (k : Nat), 1 ≤ p → p ≤ 7 → okL okS ss → k ≤ 3 → i < 6 → ∃ x, TSurvival.rows sv ++ [[D.str (namesL.getD i.toNat ⟨#[]⟩), D.int .i64 p, D.sl (rowsT ss)]] = TSurvival.rows x ∧ 103 + 4 * i.toNat + k ≤ 103 + 4 * (i + 1).toNat ∧ 0 ≤ i + 1 ∧ i + 1 ≤ 6 ∧ (x.length : Int) ≤ i + 1 ∧ (∀ c ∈ x, c.ok) ∧ (6 - (i + 1)).toNat < (6 - i).toNat := fun p ss k h1 h2 h3 h4 h5 =>
          ⟨sv ++ [(⟨namesL.getD i.toNat ⟨#[]⟩, p, ss⟩ : TSurvival)], (TSurvival.app sv [(⟨namesL.getD i.toNat ⟨#[]⟩, p, ss⟩ : TSurvival)]).symm, by omega, by omega, by omega, by rw [List.length_append, List.length_singleton]; omega, okL_app j4 ⟨names_ok _, ⟨by dsimp only; omega, by dsimp only; omega⟩, h3⟩, by omega⟩
        refine ⟨fun hi6 => ⟨hi6, hi6, fun f => ⟨fun _ p p1 p7 => ⟨fun _ u u0 u4 => ?_, fun _ => fin p [] 2 p1 p7 (okL_z _) (by omega) hi6⟩, fun _ => ⟨by omega, by omega, by omega, by omega, j4, by omega⟩⟩⟩, fun _ => j4⟩
        have hk : ∃ ss : List ByteArray, okL okS ss ∧ [[D.sl []], [D.sl (rowsT [⟨#[115, 104, 111, 112]⟩])], [D.sl (rowsT [⟨#[100, 101, 115, 107]⟩, ⟨#[115, 104, 111, 112]⟩])], [D.sl (rowsT [⟨#[97, 112, 112]⟩, ⟨#[110, 111, 119, 104, 101, 114, 101]⟩, ⟨#[100, 101, 115, 107]⟩])]].getD u.toNat [D.sl []] = [D.sl (rowsT ss)] := by
          have ok : ∀ ss : List ByteArray, (ss.length ≤ 4 ∧ ss.all (fun y => decide (y.size ≤ 1000)) = true) → okL okS ss := fun ss h => ⟨Nat.le_trans h.1 (by decide), fun x hx => okS_of (by simpa using List.all_eq_true.1 h.2 x hx)⟩
          obtain ⟨n, rfl⟩ : ∃ n : Nat, u = n := ⟨u.toNat, by omega⟩
          rw [Int.toNat_natCast]
          match n with
          | 0 => exact ⟨[], ok _ (by decide), rfl⟩
          | 1 => exact ⟨_, ok _ (by decide), rfl⟩
          | 2 => exact ⟨_, ok _ (by decide), rfl⟩
          | 3 => exact ⟨_, ok _ (by decide), rfl⟩
          | n + 4 => omega
        obtain ⟨ss, hss, hk⟩ := hk
        rw [hk]
        exact ⟨u0, u4, rfl, by simp, fin p ss 3 p1 p7 hss (by omega) hi6⟩
    · rintro sv ⟨k1, k2⟩
      refine vc_cutS (TJoinRules) (fun (r : TJoinRules) => [(56, .un), (58, .un), (59, .un), (60, .un), (69, .un), (81, .un), (86, .un), (96, .un), (109, .un)]) [2, 3] (fun (r : TJoinRules) => [(3, 0, .sl (intsD r.kinds)), (3, 1, .i r.most), (3, 2, .sl (TId.rows r.weak)), (3, 3, .sl (TSurvival.rows r.survive))]) (fun (r : TJoinRules) => []) (fun (r : TJoinRules) => 1900) (fun (r : TJoinRules) => r.ok) [] ?_ ?_ ?_
      · rfl
      · simp only [go_sem, h.hP, List.cons_append, List.nil_append, Meets_e, Below_e, Prod.exists, exists_eq, exists_eq_left, exists_eq_left', exists_eq_right, exists_eq_right', exists_and_left, exists_and_right, Ob.arr.injEq, AV.own.injEq, AV.fv.injEq, joinG, flipS_q, flipS_p, flipS_c, flipS_f, nextS_q, nextS_p, nextS_c, nextS_f, rangeS_q, rangeS_p, rangeS_c, rangeS_f, oddS_q, oddS_p, oddS_c, oddS_f, oneS_q, oneS_p, oneS_c, oneS_f, idG, cloneS, strs1, strsc, ints1, intsc, Tryz.ntmps8, Nat.reduceEqDiff, reduceCtorEq, Nat.reduceMul, Nat.reduceAdd, Nat.reduceSub, Nat.reduceDiv, Nat.reduceMod, Nat.reduceLeDiff, Nat.reduceLT, Nat.reduceBNe, Nat.reduceBEq, reduceIte, Int.reduceLE, Int.reduceLT, Int.reduceToNat, Int.reduceNeg, Int.reduceAdd, Int.reduceSub, Int.reduceMul, Int.reduceEq]
        have hm2 : okI m := by
          simp only [isIn, List.mem_cons, List.not_mem_nil, or_false] at hm
          exact ⟨by omega, by omega⟩
        have hsv : okL TSurvival.ok sv := ⟨by omega, k2⟩
        have hid : okL TId.ok ids := ⟨by omega, hi2⟩
        have mk : ∀ (ks' : List Int) (m' : Int) (ids' : List TId) (sv' : List TSurvival), okL okI ks' → okI m' → okL TId.ok ids' → okL TSurvival.ok sv' → ∃ i : TJoinRules, intsD ks' = intsD i.kinds ∧ m' = i.most ∧ TId.rows ids' = TId.rows i.weak ∧ TSurvival.rows sv' = TSurvival.rows i.survive ∧ i.ok := fun ks' m' ids' sv' h1 h2 h3 h4 => ⟨⟨ks', m', ids', sv'⟩, rfl, rfl, rfl, rfl, h1, h2, h3, h4⟩
        have hsl : ∀ n : Nat, (TSurvival.rows sv).length = n → n ≤ 6 := fun n hn => by rw [← hn, TSurvival.len]; exact k1
        have hs1 := hsl _ rfl
        refine fun f => ⟨fun _ u u0 u6 => ⟨fun _ v v0 v5 => ?_, fun _ => ⟨fun _ p p1 p2 => mk ks p ids sv hks ⟨by omega, by omega⟩ hid hsv, fun _ => ⟨fun _ => ?_, fun _ => ⟨fun _ s hs p p1 p2 => ⟨by omega, by omega, ?_⟩, fun _ => ⟨fun _ p p1 p7 s hs s' hs' => ⟨by omega, by omega, ?_⟩, fun _ => ?_⟩⟩⟩⟩⟩, fun _ => mk ks m ids sv hks hm2 hid hsv⟩
        · have hv : ∃ ks' : List Int, okL okI ks' ∧ [[D.sl []], [D.sl (intsD [2, 1])], [D.sl (intsD [0])], [D.sl (intsD [5])], [D.sl (intsD [1, 1])]].getD v.toNat [D.sl []] = [D.sl (intsD ks')] := by
            have ok : ∀ ks : List Int, (ks.length ≤ 4 ∧ ks.all (fun y => decide (0 ≤ y ∧ y ≤ 10)) = true) → okL okI ks := fun ks h => ⟨Nat.le_trans h.1 (by decide), fun x hx => by
              have := List.all_eq_true.1 h.2 x hx
              rw [decide_eq_true_eq] at this
              exact ⟨by omega, by omega⟩⟩
            obtain ⟨n, rfl⟩ : ∃ n : Nat, v = n := ⟨v.toNat, by omega⟩
            rw [Int.toNat_natCast]
            match n with
            | 0 => exact ⟨[], ok _ (by decide), rfl⟩
            | 1 => exact ⟨_, ok _ (by decide), rfl⟩
            | 2 => exact ⟨_, ok _ (by decide), rfl⟩
            | 3 => exact ⟨_, ok _ (by decide), rfl⟩
            | 4 => exact ⟨_, ok _ (by decide), rfl⟩
            | n + 5 => omega
          obtain ⟨ks', hks', hv⟩ := hv
          rw [hv]
          exact ⟨v0, v5, rfl, by simp, (mk ks' m ids sv hks' hm2 hid hsv).imp fun i hi => ⟨congrArg D.sl hi.1, hi.2⟩⟩
        · refine ⟨⟨ids, rfl, by omega⟩, fun l hl x hx => ?_⟩
          have hl' : ids = l := by rw [TId.rows_inj] at hl; exact hl
          subst hl'
          refine ⟨rfl, rfl, by rw [TId.len]; omega, by rw [TId.len]; omega, mk ks m (ids ++ [x]) sv hks hm2 ⟨by rw [List.length_append, List.length_singleton]; omega, okL_app hi2 hx⟩ hsv |>.imp fun i hi => ?_⟩
          rw [TId.app] at hi
          exact hi
        · refine mk ks m ids (sv ++ [⟨s, p, []⟩]) hks hm2 hid ⟨by rw [List.length_append, List.length_singleton]; omega, okL_app k2 ⟨okS_of (isOf_ok hs (by decide +kernel)), ⟨by dsimp only; omega, by dsimp only; omega⟩, okL_z _⟩⟩ |>.imp fun i hi => ?_
          rw [TSurvival.app] at hi
          exact hi
        · refine mk ks m ids (sv ++ [(⟨⟨#[122, 111, 111]⟩, p, [s, s']⟩ : TSurvival)]) hks hm2 hid ⟨by rw [List.length_append, List.length_singleton]; omega, okL_app k2 ⟨okS_of (by show (3 : Nat) ≤ 1000; decide), ⟨by dsimp only; omega, by dsimp only; omega⟩, ?_⟩⟩ |>.imp fun i hi => ?_
          · refine ⟨by show 2 ≤ _; decide, fun y hy => ?_⟩
            simp only [List.mem_cons, List.not_mem_nil, or_false] at hy
            rcases hy with rfl | rfl
            · exact okS_of (isOf_ok hs (by decide +kernel))
            · exact okS_of (isOf_ok hs' (by decide +kernel))
          · rw [TSurvival.app] at hi
            exact hi
        · refine vc_loopS (Int × List TId) (fun (x : Int × List TId) => match x with | (i, wk) => [(59, .i i)]) [2, 3, 10303] (fun (x : Int × List TId) => match x with | (i, wk) => [(3, 2, .own 24)]) (fun (x : Int × List TId) => match x with | (i, wk) => [(24, .arr 42 2 (TId.rows wk))]) (fun (x : Int × List TId) => match x with | (i, wk) => 132) (fun (x : Int × List TId) => match x with | (i, wk) => 0 ≤ i ∧ i ≤ 201 ∧ (wk.length : Int) ≤ 10 + i ∧ ∀ c ∈ wk, c.ok) (fun (x : Int × List TId) => match x with | (i, wk) => (201 - i).toNat) [] ?_ ?_
          · simp only [go_sem, h.hP, List.cons_append, List.nil_append, Meets_e, Below_e, Prod.exists, exists_eq, exists_eq_left, exists_eq_left', exists_eq_right, exists_eq_right', exists_and_left, exists_and_right, Ob.arr.injEq, AV.own.injEq, AV.fv.injEq, joinG, TId.rows_inj, Tryz.ntmps8, Nat.reduceEqDiff, reduceCtorEq, Nat.reduceMul, Nat.reduceAdd, Nat.reduceSub, Nat.reduceDiv, Nat.reduceMod, Nat.reduceLeDiff, Nat.reduceLT, Nat.reduceBNe, Nat.reduceBEq, reduceIte, Int.reduceLE, Int.reduceLT, Int.reduceToNat, Int.reduceNeg, Int.reduceAdd, Int.reduceSub, Int.reduceMul, Int.reduceEq]
            exact ⟨by omega, hi2⟩
          · rintro ⟨i, wk⟩ ⟨j1, j2, j3, j4⟩
            have hw : IntKind.i64.wrap (i + 1) = i + 1 := i64w (by omega) (by omega)
            simp only [go_sem, h.hP, List.cons_append, List.nil_append, Meets_e, Below_e, Prod.exists, exists_eq, exists_eq_left, exists_eq_left', exists_eq_right, exists_eq_right', exists_and_left, exists_and_right, Ob.arr.injEq, AV.own.injEq, AV.fv.injEq, joinG, hN, TId.row, TId.fold1, TId.app', TId.rows_inj, TId.zlT, TId.len, List.length_append, List.length_singleton, hw, Tryz.ntmps8, Nat.reduceEqDiff, reduceCtorEq, Nat.reduceMul, Nat.reduceAdd, Nat.reduceSub, Nat.reduceDiv, Nat.reduceMod, Nat.reduceLeDiff, Nat.reduceLT, Nat.reduceBNe, Nat.reduceBEq, reduceIte, Int.reduceLE, Int.reduceLT, Int.reduceToNat, Int.reduceNeg, Int.reduceAdd, Int.reduceSub, Int.reduceMul, Int.reduceEq]
            clear hw
            refine ⟨fun hi => ⟨by decide, by decide, rfl, rfl, by omega, by omega, wk ++ [poolL.getD 0 TId.z], (TId.app wk [poolL.getD 0 TId.z]).symm, by omega, by omega, by rw [List.length_append, List.length_singleton]; omega, okL_app j4 (pool_ok 0).1, by omega⟩, fun hi => ?_⟩
            obtain ⟨r, h1, h2, h3, h4, h5⟩ := mk ks m wk sv hks hm2 ⟨by omega, j4⟩ hsv
            exact ⟨r, h1, h2, by rw [TId.rows_inj] at h3; exact h3, h4, h5⟩
      · rintro r hr
        simp only [go_sem, h.hP, List.cons_append, List.nil_append, Meets_e, Below_e, Prod.exists, exists_eq, exists_eq_left, exists_eq_left', exists_eq_right, exists_eq_right', exists_and_left, exists_and_right, Ob.arr.injEq, AV.own.injEq, AV.fv.injEq, joinG, Tryz.ntmps8, Nat.reduceEqDiff, reduceCtorEq, Nat.reduceMul, Nat.reduceAdd, Nat.reduceSub, Nat.reduceDiv, Nat.reduceMod, Nat.reduceLeDiff, Nat.reduceLT, Nat.reduceBNe, Nat.reduceBEq, reduceIte, Int.reduceLE, Int.reduceLT, Int.reduceToNat, Int.reduceNeg, Int.reduceAdd, Int.reduceSub, Int.reduceMul, Int.reduceEq]
        exact ⟨r, hr, rfl⟩
end Go.Avc

/- TouchChecks: its walk. No condition. -/
set_option linter.unusedVariables false
set_option linter.unusedSimpArgs false
set_option maxRecDepth 100000
namespace Go.Avc
open Go Go.Proofs

theorem maxL_of {cx W0 : Cx} {m : Int} (hW : W0.glob 2 = some [.int .i64 m]) (h : ∀ w, GlAt cx w → GlAt W0 w) : MaxL cx := by
  intro w hw
  obtain ⟨_, _, cs, hc, hr⟩ := h w hw 2 _ hW
  obtain ⟨v, hv, hr⟩ := hr.get (j := 0) (x := .int .i64 m) rfl
  refine ⟨m, ?_⟩
  have := hc 0 v hv
  rw [this]
  cases hr
  rfl
set_option maxHeartbeats 8000000 in
theorem tc_walk {L : List Int} {A : Option Addr} {cp : Nat} {W : World} (hng : 5 ≤ W.heap.size) (hrd : Rd (fun k => k < W.heap.size) W (.sl (intRows L)) (.slice A L.length cp)) {glob : Nat → Option (List D)} (hgl : GlAt ⟨Tryz.prog, none, L, 25, 5, glob⟩ W) (hU : ∀ cx : Cx, (∀ w, GlAt cx w → GlAt ⟨Tryz.prog, none, L, 25, 5, glob⟩ w) → Utf8 cx) (hfn : glob 0 = some namesD) (hip : glob 1 = some poolD) {m : Int} (hml : glob 2 = some [.int .i64 m]) :
    Calls Tryz.prog 3 [Value.slice A L.length cp].toArray W fun e W' => e = .returned (.bool true) ∧ RowKit.Below W.heap.size W W' := by
  refine law_calls (E := envL [(7, rangeS), (6, touchesG), (8, joinG), (9, touchesS), (10, touchesS), (11, rulesJS), (12, rulesJS), (13, peopleS)]) (B := 5000) (live := [0, 2, 3, 4, 5]) (HH := []) (hz := []) (d := 2) (x1 := 6) (x2 := 7) (x3 := 8) (x4 := 3) (ng := 5) (glob := glob) Tryz.func3 rfl rfl (by kernel_rfl) ⟨rfl, rfl, rfl⟩ ⟨rfl, rfl, rfl⟩ ⟨rfl, rfl, rfl⟩ ⟨rfl, rfl, rfl⟩ ⟨rfl, rfl, rfl⟩ build_stream ⟨by simp, by decide, by decide, by decide, by decide, by decide, by rw [Tryz.ntmps3]; decide⟩ (ex := []) (xv := []) rfl (fun i x u hx hu => by simp at hx) (by decide) hng hrd hgl ?_
  intro cx hP hS hG hGl
  have h : Seat cx := ⟨hP, hS⟩
  refine ⟨envL_cons (range_ctr cx h.hP h.hS) (envL_cons (Touches_ctr h ((congrFun hGl _).trans hip) ((congrFun hGl _).trans hfn)) (envL_cons (JoinRules_ctr h ((congrFun hGl _).trans hip) ((congrFun hGl _).trans hfn)) (envL_cons (Check_ctr h (hU cx hG) (maxL_of hml hG)) (envL_cons (TouchesFault_ctr h (hU cx hG) (maxL_of hml hG)) (envL_cons (CheckRulesJ_ctr h (maxL_of hml hG)) (envL_cons (RulesFaultJ_ctr h (maxL_of hml hG)) (envL_cons (people_ctr h (hU cx hG)) (env0 h.hP)))))))), ?_⟩
  simp only [go_sem, h.hP, List.cons_append, List.nil_append, Meets_e, Below_e, Prod.exists, exists_eq, exists_eq_left, exists_eq_left', exists_eq_right, exists_eq_right', exists_and_left, exists_and_right, Ob.arr.injEq, AV.own.injEq, AV.fv.injEq, touchesG, joinG, peopleS, rangeS_q, rangeS_p, rangeS_c, rangeS_f, touchesS_q, touchesS_p, touchesS_c, touchesS_f, rulesJS_q, rulesJS_p, rulesJS_c, rulesJS_f, TJoinRules.row, Tryz.ntmps3, Nat.reduceEqDiff, reduceCtorEq, Nat.reduceMul, Nat.reduceAdd, Nat.reduceSub, Nat.reduceDiv, Nat.reduceMod, Nat.reduceLeDiff, Nat.reduceLT, Nat.reduceBNe, Nat.reduceBEq, reduceIte, Int.reduceLE, Int.reduceLT, Int.reduceToNat, Int.reduceNeg, Int.reduceAdd, Int.reduceSub, Int.reduceMul, Int.reduceEq]
  exact fun a h0 h1 => ⟨by omega, fun l h2 h3 r hr => ⟨⟨by omega, h3⟩, ⟨by omega, h3⟩, hr, hr⟩⟩
end Go.Avc

/- TouchChecks returns true for every slice of numbers, and leaves it as it was; the two tables of unicode/utf8, the pool of ids and the names of fields, which its row lists, lie as the program lays them. -/
set_option linter.unusedVariables false
set_option linter.unusedSimpArgs false
set_option maxRecDepth 100000
namespace Go.Proofs.YtjeljamjocligaaGreatDoor.touchChecks
open Go.ChangeShapes Go.ChangeMaps Go.WideShapes Go.ChangeAt Go.RowKit Go.Avc

def exF (m : Int) : Nat → Option (List D)
  | 1 => some poolD
  | 0 => some namesD
  | 2 => some [.int .i64 m]
  | _ => none
theorem lies {W : World} {m : Int} (hm : W.cell? ⟨2, 0, none⟩ = some (.int .i64 m)) (hL : laidMetH Tryz.prog Rows.touchChecksRow.laid W) : Lies W (exF m) := by
  intro k l hk
  have hk' : exF m k = some l := hk
  match k, hk' with
  | 1, hk' =>
    cases hk'
    have h := lies_of_reads (l := poolD) (m := 20) (Lib.laidMet.reads hL (n := "handbill/handmake.idPool") (d := Rows.laid_handbill_handmake_idPool) (by simp [Rows.touchChecksRow])) (g := 1) rfl rfl (by kernel_rfl) (by kernel_rfl) (by decide)
    exact ⟨by decide, h.1, by decide, h.2⟩
  | 0, hk' =>
    cases hk'
    have h := lies_of_reads (l := namesD) (m := 6) (Lib.laidMet.reads hL (n := "handbill/handmake.fieldNames") (d := Rows.laid_handbill_handmake_fieldNames) (by simp [Rows.touchChecksRow])) (g := 0) rfl rfl (by kernel_rfl) (by kernel_rfl) (by decide)
    exact ⟨by decide, h.1, by decide, h.2⟩
  | 2, hk' =>
    cases hk'
    refine ⟨by decide, ?_, rfl, fun j u hj => ?_⟩
    · by_cases hb : 2 < W.heap.size
      · exact hb
      · unfold World.cell? at hm
        rw [Array.getElem?_eq_none (show W.heap.size ≤ 2 by omega)] at hm
        cases hm
    · cases j with
      | zero => cases hj; exact hm
      | succ j => simp at hj
/-- A world for a witness. -/
def fillC (l : List D) : Obj → Obj
  | .cells _ t frozen => .cells (l.map vD).toArray t frozen
  | o => o
noncomputable def heapF (os : Os) : Array Obj :=
  ((laidWorld os).heap.modify 1 (fillC poolD)).modify 0 (fillC namesD)
noncomputable def worldF (os : Os) : World := { laidWorld os with heap := heapF os }
theorem metF (os : Os) (args : Array Value) : laidMet Tryz.prog Rows.touchChecksRow.laid ((worldF os).forCall (fun _ _ => 0) ⟨#[], args, []⟩).memory := laidMet_of_run' 8 (by kernel_rfl) (by kernel_rfl)
theorem own : ownKnob Tryz.prog.godebug = none := by kernel_rfl
theorem one3 : Tryz.prog.cellsOf 3 = 1 := by kernel_rfl

/-- WHAT THE WALK GIVES. -/
theorem contract (H : Type) (enc : TypeId × Value → H) (W : World) (base : Nat) (args : Array Value) (ds gs : List (DataW H)) (before : List MemPlace)
    (hval : ∀ (j : Nat) t v, Tryz.f3.params[j]? = some t → args[j]? = some v → Value.okWide Tryz.prog W .any base t v)
    (hW : DataW.Whole enc Tryz.prog Tryz.f3.params.toList Rows.touchChecksSpec.vars false W args.toList ds gs before) (hL : laidMetH Tryz.prog Rows.touchChecksRow.laid W) (hSh : W.ShapedOpen Tryz.prog) :
    Calls Tryz.prog 3 args W fun e W' => ∃ v, e = .returned v ∧ Rows.touchChecksSpec.post enc Tryz.prog Tryz.f3 false true false false W args v W' := by
  have hW' := hW
  obtain ⟨p, q, hA0, hV, rfl, hfz, hnd⟩ := hW
  have hA : DataW.TrodAll enc Tryz.prog W 0 (fun _ => true) true Tryz.f3.params.toList args.toList ds p := hA0
  rw [Tryz.params3] at hA hval
  obtain ⟨v0, vs0, d0, ds0, p0, q0, hargs, rfl, rfl, h0, r0⟩ := trodAll_cons hA
  obtain ⟨rfl, rfl, rfl⟩ := trodAll_nil r0
  obtain rfl : args = #[v0] := by cases args; simp_all
  obtain ⟨rfl, rfl⟩ := trodVars_none hV
  obtain ⟨A, L, cp, rfl, hrd, hsh⟩ := open_nums Tryz.underlying22 Tryz.underlying3 one3 (hval 0 22 v0 rfl rfl) h0
  clear hA0
  simp only [List.append_nil] at hW'
  obtain ⟨mx, hmx⟩ := Tryz.laysM144.s1_3 W hSh
  have hg := glAt_X (L := L) (ST := 25) (tabs_of_list hL (by simp [Rows.touchChecksRow]) (by simp [Rows.touchChecksRow])) (lies hmx hL)
  refine (tc_walk (ng_of_shaped hSh) hrd hg (fun cx h => utf8_of_globX rfl h) rfl rfl rfl).mono fun e W' ⟨he, hbl⟩ => ?_
  subst he
  refine ⟨_, rfl, post_of_below (pa := p0) (pv := []) hW' (fun _ _ _ => trodAll_cons_mk (shut_bool Tryz.underlying4 _) trodAll_mk0)
    (fun sp hsp => ?_) (fun _ _ => rfl) (List.append_nil _).symm hbl (ok_one (by kernel_rfl) rfl (okWide_bool_mk Tryz.underlying4 _))⟩
  have := trodAll_cons_mk (hsh W' hbl sp hsp) (trodAll_mk0 (w := W') (base := 0) (spare := sp) (held := true) (enc := enc))
  rw [List.append_nil] at this
  exact this
theorem reads (os : Os) {H : Type} (enc : TypeId × Value → H) : ∃ places, DataW.whole enc Tryz.prog ((worldF os).forCall (fun _ _ => 0) ⟨#[], #[.slice none 0 0], []⟩).memory Tryz.f3.params.toList Rows.touchChecksSpec.vars false #[Value.slice none 0 0].toList 8 = some ([.nil], [], places) :=
  ⟨[], by kernel_rfl⟩
theorem lifted (os : Os) (started : os.Started) (H : Type) (enc : TypeId × Value → H) (F : Stop.Interp) :
    ReturnsInHanded {} Tryz.checked os 3 .any ((OpenSpec.ofChange Rows.touchChecksSpec).preRow enc Tryz.prog Tryz.f3 Rows.touchChecksRow.domain false Rows.touchChecksRow.laid) (((OpenSpec.ofChange Rows.touchChecksSpec).at F).post enc Tryz.prog Tryz.f3 false true false false) := by
  obtain ⟨places, hx⟩ := reads os enc
  refine returnsInHanded_of_row (C := Tryz.checked) (s := OpenSpec.ofChange Rows.touchChecksSpec) own started (by kernel_rfl) Tryz.func3
    (witness_row_at (enc := enc) (C := Tryz.checked) false (worldF os) #[.slice none 0 0] rfl (by kernel_rfl) (by kernel_rfl) (by kernel_rfl)
      (OpenSpec.preRow_of_cond 8 hx (by kernel_rfl) (fun k hk => by cases hk) (by kernel_rfl) (metF os _))) ?_
  intro W base args ds gs before hval hW _ _ _ hL hSh _
  exact contract H enc W base args ds gs before hval hW hL hSh
theorem said : Rows.TouchChecksSaid :=
  OpenClaim.holds_of_cond 3 Tryz.f3 rfl rfl rfl rfl rfl rfl rfl ⟨rfl, rfl, rfl, rfl, rfl⟩ rfl rfl rfl rfl rfl (by kernel_rfl) Tryz.func3 (by kernel_rfl)
    (of_decide_eq_true (by kernel_rfl)) (by unfold Func.isWrapper; first | (rw [if_pos (by decide +kernel)]; kernel_rfl) | (rw [if_neg (by decide +kernel)]; exact ⟨rfl, rfl⟩))
    (fun os started H enc _ F => by rw [OpenClaim.pre_eq_preRow]; exact lifted os started H enc F)
theorem plain (f : FuncId) (fn : Func) (hf : Tryz.pinned.checked.prog.funcNamed "handbill/handlaw2.TouchChecks" = some f) (hfn : Tryz.pinned.checked.prog.funcs[f]? = some fn) :
    false = Tryz.pinned.checked.prog.looks [] ∧ ∀ (j : Nat) t, fn.params[j]? = some t → Tryz.pinned.checked.prog.wantsStandIn t = false := by
  obtain rfl : f = 3 := Option.some.inj ((show Tryz.prog.funcNamed "handbill/handlaw2.TouchChecks" = some 3 by kernel_rfl).symm.trans hf) |>.symm
  obtain rfl : fn = Tryz.f3 := (Option.some.inj (Tryz.func3.symm.trans hfn)).symm
  refine ⟨by kernel_rfl, fun j t ht => ?_⟩
  rw [Tryz.params3] at ht
  obtain rfl : t = 22 := by simpa using Array.mem_of_getElem? ht
  exact (show Tryz.prog.wantsStandIn 22 = false by kernel_rfl)
theorem card : Rows.TouchChecksCardSaid :=
  Claim7.holds_tied_plain_at .later [] _ _ _ _ said (fun _ h => by cases h) (by kernel_rfl) (fun _ h => by cases h) touchChecks_row_tie rfl ⟨rfl, rfl⟩ (by kernel_rfl) rfl plain (by kernel_rfl)
end Go.Proofs.YtjeljamjocligaaGreatDoor.touchChecks
