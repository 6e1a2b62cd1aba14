/- Room, RoomOf, sends: their contracts. No condition. -/
import Derived.Test.YtcifphelninbmaaDoorRul2
set_option linter.unusedVariables false
set_option linter.unusedSimpArgs false
set_option maxRecDepth 100000
namespace Go.Avc
open Go Go.Proofs

def roomF (p : TPool) (d : Int) : Int := if d < p.first then 0 else if d - p.first < p.warm.length then p.warm.getD (d - p.first).toNat 0 else 1440 * p.perMinute
def roomS  : Spec where
  pre xs := ∃ (p : TPool) (d : Int), xs = [.dv (.ag p.row), .i d] ∧ (p.ok ∧ okI d ∧ -1000000000 ≤ p.perMinute ∧ p.perMinute ≤ 1000000000)
  post xs y := ∃ (p : TPool) (d : Int), xs = [.dv (.ag p.row), .i d] ∧ y = .i (roomF p d)
  cost _ := 0
  fresh := true
theorem roomS_c  (xs : List AV) : (roomS).cost xs = 0 := nr rfl
theorem roomS_f  : (roomS).fresh = true := nr rfl
theorem roomS_q  (p : TPool) (d : Int) : (roomS).pre [.dv (.ag [.str p.name, .int .i64 p.channel, .int .i64 p.perMinute, .int .i64 p.first, .sl (intsD p.warm)]), .i d] = (p.ok ∧ okI d ∧ -1000000000 ≤ p.perMinute ∧ p.perMinute ≤ 1000000000) := propext ⟨fun h => by
  have h' : ∃ (p' : TPool) (d' : Int), ([.dv (.ag p.row), .i d] : List AV) = [.dv (.ag p'.row), .i d'] ∧ (p'.ok ∧ okI d' ∧ -1000000000 ≤ p'.perMinute ∧ p'.perMinute ≤ 1000000000) := h
  obtain ⟨p', d', e, h⟩ := h'
  simp only [List.cons.injEq, AV.dv.injEq, AV.fv.injEq, DV.d.injEq, DV.ag.injEq, D.int.injEq, D.str.injEq, D.bool.injEq, D.sl.injEq, true_and, and_true, intsDi_inj, rowsT_inj, rowsKi_inj, TPool.row_inj, TPool.rows_inj] at e
  obtain ⟨rfl, rfl⟩ := e
  exact h, fun h => ⟨p, d, rfl, h⟩⟩
theorem roomS_p  (p : TPool) (d : Int) : (roomS).post [.dv (.ag [.str p.name, .int .i64 p.channel, .int .i64 p.perMinute, .int .i64 p.first, .sl (intsD p.warm)]), .i d] = fun y => y = .i (roomF p d) := funext fun y => propext ⟨fun h => by
  have h' : ∃ (p' : TPool) (d' : Int), ([.dv (.ag p.row), .i d] : List AV) = [.dv (.ag p'.row), .i d'] ∧ y = .i (roomF p' d') := h
  obtain ⟨p', d', e, h⟩ := h'
  simp only [List.cons.injEq, AV.dv.injEq, AV.fv.injEq, DV.d.injEq, DV.ag.injEq, D.int.injEq, D.str.injEq, D.bool.injEq, D.sl.injEq, true_and, and_true, intsDi_inj, rowsT_inj, rowsKi_inj, TPool.row_inj, TPool.rows_inj] at e
  obtain ⟨rfl, rfl⟩ := e
  exact h, fun h => ⟨p, d, rfl, h⟩⟩
theorem room_ctr {cx : Cx} (h : Seat cx) : Ctr cx 77 roomS := by
  refine ctr_of (fn := Tryd.f77) (l := [.tmp 4]) (envL []) [0, 1, 2, 4, 5, 10, 13] [] [] (env0 h.hP) ?_ (by rw [h.hP]; exact Tryd.func77) rfl (by kernel_rfl) rfl ?_ ?_
  · rw [h.hP]; exact ⟨_, Tryd.func77, by kernel_rfl, by kernel_rfl⟩
  · rintro xs ⟨p, d, rfl, h1⟩; exact ⟨_, p, d, rfl, rfl⟩
  · rintro xs ⟨p, d, rfl, h1, h2, h3, h4⟩
    obtain ⟨⟨o1, o2⟩, ⟨o3, o4⟩⟩ := And.intro h1.2.2.2.1 h2
    refine ⟨by rw [Tryd.ntmps77]; simp, ?_⟩
    simp only [go_sem, h.hP, List.cons_append, List.nil_append, Meets_e, Below_e, Prod.exists, exists_eq, exists_eq_left, exists_eq_left', exists_eq_right, exists_eq_right', exists_and_left, exists_and_right, Ob.arr.injEq, AV.own.injEq, AV.fv.injEq, roomS_q, roomS_p, roomS_c, roomS_f, TPool.row, intsD_len, intsD_get, Tryd.ntmps77, Nat.reduceEqDiff, reduceCtorEq, Nat.reduceMul, Nat.reduceAdd, Nat.reduceSub, Nat.reduceDiv, Nat.reduceMod, Nat.reduceLeDiff, Nat.reduceLT, Nat.reduceBNe, Nat.reduceBEq, reduceIte, Int.reduceLE, Int.reduceLT, Int.reduceToNat, Int.reduceNeg, Int.reduceAdd, Int.reduceSub, Int.reduceMul, Int.reduceEq]
    rw [i64w (n := d - p.first) (by omega) (by omega), i64w (n := 1440 * p.perMinute) (by omega) (by omega)]
    unfold roomF
    grind
theorem RoomOf_ctr {cx : Cx} (h : Seat cx) : Ctr cx 32 roomS := by
  refine ctr_of (fn := Tryd.f32) (l := [.tmp 4]) (envL []) [0, 1, 2, 4, 5, 10] [] [] (env0 h.hP) ?_ (by rw [h.hP]; exact Tryd.func32) rfl (by kernel_rfl) rfl ?_ ?_
  · rw [h.hP]; exact ⟨_, Tryd.func32, by kernel_rfl, by kernel_rfl⟩
  · rintro xs ⟨p, d, rfl, h1⟩; exact ⟨_, p, d, rfl, rfl⟩
  · rintro xs ⟨p, d, rfl, h1, h2, h3, h4⟩
    obtain ⟨⟨o1, o2⟩, ⟨o3, o4⟩⟩ := And.intro h1.2.2.2.1 h2
    refine ⟨by rw [Tryd.ntmps32]; simp, ?_⟩
    simp only [go_sem, h.hP, List.cons_append, List.nil_append, Meets_e, Below_e, Prod.exists, exists_eq, exists_eq_left, exists_eq_left', exists_eq_right, exists_eq_right', exists_and_left, exists_and_right, Ob.arr.injEq, AV.own.injEq, AV.fv.injEq, roomS_q, roomS_p, roomS_c, roomS_f, TPool.row, intsD_len, intsD_get, Tryd.ntmps32, Nat.reduceEqDiff, reduceCtorEq, Nat.reduceMul, Nat.reduceAdd, Nat.reduceSub, Nat.reduceDiv, Nat.reduceMod, Nat.reduceLeDiff, Nat.reduceLT, Nat.reduceBNe, Nat.reduceBEq, reduceIte, Int.reduceLE, Int.reduceLT, Int.reduceToNat, Int.reduceNeg, Int.reduceAdd, Int.reduceSub, Int.reduceMul, Int.reduceEq]
    rw [i64w (n := d - p.first) (by omega) (by omega), i64w (n := 1440 * p.perMinute) (by omega) (by omega)]
    unfold roomF
    grind
/-- Room: the number and the error -/
noncomputable def roomN (r : TSendRules) (s : ByteArray) (d : Int) : Int := if rulesF r ≠ 0 then 0 else if idxB (fun q : TPool => decide (q.name = s)) r.pools < 0 then 0 else if inB d 0 3000 = false then 0 else roomF (r.pools.getD (idxB (fun q : TPool => decide (q.name = s)) r.pools).toNat TPool.z) d
noncomputable def roomE (r : TSendRules) (s : ByteArray) (d : Int) : Int := if rulesF r ≠ 0 then rulesF r else if idxB (fun q : TPool => decide (q.name = s)) r.pools < 0 then 8 else if inB d 0 3000 = false then 1 else 0
/-- right rules have right pools -/
theorem firstI_zero {n : Nat} {f : Nat → Int} (h : firstI n f = 0) : ∀ i, i < n → f i = 0 := by
  intro i hi
  unfold firstI at h
  cases hf : (List.range n).find? (fun i => decide (f i ≠ 0)) with
  | none =>
    have := List.find?_eq_none.1 hf i (List.mem_range.2 hi)
    simpa using this
  | some j =>
    rw [hf] at h
    have := List.find?_some hf
    simp only [decide_eq_true_eq] at this
    exact absurd h this
theorem orE_zero {a b : Int} (h : orE a b = 0) : a = 0 ∧ b = 0 := by
  unfold orE at h
  split at h
  · rename_i hc; exact absurd h hc
  · rename_i hc; exact ⟨Decidable.not_not.1 hc, h⟩
theorem rules_pools {r : TSendRules} (h : rulesF r = 0) (i : Nat) (hi : i < r.pools.length) : inB (r.pools.getD i TPool.z).perMinute 1 10000 = true ∧ inB (r.pools.getD i TPool.z).first 0 3000 = true := by
  have h1 := (orE_zero h).2
  unfold rules1F at h1
  split at h1
  · cases h1
  split at h1
  · cases h1
  have h2 := (orE_zero (orE_zero (orE_zero h1).2).2).1
  unfold poolsF at h2
  split at h2
  · cases h2
  have h3 := firstI_zero h2 i hi
  unfold poolF at h3
  split at h3
  · cases h3
  split at h3
  · cases h3
  split at h3
  · cases h3
  split at h3
  · cases h3
  · rename_i hc
    constructor
    · cases hh : inB (r.pools.getD i TPool.z).perMinute 1 10000 with
      | true => rfl
      | false => exact absurd (.inl hh) hc
    · cases hh : inB (r.pools.getD i TPool.z).first 0 3000 with
      | true => rfl
      | false => exact absurd (.inr hh) hc
theorem inB_iff {n lo hi : Int} : inB n lo hi = true ↔ lo ≤ n ∧ n ≤ hi := by unfold inB; exact decide_eq_true_iff
def RoomS  : Spec where
  pre xs := ∃ (r : TSendRules) (s : ByteArray) (d : Int), xs = [.dv (.ag r.row), .str s, .i d] ∧ (r.ok ∧ okI d)
  post xs y := ∃ (r : TSendRules) (s : ByteArray) (d : Int), xs = [.dv (.ag r.row), .str s, .i d] ∧ y = .tcons (.i (roomN r s d)) (.tcons (.i (roomE r s d)) .tnil)
  cost _ := 0
  fresh := true
theorem RoomS_c  (xs : List AV) : (RoomS).cost xs = 0 := nr rfl
theorem RoomS_f  : (RoomS).fresh = true := nr rfl
theorem RoomS_q  (r : TSendRules) (s : ByteArray) (d : Int) : (RoomS).pre [.dv (.ag [.sl (intsD r.quiet), .int .i64 r.quietFrom, .int .i64 r.quietTo, .sl (rowsT r.ranks), .sl (TCap.rows r.caps), .sl (TPool.rows r.pools), .sl (intsD r.delays)]), .str s, .i d] = (r.ok ∧ okI d) := propext ⟨fun h => by
  have h' : ∃ (r' : TSendRules) (s' : ByteArray) (d' : Int), ([.dv (.ag r.row), .str s, .i d] : List AV) = [.dv (.ag r'.row), .str s', .i d'] ∧ (r'.ok ∧ okI d') := h
  obtain ⟨r', s', d', e, h⟩ := h'
  simp only [List.cons.injEq, AV.dv.injEq, AV.fv.injEq, DV.d.injEq, DV.ag.injEq, D.int.injEq, D.str.injEq, D.bool.injEq, D.sl.injEq, true_and, and_true, intsDi_inj, rowsT_inj, rowsKi_inj, TSendRules.row_inj, TSendRules.rows_inj] at e
  obtain ⟨rfl, rfl, rfl⟩ := e
  exact h, fun h => ⟨r, s, d, rfl, h⟩⟩
theorem RoomS_p  (r : TSendRules) (s : ByteArray) (d : Int) : (RoomS).post [.dv (.ag [.sl (intsD r.quiet), .int .i64 r.quietFrom, .int .i64 r.quietTo, .sl (rowsT r.ranks), .sl (TCap.rows r.caps), .sl (TPool.rows r.pools), .sl (intsD r.delays)]), .str s, .i d] = fun y => y = .tcons (.i (roomN r s d)) (.tcons (.i (roomE r s d)) .tnil) := funext fun y => propext ⟨fun h => by
  have h' : ∃ (r' : TSendRules) (s' : ByteArray) (d' : Int), ([.dv (.ag r.row), .str s, .i d] : List AV) = [.dv (.ag r'.row), .str s', .i d'] ∧ y = .tcons (.i (roomN r' s' d')) (.tcons (.i (roomE r' s' d')) .tnil) := h
  obtain ⟨r', s', d', e, h⟩ := h'
  simp only [List.cons.injEq, AV.dv.injEq, AV.fv.injEq, DV.d.injEq, DV.ag.injEq, D.int.injEq, D.str.injEq, D.bool.injEq, D.sl.injEq, true_and, and_true, intsDi_inj, rowsT_inj, rowsKi_inj, TSendRules.row_inj, TSendRules.rows_inj] at e
  obtain ⟨rfl, rfl, rfl⟩ := e
  exact h, fun h => ⟨r, s, d, rfl, h⟩⟩
set_option maxHeartbeats 4000000 in
theorem Room_ctr {cx : Cx} (h : Seat cx) : Ctr cx 26 RoomS := by
  refine ctr_of (fn := Tryd.f26) (l := [.tmp 6, .tmp 7]) (envF [(74, rulesS), (76, inS), (77, roomS), (29, (idxFS DV.ag [.str ⟨#[]⟩, .int .i64 0, .int .i64 0, .int .i64 0, .sl []]))] [(75, pnameΦ)]) [0, 1, 2, 3, 4, 6, 7, 8, 9, 13, 19, 22] [] [] (envF_cons (clo_of (Room1_ctr h)) (envF_nil (envL_cons (CheckRules_ctr h) (envL_cons (within_ctr h) (envL_cons (room_ctr h) (envL_cons (indexFunc_TPool h) (env0 h.hP))))))) ?_ (by rw [h.hP]; exact Tryd.func26) rfl (by kernel_rfl) rfl ?_ ?_
  · rw [h.hP]; exact ⟨_, Tryd.func26, by kernel_rfl, by kernel_rfl⟩
  · rintro xs ⟨r, s, d, rfl, h1⟩; exact ⟨_, r, s, d, rfl, rfl⟩
  · rintro xs ⟨r, s, d, rfl, h1, h2⟩
    refine ⟨by rw [Tryd.ntmps26]; simp, ?_⟩
    simp only [go_sem, h.hP, List.cons_append, List.nil_append, Meets_e, Below_e, Prod.exists, exists_eq, exists_eq_left, exists_eq_left', exists_eq_right, exists_eq_right', exists_and_left, exists_and_right, Ob.arr.injEq, AV.own.injEq, AV.fv.injEq, RoomS_q, RoomS_p, RoomS_c, RoomS_f, rulesS_q, rulesS_p, rulesS_c, rulesS_f, inS_q, inS_p, inS_c, inS_f, roomS_q, roomS_p, roomS_c, roomS_f, idxFS, TSendRules.row, TPool.get, TPool.len, TPool.zlT, intsD_len, pnameΦ_h, pnameΦ_hl, pnameΦ_d, Tryd.ntmps26, Nat.reduceEqDiff, reduceCtorEq, Nat.reduceMul, Nat.reduceAdd, Nat.reduceSub, Nat.reduceDiv, Nat.reduceMod, Nat.reduceLeDiff, Nat.reduceLT, Nat.reduceBNe, Nat.reduceBEq, reduceIte, Int.reduceLE, Int.reduceLT, Int.reduceToNat, Int.reduceNeg, Int.reduceAdd, Int.reduceSub, Int.reduceMul, Int.reduceEq]
    have hx : idxB (fun x => (pnameΦ [[D.str s]]).holds (DV.ag x)) (TPool.rows r.pools) = idxB (fun q : TPool => decide (q.name = s)) r.pools := (idxB_map TPool.row _ _).trans (idxB_congr fun q => pnameΦ_h s q)
    rw [hx]
    have hrg := idxB_range (fun q : TPool => decide (q.name = s)) r.pools
    have hpl := h1.2.2.2.2.2.1
    have hl := hpl.1
    unfold roomN roomE
    generalize idxB (fun q : TPool => decide (q.name = s)) r.pools = i at hrg
    have n1 : rulesF r = 0 → ¬ rulesF r ≠ 0 := fun e f => f e
    refine ⟨h1, fun c1 => ?_, fun c1 => ⟨by omega, fun c2 => ?_, fun c2 => ⟨fun c3 => ?_, fun c3 => ?_⟩⟩⟩
    · rw [if_pos c1, if_pos c1]; exact ⟨rfl, rfl⟩
    · rw [if_neg (n1 c1), if_neg (n1 c1), if_pos c2, if_pos c2]; exact ⟨rfl, rfl⟩
    · rw [if_neg (n1 c1), if_neg (n1 c1), if_neg c2, if_neg c2, if_pos c3, if_pos c3]; exact ⟨rfl, rfl⟩
    · rw [if_neg (n1 c1), if_neg (n1 c1), if_neg c2, if_neg c2, if_neg (ne_ft c3), if_neg (ne_ft c3)]
      have hp := inB_iff.1 (rules_pools c1 i.toNat (by omega)).1
      exact ⟨by omega, by omega, okL_get hpl TPool.z_ok _, h2, by omega, by omega, rfl, rfl⟩
/-- sends -/
theorem sends_rules : rulesF ⟨[], 0, 0, [], [], [⟨⟨#[97]⟩, 1, 2, 0, []⟩], []⟩ = 0 := by
  have h1 : poolsF [⟨⟨#[97]⟩, 1, 2, 0, []⟩] = 0 := by decide +kernel
  have h2 : capsF [] = 0 := by decide +kernel
  show orE 0 (if inB 0 0 1439 = false ∨ inB 0 0 1439 = false then 1 else if (30 : Int) < ((0 : Nat) : Int) then 2 else orE 0 (orE (capsF []) (orE (poolsF [⟨⟨#[97]⟩, 1, 2, 0, []⟩]) (delF [])))) = 0
  rw [h1, h2]
  decide
def sendsS  : Spec where
  pre xs := xs = []
  post xs y := xs = [] ∧ y = .b true
  cost _ := 0
  fresh := true
theorem sendsS_c  (xs : List AV) : (sendsS).cost xs = 0 := nr rfl
theorem sendsS_f  : (sendsS).fresh = true := nr rfl
theorem sendsS_q  : (sendsS).pre [] = (([] : List AV) = []) := nr rfl
theorem sendsS_p  : (sendsS).post [] = fun y => y = .b true := funext fun y => propext ⟨fun h => h.2, fun h => ⟨rfl, h⟩⟩
set_option maxHeartbeats 4000000 in
theorem sends_ctr {cx : Cx} (h : Seat cx) : Ctr cx 31 sendsS := by
  refine ctr_of (fn := Tryd.f31) (l := [.tmp 0]) (envL [(26, RoomS), (27, isKindS)]) [0, 1, 2, 3, 4] [] [] (envL_cons (Room_ctr h) (envL_cons (kindOf2_ctr h) (env0 h.hP))) ?_ (by rw [h.hP]; exact Tryd.func31) rfl (by kernel_rfl) rfl ?_ ?_
  · rw [h.hP]; exact ⟨_, Tryd.func31, by kernel_rfl, by kernel_rfl⟩
  · rintro xs ⟨rfl, h1⟩; exact ⟨_, rfl, rfl⟩
  · rintro xs ⟨rfl, h1⟩
    refine ⟨by rw [Tryd.ntmps31]; simp, ?_⟩
    have hq : RoomS.pre [.dv (.ag [.sl [], .int .i64 0, .int .i64 0, .sl [], .sl [], .sl [[.str ⟨#[97]⟩, .int .i64 1, .int .i64 2, .int .i64 0, .sl []]], .sl []]), .str ⟨#[97]⟩, .i 0] = True := (RoomS_q ⟨[], 0, 0, [], [], [⟨⟨#[97]⟩, 1, 2, 0, []⟩], []⟩ ⟨#[97]⟩ 0).trans (eq_true ⟨⟨okL_z _, okI_z, okI_z, okL_z _, okL_z _, ⟨by decide, fun x hx => by
      rw [List.mem_singleton] at hx
      subst hx
      exact ⟨by unfold okS; decide, ⟨by decide, by decide⟩, ⟨by decide, by decide⟩, okI_z, okL_z _⟩⟩, okL_z _⟩, okI_z⟩)
    have hn : roomN ⟨[], 0, 0, [], [], [⟨⟨#[97]⟩, 1, 2, 0, []⟩], []⟩ ⟨#[97]⟩ 0 = 2880 := by
      unfold roomN
      rw [sends_rules]
      decide +kernel
    have he : roomE ⟨[], 0, 0, [], [], [⟨⟨#[97]⟩, 1, 2, 0, []⟩], []⟩ ⟨#[97]⟩ 0 = 0 := by
      unfold roomE
      rw [sends_rules]
      decide +kernel
    have hp : RoomS.post [.dv (.ag [.sl [], .int .i64 0, .int .i64 0, .sl [], .sl [], .sl [[.str ⟨#[97]⟩, .int .i64 1, .int .i64 2, .int .i64 0, .sl []]], .sl []]), .str ⟨#[97]⟩, .i 0] = fun y => y = .tcons (.i 2880) (.tcons (.i 0) .tnil) := (RoomS_p ⟨[], 0, 0, [], [], [⟨⟨#[97]⟩, 1, 2, 0, []⟩], []⟩ ⟨#[97]⟩ 0).trans (by rw [hn, he])
    simp only [go_sem, h.hP, List.cons_append, List.nil_append, Meets_e, Below_e, Prod.exists, exists_eq, exists_eq_left, exists_eq_left', exists_eq_right, exists_eq_right', exists_and_left, exists_and_right, Ob.arr.injEq, AV.own.injEq, AV.fv.injEq, sendsS_q, sendsS_p, sendsS_c, sendsS_f, isKindS, hq, hp, RoomS_c, Tryd.ntmps31, Nat.reduceEqDiff, reduceCtorEq, Nat.reduceMul, Nat.reduceAdd, Nat.reduceSub, Nat.reduceDiv, Nat.reduceMod, Nat.reduceLeDiff, Nat.reduceLT, Nat.reduceBNe, Nat.reduceBEq, reduceIte, Int.reduceLE, Int.reduceLT, Int.reduceToNat, Int.reduceNeg, Int.reduceAdd, Int.reduceSub, Int.reduceMul, Int.reduceEq]
    intro a b h1 _
    obtain ⟨rfl, rfl⟩ := h1 (by decide)
    exact ⟨fun _ e => e rfl, fun e => e rfl⟩
end Go.Avc
