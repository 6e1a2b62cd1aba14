/- The calculus: the equations by which what is asked is reckoned out. No condition. -/
import Derived.Test.YtjeljamjocligaaDoorKINCS1
import Derived.Test.YtjeljamjocligaaDoorKINCS2
/- The calculus: the equations by which what is asked is reckoned out. No condition. -/
namespace Go.Avc.Eq
open Go Go.Avc
theorem swA_1 : type_of% @Go.Avc.swA.eq_1 := by intros; refine nr ?_; apply Go.Avc.swA.eq_1 <;> assumption
theorem swA_2 : type_of% @Go.Avc.swA.eq_2 := by intros; refine nr ?_; apply Go.Avc.swA.eq_2 <;> assumption
theorem swA_3 : type_of% @Go.Avc.swA.eq_3 := by intros; refine nr ?_; apply Go.Avc.swA.eq_3 <;> assumption
theorem swA_4 : type_of% @Go.Avc.swA.eq_4 := by intros; refine nr ?_; apply Go.Avc.swA.eq_4 <;> assumption
theorem swA_5 : type_of% @Go.Avc.swA.eq_5 := by intros; refine nr ?_; apply Go.Avc.swA.eq_5 <;> assumption
theorem swA_6 : type_of% @Go.Avc.swA.eq_6 := by intros; refine nr ?_; apply Go.Avc.swA.eq_6 <;> assumption
theorem swO_1 : type_of% @Go.Avc.swO.eq_1 := by intros; refine nr ?_; apply Go.Avc.swO.eq_1 <;> assumption
theorem swO_2 : type_of% @Go.Avc.swO.eq_2 := by intros; refine nr ?_; apply Go.Avc.swO.eq_2 <;> assumption
theorem swO_3 : type_of% @Go.Avc.swO.eq_3 := by intros; refine nr ?_; apply Go.Avc.swO.eq_3 <;> assumption
theorem swN_1 : type_of% @Go.Avc.swN.eq_1 := by intros; refine nr ?_; apply Go.Avc.swN.eq_1 <;> assumption
theorem kB_1 : type_of% @Go.Avc.kB.eq_1 := by intros; refine nr ?_; apply Go.Avc.kB.eq_1 <;> assumption
theorem bF_1 : type_of% @Go.Avc.bF.eq_1 := by intros; refine nr ?_; apply Go.Avc.bF.eq_1 <;> assumption
theorem fWB_1 : type_of% @Go.Avc.fWB.eq_1 := by intros; refine nr ?_; apply Go.Avc.fWB.eq_1 <;> assumption
theorem fWS_1 : type_of% @Go.Avc.fWS.eq_1 := by intros; refine nr ?_; apply Go.Avc.fWS.eq_1 <;> assumption
theorem fSt_1 : type_of% @Go.Avc.fSt.eq_1 := by intros; refine nr ?_; apply Go.Avc.fSt.eq_1 <;> assumption
theorem fLn_1 : type_of% @Go.Avc.fLn.eq_1 := by intros; refine nr ?_; apply Go.Avc.fLn.eq_1 <;> assumption
theorem bT_1 : type_of% @Go.Avc.bT.eq_1 := by intros; refine nr ?_; apply Go.Avc.bT.eq_1 <;> assumption
theorem bE_1 : type_of% @Go.Avc.bE.eq_1 := by intros; refine nr ?_; apply Go.Avc.bE.eq_1 <;> assumption
theorem bldArg_1 : type_of% @Go.Avc.bldArg.eq_1 := by intros; refine nr ?_; apply Go.Avc.bldArg.eq_1 <;> assumption
theorem vPick_1 : type_of% @Go.Avc.vPick.eq_1 := by intros; refine nr ?_; apply Go.Avc.vPick.eq_1 <;> assumption
theorem vNil_1 : type_of% @Go.Avc.vNil.eq_1 := by intros; refine nr ?_; apply Go.Avc.vNil.eq_1 <;> assumption
theorem vBin_1 : type_of% @Go.Avc.vBin.eq_1 := by intros; refine nr ?_; apply Go.Avc.vBin.eq_1 <;> assumption
theorem intBin_1 : type_of% @Go.Avc.intBin.eq_1 := by intros; refine nr ?_; apply Go.Avc.intBin.eq_1 <;> assumption
theorem intBin_2 : type_of% @Go.Avc.intBin.eq_2 := by intros; refine nr ?_; apply Go.Avc.intBin.eq_2 <;> assumption
theorem intBin_3 : type_of% @Go.Avc.intBin.eq_3 := by intros; refine nr ?_; apply Go.Avc.intBin.eq_3 <;> assumption
theorem intBin_4 : type_of% @Go.Avc.intBin.eq_4 := by intros; refine nr ?_; apply Go.Avc.intBin.eq_4 <;> assumption
theorem intBin_5 : type_of% @Go.Avc.intBin.eq_5 := by intros; refine nr ?_; apply Go.Avc.intBin.eq_5 <;> assumption
theorem intBin_6 : type_of% @Go.Avc.intBin.eq_6 := by intros; refine nr ?_; apply Go.Avc.intBin.eq_6 <;> assumption
theorem intBin_7 : type_of% @Go.Avc.intBin.eq_7 := by intros; refine nr ?_; apply Go.Avc.intBin.eq_7 <;> assumption
theorem intBin_8 : type_of% @Go.Avc.intBin.eq_8 := by intros; refine nr ?_; apply Go.Avc.intBin.eq_8 <;> assumption
theorem intBin_9 : type_of% @Go.Avc.intBin.eq_9 := by intros; refine nr ?_; apply Go.Avc.intBin.eq_9 <;> assumption
theorem intBin_10 : type_of% @Go.Avc.intBin.eq_10 := by intros; refine nr ?_; apply Go.Avc.intBin.eq_10 <;> assumption
theorem intBin_11 : type_of% @Go.Avc.intBin.eq_11 := by intros; refine nr ?_; apply Go.Avc.intBin.eq_11 <;> assumption
theorem intBin_12 : type_of% @Go.Avc.intBin.eq_12 := by intros; refine nr ?_; apply Go.Avc.intBin.eq_12 <;> assumption
theorem strBin_1 : type_of% @Go.Avc.strBin.eq_1 := by intros; refine nr ?_; apply Go.Avc.strBin.eq_1 <;> assumption
theorem strBin_2 : type_of% @Go.Avc.strBin.eq_2 := by intros; refine nr ?_; apply Go.Avc.strBin.eq_2 <;> assumption
theorem strBin_3 : type_of% @Go.Avc.strBin.eq_3 := by intros; refine nr ?_; apply Go.Avc.strBin.eq_3 <;> assumption
theorem strBin_4 : type_of% @Go.Avc.strBin.eq_4 := by intros; refine nr ?_; apply Go.Avc.strBin.eq_4 <;> assumption
theorem strBin_5 : type_of% @Go.Avc.strBin.eq_5 := by intros; refine nr ?_; apply Go.Avc.strBin.eq_5 <;> assumption
theorem strBin_6 : type_of% @Go.Avc.strBin.eq_6 := by intros; refine nr ?_; apply Go.Avc.strBin.eq_6 <;> assumption
theorem strBin_7 : type_of% @Go.Avc.strBin.eq_7 := by intros; refine nr ?_; apply Go.Avc.strBin.eq_7 <;> assumption
theorem strBin_8 : type_of% @Go.Avc.strBin.eq_8 := by intros; refine nr ?_; apply Go.Avc.strBin.eq_8 <;> assumption
theorem boolBin_1 : type_of% @Go.Avc.boolBin.eq_1 := by intros; refine nr ?_; apply Go.Avc.boolBin.eq_1 <;> assumption
theorem boolBin_2 : type_of% @Go.Avc.boolBin.eq_2 := by intros; refine nr ?_; apply Go.Avc.boolBin.eq_2 <;> assumption
theorem boolBin_3 : type_of% @Go.Avc.boolBin.eq_3 := by intros; refine nr ?_; apply Go.Avc.boolBin.eq_3 <;> assumption
theorem vUn_1 : type_of% @Go.Avc.vUn.eq_1 := by intros; refine nr ?_; apply Go.Avc.vUn.eq_1 <;> assumption
theorem vUn_2 : type_of% @Go.Avc.vUn.eq_2 := by intros; refine nr ?_; apply Go.Avc.vUn.eq_2 <;> assumption
theorem vUn_3 : type_of% @Go.Avc.vUn.eq_3 := by intros; refine nr ?_; apply Go.Avc.vUn.eq_3 <;> assumption
theorem vConv_1 : type_of% @Go.Avc.vConv.eq_1 := by intros; refine nr ?_; apply Go.Avc.vConv.eq_1 <;> assumption
theorem vField_1 : type_of% @Go.Avc.vField.eq_1 := by intros; refine nr ?_; apply Go.Avc.vField.eq_1 <;> assumption
theorem vFaddr_1 : type_of% @Go.Avc.vFaddr.eq_1 := by intros; refine nr ?_; apply Go.Avc.vFaddr.eq_1 <;> assumption
theorem vIndex_1 : type_of% @Go.Avc.vIndex.eq_1 := by intros; refine nr ?_; apply Go.Avc.vIndex.eq_1 <;> assumption
theorem vIdxA_1 : type_of% @Go.Avc.vIdxA.eq_1 := by intros; refine nr ?_; apply Go.Avc.vIdxA.eq_1 <;> assumption
theorem vLoad_1 : type_of% @Go.Avc.vLoad.eq_1 := by intros; refine nr ?_; apply Go.Avc.vLoad.eq_1 <;> assumption
theorem vExtract_1 : type_of% @Go.Avc.vExtract.eq_1 := by intros; refine nr ?_; apply Go.Avc.vExtract.eq_1 <;> assumption
theorem vBuild_1 : type_of% @Go.Avc.vBuild.eq_1 := by intros; refine nr ?_; apply Go.Avc.vBuild.eq_1 <;> assumption
theorem vSlice_1 : type_of% @Go.Avc.vSlice.eq_1 := by intros; refine nr ?_; apply Go.Avc.vSlice.eq_1 <;> assumption
theorem vFunc_1 : type_of% @Go.Avc.vFunc.eq_1 := by intros; refine nr ?_; apply Go.Avc.vFunc.eq_1 <;> assumption
theorem vBuildS_1 : type_of% @Go.Avc.vBuildS.eq_1 := by intros; refine nr ?_; apply Go.Avc.vBuildS.eq_1 <;> assumption
theorem gOwn_1 : type_of% @Go.Avc.gOwn.eq_1 := by intros; refine nr ?_; apply Go.Avc.gOwn.eq_1 <;> assumption
theorem oF_1 : type_of% @Go.Avc.oF.eq_1 := by intros; refine nr ?_; apply Go.Avc.oF.eq_1 <;> assumption
theorem mF_1 : type_of% @Go.Avc.mF.eq_1 := by intros; refine nr ?_; apply Go.Avc.mF.eq_1 <;> assumption
theorem isOwnA_1 : type_of% @Go.Avc.isOwnA.eq_1 := by intros; refine nr ?_; apply Go.Avc.isOwnA.eq_1 <;> assumption
theorem fO1_1 : type_of% @Go.Avc.fO1.eq_1 := by intros; refine nr ?_; apply Go.Avc.fO1.eq_1 <;> assumption
theorem EndsO_1 : type_of% @Go.Avc.EndsO.eq_1 := by intros; refine nr ?_; apply Go.Avc.EndsO.eq_1 <;> assumption
theorem fO2_1 : type_of% @Go.Avc.fO2.eq_1 := by intros; refine nr ?_; apply Go.Avc.fO2.eq_1 <;> assumption
theorem EndsZ_1 : type_of% @Go.Avc.EndsZ.eq_1 := by intros; refine nr ?_; apply Go.Avc.EndsZ.eq_1 <;> assumption
theorem zdat_nil (j : Nat) (lj : List (List D)) (i : Nat) : zdat j lj [] i = some [] := nr rfl
theorem zdat_cons (j : Nat) (lj : List (List D)) (c : AV) (r : List AV) (i : Nat) : zdat j lj (c :: r) i = match zdat j lj r (i + 1) with
    | some l => if i = j then some (.sl lj :: l) else match nrm c with
      | .dv (.d x) => some (x :: l)
      | _ => none
    | none => none := nr rfl
theorem litZ_nil (i : Nat) : litZ [] i = [] := nr rfl
theorem litZ_lit (e : TypeId) (m : List (List D)) (r : List AV) (i : Nat) : litZ (.lit e m :: r) i = if i < 1000 then (1000 * (e + 1) + i) :: litZ r (i + 1) else litZ r (i + 1) := nr rfl
theorem litZ_dv (x : DV) (r : List AV) (i : Nat) : litZ (.dv x :: r) i = litZ r (i + 1) := nr rfl
theorem litZ_n (r : List AV) (i : Nat) : litZ (.nil :: r) i = litZ r (i + 1) := nr rfl
theorem agA_nil (l : List D) : agA l [] = .dv (.ag l) := nr rfl
theorem agA_cons (l : List D) (z : Nat) (zs : List Nat) : agA l (z :: zs) = .agz l (z :: zs) := nr rfl
attribute [go_sem] litZ_nil litZ_lit litZ_dv litZ_n agA_nil agA_cons
theorem oneOwn_nil (i : Nat) : oneOwn [] i = none := nr rfl
theorem oneOwn_own (k : Nat) (r : List AV) (i : Nat) : oneOwn (.own k :: r) i = match allD r with
    | some l => some (.sl [] :: l, i, k)
    | none => none := nr rfl
theorem oneOwn_dv (x : DV) (r : List AV) (i : Nat) : oneOwn (.dv x :: r) i = match nrm (.dv x), oneOwn r (i + 1) with
    | .dv (.d x), some (l, j, k) => some (x :: l, j, k)
    | _, _ => none := nr rfl
theorem oneOwn_n (r : List AV) (i : Nat) : oneOwn (.nil :: r) i = match nrm .nil, oneOwn r (i + 1) with
    | .dv (.d x), some (l, j, k) => some (x :: l, j, k)
    | _, _ => none := nr rfl
theorem oneOwn_lit (e : TypeId) (m : List (List D)) (r : List AV) (i : Nat) : oneOwn (.lit e m :: r) i = match nrm (.lit e m), oneOwn r (i + 1) with
    | .dv (.d x), some (l, j, k) => some (x :: l, j, k)
    | _, _ => none := nr rfl
theorem oneOwn_ptr (k o : Nat) (r : List AV) (i : Nat) : oneOwn (.ptr k o :: r) i = none := nr rfl
theorem oneOwn_un (r : List AV) (i : Nat) : oneOwn (.un :: r) i = none := nr rfl
attribute [go_sem] oneOwn_nil oneOwn_own oneOwn_dv oneOwn_n oneOwn_lit oneOwn_ptr oneOwn_un
theorem ocells_nil (j k i : Nat) : ocells [] j k i = [] := nr rfl
theorem ocells_cons (x : D) (r : List D) (j k i : Nat) : ocells (x :: r) j k i = (if i = j then .own k else .dv (.d x)) :: ocells r j k (i + 1) := nr rfl
theorem cellsL_nil (σ : St) : cellsL σ .tnil = some [] := nr rfl
theorem cellsL_cons (σ : St) (x t : AV) : cellsL σ (.tcons x t) = if cellO σ x = true then (match cellsL σ t with
    | some l => some (x :: l)
    | none => none) else none := nr rfl
theorem cellO_dv (σ : St) (x : D) : cellO σ (.dv (.d x)) = true := nr rfl
theorem cellO_nil (σ : St) : cellO σ .nil = true := nr rfl
theorem cellO_own (σ : St) (k : Nat) : cellO σ (.own k) = match σ.o k with
    | some (.arr _ _ _) => true
    | _ => false := nr rfl
theorem cellsS_agv (σ : St) (t : AV) : cellsS σ (.agv t) = cellsL σ t := nr rfl
theorem purgeA_agv (d : Nat) (t : AV) : purgeA d (.agv t) = .agv (purgeA d t) := nr rfl
theorem swA_agv (k t : Nat) (r : AV) : swA k t (.agv r) = .agv (swA k t r) := nr rfl
theorem tlA_nil : tlA [] = .tnil := nr rfl
theorem tlA_cons (x : AV) (r : List AV) : tlA (x :: r) = .tcons x (tlA r) := nr rfl
theorem fillA_1 (place : Nat → Option (Nat × Nat)) (l : List AV) : fillA place l [] = some l := nr (by cases l <;> rfl)
theorem fillA_2 (place : Nat → Option (Nat × Nat)) (l : List AV) (i : Nat) (x : List AV) (r : List (Nat × List AV)) : fillA place l ((i, x) :: r) = match place i with
    | none => none
    | some (off, size) => if x.length = size ∧ off + size ≤ l.length then fillA place (spl l off x) r else none := nr (by cases l <;> rfl)
theorem partsC_nil (cx : Cx) (σ : St) : partsC cx σ [] = some [] := nr rfl
theorem partsC_cons (cx : Cx) (σ : St) (i : Nat) (x : Operand) (r : List (Nat × Operand)) : partsC cx σ ((i, x) :: r) = match partC cx σ x, partsC cx σ r with
    | some y, some l => some ((i, y) :: l)
    | _, _ => none := nr rfl
theorem partC_1 (cx : Cx) (σ : St) (x : Operand) : partC cx σ x = match ev cx σ x with
  | .own k => match σ.o k with
    | some (.arr _ _ _) => some [.own k]
    | _ => none
  | .dv (.d y) => some [.dv (.d y)]
  | .dv (.ag l) => some (l.map fun y => .dv (.d y))
  | _ => none := nr rfl
attribute [go_sem] cellsL_nil cellsL_cons cellO_dv cellO_nil cellO_own cellsS_agv purgeA_agv swA_agv tlA_nil tlA_cons fillA_1 fillA_2 partsC_nil partsC_cons partC_1
attribute [go_sem] gOwn_1 oF_1 mF_1 isOwnA_1 fO1_1 EndsO_1 fO2_1 EndsZ_1 zdat_nil zdat_cons ocells_nil ocells_cons
theorem aggBin_1 : type_of% @Go.Avc.aggBin.eq_1 := by intros; refine nr ?_; apply Go.Avc.aggBin.eq_1 <;> assumption
theorem aggBin_2 : type_of% @Go.Avc.aggBin.eq_2 := by intros; refine nr ?_; apply Go.Avc.aggBin.eq_2 <;> assumption
theorem eqC_1 : type_of% @Go.Avc.eqC.eq_1 := by intros; refine nr ?_; apply Go.Avc.eqC.eq_1 <;> assumption
theorem eqC_2 : type_of% @Go.Avc.eqC.eq_2 := by intros; refine nr ?_; apply Go.Avc.eqC.eq_2 <;> assumption
theorem eq1_1 : type_of% @Go.Avc.eq1.eq_1 := by intros; refine nr ?_; apply Go.Avc.eq1.eq_1 <;> assumption
theorem eq1_2 : type_of% @Go.Avc.eq1.eq_2 := by intros; refine nr ?_; apply Go.Avc.eq1.eq_2 <;> assumption
theorem eq1_3 : type_of% @Go.Avc.eq1.eq_3 := by intros; refine nr ?_; apply Go.Avc.eq1.eq_3 <;> assumption
theorem D_ek_1 : type_of% @Go.Avc.D.ek.eq_1 := by intros; refine nr ?_; apply Go.Avc.D.ek.eq_1 <;> assumption
theorem D_ek_2 : type_of% @Go.Avc.D.ek.eq_2 := by intros; refine nr ?_; apply Go.Avc.D.ek.eq_2 <;> assumption
theorem D_ek_3 : type_of% @Go.Avc.D.ek.eq_3 := by intros; refine nr ?_; apply Go.Avc.D.ek.eq_3 <;> assumption
attribute [go_sem] aggBin_1 aggBin_2 eqC_1 eqC_2 eq1_1 eq1_2 eq1_3 D_ek_1 D_ek_2 D_ek_3
theorem gCall_1 : type_of% @Go.Avc.gCall.eq_1 := by intros; refine nr ?_; apply Go.Avc.gCall.eq_1 <;> assumption
theorem vLen_1 : type_of% @Go.Avc.vLen.eq_1 := by intros; refine nr ?_; apply Go.Avc.vLen.eq_1 <;> assumption
theorem vMax_1 : type_of% @Go.Avc.vMax.eq_1 := by intros; refine nr ?_; apply Go.Avc.vMax.eq_1 <;> assumption
theorem vMin_1 : type_of% @Go.Avc.vMin.eq_1 := by intros; refine nr ?_; apply Go.Avc.vMin.eq_1 <;> assumption
theorem cv_1 : type_of% @Go.Avc.cv.eq_1 := by intros; refine nr ?_; apply Go.Avc.cv.eq_1 <;> assumption
theorem cv_2 : type_of% @Go.Avc.cv.eq_2 := by intros; refine nr ?_; apply Go.Avc.cv.eq_2 <;> assumption
theorem cv_3 : type_of% @Go.Avc.cv.eq_3 := by intros; refine nr ?_; apply Go.Avc.cv.eq_3 <;> assumption
theorem cv_4 : type_of% @Go.Avc.cv.eq_4 := by intros; refine nr ?_; apply Go.Avc.cv.eq_4 <;> assumption
theorem cv_5 : type_of% @Go.Avc.cv.eq_5 := by intros; refine nr ?_; apply Go.Avc.cv.eq_5 <;> assumption
theorem nrm_1 : type_of% @Go.Avc.nrm.eq_1 := by intros; refine nr ?_; apply Go.Avc.nrm.eq_1 <;> assumption
theorem nrm_2 : type_of% @Go.Avc.nrm.eq_2 := by intros; refine nr ?_; apply Go.Avc.nrm.eq_2 <;> assumption
theorem nrm_3 : type_of% @Go.Avc.nrm.eq_3 := by intros; refine nr ?_; apply Go.Avc.nrm.eq_3 <;> assumption
theorem nrm_4 : type_of% @Go.Avc.nrm.eq_4 := by intros; refine nr ?_; apply Go.Avc.nrm.eq_4 <;> assumption
theorem toD_1 : type_of% @Go.Avc.toD.eq_1 := by intros; refine nr ?_; apply Go.Avc.toD.eq_1 <;> assumption
theorem toD_2 : type_of% @Go.Avc.toD.eq_2 := by intros; refine nr ?_; apply Go.Avc.toD.eq_2 <;> assumption
theorem nthT_1 : type_of% @Go.Avc.nthT.eq_1 := by intros; refine nr ?_; apply Go.Avc.nthT.eq_1 <;> assumption
theorem nthT_2 : type_of% @Go.Avc.nthT.eq_2 := by intros; refine nr ?_; apply Go.Avc.nthT.eq_2 <;> assumption
theorem nthT_3 : type_of% @Go.Avc.nthT.eq_3 := by intros; refine nr ?_; apply Go.Avc.nthT.eq_3 <;> assumption
theorem bnd_1 : type_of% @Go.Avc.bnd.eq_1 := by intros; refine nr ?_; apply Go.Avc.bnd.eq_1 <;> assumption
theorem bnd_2 : type_of% @Go.Avc.bnd.eq_2 := by intros; refine nr ?_; apply Go.Avc.bnd.eq_2 <;> assumption
theorem argsD_1 : type_of% @Go.Avc.argsD.eq_1 := by intros; refine nr ?_; apply Go.Avc.argsD.eq_1 <;> assumption
theorem argsD_2 : type_of% @Go.Avc.argsD.eq_2 := by intros; refine nr ?_; apply Go.Avc.argsD.eq_2 <;> assumption
theorem noOwn_1 : type_of% @Go.Avc.noOwn.eq_1 := by intros; refine nr ?_; apply Go.Avc.noOwn.eq_1 <;> assumption
theorem noOwn_2 : type_of% @Go.Avc.noOwn.eq_2 := by intros; refine nr ?_; apply Go.Avc.noOwn.eq_2 <;> assumption
theorem idxOk_1 : type_of% @Go.Avc.idxOk.eq_1 := by intros; refine nr ?_; apply Go.Avc.idxOk.eq_1 <;> assumption
theorem idxOk_2 : type_of% @Go.Avc.idxOk.eq_2 := by intros; refine nr ?_; apply Go.Avc.idxOk.eq_2 <;> assumption
theorem fillD_1 : type_of% @Go.Avc.fillD.eq_1 := by intros; refine nr ?_; apply Go.Avc.fillD.eq_1 <;> assumption
theorem fillD_2 : type_of% @Go.Avc.fillD.eq_2 := by intros; refine nr ?_; apply Go.Avc.fillD.eq_2 <;> assumption
theorem ksOf_1 : type_of% @Go.Avc.ksOf.eq_1 := by intros; refine nr ?_; apply Go.Avc.ksOf.eq_1 <;> assumption
theorem ksOf_2 : type_of% @Go.Avc.ksOf.eq_2 := by intros; refine nr ?_; apply Go.Avc.ksOf.eq_2 <;> assumption
theorem allD_1 : type_of% @Go.Avc.allD.eq_1 := by intros; refine nr ?_; apply Go.Avc.allD.eq_1 <;> assumption
theorem allD_2 : type_of% @Go.Avc.allD.eq_2 := by intros; refine nr ?_; apply Go.Avc.allD.eq_2 <;> assumption
theorem purgeA_1 : type_of% @Go.Avc.purgeA.eq_1 := by intros; refine nr ?_; apply Go.Avc.purgeA.eq_1 <;> assumption
theorem purgeA_2 : type_of% @Go.Avc.purgeA.eq_2 := by intros; refine nr ?_; apply Go.Avc.purgeA.eq_2 <;> assumption
theorem purgeA_3 : type_of% @Go.Avc.purgeA.eq_3 := by intros; refine nr ?_; apply Go.Avc.purgeA.eq_3 <;> assumption
theorem purgeA_4 : type_of% @Go.Avc.purgeA.eq_4 := by intros; refine nr ?_; apply Go.Avc.purgeA.eq_4 <;> assumption
theorem purgeA_5 : type_of% @Go.Avc.purgeA.eq_5 := by intros; refine nr ?_; apply Go.Avc.purgeA.eq_5 <;> assumption
theorem purgeA_6 : type_of% @Go.Avc.purgeA.eq_6 := by intros; refine nr ?_; apply Go.Avc.purgeA.eq_6 <;> assumption
theorem purgeO_1 : type_of% @Go.Avc.purgeO.eq_1 := by intros; refine nr ?_; apply Go.Avc.purgeO.eq_1 <;> assumption
theorem purgeO_2 : type_of% @Go.Avc.purgeO.eq_2 := by intros; refine nr ?_; apply Go.Avc.purgeO.eq_2 <;> assumption
theorem purgeO_3 : type_of% @Go.Avc.purgeO.eq_3 := by intros; refine nr ?_; apply Go.Avc.purgeO.eq_3 <;> assumption
theorem boxD_1 : type_of% @Go.Avc.boxD.eq_1 := by intros; refine nr ?_; apply Go.Avc.boxD.eq_1 <;> assumption
theorem capsD_1 : type_of% @Go.Avc.capsD.eq_1 := by intros; refine nr ?_; apply Go.Avc.capsD.eq_1 <;> assumption
theorem capsD_2 : type_of% @Go.Avc.capsD.eq_2 := by intros; refine nr ?_; apply Go.Avc.capsD.eq_2 <;> assumption
theorem argA_1 : type_of% @Go.Avc.argA.eq_1 := by intros; refine nr ?_; apply Go.Avc.argA.eq_1 <;> assumption
theorem argA_2 : type_of% @Go.Avc.argA.eq_2 := by intros; refine nr ?_; apply Go.Avc.argA.eq_2 <;> assumption
theorem argA_3 : type_of% @Go.Avc.argA.eq_3 := by intros; refine nr ?_; apply Go.Avc.argA.eq_3 <;> assumption
theorem argA_4 : type_of% @Go.Avc.argA.eq_4 := by intros; refine nr ?_; apply Go.Avc.argA.eq_4 <;> assumption
theorem argA_5 : type_of% @Go.Avc.argA.eq_5 := by intros; refine nr ?_; apply Go.Avc.argA.eq_5 <;> assumption
theorem argA_6 : type_of% @Go.Avc.argA.eq_6 := by intros; refine nr ?_; apply Go.Avc.argA.eq_6 <;> assumption
theorem argA_7 : type_of% @Go.Avc.argA.eq_7 := by intros; refine nr ?_; apply Go.Avc.argA.eq_7 <;> assumption
theorem argA_8 : type_of% @Go.Avc.argA.eq_8 := by intros; refine nr ?_; apply Go.Avc.argA.eq_8 <;> assumption
theorem argA_9 : type_of% @Go.Avc.argA.eq_9 := by intros; refine nr ?_; apply Go.Avc.argA.eq_9 <;> assumption
theorem argA_10 : type_of% @Go.Avc.argA.eq_10 := by intros; refine nr ?_; apply Go.Avc.argA.eq_10 <;> assumption
theorem argA_11 : type_of% @Go.Avc.argA.eq_11 := by intros; refine nr ?_; apply Go.Avc.argA.eq_11 <;> assumption
theorem lent_1 : type_of% @Go.Avc.lent.eq_1 := by intros; refine nr ?_; apply Go.Avc.lent.eq_1 <;> assumption
theorem lent_2 : type_of% @Go.Avc.lent.eq_2 := by intros; refine nr ?_; apply Go.Avc.lent.eq_2 <;> assumption
theorem lent_3 : type_of% @Go.Avc.lent.eq_3 := by intros; refine nr ?_; apply Go.Avc.lent.eq_3 <;> assumption
theorem lent_4 : type_of% @Go.Avc.lent.eq_4 := by intros; refine nr ?_; apply Go.Avc.lent.eq_4 <;> assumption
theorem dvs_1 : type_of% @Go.Avc.dvs.eq_1 := by intros; refine nr ?_; apply Go.Avc.dvs.eq_1 <;> assumption
theorem dvs_2 : type_of% @Go.Avc.dvs.eq_2 := by intros; refine nr ?_; apply Go.Avc.dvs.eq_2 <;> assumption
theorem dvs_3 : type_of% @Go.Avc.dvs.eq_3 := by intros; refine nr ?_; apply Go.Avc.dvs.eq_3 <;> assumption
theorem DV_cells_1 : type_of% @Go.Avc.DV.cells.eq_1 := by intros; refine nr ?_; apply Go.Avc.DV.cells.eq_1 <;> assumption
theorem DV_cells_2 : type_of% @Go.Avc.DV.cells.eq_2 := by intros; refine nr ?_; apply Go.Avc.DV.cells.eq_2 <;> assumption
theorem cellsS_1 : type_of% @Go.Avc.cellsS.eq_1 := by intros; refine nr ?_; apply Go.Avc.cellsS.eq_1 <;> assumption
theorem cellsS_2 : type_of% @Go.Avc.cellsS.eq_2 := by intros; refine nr ?_; apply Go.Avc.cellsS.eq_2 <;> assumption
theorem appRows_1 : type_of% @Go.Avc.appRows.eq_1 := by intros; refine nr ?_; apply Go.Avc.appRows.eq_1 <;> assumption
theorem Ends_1 : type_of% @Go.Avc.Ends.eq_1 := by intros; refine nr ?_; apply Go.Avc.Ends.eq_1 <;> assumption
theorem outA_1 : type_of% @Go.Avc.outA.eq_1 := by intros; refine nr ?_; apply Go.Avc.outA.eq_1 <;> assumption
theorem outA_2 : type_of% @Go.Avc.outA.eq_2 := by intros; refine nr ?_; apply Go.Avc.outA.eq_2 <;> assumption
theorem cellA_e (P : Program) (T : TypeId) (cs : List AV) : cellA P T cs = (match Tk P T with
  | some true => match allD cs with
    | some l => if l.length = P.cellsOf T ∧ P.cellsOf T ≠ 0 then some (.dv (.ag l)) else none
    | none => none
  | some false => match cs with
    | [c] => some c
    | _ => none
  | none => none) := nr (by unfold cellA; rfl)
theorem boxA_e (P : Program) (σ : St) (fresh : Bool) (T : TypeId) (k : Nat) : boxA P σ fresh T (.ptr k 0) = (match σ.o k with
    | some (.box _ cs) => (match retL σ fresh cs with
      | some ds => cellA P T ds
      | none => none)
    | _ => none) := nr (by unfold boxA; rfl)
theorem retL_1 : type_of% @Go.Avc.retL.eq_1 := by intros; refine nr ?_; apply Go.Avc.retL.eq_1 <;> assumption
theorem retL_2 : type_of% @Go.Avc.retL.eq_2 := by intros; refine nr ?_; apply Go.Avc.retL.eq_2 <;> assumption
theorem adoptS_1 : type_of% @Go.Avc.adoptS.eq_1 := by intros; refine nr ?_; apply Go.Avc.adoptS.eq_1 <;> assumption
theorem adOk_1 : type_of% @Go.Avc.adOk.eq_1 := by intros; refine nr ?_; apply Go.Avc.adOk.eq_1 <;> assumption
theorem adoptB_1 (S : Nat → AV) (O : Nat → Option Ob) (c : Nat) (p : Nat × TypeId × Nat) : adoptB ⟨S, O, c⟩ p = (match O ((p.1 - 10000) / 100) with
  | some (.box T cs) => (match cs[(p.1 - 10000) % 100]? with
    | some .nil => ⟨purS p.1 S, upd (upd (delO p.1 O) p.1 (some (.arr p.2.1 p.2.2 []))) ((p.1 - 10000) / 100) (some (.box T ((cs.map (purgeA p.1)).set ((p.1 - 10000) % 100) (.own p.1)))), c⟩
    | some (.own k) => if k = p.1 then ⟨S, O, c⟩ else St.swap ⟨S, O, c⟩ k p.1
    | _ => ⟨S, O, c⟩)
  | _ => ⟨S, O, c⟩) := nr (by unfold adoptB; rfl)
attribute [go_sem] retL_1 retL_2 adoptS_1 adOk_1 adoptB_1 List.set_cons_zero List.set_cons_succ List.getElem?_cons_zero List.getElem?_cons_succ
theorem resA_1 : type_of% @Go.Avc.resA.eq_1 := by intros; refine nr ?_; apply Go.Avc.resA.eq_1 <;> assumption
theorem resA_2 : type_of% @Go.Avc.resA.eq_2 := by intros; refine nr ?_; apply Go.Avc.resA.eq_2 <;> assumption
theorem ressA_1 : type_of% @Go.Avc.ressA.eq_1 := by intros; refine nr ?_; apply Go.Avc.ressA.eq_1 <;> assumption
theorem ressA_2 : type_of% @Go.Avc.ressA.eq_2 := by intros; refine nr ?_; apply Go.Avc.ressA.eq_2 <;> assumption
theorem retA_1 : type_of% @Go.Avc.retA.eq_1 := by intros; refine nr ?_; apply Go.Avc.retA.eq_1 <;> assumption
theorem retA_2 : type_of% @Go.Avc.retA.eq_2 := by intros; refine nr ?_; apply Go.Avc.retA.eq_2 <;> assumption
theorem retA_3 : type_of% @Go.Avc.retA.eq_3 := by intros; refine nr ?_; apply Go.Avc.retA.eq_3 <;> assumption
theorem retA_4 : type_of% @Go.Avc.retA.eq_4 := by intros; refine nr ?_; apply Go.Avc.retA.eq_4 <;> assumption
theorem retA_5 : type_of% @Go.Avc.retA.eq_5 := by intros; refine nr ?_; apply Go.Avc.retA.eq_5 <;> assumption
theorem retA_6 : type_of% @Go.Avc.retA.eq_6 := by intros; refine nr ?_; apply Go.Avc.retA.eq_6 <;> assumption
theorem retA_7 : type_of% @Go.Avc.retA.eq_7 := by intros; refine nr ?_; apply Go.Avc.retA.eq_7 <;> assumption
theorem nrm_5 : type_of% @Go.Avc.nrm.eq_5 := by intros; refine nr ?_; apply Go.Avc.nrm.eq_5 <;> assumption
theorem argA_12 : type_of% @Go.Avc.argA.eq_12 := by intros; refine nr ?_; apply Go.Avc.argA.eq_12 <;> assumption
theorem argA_13 : type_of% @Go.Avc.argA.eq_13 := by intros; refine nr ?_; apply Go.Avc.argA.eq_13 <;> assumption
theorem purgeA_7 : type_of% @Go.Avc.purgeA.eq_7 := by intros; refine nr ?_; apply Go.Avc.purgeA.eq_7 <;> assumption
theorem swA_7 : type_of% @Go.Avc.swA.eq_7 := by intros; refine nr ?_; apply Go.Avc.swA.eq_7 <;> assumption
theorem cellsS_3 : type_of% @Go.Avc.cellsS.eq_3 := by intros; refine nr ?_; apply Go.Avc.cellsS.eq_3 <;> assumption
theorem argA_14 : type_of% @Go.Avc.argA.eq_14 := by intros; refine nr ?_; apply Go.Avc.argA.eq_14 <;> assumption
theorem purgeA_8 : type_of% @Go.Avc.purgeA.eq_8 := by intros; refine nr ?_; apply Go.Avc.purgeA.eq_8 <;> assumption
theorem swA_8 : type_of% @Go.Avc.swA.eq_8 := by intros; refine nr ?_; apply Go.Avc.swA.eq_8 <;> assumption
theorem cellsS_4 : type_of% @Go.Avc.cellsS.eq_4 := by intros; refine nr ?_; apply Go.Avc.cellsS.eq_4 <;> assumption
attribute [go_sem] retA_7 nrm_5 argA_12 argA_13 purgeA_7 swA_7 cellsS_3 argA_14 purgeA_8 swA_8 cellsS_4
theorem flatV_1 : type_of% @Go.Avc.flatV.eq_1 := by intros; refine nr ?_; apply Go.Avc.flatV.eq_1 <;> assumption
theorem flatV_2 : type_of% @Go.Avc.flatV.eq_2 := by intros; refine nr ?_; apply Go.Avc.flatV.eq_2 <;> assumption
theorem D_flat_1 : type_of% @Go.Avc.D.flat.eq_1 := by intros; refine nr ?_; apply Go.Avc.D.flat.eq_1 <;> assumption
theorem D_flat_2 : type_of% @Go.Avc.D.flat.eq_2 := by intros; refine nr ?_; apply Go.Avc.D.flat.eq_2 <;> assumption
theorem At_1 : type_of% @Go.Avc.At.eq_1 := by intros; refine nr ?_; apply Go.Avc.At.eq_1 <;> assumption
theorem adopt_1 : type_of% @Go.Avc.adopt.eq_1 := by intros; refine nr ?_; apply Go.Avc.adopt.eq_1 <;> assumption
theorem adopt_2 : type_of% @Go.Avc.adopt.eq_2 := by intros; refine nr ?_; apply Go.Avc.adopt.eq_2 <;> assumption
theorem adopt1_1 : type_of% @Go.Avc.adopt1.eq_1 := by intros; refine nr ?_; apply Go.Avc.adopt1.eq_1 <;> assumption
theorem Fits_1 : type_of% @Go.Avc.Fits.eq_1 := by intros; refine nr ?_; apply Go.Avc.Fits.eq_1 <;> assumption
theorem fitL_1 : type_of% @Go.Avc.fitL.eq_1 := by intros; refine nr ?_; apply Go.Avc.fitL.eq_1 <;> assumption
theorem fitL_2 : type_of% @Go.Avc.fitL.eq_2 := by intros; refine nr ?_; apply Go.Avc.fitL.eq_2 <;> assumption
theorem fitO_1 : type_of% @Go.Avc.fitO.eq_1 := by intros; refine nr ?_; apply Go.Avc.fitO.eq_1 <;> assumption
theorem fitO_2 : type_of% @Go.Avc.fitO.eq_2 := by intros; refine nr ?_; apply Go.Avc.fitO.eq_2 <;> assumption
theorem fitC_1 : type_of% @Go.Avc.fitC.eq_1 := by intros; refine nr ?_; apply Go.Avc.fitC.eq_1 <;> assumption
theorem fitC_2 : type_of% @Go.Avc.fitC.eq_2 := by intros; refine nr ?_; apply Go.Avc.fitC.eq_2 <;> assumption
theorem fitOb_1 : type_of% @Go.Avc.fitOb.eq_1 := by intros; refine nr ?_; apply Go.Avc.fitOb.eq_1 <;> assumption
theorem fitOb_2 (σ : St) (ks : List Nat) (e : TypeId) (z : Nat) (l : List (List D)) (y : Ob) : fitOb σ ks (.arr e z l) y = (Ob.arr e z l = y) := nr (by cases y <;> rfl)
theorem fitOb_3 (σ : St) (ks : List Nat) (T : TypeId) (k : Nat) (y : Ob) : fitOb σ ks (.bld T k) y = (Ob.bld T k = y) := nr (by cases y <;> rfl)
theorem fitA_1 : type_of% @Go.Avc.fitA.eq_1 := by intros; refine nr ?_; apply Go.Avc.fitA.eq_1 <;> assumption
theorem fitA_2 : type_of% @Go.Avc.fitA.eq_2 := by intros; refine nr ?_; apply Go.Avc.fitA.eq_2 <;> assumption
theorem fitA_3 : type_of% @Go.Avc.fitA.eq_3 := by intros; refine nr ?_; apply Go.Avc.fitA.eq_3 <;> assumption
theorem sBox_d : type_of% @Go.Avc.sBox.eq_def := by intros; refine nr ?_; apply Go.Avc.sBox.eq_def <;> assumption
theorem sAlloc_d : type_of% @Go.Avc.sAlloc.eq_def := by intros; refine nr ?_; apply Go.Avc.sAlloc.eq_def <;> assumption
theorem sMake_d : type_of% @Go.Avc.sMake.eq_def := by intros; refine nr ?_; apply Go.Avc.sMake.eq_def <;> assumption
theorem sStore_d : type_of% @Go.Avc.sStore.eq_def := by intros; refine nr ?_; apply Go.Avc.sStore.eq_def <;> assumption
theorem sApp_d : type_of% @Go.Avc.sApp.eq_def := by intros; refine nr ?_; apply Go.Avc.sApp.eq_def <;> assumption
theorem sAppS_d : type_of% @Go.Avc.sAppS.eq_def := by intros; refine nr ?_; apply Go.Avc.sAppS.eq_def <;> assumption
theorem sBld_d : type_of% @Go.Avc.sBld.eq_def := by intros; refine nr ?_; apply Go.Avc.sBld.eq_def <;> assumption
theorem sAllocB_d : type_of% @Go.Avc.sAllocB.eq_def := by intros; refine nr ?_; apply Go.Avc.sAllocB.eq_def <;> assumption
theorem partD_d : type_of% @Go.Avc.partD.eq_def := by intros; refine nr ?_; apply Go.Avc.partD.eq_def <;> assumption
attribute [go_sem] swA_1 swA_2 swA_3 swA_4 swA_5 swA_6 swO_1 swO_2 swO_3 swN_1 kB_1 bF_1 fWB_1 fWS_1 fSt_1 fLn_1 bT_1 bE_1 bldArg_1 
attribute [go_sem]    vPick_1 vNil_1 vBin_1 intBin_1 intBin_2 intBin_3 intBin_4 intBin_5 intBin_6 intBin_7 intBin_8 intBin_9 intBin_10 intBin_11 intBin_12 strBin_1 strBin_2
attribute [go_sem] strBin_3 strBin_4 strBin_5 strBin_6 strBin_7 strBin_8 boolBin_1 boolBin_2 boolBin_3 vUn_1 vUn_2 vUn_3 vConv_1 vField_1 vFaddr_1 vIndex_1 vIdxA_1 vLoad_1 vExtract_1 vBuild_1
attribute [go_sem] vSlice_1 vFunc_1 vBuildS_1 gCall_1 vLen_1 vMax_1 vMin_1 cv_1 cv_2 cv_3 cv_4 cv_5 nrm_1 nrm_2 nrm_3 nrm_4 toD_1 toD_2  
attribute [go_sem] nthT_1 nthT_2 nthT_3 bnd_1 bnd_2 argsD_1 argsD_2 noOwn_1 noOwn_2 idxOk_1 idxOk_2 fillD_1 fillD_2 ksOf_1 ksOf_2 allD_1 allD_2 purgeA_1 purgeA_2 purgeA_3
attribute [go_sem] purgeA_4 purgeA_5 purgeA_6 purgeO_1 purgeO_2 purgeO_3 boxD_1 capsD_1 capsD_2 argA_1 argA_2 argA_3 argA_4 argA_5 argA_6 argA_7 argA_8 argA_9 argA_10 argA_11
attribute [go_sem] lent_1 lent_2 lent_3 lent_4 dvs_1 dvs_2 dvs_3 DV_cells_1 DV_cells_2 cellsS_1 cellsS_2         
attribute [go_sem] appRows_1     Ends_1 outA_1 outA_2 cellA_e boxA_e resA_1 resA_2 ressA_1 ressA_2 retA_1 retA_2 retA_3 retA_4 retA_5 retA_6 flatV_1 flatV_2
attribute [go_sem] D_flat_1 D_flat_2 At_1 adopt_1 adopt_2 adopt1_1 Fits_1 fitL_1 fitL_2 fitO_1 fitO_2 fitC_1 fitC_2 fitOb_1 fitOb_2 fitOb_3 fitA_1 fitA_2 fitA_3
attribute [go_sem] sBox_d
attribute [go_sem] sAlloc_d
attribute [go_sem] sMake_d
attribute [go_sem] sStore_d
attribute [go_sem] sApp_d
attribute [go_sem] sAppS_d
attribute [go_sem] sBld_d
attribute [go_sem] sAllocB_d
attribute [go_sem] partD_d
theorem vMin3_1 : type_of% @Go.Avc.vMin3.eq_1 := by intros; refine nr ?_; apply Go.Avc.vMin3.eq_1 <;> assumption
attribute [go_sem] vMin3_1
theorem vMax3_1 : type_of% @Go.Avc.vMax3.eq_1 := by intros; refine nr ?_; apply Go.Avc.vMax3.eq_1 <;> assumption
attribute [go_sem] vMax3_1
theorem fFi_1 : type_of% @Go.Avc.fFi.eq_1 := by intros; refine nr ?_; apply Go.Avc.fFi.eq_1 <;> assumption
theorem tFi_1 : type_of% @Go.Avc.tFi.eq_1 := by intros; refine nr ?_; apply Go.Avc.tFi.eq_1 <;> assumption
attribute [go_sem] fFi_1 tFi_1
theorem zRow_d : type_of% @Go.Avc.zRow.eq_def := by intros; refine nr ?_; apply Go.Avc.zRow.eq_def <;> assumption
attribute [go_sem] zRow_d
theorem zD_d : type_of% @Go.Avc.zD.eq_def := by intros; refine nr ?_; apply Go.Avc.zD.eq_def <;> assumption
attribute [go_sem] zD_d
attribute [go_sem] List.headD_cons
theorem spl_d : type_of% @Go.Avc.spl.eq_def := by intros; refine nr ?_; apply Go.Avc.spl.eq_def <;> assumption
theorem cellsA_d (x : D) : cellsA (.dv (.d x)) = some [.dv (.d x)] := nr rfl
theorem cellsA_ag (l : List D) : cellsA (.dv (.ag l)) = some (l.map fun x => .dv (.d x)) := nr rfl
theorem cellsA_ptr (k o : Nat) : cellsA (.ptr k o) = some [.ptr k o] := nr rfl
theorem cellsA_dp (l : List D) : cellsA (.dp l) = some [.dp l] := nr rfl
theorem cellsA_st : cellsA .st = some [.st] := nr rfl
theorem cellsA_fn (f : FuncId) (ks : List Nat) : cellsA (.fn f ks) = some [.fn f ks] := nr rfl
theorem cellsA_fv (sp : FSpec) : cellsA (.fv sp) = some [.fv sp] := nr rfl
theorem cellsA_nil : cellsA .nil = some [.nil] := nr rfl
theorem cellsA_lit (e : TypeId) (l : List (List D)) : cellsA (.lit e l) = some [.lit e l] := nr rfl
theorem cellsA_agz (l : List D) (zs : List Nat) : cellsA (.agz l zs) = some (zcells zs l 0) := nr rfl
theorem memN_nil (j : Nat) : memN [] j = false := nr rfl
theorem memN_cons (u : Nat) (r : List Nat) (j : Nat) : memN (u :: r) j = if u = j then true else memN r j := nr rfl
attribute [go_sem] memN_nil memN_cons
theorem zcells_nil (zs : List Nat) (j : Nat) : zcells zs [] j = [] := nr rfl
theorem zcells_cons (zs : List Nat) (x : D) (r : List D) (j : Nat) : zcells zs (x :: r) j = (if memN zs j = true ∧ j < 1000 then .nil else match litE zs j with
    | some e => litc e x
    | none => .dv (.d x)) :: zcells zs r (j + 1) := nr rfl
theorem litE_nil (j : Nat) : litE [] j = none := nr rfl
theorem litE_cons (u : Nat) (r : List Nat) (j : Nat) : litE (u :: r) j = if 1000 ≤ u then (if u % 1000 = j then some (u / 1000 - 1) else litE r j) else litE r j := by
  refine nr ?_
  show (if 1000 ≤ u ∧ u % 1000 = j then some (u / 1000 - 1) else litE r j) = _
  by_cases a : 1000 ≤ u
  · by_cases b : u % 1000 = j
    · rw [if_pos ⟨a, b⟩, if_pos a, if_pos b]
    · rw [if_neg (fun e => b e.2), if_pos a, if_neg b]
  · rw [if_neg (fun e => a e.1), if_neg a]
attribute [go_sem] litE_nil litE_cons
theorem litc_sl (e : TypeId) (l : List (List D)) : litc e (.sl l) = .lit e l := nr rfl
theorem litc_i (e : TypeId) (k : IntKind) (n : Int) : litc e (.int k n) = .dv (.d (.int k n)) := nr rfl
theorem litc_s (e : TypeId) (b : ByteArray) : litc e (.str b) = .dv (.d (.str b)) := nr rfl
theorem litc_b (e : TypeId) (b : Bool) : litc e (.bool b) = .dv (.d (.bool b)) := nr rfl
theorem litsF_nil (cx : Cx) (σ : St) (pl : List (Nat × Nat)) : litsF cx σ pl [] = [] := nr rfl
theorem litsF_cons (cx : Cx) (σ : St) (pl : List (Nat × Nat)) (i : Nat) (x : Operand) (r : List (Nat × Operand)) : litsF cx σ pl ((i, x) :: r) = match ev0 cx σ x, pl[i]? with
    | .lit e _, some (off, 1) => if cov pl (r.map (·.1)) off = true ∨ 1000 ≤ off then litsF cx σ pl r else (1000 * (e + 1) + off) :: litsF cx σ pl r
    | _, _ => litsF cx σ pl r := nr rfl
attribute [go_sem] litc_sl litc_i litc_s litc_b litsF_nil litsF_cons
theorem cov_nil (pl : List (Nat × Nat)) (j : Nat) : cov pl [] j = false := nr rfl
theorem cov_cons (pl : List (Nat × Nat)) (i : Nat) (is : List Nat) (j : Nat) : cov pl (i :: is) j = (match pl[i]? with
    | some p => if p.1 ≤ j ∧ j < p.1 + p.2 then true else cov pl is j
    | none => true) := nr rfl
theorem nilsF_nil (pl : List (Nat × Nat)) (is : List Nat) (j : Nat) : nilsF pl is [] j = [] := nr rfl
theorem nilsF_n (pl : List (Nat × Nat)) (is : List Nat) (r : List AV) (j : Nat) : nilsF pl is (.nil :: r) j = if cov pl is j = true ∨ 1000 ≤ j then nilsF pl is r (j + 1) else j :: nilsF pl is r (j + 1) := nr rfl
theorem nilsF_dv (pl : List (Nat × Nat)) (is : List Nat) (x : DV) (r : List AV) (j : Nat) : nilsF pl is (.dv x :: r) j = nilsF pl is r (j + 1) := nr rfl
theorem zeroAV_e {P : Program} {t : TypeId} {l : List AV} (h : TzeroA P t = some l) : zeroAV P t = l := nr (by
  unfold TzeroA at h
  unfold zeroAV
  split at h
  · rename_i i hi
    split at h
    · rename_i z hz
      first
        | (simp only [hi, hz]
           exact Option.some.inj h)
        | exact Option.some.inj h
        | (simp_all)
    · cases h
  · cases h)
attribute [go_sem] cellsA_agz zcells_nil zcells_cons cov_nil cov_cons nilsF_nil nilsF_n nilsF_dv
theorem hasUn_nil : hasUn [] = false := nr rfl
theorem hasUn_un (r : List AV) : hasUn (.un :: r) = true := nr rfl
theorem hasUn_dv (x : DV) (r : List AV) : hasUn (.dv x :: r) = hasUn r := nr rfl
theorem hasUn_n (r : List AV) : hasUn (.nil :: r) = hasUn r := nr rfl
attribute [go_sem] spl_d cellsA_d cellsA_ag cellsA_ptr cellsA_dp cellsA_st cellsA_fn cellsA_fv cellsA_nil cellsA_lit hasUn_nil hasUn_un hasUn_dv hasUn_n List.cons_append List.nil_append List.append_nil
end Go.Avc.Eq
