/- The program of chapter 22: ordinals. -/
import Derived.Test.YteglanpnmnkkbaaPl3
namespace Go.Am
set_option linter.unusedVariables false
set_option linter.unusedSimpArgs false
set_option maxHeartbeats 4000000
set_option maxRecDepth 20000
open Go.RowKit Go.Proofs
attribute [local simp] thenKD_normal thenKD_exit thenKD_goto thenKD_ret inBlockKD_normal inBlockKD_exit inBlockKD_goto inBlockKD_ret noGotoKD_normal noGotoKD_exit noGotoKD_goto noGotoKD_ret roundKD_normal roundKD_exit roundKD_goto roundKD_ret frzSlotsD_nil frzSlotsD_cons frzSlotD_eq yieldVCD_trace opVCD_eq vcOpsD_nil vcOpsD_cons vcAllD_zero vcAllD_succ allAtD_nil allAtD_cons readyAux edgA vcD_skip vcD_label vcD_exit vcD_goto vcD_ret vcD_region vcD_seq vcD_seqC vcD_cond vcCondD_bool vcD_block vcD_scope vcD_loop vcD_rangeFunc yieldOf isMem isMem0 keepE envLe St.le psE yieldAV round_td round_y round_Γ vI vB vS aI aB aS look getE oper opRV putE allOk okOps Op.operands Call.operands pEv qEv mEv constRV coe RV.av loadEv loadCs takeAt indexAddrEv fieldAddrEv binEv intEv arith unEv gcond pickEv argsEv callVal callEv capAV_mk lenArgs lenEv minEv extractEv convEv funcEv allBox bound sliceEv lookupEv TD.isBool allocEv boxEv storeEv spl plainTD appendEv appendArgs makeMapEv mapUpdateEv buildEv buildSliceEv fillSV zsvOf sizeTD Ty.parses parses_flats' coeA flats_length AV.good AV.cells AV.pure SV.pure av_int av_bool av_str av_slice av_cons av_fld0 av_fld1 av_fld2 av_fld3 av_fld4 Ty.of Ty.dflt Ty.parse Ty.flat Ty.zsv Ty.fld Ty.get Ty.off Ty.nfld Ty.size coeTy junk Blk.look argEnv resEv resOk resVs oneRV retOk frzAs frzAV frzL frzSV boxCaps boxCap SV.sig sigs RV.scalar AV.scalar SV.scalar nope effVCD_eq effOf SV.ids AV.ids dedup SV.ren AV.ren RV.ren idx outId mergeB Blk.pureB flats_pure flat_pure epsSlotsD_nil epsSlotsD_cons epsSlotD_eq allEp D.parts_fnOf fvParts retEff round_E av_fn G.ye isCutD_nil isCutD_cons firstReg_region firstReg_seq firstReg_skip firstReg_ret firstReg_label firstReg_exit firstReg_goto firstReg_cond firstReg_block firstReg_scope firstReg_loop firstReg_rf eptrOf_mk flOfD_nil flOfD_cons vcFlD_cons vcFlD_nil flPairs_nil flPairs_cons vcFrD_nil vcFrD_cons makeSliceEv vcCondD_ib fzEv unfl_flats isFz round_fz
attribute [local simp ←] flats_append

/-- slices.Values. -/
noncomputable def conValues : Con := ⟨fun args => (match args with
  | [.s (.sl (.int .i64) xs _)] => True
  | _ => False), fun args => match args with
  | [.s (.sl (.int .i64) xs _)] => .v (.s (.fnp 57 [⟨.slice (.int .i64), xs⟩]))
  | _ => .v (.s .any)⟩
theorem conValues_pre (xs : List (Ty.T (.int .i64))) (exxs : Bool) : conValues.pre [.s (.sl (.int .i64) xs exxs)] = (True) := rfl
theorem conValues_val (xs : List (Ty.T (.int .i64))) (exxs : Bool) : conValues.val [.s (.sl (.int .i64) xs exxs)] = .v (.s (.fnp 57 [⟨.slice (.int .i64), xs⟩])) := rfl
theorem values_ok : PureOk Try.prog 42 conValues := by
  refine pureOkD (L := { live := [0, 1, 2] }) pl0_good rfl pl_mixed Try.func42 rfl conValues 1 (by decide) (by kernel_rfl) ?_
  intro args hpre hlens
  simp only [conValues] at hpre
  split at hpre
  case h_2 => exact hpre.elim
  rename_i xs ex
  simp only [allLen, AV.lenOk, SV.lenOk, Ty.lenOk, maxLen, and_true, implies_true, true_and] at hlens
  refine ⟨rfl, ?_⟩
  simp -dsimp -implicitDefEqProofs [Try.f42, conValues_val, pl0_td, pl0_y, pl0_Γ, pl0_E, pl0_fz, plT, pl0Γ, pl0E, inI64]
def itValues : ItCon := ⟨fun caps => (match caps with
  | [.s (.eptr (.slice (.int .i64)) _)] => True
  | _ => False), fun caps => match caps with
  | [.s (.eptr (.slice (.int .i64)) xs)] => xs.map fun x => [aI x]
  | _ => []⟩
theorem itValues_xs (xs : List Int) : itValues.xs [.s (.eptr (.slice tI) xs)] = xs.map fun x => [aI x] := rfl
theorem values1_ok : ItOk Try.prog 57 itValues := by
  refine itOkD (L := { live := [0, 1, 4, 5, 6, 7, 8, 14] }) pl0y_good rfl pl_mixed Try.func57 (enters_of Try.func57 (by kernel_rfl) rfl) rfl rfl itValues 1 (by decide) (by kernel_rfl) ?_
  intro caps l hpre hlens
  simp only [itValues] at hpre
  split at hpre
  · rename_i xs
    obtain ⟨⟨hl, _⟩, _⟩ := hlens
    refine ⟨rfl, fun X hX => ?_⟩
    rw [itValues_xs]
    simp only [maxLen] at hl
    simp -dsimp -implicitDefEqProofs [Try.f57, pl0y_td, pl0y_y, pl0y_Γ, pl0y_E, pl0y_fz, plT, pl0Γ, pl0E, inI64]
    refine WpD.loop (L := { live := [0, 1, 4, 5, 6, 7, 8, 14] }) pl0y_good hX pl_mixed (by kernel_rfl)
      (fun i : Nat => ⟨[(0, ⟨true, .v (.s (.val (.func (.yield l) #[] #[])))⟩), (5, vS tI xs false), (6, vI xs.length), (7, vI i)], [.trace l (xs.map fun x => [aI x]) i false]⟩)
      (fun i => i ≤ xs.length) (fun i => xs.length - i) 0 (by simp) (Turn.le (by simp -dsimp -implicitDefEqProofs)) ?_
    intro i hi
    simp -dsimp -implicitDefEqProofs [pl0y_td, pl0y_y, pl0y_Γ, pl0y_E, pl0y_fz, plT, pl0Γ, pl0E, inI64]
    refine ⟨fun hlt => ⟨hlt, by simp [hlt], ⟨by omega, by omega⟩, i + 1, by omega, by omega, TurnT.le (by simp -dsimp -implicitDefEqProofs)⟩, fun hge => by omega⟩
  · exact hpre.elim
def itV : List (FuncId × ItCon) := [(57, itValues)]
theorem itV_known : KnownIt Try.prog itV := .cons values1_ok .nil
theorem seq_values (xs : List Int) : seqOf itV 57 [⟨.slice tI, xs⟩] tI xs := ⟨itValues, rfl, trivial, rfl⟩

noncomputable def pl3Γ : List (FuncId × Con) := (44, conBin) :: (42, conValues) :: pl2Γ
theorem pl3Γ_ok : ∀ p ∈ pl3Γ, (∀ (args : Array Value) (w : World), (callFunc p.1 args).run Try.prog w = .ok (.enter p.1 args) w) ∧ PureOk Try.prog p.1 p.2 := by
  simp only [pl3Γ, List.forall_mem_cons]
  exact ⟨⟨enters_of Try.func44 (by kernel_rfl) rfl, bin_ok⟩, ⟨enters_of Try.func42 (by kernel_rfl) rfl, values_ok⟩, pl2Γ_ok⟩
noncomputable def pl3E : List (FuncId × ECon) := (56, (conColI itV)) :: (51, conSort) :: pl2E
theorem pl3E_ok : ∀ p ∈ pl3E, (∀ (args : Array Value) (w : World), (callFunc p.1 args).run Try.prog w = .ok (.enter p.1 args) w) ∧ EffOk Try.prog p.1 p.2 := by
  simp only [pl3E, List.forall_mem_cons]
  exact ⟨⟨enters_of Try.func56 (by kernel_rfl) rfl, (conColI_known itV itV_known)⟩, ⟨enters_of Try.func51 (by kernel_rfl) rfl, (sort_eff Try.laySort)⟩, pl2E_ok⟩
noncomputable def pl3 : G := { τ := plT, Γ := pl3Γ, E := pl3E }
theorem pl3_good : pl3.good Try.prog := good_of_all (plT_ok _ rfl) pl3Γ_ok pl3E_ok
theorem pl3_td (t : TypeId) : pl3.td t = (look plT t).getD .other := rfl
theorem pl3_y : pl3.y = false := rfl
theorem pl3_Γ : pl3.Γ = pl3Γ := rfl
theorem pl3_E : pl3.E = pl3E := rfl
theorem pl3_fz : pl3.fz = [] := rfl
noncomputable def pl3y : G := { τ := plT, Γ := pl3Γ, E := pl3E, y := true }
theorem pl3y_good : pl3y.good Try.prog := good_of_all (plT_ok _ rfl) pl3Γ_ok pl3E_ok
theorem pl3y_td (t : TypeId) : pl3y.td t = (look plT t).getD .other := rfl
theorem pl3y_y : pl3y.y = true := rfl
theorem pl3y_Γ : pl3y.Γ = pl3Γ := rfl
theorem pl3y_E : pl3y.E = pl3E := rfl
theorem pl3y_fz : pl3y.fz = [] := rfl

/-- slices.Sorted. -/
def conSorted : ECon := { wp := fun args hp K => match args, hp with
  | [.s (.fnp f caps)], [] => ∃ xs : List Int, seqOf itV f caps tI xs ∧ xs.length ≤ 1000000000 ∧ K (.v (.s (.own tI 0 xs.length))) [.arr (decide (0 < xs.length)) (tI.flats (isort xs))]
  | _, _ => False }
theorem sorted_ok : EffOk Try.prog 41 conSorted := by
  refine effOkD (L := { live := [0, 2, 3] }) pl3_good rfl pl_mixed Try.func41 rfl conSorted 1 (by decide) (by kernel_rfl) ?_
  intro args hp K hpre hlens
  simp only [conSorted] at hpre
  split at hpre
  · rename_i f caps
    obtain ⟨xs, hs, hlen, hK⟩ := hpre
    refine ⟨rfl, ?_⟩
    simp -dsimp -implicitDefEqProofs [Try.f41, pl3_td, pl3_y, pl3_Γ, pl3_E, pl3_fz, plT, pl3Γ, pl3E, pl2Γ, pl2E, pl1Γ, pl1E, pl0Γ, pl0E, conBin_pre, conBin_val, conValues_pre, conValues_val, conColI, conSort, conLess_pre, conLess_val, conNaN_pre, conNaN_val, inI64]
    refine ⟨xs, hs, hlen, xs, rfl, rfl, by omega, ?_, ?_⟩
    · cases xs <;> simp
    · have := isort_length xs
      exact hK
  · exact hpre.elim

/-- What is made of one number. -/
noncomputable def conPl1 : Con := ⟨fun args => (match args with
  | [.s (.int .i64 n), .s (.eptr (.slice (.int .i64)) s)] => s.Pairwise (fun a b => a ≤ b) ∧ s.length ≤ 1000000
  | _ => False), fun args => match args with
  | [.s (.int _ n), .s (.eptr (.slice (.int .i64)) s)] => .v (aI (below n s + 1))
  | _ => .v (.s .any)⟩
theorem conPl1_pre (n : Int) (s : Ty.T (.slice (.int .i64))) : conPl1.pre [.s (.int .i64 n), .s (.eptr (.slice (.int .i64)) s)] = (s.Pairwise (fun a b => a ≤ b) ∧ s.length ≤ 1000000) := rfl
theorem conPl1_val (n : Int) (s : Ty.T (.slice (.int .i64))) : conPl1.val [.s (.int .i64 n), .s (.eptr (.slice (.int .i64)) s)] = .v (aI (below n s + 1)) := rfl
theorem pl1_ok : PureOk Try.prog 43 conPl1 := by
  refine pureOkD (L := { live := [0, 1, 3, 4] }) pl3_good rfl pl_mixed Try.func43 rfl conPl1 2 (by decide) (by kernel_rfl) ?_
  intro args hpre hlens
  simp only [conPl1] at hpre
  split at hpre
  case h_2 => exact hpre.elim
  rename_i n s
  simp only [allLen, AV.lenOk, SV.lenOk, Ty.lenOk, maxLen, and_true, implies_true, true_and] at hlens
  refine ⟨rfl, ?_⟩
  simp -dsimp -implicitDefEqProofs [Try.f43, conPl1_val, pl3_td, pl3_y, pl3_Γ, pl3_E, pl3_fz, plT, pl3Γ, pl3E, pl2Γ, pl2E, pl1Γ, pl1E, pl0Γ, pl0E, conBin_pre, conBin_val, conValues_pre, conValues_val, conColI, conSort, conLess_pre, conLess_val, conNaN_pre, conNaN_val, inI64]
  have := below_le n s
  exact ⟨hpre, by omega, by omega⟩
noncomputable def conCompl : Con := ⟨fun args => (match args with
  | [.s (.int .i64 n)] => inI64 n
  | _ => False), fun args => match args with
  | [.s (.int _ n)] => .v (aI (-n - 1))
  | _ => .v (.s .any)⟩
theorem conCompl_pre (n : Int) : conCompl.pre [.s (.int .i64 n)] = (inI64 n) := rfl
theorem conCompl_val (n : Int) : conCompl.val [.s (.int .i64 n)] = .v (aI (-n - 1)) := rfl
theorem compl_ok : PureOk Try.prog 25 conCompl := by
  refine pureOkD (L := { live := [0, 2] }) pl0_good rfl pl_mixed Try.func25 rfl conCompl 1 (by decide) (by kernel_rfl) ?_
  intro args hpre hlens
  simp only [conCompl] at hpre
  split at hpre
  case h_2 => exact hpre.elim
  rename_i n
  simp only [allLen, AV.lenOk, SV.lenOk, Ty.lenOk, maxLen, and_true, implies_true, true_and] at hlens
  refine ⟨rfl, ?_⟩
  simp -dsimp -implicitDefEqProofs [Try.f25, conCompl_val, pl0_td, pl0_y, pl0_Γ, pl0_E, pl0_fz, plT, pl0Γ, pl0E, inI64]
  exact hpre
noncomputable def gII : List (FuncId × Con) := [(43, conPl1), (25, conCompl)]
theorem gII_known : Known Try.prog gII := .cons (enters_of Try.func43 (by kernel_rfl) rfl) pl1_ok (.cons (enters_of Try.func25 (by kernel_rfl) rfl) compl_ok .nil)
theorem fn_pl1 (s : List Int) : fnTo gII tI tI 43 [⟨.slice tI, s⟩] (fun n => (below n s : Int) + 1) (fun _ => s.Pairwise (fun a b => a ≤ b) ∧ s.length ≤ 1000000) := ⟨conPl1, rfl, fun _ => rfl, fun _ h => h⟩
theorem fn_compl : fnTo gII tI tI 25 [] (fun n : Int => -n - 1) inI64 := ⟨conCompl, rfl, fun _ => rfl, fun _ h => h⟩
theorem map_pl1 (s xs : List Int) : mapV gII tI tI 43 [⟨.slice tI, s⟩] xs = xs.map fun n => (below n s : Int) + 1 := mapV_eq (by decide) (fn_pl1 s) xs
theorem map_compl (xs : List Int) : mapV gII tI tI 25 [] xs = xs.map fun n => -n - 1 := mapV_eq (by decide) fn_compl xs
noncomputable def pl4Γ : List (FuncId × Con) := (24, (conMapII gII)) :: pl3Γ
theorem pl4Γ_ok : ∀ p ∈ pl4Γ, (∀ (args : Array Value) (w : World), (callFunc p.1 args).run Try.prog w = .ok (.enter p.1 args) w) ∧ PureOk Try.prog p.1 p.2 := by
  simp only [pl4Γ, List.forall_mem_cons]
  exact ⟨⟨enters_of Try.func24 (by kernel_rfl) rfl, (conMapII_known gII gII_known)⟩, pl3Γ_ok⟩
noncomputable def pl4E : List (FuncId × ECon) := (41, conSorted) :: pl3E
theorem pl4E_ok : ∀ p ∈ pl4E, (∀ (args : Array Value) (w : World), (callFunc p.1 args).run Try.prog w = .ok (.enter p.1 args) w) ∧ EffOk Try.prog p.1 p.2 := by
  simp only [pl4E, List.forall_mem_cons]
  exact ⟨⟨enters_of Try.func41 (by kernel_rfl) rfl, sorted_ok⟩, pl3E_ok⟩
noncomputable def pl4 : G := { τ := plT, Γ := pl4Γ, E := pl4E }
theorem pl4_good : pl4.good Try.prog := good_of_all (plT_ok _ rfl) pl4Γ_ok pl4E_ok
theorem pl4_td (t : TypeId) : pl4.td t = (look plT t).getD .other := rfl
theorem pl4_y : pl4.y = false := rfl
theorem pl4_Γ : pl4.Γ = pl4Γ := rfl
theorem pl4_E : pl4.E = pl4E := rfl
theorem pl4_fz : pl4.fz = [] := rfl
noncomputable def pl4y : G := { τ := plT, Γ := pl4Γ, E := pl4E, y := true }
theorem pl4y_good : pl4y.good Try.prog := good_of_all (plT_ok _ rfl) pl4Γ_ok pl4E_ok
theorem pl4y_td (t : TypeId) : pl4y.td t = (look plT t).getD .other := rfl
theorem pl4y_y : pl4y.y = true := rfl
theorem pl4y_Γ : pl4y.Γ = pl4Γ := rfl
theorem pl4y_E : pl4y.E = pl4E := rfl
theorem pl4y_fz : pl4y.fz = [] := rfl

/-- The ordinals of a row in which lesser numbers are better. -/
def ordRow (row : List Int) : List Int := row.map fun n => (below n row : Int) + 1
noncomputable def conPlaced : Con := ⟨fun args => (match args with
  | [.s (.sl (.int .i64) row _)] => row.length ≤ 1000000
  | _ => False), fun args => match args with
  | [.s (.sl (.int .i64) row _)] => .v (aS tI (ordRow row) false)
  | _ => .v (.s .any)⟩
theorem conPlaced_pre (row : List (Ty.T (.int .i64))) (exrow : Bool) : conPlaced.pre [.s (.sl (.int .i64) row exrow)] = (row.length ≤ 1000000) := rfl
theorem conPlaced_val (row : List (Ty.T (.int .i64))) (exrow : Bool) : conPlaced.val [.s (.sl (.int .i64) row exrow)] = .v (aS tI (ordRow row) false) := rfl
theorem placed_ok : PureOk Try.prog 23 conPlaced := by
  refine pureOkD (L := { live := [0, 2, 3], frz := [(2, [3])], eps := [(2, [3])] }) pl4_good rfl pl_mixed Try.func23 rfl conPlaced 1 (by decide) (by kernel_rfl) ?_
  intro args hpre hlens
  simp only [conPlaced] at hpre
  split at hpre
  case h_2 => exact hpre.elim
  rename_i row ex
  simp only [allLen, AV.lenOk, SV.lenOk, Ty.lenOk, maxLen, and_true, implies_true, true_and] at hlens
  refine ⟨rfl, ?_⟩
  simp -dsimp -implicitDefEqProofs [Try.f23, conPlaced_val, pl4_td, pl4_y, pl4_Γ, pl4_E, pl4_fz, plT, pl4Γ, pl4E, pl3Γ, pl3E, pl2Γ, pl2E, pl1Γ, pl1E, pl0Γ, pl0E, conMapII_pre, conMapII_val, conSorted, conBin_pre, conBin_val, conValues_pre, conValues_val, conColI, conSort, conLess_pre, conLess_val, conNaN_pre, conNaN_val, inI64]
  refine ⟨row, seq_values row, by omega, isort_length row, isort row, rfl, (isort_length row).symm, ⟨hpre, _, (fn_pl1 (isort row)).mono fun _ _ => ⟨isort_sorted row, by rw [isort_length]; exact hpre⟩⟩, ?_⟩
  rw [map_pl1]
  unfold ordRow
  refine List.map_congr_left fun n _ => ?_
  rw [below_perm n (isort_perm row)]

/-- The ordinals of a row of totals. -/
def above (n : Int) (xs : List Int) : Nat := (xs.filter fun x => decide (n < x)).length
def ordTot (row : List Int) : List Int := row.map fun n => (above n row : Int) + 1
theorem ordRow_compl (row : List Int) : ordRow (row.map fun n => -n - 1) = ordTot row := by
  unfold ordRow ordTot
  rw [List.map_map]
  refine List.map_congr_left fun n _ => ?_
  simp only [Function.comp_apply, below, above, List.filter_map, List.length_map]
  congr 3
  refine List.filter_congr fun x _ => ?_
  simp only [Function.comp_apply]
  exact decide_eq_decide.2 (by omega)
noncomputable def pl5Γ : List (FuncId × Con) := (23, conPlaced) :: pl4Γ
theorem pl5Γ_ok : ∀ p ∈ pl5Γ, (∀ (args : Array Value) (w : World), (callFunc p.1 args).run Try.prog w = .ok (.enter p.1 args) w) ∧ PureOk Try.prog p.1 p.2 := by
  simp only [pl5Γ, List.forall_mem_cons]
  exact ⟨⟨enters_of Try.func23 (by kernel_rfl) rfl, placed_ok⟩, pl4Γ_ok⟩
noncomputable def pl5E : List (FuncId × ECon) := pl4E
theorem pl5E_ok : ∀ p ∈ pl5E, (∀ (args : Array Value) (w : World), (callFunc p.1 args).run Try.prog w = .ok (.enter p.1 args) w) ∧ EffOk Try.prog p.1 p.2 := by
  simp only [pl5E]
  exact pl4E_ok
noncomputable def pl5 : G := { τ := plT, Γ := pl5Γ, E := pl5E }
theorem pl5_good : pl5.good Try.prog := good_of_all (plT_ok _ rfl) pl5Γ_ok pl5E_ok
theorem pl5_td (t : TypeId) : pl5.td t = (look plT t).getD .other := rfl
theorem pl5_y : pl5.y = false := rfl
theorem pl5_Γ : pl5.Γ = pl5Γ := rfl
theorem pl5_E : pl5.E = pl5E := rfl
theorem pl5_fz : pl5.fz = [] := rfl
noncomputable def pl5y : G := { τ := plT, Γ := pl5Γ, E := pl5E, y := true }
theorem pl5y_good : pl5y.good Try.prog := good_of_all (plT_ok _ rfl) pl5Γ_ok pl5E_ok
theorem pl5y_td (t : TypeId) : pl5y.td t = (look plT t).getD .other := rfl
theorem pl5y_y : pl5y.y = true := rfl
theorem pl5y_Γ : pl5y.Γ = pl5Γ := rfl
theorem pl5y_E : pl5y.E = pl5E := rfl
theorem pl5y_fz : pl5y.fz = [] := rfl
noncomputable def conOrd1 : Con := ⟨fun args => (match args with
  | [.s (.sl (.int .i64) row _)] => row.length ≤ 1000000 ∧ ∀ n ∈ row, inI64 n
  | _ => False), fun args => match args with
  | [.s (.sl (.int .i64) row _)] => .v (aS tI (ordTot row) false)
  | _ => .v (.s .any)⟩
theorem conOrd1_pre (row : List (Ty.T (.int .i64))) (exrow : Bool) : conOrd1.pre [.s (.sl (.int .i64) row exrow)] = (row.length ≤ 1000000 ∧ ∀ n ∈ row, inI64 n) := rfl
theorem conOrd1_val (row : List (Ty.T (.int .i64))) (exrow : Bool) : conOrd1.val [.s (.sl (.int .i64) row exrow)] = .v (aS tI (ordTot row) false) := rfl
theorem ord1_ok : PureOk Try.prog 22 conOrd1 := by
  refine pureOkD (L := { live := [0, 2] }) pl5_good rfl pl_mixed Try.func22 rfl conOrd1 1 (by decide) (by kernel_rfl) ?_
  intro args hpre hlens
  simp only [conOrd1] at hpre
  split at hpre
  case h_2 => exact hpre.elim
  rename_i row ex
  simp only [allLen, AV.lenOk, SV.lenOk, Ty.lenOk, maxLen, and_true, implies_true, true_and] at hlens
  refine ⟨rfl, ?_⟩
  simp -dsimp -implicitDefEqProofs [Try.f22, conOrd1_val, pl5_td, pl5_y, pl5_Γ, pl5_E, pl5_fz, plT, pl5Γ, pl5E, pl4Γ, pl4E, pl3Γ, pl3E, pl2Γ, pl2E, pl1Γ, pl1E, pl0Γ, pl0E, conPlaced_pre, conPlaced_val, conMapII_pre, conMapII_val, conSorted, conBin_pre, conBin_val, conValues_pre, conValues_val, conColI, conSort, conLess_pre, conLess_val, conNaN_pre, conNaN_val, inI64]
  rw [map_compl, ordRow_compl, List.length_map]
  exact ⟨⟨hpre.1, _, fn_compl.mono hpre.2⟩, hpre.1, rfl⟩
noncomputable def gRR : List (FuncId × Con) := [(22, conOrd1)]
theorem gRR_known : Known Try.prog gRR := .cons (enters_of Try.func22 (by kernel_rfl) rfl) ord1_ok .nil
theorem fn_ord1 : fnTo gRR tRow tRow 22 [] ordTot (fun row => row.length ≤ 1000000 ∧ ∀ n ∈ row, inI64 n) := ⟨conOrd1, rfl, fun _ => rfl, fun _ h => h⟩
theorem map_ord1 (xs : List (List Int)) : mapV gRR tRow tRow 22 [] xs = xs.map ordTot := mapV_eq (by decide) fn_ord1 xs

/-- The error of a table. -/
noncomputable def conLong : Con := ⟨fun args => (match args with
  | [.s (.sl (.int .i64) row _)] => True
  | _ => False), fun args => match args with
  | [.s (.sl (.int .i64) row _)] => .v (aB (decide (4096 < row.length)))
  | _ => .v (.s .any)⟩
theorem conLong_pre (row : List (Ty.T (.int .i64))) (exrow : Bool) : conLong.pre [.s (.sl (.int .i64) row exrow)] = (True) := rfl
theorem conLong_val (row : List (Ty.T (.int .i64))) (exrow : Bool) : conLong.val [.s (.sl (.int .i64) row exrow)] = .v (aB (decide (4096 < row.length))) := rfl
theorem long_ok : PureOk Try.prog 38 conLong := by
  refine pureOkD (L := { live := [0, 2] }) pl0_good rfl pl_mixed Try.func38 rfl conLong 1 (by decide) (by kernel_rfl) ?_
  intro args hpre hlens
  simp only [conLong] at hpre
  split at hpre
  case h_2 => exact hpre.elim
  rename_i row ex
  simp only [allLen, AV.lenOk, SV.lenOk, Ty.lenOk, maxLen, and_true, implies_true, true_and] at hlens
  refine ⟨rfl, ?_⟩
  simp -dsimp -implicitDefEqProofs [Try.f38, conLong_val, pl0_td, pl0_y, pl0_Γ, pl0_E, pl0_fz, plT, pl0Γ, pl0E, inI64]
  omega
noncomputable def conOdd : Con := ⟨fun args => (match args with
  | [.s (.sl (.int .i64) row _), .s (.eptr (.slice (.slice (.int .i64))) l)] => 0 < l.length
  | _ => False), fun args => match args with
  | [.s (.sl (.int .i64) row _), .s (.eptr (.slice (.slice (.int .i64))) l)] => .v (aB (decide (row.length ≠ (l[0]?.getD []).length)))
  | _ => .v (.s .any)⟩
theorem conOdd_pre (row : List (Ty.T (.int .i64))) (exrow : Bool) (l : Ty.T (.slice (.slice (.int .i64)))) : conOdd.pre [.s (.sl (.int .i64) row exrow), .s (.eptr (.slice (.slice (.int .i64))) l)] = (0 < l.length) := rfl
theorem conOdd_val (row : List (Ty.T (.int .i64))) (exrow : Bool) (l : Ty.T (.slice (.slice (.int .i64)))) : conOdd.val [.s (.sl (.int .i64) row exrow), .s (.eptr (.slice (.slice (.int .i64))) l)] = .v (aB (decide (row.length ≠ (l[0]?.getD []).length))) := rfl
theorem odd_ok : PureOk Try.prog 40 conOdd := by
  refine pureOkD (L := { live := [0, 1, 3] }) pl0_good rfl pl_mixed Try.func40 rfl conOdd 2 (by decide) (by kernel_rfl) ?_
  intro args hpre hlens
  simp only [conOdd] at hpre
  split at hpre
  case h_2 => exact hpre.elim
  rename_i row ex l
  simp only [allLen, AV.lenOk, SV.lenOk, Ty.lenOk, maxLen, and_true, implies_true, true_and] at hlens
  refine ⟨rfl, ?_⟩
  simp -dsimp -implicitDefEqProofs [Try.f40, conOdd_val, pl0_td, pl0_y, pl0_Γ, pl0_E, pl0_fz, plT, pl0Γ, pl0E, inI64]
  refine ⟨hpre, ?_⟩
  rw [Bool.eq_iff_iff]
  simp
  omega
noncomputable def gC1 : List (FuncId × Con) := [(38, conLong), (40, conOdd)]
theorem gC1_known : Known Try.prog gC1 := .cons (enters_of Try.func38 (by kernel_rfl) rfl) long_ok (.cons (enters_of Try.func40 (by kernel_rfl) rfl) odd_ok .nil)
theorem fn_long : fnTo gC1 tRow .bool 38 [] (fun row : List Int => decide (4096 < row.length)) (fun _ => True) := ⟨conLong, rfl, fun _ => rfl, fun _ h => h⟩
theorem fn_odd (l : List (List Int)) : fnTo gC1 tRow .bool 40 [⟨.slice tRow, l⟩] (fun row : List Int => decide (row.length ≠ (l[0]?.getD []).length)) (fun _ => 0 < l.length) := ⟨conOdd, rfl, fun _ => rfl, fun _ h => h⟩
theorem ap_long : apB gC1 tRow 38 [] = fun row : List Int => decide (4096 < row.length) := funext (apB_eq fn_long)
theorem ap_odd (l : List (List Int)) : apB gC1 tRow 40 [⟨.slice tRow, l⟩] = fun row : List Int => decide (row.length ≠ (l[0]?.getD []).length) := funext (apB_eq (fn_odd l))
noncomputable def pl6Γ : List (FuncId × Con) := (39, (conCont gC1)) :: pl5Γ
theorem pl6Γ_ok : ∀ p ∈ pl6Γ, (∀ (args : Array Value) (w : World), (callFunc p.1 args).run Try.prog w = .ok (.enter p.1 args) w) ∧ PureOk Try.prog p.1 p.2 := by
  simp only [pl6Γ, List.forall_mem_cons]
  exact ⟨⟨enters_of Try.func39 (by kernel_rfl) rfl, (conCont_known gC1 gC1_known)⟩, pl5Γ_ok⟩
noncomputable def pl6E : List (FuncId × ECon) := pl5E
theorem pl6E_ok : ∀ p ∈ pl6E, (∀ (args : Array Value) (w : World), (callFunc p.1 args).run Try.prog w = .ok (.enter p.1 args) w) ∧ EffOk Try.prog p.1 p.2 := by
  simp only [pl6E]
  exact pl5E_ok
noncomputable def pl6 : G := { τ := plT, Γ := pl6Γ, E := pl6E }
theorem pl6_good : pl6.good Try.prog := good_of_all (plT_ok _ rfl) pl6Γ_ok pl6E_ok
theorem pl6_td (t : TypeId) : pl6.td t = (look plT t).getD .other := rfl
theorem pl6_y : pl6.y = false := rfl
theorem pl6_Γ : pl6.Γ = pl6Γ := rfl
theorem pl6_E : pl6.E = pl6E := rfl
theorem pl6_fz : pl6.fz = [] := rfl
noncomputable def pl6y : G := { τ := plT, Γ := pl6Γ, E := pl6E, y := true }
theorem pl6y_good : pl6y.good Try.prog := good_of_all (plT_ok _ rfl) pl6Γ_ok pl6E_ok
theorem pl6y_td (t : TypeId) : pl6y.td t = (look plT t).getD .other := rfl
theorem pl6y_y : pl6y.y = true := rfl
theorem pl6y_Γ : pl6y.Γ = pl6Γ := rfl
theorem pl6y_E : pl6y.E = pl6E := rfl
theorem pl6y_fz : pl6y.fz = [] := rfl
def tableErr (l : List (List Int)) : Int := if 256 < l.length ∨ ∃ row ∈ l, 4096 < row.length then 2 else if ∃ row ∈ l, ¬ row.length = (l[0]?.getD []).length then 220 else 0
theorem tableErr_2 {l : List (List Int)} (h : 256 < l.length ∨ ∃ row ∈ l, 4096 < row.length) : tableErr l = 2 := if_pos h
theorem tableErr_220 {l : List (List Int)} (h : ¬ (256 < l.length ∨ ∃ row ∈ l, 4096 < row.length)) (h' : ∃ row ∈ l, ¬ row.length = (l[0]?.getD []).length) : tableErr l = 220 := by rw [tableErr, if_neg h, if_pos h']
theorem tableErr_0 {l : List (List Int)} (h : ¬ (256 < l.length ∨ ∃ row ∈ l, 4096 < row.length)) (h' : ¬ ∃ row ∈ l, ¬ row.length = (l[0]?.getD []).length) : tableErr l = 0 := by rw [tableErr, if_neg h, if_neg h']
theorem tableErr_ok {l : List (List Int)} (h : tableErr l = 0) : l.length ≤ 256 ∧ (∀ row ∈ l, row.length ≤ 4096) ∧ ∀ row ∈ l, row.length = (l[0]?.getD []).length := by
  unfold tableErr at h
  split at h
  · cases h
  · rename_i h1
    split at h
    · cases h
    · rename_i h2
      refine ⟨by omega, fun row hr => ?_, fun row hr => ?_⟩
      · exact Nat.not_lt.1 fun hl => h1 (.inr ⟨row, hr, hl⟩)
      · exact Classical.byContradiction fun hne => h2 ⟨row, hr, hne⟩
noncomputable def conTable : Con := ⟨fun args => (match args with
  | [.s (.sl (.slice (.int .i64)) l _)] => True
  | _ => False), fun args => match args with
  | [.s (.sl (.slice (.int .i64)) l _)] => .v (aI (tableErr l))
  | _ => .v (.s .any)⟩
theorem conTable_pre (l : List (Ty.T (.slice (.int .i64)))) (exl : Bool) : conTable.pre [.s (.sl (.slice (.int .i64)) l exl)] = (True) := rfl
theorem conTable_val (l : List (Ty.T (.slice (.int .i64)))) (exl : Bool) : conTable.val [.s (.sl (.slice (.int .i64)) l exl)] = .v (aI (tableErr l)) := rfl
theorem table_ok : PureOk Try.prog 20 conTable := by
  refine pureOkD (L := { live := [0, 1, 2, 3, 11, 14], eps := [(4, [1])] }) pl6_good rfl pl_mixed Try.func20 rfl conTable 1 (by decide) (by kernel_rfl) ?_
  intro args hpre hlens
  simp only [conTable] at hpre
  split at hpre
  case h_2 => exact hpre.elim
  rename_i l ex
  simp only [allLen, AV.lenOk, SV.lenOk, Ty.lenOk, maxLen, and_true, implies_true, true_and] at hlens
  refine ⟨rfl, ?_⟩
  simp -dsimp -implicitDefEqProofs [Try.f20, conTable_val, ap_long, ap_odd, pl6_td, pl6_y, pl6_Γ, pl6_E, pl6_fz, plT, pl6Γ, pl6E, pl5Γ, pl5E, pl4Γ, pl4E, pl3Γ, pl3E, pl2Γ, pl2E, pl1Γ, pl1E, pl0Γ, pl0E, conCont_pre, conCont_val, conPlaced_pre, conPlaced_val, conMapII_pre, conMapII_val, conSorted, conBin_pre, conBin_val, conValues_pre, conValues_val, conColI, conSort, conLess_pre, conLess_val, conNaN_pre, conNaN_val, inI64]
  refine ⟨fun h => ⟨h, _, fn_long.mono fun _ _ => trivial⟩, fun h => (tableErr_2 (h.imp (fun q => by omega) id)).symm, fun h1 h2 => ?_⟩
  have hn : ¬ (256 < l.length ∨ ∃ row ∈ l, 4096 < List.length row) := by
    rintro (h | ⟨row, hr, hl⟩)
    · omega
    · have := h2 row hr; omega
  exact ⟨⟨_, (fn_odd l).mono fun x hx => List.length_pos_of_mem hx⟩, fun x hx hne => (tableErr_220 hn ⟨x, hx, hne⟩).symm, fun h => (tableErr_0 hn (fun ⟨x, hx, hne⟩ => hne (h x hx))).symm⟩

/-- slices.Equal. -/
noncomputable def conEqual : Con := ⟨fun args => (match args with
  | [.s (.sl (.int .i64) xs _), .s (.sl (.int .i64) ys _)] => True
  | _ => False), fun args => match args with
  | [.s (.sl (.int .i64) xs _), .s (.sl (.int .i64) ys _)] => .v (aB (decide (xs = ys)))
  | _ => .v (.s .any)⟩
theorem conEqual_pre (xs : List (Ty.T (.int .i64))) (exxs : Bool) (ys : List (Ty.T (.int .i64))) (exys : Bool) : conEqual.pre [.s (.sl (.int .i64) xs exxs), .s (.sl (.int .i64) ys exys)] = (True) := rfl
theorem conEqual_val (xs : List (Ty.T (.int .i64))) (exxs : Bool) (ys : List (Ty.T (.int .i64))) (exys : Bool) : conEqual.val [.s (.sl (.int .i64) xs exxs), .s (.sl (.int .i64) ys exys)] = .v (aB (decide (xs = ys))) := rfl
theorem take_eq_all {xs ys : List Int} (hl : xs.length = ys.length) {i : Nat} (hi : xs.length ≤ i) (he : xs.take i = ys.take i) : xs = ys := by
  rwa [List.take_of_length_le hi, List.take_of_length_le (by omega)] at he
theorem equal_ok : PureOk Try.prog 46 conEqual := by
  refine pureOkD (L := { live := [0, 1, 4, 5, 10, 12, 13, 14, 24] }) pl0_good rfl pl_mixed Try.func46 rfl conEqual 2 (by decide) (by kernel_rfl) ?_
  intro args hpre hlens
  simp only [conEqual] at hpre
  split at hpre
  case h_2 => exact hpre.elim
  rename_i xs ex ys ex'
  simp only [allLen, AV.lenOk, SV.lenOk, Ty.lenOk, maxLen, and_true, implies_true, true_and] at hlens
  refine ⟨rfl, ?_⟩
  simp -dsimp -implicitDefEqProofs [Try.f46, conEqual_val, pl0_td, pl0_y, pl0_Γ, pl0_E, pl0_fz, plT, pl0Γ, pl0E, inI64]
  refine ⟨fun h e => h (by rw [e]), fun h => ?_⟩
  refine WpD.loop (L := { live := [0, 1, 4, 5, 10, 12, 13, 14, 24] }) pl0_good X0_ok pl_mixed (by kernel_rfl)
    (fun i : Nat => ⟨[(0, vS tI xs ex), (1, vS tI ys ex'), (12, vI xs.length), (13, vI i)], []⟩)
    (fun i => i ≤ xs.length ∧ xs.take i = ys.take i) (fun i => xs.length - i) 0 (by simp) (Turn.le (by simp -dsimp -implicitDefEqProofs)) ?_
  rintro i ⟨hi, he⟩
  simp -dsimp -implicitDefEqProofs [conEqual_val, pl0_td, pl0_y, pl0_Γ, pl0_E, pl0_fz, plT, pl0Γ, pl0E, inI64]
  refine ⟨fun hlt => ⟨hlt, by omega, fun hne e => hne (by rw [e]), fun hq => ⟨⟨by omega, by omega⟩, i + 1, ⟨by omega, ?_⟩, by omega, TurnT.le (by simp -dsimp -implicitDefEqProofs)⟩⟩, fun hge => take_eq_all (by omega) hge he⟩
  have h1 := take_succ_get xs hlt 0
  have h2 := take_succ_get ys (show i < ys.length by omega) 0
  rw [h1, h2, he, hq]

/-- The error of a table that should consist of ordinals. -/
noncomputable def pl7Γ : List (FuncId × Con) := (20, conTable) :: (46, conEqual) :: pl6Γ
theorem pl7Γ_ok : ∀ p ∈ pl7Γ, (∀ (args : Array Value) (w : World), (callFunc p.1 args).run Try.prog w = .ok (.enter p.1 args) w) ∧ PureOk Try.prog p.1 p.2 := by
  simp only [pl7Γ, List.forall_mem_cons]
  exact ⟨⟨enters_of Try.func20 (by kernel_rfl) rfl, table_ok⟩, ⟨enters_of Try.func46 (by kernel_rfl) rfl, equal_ok⟩, pl6Γ_ok⟩
noncomputable def pl7E : List (FuncId × ECon) := pl6E
theorem pl7E_ok : ∀ p ∈ pl7E, (∀ (args : Array Value) (w : World), (callFunc p.1 args).run Try.prog w = .ok (.enter p.1 args) w) ∧ EffOk Try.prog p.1 p.2 := by
  simp only [pl7E]
  exact pl6E_ok
noncomputable def pl7 : G := { τ := plT, Γ := pl7Γ, E := pl7E }
theorem pl7_good : pl7.good Try.prog := good_of_all (plT_ok _ rfl) pl7Γ_ok pl7E_ok
theorem pl7_td (t : TypeId) : pl7.td t = (look plT t).getD .other := rfl
theorem pl7_y : pl7.y = false := rfl
theorem pl7_Γ : pl7.Γ = pl7Γ := rfl
theorem pl7_E : pl7.E = pl7E := rfl
theorem pl7_fz : pl7.fz = [] := rfl
noncomputable def pl7y : G := { τ := plT, Γ := pl7Γ, E := pl7E, y := true }
theorem pl7y_good : pl7y.good Try.prog := good_of_all (plT_ok _ rfl) pl7Γ_ok pl7E_ok
theorem pl7y_td (t : TypeId) : pl7y.td t = (look plT t).getD .other := rfl
theorem pl7y_y : pl7y.y = true := rfl
theorem pl7y_Γ : pl7y.Γ = pl7Γ := rfl
theorem pl7y_E : pl7y.E = pl7E := rfl
theorem pl7y_fz : pl7y.fz = [] := rfl
noncomputable def conChk1 : Con := ⟨fun args => (match args with
  | [.s (.sl (.int .i64) row _)] => row.length ≤ 1000000
  | _ => False), fun args => match args with
  | [.s (.sl (.int .i64) row _)] => .v (aB (decide (¬ row = ordRow row)))
  | _ => .v (.s .any)⟩
theorem conChk1_pre (row : List (Ty.T (.int .i64))) (exrow : Bool) : conChk1.pre [.s (.sl (.int .i64) row exrow)] = (row.length ≤ 1000000) := rfl
theorem conChk1_val (row : List (Ty.T (.int .i64))) (exrow : Bool) : conChk1.val [.s (.sl (.int .i64) row exrow)] = .v (aB (decide (¬ row = ordRow row))) := rfl
theorem chk1_ok : PureOk Try.prog 45 conChk1 := by
  refine pureOkD (L := { live := [0, 2] }) pl7_good rfl pl_mixed Try.func45 rfl conChk1 1 (by decide) (by kernel_rfl) ?_
  intro args hpre hlens
  simp only [conChk1] at hpre
  split at hpre
  case h_2 => exact hpre.elim
  rename_i row ex
  simp only [allLen, AV.lenOk, SV.lenOk, Ty.lenOk, maxLen, and_true, implies_true, true_and] at hlens
  refine ⟨rfl, ?_⟩
  simp -dsimp -implicitDefEqProofs [Try.f45, conChk1_val, pl7_td, pl7_y, pl7_Γ, pl7_E, pl7_fz, plT, pl7Γ, pl7E, pl6Γ, pl6E, pl5Γ, pl5E, pl4Γ, pl4E, pl3Γ, pl3E, pl2Γ, pl2E, pl1Γ, pl1E, pl0Γ, pl0E, conTable_pre, conTable_val, conEqual_pre, conEqual_val, conCont_pre, conCont_val, conPlaced_pre, conPlaced_val, conMapII_pre, conMapII_val, conSorted, conBin_pre, conBin_val, conValues_pre, conValues_val, conColI, conSort, conLess_pre, conLess_val, conNaN_pre, conNaN_val, inI64]
  exact hpre
noncomputable def gC2 : List (FuncId × Con) := [(45, conChk1)]
theorem gC2_known : Known Try.prog gC2 := .cons (enters_of Try.func45 (by kernel_rfl) rfl) chk1_ok .nil
theorem fn_chk1 : fnTo gC2 tRow .bool 45 [] (fun row : List Int => decide (¬ row = ordRow row)) (fun row => row.length ≤ 1000000) := ⟨conChk1, rfl, fun _ => rfl, fun _ h => h⟩
theorem ap_chk1 : apB gC2 tRow 45 [] = fun row : List Int => decide (¬ row = ordRow row) := funext (apB_eq fn_chk1)
noncomputable def pl8Γ : List (FuncId × Con) := (39, (conCont gC2)) :: pl7Γ
theorem pl8Γ_ok : ∀ p ∈ pl8Γ, (∀ (args : Array Value) (w : World), (callFunc p.1 args).run Try.prog w = .ok (.enter p.1 args) w) ∧ PureOk Try.prog p.1 p.2 := by
  simp only [pl8Γ, List.forall_mem_cons]
  exact ⟨⟨enters_of Try.func39 (by kernel_rfl) rfl, (conCont_known gC2 gC2_known)⟩, pl7Γ_ok⟩
noncomputable def pl8E : List (FuncId × ECon) := pl7E
theorem pl8E_ok : ∀ p ∈ pl8E, (∀ (args : Array Value) (w : World), (callFunc p.1 args).run Try.prog w = .ok (.enter p.1 args) w) ∧ EffOk Try.prog p.1 p.2 := by
  simp only [pl8E]
  exact pl7E_ok
noncomputable def pl8 : G := { τ := plT, Γ := pl8Γ, E := pl8E }
theorem pl8_good : pl8.good Try.prog := good_of_all (plT_ok _ rfl) pl8Γ_ok pl8E_ok
theorem pl8_td (t : TypeId) : pl8.td t = (look plT t).getD .other := rfl
theorem pl8_y : pl8.y = false := rfl
theorem pl8_Γ : pl8.Γ = pl8Γ := rfl
theorem pl8_E : pl8.E = pl8E := rfl
theorem pl8_fz : pl8.fz = [] := rfl
noncomputable def pl8y : G := { τ := plT, Γ := pl8Γ, E := pl8E, y := true }
theorem pl8y_good : pl8y.good Try.prog := good_of_all (plT_ok _ rfl) pl8Γ_ok pl8E_ok
theorem pl8y_td (t : TypeId) : pl8y.td t = (look plT t).getD .other := rfl
theorem pl8y_y : pl8y.y = true := rfl
theorem pl8y_Γ : pl8y.Γ = pl8Γ := rfl
theorem pl8y_E : pl8y.E = pl8E := rfl
theorem pl8y_fz : pl8y.fz = [] := rfl
def checkErr (l : List (List Int)) : Int := if tableErr l ≠ 0 then tableErr l else if ∃ row ∈ l, ¬ row = ordRow row then 220 else 0
noncomputable def conCheck : Con := ⟨fun args => (match args with
  | [.s (.sl (.slice (.int .i64)) l _)] => True
  | _ => False), fun args => match args with
  | [.s (.sl (.slice (.int .i64)) l _)] => .v (aI (checkErr l))
  | _ => .v (.s .any)⟩
theorem conCheck_pre (l : List (Ty.T (.slice (.int .i64)))) (exl : Bool) : conCheck.pre [.s (.sl (.slice (.int .i64)) l exl)] = (True) := rfl
theorem conCheck_val (l : List (Ty.T (.slice (.int .i64)))) (exl : Bool) : conCheck.val [.s (.sl (.slice (.int .i64)) l exl)] = .v (aI (checkErr l)) := rfl
theorem check_ok : PureOk Try.prog 27 conCheck := by
  refine pureOkD (L := { live := [0, 2, 3, 7, 10] }) pl8_good rfl pl_mixed Try.func27 rfl conCheck 1 (by decide) (by kernel_rfl) ?_
  intro args hpre hlens
  simp only [conCheck] at hpre
  split at hpre
  case h_2 => exact hpre.elim
  rename_i l ex
  simp only [allLen, AV.lenOk, SV.lenOk, Ty.lenOk, maxLen, and_true, implies_true, true_and] at hlens
  refine ⟨rfl, ?_⟩
  simp -dsimp -implicitDefEqProofs [Try.f27, conCheck_val, ap_chk1, pl8_td, pl8_y, pl8_Γ, pl8_E, pl8_fz, plT, pl8Γ, pl8E, pl7Γ, pl7E, pl6Γ, pl6E, pl5Γ, pl5E, pl4Γ, pl4E, pl3Γ, pl3E, pl2Γ, pl2E, pl1Γ, pl1E, pl0Γ, pl0E, conCont_pre, conCont_val, conTable_pre, conTable_val, conEqual_pre, conEqual_val, conPlaced_pre, conPlaced_val, conMapII_pre, conMapII_val, conSorted, conBin_pre, conBin_val, conValues_pre, conValues_val, conColI, conSort, conLess_pre, conLess_val, conNaN_pre, conNaN_val, inI64]
  refine ⟨fun h => by rw [checkErr, if_pos h], fun h => ⟨⟨_, fn_chk1.mono fun row hr => ?_⟩, fun x hx hne => ?_, fun hall => ?_⟩⟩
  · have := (tableErr_ok h).2.1 row hr; omega
  · rw [checkErr, if_neg (by simp [h]), if_pos ⟨x, hx, hne⟩]
  · rw [checkErr, if_neg (by simp [h]), if_neg (fun ⟨x, hx, hne⟩ => hne (hall x hx))]
theorem checkErr_ok {l : List (List Int)} (h : checkErr l = 0) : tableErr l = 0 ∧ ∀ row ∈ l, row = ordRow row := by
  unfold checkErr at h
  split at h
  · rename_i h1; exact absurd h h1
  · rename_i h1
    split at h
    · cases h
    · rename_i h2
      exact ⟨by simpa using h1, fun row hr => Classical.byContradiction fun hne => h2 ⟨row, hr, hne⟩⟩

/-- Ordinals. -/
noncomputable def pl9Γ : List (FuncId × Con) := (27, conCheck) :: (21, (conMapRR gRR)) :: pl8Γ
theorem pl9Γ_ok : ∀ p ∈ pl9Γ, (∀ (args : Array Value) (w : World), (callFunc p.1 args).run Try.prog w = .ok (.enter p.1 args) w) ∧ PureOk Try.prog p.1 p.2 := by
  simp only [pl9Γ, List.forall_mem_cons]
  exact ⟨⟨enters_of Try.func27 (by kernel_rfl) rfl, check_ok⟩, ⟨enters_of Try.func21 (by kernel_rfl) rfl, (conMapRR_known gRR gRR_known)⟩, pl8Γ_ok⟩
noncomputable def pl9E : List (FuncId × ECon) := pl8E
theorem pl9E_ok : ∀ p ∈ pl9E, (∀ (args : Array Value) (w : World), (callFunc p.1 args).run Try.prog w = .ok (.enter p.1 args) w) ∧ EffOk Try.prog p.1 p.2 := by
  simp only [pl9E]
  exact pl8E_ok
noncomputable def pl9 : G := { τ := plT, Γ := pl9Γ, E := pl9E }
theorem pl9_good : pl9.good Try.prog := good_of_all (plT_ok _ rfl) pl9Γ_ok pl9E_ok
theorem pl9_td (t : TypeId) : pl9.td t = (look plT t).getD .other := rfl
theorem pl9_y : pl9.y = false := rfl
theorem pl9_Γ : pl9.Γ = pl9Γ := rfl
theorem pl9_E : pl9.E = pl9E := rfl
theorem pl9_fz : pl9.fz = [] := rfl
noncomputable def pl9y : G := { τ := plT, Γ := pl9Γ, E := pl9E, y := true }
theorem pl9y_good : pl9y.good Try.prog := good_of_all (plT_ok _ rfl) pl9Γ_ok pl9E_ok
theorem pl9y_td (t : TypeId) : pl9y.td t = (look plT t).getD .other := rfl
theorem pl9y_y : pl9y.y = true := rfl
theorem pl9y_Γ : pl9y.Γ = pl9Γ := rfl
theorem pl9y_E : pl9y.E = pl9E := rfl
theorem pl9y_fz : pl9y.fz = [] := rfl
def ordL (t : List (List Int)) : List (List Int) := if tableErr t = 0 then t.map ordTot else []
noncomputable def conOrdinals : Con := ⟨fun args => (match args with
  | [.s (.sl (.slice (.int .i64)) t _)] => ∀ row ∈ t, ∀ n ∈ row, inI64 n
  | _ => False), fun args => match args with
  | [.s (.sl (.slice (.int .i64)) t _)] => .tup [aS tRow (ordL t) false, aI (tableErr t)]
  | _ => .v (.s .any)⟩
theorem conOrdinals_pre (t : List (Ty.T (.slice (.int .i64)))) (ext : Bool) : conOrdinals.pre [.s (.sl (.slice (.int .i64)) t ext)] = (∀ row ∈ t, ∀ n ∈ row, inI64 n) := rfl
theorem conOrdinals_val (t : List (Ty.T (.slice (.int .i64)))) (ext : Bool) : conOrdinals.val [.s (.sl (.slice (.int .i64)) t ext)] = .tup [aS tRow (ordL t) false, aI (tableErr t)] := rfl
theorem ordinals_ok : PureOk Try.prog 11 conOrdinals := by
  refine pureOkD (L := { live := [0, 2, 3, 4, 8] }) pl9_good rfl pl_mixed Try.func11 rfl conOrdinals 1 (by decide) (by kernel_rfl) ?_
  intro args hpre hlens
  simp only [conOrdinals] at hpre
  split at hpre
  case h_2 => exact hpre.elim
  rename_i t ex
  simp only [allLen, AV.lenOk, SV.lenOk, Ty.lenOk, maxLen, and_true, implies_true, true_and] at hlens
  refine ⟨rfl, ?_⟩
  simp -dsimp -implicitDefEqProofs [Try.f11, conOrdinals_val, map_ord1, pl9_td, pl9_y, pl9_Γ, pl9_E, pl9_fz, plT, pl9Γ, pl9E, pl8Γ, pl8E, pl7Γ, pl7E, pl6Γ, pl6E, pl5Γ, pl5E, pl4Γ, pl4E, pl3Γ, pl3E, pl2Γ, pl2E, pl1Γ, pl1E, pl0Γ, pl0E, conCheck_pre, conCheck_val, conMapRR_pre, conMapRR_val, conCont_pre, conCont_val, conTable_pre, conTable_val, conEqual_pre, conEqual_val, conPlaced_pre, conPlaced_val, conMapII_pre, conMapII_val, conSorted, conBin_pre, conBin_val, conValues_pre, conValues_val, conColI, conSort, conLess_pre, conLess_val, conNaN_pre, conNaN_val, inI64]
  refine ⟨fun h => if_neg h, fun h => ⟨⟨?_, _, fn_ord1.mono fun row hr => ⟨?_, hpre row hr⟩⟩, (if_pos h).symm, h.symm⟩⟩
  · have := (tableErr_ok h).1; omega
  · have := (tableErr_ok h).2.1 row hr; omega
end Go.Am
