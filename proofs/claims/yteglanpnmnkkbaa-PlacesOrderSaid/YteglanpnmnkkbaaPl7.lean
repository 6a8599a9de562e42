/- The program of chapter 22: the reference, first part. -/
import Derived.Test.YteglanpnmnkkbaaPl6
namespace Go.Am
set_option linter.unusedVariables false
set_option linter.unusedSimpArgs false
set_option maxHeartbeats 4000000
set_option maxRecDepth 20000
open Go.RowKit Go.Proofs
attribute [local simp] thenKD_normal thenKD_exit thenKD_goto thenKD_ret inBlockKD_normal inBlockKD_exit inBlockKD_goto inBlockKD_ret noGotoKD_normal noGotoKD_exit noGotoKD_goto noGotoKD_ret roundKD_normal roundKD_exit roundKD_goto roundKD_ret frzSlotsD_nil frzSlotsD_cons frzSlotD_eq yieldVCD_trace opVCD_eq vcOpsD_nil vcOpsD_cons vcAllD_zero vcAllD_succ allAtD_nil allAtD_cons readyAux edgA vcD_skip vcD_label vcD_exit vcD_goto vcD_ret vcD_region vcD_seq vcD_seqC vcD_cond vcCondD_bool vcD_block vcD_scope vcD_loop vcD_rangeFunc yieldOf isMem isMem0 keepE envLe St.le psE yieldAV round_td round_y round_Γ vI vB vS aI aB aS look getE oper opRV putE allOk okOps Op.operands Call.operands pEv qEv mEv constRV coe RV.av loadEv loadCs takeAt indexAddrEv fieldAddrEv binEv intEv arith unEv gcond pickEv argsEv callVal callEv capAV_mk lenArgs lenEv minEv extractEv convEv funcEv allBox bound sliceEv lookupEv TD.isBool allocEv boxEv storeEv spl plainTD appendEv appendArgs makeMapEv mapUpdateEv buildEv buildSliceEv fillSV zsvOf sizeTD Ty.parses parses_flats' coeA flats_length AV.good AV.cells AV.pure SV.pure av_int av_bool av_str av_slice av_cons av_fld0 av_fld1 av_fld2 av_fld3 av_fld4 Ty.of Ty.dflt Ty.parse Ty.flat Ty.zsv Ty.fld Ty.get Ty.off Ty.nfld Ty.size coeTy junk Blk.look argEnv resEv resOk resVs oneRV retOk frzAs frzAV frzL frzSV boxCaps boxCap SV.sig sigs RV.scalar AV.scalar SV.scalar nope effVCD_eq effOf SV.ids AV.ids dedup SV.ren AV.ren RV.ren idx outId mergeB Blk.pureB flats_pure flat_pure epsSlotsD_nil epsSlotsD_cons epsSlotD_eq allEp D.parts_fnOf fvParts retEff round_E av_fn G.ye isCutD_nil isCutD_cons firstReg_region firstReg_seq firstReg_skip firstReg_ret firstReg_label firstReg_exit firstReg_goto firstReg_cond firstReg_block firstReg_scope firstReg_loop firstReg_rf eptrOf_mk flOfD_nil flOfD_cons vcFlD_cons vcFlD_nil flPairs_nil flPairs_cons vcFrD_nil vcFrD_cons makeSliceEv vcCondD_ib fzEv unfl_flats isFz round_fz
attribute [local simp ←] flats_append

theorem lt_succ_cases {p : Nat → Prop} {i : Nat} (h : ∀ j, j < i → p j) (hi : p i) : ∀ j, j < i + 1 → p j := fun j hj => by
  rcases Nat.lt_succ_iff_lt_or_eq.1 hj with h' | rfl
  · exact h j h'
  · exact hi
theorem all_of_get {α : Type} {xs : List α} (d : α) {p : α → Prop} (h : ∀ j, j < xs.length → p (xs[j]?.getD d)) : ∀ x ∈ xs, p x := fun x hx => by
  obtain ⟨j, hj, rfl⟩ := List.mem_iff_getElem.1 hx
  have := h j hj
  rwa [getD_lt hj] at this
theorem get_mem {α : Type} {xs : List α} (d : α) {j : Nat} (h : j < xs.length) : xs[j]?.getD d ∈ xs := by rw [getD_lt h]; exact List.getElem_mem h

def few (l : List (List Int)) : Prop := (¬ (9 < l.length ∧ l.length ≤ 256) ∧ l.length ≤ 300) ∧ ∀ row ∈ l, row.length ≤ 10
noncomputable instance (l : List (List Int)) : Decidable (few l) := Classical.propDecidable _
noncomputable def conFew : Con := ⟨fun args => (match args with
  | [.s (.sl (.slice (.int .i64)) l _)] => True
  | _ => False), fun args => match args with
  | [.s (.sl (.slice (.int .i64)) l _)] => .v (aB (decide (few l)))
  | _ => .v (.s .any)⟩
theorem conFew_pre (l : List (Ty.T (.slice (.int .i64)))) (exl : Bool) : conFew.pre [.s (.sl (.slice (.int .i64)) l exl)] = (True) := rfl
theorem conFew_val (l : List (Ty.T (.slice (.int .i64)))) (exl : Bool) : conFew.val [.s (.sl (.slice (.int .i64)) l exl)] = .v (aB (decide (few l))) := rfl
theorem few_ok : PureOk Try.prog 10 conFew := by
  refine pureOkD (L := { live := [0, 2, 3, 16, 20, 28] }) pl0_good rfl pl_mixed Try.func10 rfl conFew 1 (by decide) (by kernel_rfl) ?_
  intro args hpre hlens
  simp only [conFew] at hpre
  split at hpre
  case h_2 => exact hpre.elim
  rename_i l ex
  simp only [allLen, AV.lenOk, SV.lenOk, Ty.lenOk, maxLen, and_true, implies_true, true_and] at hlens
  refine ⟨rfl, ?_⟩
  simp -dsimp -implicitDefEqProofs [Try.f10, conFew_val, pl0_td, pl0_y, pl0_Γ, pl0_E, pl0_fz, plT, pl0Γ, pl0E, inI64]
  refine ⟨fun h => by omega, fun h hf => by have := hf.1; omega, fun h1 h2 => ?_⟩
  refine WpD.loop (L := { live := [0, 2, 3, 16, 20, 28] }) pl0_good X0_ok pl_mixed (by kernel_rfl)
    (fun i : Nat => ⟨[(0, vS tRow l ex), (3, vI i)], []⟩)
    (fun i => i ≤ l.length ∧ ∀ j, j < i → (l[j]?.getD []).length ≤ 10) (fun i => l.length - i) 0 (by simp) (Turn.le (by simp -dsimp -implicitDefEqProofs)) ?_
  rintro i ⟨hi, hj⟩
  simp -dsimp -implicitDefEqProofs [conFew_val, pl0_td, pl0_y, pl0_Γ, pl0_E, pl0_fz, plT, pl0Γ, pl0E, inI64]
  refine ⟨fun hlt => ⟨hlt, fun hb hf => ?_, fun hs => ⟨⟨by omega, by omega⟩, i + 1, ⟨by omega, lt_succ_cases hj (by omega)⟩, by omega, TurnT.le (by simp -dsimp -implicitDefEqProofs)⟩⟩, fun hge => ⟨⟨by omega, by omega⟩, all_of_get [] fun j hjl => hj j (by omega)⟩⟩
  have := hf.2 _ (get_mem [] hlt)
  omega

noncomputable def conSame : Con := ⟨fun args => (match args with
  | [.s (.sl (.int .i64) xs _), .s (.sl (.int .i64) ys _)] => True
  | _ => False), fun args => match args with
  | [.s (.sl (.int .i64) xs _), .s (.sl (.int .i64) ys _)] => .v (aB (decide (xs = ys)))
  | _ => .v (.s .any)⟩
theorem conSame_pre (xs : List (Ty.T (.int .i64))) (exxs : Bool) (ys : List (Ty.T (.int .i64))) (exys : Bool) : conSame.pre [.s (.sl (.int .i64) xs exxs), .s (.sl (.int .i64) ys exys)] = (True) := rfl
theorem conSame_val (xs : List (Ty.T (.int .i64))) (exxs : Bool) (ys : List (Ty.T (.int .i64))) (exys : Bool) : conSame.val [.s (.sl (.int .i64) xs exxs), .s (.sl (.int .i64) ys exys)] = .v (aB (decide (xs = ys))) := rfl
theorem same_ok : PureOk Try.prog 18 conSame := by
  refine pureOkD (L := { live := [0, 1, 4, 5, 10, 14, 25] }) pl0_good rfl pl_mixed Try.func18 rfl conSame 2 (by decide) (by kernel_rfl) ?_
  intro args hpre hlens
  simp only [conSame] at hpre
  split at hpre
  case h_2 => exact hpre.elim
  rename_i xs ex ys ex'
  simp only [allLen, AV.lenOk, SV.lenOk, Ty.lenOk, maxLen, and_true, implies_true, true_and] at hlens
  refine ⟨rfl, ?_⟩
  simp -dsimp -implicitDefEqProofs [Try.f18, conSame_val, pl0_td, pl0_y, pl0_Γ, pl0_E, pl0_fz, plT, pl0Γ, pl0E, inI64]
  refine ⟨fun h e => h (by rw [e]), fun h => ?_⟩
  refine WpD.loop (L := { live := [0, 1, 4, 5, 10, 14, 25] }) pl0_good X0_ok pl_mixed (by kernel_rfl)
    (fun i : Nat => ⟨[(0, vS tI xs ex), (1, vS tI ys ex'), (5, vI i)], []⟩)
    (fun i => i ≤ xs.length ∧ xs.take i = ys.take i) (fun i => xs.length - i) 0 (by simp) (Turn.le (by simp -dsimp -implicitDefEqProofs)) ?_
  rintro i ⟨hi, he⟩
  simp -dsimp -implicitDefEqProofs [conSame_val, pl0_td, pl0_y, pl0_Γ, pl0_E, pl0_fz, plT, pl0Γ, pl0E, inI64]
  refine ⟨fun hlt => ⟨hlt, by omega, fun hne e => hne (by rw [e]), fun hq => ⟨⟨by omega, by omega⟩, i + 1, ⟨by omega, ?_⟩, by omega, TurnT.le (by simp -dsimp -implicitDefEqProofs)⟩⟩, fun hge => take_eq_all (by omega) hge he⟩
  have h1 := take_succ_get xs hlt 0
  have h2 := take_succ_get ys (show i < ys.length by omega) 0
  rw [h1, h2, he, hq]
noncomputable def pl14Γ : List (FuncId × Con) := (18, conSame) :: (15, conMajority) :: pl13Γ
theorem pl14Γ_ok : ∀ p ∈ pl14Γ, (∀ (args : Array Value) (w : World), (callFunc p.1 args).run Try.prog w = .ok (.enter p.1 args) w) ∧ PureOk Try.prog p.1 p.2 := by
  simp only [pl14Γ, List.forall_mem_cons]
  exact ⟨⟨enters_of Try.func18 (by kernel_rfl) rfl, same_ok⟩, ⟨enters_of Try.func15 (by kernel_rfl) rfl, majority_ok⟩, pl13Γ_ok⟩
noncomputable def pl14E : List (FuncId × ECon) := pl13E
theorem pl14E_ok : ∀ p ∈ pl14E, (∀ (args : Array Value) (w : World), (callFunc p.1 args).run Try.prog w = .ok (.enter p.1 args) w) ∧ EffOk Try.prog p.1 p.2 := by
  simp only [pl14E]
  exact pl13E_ok
noncomputable def pl14 : G := { τ := plT, Γ := pl14Γ, E := pl14E }
theorem pl14_good : pl14.good Try.prog := good_of_all (plT_ok _ rfl) pl14Γ_ok pl14E_ok
theorem pl14_td (t : TypeId) : pl14.td t = (look plT t).getD .other := rfl
theorem pl14_y : pl14.y = false := rfl
theorem pl14_Γ : pl14.Γ = pl14Γ := rfl
theorem pl14_E : pl14.E = pl14E := rfl
theorem pl14_fz : pl14.fz = [] := rfl
noncomputable def pl14y : G := { τ := plT, Γ := pl14Γ, E := pl14E, y := true }
theorem pl14y_good : pl14y.good Try.prog := good_of_all (plT_ok _ rfl) pl14Γ_ok pl14E_ok
theorem pl14y_td (t : TypeId) : pl14y.td t = (look plT t).getD .other := rfl
theorem pl14y_y : pl14y.y = true := rfl
theorem pl14y_Γ : pl14y.Γ = pl14Γ := rfl
theorem pl14y_E : pl14y.E = pl14E := rfl
theorem pl14y_fz : pl14y.fz = [] := rfl
noncomputable def conSameT : Con := ⟨fun args => (match args with
  | [.s (.sl (.slice (.int .i64)) xs _), .s (.sl (.slice (.int .i64)) ys _)] => True
  | _ => False), fun args => match args with
  | [.s (.sl (.slice (.int .i64)) xs _), .s (.sl (.slice (.int .i64)) ys _)] => .v (aB (decide (xs = ys)))
  | _ => .v (.s .any)⟩
theorem conSameT_pre (xs : List (Ty.T (.slice (.int .i64)))) (exxs : Bool) (ys : List (Ty.T (.slice (.int .i64)))) (exys : Bool) : conSameT.pre [.s (.sl (.slice (.int .i64)) xs exxs), .s (.sl (.slice (.int .i64)) ys exys)] = (True) := rfl
theorem conSameT_val (xs : List (Ty.T (.slice (.int .i64)))) (exxs : Bool) (ys : List (Ty.T (.slice (.int .i64)))) (exys : Bool) : conSameT.val [.s (.sl (.slice (.int .i64)) xs exxs), .s (.sl (.slice (.int .i64)) ys exys)] = .v (aB (decide (xs = ys))) := rfl
theorem sameT_ok : PureOk Try.prog 17 conSameT := by
  refine pureOkD (L := { live := [0, 1, 4, 5, 10, 14, 26] }) pl14_good rfl pl_mixed Try.func17 rfl conSameT 2 (by decide) (by kernel_rfl) ?_
  intro args hpre hlens
  simp only [conSameT] at hpre
  split at hpre
  case h_2 => exact hpre.elim
  rename_i xs ex ys ex'
  simp only [allLen, AV.lenOk, SV.lenOk, Ty.lenOk, maxLen, and_true, implies_true, true_and] at hlens
  refine ⟨rfl, ?_⟩
  simp -dsimp -implicitDefEqProofs [Try.f17, conSameT_val, pl14_td, pl14_y, pl14_Γ, pl14_E, pl14_fz, plT, pl14Γ, pl14E, pl13Γ, pl13E, pl12Γ, pl12E, pl11Γ, pl11E, pl10Γ, pl10E, pl9Γ, pl9E, pl8Γ, pl8E, pl7Γ, pl7E, pl6Γ, pl6E, pl5Γ, pl5E, pl4Γ, pl4E, pl3Γ, pl3E, pl2Γ, pl2E, pl1Γ, pl1E, pl0Γ, pl0E, conSame_pre, conSame_val, conMajority_pre, conMajority_val, conMapSI_pre, conMapSI_val, conSortF, conBinF_pre, conBinF_val, conCompare_pre, conCompare_val, conClone, conDecide_pre, conDecide_val, conStands_pre, conStands_val, conColS, conOrdinals_pre, conOrdinals_val, conMapRI, conCheck_pre, conCheck_val, conMapRR_pre, conMapRR_val, conCont_pre, conCont_val, conTable_pre, conTable_val, conEqual_pre, conEqual_val, conPlaced_pre, conPlaced_val, conMapII_pre, conMapII_val, conSorted, conBin_pre, conBin_val, conValues_pre, conValues_val, conColI, conSort, conLess_pre, conLess_val, conNaN_pre, conNaN_val, inI64]
  refine ⟨fun h e => h (by rw [e]), fun h => ?_⟩
  refine WpD.loop (L := { live := [0, 1, 4, 5, 10, 14, 26] }) pl14_good X0_ok pl_mixed (by kernel_rfl)
    (fun i : Nat => ⟨[(0, vS tRow xs ex), (1, vS tRow ys ex'), (5, vI i)], []⟩)
    (fun i => i ≤ xs.length ∧ xs.take i = ys.take i) (fun i => xs.length - i) 0 (by simp) (Turn.le (by simp -dsimp -implicitDefEqProofs)) ?_
  rintro i ⟨hi, he⟩
  simp -dsimp -implicitDefEqProofs [conSameT_val, pl14_td, pl14_y, pl14_Γ, pl14_E, pl14_fz, plT, pl14Γ, pl14E, pl13Γ, pl13E, pl12Γ, pl12E, pl11Γ, pl11E, pl10Γ, pl10E, pl9Γ, pl9E, pl8Γ, pl8E, pl7Γ, pl7E, pl6Γ, pl6E, pl5Γ, pl5E, pl4Γ, pl4E, pl3Γ, pl3E, pl2Γ, pl2E, pl1Γ, pl1E, pl0Γ, pl0E, conSame_pre, conSame_val, conMajority_pre, conMajority_val, conMapSI_pre, conMapSI_val, conSortF, conBinF_pre, conBinF_val, conCompare_pre, conCompare_val, conClone, conDecide_pre, conDecide_val, conStands_pre, conStands_val, conColS, conOrdinals_pre, conOrdinals_val, conMapRI, conCheck_pre, conCheck_val, conMapRR_pre, conMapRR_val, conCont_pre, conCont_val, conTable_pre, conTable_val, conEqual_pre, conEqual_val, conPlaced_pre, conPlaced_val, conMapII_pre, conMapII_val, conSorted, conBin_pre, conBin_val, conValues_pre, conValues_val, conColI, conSort, conLess_pre, conLess_val, conNaN_pre, conNaN_val, inI64]
  refine ⟨fun hlt => ⟨hlt, by omega, fun hne e => hne (by rw [e]), fun hq => ⟨⟨by omega, by omega⟩, i + 1, ⟨by omega, ?_⟩, by omega, TurnT.le (by simp -dsimp -implicitDefEqProofs)⟩⟩, fun hge => ?_⟩
  · have h1 := take_succ_get xs hlt []
    have h2 := take_succ_get ys (show i < ys.length by omega) []
    rw [h1, h2, he, hq]
  · rwa [List.take_of_length_le hge, List.take_of_length_le (by omega)] at he

noncomputable def conRTable : Con := ⟨fun args => (match args with
  | [.s (.sl (.slice (.int .i64)) l _)] => True
  | _ => False), fun args => match args with
  | [.s (.sl (.slice (.int .i64)) l _)] => .v (aI (tableErr l))
  | _ => .v (.s .any)⟩
theorem conRTable_pre (l : List (Ty.T (.slice (.int .i64)))) (exl : Bool) : conRTable.pre [.s (.sl (.slice (.int .i64)) l exl)] = (True) := rfl
theorem conRTable_val (l : List (Ty.T (.slice (.int .i64)))) (exl : Bool) : conRTable.val [.s (.sl (.slice (.int .i64)) l exl)] = .v (aI (tableErr l)) := rfl
theorem rtable_ok : PureOk Try.prog 26 conRTable := by
  refine pureOkD (L := { live := [0, 2, 3, 4, 7, 11, 19, 23, 35] }) pl0_good rfl pl_mixed Try.func26 rfl conRTable 1 (by decide) (by kernel_rfl) ?_
  intro args hpre hlens
  simp only [conRTable] at hpre
  split at hpre
  case h_2 => exact hpre.elim
  rename_i l ex
  simp only [allLen, AV.lenOk, SV.lenOk, Ty.lenOk, maxLen, and_true, implies_true, true_and] at hlens
  refine ⟨rfl, ?_⟩
  simp -dsimp -implicitDefEqProofs [Try.f26, conRTable_val, pl0_td, pl0_y, pl0_Γ, pl0_E, pl0_fz, plT, pl0Γ, pl0E, inI64]
  refine ⟨fun h => (tableErr_2 (.inl (by omega))).symm, fun h1 => ?_⟩
  refine WpD.loop (L := { live := [0, 2, 3, 4, 7, 11, 19, 23, 35] }) pl0_good X0_ok pl_mixed (by kernel_rfl)
    (fun i : Nat => ⟨[(0, vS tRow l ex), (3, vI i)], []⟩)
    (fun i => i ≤ l.length ∧ ∀ j, j < i → (l[j]?.getD []).length ≤ 4096) (fun i => l.length - i) 0 (by simp) (Turn.le (by simp -dsimp -implicitDefEqProofs)) ?_
  rintro i ⟨hi, hj⟩
  simp -dsimp -implicitDefEqProofs [conRTable_val, pl0_td, pl0_y, pl0_Γ, pl0_E, pl0_fz, plT, pl0Γ, pl0E, inI64]
  refine ⟨fun hlt => ⟨hlt, fun hb => (tableErr_2 (.inr ⟨_, get_mem [] hlt, by omega⟩)).symm, fun hs => ⟨⟨by omega, by omega⟩, i + 1, ⟨by omega, lt_succ_cases hj (by omega)⟩, by omega, TurnT.le (by simp -dsimp -implicitDefEqProofs)⟩⟩, fun hge => ?_⟩
  have hall : ∀ row ∈ l, List.length row ≤ 4096 := all_of_get [] fun j hjl => hj j (by omega)
  have hn : ¬ (256 < l.length ∨ ∃ row ∈ l, 4096 < List.length row) := by
    rintro (h | ⟨row, hr, hl⟩)
    · omega
    · have := hall row hr; omega
  refine WpD.loop (L := { live := [0, 2, 3, 4, 7, 11, 19, 23, 35] }) pl0_good X0_ok pl_mixed (by kernel_rfl)
    (fun i : Nat => ⟨[(0, vS tRow l ex), (4, vI i)], []⟩)
    (fun i => i ≤ l.length ∧ ∀ j, j < i → (l[j]?.getD []).length = (l[0]?.getD []).length) (fun i => l.length - i) 0 (by simp) (Turn.le (by simp -dsimp -implicitDefEqProofs)) ?_
  rintro i ⟨hi, hj⟩
  simp -dsimp -implicitDefEqProofs [conRTable_val, pl0_td, pl0_y, pl0_Γ, pl0_E, pl0_fz, plT, pl0Γ, pl0E, inI64]
  refine ⟨fun hlt => ⟨hlt, by omega, fun hb => (tableErr_220 hn ⟨_, get_mem [] hlt, by omega⟩).symm, fun hs => ⟨⟨by omega, by omega⟩, i + 1, ⟨by omega, lt_succ_cases hj (by omega)⟩, by omega, TurnT.le (by simp -dsimp -implicitDefEqProofs)⟩⟩, fun hge => (tableErr_0 hn ?_).symm⟩
  rintro ⟨row, hr, hne⟩
  exact hne (all_of_get (p := fun row : List Int => row.length = (l[0]?.getD []).length) [] (fun j hjl => hj j (by omega)) row hr)
noncomputable def pl15Γ : List (FuncId × Con) := (26, conRTable) :: (17, conSameT) :: (10, conFew) :: pl14Γ
theorem pl15Γ_ok : ∀ p ∈ pl15Γ, (∀ (args : Array Value) (w : World), (callFunc p.1 args).run Try.prog w = .ok (.enter p.1 args) w) ∧ PureOk Try.prog p.1 p.2 := by
  simp only [pl15Γ, List.forall_mem_cons]
  exact ⟨⟨enters_of Try.func26 (by kernel_rfl) rfl, rtable_ok⟩, ⟨enters_of Try.func17 (by kernel_rfl) rfl, sameT_ok⟩, ⟨enters_of Try.func10 (by kernel_rfl) rfl, few_ok⟩, pl14Γ_ok⟩
noncomputable def pl15E : List (FuncId × ECon) := pl14E
theorem pl15E_ok : ∀ p ∈ pl15E, (∀ (args : Array Value) (w : World), (callFunc p.1 args).run Try.prog w = .ok (.enter p.1 args) w) ∧ EffOk Try.prog p.1 p.2 := by
  simp only [pl15E]
  exact pl14E_ok
noncomputable def pl15 : G := { τ := plT, Γ := pl15Γ, E := pl15E }
theorem pl15_good : pl15.good Try.prog := good_of_all (plT_ok _ rfl) pl15Γ_ok pl15E_ok
theorem pl15_td (t : TypeId) : pl15.td t = (look plT t).getD .other := rfl
theorem pl15_y : pl15.y = false := rfl
theorem pl15_Γ : pl15.Γ = pl15Γ := rfl
theorem pl15_E : pl15.E = pl15E := rfl
theorem pl15_fz : pl15.fz = [] := rfl
noncomputable def pl15y : G := { τ := plT, Γ := pl15Γ, E := pl15E, y := true }
theorem pl15y_good : pl15y.good Try.prog := good_of_all (plT_ok _ rfl) pl15Γ_ok pl15E_ok
theorem pl15y_td (t : TypeId) : pl15y.td t = (look plT t).getD .other := rfl
theorem pl15y_y : pl15y.y = true := rfl
theorem pl15y_Γ : pl15y.Γ = pl15Γ := rfl
theorem pl15y_E : pl15y.E = pl15E := rfl
theorem pl15y_fz : pl15y.fz = [] := rfl

/-- Ordinals. -/
noncomputable def conROrd : Con := ⟨fun args => (match args with
  | [.s (.sl (.slice (.int .i64)) t _)] => True
  | _ => False), fun args => match args with
  | [.s (.sl (.slice (.int .i64)) t _)] => .tup [aS tRow (ordL t) false, aI (tableErr t)]
  | _ => .v (.s .any)⟩
theorem conROrd_pre (t : List (Ty.T (.slice (.int .i64)))) (ext : Bool) : conROrd.pre [.s (.sl (.slice (.int .i64)) t ext)] = (True) := rfl
theorem conROrd_val (t : List (Ty.T (.slice (.int .i64)))) (ext : Bool) : conROrd.val [.s (.sl (.slice (.int .i64)) t ext)] = .tup [aS tRow (ordL t) false, aI (tableErr t)] := rfl
theorem filt_take {α : Type} (p : α → Bool) (xs : List α) {j : Nat} (hj : j < xs.length) (d : α) : ((xs.take (j + 1)).filter p).length = ((xs.take j).filter p).length + if p (xs[j]?.getD d) = true then 1 else 0 := by
  rw [take_succ_get xs hj d, List.filter_append, List.length_append]
  congr 1
  by_cases h : p (xs[j]?.getD d) = true <;> simp [h]
theorem filt_take_le {α : Type} (p : α → Bool) (xs : List α) (j : Nat) : ((xs.take j).filter p).length ≤ xs.length := by
  have h1 := List.length_filter_le p (xs.take j)
  have h2 := List.length_take_le' j xs
  omega
theorem above_take (n : Int) (row : List Int) {j : Nat} (hj : j < row.length) : above n (row.take (j + 1)) = above n (row.take j) + if n < row[j]?.getD 0 then 1 else 0 := by
  have := filt_take (fun x => decide (n < x)) row hj 0
  simpa [above] using this
theorem above_le (n : Int) (row : List Int) (j : Nat) : above n (row.take j) ≤ row.length := filt_take_le _ row j
theorem ordTot_get (row : List Int) {k : Nat} (hk : k < row.length) : (ordTot row).take (k + 1) = (ordTot row).take k ++ [(above (row[k]?.getD 0) row : Int) + 1] := map_take_succ _ row hk 0
theorem ordTot_len (row : List Int) : (ordTot row).length = row.length := by simp [ordTot]
theorem rord_ok : PureOk Try.prog 12 conROrd := by
  refine pureOkD (L := { live := [0, 2, 3, 4, 5, 6, 7, 8, 9, 10, 14, 20, 30, 39, 56], frz := [(19, [7])] }) pl15_good rfl pl_mixed Try.func12 rfl conROrd 1 (by decide) (by kernel_rfl) ?_
  intro args hpre hlens
  simp only [conROrd] at hpre
  split at hpre
  case h_2 => exact hpre.elim
  rename_i t ex
  simp only [allLen, AV.lenOk, SV.lenOk, Ty.lenOk, maxLen, and_true, implies_true, true_and] at hlens
  refine ⟨rfl, ?_⟩
  simp -dsimp -implicitDefEqProofs [Try.f12, conROrd_val, pl15_td, pl15_y, pl15_Γ, pl15_E, pl15_fz, plT, pl15Γ, pl15E, pl14Γ, pl14E, pl13Γ, pl13E, pl12Γ, pl12E, pl11Γ, pl11E, pl10Γ, pl10E, pl9Γ, pl9E, pl8Γ, pl8E, pl7Γ, pl7E, pl6Γ, pl6E, pl5Γ, pl5E, pl4Γ, pl4E, pl3Γ, pl3E, pl2Γ, pl2E, pl1Γ, pl1E, pl0Γ, pl0E, conRTable_pre, conRTable_val, conSameT_pre, conSameT_val, conFew_pre, conFew_val, conSame_pre, conSame_val, conMajority_pre, conMajority_val, conMapSI_pre, conMapSI_val, conSortF, conBinF_pre, conBinF_val, conCompare_pre, conCompare_val, conClone, conDecide_pre, conDecide_val, conStands_pre, conStands_val, conColS, conOrdinals_pre, conOrdinals_val, conMapRI, conCheck_pre, conCheck_val, conMapRR_pre, conMapRR_val, conCont_pre, conCont_val, conTable_pre, conTable_val, conEqual_pre, conEqual_val, conPlaced_pre, conPlaced_val, conMapII_pre, conMapII_val, conSorted, conBin_pre, conBin_val, conValues_pre, conValues_val, conColI, conSort, conLess_pre, conLess_val, conNaN_pre, conNaN_val, inI64]
  refine ⟨fun h => if_neg h, fun hc => ?_⟩
  obtain ⟨t1, t2, t3⟩ := tableErr_ok hc
  have hL : ordL t = t.map ordTot := if_pos hc
  refine WpD.turn _ (Turn.virt (k := 5) (t := tRow) (xs := []) (by simp [look])) ?_
  refine WpD.loop (L := { live := [0, 2, 3, 4, 5, 6, 7, 8, 9, 10, 14, 20, 30, 39, 56], frz := [(19, [7])] }) pl15_good X0_ok pl_mixed (by kernel_rfl)
    (fun i : Nat => ⟨[(0, vS tRow t ex), (2, vS tRow [] true), (3, vI 0), (5, ⟨true, .v (.s (.own tRow 0 i))⟩), (6, vI i)], [.arr (decide (0 < i)) (tRow.flats ((t.map ordTot).take i))]⟩)
    (fun i => i ≤ t.length) (fun i => t.length - i) 0 (by simp) (Turn.le (by simp -dsimp -implicitDefEqProofs)) ?_
  intro i hi
  have hmin : min i t.length = i := by omega
  simp -dsimp -implicitDefEqProofs [conROrd_val, hmin, pl15_td, pl15_y, pl15_Γ, pl15_E, pl15_fz, plT, pl15Γ, pl15E, pl14Γ, pl14E, pl13Γ, pl13E, pl12Γ, pl12E, pl11Γ, pl11E, pl10Γ, pl10E, pl9Γ, pl9E, pl8Γ, pl8E, pl7Γ, pl7E, pl6Γ, pl6E, pl5Γ, pl5E, pl4Γ, pl4E, pl3Γ, pl3E, pl2Γ, pl2E, pl1Γ, pl1E, pl0Γ, pl0E, conRTable_pre, conRTable_val, conSameT_pre, conSameT_val, conFew_pre, conFew_val, conSame_pre, conSame_val, conMajority_pre, conMajority_val, conMapSI_pre, conMapSI_val, conSortF, conBinF_pre, conBinF_val, conCompare_pre, conCompare_val, conClone, conDecide_pre, conDecide_val, conStands_pre, conStands_val, conColS, conOrdinals_pre, conOrdinals_val, conMapRI, conCheck_pre, conCheck_val, conMapRR_pre, conMapRR_val, conCont_pre, conCont_val, conTable_pre, conTable_val, conEqual_pre, conEqual_val, conPlaced_pre, conPlaced_val, conMapII_pre, conMapII_val, conSorted, conBin_pre, conBin_val, conValues_pre, conValues_val, conColI, conSort, conLess_pre, conLess_val, conNaN_pre, conNaN_val, inI64]
  refine ⟨fun hlt => ?_, fun hge => ?_⟩
  · have hr := t2 _ (get_mem [] hlt)
    refine WpD.turn _ (Turn.virt (k := 7) (t := tI) (xs := []) (by simp [look])) ?_
    generalize hrow : t[i]?.getD [] = row at *
    refine WpD.loop (L := { live := [0, 2, 3, 4, 5, 6, 7, 8, 9, 10, 14, 20, 30, 39, 56], frz := [(19, [7])] }) pl15_good X0_ok pl_mixed (by kernel_rfl)
      (fun k : Nat => ⟨[(0, vS tRow t ex), (2, vS tRow [] true), (3, vI 0), (5, ⟨true, .v (.s (.own tRow 0 i))⟩), (6, vI i), (7, ⟨true, .v (.s (.own tI 1 k))⟩), (8, vI k)], [.arr (decide (0 < i)) (tRow.flats ((t.map ordTot).take i)), .arr (decide (0 < k)) (tI.flats ((ordTot row).take k))]⟩)
      (fun k => k ≤ row.length) (fun k => row.length - k) 0 (by simp) (Turn.le (by simp -dsimp -implicitDefEqProofs)) ?_
    intro k hk
    have hmink : min k row.length = k := by omega
    have hol := ordTot_len row
    simp -dsimp -implicitDefEqProofs [conROrd_val, hmin, hmink, hrow, hol, pl15_td, pl15_y, pl15_Γ, pl15_E, pl15_fz, plT, pl15Γ, pl15E, pl14Γ, pl14E, pl13Γ, pl13E, pl12Γ, pl12E, pl11Γ, pl11E, pl10Γ, pl10E, pl9Γ, pl9E, pl8Γ, pl8E, pl7Γ, pl7E, pl6Γ, pl6E, pl5Γ, pl5E, pl4Γ, pl4E, pl3Γ, pl3E, pl2Γ, pl2E, pl1Γ, pl1E, pl0Γ, pl0E, conRTable_pre, conRTable_val, conSameT_pre, conSameT_val, conFew_pre, conFew_val, conSame_pre, conSame_val, conMajority_pre, conMajority_val, conMapSI_pre, conMapSI_val, conSortF, conBinF_pre, conBinF_val, conCompare_pre, conCompare_val, conClone, conDecide_pre, conDecide_val, conStands_pre, conStands_val, conColS, conOrdinals_pre, conOrdinals_val, conMapRI, conCheck_pre, conCheck_val, conMapRR_pre, conMapRR_val, conCont_pre, conCont_val, conTable_pre, conTable_val, conEqual_pre, conEqual_val, conPlaced_pre, conPlaced_val, conMapII_pre, conMapII_val, conSorted, conBin_pre, conBin_val, conValues_pre, conValues_val, conColI, conSort, conLess_pre, conLess_val, conNaN_pre, conNaN_val, inI64]
    refine ⟨hlt, fun hkl => ?_, fun hkg => ?_⟩
    · refine WpD.loop (L := { live := [0, 2, 3, 4, 5, 6, 7, 8, 9, 10, 14, 20, 30, 39, 56], frz := [(19, [7])] }) pl15_good X0_ok pl_mixed (by kernel_rfl)
        (fun j : Nat => ⟨[(0, vS tRow t ex), (2, vS tRow [] true), (3, vI 0), (5, ⟨true, .v (.s (.own tRow 0 i))⟩), (6, vI i), (7, ⟨true, .v (.s (.own tI 1 k))⟩), (8, vI k), (9, vI (above (row[k]?.getD 0) (row.take j) + 1)), (10, vI j)], [.arr (decide (0 < i)) (tRow.flats ((t.map ordTot).take i)), .arr (decide (0 < k)) (tI.flats ((ordTot row).take k))]⟩)
        (fun j => j ≤ row.length) (fun j => row.length - j) 0 (by simp) (Turn.le (by simp -dsimp -implicitDefEqProofs [above])) ?_
      intro j hj
      have hal := above_le (row[k]?.getD 0) row j
      simp -dsimp -implicitDefEqProofs [conROrd_val, hmin, hmink, hrow, hol, pl15_td, pl15_y, pl15_Γ, pl15_E, pl15_fz, plT, pl15Γ, pl15E, pl14Γ, pl14E, pl13Γ, pl13E, pl12Γ, pl12E, pl11Γ, pl11E, pl10Γ, pl10E, pl9Γ, pl9E, pl8Γ, pl8E, pl7Γ, pl7E, pl6Γ, pl6E, pl5Γ, pl5E, pl4Γ, pl4E, pl3Γ, pl3E, pl2Γ, pl2E, pl1Γ, pl1E, pl0Γ, pl0E, conRTable_pre, conRTable_val, conSameT_pre, conSameT_val, conFew_pre, conFew_val, conSame_pre, conSame_val, conMajority_pre, conMajority_val, conMapSI_pre, conMapSI_val, conSortF, conBinF_pre, conBinF_val, conCompare_pre, conCompare_val, conClone, conDecide_pre, conDecide_val, conStands_pre, conStands_val, conColS, conOrdinals_pre, conOrdinals_val, conMapRI, conCheck_pre, conCheck_val, conMapRR_pre, conMapRR_val, conCont_pre, conCont_val, conTable_pre, conTable_val, conEqual_pre, conEqual_val, conPlaced_pre, conPlaced_val, conMapII_pre, conMapII_val, conSorted, conBin_pre, conBin_val, conValues_pre, conValues_val, conColI, conSort, conLess_pre, conLess_val, conNaN_pre, conNaN_val, inI64]
      refine ⟨hlt, fun hjl => ⟨hlt, hjl, hlt, hkl, fun hb => ⟨⟨by omega, by omega⟩, ⟨by omega, by omega⟩, j + 1, by omega, by omega, TurnT.le ?_⟩, fun hb => ⟨⟨by omega, by omega⟩, j + 1, by omega, by omega, TurnT.le ?_⟩⟩, fun hjg => ⟨⟨by omega, by simp only [maxLen]; omega⟩, ⟨by omega, by omega⟩, k + 1, by omega, by omega, TurnT.le ?_⟩⟩
      · have := above_take (row[k]?.getD 0) row hjl
        simp -dsimp -implicitDefEqProofs [this, hb]
      · have := above_take (row[k]?.getD 0) row hjl
        simp -dsimp -implicitDefEqProofs [this, Int.not_lt.2 hb]
      · have h1 := List.take_of_length_le hjg
        have h2 := ordTot_get row hkl
        simp -dsimp -implicitDefEqProofs [h1, h2]
    · have hke : k = row.length := by omega
      have h1 : (ordTot row).take k = ordTot row := List.take_of_length_le (by omega)
      rw [h1]
      refine ⟨ordTot row, rfl, by omega, ⟨by omega, by simp only [maxLen]; omega⟩, ⟨by omega, by omega⟩, i + 1, by omega, by omega, ?_⟩
      have h2 := map_take_succ ordTot t hlt []
      rw [hrow] at h2
      rw [h2, show decide (0 < i + 1) = true by simp]
      exact TurnT.trunc X0_ok (hp := [_]) (junk := [_]) (by simp) (by simp only [List.length_cons, List.length_nil, List.all_cons, List.all_nil, arr_below, Bool.and_true] <;> simp [Blk.below, SV.below]) (by simp -dsimp -implicitDefEqProofs []) (by simp [envBelow, RV.below, AV.below, SV.below])
  · have := List.take_of_length_le (l := t.map ordTot) (i := i) (by simpa using hge)
    rw [hL, this]
    exact ⟨rfl, hc.symm⟩
noncomputable def pl16Γ : List (FuncId × Con) := (12, conROrd) :: pl15Γ
theorem pl16Γ_ok : ∀ p ∈ pl16Γ, (∀ (args : Array Value) (w : World), (callFunc p.1 args).run Try.prog w = .ok (.enter p.1 args) w) ∧ PureOk Try.prog p.1 p.2 := by
  simp only [pl16Γ, List.forall_mem_cons]
  exact ⟨⟨enters_of Try.func12 (by kernel_rfl) rfl, rord_ok⟩, pl15Γ_ok⟩
noncomputable def pl16E : List (FuncId × ECon) := pl15E
theorem pl16E_ok : ∀ p ∈ pl16E, (∀ (args : Array Value) (w : World), (callFunc p.1 args).run Try.prog w = .ok (.enter p.1 args) w) ∧ EffOk Try.prog p.1 p.2 := by
  simp only [pl16E]
  exact pl15E_ok
noncomputable def pl16 : G := { τ := plT, Γ := pl16Γ, E := pl16E }
theorem pl16_good : pl16.good Try.prog := good_of_all (plT_ok _ rfl) pl16Γ_ok pl16E_ok
theorem pl16_td (t : TypeId) : pl16.td t = (look plT t).getD .other := rfl
theorem pl16_y : pl16.y = false := rfl
theorem pl16_Γ : pl16.Γ = pl16Γ := rfl
theorem pl16_E : pl16.E = pl16E := rfl
theorem pl16_fz : pl16.fz = [] := rfl
noncomputable def pl16y : G := { τ := plT, Γ := pl16Γ, E := pl16E, y := true }
theorem pl16y_good : pl16y.good Try.prog := good_of_all (plT_ok _ rfl) pl16Γ_ok pl16E_ok
theorem pl16y_td (t : TypeId) : pl16y.td t = (look plT t).getD .other := rfl
theorem pl16y_y : pl16y.y = true := rfl
theorem pl16y_Γ : pl16y.Γ = pl16Γ := rfl
theorem pl16y_E : pl16y.E = pl16E := rfl
theorem pl16y_fz : pl16y.fz = [] := rfl

/-- Check. -/
theorem ordRow_iff (row : List Int) : row = ordRow row ↔ ∀ k, k < row.length → row[k]?.getD 0 = (below (row[k]?.getD 0) row : Int) + 1 := by
  constructor
  · intro h k hk
    conv => lhs; rw [h]
    unfold ordRow
    rw [List.getElem?_map, List.getElem?_eq_getElem hk]
    rfl
  · intro h
    apply List.ext_getElem?
    intro k
    unfold ordRow
    rw [List.getElem?_map]
    rcases Nat.lt_or_ge k row.length with hk | hk
    · have := h k hk
      rw [getD_lt hk] at this
      rw [List.getElem?_eq_getElem hk, Option.map_some, ← this]
    · rw [List.getElem?_eq_none hk]; rfl
theorem below_take (n : Int) (row : List Int) {j : Nat} (hj : j < row.length) : below n (row.take (j + 1)) = below n (row.take j) + if row[j]?.getD 0 < n then 1 else 0 := by
  have := filt_take (fun x => decide (x < n)) row hj 0
  simpa [below] using this
theorem below_take_le (n : Int) (row : List Int) (j : Nat) : below n (row.take j) ≤ row.length := filt_take_le _ row j
theorem checkErr_1 {l : List (List Int)} (h : ¬ tableErr l = 0) : checkErr l = tableErr l := if_pos h
theorem checkErr_220 {l : List (List Int)} (h : tableErr l = 0) {row : List Int} (hr : row ∈ l) (hne : ¬ row = ordRow row) : checkErr l = 220 := by
  rw [checkErr, if_neg (by simp [h]), if_pos ⟨row, hr, hne⟩]
theorem checkErr_0 {l : List (List Int)} (h : tableErr l = 0) (h' : ∀ row ∈ l, row = ordRow row) : checkErr l = 0 := by
  rw [checkErr, if_neg (by simp [h]), if_neg (fun ⟨x, hx, hne⟩ => hne (h' x hx))]
noncomputable def conRCheck : Con := ⟨fun args => (match args with
  | [.s (.sl (.slice (.int .i64)) l _)] => True
  | _ => False), fun args => match args with
  | [.s (.sl (.slice (.int .i64)) l _)] => .v (aI (checkErr l))
  | _ => .v (.s .any)⟩
theorem conRCheck_pre (l : List (Ty.T (.slice (.int .i64)))) (exl : Bool) : conRCheck.pre [.s (.sl (.slice (.int .i64)) l exl)] = (True) := rfl
theorem conRCheck_val (l : List (Ty.T (.slice (.int .i64)))) (exl : Bool) : conRCheck.val [.s (.sl (.slice (.int .i64)) l exl)] = .v (aI (checkErr l)) := rfl
theorem rcheck_ok : PureOk Try.prog 31 conRCheck := by
  refine pureOkD (L := { live := [0, 2, 3, 4, 5, 6, 7, 11, 16, 25, 34, 51, 62] }) pl16_good rfl pl_mixed Try.func31 rfl conRCheck 1 (by decide) (by kernel_rfl) ?_
  intro args hpre hlens
  simp only [conRCheck] at hpre
  split at hpre
  case h_2 => exact hpre.elim
  rename_i l ex
  simp only [allLen, AV.lenOk, SV.lenOk, Ty.lenOk, maxLen, and_true, implies_true, true_and] at hlens
  refine ⟨rfl, ?_⟩
  simp -dsimp -implicitDefEqProofs [Try.f31, conRCheck_val, pl16_td, pl16_y, pl16_Γ, pl16_E, pl16_fz, plT, pl16Γ, pl16E, pl15Γ, pl15E, pl14Γ, pl14E, pl13Γ, pl13E, pl12Γ, pl12E, pl11Γ, pl11E, pl10Γ, pl10E, pl9Γ, pl9E, pl8Γ, pl8E, pl7Γ, pl7E, pl6Γ, pl6E, pl5Γ, pl5E, pl4Γ, pl4E, pl3Γ, pl3E, pl2Γ, pl2E, pl1Γ, pl1E, pl0Γ, pl0E, conROrd_pre, conROrd_val, conRTable_pre, conRTable_val, conSameT_pre, conSameT_val, conFew_pre, conFew_val, conSame_pre, conSame_val, conMajority_pre, conMajority_val, conMapSI_pre, conMapSI_val, conSortF, conBinF_pre, conBinF_val, conCompare_pre, conCompare_val, conClone, conDecide_pre, conDecide_val, conStands_pre, conStands_val, conColS, conOrdinals_pre, conOrdinals_val, conMapRI, conCheck_pre, conCheck_val, conMapRR_pre, conMapRR_val, conCont_pre, conCont_val, conTable_pre, conTable_val, conEqual_pre, conEqual_val, conPlaced_pre, conPlaced_val, conMapII_pre, conMapII_val, conSorted, conBin_pre, conBin_val, conValues_pre, conValues_val, conColI, conSort, conLess_pre, conLess_val, conNaN_pre, conNaN_val, inI64]
  refine ⟨fun h => (checkErr_1 h).symm, fun hc => ?_⟩
  obtain ⟨t1, t2, t3⟩ := tableErr_ok hc
  refine WpD.loop (L := { live := [0, 2, 3, 4, 5, 6, 7, 11, 16, 25, 34, 51, 62] }) pl16_good X0_ok pl_mixed (by kernel_rfl)
    (fun i : Nat => ⟨[(0, vS tRow l ex), (4, vI i)], []⟩)
    (fun i => i ≤ l.length ∧ ∀ j, j < i → l[j]?.getD [] = ordRow (l[j]?.getD [])) (fun i => l.length - i) 0 (by simp) (Turn.le (by simp -dsimp -implicitDefEqProofs)) ?_
  rintro i ⟨hi, hio⟩
  simp -dsimp -implicitDefEqProofs [conRCheck_val, pl16_td, pl16_y, pl16_Γ, pl16_E, pl16_fz, plT, pl16Γ, pl16E, pl15Γ, pl15E, pl14Γ, pl14E, pl13Γ, pl13E, pl12Γ, pl12E, pl11Γ, pl11E, pl10Γ, pl10E, pl9Γ, pl9E, pl8Γ, pl8E, pl7Γ, pl7E, pl6Γ, pl6E, pl5Γ, pl5E, pl4Γ, pl4E, pl3Γ, pl3E, pl2Γ, pl2E, pl1Γ, pl1E, pl0Γ, pl0E, conROrd_pre, conROrd_val, conRTable_pre, conRTable_val, conSameT_pre, conSameT_val, conFew_pre, conFew_val, conSame_pre, conSame_val, conMajority_pre, conMajority_val, conMapSI_pre, conMapSI_val, conSortF, conBinF_pre, conBinF_val, conCompare_pre, conCompare_val, conClone, conDecide_pre, conDecide_val, conStands_pre, conStands_val, conColS, conOrdinals_pre, conOrdinals_val, conMapRI, conCheck_pre, conCheck_val, conMapRR_pre, conMapRR_val, conCont_pre, conCont_val, conTable_pre, conTable_val, conEqual_pre, conEqual_val, conPlaced_pre, conPlaced_val, conMapII_pre, conMapII_val, conSorted, conBin_pre, conBin_val, conValues_pre, conValues_val, conColI, conSort, conLess_pre, conLess_val, conNaN_pre, conNaN_val, inI64]
  refine ⟨fun hlt => ?_, fun hge => ?_⟩
  · have hr := t2 _ (get_mem [] hlt)
    have hrm : l[i]?.getD [] ∈ l := get_mem [] hlt
    generalize hrow : l[i]?.getD [] = row at *
    refine WpD.loop (L := { live := [0, 2, 3, 4, 5, 6, 7, 11, 16, 25, 34, 51, 62] }) pl16_good X0_ok pl_mixed (by kernel_rfl)
      (fun k : Nat => ⟨[(0, vS tRow l ex), (4, vI i), (5, vI k)], []⟩)
      (fun k => k ≤ row.length ∧ ∀ j, j < k → row[j]?.getD 0 = (below (row[j]?.getD 0) row : Int) + 1) (fun k => row.length - k) 0 (by simp) (Turn.le (by simp -dsimp -implicitDefEqProofs)) ?_
    rintro k ⟨hk, hko⟩
    simp -dsimp -implicitDefEqProofs [conRCheck_val, hrow, pl16_td, pl16_y, pl16_Γ, pl16_E, pl16_fz, plT, pl16Γ, pl16E, pl15Γ, pl15E, pl14Γ, pl14E, pl13Γ, pl13E, pl12Γ, pl12E, pl11Γ, pl11E, pl10Γ, pl10E, pl9Γ, pl9E, pl8Γ, pl8E, pl7Γ, pl7E, pl6Γ, pl6E, pl5Γ, pl5E, pl4Γ, pl4E, pl3Γ, pl3E, pl2Γ, pl2E, pl1Γ, pl1E, pl0Γ, pl0E, conROrd_pre, conROrd_val, conRTable_pre, conRTable_val, conSameT_pre, conSameT_val, conFew_pre, conFew_val, conSame_pre, conSame_val, conMajority_pre, conMajority_val, conMapSI_pre, conMapSI_val, conSortF, conBinF_pre, conBinF_val, conCompare_pre, conCompare_val, conClone, conDecide_pre, conDecide_val, conStands_pre, conStands_val, conColS, conOrdinals_pre, conOrdinals_val, conMapRI, conCheck_pre, conCheck_val, conMapRR_pre, conMapRR_val, conCont_pre, conCont_val, conTable_pre, conTable_val, conEqual_pre, conEqual_val, conPlaced_pre, conPlaced_val, conMapII_pre, conMapII_val, conSorted, conBin_pre, conBin_val, conValues_pre, conValues_val, conColI, conSort, conLess_pre, conLess_val, conNaN_pre, conNaN_val, inI64]
    refine ⟨hlt, fun hkl => ?_, fun hkg => ?_⟩
    · refine WpD.loop (L := { live := [0, 2, 3, 4, 5, 6, 7, 11, 16, 25, 34, 51, 62] }) pl16_good X0_ok pl_mixed (by kernel_rfl)
        (fun j : Nat => ⟨[(0, vS tRow l ex), (4, vI i), (5, vI k), (6, vI (below (row[k]?.getD 0) (row.take j) + 1)), (7, vI j)], []⟩)
        (fun j => j ≤ row.length) (fun j => row.length - j) 0 (by simp) (Turn.le (by simp -dsimp -implicitDefEqProofs [below])) ?_
      intro j hj
      have hal := below_take_le (row[k]?.getD 0) row j
      simp -dsimp -implicitDefEqProofs [conRCheck_val, hrow, pl16_td, pl16_y, pl16_Γ, pl16_E, pl16_fz, plT, pl16Γ, pl16E, pl15Γ, pl15E, pl14Γ, pl14E, pl13Γ, pl13E, pl12Γ, pl12E, pl11Γ, pl11E, pl10Γ, pl10E, pl9Γ, pl9E, pl8Γ, pl8E, pl7Γ, pl7E, pl6Γ, pl6E, pl5Γ, pl5E, pl4Γ, pl4E, pl3Γ, pl3E, pl2Γ, pl2E, pl1Γ, pl1E, pl0Γ, pl0E, conROrd_pre, conROrd_val, conRTable_pre, conRTable_val, conSameT_pre, conSameT_val, conFew_pre, conFew_val, conSame_pre, conSame_val, conMajority_pre, conMajority_val, conMapSI_pre, conMapSI_val, conSortF, conBinF_pre, conBinF_val, conCompare_pre, conCompare_val, conClone, conDecide_pre, conDecide_val, conStands_pre, conStands_val, conColS, conOrdinals_pre, conOrdinals_val, conMapRI, conCheck_pre, conCheck_val, conMapRR_pre, conMapRR_val, conCont_pre, conCont_val, conTable_pre, conTable_val, conEqual_pre, conEqual_val, conPlaced_pre, conPlaced_val, conMapII_pre, conMapII_val, conSorted, conBin_pre, conBin_val, conValues_pre, conValues_val, conColI, conSort, conLess_pre, conLess_val, conNaN_pre, conNaN_val, inI64]
      refine ⟨hlt, fun hjl => ⟨hlt, hjl, hlt, hkl, fun hb => ⟨⟨by omega, by omega⟩, ⟨by omega, by omega⟩, j + 1, by omega, by omega, TurnT.le ?_⟩, fun hb => ⟨⟨by omega, by omega⟩, j + 1, by omega, by omega, TurnT.le ?_⟩⟩, fun hjg => ?_⟩
      · have := below_take (row[k]?.getD 0) row hjl
        simp -dsimp -implicitDefEqProofs [this, hb]
      · have := below_take (row[k]?.getD 0) row hjl
        simp -dsimp -implicitDefEqProofs [this, Int.not_lt.2 hb]
      · rw [List.take_of_length_le hjg]
        exact ⟨hlt, hkl, fun hne => (checkErr_220 hc hrm fun he => hne ((ordRow_iff row).1 he k hkl)).symm, fun hq => ⟨⟨by omega, by omega⟩, k + 1, ⟨by omega, lt_succ_cases (p := fun j => row[j]?.getD 0 = (below (row[j]?.getD 0) row : Int) + 1) hko hq⟩, by omega, TurnT.le (by simp -dsimp -implicitDefEqProofs)⟩⟩
    · have hq : l[i]?.getD [] = ordRow (l[i]?.getD []) := by rw [hrow]; exact (ordRow_iff row).2 fun j hj => hko j (by omega)
      exact ⟨⟨by omega, by omega⟩, i + 1, ⟨by omega, lt_succ_cases (p := fun j => l[j]?.getD [] = ordRow (l[j]?.getD [])) hio hq⟩, by omega, TurnT.le (by simp -dsimp -implicitDefEqProofs)⟩
  · exact (checkErr_0 hc (all_of_get [] fun j hj => hio j (by omega))).symm
end Go.Am
