/- The program of chapter 22: the examples; the first law. -/
import Derived.Test.YteglanpnmnkkbaaPl8
namespace Go.Am
set_option linter.unusedVariables false
set_option linter.unusedSimpArgs false
set_option maxHeartbeats 4000000
set_option maxRecDepth 20000
open Go.RowKit Go.Proofs
attribute [local simp] thenKD_normal thenKD_exit thenKD_goto thenKD_ret inBlockKD_normal inBlockKD_exit inBlockKD_goto inBlockKD_ret noGotoKD_normal noGotoKD_exit noGotoKD_goto noGotoKD_ret roundKD_normal roundKD_exit roundKD_goto roundKD_ret frzSlotsD_nil frzSlotsD_cons frzSlotD_eq yieldVCD_trace opVCD_eq vcOpsD_nil vcOpsD_cons vcAllD_zero vcAllD_succ allAtD_nil allAtD_cons readyAux edgA vcD_skip vcD_label vcD_exit vcD_goto vcD_ret vcD_region vcD_seq vcD_seqC vcD_cond vcCondD_bool vcD_block vcD_scope vcD_loop vcD_rangeFunc yieldOf isMem isMem0 keepE envLe St.le psE yieldAV round_td round_y round_Γ vI vB vS aI aB aS look getE oper opRV putE allOk okOps Op.operands Call.operands pEv qEv mEv constRV coe RV.av loadEv loadCs takeAt indexAddrEv fieldAddrEv binEv intEv arith unEv gcond pickEv argsEv callVal callEv capAV_mk lenArgs lenEv minEv extractEv convEv funcEv allBox bound sliceEv lookupEv TD.isBool allocEv boxEv storeEv spl plainTD appendEv appendArgs makeMapEv mapUpdateEv buildEv buildSliceEv fillSV zsvOf sizeTD Ty.parses parses_flats' coeA flats_length AV.good AV.cells AV.pure SV.pure av_int av_bool av_str av_slice av_cons av_fld0 av_fld1 av_fld2 av_fld3 av_fld4 Ty.of Ty.dflt Ty.parse Ty.flat Ty.zsv Ty.fld Ty.get Ty.off Ty.nfld Ty.size coeTy junk Blk.look argEnv resEv resOk resVs oneRV retOk frzAs frzAV frzL frzSV boxCaps boxCap SV.sig sigs RV.scalar AV.scalar SV.scalar nope effVCD_eq effOf SV.ids AV.ids dedup SV.ren AV.ren RV.ren idx outId mergeB Blk.pureB flats_pure flat_pure epsSlotsD_nil epsSlotsD_cons epsSlotD_eq allEp D.parts_fnOf fvParts retEff round_E av_fn G.ye isCutD_nil isCutD_cons firstReg_region firstReg_seq firstReg_skip firstReg_ret firstReg_label firstReg_exit firstReg_goto firstReg_cond firstReg_block firstReg_scope firstReg_loop firstReg_rf eptrOf_mk flOfD_nil flOfD_cons vcFlD_cons vcFlD_nil flPairs_nil flPairs_cons vcFrD_nil vcFrD_cons makeSliceEv vcCondD_ib fzEv unfl_flats isFz round_fz
attribute [local simp ←] flats_append

def conSane : Con := { pre := fun args => args = [], val := fun _ => .v (aB true) }
theorem sane_ok : PureOk Try.prog 9 conSane := by
  refine pureOkD (L := { live := [0, 1, 2, 3, 4, 6, 7, 8, 10, 12, 13, 14, 15, 16, 17, 18, 20, 21], fin := [(10, [(1, [77])])] }) pl19_good rfl pl_mixed Try.func9 rfl conSane 0 (by decide) (by kernel_rfl) ?_
  rintro _ rfl _
  refine ⟨rfl, ?_⟩
  simp -dsimp -implicitDefEqProofs [Try.f9, conSane, pl19_td, pl19_y, pl19_Γ, pl19_E, pl19_fz, plT, pl19Γ, pl19E, pl18Γ, pl18E, pl17Γ, pl17E, pl16Γ, pl16E, pl15Γ, pl15E, pl14Γ, pl14E, pl13Γ, pl13E, pl12Γ, pl12E, pl11Γ, pl11E, pl10Γ, pl10E, pl9Γ, pl9E, pl8Γ, pl8E, pl7Γ, pl7E, pl6Γ, pl6E, pl5Γ, pl5E, pl4Γ, pl4E, pl3Γ, pl3E, pl2Γ, pl2E, pl1Γ, pl1E, pl0Γ, pl0E, conRCompare_pre, conRCompare_val, conRMaj_pre, conRMaj_val, conRCmp_pre, conRCmp_val, conRCheck_pre, conRCheck_val, conAt_pre, conAt_val, conROrd_pre, conROrd_val, conRTable_pre, conRTable_val, conSameT_pre, conSameT_val, conFew_pre, conFew_val, conSame_pre, conSame_val, conMajority_pre, conMajority_val, conMapSI_pre, conMapSI_val, conSortF, conBinF_pre, conBinF_val, conCompare_pre, conCompare_val, conClone, conDecide_pre, conDecide_val, conStands_pre, conStands_val, conColS, conOrdinals_pre, conOrdinals_val, conMapRI, conCheck_pre, conCheck_val, conMapRR_pre, conMapRR_val, conCont_pre, conCont_val, conTable_pre, conTable_val, conEqual_pre, conEqual_val, conPlaced_pre, conPlaced_val, conMapII_pre, conMapII_val, conSorted, conBin_pre, conBin_val, conValues_pre, conValues_val, conColI, conSort, conLess_pre, conLess_val, conNaN_pre, conNaN_val, inI64]
  refine ⟨_, rfl, rfl, ?_⟩
  decide +kernel

/-- Small tables. -/
def useOk (t : List (List Int)) : Prop := few t ∧ t ≠ [] ∧ t.length ≤ 9 ∧ t[0]?.getD [] ≠ [] ∧ ∀ row ∈ t, row.length = (t[0]?.getD []).length
noncomputable instance (t : List (List Int)) : Decidable (useOk t) := Classical.propDecidable _
noncomputable def oL (t : List (List Int)) : List (List Int) := if useOk t then t.map ordTot else []
noncomputable def oN (t : List (List Int)) : Nat := if useOk t then (t[0]?.getD []).length else 0
def rngT (t : List (List Int)) : Prop := ∀ row ∈ t, ∀ n ∈ row, inI64 n
noncomputable def conOrds : Con := ⟨fun args => (match args with
  | [.s (.sl (.slice (.int .i64)) t _)] => rngT t
  | _ => False), fun args => match args with
  | [.s (.sl (.slice (.int .i64)) t _)] => .tup [aS tRow (oL t) false, aI (oN t), aB (decide (useOk t)), aB true]
  | _ => .v (.s .any)⟩
theorem conOrds_pre (t : List (Ty.T (.slice (.int .i64)))) (ext : Bool) : conOrds.pre [.s (.sl (.slice (.int .i64)) t ext)] = (rngT t) := rfl
theorem conOrds_val (t : List (Ty.T (.slice (.int .i64)))) (ext : Bool) : conOrds.val [.s (.sl (.slice (.int .i64)) t ext)] = .tup [aS tRow (oL t) false, aI (oN t), aB (decide (useOk t)), aB true] := rfl
theorem o_no {t : List (List Int)} (h : ¬ useOk t) : oL t = [] ∧ oN t = 0 ∧ decide (useOk t) = false := ⟨if_neg h, if_neg h, decide_eq_false h⟩
theorem o_yes {t : List (List Int)} (h : useOk t) : oL t = t.map ordTot ∧ oN t = (t[0]?.getD []).length ∧ decide (useOk t) = true := ⟨if_pos h, if_pos h, decide_eq_true h⟩
theorem use_table {t : List (List Int)} (h : useOk t) : tableErr t = 0 := by
  obtain ⟨h1, h2, h3, h4, h5⟩ := h
  refine tableErr_0 ?_ ?_
  · rintro (h | ⟨row, hr, hl⟩)
    · omega
    · have := h1.2 row hr; omega
  · rintro ⟨row, hr, hne⟩
    exact hne (h5 row hr)
theorem ords_ok : PureOk Try.prog 19 conOrds := by
  refine pureOkD (L := { live := [0, 2, 3, 4, 5, 7, 8, 10, 30, 35, 36, 37, 38, 44, 59, 60, 61, 62, 63, 69] }) pl19_good rfl pl_mixed Try.func19 rfl conOrds 1 (by decide) (by kernel_rfl) ?_
  intro args hpre hlens
  simp only [conOrds] at hpre
  split at hpre
  case h_2 => exact hpre.elim
  rename_i t ex
  simp only [allLen, AV.lenOk, SV.lenOk, Ty.lenOk, maxLen, and_true, implies_true, true_and] at hlens
  refine ⟨rfl, ?_⟩
  simp -dsimp -implicitDefEqProofs [Try.f19, conOrds_val, pl19_td, pl19_y, pl19_Γ, pl19_E, pl19_fz, plT, pl19Γ, pl19E, pl18Γ, pl18E, pl17Γ, pl17E, pl16Γ, pl16E, pl15Γ, pl15E, pl14Γ, pl14E, pl13Γ, pl13E, pl12Γ, pl12E, pl11Γ, pl11E, pl10Γ, pl10E, pl9Γ, pl9E, pl8Γ, pl8E, pl7Γ, pl7E, pl6Γ, pl6E, pl5Γ, pl5E, pl4Γ, pl4E, pl3Γ, pl3E, pl2Γ, pl2E, pl1Γ, pl1E, pl0Γ, pl0E, conRCompare_pre, conRCompare_val, conRMaj_pre, conRMaj_val, conRCmp_pre, conRCmp_val, conRCheck_pre, conRCheck_val, conAt_pre, conAt_val, conROrd_pre, conROrd_val, conRTable_pre, conRTable_val, conSameT_pre, conSameT_val, conFew_pre, conFew_val, conSame_pre, conSame_val, conMajority_pre, conMajority_val, conMapSI_pre, conMapSI_val, conSortF, conBinF_pre, conBinF_val, conCompare_pre, conCompare_val, conClone, conDecide_pre, conDecide_val, conStands_pre, conStands_val, conColS, conOrdinals_pre, conOrdinals_val, conMapRI, conCheck_pre, conCheck_val, conMapRR_pre, conMapRR_val, conCont_pre, conCont_val, conTable_pre, conTable_val, conEqual_pre, conEqual_val, conPlaced_pre, conPlaced_val, conMapII_pre, conMapII_val, conSorted, conBin_pre, conBin_val, conValues_pre, conValues_val, conColI, conSort, conLess_pre, conLess_val, conNaN_pre, conNaN_val, inI64]
  refine ⟨fun h1 h2 h3 => ⟨⟨⟨h1, h2⟩, h3⟩, List.length_pos_iff.2 h2⟩, fun h => ?_, fun h1 h2 h3 h4 => ⟨List.length_pos_iff.2 h2, ?_⟩⟩
  · have hn : ¬ useOk t := fun q => by
      obtain ⟨q1, q2, q3, q4, _⟩ := q
      rcases h with ((h | h) | h) | h
      · exact h q1
      · exact q2 h
      · omega
      · exact q4 h
    obtain ⟨e1, e2, _⟩ := o_no hn
    exact ⟨e1, by rw [e2]; rfl, hn⟩
  have h0 := List.length_pos_iff.2 h2
  refine WpD.loop (L := { live := [0, 2, 3, 4, 5, 7, 8, 10, 30, 35, 36, 37, 38, 44, 59, 60, 61, 62, 63, 69] }) pl19_good X0_ok pl_mixed (by kernel_rfl)
    (fun i : Nat => ⟨[(0, vS tRow t ex), (3, vI (t[0]?.getD []).length), (35, vS tRow t ex), (36, vI t.length), (37, vI i)], []⟩)
    (fun i => i ≤ t.length ∧ ∀ j, j < i → (t[j]?.getD []).length = (t[0]?.getD []).length) (fun i => t.length - i) 0 (by simp) (Turn.le (by simp -dsimp -implicitDefEqProofs)) ?_
  rintro i ⟨hi, hj⟩
  simp -dsimp -implicitDefEqProofs [conOrds_val, pl19_td, pl19_y, pl19_Γ, pl19_E, pl19_fz, plT, pl19Γ, pl19E, pl18Γ, pl18E, pl17Γ, pl17E, pl16Γ, pl16E, pl15Γ, pl15E, pl14Γ, pl14E, pl13Γ, pl13E, pl12Γ, pl12E, pl11Γ, pl11E, pl10Γ, pl10E, pl9Γ, pl9E, pl8Γ, pl8E, pl7Γ, pl7E, pl6Γ, pl6E, pl5Γ, pl5E, pl4Γ, pl4E, pl3Γ, pl3E, pl2Γ, pl2E, pl1Γ, pl1E, pl0Γ, pl0E, conRCompare_pre, conRCompare_val, conRMaj_pre, conRMaj_val, conRCmp_pre, conRCmp_val, conRCheck_pre, conRCheck_val, conAt_pre, conAt_val, conROrd_pre, conROrd_val, conRTable_pre, conRTable_val, conSameT_pre, conSameT_val, conFew_pre, conFew_val, conSame_pre, conSame_val, conMajority_pre, conMajority_val, conMapSI_pre, conMapSI_val, conSortF, conBinF_pre, conBinF_val, conCompare_pre, conCompare_val, conClone, conDecide_pre, conDecide_val, conStands_pre, conStands_val, conColS, conOrdinals_pre, conOrdinals_val, conMapRI, conCheck_pre, conCheck_val, conMapRR_pre, conMapRR_val, conCont_pre, conCont_val, conTable_pre, conTable_val, conEqual_pre, conEqual_val, conPlaced_pre, conPlaced_val, conMapII_pre, conMapII_val, conSorted, conBin_pre, conBin_val, conValues_pre, conValues_val, conColI, conSort, conLess_pre, conLess_val, conNaN_pre, conNaN_val, inI64]
  refine ⟨fun hlt => ⟨hlt, fun hne => ?_, fun hq => ⟨⟨by omega, by omega⟩, i + 1, ⟨by omega, lt_succ_cases hj (by omega)⟩, by omega, TurnT.le (by simp -dsimp -implicitDefEqProofs)⟩⟩, fun hge => ?_⟩
  · have hn : ¬ useOk t := fun q => by
      have := q.2.2.2.2 _ (get_mem [] hlt)
      omega
    obtain ⟨e1, e2, _⟩ := o_no hn
    exact ⟨e1, by rw [e2]; rfl, hn⟩
  have hu : useOk t := ⟨h1, h2, by omega, h4, all_of_get [] fun j hjl => hj j (by omega)⟩
  have ht := use_table hu
  have hL : ordL t = t.map ordTot := if_pos ht
  obtain ⟨e1, e2, _⟩ := o_yes hu
  have hlen : (ordL t).length = t.length := by rw [hL, List.length_map]
  refine ⟨hpre, ⟨ht, by omega⟩, fun _ _ => ?_⟩
  refine WpD.loop (L := { live := [0, 2, 3, 4, 5, 7, 8, 10, 30, 35, 36, 37, 38, 44, 59, 60, 61, 62, 63, 69] }) pl19_good X0_ok pl_mixed (by kernel_rfl)
    (fun i : Nat => ⟨[(2, vS tRow (ordL t) false), (3, vI (t[0]?.getD []).length), (60, vS tRow (ordL t) false), (61, vI (ordL t).length), (62, vI i)], []⟩)
    (fun i => i ≤ (ordL t).length) (fun i => (ordL t).length - i) 0 (by simp) (Turn.le (by simp -dsimp -implicitDefEqProofs)) ?_
  intro i hi
  simp -dsimp -implicitDefEqProofs [conOrds_val, pl19_td, pl19_y, pl19_Γ, pl19_E, pl19_fz, plT, pl19Γ, pl19E, pl18Γ, pl18E, pl17Γ, pl17E, pl16Γ, pl16E, pl15Γ, pl15E, pl14Γ, pl14E, pl13Γ, pl13E, pl12Γ, pl12E, pl11Γ, pl11E, pl10Γ, pl10E, pl9Γ, pl9E, pl8Γ, pl8E, pl7Γ, pl7E, pl6Γ, pl6E, pl5Γ, pl5E, pl4Γ, pl4E, pl3Γ, pl3E, pl2Γ, pl2E, pl1Γ, pl1E, pl0Γ, pl0E, conRCompare_pre, conRCompare_val, conRMaj_pre, conRMaj_val, conRCmp_pre, conRCmp_val, conRCheck_pre, conRCheck_val, conAt_pre, conAt_val, conROrd_pre, conROrd_val, conRTable_pre, conRTable_val, conSameT_pre, conSameT_val, conFew_pre, conFew_val, conSame_pre, conSame_val, conMajority_pre, conMajority_val, conMapSI_pre, conMapSI_val, conSortF, conBinF_pre, conBinF_val, conCompare_pre, conCompare_val, conClone, conDecide_pre, conDecide_val, conStands_pre, conStands_val, conColS, conOrdinals_pre, conOrdinals_val, conMapRI, conCheck_pre, conCheck_val, conMapRR_pre, conMapRR_val, conCont_pre, conCont_val, conTable_pre, conTable_val, conEqual_pre, conEqual_val, conPlaced_pre, conPlaced_val, conMapII_pre, conMapII_val, conSorted, conBin_pre, conBin_val, conValues_pre, conValues_val, conColI, conSort, conLess_pre, conLess_val, conNaN_pre, conNaN_val, inI64]
  refine ⟨fun hlt => ⟨hlt, ?_, fun hq => ⟨⟨by omega, by omega⟩, i + 1, by omega, by omega, TurnT.le (by simp -dsimp -implicitDefEqProofs)⟩⟩, fun hge => ⟨hL.trans e1.symm, by rw [e2], hu⟩⟩
  have hm := get_mem [] hlt
  rw [hL] at hm ⊢
  obtain ⟨row, hr, he⟩ := List.mem_map.1 hm
  rw [← he, ordTot_len, hu.2.2.2.2 row hr]
noncomputable def pl20Γ : List (FuncId × Con) := (9, conSane) :: (19, conOrds) :: pl19Γ
theorem pl20Γ_ok : ∀ p ∈ pl20Γ, (∀ (args : Array Value) (w : World), (callFunc p.1 args).run Try.prog w = .ok (.enter p.1 args) w) ∧ PureOk Try.prog p.1 p.2 := by
  simp only [pl20Γ, List.forall_mem_cons]
  exact ⟨⟨enters_of Try.func9 (by kernel_rfl) rfl, sane_ok⟩, ⟨enters_of Try.func19 (by kernel_rfl) rfl, ords_ok⟩, pl19Γ_ok⟩
noncomputable def pl20E : List (FuncId × ECon) := pl19E
theorem pl20E_ok : ∀ p ∈ pl20E, (∀ (args : Array Value) (w : World), (callFunc p.1 args).run Try.prog w = .ok (.enter p.1 args) w) ∧ EffOk Try.prog p.1 p.2 := by
  simp only [pl20E]
  exact pl19E_ok
noncomputable def pl20 : G := { τ := plT, Γ := pl20Γ, E := pl20E }
theorem pl20_good : pl20.good Try.prog := good_of_all (plT_ok _ rfl) pl20Γ_ok pl20E_ok
theorem pl20_td (t : TypeId) : pl20.td t = (look plT t).getD .other := rfl
theorem pl20_y : pl20.y = false := rfl
theorem pl20_Γ : pl20.Γ = pl20Γ := rfl
theorem pl20_E : pl20.E = pl20E := rfl
theorem pl20_fz : pl20.fz = [] := rfl
noncomputable def pl20y : G := { τ := plT, Γ := pl20Γ, E := pl20E, y := true }
theorem pl20y_good : pl20y.good Try.prog := good_of_all (plT_ok _ rfl) pl20Γ_ok pl20E_ok
theorem pl20y_td (t : TypeId) : pl20y.td t = (look plT t).getD .other := rfl
theorem pl20y_y : pl20y.y = true := rfl
theorem pl20y_Γ : pl20y.Γ = pl20Γ := rfl
theorem pl20y_E : pl20y.E = pl20E := rfl
theorem pl20y_fz : pl20y.fz = [] := rfl

def conSpec : Con := { pre := fun args => ∃ (t l : List (List Int)) (a b : Int), rngT t ∧ rngT l ∧ args = [aS tRow t false, aS tRow l false, aI a, aI b], val := fun _ => .v (aB true) }
theorem spec_ok : PureOk Try.prog 3 conSpec := by
  refine pureOkD (L := { live := [0, 1, 2, 3, 8, 9, 10, 11, 12, 13, 14, 15, 16, 17, 18, 19, 20, 22, 30] }) pl20_good rfl pl_mixed Try.func3 rfl conSpec 4 (by decide) (by kernel_rfl) ?_
  rintro _ ⟨t, l, a, b, hr, _, rfl⟩ _
  refine ⟨rfl, ?_⟩
  simp -dsimp -implicitDefEqProofs [Try.f3, conSpec, conSane, pl20_td, pl20_y, pl20_Γ, pl20_E, pl20_fz, plT, pl20Γ, pl20E, pl19Γ, pl19E, pl18Γ, pl18E, pl17Γ, pl17E, pl16Γ, pl16E, pl15Γ, pl15E, pl14Γ, pl14E, pl13Γ, pl13E, pl12Γ, pl12E, pl11Γ, pl11E, pl10Γ, pl10E, pl9Γ, pl9E, pl8Γ, pl8E, pl7Γ, pl7E, pl6Γ, pl6E, pl5Γ, pl5E, pl4Γ, pl4E, pl3Γ, pl3E, pl2Γ, pl2E, pl1Γ, pl1E, pl0Γ, pl0E, conOrds_pre, conOrds_val, conRCompare_pre, conRCompare_val, conRMaj_pre, conRMaj_val, conRCmp_pre, conRCmp_val, conRCheck_pre, conRCheck_val, conAt_pre, conAt_val, conROrd_pre, conROrd_val, conRTable_pre, conRTable_val, conSameT_pre, conSameT_val, conFew_pre, conFew_val, conSame_pre, conSame_val, conMajority_pre, conMajority_val, conMapSI_pre, conMapSI_val, conSortF, conBinF_pre, conBinF_val, conCompare_pre, conCompare_val, conClone, conDecide_pre, conDecide_val, conStands_pre, conStands_val, conColS, conOrdinals_pre, conOrdinals_val, conMapRI, conCheck_pre, conCheck_val, conMapRR_pre, conMapRR_val, conCont_pre, conCont_val, conTable_pre, conTable_val, conEqual_pre, conEqual_val, conPlaced_pre, conPlaced_val, conMapII_pre, conMapII_val, conSorted, conBin_pre, conBin_val, conValues_pre, conValues_val, conColI, conSort, conLess_pre, conLess_val, conNaN_pre, conNaN_val, inI64]
  exact fun _ _ => hr
end Go.Am
