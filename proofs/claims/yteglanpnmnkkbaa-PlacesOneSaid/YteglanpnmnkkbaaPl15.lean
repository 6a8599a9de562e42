/- The program of chapter 22: the law on one judge. -/
import Derived.Test.YteglanpnmnkkbaaPl14
namespace Go.Am
set_option linter.unusedVariables false
set_option linter.unusedSimpArgs false
set_option maxHeartbeats 4000000
set_option maxRecDepth 20000
open Go.RowKit Go.Proofs
attribute [local simp] thenKD_normal thenKD_exit thenKD_goto thenKD_ret inBlockKD_normal inBlockKD_exit inBlockKD_goto inBlockKD_ret noGotoKD_normal noGotoKD_exit noGotoKD_goto noGotoKD_ret roundKD_normal roundKD_exit roundKD_goto roundKD_ret frzSlotsD_nil frzSlotsD_cons frzSlotD_eq yieldVCD_trace opVCD_eq vcOpsD_nil vcOpsD_cons vcAllD_zero vcAllD_succ allAtD_nil allAtD_cons readyAux edgA vcD_skip vcD_label vcD_exit vcD_goto vcD_ret vcD_region vcD_seq vcD_seqC vcD_cond vcCondD_bool vcD_block vcD_scope vcD_loop vcD_rangeFunc yieldOf isMem isMem0 keepE envLe St.le psE yieldAV round_td round_y round_Γ vI vB vS aI aB aS look getE oper opRV putE allOk okOps Op.operands Call.operands pEv qEv mEv constRV coe RV.av loadEv loadCs takeAt indexAddrEv fieldAddrEv binEv intEv arith unEv gcond pickEv argsEv callVal callEv capAV_mk lenArgs lenEv minEv extractEv convEv funcEv allBox bound sliceEv lookupEv TD.isBool allocEv boxEv storeEv spl plainTD appendEv appendArgs makeMapEv mapUpdateEv buildEv buildSliceEv fillSV zsvOf sizeTD Ty.parses parses_flats' coeA flats_length AV.good AV.cells AV.pure SV.pure av_int av_bool av_str av_slice av_cons av_fld0 av_fld1 av_fld2 av_fld3 av_fld4 Ty.of Ty.dflt Ty.parse Ty.flat Ty.zsv Ty.fld Ty.get Ty.off Ty.nfld Ty.size coeTy junk Blk.look argEnv resEv resOk resVs oneRV retOk frzAs frzAV frzL frzSV boxCaps boxCap SV.sig sigs RV.scalar AV.scalar SV.scalar nope effVCD_eq effOf SV.ids AV.ids dedup SV.ren AV.ren RV.ren idx outId mergeB Blk.pureB flats_pure flat_pure epsSlotsD_nil epsSlotsD_cons epsSlotD_eq allEp D.parts_fnOf fvParts retEff round_E av_fn G.ye isCutD_nil isCutD_cons firstReg_region firstReg_seq firstReg_skip firstReg_ret firstReg_label firstReg_exit firstReg_goto firstReg_cond firstReg_block firstReg_scope firstReg_loop firstReg_rf eptrOf_mk flOfD_nil flOfD_cons vcFlD_cons vcFlD_nil flPairs_nil flPairs_cons vcFrD_nil vcFrD_cons makeSliceEv vcCondD_ib
attribute [local simp ←] flats_append

def conOneL : Con := { pre := fun args => ∃ (t : List (List Int)) (at_ : Int), rngT t ∧ (0 ≤ at_ ∧ at_ ≤ 255) ∧ args = [aS tRow t false, .s (.int .u8 at_)], val := fun _ => .v (aB true) }
theorem onel_ok : PureOk Try.prog 7 conOneL := by
  refine pureOkD (L := { live := [0, 1, 4, 5, 6, 7, 8, 9, 10, 11, 12, 13, 14, 15, 16, 17, 18, 19, 20, 21, 22, 23, 24, 26, 39, 62, 63, 64, 65, 66, 74, 75, 76, 77, 98], all := [14], fin := [(7, [(2, [51])])], frz := [(24, [16, 17]), (26, [12]), (27, [13])] }) pl20_good rfl pl_mixed Try.func7 rfl conOneL 2 (by decide) (by kernel_rfl) ?_
  rintro _ ⟨t, at_, hr, hat, rfl⟩ _
  refine ⟨rfl, ?_⟩
  simp -dsimp -implicitDefEqProofs [Try.f7, conOneL, conSane, pl20_td, pl20_y, pl20_Γ, pl20_E, plT, pl20Γ, pl20E, pl19Γ, pl19E, pl18Γ, pl18E, pl17Γ, pl17E, pl16Γ, pl16E, pl15Γ, pl15E, pl14Γ, pl14E, pl13Γ, pl13E, pl12Γ, pl12E, pl11Γ, pl11E, pl10Γ, pl10E, pl9Γ, pl9E, pl8Γ, pl8E, pl7Γ, pl7E, pl6Γ, pl6E, pl5Γ, pl5E, pl4Γ, pl4E, pl3Γ, pl3E, pl2Γ, pl2E, pl1Γ, pl1E, pl0Γ, pl0E, conOrds_pre, conOrds_val, conRCompare_pre, conRCompare_val, conRMaj_pre, conRMaj_val, conRCmp_pre, conRCmp_val, conRCheck_pre, conRCheck_val, conAt_pre, conAt_val, conROrd_pre, conROrd_val, conRTable_pre, conRTable_val, conSameT_pre, conSameT_val, conFew_pre, conFew_val, conSame_pre, conSame_val, conMajority_pre, conMajority_val, conMapSI_pre, conMapSI_val, conSortF, conBinF_pre, conBinF_val, conCompare_pre, conCompare_val, conClone, conDecide_pre, conDecide_val, conStands_pre, conStands_val, conColS, conOrdinals_pre, conOrdinals_val, conMapRI, conCheck_pre, conCheck_val, conMapRR_pre, conMapRR_val, conCont_pre, conCont_val, conTable_pre, conTable_val, conEqual_pre, conEqual_val, conPlaced_pre, conPlaced_val, conMapII_pre, conMapII_val, conSorted, conBin_pre, conBin_val, conValues_pre, conValues_val, conColI, conSort, conLess_pre, conLess_val, conNaN_pre, conNaN_val, inI64]
  refine ⟨hr, fun hu => ?_⟩
  obtain ⟨e1, e2, _⟩ := o_yes hu
  have hn0 : 0 < oN t := by rw [e2]; exact List.length_pos_iff.2 hu.2.2.2.1
  have hrl : ∀ row ∈ t, row.length = oN t := by rw [e2]; exact hu.2.2.2.2
  have hn10 : oN t ≤ 10 := by
    rw [e2]; exact hu.1.2 _ (get_mem [] (List.length_pos_iff.2 hu.2.1))
  have hll : (oL t).length = t.length := by rw [e1, List.length_map]
  have ht0 : 0 < t.length := List.length_pos_iff.2 hu.2.1
  have ht9 : t.length ≤ 9 := hu.2.2.1
  have hli : ∀ i, i < t.length → (oL t)[i]?.getD [] = ordTot (t[i]?.getD []) := fun i hi => by
    rw [e1, List.getElem?_map, List.getElem?_eq_getElem hi]; rfl
  have hle : oL t = t.map ordTot := e1
  clear e1 e2
  generalize oL t = l at *
  generalize oN t = n at *
  have hw : IntKind.i64.wrap at_ = at_ := wrap_u8 hat
  rw [hw]
  have hq0 : 0 ≤ at_.tmod l.length := Int.tmod_nonneg _ hat.1
  have hq1 : at_.tmod l.length < l.length := Int.tmod_lt_of_pos _ (by omega)
  have hq2 : (at_.tmod l.length).toNat < t.length := by omega
  have hone := maj_one (r := t[(at_.tmod l.length).toNat]?.getD []) (by rw [hrl _ (get_mem [] hq2)]; exact hn0) (by rw [hrl _ (get_mem [] hq2)]; exact hn10)
  rw [← hli _ hq2] at hone
  refine ⟨fun h => by rw [h] at hll; simp at hll; omega, ⟨hq0, hq1⟩, hone, fun _ _ => ?_⟩
  refine WpD.turn _ (Turn.virt (k := 12) (t := tRow) (xs := []) (by simp [look])) ?_
  refine WpD.turn _ (Turn.virt (k := 13) (t := tRow) (xs := []) (by simp [look])) ?_
  refine WpD.loop (L := { live := [0, 1, 4, 5, 6, 7, 8, 9, 10, 11, 12, 13, 14, 15, 16, 17, 18, 19, 20, 21, 22, 23, 24, 26, 39, 62, 63, 64, 65, 66, 74, 75, 76, 77, 98], all := [14], fin := [(7, [(2, [51])])], frz := [(24, [16, 17]), (26, [12]), (27, [13])] }) pl20_good X0_ok pl_mixed (by kernel_rfl)
    (fun i : Nat => ⟨[(0, vS tRow t false), (5, vS tRow l false), (6, vI n), (12, ⟨true, .v (.s (.own tRow 0 i))⟩), (13, ⟨true, .v (.s (.own tRow 1 i))⟩), (63, vS tRow l false), (64, vI l.length), (65, vI i)], [.arr (decide (0 < i)) (tRow.flats ((l.map fun r => r.map fun x => -x).take i)), .arr (decide (0 < i)) (tRow.flats ((t.map fun r => r.map fun x => 2 * x + 1).take i))]⟩)
    (fun i => i ≤ t.length ∧ ∀ j, j < i → ∀ x ∈ t[j]?.getD [], R61 x) (fun i => t.length - i) 0 (by simp) (Turn.le (by simp -dsimp -implicitDefEqProofs)) ?_
  rintro i ⟨hi, hir⟩
  simp -dsimp -implicitDefEqProofs [conOneL, pl20_td, pl20_y, pl20_Γ, pl20_E, plT, pl20Γ, pl20E, pl19Γ, pl19E, pl18Γ, pl18E, pl17Γ, pl17E, pl16Γ, pl16E, pl15Γ, pl15E, pl14Γ, pl14E, pl13Γ, pl13E, pl12Γ, pl12E, pl11Γ, pl11E, pl10Γ, pl10E, pl9Γ, pl9E, pl8Γ, pl8E, pl7Γ, pl7E, pl6Γ, pl6E, pl5Γ, pl5E, pl4Γ, pl4E, pl3Γ, pl3E, pl2Γ, pl2E, pl1Γ, pl1E, pl0Γ, pl0E, conOrds_pre, conOrds_val, conRCompare_pre, conRCompare_val, conRMaj_pre, conRMaj_val, conRCmp_pre, conRCmp_val, conRCheck_pre, conRCheck_val, conAt_pre, conAt_val, conROrd_pre, conROrd_val, conRTable_pre, conRTable_val, conSameT_pre, conSameT_val, conFew_pre, conFew_val, conSame_pre, conSame_val, conMajority_pre, conMajority_val, conMapSI_pre, conMapSI_val, conSortF, conBinF_pre, conBinF_val, conCompare_pre, conCompare_val, conClone, conDecide_pre, conDecide_val, conStands_pre, conStands_val, conColS, conOrdinals_pre, conOrdinals_val, conMapRI, conCheck_pre, conCheck_val, conMapRR_pre, conMapRR_val, conCont_pre, conCont_val, conTable_pre, conTable_val, conEqual_pre, conEqual_val, conPlaced_pre, conPlaced_val, conMapII_pre, conMapII_val, conSorted, conBin_pre, conBin_val, conValues_pre, conValues_val, conColI, conSort, conLess_pre, conLess_val, conNaN_pre, conNaN_val, inI64]
  refine ⟨fun hil => ?_, fun hge => ?_⟩
  · have hrow := hrl _ (get_mem [] (show i < t.length by omega))
    have hlrow : (l[i]?.getD []).length = n := by rw [hli i (by omega), ordTot_len, hrow]
    refine ⟨by omega, ⟨⟨by omega, by omega⟩, ?_⟩, ⟨⟨by omega, by omega⟩, ?_⟩⟩
    · refine WpD.loop (L := { live := [0, 1, 4, 5, 6, 7, 8, 9, 10, 11, 12, 13, 14, 15, 16, 17, 18, 19, 20, 21, 22, 23, 24, 26, 39, 62, 63, 64, 65, 66, 74, 75, 76, 77, 98], all := [14], fin := [(7, [(2, [51])])], frz := [(24, [16, 17]), (26, [12]), (27, [13])] }) pl20_good X0_ok pl_mixed (by kernel_rfl)
        (fun k : Nat => ⟨[(0, vS tRow t false), (5, vS tRow l false), (6, vI n), (12, ⟨true, .v (.s (.own tRow 0 i))⟩), (13, ⟨true, .v (.s (.own tRow 1 i))⟩), (14, vI i), (15, vS tI (l[i]?.getD []) false), (16, ⟨true, .v (.s (.own tI 2 n))⟩), (17, ⟨true, .v (.s (.own tI 3 n))⟩), (63, vS tRow l false), (64, vI l.length), (65, vI i), (74, vS tI (l[i]?.getD []) false), (75, vI (l[i]?.getD []).length), (76, vI k)], [.arr (decide (0 < i)) (tRow.flats ((l.map fun r => r.map fun x => -x).take i)), .arr (decide (0 < i)) (tRow.flats ((t.map fun r => r.map fun x => 2 * x + 1).take i)), .arr true (tI.flats (fl n k fun j => -((l[i]?.getD [])[j]?.getD 0))), .arr true (tI.flats (fl n k fun j => 2 * ((t[i]?.getD [])[j]?.getD 0) + 1))]⟩)
        (fun k => k ≤ n ∧ ∀ j, j < k → R61 ((t[i]?.getD [])[j]?.getD 0)) (fun k => n - k) 0 (by simp) (Turn.le (by simp -dsimp -implicitDefEqProofs [fl_zero])) ?_
      rintro k ⟨hk, hkr⟩
      simp -dsimp -implicitDefEqProofs [conOneL, fl_len, pl20_td, pl20_y, pl20_Γ, pl20_E, plT, pl20Γ, pl20E, pl19Γ, pl19E, pl18Γ, pl18E, pl17Γ, pl17E, pl16Γ, pl16E, pl15Γ, pl15E, pl14Γ, pl14E, pl13Γ, pl13E, pl12Γ, pl12E, pl11Γ, pl11E, pl10Γ, pl10E, pl9Γ, pl9E, pl8Γ, pl8E, pl7Γ, pl7E, pl6Γ, pl6E, pl5Γ, pl5E, pl4Γ, pl4E, pl3Γ, pl3E, pl2Γ, pl2E, pl1Γ, pl1E, pl0Γ, pl0E, conOrds_pre, conOrds_val, conRCompare_pre, conRCompare_val, conRMaj_pre, conRMaj_val, conRCmp_pre, conRCmp_val, conRCheck_pre, conRCheck_val, conAt_pre, conAt_val, conROrd_pre, conROrd_val, conRTable_pre, conRTable_val, conSameT_pre, conSameT_val, conFew_pre, conFew_val, conSame_pre, conSame_val, conMajority_pre, conMajority_val, conMapSI_pre, conMapSI_val, conSortF, conBinF_pre, conBinF_val, conCompare_pre, conCompare_val, conClone, conDecide_pre, conDecide_val, conStands_pre, conStands_val, conColS, conOrdinals_pre, conOrdinals_val, conMapRI, conCheck_pre, conCheck_val, conMapRR_pre, conMapRR_val, conCont_pre, conCont_val, conTable_pre, conTable_val, conEqual_pre, conEqual_val, conPlaced_pre, conPlaced_val, conMapII_pre, conMapII_val, conSorted, conBin_pre, conBin_val, conValues_pre, conValues_val, conColI, conSort, conLess_pre, conLess_val, conNaN_pre, conNaN_val, inI64]
      refine ⟨fun hkl => ?_, fun hkg => ?_⟩
      · have hlk : 1 ≤ (l[i]?.getD [])[k]?.getD 0 ∧ (l[i]?.getD [])[k]?.getD 0 ≤ 11 := ordTot_rng (r := (t[i]?.getD [])) (by omega) (by rw [← hli i (by omega)]; exact get_mem 0 hkl)
        have s1 := fls_set n k (fun j => -((l[i]?.getD [])[j]?.getD 0)) (by omega) (x := -((l[i]?.getD [])[k]?.getD 0)) rfl
        have s2 := fls_set n k (fun j => 2 * ((t[i]?.getD [])[j]?.getD 0) + 1) (by omega) (x := 2 * ((t[i]?.getD [])[k]?.getD 0) + 1) rfl
        refine ⟨hkl, ⟨by omega, by omega⟩, by omega, by omega, by omega, by omega, fun h1 h2 => ⟨by omega, by omega, ⟨by omega, by omega⟩, ⟨by omega, by omega⟩, by omega, by omega, ⟨by omega, by omega⟩, k + 1, ⟨by omega, lt_succ_cases hkr ⟨h2, h1⟩⟩, by omega, ?_⟩⟩
        rw [s1, s2]
        exact TurnT.le (by simp -dsimp -implicitDefEqProofs)
      · have hkn : k = n := by omega
        have q1 := fl_all' hlrow fun x => -x
        have q2 := fl_all' hrow fun x => 2 * x + 1
        have m1 := map_take_succ (fun r : List Int => r.map fun x => -x) l (show i < l.length by omega) []
        have m2 := map_take_succ (fun r : List Int => r.map fun x => 2 * x + 1) t (show i < t.length by omega) []
        refine ⟨(l[i]?.getD []).map (fun x => -x), by rw [hkn, ← q1], by simp [hlrow], (t[i]?.getD []).map (fun x => 2 * x + 1), by rw [hkn, ← q2], by simp [hrow], ⟨by omega, by omega, by simp only [maxLen]; omega⟩, ⟨by omega, by omega, by simp only [maxLen]; omega⟩, ⟨by omega, by omega⟩, i + 1, ⟨by omega, lt_succ_cases hir (all_of_get 0 fun j hj => hkr j (by omega))⟩, by omega, ?_⟩
        rw [m1, m2, show decide (0 < i + 1) = true by simp]
        exact TurnT.trunc X0_ok (hp := [_, _]) (junk := [_, _]) (by simp) (by simp only [List.length_cons, List.length_nil, List.all_cons, List.all_nil, arr_below, Bool.and_true] <;> simp [Blk.below, SV.below]) (by simp -dsimp -implicitDefEqProofs []) (by simp [envBelow, RV.below, AV.below, SV.below])
    · refine WpD.loop (L := { live := [0, 1, 4, 5, 6, 7, 8, 9, 10, 11, 12, 13, 14, 15, 16, 17, 18, 19, 20, 21, 22, 23, 24, 26, 39, 62, 63, 64, 65, 66, 74, 75, 76, 77, 98], all := [14], fin := [(7, [(2, [51])])], frz := [(24, [16, 17]), (26, [12]), (27, [13])] }) pl20_good X0_ok pl_mixed (by kernel_rfl)
        (fun k : Nat => ⟨[(0, vS tRow t false), (5, vS tRow l false), (6, vI n), (12, ⟨true, .v (.s (.own tRow 0 i))⟩), (13, ⟨true, .v (.s (.own tRow 1 i))⟩), (14, vI i), (15, vS tI (l[i]?.getD []) false), (16, ⟨true, .v (.s (.own tI 3 n))⟩), (17, ⟨true, .v (.s (.own tI 2 n))⟩), (63, vS tRow l false), (64, vI l.length), (65, vI i), (74, vS tI (l[i]?.getD []) false), (75, vI (l[i]?.getD []).length), (76, vI k)], [.arr (decide (0 < i)) (tRow.flats ((l.map fun r => r.map fun x => -x).take i)), .arr (decide (0 < i)) (tRow.flats ((t.map fun r => r.map fun x => 2 * x + 1).take i)), .arr true (tI.flats (fl n k fun j => 2 * ((t[i]?.getD [])[j]?.getD 0) + 1)), .arr true (tI.flats (fl n k fun j => -((l[i]?.getD [])[j]?.getD 0)))]⟩)
        (fun k => k ≤ n ∧ ∀ j, j < k → R61 ((t[i]?.getD [])[j]?.getD 0)) (fun k => n - k) 0 (by simp) (Turn.le (by simp -dsimp -implicitDefEqProofs [fl_zero])) ?_
      rintro k ⟨hk, hkr⟩
      simp -dsimp -implicitDefEqProofs [conOneL, fl_len, pl20_td, pl20_y, pl20_Γ, pl20_E, plT, pl20Γ, pl20E, pl19Γ, pl19E, pl18Γ, pl18E, pl17Γ, pl17E, pl16Γ, pl16E, pl15Γ, pl15E, pl14Γ, pl14E, pl13Γ, pl13E, pl12Γ, pl12E, pl11Γ, pl11E, pl10Γ, pl10E, pl9Γ, pl9E, pl8Γ, pl8E, pl7Γ, pl7E, pl6Γ, pl6E, pl5Γ, pl5E, pl4Γ, pl4E, pl3Γ, pl3E, pl2Γ, pl2E, pl1Γ, pl1E, pl0Γ, pl0E, conOrds_pre, conOrds_val, conRCompare_pre, conRCompare_val, conRMaj_pre, conRMaj_val, conRCmp_pre, conRCmp_val, conRCheck_pre, conRCheck_val, conAt_pre, conAt_val, conROrd_pre, conROrd_val, conRTable_pre, conRTable_val, conSameT_pre, conSameT_val, conFew_pre, conFew_val, conSame_pre, conSame_val, conMajority_pre, conMajority_val, conMapSI_pre, conMapSI_val, conSortF, conBinF_pre, conBinF_val, conCompare_pre, conCompare_val, conClone, conDecide_pre, conDecide_val, conStands_pre, conStands_val, conColS, conOrdinals_pre, conOrdinals_val, conMapRI, conCheck_pre, conCheck_val, conMapRR_pre, conMapRR_val, conCont_pre, conCont_val, conTable_pre, conTable_val, conEqual_pre, conEqual_val, conPlaced_pre, conPlaced_val, conMapII_pre, conMapII_val, conSorted, conBin_pre, conBin_val, conValues_pre, conValues_val, conColI, conSort, conLess_pre, conLess_val, conNaN_pre, conNaN_val, inI64]
      refine ⟨fun hkl => ?_, fun hkg => ?_⟩
      · have hlk : 1 ≤ (l[i]?.getD [])[k]?.getD 0 ∧ (l[i]?.getD [])[k]?.getD 0 ≤ 11 := ordTot_rng (r := (t[i]?.getD [])) (by omega) (by rw [← hli i (by omega)]; exact get_mem 0 hkl)
        have s1 := fls_set n k (fun j => -((l[i]?.getD [])[j]?.getD 0)) (by omega) (x := -((l[i]?.getD [])[k]?.getD 0)) rfl
        have s2 := fls_set n k (fun j => 2 * ((t[i]?.getD [])[j]?.getD 0) + 1) (by omega) (x := 2 * ((t[i]?.getD [])[k]?.getD 0) + 1) rfl
        refine ⟨hkl, ⟨by omega, by omega⟩, by omega, by omega, by omega, by omega, fun h1 h2 => ⟨by omega, by omega, ⟨by omega, by omega⟩, ⟨by omega, by omega⟩, by omega, by omega, ⟨by omega, by omega⟩, k + 1, ⟨by omega, lt_succ_cases hkr ⟨h2, h1⟩⟩, by omega, ?_⟩⟩
        rw [s1, s2]
        exact TurnT.le (by simp -dsimp -implicitDefEqProofs)
      · have hkn : k = n := by omega
        have q1 := fl_all' hlrow fun x => -x
        have q2 := fl_all' hrow fun x => 2 * x + 1
        have m1 := map_take_succ (fun r : List Int => r.map fun x => -x) l (show i < l.length by omega) []
        have m2 := map_take_succ (fun r : List Int => r.map fun x => 2 * x + 1) t (show i < t.length by omega) []
        refine ⟨(l[i]?.getD []).map (fun x => -x), by rw [hkn, ← q1], by simp [hlrow], (t[i]?.getD []).map (fun x => 2 * x + 1), by rw [hkn, ← q2], by simp [hrow], ⟨by omega, by omega, by simp only [maxLen]; omega⟩, ⟨by omega, by omega, by simp only [maxLen]; omega⟩, ⟨by omega, by omega⟩, i + 1, ⟨by omega, lt_succ_cases hir (all_of_get 0 fun j hj => hkr j (by omega))⟩, by omega, ?_⟩
        rw [m1, m2, show decide (0 < i + 1) = true by simp]
        exact TurnT.trunc X0_ok (hp := [_, _]) (junk := [_, _]) (by simp) (by simp only [List.length_cons, List.length_nil, List.all_cons, List.all_nil, arr_below, Bool.and_true] <;> simp [Blk.below, SV.below]) (by simp -dsimp -implicitDefEqProofs []) (by simp [envBelow, RV.below, AV.below, SV.below])
  · obtain rfl : i = t.length := by omega
    have om := one_minus hu
    have ot := one_twice hu
    rw [← hle] at om ot
    have r1 : ∀ row ∈ (l.map fun r : List Int => r.map fun x => -x), ∀ n ∈ row, -9223372036854775808 ≤ n ∧ n ≤ 9223372036854775807 := by
      intro row hm y hy
      obtain ⟨r, hr1, rfl⟩ := List.mem_map.1 hm
      obtain ⟨x, hx, rfl⟩ := List.mem_map.1 hy
      rw [hle] at hr1
      obtain ⟨r0, hr0, rfl⟩ := List.mem_map.1 hr1
      have h1 := hrl r0 hr0
      have := ordTot_rng (r := r0) (by omega) hx
      omega
    have r2 : ∀ row ∈ (t.map fun r : List Int => r.map fun x => 2 * x + 1), ∀ n ∈ row, -9223372036854775808 ≤ n ∧ n ≤ 9223372036854775807 := by
      intro row hm y hy
      obtain ⟨r, hr1, rfl⟩ := List.mem_map.1 hm
      obtain ⟨x, hx, rfl⟩ := List.mem_map.1 hy
      obtain ⟨j, hj, rfl⟩ := List.getElem_of_mem hr1
      have h1 := hir j hj
      rw [getD_lt hj] at h1
      obtain ⟨h2, h3⟩ := h1 x hx
      omega
    rw [List.take_of_length_le (by rw [List.length_map]; exact hge), List.take_of_length_le (by rw [List.length_map]; exact Nat.le_refl _)]
    exact ⟨_, rfl, by rw [List.length_map, hll], r1, _, rfl, by rw [List.length_map], r2, ⟨⟨om.1, ot.1⟩, om.2⟩, ot.2⟩
end Go.Am
