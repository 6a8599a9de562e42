/- The program of chapter 22: the law on judges and entries in another order. -/
import Derived.Test.YteglanpnmnkkbaaPl18
namespace Go.Am
set_option linter.unusedVariables false
set_option linter.unusedSimpArgs false
set_option maxHeartbeats 4000000
set_option maxRecDepth 20000
open Go.RowKit Go.Proofs
attribute [local simp] thenKD_normal thenKD_exit thenKD_goto thenKD_ret inBlockKD_normal inBlockKD_exit inBlockKD_goto inBlockKD_ret noGotoKD_normal noGotoKD_exit noGotoKD_goto noGotoKD_ret roundKD_normal roundKD_exit roundKD_goto roundKD_ret frzSlotsD_nil frzSlotsD_cons frzSlotD_eq yieldVCD_trace opVCD_eq vcOpsD_nil vcOpsD_cons vcAllD_zero vcAllD_succ allAtD_nil allAtD_cons readyAux edgA vcD_skip vcD_label vcD_exit vcD_goto vcD_ret vcD_region vcD_seq vcD_seqC vcD_cond vcCondD_bool vcD_block vcD_scope vcD_loop vcD_rangeFunc yieldOf isMem isMem0 keepE envLe St.le psE yieldAV round_td round_y round_Γ vI vB vS aI aB aS look getE oper opRV putE allOk okOps Op.operands Call.operands pEv qEv mEv constRV coe RV.av loadEv loadCs takeAt indexAddrEv fieldAddrEv binEv intEv arith unEv gcond pickEv argsEv callVal callEv capAV_mk lenArgs lenEv minEv extractEv convEv funcEv allBox bound sliceEv lookupEv TD.isBool allocEv boxEv storeEv spl plainTD appendEv appendArgs makeMapEv mapUpdateEv buildEv buildSliceEv fillSV zsvOf sizeTD Ty.parses parses_flats' coeA flats_length AV.good AV.cells AV.pure SV.pure av_int av_bool av_str av_slice av_cons av_fld0 av_fld1 av_fld2 av_fld3 av_fld4 Ty.of Ty.dflt Ty.parse Ty.flat Ty.zsv Ty.fld Ty.get Ty.off Ty.nfld Ty.size coeTy junk Blk.look argEnv resEv resOk resVs oneRV retOk frzAs frzAV frzL frzSV boxCaps boxCap SV.sig sigs RV.scalar AV.scalar SV.scalar nope effVCD_eq effOf SV.ids AV.ids dedup SV.ren AV.ren RV.ren idx outId mergeB Blk.pureB flats_pure flat_pure epsSlotsD_nil epsSlotsD_cons epsSlotD_eq allEp D.parts_fnOf fvParts retEff round_E av_fn G.ye isCutD_nil isCutD_cons firstReg_region firstReg_seq firstReg_skip firstReg_ret firstReg_label firstReg_exit firstReg_goto firstReg_cond firstReg_block firstReg_scope firstReg_loop firstReg_rf eptrOf_mk flOfD_nil flOfD_cons vcFlD_cons vcFlD_nil flPairs_nil flPairs_cons vcFrD_nil vcFrD_cons makeSliceEv vcCondD_ib fzEv unfl_flats isFz round_fz
attribute [local simp ←] flats_append
noncomputable def plOΓ : List (FuncId × Con) := pl20Γ
theorem plOΓ_ok : ∀ p ∈ plOΓ, (∀ (args : Array Value) (w : World), (callFunc p.1 args).run Try.prog w = .ok (.enter p.1 args) w) ∧ PureOk Try.prog p.1 p.2 := by
  simp only [plOΓ]
  exact pl20Γ_ok
noncomputable def plOE : List (FuncId × ECon) := pl20E
theorem plOE_ok : ∀ p ∈ plOE, (∀ (args : Array Value) (w : World), (callFunc p.1 args).run Try.prog w = .ok (.enter p.1 args) w) ∧ EffOk Try.prog p.1 p.2 := by
  simp only [plOE]
  exact pl20E_ok
noncomputable def plO : G := { τ := plT, Γ := plOΓ, E := plOE, fz := [68, 115] }
theorem plO_good : plO.good Try.prog := good_of_all (plT_ok _ rfl) plOΓ_ok plOE_ok
theorem plO_td (t : TypeId) : plO.td t = (look plT t).getD .other := rfl
theorem plO_y : plO.y = false := rfl
theorem plO_Γ : plO.Γ = plOΓ := rfl
theorem plO_E : plO.E = plOE := rfl
theorem plO_fz : plO.fz = [68, 115] := rfl
noncomputable def plOy : G := { τ := plT, Γ := plOΓ, E := plOE, y := true, fz := [68, 115] }
theorem plOy_good : plOy.good Try.prog := good_of_all (plT_ok _ rfl) plOΓ_ok plOE_ok
theorem plOy_td (t : TypeId) : plOy.td t = (look plT t).getD .other := rfl
theorem plOy_y : plOy.y = true := rfl
theorem plOy_Γ : plOy.Γ = plOΓ := rfl
theorem plOy_E : plOy.E = plOE := rfl
theorem plOy_fz : plOy.fz = [68, 115] := rfl

def conOrdL : Con := { pre := fun args => ∃ (t : List (List Int)) (ju en : Int), rngT t ∧ (0 ≤ ju ∧ ju ≤ 255) ∧ (0 ≤ en ∧ en ≤ 255) ∧ args = [aS tRow t false, .s (.int .u8 ju), .s (.int .u8 en)], val := fun _ => .v (aB true) }
theorem ordl_ok : PureOk Try.prog 6 conOrdL := by
  refine pureOkD (L := { live := [0, 1, 2, 6, 7, 8, 9, 10, 11, 12, 13, 14, 16, 17, 18, 19, 20, 21, 22, 24, 37, 57, 58, 59, 60, 106], frz := [(15, [13]), (16, [14])], fl := [(7, []), (12, [(10, 10)]), (19, [])] }) plO_good rfl pl_mixed Try.func6 rfl conOrdL 3 (by decide) (by kernel_rfl) ?_
  rintro _ ⟨t, ju, en, hr, hju, hen, rfl⟩ _
  refine ⟨rfl, ?_⟩
  simp -dsimp -implicitDefEqProofs [Try.f6, conOrdL, conSane, plO_td, plO_y, plO_Γ, plO_E, plO_fz, plT, plOΓ, plOE, pl20Γ, pl20E, pl19Γ, pl19E, pl18Γ, pl18E, pl17Γ, pl17E, pl16Γ, pl16E, pl15Γ, pl15E, pl14Γ, pl14E, pl13Γ, pl13E, pl12Γ, pl12E, pl11Γ, pl11E, pl10Γ, pl10E, pl9Γ, pl9E, pl8Γ, pl8E, pl7Γ, pl7E, pl6Γ, pl6E, pl5Γ, pl5E, pl4Γ, pl4E, pl3Γ, pl3E, pl2Γ, pl2E, pl1Γ, pl1E, pl0Γ, pl0E, conOrds_pre, conOrds_val, conRCompare_pre, conRCompare_val, conRMaj_pre, conRMaj_val, conRCmp_pre, conRCmp_val, conRCheck_pre, conRCheck_val, conAt_pre, conAt_val, conROrd_pre, conROrd_val, conRTable_pre, conRTable_val, conSameT_pre, conSameT_val, conFew_pre, conFew_val, conSame_pre, conSame_val, conMajority_pre, conMajority_val, conMapSI_pre, conMapSI_val, conSortF, conBinF_pre, conBinF_val, conCompare_pre, conCompare_val, conClone, conDecide_pre, conDecide_val, conStands_pre, conStands_val, conColS, conOrdinals_pre, conOrdinals_val, conMapRI, conCheck_pre, conCheck_val, conMapRR_pre, conMapRR_val, conCont_pre, conCont_val, conTable_pre, conTable_val, conEqual_pre, conEqual_val, conPlaced_pre, conPlaced_val, conMapII_pre, conMapII_val, conSorted, conBin_pre, conBin_val, conValues_pre, conValues_val, conColI, conSort, conLess_pre, conLess_val, conNaN_pre, conNaN_val, inI64]
  refine ⟨hr, fun hu => ?_⟩
  obtain ⟨e1, e2, _⟩ := o_yes hu
  have hO : OrdT (oL t) (oN t) := by rw [e1, e2]; exact OrdT.of hu
  have hn0 : 0 < oN t := by rw [e2]; exact List.length_pos_iff.2 hu.2.2.2.1
  have hl9 : (oL t).length ≤ 10 := by rw [e1, List.length_map]; have := hu.2.2.1; omega
  have ho : ∀ row ∈ oL t, row = ordRow row := by
    rw [e1]; intro row hrow
    obtain ⟨r, _, rfl⟩ := List.mem_map.1 hrow
    exact ordRow_ordTot r
  have hrl : ∀ row ∈ oL t, row.length = oN t := by
    rw [e1, e2]; intro row hrow
    obtain ⟨r, hr2, rfl⟩ := List.mem_map.1 hrow
    rw [ordTot_len, hu.2.2.2.2 r hr2]
  have hn10 : oN t ≤ 10 := by
    rw [e2]; exact hu.1.2 _ (get_mem [] (List.length_pos_iff.2 hu.2.1))
  clear e1 e2
  have hl0 := hO.pos
  obtain ⟨hml, hmg⟩ := hO.maj
  have hce := hO.err
  generalize oL t = l at *
  generalize oN t = n at *
  rw [wrap_u8 hju, wrap_u8 hen]
  obtain ⟨i, hi⟩ : ∃ i : Nat, ju.tmod l.length = i := ⟨(ju.tmod l.length).toNat, by have := Int.tmod_nonneg (l.length : Int) hju.1; omega⟩
  have hil : i < l.length := by have := Int.tmod_lt_of_pos ju (show (0 : Int) < l.length by omega); omega
  obtain ⟨k, hk⟩ : ∃ k : Nat, en.tmod n = k := ⟨(en.tmod n).toNat, by have := Int.tmod_nonneg (n : Int) hen.1; omega⟩
  have hkn : k < n := by have := Int.tmod_lt_of_pos en (show (0 : Int) < n by omega); omega
  rw [hi, hk]
  simp only [Int.toNat_natCast]
  have hmx : 100 ≤ maxLen := by simp only [maxLen]; omega
  obtain ⟨c1, c2⟩ := maj_turned (rot_perm i l) (by omega) (by omega) hl0 hrl ho
  obtain ⟨d1, d2⟩ := maj_moved (k := k) (by omega) (by omega) (by omega) hl0 hrl ho
  have hra : rot i l = List.drop i l ++ List.take i l := rfl
  have hrotl := rot_len i l
  refine ⟨List.length_pos_iff.1 hl0, by omega, ⟨by omega, by omega⟩, ⟨by omega, by omega⟩, ⟨by omega, by omega⟩, ⟨by omega, by omega⟩, ?_⟩
  rw [← hra, show l.length - i + min i l.length = l.length by omega]
  refine WpD.turn _ (Turn.virt (k := 14) (t := tRow) (xs := []) (by simp [look])) ?_
  refine WpD.loop (L := { live := [0, 1, 2, 6, 7, 8, 9, 10, 11, 12, 13, 14, 16, 17, 18, 19, 20, 21, 22, 24, 37, 57, 58, 59, 60, 106], frz := [(15, [13]), (16, [14])], fl := [(7, []), (12, [(10, 10)]), (19, [])] }) plO_good X0_ok pl_mixed (by kernel_rfl)
    (fun j : Nat => ⟨[(0, vS tRow t false), (6, vB false), (7, vS tRow l false), (8, vI n), (11, vI i), (12, vI k), (13, ⟨true, .v (.s (.own tRow 0 l.length))⟩), (14, ⟨true, .v (.s (.own tRow 1 j))⟩), (57, vS tRow l false), (58, vI l.length), (59, vI j)], [.arr true (tRow.flats (rot i l)), .arr (decide (0 < j)) (tRow.flats ((l.map (rot k)).take j))]⟩)
    (fun j => j ≤ l.length) (fun j => l.length - j) 0 (by simp) (Turn.le (by simp -dsimp -implicitDefEqProofs; omega)) ?_
  intro j hj
  simp -dsimp -implicitDefEqProofs [conOrdL, plO_td, plO_y, plO_Γ, plO_E, plO_fz, plT, plOΓ, plOE, pl20Γ, pl20E, pl19Γ, pl19E, pl18Γ, pl18E, pl17Γ, pl17E, pl16Γ, pl16E, pl15Γ, pl15E, pl14Γ, pl14E, pl13Γ, pl13E, pl12Γ, pl12E, pl11Γ, pl11E, pl10Γ, pl10E, pl9Γ, pl9E, pl8Γ, pl8E, pl7Γ, pl7E, pl6Γ, pl6E, pl5Γ, pl5E, pl4Γ, pl4E, pl3Γ, pl3E, pl2Γ, pl2E, pl1Γ, pl1E, pl0Γ, pl0E, conOrds_pre, conOrds_val, conRCompare_pre, conRCompare_val, conRMaj_pre, conRMaj_val, conRCmp_pre, conRCmp_val, conRCheck_pre, conRCheck_val, conAt_pre, conAt_val, conROrd_pre, conROrd_val, conRTable_pre, conRTable_val, conSameT_pre, conSameT_val, conFew_pre, conFew_val, conSame_pre, conSame_val, conMajority_pre, conMajority_val, conMapSI_pre, conMapSI_val, conSortF, conBinF_pre, conBinF_val, conCompare_pre, conCompare_val, conClone, conDecide_pre, conDecide_val, conStands_pre, conStands_val, conColS, conOrdinals_pre, conOrdinals_val, conMapRI, conCheck_pre, conCheck_val, conMapRR_pre, conMapRR_val, conCont_pre, conCont_val, conTable_pre, conTable_val, conEqual_pre, conEqual_val, conPlaced_pre, conPlaced_val, conMapII_pre, conMapII_val, conSorted, conBin_pre, conBin_val, conValues_pre, conValues_val, conColI, conSort, conLess_pre, conLess_val, conNaN_pre, conNaN_val, inI64]
  refine ⟨fun hjl => ?_, fun hjg => ?_⟩
  · have hrow := hrl _ (get_mem [] hjl)
    refine ⟨hjl, by omega, ⟨by omega, by omega⟩, by omega, ⟨by omega, by omega⟩, ⟨by omega, by omega, by omega⟩, ⟨by omega, by omega⟩, j + 1, by omega, by omega, ?_⟩
    have hts : (l.map (rot k)).take (j + 1) = (l.map (rot k)).take j ++ [List.drop k (l[j]?.getD []) ++ List.take k (l[j]?.getD [])] := map_take_succ (rot k) l hjl []
    rw [← hts]
    exact TurnT.trunc X0_ok (hp := [_, _]) (junk := [_]) (by simp) (by simp only [List.length_cons, List.length_nil, List.all_cons, List.all_nil, arr_below, Bool.and_true] <;> simp [Blk.below, SV.below]) (by simp -dsimp -implicitDefEqProofs []) (by simp [envBelow, RV.below, AV.below, SV.below])
  · obtain rfl : j = l.length := by omega
    have heq : majL l = majL (rot i l) := c2.symm
    refine ⟨rot i l, rfl, by omega, l.map (rot k), by rw [List.take_of_length_le (by simp)], by simp, ⟨⟨⟨hce, c1⟩, d1⟩, by omega⟩, fun _ _ _ _ => ⟨fun _ => ⟨heq, by omega⟩, fun _ => ⟨heq, ⟨by omega, by omega⟩, fun _ => ⟨heq, by omega⟩, fun _ => ⟨heq, ⟨by omega, by omega⟩, heq, by rw [d2]; rfl⟩, fun h => absurd heq h⟩, fun h => absurd heq h⟩⟩
end Go.Am
