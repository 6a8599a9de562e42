/- The program of chapter 22: the law on entries alike. -/
import Derived.Test.YteglanpnmnkkbaaPl16
namespace Go.Am
set_option linter.unusedVariables false
set_option linter.unusedSimpArgs false
set_option maxHeartbeats 4000000
set_option maxRecDepth 20000
open Go.RowKit Go.Proofs
attribute [local simp] thenKD_normal thenKD_exit thenKD_goto thenKD_ret inBlockKD_normal inBlockKD_exit inBlockKD_goto inBlockKD_ret noGotoKD_normal noGotoKD_exit noGotoKD_goto noGotoKD_ret roundKD_normal roundKD_exit roundKD_goto roundKD_ret frzSlotsD_nil frzSlotsD_cons frzSlotD_eq yieldVCD_trace opVCD_eq vcOpsD_nil vcOpsD_cons vcAllD_zero vcAllD_succ allAtD_nil allAtD_cons readyAux edgA vcD_skip vcD_label vcD_exit vcD_goto vcD_ret vcD_region vcD_seq vcD_seqC vcD_cond vcCondD_bool vcD_block vcD_scope vcD_loop vcD_rangeFunc yieldOf isMem isMem0 keepE envLe St.le psE yieldAV round_td round_y round_Γ vI vB vS aI aB aS look getE oper opRV putE allOk okOps Op.operands Call.operands pEv qEv mEv constRV coe RV.av loadEv loadCs takeAt indexAddrEv fieldAddrEv binEv intEv arith unEv gcond pickEv argsEv callVal callEv capAV_mk lenArgs lenEv minEv extractEv convEv funcEv allBox bound sliceEv lookupEv TD.isBool allocEv boxEv storeEv spl plainTD appendEv appendArgs makeMapEv mapUpdateEv buildEv buildSliceEv fillSV zsvOf sizeTD Ty.parses parses_flats' coeA flats_length AV.good AV.cells AV.pure SV.pure av_int av_bool av_str av_slice av_cons av_fld0 av_fld1 av_fld2 av_fld3 av_fld4 Ty.of Ty.dflt Ty.parse Ty.flat Ty.zsv Ty.fld Ty.get Ty.off Ty.nfld Ty.size coeTy junk Blk.look argEnv resEv resOk resVs oneRV retOk frzAs frzAV frzL frzSV boxCaps boxCap SV.sig sigs RV.scalar AV.scalar SV.scalar nope effVCD_eq effOf SV.ids AV.ids dedup SV.ren AV.ren RV.ren idx outId mergeB Blk.pureB flats_pure flat_pure epsSlotsD_nil epsSlotsD_cons epsSlotD_eq allEp D.parts_fnOf fvParts retEff round_E av_fn G.ye isCutD_nil isCutD_cons firstReg_region firstReg_seq firstReg_skip firstReg_ret firstReg_label firstReg_exit firstReg_goto firstReg_cond firstReg_block firstReg_scope firstReg_loop firstReg_rf eptrOf_mk flOfD_nil flOfD_cons vcFlD_cons vcFlD_nil flPairs_nil flPairs_cons vcFrD_nil vcFrD_cons makeSliceEv vcCondD_ib fzEv unfl_flats isFz round_fz
attribute [local simp ←] flats_append
noncomputable def plAΓ : List (FuncId × Con) := pl20Γ
theorem plAΓ_ok : ∀ p ∈ plAΓ, (∀ (args : Array Value) (w : World), (callFunc p.1 args).run Try.prog w = .ok (.enter p.1 args) w) ∧ PureOk Try.prog p.1 p.2 := by
  simp only [plAΓ]
  exact pl20Γ_ok
noncomputable def plAE : List (FuncId × ECon) := pl20E
theorem plAE_ok : ∀ p ∈ plAE, (∀ (args : Array Value) (w : World), (callFunc p.1 args).run Try.prog w = .ok (.enter p.1 args) w) ∧ EffOk Try.prog p.1 p.2 := by
  simp only [plAE]
  exact pl20E_ok
noncomputable def plA : G := { τ := plT, Γ := plAΓ, E := plAE, fz := [53] }
theorem plA_good : plA.good Try.prog := good_of_all (plT_ok _ rfl) plAΓ_ok plAE_ok
theorem plA_td (t : TypeId) : plA.td t = (look plT t).getD .other := rfl
theorem plA_y : plA.y = false := rfl
theorem plA_Γ : plA.Γ = plAΓ := rfl
theorem plA_E : plA.E = plAE := rfl
theorem plA_fz : plA.fz = [53] := rfl
noncomputable def plAy : G := { τ := plT, Γ := plAΓ, E := plAE, y := true, fz := [53] }
theorem plAy_good : plAy.good Try.prog := good_of_all (plT_ok _ rfl) plAΓ_ok plAE_ok
theorem plAy_td (t : TypeId) : plAy.td t = (look plT t).getD .other := rfl
theorem plAy_y : plAy.y = true := rfl
theorem plAy_Γ : plAy.Γ = plAΓ := rfl
theorem plAy_E : plAy.E = plAE := rfl
theorem plAy_fz : plAy.fz = [53] := rfl

def conAlk : Con := { pre := fun args => ∃ (t : List (List Int)) (at_ : Int), rngT t ∧ (0 ≤ at_ ∧ at_ ≤ 255) ∧ args = [aS tRow t false, .s (.int .u8 at_)], val := fun _ => .v (aB true) }
theorem alk_ok : PureOk Try.prog 8 conAlk := by
  refine pureOkD (L := { live := [0, 1, 4, 5, 6, 7, 8, 9, 10, 11, 12, 13, 14, 15, 16, 17, 19, 36, 43, 44, 45], frz := [(13, [10])], fl := [(11, [(1, 0), (4, 0), (5, 0), (9, 0), (9, 7), (10, 0), (10, 7), (12, 0), (12, 7), (13, 0), (13, 7), (14, 0), (14, 7), (16, 16)])] }) plA_good rfl pl_mixed Try.func8 rfl conAlk 2 (by decide) (by kernel_rfl) ?_
  rintro _ ⟨t, at_, hr, hat, rfl⟩ _
  refine ⟨rfl, ?_⟩
  simp -dsimp -implicitDefEqProofs [Try.f8, conAlk, conSane, plA_td, plA_y, plA_Γ, plA_E, plA_fz, plT, plAΓ, plAE, pl20Γ, pl20E, pl19Γ, pl19E, pl18Γ, pl18E, pl17Γ, pl17E, pl16Γ, pl16E, pl15Γ, pl15E, pl14Γ, pl14E, pl13Γ, pl13E, pl12Γ, pl12E, pl11Γ, pl11E, pl10Γ, pl10E, pl9Γ, pl9E, pl8Γ, pl8E, pl7Γ, pl7E, pl6Γ, pl6E, pl5Γ, pl5E, pl4Γ, pl4E, pl3Γ, pl3E, pl2Γ, pl2E, pl1Γ, pl1E, pl0Γ, pl0E, conOrds_pre, conOrds_val, conRCompare_pre, conRCompare_val, conRMaj_pre, conRMaj_val, conRCmp_pre, conRCmp_val, conRCheck_pre, conRCheck_val, conAt_pre, conAt_val, conROrd_pre, conROrd_val, conRTable_pre, conRTable_val, conSameT_pre, conSameT_val, conFew_pre, conFew_val, conSame_pre, conSame_val, conMajority_pre, conMajority_val, conMapSI_pre, conMapSI_val, conSortF, conBinF_pre, conBinF_val, conCompare_pre, conCompare_val, conClone, conDecide_pre, conDecide_val, conStands_pre, conStands_val, conColS, conOrdinals_pre, conOrdinals_val, conMapRI, conCheck_pre, conCheck_val, conMapRR_pre, conMapRR_val, conCont_pre, conCont_val, conTable_pre, conTable_val, conEqual_pre, conEqual_val, conPlaced_pre, conPlaced_val, conMapII_pre, conMapII_val, conSorted, conBin_pre, conBin_val, conValues_pre, conValues_val, conColI, conSort, conLess_pre, conLess_val, conNaN_pre, conNaN_val, inI64]
  refine ⟨hr, fun hu h9 => ?_⟩
  obtain ⟨e1, e2, _⟩ := o_yes hu
  have hn0 : 0 < oN t := by rw [e2]; exact List.length_pos_iff.2 hu.2.2.2.1
  have hn9 : oN t ≤ 9 := by omega
  have hrl : ∀ row ∈ t, row.length = oN t := by rw [e2]; exact hu.2.2.2.2
  have hll : (oL t).length = t.length := by rw [e1, List.length_map]
  have ht0 : 0 < t.length := List.length_pos_iff.2 hu.2.1
  have ht9 : t.length ≤ 9 := hu.2.2.1
  have hD : ∀ k : Nat, k < oN t → _ := fun k hk => dbl_all hu (n := oN t) (k := k) e2.symm hn9 hk
  clear e1 e2
  generalize oL t = l at *
  generalize oN t = n at *
  have hw : IntKind.i64.wrap at_ = at_ := wrap_u8 hat
  rw [hw]
  obtain ⟨k, hk⟩ : ∃ k : Nat, at_.tmod n = k := ⟨(at_.tmod n).toNat, by have := Int.tmod_nonneg (n : Int) hat.1; omega⟩
  have hkn : k < n := by have := Int.tmod_lt_of_pos at_ (show (0 : Int) < n by omega); omega
  rw [hk]
  refine ⟨by omega, ?_⟩
  refine WpD.turn _ (Turn.virt (k := 10) (t := tRow) (xs := []) (by simp [look])) ?_
  refine WpD.loop (L := { live := [0, 1, 4, 5, 6, 7, 8, 9, 10, 11, 12, 13, 14, 15, 16, 17, 19, 36, 43, 44, 45], frz := [(13, [10])], fl := [(11, [(1, 0), (4, 0), (5, 0), (9, 0), (9, 7), (10, 0), (10, 7), (12, 0), (12, 7), (13, 0), (13, 7), (14, 0), (14, 7), (16, 16)])] }) plA_good X0_ok pl_mixed (by kernel_rfl)
    (fun i : Nat => ⟨[(0, vS tRow t false), (6, vI n), (9, vI k), (10, ⟨true, .v (.s (.own tRow 0 i))⟩), (43, vI l.length), (44, vI i)], [.arr (decide (0 < i)) (tRow.flats ((dbl t k).take i))]⟩)
    (fun i => i ≤ t.length) (fun i => t.length - i) 0 (by simp) (Turn.le (by simp -dsimp -implicitDefEqProofs)) ?_
  intro i hi
  have hdl : (dbl t k).length = t.length := dbl_len t k
  simp -dsimp -implicitDefEqProofs [conAlk, hdl, plA_td, plA_y, plA_Γ, plA_E, plA_fz, plT, plAΓ, plAE, pl20Γ, pl20E, pl19Γ, pl19E, pl18Γ, pl18E, pl17Γ, pl17E, pl16Γ, pl16E, pl15Γ, pl15E, pl14Γ, pl14E, pl13Γ, pl13E, pl12Γ, pl12E, pl11Γ, pl11E, pl10Γ, pl10E, pl9Γ, pl9E, pl8Γ, pl8E, pl7Γ, pl7E, pl6Γ, pl6E, pl5Γ, pl5E, pl4Γ, pl4E, pl3Γ, pl3E, pl2Γ, pl2E, pl1Γ, pl1E, pl0Γ, pl0E, conOrds_pre, conOrds_val, conRCompare_pre, conRCompare_val, conRMaj_pre, conRMaj_val, conRCmp_pre, conRCmp_val, conRCheck_pre, conRCheck_val, conAt_pre, conAt_val, conROrd_pre, conROrd_val, conRTable_pre, conRTable_val, conSameT_pre, conSameT_val, conFew_pre, conFew_val, conSame_pre, conSame_val, conMajority_pre, conMajority_val, conMapSI_pre, conMapSI_val, conSortF, conBinF_pre, conBinF_val, conCompare_pre, conCompare_val, conClone, conDecide_pre, conDecide_val, conStands_pre, conStands_val, conColS, conOrdinals_pre, conOrdinals_val, conMapRI, conCheck_pre, conCheck_val, conMapRR_pre, conMapRR_val, conCont_pre, conCont_val, conTable_pre, conTable_val, conEqual_pre, conEqual_val, conPlaced_pre, conPlaced_val, conMapII_pre, conMapII_val, conSorted, conBin_pre, conBin_val, conValues_pre, conValues_val, conColI, conSort, conLess_pre, conLess_val, conNaN_pre, conNaN_val, inI64]
  refine ⟨fun hil => ?_, fun hig => ?_⟩
  · have hit : i < t.length := by omega
    have hrow := hrl _ (get_mem [] hit)
    have hbs := dbl_take (k := k) hit
    have hmx : n + 1 ≤ maxLen := by simp only [maxLen]; omega
    refine ⟨⟨hit, ⟨by omega, by omega⟩, hit, by omega, ⟨by omega, by rw [hrow]; exact hmx⟩, ⟨by omega, by omega, by simp only [maxLen]; omega⟩, ⟨by omega, by omega⟩, i + 1, by omega, by omega, ?_⟩, hit, by omega⟩
    rw [← hbs]
    exact TurnT.trunc X0_ok (hp := [_]) (junk := [_]) (by simp) (by simp only [List.length_cons, List.length_nil, List.all_cons, List.all_nil, arr_below, Bool.and_true] <;> simp [Blk.below, SV.below]) (by simp -dsimp -implicitDefEqProofs []) (by simp [envBelow, RV.below, AV.below, SV.below])
  · obtain rfl : i = t.length := by omega
    obtain ⟨d1, d2, d3, d4, d5, d6, d7⟩ := hD k hkn
    refine ⟨dbl t k, by rw [List.take_of_length_le (by omega)], by omega, dbl_rng hr hrl hkn, ?_⟩
    rw [d2]
    refine ⟨fun _ _ _ _ => ⟨⟨⟨⟨d1, d3⟩, d5⟩, d4⟩, by omega, by omega⟩, fun _ _ _ _ _ => ⟨⟨⟨⟨⟨d1, d3⟩, d5⟩, d4⟩, by omega⟩, by omega⟩, fun _ _ _ _ _ => ⟨⟨⟨⟨⟨d1, d3⟩, d5⟩, d4⟩, by omega⟩, by omega⟩, ⟨⟨⟨⟨d1, d3⟩, d5⟩, d4⟩, by omega⟩, d7⟩
end Go.Am
