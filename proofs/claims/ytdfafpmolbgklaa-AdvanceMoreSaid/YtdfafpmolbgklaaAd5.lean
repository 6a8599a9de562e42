/- The program of chapter 24: sorting. -/
import Derived.Test.YtdfafpmolbgklaaAd4
namespace Go.Am
set_option linter.unusedVariables false
set_option linter.unusedSimpArgs false
set_option maxHeartbeats 4000000
set_option maxRecDepth 20000
open Go.RowKit Go.Proofs

noncomputable def ad2Γ : List (FuncId × Con) := (32, conValues) :: (25, conAt) :: ad1Γ
theorem ad2Γ_ok : ∀ p ∈ ad2Γ, (∀ (args : Array Value) (w : World), (callFunc p.1 args).run Try.prog w = .ok (.enter p.1 args) w) ∧ PureOk Try.prog p.1 p.2 := by
  simp only [ad2Γ, List.forall_mem_cons]
  exact ⟨⟨enters_of Try.func32 (by kernel_rfl) rfl, values_ok⟩, ⟨enters_of Try.func25 (by kernel_rfl) rfl, at_ok⟩, ad1Γ_ok⟩
noncomputable def ad2E : List (FuncId × ECon) := (39, conCollect) :: (30, conCompact) :: ad1E
theorem ad2E_ok : ∀ p ∈ ad2E, (∀ (args : Array Value) (w : World), (callFunc p.1 args).run Try.prog w = .ok (.enter p.1 args) w) ∧ EffOk Try.prog p.1 p.2 := by
  simp only [ad2E, List.forall_mem_cons]
  exact ⟨⟨enters_of Try.func39 (by kernel_rfl) rfl, collect_ok⟩, ⟨enters_of Try.func30 (by kernel_rfl) rfl, (compact_eff Try.layCompact)⟩, ad1E_ok⟩
noncomputable def ad2 : G := { τ := adT, Γ := ad2Γ, E := ad2E }
theorem ad2_good : ad2.good Try.prog := good_of_all (adT_ok _ rfl) ad2Γ_ok ad2E_ok
theorem ad2_td (t : TypeId) : ad2.td t = (look adT t).getD .other := rfl
theorem ad2_y : ad2.y = false := rfl
theorem ad2_Γ : ad2.Γ = ad2Γ := rfl
theorem ad2_E : ad2.E = ad2E := rfl
noncomputable def ad2y : G := { τ := adT, Γ := ad2Γ, E := ad2E, y := true }
theorem ad2y_good : ad2y.good Try.prog := good_of_all (adT_ok _ rfl) ad2Γ_ok ad2E_ok
theorem ad2y_td (t : TypeId) : ad2y.td t = (look adT t).getD .other := rfl
theorem ad2y_y : ad2y.y = true := rfl
theorem ad2y_Γ : ad2y.Γ = ad2Γ := rfl
theorem ad2y_E : ad2y.E = ad2E := rfl

/-- slices.Sorted. -/
def conSorted : ECon := { wp := fun args hp K => match args, hp with
  | [.s (.fnp f caps)], [] => ∃ xs : List Int, seqOf f caps xs ∧ xs.length ≤ 1000000000 ∧ K (.v (.s (.own tI 0 xs.length))) [.arr (decide (0 < xs.length)) (tI.flats (isort xs))]
  | _, _ => False }
theorem sorted_ok : EffOk Try.prog 31 conSorted := by
  refine effOkD (L := { live := [0, 2, 3], frz := [] }) ad2_good rfl ad_mixed Try.func31 rfl conSorted 1 (by decide) (by kernel_rfl) ?_
  intro args hp K hpre hlens
  simp only [conSorted] at hpre
  split at hpre
  · rename_i f caps
    obtain ⟨xs, hs, hlen, hK⟩ := hpre
    refine ⟨rfl, ?_⟩
    simp -dsimp -implicitDefEqProofs [Try.f31, conCollect, conSort, thenKD_normal, thenKD_exit, thenKD_goto, thenKD_ret, inBlockKD_normal, inBlockKD_exit, inBlockKD_goto, inBlockKD_ret, noGotoKD_normal, noGotoKD_exit, noGotoKD_goto, noGotoKD_ret, roundKD_normal, roundKD_exit, roundKD_goto, roundKD_ret, frzSlotsD_nil, frzSlotsD_cons, frzSlotD_eq, yieldVCD_trace, opVCD_eq, vcOpsD_nil, vcOpsD_cons, vcAllD_zero, vcAllD_succ, allAtD_nil, allAtD_cons, readyAux, edgA, vcD_skip, vcD_label, vcD_exit, vcD_goto, vcD_ret, vcD_region, vcD_seq, vcD_seqC, vcD_cond, vcCondD_bool, vcD_block, vcD_scope, vcD_loop, vcD_rangeFunc, yieldOf, isMem, isMem0, keepE, envLe, St.le, psE, yieldAV, round_td, round_y, round_Γ, vI, vB, vS, aI, aB, aS, look, getE, oper, opRV, putE, allOk, okOps, Op.operands, Call.operands, pEv, qEv, mEv, constRV, coe, RV.av, loadEv, loadCs, takeAt, indexAddrEv, fieldAddrEv, binEv, intEv, arith, unEv, gcond, pickEv, argsEv, callVal, callEv, capAV_mk, lenArgs, lenEv, minEv, extractEv, convEv, funcEv, allBox, bound, sliceEv, lookupEv, TD.isBool, allocEv, boxEv, storeEv, spl, plainTD, appendEv, appendArgs, makeMapEv, mapUpdateEv, buildEv, buildSliceEv, fillSV, zsvOf, sizeTD, Ty.parses, parses_flats', coeA, ← flats_append, flats_length, AV.good, AV.cells, AV.pure, SV.pure, av_int, av_bool, av_str, av_slice, av_cons, av_fld0, av_fld1, av_fld2, av_fld3, av_fld4, Ty.of, Ty.dflt, Ty.parse, Ty.flat, Ty.zsv, Ty.fld, Ty.get, Ty.off, Ty.nfld, Ty.size, coeTy, junk, Blk.look, argEnv, resEv, resOk, resVs, oneRV, retOk, frzAs, frzAV, frzL, frzSV, boxCaps, boxCap, SV.sig, sigs, RV.scalar, AV.scalar, SV.scalar, nope, effVCD_eq, effOf, SV.ids, AV.ids, dedup, SV.ren, AV.ren, RV.ren, idx, outId, mergeB, Blk.pureB, flats_pure, flat_pure, epsSlotsD_nil, epsSlotsD_cons, epsSlotD_eq, allEp, D.parts_fnOf, fvParts, retEff, round_E, av_fn, G.ye, isCutD_nil, isCutD_cons, firstReg_region, firstReg_seq, firstReg_skip, firstReg_ret, firstReg_label, firstReg_exit, firstReg_goto, firstReg_cond, firstReg_block, firstReg_scope, firstReg_loop, firstReg_rf, eptrOf_mk, flOfD_nil, flOfD_cons, vcFlD_cons, vcFlD_nil, flPairs_nil, flPairs_cons, ad2_td, ad2_y, ad2_Γ, ad2_E, adT, ad2Γ, ad2E, ad1Γ, ad1E, ad0Γ, ad0E, inI64]
    refine ⟨xs, hs, hlen, xs, rfl, rfl, by omega, ?_, ?_⟩
    · cases xs <;> simp
    · have := isort_length xs
      exact hK
  · exact hpre.elim

noncomputable def ad3Γ : List (FuncId × Con) := ad2Γ
theorem ad3Γ_ok : ∀ p ∈ ad3Γ, (∀ (args : Array Value) (w : World), (callFunc p.1 args).run Try.prog w = .ok (.enter p.1 args) w) ∧ PureOk Try.prog p.1 p.2 := by
  simp only [ad3Γ]
  exact ad2Γ_ok
noncomputable def ad3E : List (FuncId × ECon) := (31, conSorted) :: ad2E
theorem ad3E_ok : ∀ p ∈ ad3E, (∀ (args : Array Value) (w : World), (callFunc p.1 args).run Try.prog w = .ok (.enter p.1 args) w) ∧ EffOk Try.prog p.1 p.2 := by
  simp only [ad3E, List.forall_mem_cons]
  exact ⟨⟨enters_of Try.func31 (by kernel_rfl) rfl, sorted_ok⟩, ad2E_ok⟩
noncomputable def ad3 : G := { τ := adT, Γ := ad3Γ, E := ad3E }
theorem ad3_good : ad3.good Try.prog := good_of_all (adT_ok _ rfl) ad3Γ_ok ad3E_ok
theorem ad3_td (t : TypeId) : ad3.td t = (look adT t).getD .other := rfl
theorem ad3_y : ad3.y = false := rfl
theorem ad3_Γ : ad3.Γ = ad3Γ := rfl
theorem ad3_E : ad3.E = ad3E := rfl
noncomputable def ad3y : G := { τ := adT, Γ := ad3Γ, E := ad3E, y := true }
theorem ad3y_good : ad3y.good Try.prog := good_of_all (adT_ok _ rfl) ad3Γ_ok ad3E_ok
theorem ad3y_td (t : TypeId) : ad3y.td t = (look adT t).getD .other := rfl
theorem ad3y_y : ad3y.y = true := rfl
theorem ad3y_Γ : ad3y.Γ = ad3Γ := rfl
theorem ad3y_E : ad3y.E = ad3E := rfl

/-- advance.different. -/
def conDiff : Con := ⟨fun args => (match args with
  | [.s (.sl (.int .i64) xs _)] => xs.length ≤ 4096
  | _ => False), fun args => match args with
  | [.s (.sl (.int _) xs _)] => .v (aB (decide xs.Nodup))
  | _ => .v (.s .any)⟩
theorem conDiff_pre (xs : List Int) (ex : Bool) : conDiff.pre [.s (.sl tI xs ex)] = (xs.length ≤ 4096) := rfl
theorem conDiff_val (xs : List Int) (ex : Bool) : conDiff.val [.s (.sl tI xs ex)] = .v (aB (decide xs.Nodup)) := rfl
theorem diff_ok : PureOk Try.prog 21 conDiff := by
  refine pureOkD (L := { live := [0, 2], frz := [] }) ad3_good rfl ad_mixed Try.func21 rfl conDiff 1 (by decide) (by kernel_rfl) ?_
  intro args hpre hlens
  simp only [conDiff] at hpre
  split at hpre
  · rename_i xs ex
    refine ⟨rfl, ?_⟩
    simp -dsimp -implicitDefEqProofs [Try.f21, conDiff_val, conValues_pre, conValues_val, conSorted, conCompact, thenKD_normal, thenKD_exit, thenKD_goto, thenKD_ret, inBlockKD_normal, inBlockKD_exit, inBlockKD_goto, inBlockKD_ret, noGotoKD_normal, noGotoKD_exit, noGotoKD_goto, noGotoKD_ret, roundKD_normal, roundKD_exit, roundKD_goto, roundKD_ret, frzSlotsD_nil, frzSlotsD_cons, frzSlotD_eq, yieldVCD_trace, opVCD_eq, vcOpsD_nil, vcOpsD_cons, vcAllD_zero, vcAllD_succ, allAtD_nil, allAtD_cons, readyAux, edgA, vcD_skip, vcD_label, vcD_exit, vcD_goto, vcD_ret, vcD_region, vcD_seq, vcD_seqC, vcD_cond, vcCondD_bool, vcD_block, vcD_scope, vcD_loop, vcD_rangeFunc, yieldOf, isMem, isMem0, keepE, envLe, St.le, psE, yieldAV, round_td, round_y, round_Γ, vI, vB, vS, aI, aB, aS, look, getE, oper, opRV, putE, allOk, okOps, Op.operands, Call.operands, pEv, qEv, mEv, constRV, coe, RV.av, loadEv, loadCs, takeAt, indexAddrEv, fieldAddrEv, binEv, intEv, arith, unEv, gcond, pickEv, argsEv, callVal, callEv, capAV_mk, lenArgs, lenEv, minEv, extractEv, convEv, funcEv, allBox, bound, sliceEv, lookupEv, TD.isBool, allocEv, boxEv, storeEv, spl, plainTD, appendEv, appendArgs, makeMapEv, mapUpdateEv, buildEv, buildSliceEv, fillSV, zsvOf, sizeTD, Ty.parses, parses_flats', coeA, ← flats_append, flats_length, AV.good, AV.cells, AV.pure, SV.pure, av_int, av_bool, av_str, av_slice, av_cons, av_fld0, av_fld1, av_fld2, av_fld3, av_fld4, Ty.of, Ty.dflt, Ty.parse, Ty.flat, Ty.zsv, Ty.fld, Ty.get, Ty.off, Ty.nfld, Ty.size, coeTy, junk, Blk.look, argEnv, resEv, resOk, resVs, oneRV, retOk, frzAs, frzAV, frzL, frzSV, boxCaps, boxCap, SV.sig, sigs, RV.scalar, AV.scalar, SV.scalar, nope, effVCD_eq, effOf, SV.ids, AV.ids, dedup, SV.ren, AV.ren, RV.ren, idx, outId, mergeB, Blk.pureB, flats_pure, flat_pure, epsSlotsD_nil, epsSlotsD_cons, epsSlotD_eq, allEp, D.parts_fnOf, fvParts, retEff, round_E, av_fn, G.ye, isCutD_nil, isCutD_cons, firstReg_region, firstReg_seq, firstReg_skip, firstReg_ret, firstReg_label, firstReg_exit, firstReg_goto, firstReg_cond, firstReg_block, firstReg_scope, firstReg_loop, firstReg_rf, eptrOf_mk, flOfD_nil, flOfD_cons, vcFlD_cons, vcFlD_nil, flPairs_nil, flPairs_cons, ad3_td, ad3_y, ad3_Γ, ad3_E, adT, ad3Γ, ad3E, ad2Γ, ad2E, ad1Γ, ad1E, ad0Γ, ad0E, inI64]
    refine ⟨xs, seq_values xs, by omega, isort xs, rfl, isort_length xs, ?_, ?_⟩
    · cases xs <;> simp [isort]
    · have := compact_nodup xs
      rw [Bool.eq_iff_iff]
      simp only [beq_iff_eq, decide_eq_true_eq]
      rw [← this]
      omega
  · exact hpre.elim

/-- cmp.Compare. -/
def cmpI (a b : Int) : Int := if a < b then -1 else if b < a then 1 else 0
def conNaN : Con := ⟨fun args => (match args with
  | [.s (.int .i64 _)] => True
  | _ => False), fun _ => .v (aB false)⟩
theorem conNaN_pre (a : Int) : conNaN.pre [.s (.int .i64 a)] = True := rfl
theorem conNaN_val (l : List AV) : conNaN.val l = .v (aB false) := rfl
theorem nan_ok : PureOk Try.prog 42 conNaN := by
  refine pureOkD (L := { live := [0, 2], frz := [] }) ad0_good rfl ad_mixed Try.func42 rfl conNaN 1 (by decide) (by kernel_rfl) ?_
  intro args hpre hlens
  simp only [conNaN] at hpre
  split at hpre
  · refine ⟨rfl, ?_⟩
    simp -dsimp -implicitDefEqProofs [Try.f42, conNaN_val, thenKD_normal, thenKD_exit, thenKD_goto, thenKD_ret, inBlockKD_normal, inBlockKD_exit, inBlockKD_goto, inBlockKD_ret, noGotoKD_normal, noGotoKD_exit, noGotoKD_goto, noGotoKD_ret, roundKD_normal, roundKD_exit, roundKD_goto, roundKD_ret, frzSlotsD_nil, frzSlotsD_cons, frzSlotD_eq, yieldVCD_trace, opVCD_eq, vcOpsD_nil, vcOpsD_cons, vcAllD_zero, vcAllD_succ, allAtD_nil, allAtD_cons, readyAux, edgA, vcD_skip, vcD_label, vcD_exit, vcD_goto, vcD_ret, vcD_region, vcD_seq, vcD_seqC, vcD_cond, vcCondD_bool, vcD_block, vcD_scope, vcD_loop, vcD_rangeFunc, yieldOf, isMem, isMem0, keepE, envLe, St.le, psE, yieldAV, round_td, round_y, round_Γ, vI, vB, vS, aI, aB, aS, look, getE, oper, opRV, putE, allOk, okOps, Op.operands, Call.operands, pEv, qEv, mEv, constRV, coe, RV.av, loadEv, loadCs, takeAt, indexAddrEv, fieldAddrEv, binEv, intEv, arith, unEv, gcond, pickEv, argsEv, callVal, callEv, capAV_mk, lenArgs, lenEv, minEv, extractEv, convEv, funcEv, allBox, bound, sliceEv, lookupEv, TD.isBool, allocEv, boxEv, storeEv, spl, plainTD, appendEv, appendArgs, makeMapEv, mapUpdateEv, buildEv, buildSliceEv, fillSV, zsvOf, sizeTD, Ty.parses, parses_flats', coeA, ← flats_append, flats_length, AV.good, AV.cells, AV.pure, SV.pure, av_int, av_bool, av_str, av_slice, av_cons, av_fld0, av_fld1, av_fld2, av_fld3, av_fld4, Ty.of, Ty.dflt, Ty.parse, Ty.flat, Ty.zsv, Ty.fld, Ty.get, Ty.off, Ty.nfld, Ty.size, coeTy, junk, Blk.look, argEnv, resEv, resOk, resVs, oneRV, retOk, frzAs, frzAV, frzL, frzSV, boxCaps, boxCap, SV.sig, sigs, RV.scalar, AV.scalar, SV.scalar, nope, effVCD_eq, effOf, SV.ids, AV.ids, dedup, SV.ren, AV.ren, RV.ren, idx, outId, mergeB, Blk.pureB, flats_pure, flat_pure, epsSlotsD_nil, epsSlotsD_cons, epsSlotD_eq, allEp, D.parts_fnOf, fvParts, retEff, round_E, av_fn, G.ye, isCutD_nil, isCutD_cons, firstReg_region, firstReg_seq, firstReg_skip, firstReg_ret, firstReg_label, firstReg_exit, firstReg_goto, firstReg_cond, firstReg_block, firstReg_scope, firstReg_loop, firstReg_rf, eptrOf_mk, flOfD_nil, flOfD_cons, vcFlD_cons, vcFlD_nil, flPairs_nil, flPairs_cons, ad0_td, ad0_y, ad0_Γ, ad0_E, adT, ad0Γ, ad0E, inI64]
  · exact hpre.elim
noncomputable def ad4Γ : List (FuncId × Con) := (42, conNaN) :: (21, conDiff) :: ad3Γ
theorem ad4Γ_ok : ∀ p ∈ ad4Γ, (∀ (args : Array Value) (w : World), (callFunc p.1 args).run Try.prog w = .ok (.enter p.1 args) w) ∧ PureOk Try.prog p.1 p.2 := by
  simp only [ad4Γ, List.forall_mem_cons]
  exact ⟨⟨enters_of Try.func42 (by kernel_rfl) rfl, nan_ok⟩, ⟨enters_of Try.func21 (by kernel_rfl) rfl, diff_ok⟩, ad3Γ_ok⟩
noncomputable def ad4E : List (FuncId × ECon) := ad3E
theorem ad4E_ok : ∀ p ∈ ad4E, (∀ (args : Array Value) (w : World), (callFunc p.1 args).run Try.prog w = .ok (.enter p.1 args) w) ∧ EffOk Try.prog p.1 p.2 := by
  simp only [ad4E]
  exact ad3E_ok
noncomputable def ad4 : G := { τ := adT, Γ := ad4Γ, E := ad4E }
theorem ad4_good : ad4.good Try.prog := good_of_all (adT_ok _ rfl) ad4Γ_ok ad4E_ok
theorem ad4_td (t : TypeId) : ad4.td t = (look adT t).getD .other := rfl
theorem ad4_y : ad4.y = false := rfl
theorem ad4_Γ : ad4.Γ = ad4Γ := rfl
theorem ad4_E : ad4.E = ad4E := rfl
noncomputable def ad4y : G := { τ := adT, Γ := ad4Γ, E := ad4E, y := true }
theorem ad4y_good : ad4y.good Try.prog := good_of_all (adT_ok _ rfl) ad4Γ_ok ad4E_ok
theorem ad4y_td (t : TypeId) : ad4y.td t = (look adT t).getD .other := rfl
theorem ad4y_y : ad4y.y = true := rfl
theorem ad4y_Γ : ad4y.Γ = ad4Γ := rfl
theorem ad4y_E : ad4y.E = ad4E := rfl
def conCmp : Con := ⟨fun args => (match args with
  | [.s (.int .i64 _), .s (.int .i64 _)] => True
  | _ => False), fun args => match args with
  | [.s (.int _ a), .s (.int _ b)] => .v (aI (cmpI a b))
  | _ => .v (.s .any)⟩
theorem conCmp_pre (a b : Int) : conCmp.pre [.s (.int .i64 a), .s (.int .i64 b)] = True := rfl
theorem conCmp_val (a b : Int) : conCmp.val [.s (.int .i64 a), .s (.int .i64 b)] = .v (aI (cmpI a b)) := rfl
theorem cmp_ok : PureOk Try.prog 35 conCmp := by
  refine pureOkD (L := { live := [0, 1, 4, 5, 6, 11, 12, 13, 16, 19], frz := [] }) ad4_good rfl ad_mixed Try.func35 rfl conCmp 2 (by decide) (by kernel_rfl) ?_
  intro args hpre hlens
  simp only [conCmp] at hpre
  split at hpre
  · rename_i a b
    refine ⟨rfl, ?_⟩
    simp -dsimp -implicitDefEqProofs [Try.f35, conCmp_val, conNaN_pre, conNaN_val, thenKD_normal, thenKD_exit, thenKD_goto, thenKD_ret, inBlockKD_normal, inBlockKD_exit, inBlockKD_goto, inBlockKD_ret, noGotoKD_normal, noGotoKD_exit, noGotoKD_goto, noGotoKD_ret, roundKD_normal, roundKD_exit, roundKD_goto, roundKD_ret, frzSlotsD_nil, frzSlotsD_cons, frzSlotD_eq, yieldVCD_trace, opVCD_eq, vcOpsD_nil, vcOpsD_cons, vcAllD_zero, vcAllD_succ, allAtD_nil, allAtD_cons, readyAux, edgA, vcD_skip, vcD_label, vcD_exit, vcD_goto, vcD_ret, vcD_region, vcD_seq, vcD_seqC, vcD_cond, vcCondD_bool, vcD_block, vcD_scope, vcD_loop, vcD_rangeFunc, yieldOf, isMem, isMem0, keepE, envLe, St.le, psE, yieldAV, round_td, round_y, round_Γ, vI, vB, vS, aI, aB, aS, look, getE, oper, opRV, putE, allOk, okOps, Op.operands, Call.operands, pEv, qEv, mEv, constRV, coe, RV.av, loadEv, loadCs, takeAt, indexAddrEv, fieldAddrEv, binEv, intEv, arith, unEv, gcond, pickEv, argsEv, callVal, callEv, capAV_mk, lenArgs, lenEv, minEv, extractEv, convEv, funcEv, allBox, bound, sliceEv, lookupEv, TD.isBool, allocEv, boxEv, storeEv, spl, plainTD, appendEv, appendArgs, makeMapEv, mapUpdateEv, buildEv, buildSliceEv, fillSV, zsvOf, sizeTD, Ty.parses, parses_flats', coeA, ← flats_append, flats_length, AV.good, AV.cells, AV.pure, SV.pure, av_int, av_bool, av_str, av_slice, av_cons, av_fld0, av_fld1, av_fld2, av_fld3, av_fld4, Ty.of, Ty.dflt, Ty.parse, Ty.flat, Ty.zsv, Ty.fld, Ty.get, Ty.off, Ty.nfld, Ty.size, coeTy, junk, Blk.look, argEnv, resEv, resOk, resVs, oneRV, retOk, frzAs, frzAV, frzL, frzSV, boxCaps, boxCap, SV.sig, sigs, RV.scalar, AV.scalar, SV.scalar, nope, effVCD_eq, effOf, SV.ids, AV.ids, dedup, SV.ren, AV.ren, RV.ren, idx, outId, mergeB, Blk.pureB, flats_pure, flat_pure, epsSlotsD_nil, epsSlotsD_cons, epsSlotD_eq, allEp, D.parts_fnOf, fvParts, retEff, round_E, av_fn, G.ye, isCutD_nil, isCutD_cons, firstReg_region, firstReg_seq, firstReg_skip, firstReg_ret, firstReg_label, firstReg_exit, firstReg_goto, firstReg_cond, firstReg_block, firstReg_scope, firstReg_loop, firstReg_rf, eptrOf_mk, flOfD_nil, flOfD_cons, vcFlD_cons, vcFlD_nil, flPairs_nil, flPairs_cons, ad4_td, ad4_y, ad4_Γ, ad4_E, adT, ad4Γ, ad4E, ad3Γ, ad3E, ad2Γ, ad2E, ad1Γ, ad1E, ad0Γ, ad0E, inI64]
    unfold cmpI
    exact ⟨fun h => by rw [if_pos h], fun h => ⟨fun h' => by rw [if_neg (by omega), if_pos h'], fun h' => by rw [if_neg (by omega), if_neg (by omega)]⟩⟩
  · exact hpre.elim
noncomputable def ad5Γ : List (FuncId × Con) := (35, conCmp) :: ad4Γ
theorem ad5Γ_ok : ∀ p ∈ ad5Γ, (∀ (args : Array Value) (w : World), (callFunc p.1 args).run Try.prog w = .ok (.enter p.1 args) w) ∧ PureOk Try.prog p.1 p.2 := by
  simp only [ad5Γ, List.forall_mem_cons]
  exact ⟨⟨enters_of Try.func35 (by kernel_rfl) rfl, cmp_ok⟩, ad4Γ_ok⟩
noncomputable def ad5E : List (FuncId × ECon) := ad4E
theorem ad5E_ok : ∀ p ∈ ad5E, (∀ (args : Array Value) (w : World), (callFunc p.1 args).run Try.prog w = .ok (.enter p.1 args) w) ∧ EffOk Try.prog p.1 p.2 := by
  simp only [ad5E]
  exact ad4E_ok
noncomputable def ad5 : G := { τ := adT, Γ := ad5Γ, E := ad5E }
theorem ad5_good : ad5.good Try.prog := good_of_all (adT_ok _ rfl) ad5Γ_ok ad5E_ok
theorem ad5_td (t : TypeId) : ad5.td t = (look adT t).getD .other := rfl
theorem ad5_y : ad5.y = false := rfl
theorem ad5_Γ : ad5.Γ = ad5Γ := rfl
theorem ad5_E : ad5.E = ad5E := rfl
noncomputable def ad5y : G := { τ := adT, Γ := ad5Γ, E := ad5E, y := true }
theorem ad5y_good : ad5y.good Try.prog := good_of_all (adT_ok _ rfl) ad5Γ_ok ad5E_ok
theorem ad5y_td (t : TypeId) : ad5y.td t = (look adT t).getD .other := rfl
theorem ad5y_y : ad5y.y = true := rfl
theorem ad5y_Γ : ad5y.Γ = ad5Γ := rfl
theorem ad5y_E : ad5y.E = ad5E := rfl
/-- What advance.by compares. -/
def conByC : Con := ⟨fun args => (match args with
  | [.s (.int .i64 a), .s (.int .i64 b), .s (.eptr (.slice (.int .i64)) key)] => (0 ≤ a ∧ a < key.length) ∧ (0 ≤ b ∧ b < key.length)
  | _ => False), fun args => match args with
  | [.s (.int _ a), .s (.int _ b), .s (.eptr (.slice (.int _)) key)] => .v (aI (cmpI (key[a.toNat]?.getD 0) (key[b.toNat]?.getD 0)))
  | _ => .v (.s .any)⟩
theorem conByC_pre (a b : Int) (key : List Int) : conByC.pre [.s (.int .i64 a), .s (.int .i64 b), .s (.eptr (.slice tI) key)] = ((0 ≤ a ∧ a < key.length) ∧ (0 ≤ b ∧ b < key.length)) := rfl
theorem conByC_val (a b : Int) (key : List Int) : conByC.val [.s (.int .i64 a), .s (.int .i64 b), .s (.eptr (.slice tI) key)] = .v (aI (cmpI (key[a.toNat]?.getD 0) (key[b.toNat]?.getD 0))) := rfl
theorem byC_ok : PureOk Try.prog 34 conByC := by
  refine pureOkD (L := { live := [0, 1, 2, 5], frz := [] }) ad5_good rfl ad_mixed Try.func34 rfl conByC 3 (by decide) (by kernel_rfl) ?_
  intro args hpre hlens
  simp only [conByC] at hpre
  split at hpre
  · rename_i a b key
    refine ⟨rfl, ?_⟩
    simp -dsimp -implicitDefEqProofs [Try.f34, conByC_val, conCmp_pre, conCmp_val, thenKD_normal, thenKD_exit, thenKD_goto, thenKD_ret, inBlockKD_normal, inBlockKD_exit, inBlockKD_goto, inBlockKD_ret, noGotoKD_normal, noGotoKD_exit, noGotoKD_goto, noGotoKD_ret, roundKD_normal, roundKD_exit, roundKD_goto, roundKD_ret, frzSlotsD_nil, frzSlotsD_cons, frzSlotD_eq, yieldVCD_trace, opVCD_eq, vcOpsD_nil, vcOpsD_cons, vcAllD_zero, vcAllD_succ, allAtD_nil, allAtD_cons, readyAux, edgA, vcD_skip, vcD_label, vcD_exit, vcD_goto, vcD_ret, vcD_region, vcD_seq, vcD_seqC, vcD_cond, vcCondD_bool, vcD_block, vcD_scope, vcD_loop, vcD_rangeFunc, yieldOf, isMem, isMem0, keepE, envLe, St.le, psE, yieldAV, round_td, round_y, round_Γ, vI, vB, vS, aI, aB, aS, look, getE, oper, opRV, putE, allOk, okOps, Op.operands, Call.operands, pEv, qEv, mEv, constRV, coe, RV.av, loadEv, loadCs, takeAt, indexAddrEv, fieldAddrEv, binEv, intEv, arith, unEv, gcond, pickEv, argsEv, callVal, callEv, capAV_mk, lenArgs, lenEv, minEv, extractEv, convEv, funcEv, allBox, bound, sliceEv, lookupEv, TD.isBool, allocEv, boxEv, storeEv, spl, plainTD, appendEv, appendArgs, makeMapEv, mapUpdateEv, buildEv, buildSliceEv, fillSV, zsvOf, sizeTD, Ty.parses, parses_flats', coeA, ← flats_append, flats_length, AV.good, AV.cells, AV.pure, SV.pure, av_int, av_bool, av_str, av_slice, av_cons, av_fld0, av_fld1, av_fld2, av_fld3, av_fld4, Ty.of, Ty.dflt, Ty.parse, Ty.flat, Ty.zsv, Ty.fld, Ty.get, Ty.off, Ty.nfld, Ty.size, coeTy, junk, Blk.look, argEnv, resEv, resOk, resVs, oneRV, retOk, frzAs, frzAV, frzL, frzSV, boxCaps, boxCap, SV.sig, sigs, RV.scalar, AV.scalar, SV.scalar, nope, effVCD_eq, effOf, SV.ids, AV.ids, dedup, SV.ren, AV.ren, RV.ren, idx, outId, mergeB, Blk.pureB, flats_pure, flat_pure, epsSlotsD_nil, epsSlotsD_cons, epsSlotD_eq, allEp, D.parts_fnOf, fvParts, retEff, round_E, av_fn, G.ye, isCutD_nil, isCutD_cons, firstReg_region, firstReg_seq, firstReg_skip, firstReg_ret, firstReg_label, firstReg_exit, firstReg_goto, firstReg_cond, firstReg_block, firstReg_scope, firstReg_loop, firstReg_rf, eptrOf_mk, flOfD_nil, flOfD_cons, vcFlD_cons, vcFlD_nil, flPairs_nil, flPairs_cons, ad5_td, ad5_y, ad5_Γ, ad5_E, adT, ad5Γ, ad5E, ad4Γ, ad4E, ad3Γ, ad3E, ad2Γ, ad2E, ad1Γ, ad1E, ad0Γ, ad0E, inI64]
    exact hpre
  · exact hpre.elim

theorem cmpI_neg (a b : Int) : cmpI a b < 0 ↔ a < b := by
  unfold cmpI
  split
  · simp; assumption
  · split <;> simp <;> omega
def keyAt (key : List Int) (i : Int) : Int := key[i.toNat]?.getD 0
/-- What is sorted by keys. -/
def sortBy (key xs : List Int) : List Int := xs.mergeSort fun a b => decide (keyAt key a ≤ keyAt key b)
theorem sortBy_perm (key xs : List Int) : (sortBy key xs).Perm xs := List.mergeSort_perm ..
theorem sortBy_sorted (key xs : List Int) : (sortBy key xs).Pairwise (fun a b => keyAt key a ≤ keyAt key b) := by
  have := List.pairwise_mergeSort (le := fun a b : Int => decide (keyAt key a ≤ keyAt key b)) (by intro a b c; simp; omega) (by intro a b; simp; omega) xs
  exact this.imp (by simp)
theorem sortBy_unique {key xs ys : List Int} (hinj : ∀ a ∈ xs, ∀ b ∈ xs, keyAt key a = keyAt key b → a = b) (hp : ys.Perm xs) (hs : ys.Pairwise (fun a b => keyAt key a ≤ keyAt key b)) : ys = sortBy key xs := by
  refine List.Perm.eq_of_pairwise (le := fun a b => keyAt key a ≤ keyAt key b) (fun a b ha hb h1 h2 => ?_) hs (sortBy_sorted key xs) (hp.trans (sortBy_perm key xs).symm)
  exact hinj a (hp.mem_iff.1 ha) b ((sortBy_perm key xs).mem_iff.1 hb) (by omega)

def byΓ : List (FuncId × Con) := [(34, conByC)]
theorem byΓ_ok (f : FuncId) (c : Con) (h : look byΓ f = some c) : (∀ (args : Array Value) (w : World), (callFunc f args).run Try.prog w = .ok (.enter f args) w) ∧ PureOk Try.prog f c := by
  simp only [byΓ, look] at h
  split at h
  · rename_i e; subst e; cases h; exact ⟨enters_of Try.func34 (by kernel_rfl) rfl, byC_ok⟩
  · cases h
noncomputable def ad6Γ : List (FuncId × Con) := ad5Γ
theorem ad6Γ_ok : ∀ p ∈ ad6Γ, (∀ (args : Array Value) (w : World), (callFunc p.1 args).run Try.prog w = .ok (.enter p.1 args) w) ∧ PureOk Try.prog p.1 p.2 := by
  simp only [ad6Γ]
  exact ad5Γ_ok
noncomputable def ad6E : List (FuncId × ECon) := (41, (conSortF byΓ)) :: ad5E
theorem ad6E_ok : ∀ p ∈ ad6E, (∀ (args : Array Value) (w : World), (callFunc p.1 args).run Try.prog w = .ok (.enter p.1 args) w) ∧ EffOk Try.prog p.1 p.2 := by
  simp only [ad6E, List.forall_mem_cons]
  exact ⟨⟨enters_of Try.func41 (by kernel_rfl) rfl, (sortF_eff Try.laySortF byΓ byΓ_ok)⟩, ad5E_ok⟩
noncomputable def ad6 : G := { τ := adT, Γ := ad6Γ, E := ad6E }
theorem ad6_good : ad6.good Try.prog := good_of_all (adT_ok _ rfl) ad6Γ_ok ad6E_ok
theorem ad6_td (t : TypeId) : ad6.td t = (look adT t).getD .other := rfl
theorem ad6_y : ad6.y = false := rfl
theorem ad6_Γ : ad6.Γ = ad6Γ := rfl
theorem ad6_E : ad6.E = ad6E := rfl
noncomputable def ad6y : G := { τ := adT, Γ := ad6Γ, E := ad6E, y := true }
theorem ad6y_good : ad6y.good Try.prog := good_of_all (adT_ok _ rfl) ad6Γ_ok ad6E_ok
theorem ad6y_td (t : TypeId) : ad6y.td t = (look adT t).getD .other := rfl
theorem ad6y_y : ad6y.y = true := rfl
theorem ad6y_Γ : ad6y.Γ = ad6Γ := rfl
theorem ad6y_E : ad6y.E = ad6E := rfl

/-- slices.SortedFunc, with what advance.by compares. -/
def conSortedF : ECon := { wp := fun args hp K => match args, hp with
  | [.s (.fnp f caps), .s (.fnp g [⟨.slice (.int .i64), key⟩])], [] => g = 34 ∧ ∃ xs : List Int, seqOf f caps xs ∧ xs.length ≤ 1000000000 ∧ (∀ x ∈ xs, 0 ≤ x ∧ x < key.length) ∧ (∀ a ∈ xs, ∀ b ∈ xs, keyAt key a = keyAt key b → a = b) ∧
      K (.v (.s (.own tI 0 xs.length))) [.arr (decide (0 < xs.length)) (tI.flats (sortBy key xs))]
  | _, _ => False }
theorem sortedF_ok : EffOk Try.prog 33 conSortedF := by
  refine effOkD (L := { live := [0, 1, 4, 5], frz := [] }) ad6_good rfl ad_mixed Try.func33 rfl conSortedF 2 (by decide) (by kernel_rfl) ?_
  intro args hp K hpre hlens
  simp only [conSortedF] at hpre
  split at hpre
  · rename_i f caps g key
    obtain ⟨rfl, xs, hs, hlen, hrange, hinj, hK⟩ := hpre
    refine ⟨rfl, ?_⟩
    simp -dsimp -implicitDefEqProofs [Try.f33, conCollect, conSortF, thenKD_normal, thenKD_exit, thenKD_goto, thenKD_ret, inBlockKD_normal, inBlockKD_exit, inBlockKD_goto, inBlockKD_ret, noGotoKD_normal, noGotoKD_exit, noGotoKD_goto, noGotoKD_ret, roundKD_normal, roundKD_exit, roundKD_goto, roundKD_ret, frzSlotsD_nil, frzSlotsD_cons, frzSlotD_eq, yieldVCD_trace, opVCD_eq, vcOpsD_nil, vcOpsD_cons, vcAllD_zero, vcAllD_succ, allAtD_nil, allAtD_cons, readyAux, edgA, vcD_skip, vcD_label, vcD_exit, vcD_goto, vcD_ret, vcD_region, vcD_seq, vcD_seqC, vcD_cond, vcCondD_bool, vcD_block, vcD_scope, vcD_loop, vcD_rangeFunc, yieldOf, isMem, isMem0, keepE, envLe, St.le, psE, yieldAV, round_td, round_y, round_Γ, vI, vB, vS, aI, aB, aS, look, getE, oper, opRV, putE, allOk, okOps, Op.operands, Call.operands, pEv, qEv, mEv, constRV, coe, RV.av, loadEv, loadCs, takeAt, indexAddrEv, fieldAddrEv, binEv, intEv, arith, unEv, gcond, pickEv, argsEv, callVal, callEv, capAV_mk, lenArgs, lenEv, minEv, extractEv, convEv, funcEv, allBox, bound, sliceEv, lookupEv, TD.isBool, allocEv, boxEv, storeEv, spl, plainTD, appendEv, appendArgs, makeMapEv, mapUpdateEv, buildEv, buildSliceEv, fillSV, zsvOf, sizeTD, Ty.parses, parses_flats', coeA, ← flats_append, flats_length, AV.good, AV.cells, AV.pure, SV.pure, av_int, av_bool, av_str, av_slice, av_cons, av_fld0, av_fld1, av_fld2, av_fld3, av_fld4, Ty.of, Ty.dflt, Ty.parse, Ty.flat, Ty.zsv, Ty.fld, Ty.get, Ty.off, Ty.nfld, Ty.size, coeTy, junk, Blk.look, argEnv, resEv, resOk, resVs, oneRV, retOk, frzAs, frzAV, frzL, frzSV, boxCaps, boxCap, SV.sig, sigs, RV.scalar, AV.scalar, SV.scalar, nope, effVCD_eq, effOf, SV.ids, AV.ids, dedup, SV.ren, AV.ren, RV.ren, idx, outId, mergeB, Blk.pureB, flats_pure, flat_pure, epsSlotsD_nil, epsSlotsD_cons, epsSlotD_eq, allEp, D.parts_fnOf, fvParts, retEff, round_E, av_fn, G.ye, isCutD_nil, isCutD_cons, firstReg_region, firstReg_seq, firstReg_skip, firstReg_ret, firstReg_label, firstReg_exit, firstReg_goto, firstReg_cond, firstReg_block, firstReg_scope, firstReg_loop, firstReg_rf, eptrOf_mk, flOfD_nil, flOfD_cons, vcFlD_cons, vcFlD_nil, flPairs_nil, flPairs_cons, ad6_td, ad6_y, ad6_Γ, ad6_E, adT, ad6Γ, ad6E, ad5Γ, ad5E, ad4Γ, ad4E, ad3Γ, ad3E, ad2Γ, ad2E, ad1Γ, ad1E, ad0Γ, ad0E, inI64]
    have hneg : ∀ a b : Int, 0 ≤ cmpI (keyAt key a) (keyAt key b) ↔ keyAt key b ≤ keyAt key a := fun a b => by
      have := cmpI_neg (keyAt key a) (keyAt key b); omega
    refine ⟨xs, hs, hlen, xs, rfl, rfl, by omega, by cases xs <;> simp, fun a b => cmpI (keyAt key a) (keyAt key b), _, _, ⟨rfl, rfl⟩, conByC, rfl, fun a ha b hb => ⟨⟨hrange a ha, hrange b hb⟩, rfl⟩, fun a ha => (hneg a a).2 (Int.le_refl _), fun a ha b hb c hc h1 h2 => ?_, fun a ha b hb c hc h1 h2 => ?_, fun ys hp hpw => ?_⟩
    · rw [cmpI_neg] at h1 h2 ⊢; omega
    · rw [hneg] at h1 h2 ⊢; omega
    · have : ys = sortBy key xs := sortBy_unique hinj hp (hpw.imp fun {a b} h => (hneg b a).1 h)
      rw [this]; exact hK
  · exact hpre.elim
noncomputable def ad7Γ : List (FuncId × Con) := ad6Γ
theorem ad7Γ_ok : ∀ p ∈ ad7Γ, (∀ (args : Array Value) (w : World), (callFunc p.1 args).run Try.prog w = .ok (.enter p.1 args) w) ∧ PureOk Try.prog p.1 p.2 := by
  simp only [ad7Γ]
  exact ad6Γ_ok
noncomputable def ad7E : List (FuncId × ECon) := (33, conSortedF) :: ad6E
theorem ad7E_ok : ∀ p ∈ ad7E, (∀ (args : Array Value) (w : World), (callFunc p.1 args).run Try.prog w = .ok (.enter p.1 args) w) ∧ EffOk Try.prog p.1 p.2 := by
  simp only [ad7E, List.forall_mem_cons]
  exact ⟨⟨enters_of Try.func33 (by kernel_rfl) rfl, sortedF_ok⟩, ad6E_ok⟩
noncomputable def ad7 : G := { τ := adT, Γ := ad7Γ, E := ad7E }
theorem ad7_good : ad7.good Try.prog := good_of_all (adT_ok _ rfl) ad7Γ_ok ad7E_ok
theorem ad7_td (t : TypeId) : ad7.td t = (look adT t).getD .other := rfl
theorem ad7_y : ad7.y = false := rfl
theorem ad7_Γ : ad7.Γ = ad7Γ := rfl
theorem ad7_E : ad7.E = ad7E := rfl
noncomputable def ad7y : G := { τ := adT, Γ := ad7Γ, E := ad7E, y := true }
theorem ad7y_good : ad7y.good Try.prog := good_of_all (adT_ok _ rfl) ad7Γ_ok ad7E_ok
theorem ad7y_td (t : TypeId) : ad7y.td t = (look adT t).getD .other := rfl
theorem ad7y_y : ad7y.y = true := rfl
theorem ad7y_Γ : ad7y.Γ = ad7Γ := rfl
theorem ad7y_E : ad7y.E = ad7E := rfl

/-- advance.by, of the lines of a rank. -/
def conBy : Con := ⟨fun args => (match args with
  | [.s (.fnp f caps), .s (.sl (.int .i64) key _)] => ∃ xs : List Int, seqOf f caps xs ∧ xs.length ≤ 1000000000 ∧ (∀ x ∈ xs, 0 ≤ x ∧ x < key.length) ∧ (∀ a ∈ xs, ∀ b ∈ xs, keyAt key a = keyAt key b → a = b)
  | _ => False), fun args => match args with
  | [.s (.fnp _ [⟨.slice (.cons (.int .i64) (.cons (.int .i64) (.cons (.int .i64) .nil))), p⟩, ⟨.int .i64, r⟩]), .s (.sl (.int _) key _)] => .v (aS tI (sortBy key (atIdx p r)) false)
  | _ => .v (.s .any)⟩
theorem conBy_val (p : List Pl) (r : Int) (key : List Int) (ex : Bool) (f : FuncId) : conBy.val [.s (.fnp f [⟨.slice tPlace, p⟩, ⟨tI, r⟩]), .s (.sl tI key ex)] = .v (aS tI (sortBy key (atIdx p r)) false) := rfl
def conByAt : Con := ⟨fun args => (match args with
  | [.s (.fnp f [⟨.slice (.cons (.int .i64) (.cons (.int .i64) (.cons (.int .i64) .nil))), p⟩, ⟨.int .i64, r⟩]), .s (.sl (.int .i64) key _)] => f = 36 ∧ p.length ≤ 4096 ∧ p.length = key.length ∧ key.Nodup
  | _ => False), conBy.val⟩
theorem conByAt_pre (p : List Pl) (r : Int) (key : List Int) (ex : Bool) : conByAt.pre [.s (.fnp 36 [⟨.slice tPlace, p⟩, ⟨tI, r⟩]), .s (.sl tI key ex)] = (p.length ≤ 4096 ∧ p.length = key.length ∧ key.Nodup) := by
  apply propext
  constructor
  · intro h; exact h.2
  · intro h; exact ⟨rfl, h⟩
theorem conByAt_val (p : List Pl) (r : Int) (key : List Int) (ex : Bool) (f : FuncId) : conByAt.val [.s (.fnp f [⟨.slice tPlace, p⟩, ⟨tI, r⟩]), .s (.sl tI key ex)] = .v (aS tI (sortBy key (atIdx p r)) false) := rfl
theorem atIdx_mem {p : List Pl} {r x : Int} : x ∈ atIdx p r ↔ 0 ≤ x ∧ x < p.length ∧ pr p x.toNat = r := by
  simp only [atIdx, List.mem_map, List.mem_filter, List.mem_range, decide_eq_true_eq]
  constructor
  · rintro ⟨i, ⟨h1, h2⟩, rfl⟩
    exact ⟨by omega, by omega, by simpa using h2⟩
  · rintro ⟨h1, h2, h3⟩
    exact ⟨x.toNat, ⟨by omega, h3⟩, by omega⟩
theorem keyAt_inj {key : List Int} (h : key.Nodup) {a b : Int} (ha : 0 ≤ a) (ha' : a < key.length) (hb : 0 ≤ b) (hb' : b < key.length) (he : keyAt key a = keyAt key b) : a = b := by
  unfold keyAt at he
  rw [getD_lt (show a.toNat < key.length by omega), getD_lt (show b.toNat < key.length by omega)] at he
  have := (List.getElem_inj (h₀ := by omega) (h₁ := by omega) h).1 he
  omega
theorem by_ok : PureOk Try.prog 24 conByAt := by
  refine pureOkD (L := { live := [0, 1, 3, 4], eps := [(1, [3])], frz := [] }) ad7_good rfl ad_mixed Try.func24 rfl conByAt 2 (by decide) (by kernel_rfl) ?_
  intro args hpre hlens
  simp only [conByAt] at hpre
  split at hpre
  · rename_i f p r key ex
    obtain ⟨rfl, h1, h2, h3⟩ := hpre
    refine ⟨rfl, ?_⟩
    simp -dsimp -implicitDefEqProofs [Try.f24, conByAt_val, conSortedF, SV.sig, thenKD_normal, thenKD_exit, thenKD_goto, thenKD_ret, inBlockKD_normal, inBlockKD_exit, inBlockKD_goto, inBlockKD_ret, noGotoKD_normal, noGotoKD_exit, noGotoKD_goto, noGotoKD_ret, roundKD_normal, roundKD_exit, roundKD_goto, roundKD_ret, frzSlotsD_nil, frzSlotsD_cons, frzSlotD_eq, yieldVCD_trace, opVCD_eq, vcOpsD_nil, vcOpsD_cons, vcAllD_zero, vcAllD_succ, allAtD_nil, allAtD_cons, readyAux, edgA, vcD_skip, vcD_label, vcD_exit, vcD_goto, vcD_ret, vcD_region, vcD_seq, vcD_seqC, vcD_cond, vcCondD_bool, vcD_block, vcD_scope, vcD_loop, vcD_rangeFunc, yieldOf, isMem, isMem0, keepE, envLe, St.le, psE, yieldAV, round_td, round_y, round_Γ, vI, vB, vS, aI, aB, aS, look, getE, oper, opRV, putE, allOk, okOps, Op.operands, Call.operands, pEv, qEv, mEv, constRV, coe, RV.av, loadEv, loadCs, takeAt, indexAddrEv, fieldAddrEv, binEv, intEv, arith, unEv, gcond, pickEv, argsEv, callVal, callEv, capAV_mk, lenArgs, lenEv, minEv, extractEv, convEv, funcEv, allBox, bound, sliceEv, lookupEv, TD.isBool, allocEv, boxEv, storeEv, spl, plainTD, appendEv, appendArgs, makeMapEv, mapUpdateEv, buildEv, buildSliceEv, fillSV, zsvOf, sizeTD, Ty.parses, parses_flats', coeA, ← flats_append, flats_length, AV.good, AV.cells, AV.pure, SV.pure, av_int, av_bool, av_str, av_slice, av_cons, av_fld0, av_fld1, av_fld2, av_fld3, av_fld4, Ty.of, Ty.dflt, Ty.parse, Ty.flat, Ty.zsv, Ty.fld, Ty.get, Ty.off, Ty.nfld, Ty.size, coeTy, junk, Blk.look, argEnv, resEv, resOk, resVs, oneRV, retOk, frzAs, frzAV, frzL, frzSV, boxCaps, boxCap, SV.sig, sigs, RV.scalar, AV.scalar, SV.scalar, nope, effVCD_eq, effOf, SV.ids, AV.ids, dedup, SV.ren, AV.ren, RV.ren, idx, outId, mergeB, Blk.pureB, flats_pure, flat_pure, epsSlotsD_nil, epsSlotsD_cons, epsSlotD_eq, allEp, D.parts_fnOf, fvParts, retEff, round_E, av_fn, G.ye, isCutD_nil, isCutD_cons, firstReg_region, firstReg_seq, firstReg_skip, firstReg_ret, firstReg_label, firstReg_exit, firstReg_goto, firstReg_cond, firstReg_block, firstReg_scope, firstReg_loop, firstReg_rf, eptrOf_mk, flOfD_nil, flOfD_cons, vcFlD_cons, vcFlD_nil, flPairs_nil, flPairs_cons, ad7_td, ad7_y, ad7_Γ, ad7_E, adT, ad7Γ, ad7E, ad6Γ, ad6E, ad5Γ, ad5E, ad4Γ, ad4E, ad3Γ, ad3E, ad2Γ, ad2E, ad1Γ, ad1E, ad0Γ, ad0E, inI64]
    have hl : (sortBy key (atIdx p r)).length = (atIdx p r).length := by simp [sortBy]
    have hle := atTo_le p r p.length
    refine ⟨atIdx p r, seq_at p r, by rw [atIdx_len]; omega, fun x hx => ?_, fun a ha b hb he => ?_, ?_⟩
    · have := atIdx_mem.1 hx; omega
    · have q1 := atIdx_mem.1 ha
      have q2 := atIdx_mem.1 hb
      exact keyAt_inj h3 (by omega) (by omega) (by omega) (by omega) he
    · have hpf : tI.parses (atIdx p r).length (tI.flats (sortBy key (atIdx p r))) = some (sortBy key (atIdx p r)) := parses_flats' (t := tI) hl
      simp [hl, hpf]
  · exact hpre.elim
end Go.Am
