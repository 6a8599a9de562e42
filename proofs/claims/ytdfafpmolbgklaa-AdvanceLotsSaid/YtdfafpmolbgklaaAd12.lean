/- The program of chapter 24: what is right; the first law. -/
import Derived.Test.YtdfafpmolbgklaaAd11
namespace Go.Am
set_option linter.unusedVariables false
set_option linter.unusedSimpArgs false
set_option maxHeartbeats 4000000
set_option maxRecDepth 20000
open Go.RowKit Go.Proofs

noncomputable def conRight : Con := ⟨fun args => (match args with
  | [.s (.sl (.cons (.int .i64) (.cons (.int .i64) (.cons (.int .i64) .nil))) _ _), .s (.int .i64 _), .s (.sl (.int .i64) _ _)] => True
  | _ => False), fun args => match args with
  | [.s (.sl (.cons (.int .i64) (.cons (.int .i64) (.cons (.int .i64) .nil))) p _), .s (.int _ q), .s (.sl (.int _) lots _)] => .v (aB (decide (p.length ≤ 30) && decide (lots.length ≤ 40) && decide (nextErr p q 1 lots = 0)))
  | _ => .v (.s .any)⟩
theorem conRight_pre (p : List Pl) (ex : Bool) (q : Int) (lots : List Int) (ex' : Bool) : conRight.pre [.s (.sl tPlace p ex), .s (.int .i64 q), .s (.sl tI lots ex')] = True := rfl
theorem conRight_val (p : List Pl) (ex : Bool) (q : Int) (lots : List Int) (ex' : Bool) : conRight.val [.s (.sl tPlace p ex), .s (.int .i64 q), .s (.sl tI lots ex')] = .v (aB (decide (p.length ≤ 30) && decide (lots.length ≤ 40) && decide (nextErr p q 1 lots = 0))) := rfl
theorem right_ok : PureOk Try.prog 13 conRight := by
  refine pureOkD (L := { live := [0, 1, 2, 6, 8, 17] }) ad11_good rfl ad_mixed Try.func13 rfl conRight 3 (by decide) (by kernel_rfl) ?_
  intro args hpre hlens
  simp only [conRight] at hpre
  split at hpre
  · rename_i p ex q lots ex'
    refine ⟨rfl, ?_⟩
    have hc : nextErr p q 1 lots = 0 → check p = 0 := fun h => by
      obtain ⟨h1, h2, _⟩ := ok_of_err h
      exact check_ok h1 h2
    simp -dsimp -implicitDefEqProofs [Try.f13, conRight_val, conFew_pre, conFew_val, conCheck_pre, conCheck_val, conNext_pre, conNext_val, thenKD_normal, thenKD_exit, thenKD_goto, thenKD_ret, inBlockKD_normal, inBlockKD_exit, inBlockKD_goto, inBlockKD_ret, noGotoKD_normal, noGotoKD_exit, noGotoKD_goto, noGotoKD_ret, roundKD_normal, roundKD_exit, roundKD_goto, roundKD_ret, frzSlotsD_nil, frzSlotsD_cons, frzSlotD_eq, yieldVCD_trace, opVCD_eq, vcOpsD_nil, vcOpsD_cons, vcAllD_zero, vcAllD_succ, allAtD_nil, allAtD_cons, readyAux, edgA, vcD_skip, vcD_label, vcD_exit, vcD_goto, vcD_ret, vcD_region, vcD_seq, vcD_seqC, vcD_cond, vcCondD_bool, vcD_block, vcD_scope, vcD_loop, vcD_rangeFunc, yieldOf, isMem, isMem0, keepE, envLe, St.le, psE, yieldAV, round_td, round_y, round_Γ, vI, vB, vS, aI, aB, aS, look, getE, oper, opRV, putE, allOk, okOps, Op.operands, Call.operands, pEv, qEv, mEv, constRV, coe, RV.av, loadEv, loadCs, takeAt, indexAddrEv, fieldAddrEv, binEv, intEv, arith, unEv, gcond, pickEv, argsEv, callVal, callEv, capAV_mk, lenArgs, lenEv, minEv, extractEv, convEv, funcEv, allBox, bound, sliceEv, lookupEv, TD.isBool, allocEv, boxEv, storeEv, spl, plainTD, appendEv, appendArgs, makeMapEv, mapUpdateEv, buildEv, buildSliceEv, fillSV, zsvOf, sizeTD, Ty.parses, parses_flats', coeA, ← flats_append, flats_length, AV.good, AV.cells, AV.pure, SV.pure, av_int, av_bool, av_str, av_slice, av_cons, av_fld0, av_fld1, av_fld2, av_fld3, av_fld4, Ty.of, Ty.dflt, Ty.parse, Ty.flat, Ty.zsv, Ty.fld, Ty.get, Ty.off, Ty.nfld, Ty.size, coeTy, junk, Blk.look, argEnv, resEv, resOk, resVs, oneRV, retOk, frzAs, frzAV, frzL, frzSV, boxCaps, boxCap, SV.sig, sigs, RV.scalar, AV.scalar, SV.scalar, nope, effVCD_eq, effOf, SV.ids, AV.ids, dedup, SV.ren, AV.ren, RV.ren, idx, outId, mergeB, Blk.pureB, flats_pure, flat_pure, epsSlotsD_nil, epsSlotsD_cons, epsSlotD_eq, allEp, D.parts_fnOf, fvParts, retEff, round_E, av_fn, G.ye, isCutD_nil, isCutD_cons, firstReg_region, firstReg_seq, firstReg_skip, firstReg_ret, firstReg_label, firstReg_exit, firstReg_goto, firstReg_cond, firstReg_block, firstReg_scope, firstReg_loop, firstReg_rf, eptrOf_mk, flOfD_nil, flOfD_cons, vcFlD_cons, vcFlD_nil, flPairs_nil, flPairs_cons, ad11_td, ad11_y, ad11_Γ, ad11_E, adT, ad11Γ, ad11E, ad10Γ, ad10E, ad9Γ, ad9E, ad8Γ, ad8E, ad7Γ, ad7E, ad6Γ, ad6E, ad5Γ, ad5E, ad4Γ, ad4E, ad3Γ, ad3E, ad2Γ, ad2E, ad1Γ, ad1E, ad0Γ, ad0E, inI64]
    refine ⟨fun h h1 h2 h3 => ?_, fun h1 h2 _ => by by_cases h : nextErr p q 1 lots = 0 <;> simp [h, h1, h2]⟩
    rcases h with (h | h) | h
    · omega
    · omega
    · exact h (hc h3)
  · exact hpre.elim
noncomputable def ad12Γ : List (FuncId × Con) := (8, conSane) :: (13, conRight) :: ad11Γ
theorem ad12Γ_ok : ∀ p ∈ ad12Γ, (∀ (args : Array Value) (w : World), (callFunc p.1 args).run Try.prog w = .ok (.enter p.1 args) w) ∧ PureOk Try.prog p.1 p.2 := by
  simp only [ad12Γ, List.forall_mem_cons]
  exact ⟨⟨enters_of Try.func8 (by kernel_rfl) rfl, sane_ok⟩, ⟨enters_of Try.func13 (by kernel_rfl) rfl, right_ok⟩, ad11Γ_ok⟩
noncomputable def ad12E : List (FuncId × ECon) := ad11E
theorem ad12E_ok : ∀ p ∈ ad12E, (∀ (args : Array Value) (w : World), (callFunc p.1 args).run Try.prog w = .ok (.enter p.1 args) w) ∧ EffOk Try.prog p.1 p.2 := by
  simp only [ad12E]
  exact ad11E_ok
noncomputable def ad12 : G := { τ := adT, Γ := ad12Γ, E := ad12E }
theorem ad12_good : ad12.good Try.prog := good_of_all (adT_ok _ rfl) ad12Γ_ok ad12E_ok
theorem ad12_td (t : TypeId) : ad12.td t = (look adT t).getD .other := rfl
theorem ad12_y : ad12.y = false := rfl
theorem ad12_Γ : ad12.Γ = ad12Γ := rfl
theorem ad12_E : ad12.E = ad12E := rfl
noncomputable def ad12y : G := { τ := adT, Γ := ad12Γ, E := ad12E, y := true }
theorem ad12y_good : ad12y.good Try.prog := good_of_all (adT_ok _ rfl) ad12Γ_ok ad12E_ok
theorem ad12y_td (t : TypeId) : ad12y.td t = (look adT t).getD .other := rfl
theorem ad12y_y : ad12y.y = true := rfl
theorem ad12y_Γ : ad12y.Γ = ad12Γ := rfl
theorem ad12y_E : ad12y.E = ad12E := rfl

def conSpec : Con := { pre := fun args => ∃ (p : List Pl) (q cut : Int) (lots : List Int), args = [aS tPlace p false, aI q, aI cut, aS tI lots false], val := fun _ => .v (aB true) }
theorem spec_ok : PureOk Try.prog 3 conSpec := by
  refine pureOkD (L := { live := [0, 1, 2, 3, 8, 9, 10, 11, 12, 14, 18] }) ad12_good rfl ad_mixed Try.func3 rfl conSpec 4 (by decide) (by kernel_rfl) ?_
  rintro _ ⟨p, q, cut, lots, rfl⟩ _
  refine ⟨rfl, ?_⟩
  simp -dsimp -implicitDefEqProofs [Try.f3, conSpec, conSane, conFew_pre, conFew_val, conNext_pre, conNext_val, conSame_pre, conSame_val, thenKD_normal, thenKD_exit, thenKD_goto, thenKD_ret, inBlockKD_normal, inBlockKD_exit, inBlockKD_goto, inBlockKD_ret, noGotoKD_normal, noGotoKD_exit, noGotoKD_goto, noGotoKD_ret, roundKD_normal, roundKD_exit, roundKD_goto, roundKD_ret, frzSlotsD_nil, frzSlotsD_cons, frzSlotD_eq, yieldVCD_trace, opVCD_eq, vcOpsD_nil, vcOpsD_cons, vcAllD_zero, vcAllD_succ, allAtD_nil, allAtD_cons, readyAux, edgA, vcD_skip, vcD_label, vcD_exit, vcD_goto, vcD_ret, vcD_region, vcD_seq, vcD_seqC, vcD_cond, vcCondD_bool, vcD_block, vcD_scope, vcD_loop, vcD_rangeFunc, yieldOf, isMem, isMem0, keepE, envLe, St.le, psE, yieldAV, round_td, round_y, round_Γ, vI, vB, vS, aI, aB, aS, look, getE, oper, opRV, putE, allOk, okOps, Op.operands, Call.operands, pEv, qEv, mEv, constRV, coe, RV.av, loadEv, loadCs, takeAt, indexAddrEv, fieldAddrEv, binEv, intEv, arith, unEv, gcond, pickEv, argsEv, callVal, callEv, capAV_mk, lenArgs, lenEv, minEv, extractEv, convEv, funcEv, allBox, bound, sliceEv, lookupEv, TD.isBool, allocEv, boxEv, storeEv, spl, plainTD, appendEv, appendArgs, makeMapEv, mapUpdateEv, buildEv, buildSliceEv, fillSV, zsvOf, sizeTD, Ty.parses, parses_flats', coeA, ← flats_append, flats_length, AV.good, AV.cells, AV.pure, SV.pure, av_int, av_bool, av_str, av_slice, av_cons, av_fld0, av_fld1, av_fld2, av_fld3, av_fld4, Ty.of, Ty.dflt, Ty.parse, Ty.flat, Ty.zsv, Ty.fld, Ty.get, Ty.off, Ty.nfld, Ty.size, coeTy, junk, Blk.look, argEnv, resEv, resOk, resVs, oneRV, retOk, frzAs, frzAV, frzL, frzSV, boxCaps, boxCap, SV.sig, sigs, RV.scalar, AV.scalar, SV.scalar, nope, effVCD_eq, effOf, SV.ids, AV.ids, dedup, SV.ren, AV.ren, RV.ren, idx, outId, mergeB, Blk.pureB, flats_pure, flat_pure, epsSlotsD_nil, epsSlotsD_cons, epsSlotD_eq, allEp, D.parts_fnOf, fvParts, retEff, round_E, av_fn, G.ye, isCutD_nil, isCutD_cons, firstReg_region, firstReg_seq, firstReg_skip, firstReg_ret, firstReg_label, firstReg_exit, firstReg_goto, firstReg_cond, firstReg_block, firstReg_scope, firstReg_loop, firstReg_rf, eptrOf_mk, flOfD_nil, flOfD_cons, vcFlD_cons, vcFlD_nil, flPairs_nil, flPairs_cons, ad12_td, ad12_y, ad12_Γ, ad12_E, adT, ad12Γ, ad12E, ad11Γ, ad11E, ad10Γ, ad10E, ad9Γ, ad9E, ad8Γ, ad8E, ad7Γ, ad7E, ad6Γ, ad6E, ad5Γ, ad5E, ad4Γ, ad4E, ad3Γ, ad3E, ad2Γ, ad2E, ad1Γ, ad1E, ad0Γ, ad0E, inI64]
end Go.Am
