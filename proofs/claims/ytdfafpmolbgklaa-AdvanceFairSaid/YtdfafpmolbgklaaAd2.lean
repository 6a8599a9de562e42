/- The program of chapter 24: the two checks of places. -/
import Derived.Test.YtdfafpmolbgklaaAd1
namespace Go.Am
set_option linter.unusedVariables false
set_option linter.unusedSimpArgs false
set_option maxHeartbeats 4000000
set_option maxRecDepth 20000
open Go.RowKit Go.Proofs

def pe (p : List Pl) (i : Nat) : Int := (p[i]?.getD (0, 0, 0, ())).1
def pr (p : List Pl) (i : Nat) : Int := (p[i]?.getD (0, 0, 0, ())).2.1
def pb (p : List Pl) (i : Nat) : Int := (p[i]?.getD (0, 0, 0, ())).2.2.1
theorem pe_fold (p : List Pl) (i : Nat) : (p[i]?.getD (0, 0, 0, ())).1 = pe p i := rfl
theorem pr_fold (p : List Pl) (i : Nat) : (p[i]?.getD (0, 0, 0, ())).2.1 = pr p i := rfl
theorem pb_fold (p : List Pl) (i : Nat) : (p[i]?.getD (0, 0, 0, ())).2.2.1 = pb p i := rfl
def sameR (p : List Pl) (i : Nat) : Prop := 0 < i ∧ pr p i = pr p (i - 1)
structure OkAt (p : List Pl) (i : Nat) : Prop where
  ent : 0 ≤ pe p i
  new : ∀ k, k < i → pe p k ≠ pe p i
  asc : sameR p i → pe p (i - 1) < pe p i
  rank : ¬ sameR p i → pr p i = i + 1
  by1 : (i = 0 ∨ sameR p i) → pb p i = -1
  by2 : pb p i = -1 → (i = 0 ∨ sameR p i)
  by3 : -1 ≤ pb p i
def OkAll (p : List Pl) : Prop := ∀ i, i < p.length → OkAt p i
noncomputable def check (p : List Pl) : Int := if 4096 < p.length then 2 else @ite _ (OkAll p) (Classical.propDecidable _) 0 230
theorem check_ok {p : List Pl} (h : p.length ≤ 4096) (k : OkAll p) : check p = 0 := by
  unfold check; rw [if_neg (by omega), if_pos k]
theorem check_no {p : List Pl} (h : p.length ≤ 4096) {i : Nat} (hi : i < p.length) (k : ¬ OkAt p i) : check p = 230 := by
  unfold check; rw [if_neg (by omega), if_neg (fun h => k (h i hi))]
noncomputable def conCheck : Con := { pre := fun args => ∃ (p : List Pl) (ex : Bool), args = [aS tPlace p ex], val := fun args => match args with
  | [.s (.sl (.cons (.int .i64) (.cons (.int .i64) (.cons (.int .i64) .nil))) p _)] => .v (aI (check p))
  | _ => .v (.s .any) }

theorem rcheck_ok : PureOk Try.prog 27 conCheck := by
  refine pureOkD (L := { live := [0, 2, 3, 4, 5, 8, 12, 20, 23, 36, 81, 101], frz := [] }) ad0_good rfl ad_mixed Try.func27 rfl conCheck 1 (by decide) (by kernel_rfl) ?_
  rintro _ ⟨p, ex, rfl⟩ ⟨⟨hlen, _⟩, _⟩
  refine ⟨rfl, ?_⟩
  simp only [maxLen] at hlen
  simp -dsimp -implicitDefEqProofs [Try.f27, conCheck, pe_fold, pr_fold, pb_fold, thenKD_normal, thenKD_exit, thenKD_goto, thenKD_ret, inBlockKD_normal, inBlockKD_exit, inBlockKD_goto, inBlockKD_ret, noGotoKD_normal, noGotoKD_exit, noGotoKD_goto, noGotoKD_ret, roundKD_normal, roundKD_exit, roundKD_goto, roundKD_ret, frzSlotsD_nil, frzSlotsD_cons, frzSlotD_eq, yieldVCD_trace, opVCD_eq, vcOpsD_nil, vcOpsD_cons, vcAllD_zero, vcAllD_succ, allAtD_nil, allAtD_cons, readyAux, edgA, vcD_skip, vcD_label, vcD_exit, vcD_goto, vcD_ret, vcD_region, vcD_seq, vcD_seqC, vcD_cond, vcCondD_bool, vcD_block, vcD_scope, vcD_loop, vcD_rangeFunc, yieldOf, isMem, isMem0, keepE, envLe, St.le, psE, yieldAV, round_td, round_y, round_Γ, vI, vB, vS, aI, aB, aS, look, getE, oper, opRV, putE, allOk, okOps, Op.operands, Call.operands, pEv, qEv, mEv, constRV, coe, RV.av, loadEv, loadCs, takeAt, indexAddrEv, fieldAddrEv, binEv, intEv, arith, unEv, gcond, pickEv, argsEv, callVal, callEv, capAV_mk, lenArgs, lenEv, minEv, extractEv, convEv, funcEv, allBox, bound, sliceEv, lookupEv, TD.isBool, allocEv, boxEv, storeEv, spl, plainTD, appendEv, appendArgs, makeMapEv, mapUpdateEv, buildEv, buildSliceEv, fillSV, zsvOf, sizeTD, Ty.parses, parses_flats', coeA, ← flats_append, flats_length, AV.good, AV.cells, AV.pure, SV.pure, av_int, av_bool, av_str, av_slice, av_cons, av_fld0, av_fld1, av_fld2, av_fld3, av_fld4, Ty.of, Ty.dflt, Ty.parse, Ty.flat, Ty.zsv, Ty.fld, Ty.get, Ty.off, Ty.nfld, Ty.size, coeTy, junk, Blk.look, argEnv, resEv, resOk, resVs, oneRV, retOk, frzAs, frzAV, frzL, frzSV, boxCaps, boxCap, SV.sig, sigs, RV.scalar, AV.scalar, SV.scalar, nope, effVCD_eq, effOf, SV.ids, AV.ids, dedup, SV.ren, AV.ren, RV.ren, idx, outId, mergeB, Blk.pureB, flats_pure, flat_pure, epsSlotsD_nil, epsSlotsD_cons, epsSlotD_eq, allEp, D.parts_fnOf, fvParts, retEff, round_E, av_fn, G.ye, isCutD_nil, isCutD_cons, firstReg_region, firstReg_seq, firstReg_skip, firstReg_ret, firstReg_label, firstReg_exit, firstReg_goto, firstReg_cond, firstReg_block, firstReg_scope, firstReg_loop, firstReg_rf, eptrOf_mk, flOfD_nil, flOfD_cons, vcFlD_cons, vcFlD_nil, flPairs_nil, flPairs_cons, ad0_td, ad0_y, ad0_Γ, ad0_E, adT, ad0Γ, ad0E, inI64]
  refine ⟨fun h => ?_, fun h => ?_⟩
  · unfold check; rw [if_pos (by omega)]
  have h4 : p.length ≤ 4096 := by omega
  refine WpD.loop (L := { live := [0, 2, 3, 4, 5, 8, 12, 20, 23, 36, 81, 101], frz := [] }) ad0_good X0_ok ad_mixed (by kernel_rfl) (ι := Nat)
    (fun i => ⟨[(0, vS tPlace p ex), (2, vI 0), (3, vI i)], []⟩)
    (fun i => i ≤ p.length ∧ ∀ j, j < i → OkAt p j) (fun i => p.length - i) 0 (by simp) (Turn.le (by simp -dsimp -implicitDefEqProofs [thenKD_normal, thenKD_exit, thenKD_goto, thenKD_ret, inBlockKD_normal, inBlockKD_exit, inBlockKD_goto, inBlockKD_ret, noGotoKD_normal, noGotoKD_exit, noGotoKD_goto, noGotoKD_ret, roundKD_normal, roundKD_exit, roundKD_goto, roundKD_ret, frzSlotsD_nil, frzSlotsD_cons, frzSlotD_eq, yieldVCD_trace, opVCD_eq, vcOpsD_nil, vcOpsD_cons, vcAllD_zero, vcAllD_succ, allAtD_nil, allAtD_cons, readyAux, edgA, vcD_skip, vcD_label, vcD_exit, vcD_goto, vcD_ret, vcD_region, vcD_seq, vcD_seqC, vcD_cond, vcCondD_bool, vcD_block, vcD_scope, vcD_loop, vcD_rangeFunc, yieldOf, isMem, isMem0, keepE, envLe, St.le, psE, yieldAV, round_td, round_y, round_Γ, vI, vB, vS, aI, aB, aS, look, getE, oper, opRV, putE, allOk, okOps, Op.operands, Call.operands, pEv, qEv, mEv, constRV, coe, RV.av, loadEv, loadCs, takeAt, indexAddrEv, fieldAddrEv, binEv, intEv, arith, unEv, gcond, pickEv, argsEv, callVal, callEv, capAV_mk, lenArgs, lenEv, minEv, extractEv, convEv, funcEv, allBox, bound, sliceEv, lookupEv, TD.isBool, allocEv, boxEv, storeEv, spl, plainTD, appendEv, appendArgs, makeMapEv, mapUpdateEv, buildEv, buildSliceEv, fillSV, zsvOf, sizeTD, Ty.parses, parses_flats', coeA, ← flats_append, flats_length, AV.good, AV.cells, AV.pure, SV.pure, av_int, av_bool, av_str, av_slice, av_cons, av_fld0, av_fld1, av_fld2, av_fld3, av_fld4, Ty.of, Ty.dflt, Ty.parse, Ty.flat, Ty.zsv, Ty.fld, Ty.get, Ty.off, Ty.nfld, Ty.size, coeTy, junk, Blk.look, argEnv, resEv, resOk, resVs, oneRV, retOk, frzAs, frzAV, frzL, frzSV, boxCaps, boxCap, SV.sig, sigs, RV.scalar, AV.scalar, SV.scalar, nope, effVCD_eq, effOf, SV.ids, AV.ids, dedup, SV.ren, AV.ren, RV.ren, idx, outId, mergeB, Blk.pureB, flats_pure, flat_pure, epsSlotsD_nil, epsSlotsD_cons, epsSlotD_eq, allEp, D.parts_fnOf, fvParts, retEff, round_E, av_fn, G.ye, isCutD_nil, isCutD_cons, firstReg_region, firstReg_seq, firstReg_skip, firstReg_ret, firstReg_label, firstReg_exit, firstReg_goto, firstReg_cond, firstReg_block, firstReg_scope, firstReg_loop, firstReg_rf, eptrOf_mk, flOfD_nil, flOfD_cons, vcFlD_cons, vcFlD_nil, flPairs_nil, flPairs_cons])) ?_
  rintro i ⟨hi, hok⟩
  simp -dsimp -implicitDefEqProofs [conCheck, pe_fold, pr_fold, pb_fold, thenKD_normal, thenKD_exit, thenKD_goto, thenKD_ret, inBlockKD_normal, inBlockKD_exit, inBlockKD_goto, inBlockKD_ret, noGotoKD_normal, noGotoKD_exit, noGotoKD_goto, noGotoKD_ret, roundKD_normal, roundKD_exit, roundKD_goto, roundKD_ret, frzSlotsD_nil, frzSlotsD_cons, frzSlotD_eq, yieldVCD_trace, opVCD_eq, vcOpsD_nil, vcOpsD_cons, vcAllD_zero, vcAllD_succ, allAtD_nil, allAtD_cons, readyAux, edgA, vcD_skip, vcD_label, vcD_exit, vcD_goto, vcD_ret, vcD_region, vcD_seq, vcD_seqC, vcD_cond, vcCondD_bool, vcD_block, vcD_scope, vcD_loop, vcD_rangeFunc, yieldOf, isMem, isMem0, keepE, envLe, St.le, psE, yieldAV, round_td, round_y, round_Γ, vI, vB, vS, aI, aB, aS, look, getE, oper, opRV, putE, allOk, okOps, Op.operands, Call.operands, pEv, qEv, mEv, constRV, coe, RV.av, loadEv, loadCs, takeAt, indexAddrEv, fieldAddrEv, binEv, intEv, arith, unEv, gcond, pickEv, argsEv, callVal, callEv, capAV_mk, lenArgs, lenEv, minEv, extractEv, convEv, funcEv, allBox, bound, sliceEv, lookupEv, TD.isBool, allocEv, boxEv, storeEv, spl, plainTD, appendEv, appendArgs, makeMapEv, mapUpdateEv, buildEv, buildSliceEv, fillSV, zsvOf, sizeTD, Ty.parses, parses_flats', coeA, ← flats_append, flats_length, AV.good, AV.cells, AV.pure, SV.pure, av_int, av_bool, av_str, av_slice, av_cons, av_fld0, av_fld1, av_fld2, av_fld3, av_fld4, Ty.of, Ty.dflt, Ty.parse, Ty.flat, Ty.zsv, Ty.fld, Ty.get, Ty.off, Ty.nfld, Ty.size, coeTy, junk, Blk.look, argEnv, resEv, resOk, resVs, oneRV, retOk, frzAs, frzAV, frzL, frzSV, boxCaps, boxCap, SV.sig, sigs, RV.scalar, AV.scalar, SV.scalar, nope, effVCD_eq, effOf, SV.ids, AV.ids, dedup, SV.ren, AV.ren, RV.ren, idx, outId, mergeB, Blk.pureB, flats_pure, flat_pure, epsSlotsD_nil, epsSlotsD_cons, epsSlotD_eq, allEp, D.parts_fnOf, fvParts, retEff, round_E, av_fn, G.ye, isCutD_nil, isCutD_cons, firstReg_region, firstReg_seq, firstReg_skip, firstReg_ret, firstReg_label, firstReg_exit, firstReg_goto, firstReg_cond, firstReg_block, firstReg_scope, firstReg_loop, firstReg_rf, eptrOf_mk, flOfD_nil, flOfD_cons, vcFlD_cons, vcFlD_nil, flPairs_nil, flPairs_cons, ad0_td, ad0_y, ad0_Γ, ad0_E, adT, ad0Γ, ad0E, inI64]
  refine ⟨fun hlt => ?_, fun hge => ?_⟩
  · refine ⟨hlt, fun h0 => (check_no h4 hlt fun k => by have := k.ent; rw [pe_fold] at h0; omega).symm, fun h0 => ?_⟩
    refine WpD.loop (L := { live := [0, 2, 3, 4, 5, 8, 12, 20, 23, 36, 81, 101], frz := [] }) ad0_good X0_ok ad_mixed (by kernel_rfl) (ι := Nat)
      (fun k => ⟨[(0, vS tPlace p ex), (2, vI 0), (3, vI i), (4, vI k)], []⟩)
      (fun k => k ≤ i ∧ ∀ j, j < k → pe p j ≠ pe p i) (fun k => i - k) 0 (by simp) (Turn.le (by simp -dsimp -implicitDefEqProofs [thenKD_normal, thenKD_exit, thenKD_goto, thenKD_ret, inBlockKD_normal, inBlockKD_exit, inBlockKD_goto, inBlockKD_ret, noGotoKD_normal, noGotoKD_exit, noGotoKD_goto, noGotoKD_ret, roundKD_normal, roundKD_exit, roundKD_goto, roundKD_ret, frzSlotsD_nil, frzSlotsD_cons, frzSlotD_eq, yieldVCD_trace, opVCD_eq, vcOpsD_nil, vcOpsD_cons, vcAllD_zero, vcAllD_succ, allAtD_nil, allAtD_cons, readyAux, edgA, vcD_skip, vcD_label, vcD_exit, vcD_goto, vcD_ret, vcD_region, vcD_seq, vcD_seqC, vcD_cond, vcCondD_bool, vcD_block, vcD_scope, vcD_loop, vcD_rangeFunc, yieldOf, isMem, isMem0, keepE, envLe, St.le, psE, yieldAV, round_td, round_y, round_Γ, vI, vB, vS, aI, aB, aS, look, getE, oper, opRV, putE, allOk, okOps, Op.operands, Call.operands, pEv, qEv, mEv, constRV, coe, RV.av, loadEv, loadCs, takeAt, indexAddrEv, fieldAddrEv, binEv, intEv, arith, unEv, gcond, pickEv, argsEv, callVal, callEv, capAV_mk, lenArgs, lenEv, minEv, extractEv, convEv, funcEv, allBox, bound, sliceEv, lookupEv, TD.isBool, allocEv, boxEv, storeEv, spl, plainTD, appendEv, appendArgs, makeMapEv, mapUpdateEv, buildEv, buildSliceEv, fillSV, zsvOf, sizeTD, Ty.parses, parses_flats', coeA, ← flats_append, flats_length, AV.good, AV.cells, AV.pure, SV.pure, av_int, av_bool, av_str, av_slice, av_cons, av_fld0, av_fld1, av_fld2, av_fld3, av_fld4, Ty.of, Ty.dflt, Ty.parse, Ty.flat, Ty.zsv, Ty.fld, Ty.get, Ty.off, Ty.nfld, Ty.size, coeTy, junk, Blk.look, argEnv, resEv, resOk, resVs, oneRV, retOk, frzAs, frzAV, frzL, frzSV, boxCaps, boxCap, SV.sig, sigs, RV.scalar, AV.scalar, SV.scalar, nope, effVCD_eq, effOf, SV.ids, AV.ids, dedup, SV.ren, AV.ren, RV.ren, idx, outId, mergeB, Blk.pureB, flats_pure, flat_pure, epsSlotsD_nil, epsSlotsD_cons, epsSlotD_eq, allEp, D.parts_fnOf, fvParts, retEff, round_E, av_fn, G.ye, isCutD_nil, isCutD_cons, firstReg_region, firstReg_seq, firstReg_skip, firstReg_ret, firstReg_label, firstReg_exit, firstReg_goto, firstReg_cond, firstReg_block, firstReg_scope, firstReg_loop, firstReg_rf, eptrOf_mk, flOfD_nil, flOfD_cons, vcFlD_cons, vcFlD_nil, flPairs_nil, flPairs_cons])) ?_
    rintro k ⟨hk, hne⟩
    simp -dsimp -implicitDefEqProofs [conCheck, pe_fold, pr_fold, pb_fold, thenKD_normal, thenKD_exit, thenKD_goto, thenKD_ret, inBlockKD_normal, inBlockKD_exit, inBlockKD_goto, inBlockKD_ret, noGotoKD_normal, noGotoKD_exit, noGotoKD_goto, noGotoKD_ret, roundKD_normal, roundKD_exit, roundKD_goto, roundKD_ret, frzSlotsD_nil, frzSlotsD_cons, frzSlotD_eq, yieldVCD_trace, opVCD_eq, vcOpsD_nil, vcOpsD_cons, vcAllD_zero, vcAllD_succ, allAtD_nil, allAtD_cons, readyAux, edgA, vcD_skip, vcD_label, vcD_exit, vcD_goto, vcD_ret, vcD_region, vcD_seq, vcD_seqC, vcD_cond, vcCondD_bool, vcD_block, vcD_scope, vcD_loop, vcD_rangeFunc, yieldOf, isMem, isMem0, keepE, envLe, St.le, psE, yieldAV, round_td, round_y, round_Γ, vI, vB, vS, aI, aB, aS, look, getE, oper, opRV, putE, allOk, okOps, Op.operands, Call.operands, pEv, qEv, mEv, constRV, coe, RV.av, loadEv, loadCs, takeAt, indexAddrEv, fieldAddrEv, binEv, intEv, arith, unEv, gcond, pickEv, argsEv, callVal, callEv, capAV_mk, lenArgs, lenEv, minEv, extractEv, convEv, funcEv, allBox, bound, sliceEv, lookupEv, TD.isBool, allocEv, boxEv, storeEv, spl, plainTD, appendEv, appendArgs, makeMapEv, mapUpdateEv, buildEv, buildSliceEv, fillSV, zsvOf, sizeTD, Ty.parses, parses_flats', coeA, ← flats_append, flats_length, AV.good, AV.cells, AV.pure, SV.pure, av_int, av_bool, av_str, av_slice, av_cons, av_fld0, av_fld1, av_fld2, av_fld3, av_fld4, Ty.of, Ty.dflt, Ty.parse, Ty.flat, Ty.zsv, Ty.fld, Ty.get, Ty.off, Ty.nfld, Ty.size, coeTy, junk, Blk.look, argEnv, resEv, resOk, resVs, oneRV, retOk, frzAs, frzAV, frzL, frzSV, boxCaps, boxCap, SV.sig, sigs, RV.scalar, AV.scalar, SV.scalar, nope, effVCD_eq, effOf, SV.ids, AV.ids, dedup, SV.ren, AV.ren, RV.ren, idx, outId, mergeB, Blk.pureB, flats_pure, flat_pure, epsSlotsD_nil, epsSlotsD_cons, epsSlotD_eq, allEp, D.parts_fnOf, fvParts, retEff, round_E, av_fn, G.ye, isCutD_nil, isCutD_cons, firstReg_region, firstReg_seq, firstReg_skip, firstReg_ret, firstReg_label, firstReg_exit, firstReg_goto, firstReg_cond, firstReg_block, firstReg_scope, firstReg_loop, firstReg_rf, eptrOf_mk, flOfD_nil, flOfD_cons, vcFlD_cons, vcFlD_nil, flPairs_nil, flPairs_cons, ad0_td, ad0_y, ad0_Γ, ad0_E, adT, ad0Γ, ad0E, inI64]
    refine ⟨fun hki => ⟨by omega, hlt, fun he => (check_no h4 hlt fun q => q.new k hki he).symm, fun he => ⟨by omega, k + 1, ⟨by omega, fun j hj => ?_⟩, by omega, TurnT.le (by simp -dsimp -implicitDefEqProofs [thenKD_normal, thenKD_exit, thenKD_goto, thenKD_ret, inBlockKD_normal, inBlockKD_exit, inBlockKD_goto, inBlockKD_ret, noGotoKD_normal, noGotoKD_exit, noGotoKD_goto, noGotoKD_ret, roundKD_normal, roundKD_exit, roundKD_goto, roundKD_ret, frzSlotsD_nil, frzSlotsD_cons, frzSlotD_eq, yieldVCD_trace, opVCD_eq, vcOpsD_nil, vcOpsD_cons, vcAllD_zero, vcAllD_succ, allAtD_nil, allAtD_cons, readyAux, edgA, vcD_skip, vcD_label, vcD_exit, vcD_goto, vcD_ret, vcD_region, vcD_seq, vcD_seqC, vcD_cond, vcCondD_bool, vcD_block, vcD_scope, vcD_loop, vcD_rangeFunc, yieldOf, isMem, isMem0, keepE, envLe, St.le, psE, yieldAV, round_td, round_y, round_Γ, vI, vB, vS, aI, aB, aS, look, getE, oper, opRV, putE, allOk, okOps, Op.operands, Call.operands, pEv, qEv, mEv, constRV, coe, RV.av, loadEv, loadCs, takeAt, indexAddrEv, fieldAddrEv, binEv, intEv, arith, unEv, gcond, pickEv, argsEv, callVal, callEv, capAV_mk, lenArgs, lenEv, minEv, extractEv, convEv, funcEv, allBox, bound, sliceEv, lookupEv, TD.isBool, allocEv, boxEv, storeEv, spl, plainTD, appendEv, appendArgs, makeMapEv, mapUpdateEv, buildEv, buildSliceEv, fillSV, zsvOf, sizeTD, Ty.parses, parses_flats', coeA, ← flats_append, flats_length, AV.good, AV.cells, AV.pure, SV.pure, av_int, av_bool, av_str, av_slice, av_cons, av_fld0, av_fld1, av_fld2, av_fld3, av_fld4, Ty.of, Ty.dflt, Ty.parse, Ty.flat, Ty.zsv, Ty.fld, Ty.get, Ty.off, Ty.nfld, Ty.size, coeTy, junk, Blk.look, argEnv, resEv, resOk, resVs, oneRV, retOk, frzAs, frzAV, frzL, frzSV, boxCaps, boxCap, SV.sig, sigs, RV.scalar, AV.scalar, SV.scalar, nope, effVCD_eq, effOf, SV.ids, AV.ids, dedup, SV.ren, AV.ren, RV.ren, idx, outId, mergeB, Blk.pureB, flats_pure, flat_pure, epsSlotsD_nil, epsSlotsD_cons, epsSlotD_eq, allEp, D.parts_fnOf, fvParts, retEff, round_E, av_fn, G.ye, isCutD_nil, isCutD_cons, firstReg_region, firstReg_seq, firstReg_skip, firstReg_ret, firstReg_label, firstReg_exit, firstReg_goto, firstReg_cond, firstReg_block, firstReg_scope, firstReg_loop, firstReg_rf, eptrOf_mk, flOfD_nil, flOfD_cons, vcFlD_cons, vcFlD_nil, flPairs_nil, flPairs_cons])⟩⟩, fun hik => ?_⟩
    · rcases Nat.lt_succ_iff_lt_or_eq.1 hj with h' | rfl
      · exact hne j h'
      · exact he
    · obtain rfl : k = i := by omega
      have hno : ¬ OkAt p k → 230 = check p := fun h => (check_no h4 hlt h).symm
      have hch : OkAt p k ↔ ((0 < k → (p[k]?.getD (0, 0, 0, ())).2.1 = (p[k - 1]?.getD (0, 0, 0, ())).2.1 → (p[k - 1]?.getD (0, 0, 0, ())).1 < (p[k]?.getD (0, 0, 0, ())).1) ∧
          ((k = 0 ∨ ¬ (p[k]?.getD (0, 0, 0, ())).2.1 = (p[k - 1]?.getD (0, 0, 0, ())).2.1) → (p[k]?.getD (0, 0, 0, ())).2.1 = k + 1) ∧
          ((k = 0 ∨ (p[k]?.getD (0, 0, 0, ())).2.1 = (p[k - 1]?.getD (0, 0, 0, ())).2.1) ↔ (p[k]?.getD (0, 0, 0, ())).2.2.1 = -1) ∧ -1 ≤ (p[k]?.getD (0, 0, 0, ())).2.2.1) := by
        constructor
        · intro q
          refine ⟨fun h1 h2 => q.asc ⟨h1, h2⟩, fun h1 => q.rank fun h2 => ?_, ⟨fun h1 => q.by1 ?_, fun h1 => ?_⟩, q.by3⟩
          · rcases h1 with h1 | h1
            · have := h2.1; omega
            · exact h1 h2.2
          · rcases h1 with h1 | h1
            · exact .inl h1
            · rcases Nat.eq_zero_or_pos k with h0 | h0
              · exact .inl h0
              · exact .inr ⟨h0, h1⟩
          · rcases q.by2 h1 with h1 | h1
            · exact .inl h1
            · exact .inr h1.2
        · rintro ⟨q1, q2, q3, q4⟩
          refine ⟨h0, hne, fun h => q1 h.1 h.2, fun h => q2 ?_, fun h => q3.1 ?_, fun h => ?_, q4⟩
          · rcases Nat.eq_zero_or_pos k with h0 | h0
            · exact .inl h0
            · exact .inr fun h1 => h ⟨h0, h1⟩
          · rcases h with h | h
            · exact .inl h
            · exact .inr h.2
          · rcases q3.2 h with h | h
            · exact .inl h
            · rcases Nat.eq_zero_or_pos k with h0 | h0
              · exact .inl h0
              · exact .inr ⟨h0, h⟩
      have hokS : OkAt p k → ∀ j, j < k + 1 → OkAt p j := fun q j hj => by
        rcases Nat.lt_succ_iff_lt_or_eq.1 hj with h' | rfl
        · exact hok j h'
        · exact q
      generalize (p[k]?.getD (0, 0, 0, ())).1 = e at *
      generalize (p[k]?.getD (0, 0, 0, ())).2.1 = r at *
      generalize (p[k]?.getD (0, 0, 0, ())).2.2.1 = b at *
      generalize (p[k - 1]?.getD (0, 0, 0, ())).1 = e' at *
      generalize (p[k - 1]?.getD (0, 0, 0, ())).2.1 = r' at *
      generalize check p = cc at *
      generalize OkAt p k = OO at *
      have hlast : ((k = 0 ∨ ¬ r = r') → r = k + 1) → (0 < k → r = r' → e' < e) → (decide (k = 0) || decide (0 < k) && r == r') = (b == -1) → -1 ≤ b → OO := by
        clear hok hne hokS hno
        grind
      have hbad : (¬ (decide (k = 0) || decide (0 < k) && r == r') = (b == -1)) ∨ b < -1 → 230 = cc := by
        clear hok hne hokS
        grind
      have hbad2 : ((k = 0 ∨ ¬ r = r') ∧ ¬ r = k + 1 ∨ (0 < k ∧ r = r') ∧ e ≤ e') → 230 = cc := by
        clear hok hne hokS
        grind
      have hpos : ¬ k = 0 ↔ 0 < k := by omega
      refine ⟨fun h => ⟨h, hlt⟩, fun h => ⟨h, by omega, by omega⟩, fun h => ⟨h, by omega, by omega⟩, fun h => ⟨h, hlt⟩, fun h => ⟨h, by omega, by omega⟩, fun h h1 h2 => ⟨⟨h, h1, h2⟩, by omega, by omega⟩, fun h h1 h2 => ⟨⟨h, h1, h2⟩, by omega, by omega⟩,
        fun h h1 h2 => ⟨⟨h, h1, h2⟩, hlt⟩, fun h => ⟨h, fun h1 h2 => ⟨h, h1, h2⟩⟩, fun h => ?_, hbad2, fun h1 h2 => ⟨hlt, fun h => ⟨h, hlt⟩, hbad, fun h3 h4 => ⟨⟨by omega, by omega⟩, k + 1, ⟨by omega, hokS (hlast h1 h2 h3 h4)⟩, by omega, TurnT.le (by simp -dsimp -implicitDefEqProofs [thenKD_normal, thenKD_exit, thenKD_goto, thenKD_ret, inBlockKD_normal, inBlockKD_exit, inBlockKD_goto, inBlockKD_ret, noGotoKD_normal, noGotoKD_exit, noGotoKD_goto, noGotoKD_ret, roundKD_normal, roundKD_exit, roundKD_goto, roundKD_ret, frzSlotsD_nil, frzSlotsD_cons, frzSlotD_eq, yieldVCD_trace, opVCD_eq, vcOpsD_nil, vcOpsD_cons, vcAllD_zero, vcAllD_succ, allAtD_nil, allAtD_cons, readyAux, edgA, vcD_skip, vcD_label, vcD_exit, vcD_goto, vcD_ret, vcD_region, vcD_seq, vcD_seqC, vcD_cond, vcCondD_bool, vcD_block, vcD_scope, vcD_loop, vcD_rangeFunc, yieldOf, isMem, isMem0, keepE, envLe, St.le, psE, yieldAV, round_td, round_y, round_Γ, vI, vB, vS, aI, aB, aS, look, getE, oper, opRV, putE, allOk, okOps, Op.operands, Call.operands, pEv, qEv, mEv, constRV, coe, RV.av, loadEv, loadCs, takeAt, indexAddrEv, fieldAddrEv, binEv, intEv, arith, unEv, gcond, pickEv, argsEv, callVal, callEv, capAV_mk, lenArgs, lenEv, minEv, extractEv, convEv, funcEv, allBox, bound, sliceEv, lookupEv, TD.isBool, allocEv, boxEv, storeEv, spl, plainTD, appendEv, appendArgs, makeMapEv, mapUpdateEv, buildEv, buildSliceEv, fillSV, zsvOf, sizeTD, Ty.parses, parses_flats', coeA, ← flats_append, flats_length, AV.good, AV.cells, AV.pure, SV.pure, av_int, av_bool, av_str, av_slice, av_cons, av_fld0, av_fld1, av_fld2, av_fld3, av_fld4, Ty.of, Ty.dflt, Ty.parse, Ty.flat, Ty.zsv, Ty.fld, Ty.get, Ty.off, Ty.nfld, Ty.size, coeTy, junk, Blk.look, argEnv, resEv, resOk, resVs, oneRV, retOk, frzAs, frzAV, frzL, frzSV, boxCaps, boxCap, SV.sig, sigs, RV.scalar, AV.scalar, SV.scalar, nope, effVCD_eq, effOf, SV.ids, AV.ids, dedup, SV.ren, AV.ren, RV.ren, idx, outId, mergeB, Blk.pureB, flats_pure, flat_pure, epsSlotsD_nil, epsSlotsD_cons, epsSlotD_eq, allEp, D.parts_fnOf, fvParts, retEff, round_E, av_fn, G.ye, isCutD_nil, isCutD_cons, firstReg_region, firstReg_seq, firstReg_skip, firstReg_ret, firstReg_label, firstReg_exit, firstReg_goto, firstReg_cond, firstReg_block, firstReg_scope, firstReg_loop, firstReg_rf, eptrOf_mk, flOfD_nil, flOfD_cons, vcFlD_cons, vcFlD_nil, flPairs_nil, flPairs_cons])⟩⟩⟩
      · clear hok hne hokS hno hlast hbad hbad2 hch
        by_cases hr : k = 0 ∨ ¬ r = r'
        · exact .inr (h hr)
        · exact .inl ⟨fun h0 => hr (.inl h0), Classical.byContradiction fun h0 => hr (.inr h0)⟩
  · exact (check_ok h4 fun j hj => hok j (by omega)).symm
end Go.Am
