/- The program of chapter 24: ways of a cut, and the first line of a rank. -/
import Derived.Test.YtdfafpmolbgklaaAd5
namespace Go.Am
set_option linter.unusedVariables false
set_option linter.unusedSimpArgs false
set_option maxHeartbeats 4000000
set_option maxRecDepth 20000
open Go.RowKit Go.Proofs

def conW1 : Con := ⟨fun args => (match args with
  | [.s (.sl (.int .i64) _ _), .s (.int .i64 _)] => True
  | _ => False), fun args => match args with
  | [.s (.sl t xs _), _] => .v (.s (.sl t xs false))
  | _ => .v (.s .any)⟩
theorem conW1_pre (xs : List Int) (ex : Bool) (n : Int) : conW1.pre [.s (.sl tI xs ex), .s (.int .i64 n)] = True := rfl
theorem conW1_val (xs : List Int) (ex : Bool) (n : Int) : conW1.val [.s (.sl tI xs ex), .s (.int .i64 n)] = .v (aS tI xs false) := rfl
theorem w1_ok : PureOk Try.prog 18 conW1 := by
  refine pureOkD (L := { live := [0, 1, 4], frz := [] }) ad0_good rfl ad_mixed Try.func18 rfl conW1 2 (by decide) (by kernel_rfl) ?_
  intro args hpre hlens
  simp only [conW1] at hpre
  split at hpre
  · refine ⟨rfl, ?_⟩
    simp -dsimp -implicitDefEqProofs [Try.f18, conW1_val, thenKD_normal, thenKD_exit, thenKD_goto, thenKD_ret, inBlockKD_normal, inBlockKD_exit, inBlockKD_goto, inBlockKD_ret, noGotoKD_normal, noGotoKD_exit, noGotoKD_goto, noGotoKD_ret, roundKD_normal, roundKD_exit, roundKD_goto, roundKD_ret, frzSlotsD_nil, frzSlotsD_cons, frzSlotD_eq, yieldVCD_trace, opVCD_eq, vcOpsD_nil, vcOpsD_cons, vcAllD_zero, vcAllD_succ, allAtD_nil, allAtD_cons, readyAux, edgA, vcD_skip, vcD_label, vcD_exit, vcD_goto, vcD_ret, vcD_region, vcD_seq, vcD_seqC, vcD_cond, vcCondD_bool, vcD_block, vcD_scope, vcD_loop, vcD_rangeFunc, yieldOf, isMem, isMem0, keepE, envLe, St.le, psE, yieldAV, round_td, round_y, round_Γ, vI, vB, vS, aI, aB, aS, look, getE, oper, opRV, putE, allOk, okOps, Op.operands, Call.operands, pEv, qEv, mEv, constRV, coe, RV.av, loadEv, loadCs, takeAt, indexAddrEv, fieldAddrEv, binEv, intEv, arith, unEv, gcond, pickEv, argsEv, callVal, callEv, capAV_mk, lenArgs, lenEv, minEv, extractEv, convEv, funcEv, allBox, bound, sliceEv, lookupEv, TD.isBool, allocEv, boxEv, storeEv, spl, plainTD, appendEv, appendArgs, makeMapEv, mapUpdateEv, buildEv, buildSliceEv, fillSV, zsvOf, sizeTD, Ty.parses, parses_flats', coeA, ← flats_append, flats_length, AV.good, AV.cells, AV.pure, SV.pure, av_int, av_bool, av_str, av_slice, av_cons, av_fld0, av_fld1, av_fld2, av_fld3, av_fld4, Ty.of, Ty.dflt, Ty.parse, Ty.flat, Ty.zsv, Ty.fld, Ty.get, Ty.off, Ty.nfld, Ty.size, coeTy, junk, Blk.look, argEnv, resEv, resOk, resVs, oneRV, retOk, frzAs, frzAV, frzL, frzSV, boxCaps, boxCap, SV.sig, sigs, RV.scalar, AV.scalar, SV.scalar, nope, effVCD_eq, effOf, SV.ids, AV.ids, dedup, SV.ren, AV.ren, RV.ren, idx, outId, mergeB, Blk.pureB, flats_pure, flat_pure, epsSlotsD_nil, epsSlotsD_cons, epsSlotD_eq, allEp, D.parts_fnOf, fvParts, retEff, round_E, av_fn, G.ye, isCutD_nil, isCutD_cons, firstReg_region, firstReg_seq, firstReg_skip, firstReg_ret, firstReg_label, firstReg_exit, firstReg_goto, firstReg_cond, firstReg_block, firstReg_scope, firstReg_loop, firstReg_rf, eptrOf_mk, flOfD_nil, flOfD_cons, vcFlD_cons, vcFlD_nil, flPairs_nil, flPairs_cons, ad0_td, ad0_y, ad0_Γ, ad0_E, adT, ad0Γ, ad0E, inI64]
  · exact hpre.elim
def conW2 : Con := ⟨fun args => (match args with
  | [.s (.sl (.int .i64) _ _), .s (.int .i64 _)] => True
  | _ => False), fun args => .v (.s (.sl tI [] false))⟩
theorem conW2_pre (xs : List Int) (ex : Bool) (n : Int) : conW2.pre [.s (.sl tI xs ex), .s (.int .i64 n)] = True := rfl
theorem conW2_val (l : List AV) : conW2.val l = .v (aS tI [] false) := rfl
theorem w2_ok : PureOk Try.prog 19 conW2 := by
  refine pureOkD (L := { live := [0, 1, 4], frz := [] }) ad0_good rfl ad_mixed Try.func19 rfl conW2 2 (by decide) (by kernel_rfl) ?_
  intro args hpre hlens
  simp only [conW2] at hpre
  split at hpre
  · refine ⟨rfl, ?_⟩
    simp -dsimp -implicitDefEqProofs [Try.f19, conW2_val, thenKD_normal, thenKD_exit, thenKD_goto, thenKD_ret, inBlockKD_normal, inBlockKD_exit, inBlockKD_goto, inBlockKD_ret, noGotoKD_normal, noGotoKD_exit, noGotoKD_goto, noGotoKD_ret, roundKD_normal, roundKD_exit, roundKD_goto, roundKD_ret, frzSlotsD_nil, frzSlotsD_cons, frzSlotD_eq, yieldVCD_trace, opVCD_eq, vcOpsD_nil, vcOpsD_cons, vcAllD_zero, vcAllD_succ, allAtD_nil, allAtD_cons, readyAux, edgA, vcD_skip, vcD_label, vcD_exit, vcD_goto, vcD_ret, vcD_region, vcD_seq, vcD_seqC, vcD_cond, vcCondD_bool, vcD_block, vcD_scope, vcD_loop, vcD_rangeFunc, yieldOf, isMem, isMem0, keepE, envLe, St.le, psE, yieldAV, round_td, round_y, round_Γ, vI, vB, vS, aI, aB, aS, look, getE, oper, opRV, putE, allOk, okOps, Op.operands, Call.operands, pEv, qEv, mEv, constRV, coe, RV.av, loadEv, loadCs, takeAt, indexAddrEv, fieldAddrEv, binEv, intEv, arith, unEv, gcond, pickEv, argsEv, callVal, callEv, capAV_mk, lenArgs, lenEv, minEv, extractEv, convEv, funcEv, allBox, bound, sliceEv, lookupEv, TD.isBool, allocEv, boxEv, storeEv, spl, plainTD, appendEv, appendArgs, makeMapEv, mapUpdateEv, buildEv, buildSliceEv, fillSV, zsvOf, sizeTD, Ty.parses, parses_flats', coeA, ← flats_append, flats_length, AV.good, AV.cells, AV.pure, SV.pure, av_int, av_bool, av_str, av_slice, av_cons, av_fld0, av_fld1, av_fld2, av_fld3, av_fld4, Ty.of, Ty.dflt, Ty.parse, Ty.flat, Ty.zsv, Ty.fld, Ty.get, Ty.off, Ty.nfld, Ty.size, coeTy, junk, Blk.look, argEnv, resEv, resOk, resVs, oneRV, retOk, frzAs, frzAV, frzL, frzSV, boxCaps, boxCap, SV.sig, sigs, RV.scalar, AV.scalar, SV.scalar, nope, effVCD_eq, effOf, SV.ids, AV.ids, dedup, SV.ren, AV.ren, RV.ren, idx, outId, mergeB, Blk.pureB, flats_pure, flat_pure, epsSlotsD_nil, epsSlotsD_cons, epsSlotD_eq, allEp, D.parts_fnOf, fvParts, retEff, round_E, av_fn, G.ye, isCutD_nil, isCutD_cons, firstReg_region, firstReg_seq, firstReg_skip, firstReg_ret, firstReg_label, firstReg_exit, firstReg_goto, firstReg_cond, firstReg_block, firstReg_scope, firstReg_loop, firstReg_rf, eptrOf_mk, flOfD_nil, flOfD_cons, vcFlD_cons, vcFlD_nil, flPairs_nil, flPairs_cons, ad0_td, ad0_y, ad0_Γ, ad0_E, adT, ad0Γ, ad0E, inI64]
  · exact hpre.elim
def conW3 : Con := ⟨fun args => (match args with
  | [.s (.sl (.int .i64) xs _), .s (.int .i64 n)] => 0 ≤ n ∧ n ≤ xs.length
  | _ => False), fun args => match args with
  | [.s (.sl t xs _), .s (.int _ n)] => .v (.s (.sl t (xs.take n.toNat) false))
  | _ => .v (.s .any)⟩
theorem conW3_pre (xs : List Int) (ex : Bool) (n : Int) : conW3.pre [.s (.sl tI xs ex), .s (.int .i64 n)] = (0 ≤ n ∧ n ≤ xs.length) := rfl
theorem conW3_val (xs : List Int) (ex : Bool) (n : Int) : conW3.val [.s (.sl tI xs ex), .s (.int .i64 n)] = .v (aS tI (xs.take n.toNat) false) := rfl
theorem w3_ok : PureOk Try.prog 20 conW3 := by
  refine pureOkD (L := { live := [0, 1, 4], frz := [] }) ad0_good rfl ad_mixed Try.func20 rfl conW3 2 (by decide) (by kernel_rfl) ?_
  intro args hpre hlens
  simp only [conW3] at hpre
  split at hpre
  · refine ⟨rfl, ?_⟩
    simp -dsimp -implicitDefEqProofs [Try.f20, conW3_val, thenKD_normal, thenKD_exit, thenKD_goto, thenKD_ret, inBlockKD_normal, inBlockKD_exit, inBlockKD_goto, inBlockKD_ret, noGotoKD_normal, noGotoKD_exit, noGotoKD_goto, noGotoKD_ret, roundKD_normal, roundKD_exit, roundKD_goto, roundKD_ret, frzSlotsD_nil, frzSlotsD_cons, frzSlotD_eq, yieldVCD_trace, opVCD_eq, vcOpsD_nil, vcOpsD_cons, vcAllD_zero, vcAllD_succ, allAtD_nil, allAtD_cons, readyAux, edgA, vcD_skip, vcD_label, vcD_exit, vcD_goto, vcD_ret, vcD_region, vcD_seq, vcD_seqC, vcD_cond, vcCondD_bool, vcD_block, vcD_scope, vcD_loop, vcD_rangeFunc, yieldOf, isMem, isMem0, keepE, envLe, St.le, psE, yieldAV, round_td, round_y, round_Γ, vI, vB, vS, aI, aB, aS, look, getE, oper, opRV, putE, allOk, okOps, Op.operands, Call.operands, pEv, qEv, mEv, constRV, coe, RV.av, loadEv, loadCs, takeAt, indexAddrEv, fieldAddrEv, binEv, intEv, arith, unEv, gcond, pickEv, argsEv, callVal, callEv, capAV_mk, lenArgs, lenEv, minEv, extractEv, convEv, funcEv, allBox, bound, sliceEv, lookupEv, TD.isBool, allocEv, boxEv, storeEv, spl, plainTD, appendEv, appendArgs, makeMapEv, mapUpdateEv, buildEv, buildSliceEv, fillSV, zsvOf, sizeTD, Ty.parses, parses_flats', coeA, ← flats_append, flats_length, AV.good, AV.cells, AV.pure, SV.pure, av_int, av_bool, av_str, av_slice, av_cons, av_fld0, av_fld1, av_fld2, av_fld3, av_fld4, Ty.of, Ty.dflt, Ty.parse, Ty.flat, Ty.zsv, Ty.fld, Ty.get, Ty.off, Ty.nfld, Ty.size, coeTy, junk, Blk.look, argEnv, resEv, resOk, resVs, oneRV, retOk, frzAs, frzAV, frzL, frzSV, boxCaps, boxCap, SV.sig, sigs, RV.scalar, AV.scalar, SV.scalar, nope, effVCD_eq, effOf, SV.ids, AV.ids, dedup, SV.ren, AV.ren, RV.ren, idx, outId, mergeB, Blk.pureB, flats_pure, flat_pure, epsSlotsD_nil, epsSlotsD_cons, epsSlotD_eq, allEp, D.parts_fnOf, fvParts, retEff, round_E, av_fn, G.ye, isCutD_nil, isCutD_cons, firstReg_region, firstReg_seq, firstReg_skip, firstReg_ret, firstReg_label, firstReg_exit, firstReg_goto, firstReg_cond, firstReg_block, firstReg_scope, firstReg_loop, firstReg_rf, eptrOf_mk, flOfD_nil, flOfD_cons, vcFlD_cons, vcFlD_nil, flPairs_nil, flPairs_cons, ad0_td, ad0_y, ad0_Γ, ad0_E, adT, ad0Γ, ad0E, inI64]
    exact hpre
  · exact hpre.elim

/-- Is a line of a rank? -/
def conIs : Con := ⟨fun args => (match args with
  | [.agg [.int .i64 _, .int .i64 _, .int .i64 _], .s (.eptr (.int .i64) _)] => True
  | _ => False), fun args => match args with
  | [.agg [_, .int _ r, _], .s (.eptr (.int .i64) n)] => .v (aB (r == n))
  | _ => .v (.s .any)⟩
theorem conIs_pre (a r b n : Int) : conIs.pre [.agg [.int .i64 a, .int .i64 r, .int .i64 b], .s (.eptr tI n)] = True := rfl
theorem conIs_val (a r b n : Int) : conIs.val [.agg [.int .i64 a, .int .i64 r, .int .i64 b], .s (.eptr tI n)] = .v (aB (r == n)) := rfl
theorem is_ok : PureOk Try.prog 23 conIs := by
  refine pureOkD (L := { live := [0, 1, 2, 3], frz := [] }) ad0_good rfl ad_mixed Try.func23 rfl conIs 2 (by decide) (by kernel_rfl) ?_
  intro args hpre hlens
  simp only [conIs] at hpre
  split at hpre
  · refine ⟨rfl, ?_⟩
    simp -dsimp -implicitDefEqProofs [Try.f23, conIs_val, thenKD_normal, thenKD_exit, thenKD_goto, thenKD_ret, inBlockKD_normal, inBlockKD_exit, inBlockKD_goto, inBlockKD_ret, noGotoKD_normal, noGotoKD_exit, noGotoKD_goto, noGotoKD_ret, roundKD_normal, roundKD_exit, roundKD_goto, roundKD_ret, frzSlotsD_nil, frzSlotsD_cons, frzSlotD_eq, yieldVCD_trace, opVCD_eq, vcOpsD_nil, vcOpsD_cons, vcAllD_zero, vcAllD_succ, allAtD_nil, allAtD_cons, readyAux, edgA, vcD_skip, vcD_label, vcD_exit, vcD_goto, vcD_ret, vcD_region, vcD_seq, vcD_seqC, vcD_cond, vcCondD_bool, vcD_block, vcD_scope, vcD_loop, vcD_rangeFunc, yieldOf, isMem, isMem0, keepE, envLe, St.le, psE, yieldAV, round_td, round_y, round_Γ, vI, vB, vS, aI, aB, aS, look, getE, oper, opRV, putE, allOk, okOps, Op.operands, Call.operands, pEv, qEv, mEv, constRV, coe, RV.av, loadEv, loadCs, takeAt, indexAddrEv, fieldAddrEv, binEv, intEv, arith, unEv, gcond, pickEv, argsEv, callVal, callEv, capAV_mk, lenArgs, lenEv, minEv, extractEv, convEv, funcEv, allBox, bound, sliceEv, lookupEv, TD.isBool, allocEv, boxEv, storeEv, spl, plainTD, appendEv, appendArgs, makeMapEv, mapUpdateEv, buildEv, buildSliceEv, fillSV, zsvOf, sizeTD, Ty.parses, parses_flats', coeA, ← flats_append, flats_length, AV.good, AV.cells, AV.pure, SV.pure, av_int, av_bool, av_str, av_slice, av_cons, av_fld0, av_fld1, av_fld2, av_fld3, av_fld4, Ty.of, Ty.dflt, Ty.parse, Ty.flat, Ty.zsv, Ty.fld, Ty.get, Ty.off, Ty.nfld, Ty.size, coeTy, junk, Blk.look, argEnv, resEv, resOk, resVs, oneRV, retOk, frzAs, frzAV, frzL, frzSV, boxCaps, boxCap, SV.sig, sigs, RV.scalar, AV.scalar, SV.scalar, nope, effVCD_eq, effOf, SV.ids, AV.ids, dedup, SV.ren, AV.ren, RV.ren, idx, outId, mergeB, Blk.pureB, flats_pure, flat_pure, epsSlotsD_nil, epsSlotsD_cons, epsSlotD_eq, allEp, D.parts_fnOf, fvParts, retEff, round_E, av_fn, G.ye, isCutD_nil, isCutD_cons, firstReg_region, firstReg_seq, firstReg_skip, firstReg_ret, firstReg_label, firstReg_exit, firstReg_goto, firstReg_cond, firstReg_block, firstReg_scope, firstReg_loop, firstReg_rf, eptrOf_mk, flOfD_nil, flOfD_cons, vcFlD_cons, vcFlD_nil, flPairs_nil, flPairs_cons, ad0_td, ad0_y, ad0_Γ, ad0_E, adT, ad0Γ, ad0E, inI64]
  · exact hpre.elim
noncomputable def ad8Γ : List (FuncId × Con) := (18, conW1) :: (19, conW2) :: (20, conW3) :: (23, conIs) :: (24, conByAt) :: ad7Γ
theorem ad8Γ_ok : ∀ p ∈ ad8Γ, (∀ (args : Array Value) (w : World), (callFunc p.1 args).run Try.prog w = .ok (.enter p.1 args) w) ∧ PureOk Try.prog p.1 p.2 := by
  simp only [ad8Γ, List.forall_mem_cons]
  exact ⟨⟨enters_of Try.func18 (by kernel_rfl) rfl, w1_ok⟩, ⟨enters_of Try.func19 (by kernel_rfl) rfl, w2_ok⟩, ⟨enters_of Try.func20 (by kernel_rfl) rfl, w3_ok⟩, ⟨enters_of Try.func23 (by kernel_rfl) rfl, is_ok⟩, ⟨enters_of Try.func24 (by kernel_rfl) rfl, by_ok⟩, ad7Γ_ok⟩
noncomputable def ad8E : List (FuncId × ECon) := ad7E
theorem ad8E_ok : ∀ p ∈ ad8E, (∀ (args : Array Value) (w : World), (callFunc p.1 args).run Try.prog w = .ok (.enter p.1 args) w) ∧ EffOk Try.prog p.1 p.2 := by
  simp only [ad8E]
  exact ad7E_ok
noncomputable def ad8 : G := { τ := adT, Γ := ad8Γ, E := ad8E }
theorem ad8_good : ad8.good Try.prog := good_of_all (adT_ok _ rfl) ad8Γ_ok ad8E_ok
theorem ad8_td (t : TypeId) : ad8.td t = (look adT t).getD .other := rfl
theorem ad8_y : ad8.y = false := rfl
theorem ad8_Γ : ad8.Γ = ad8Γ := rfl
theorem ad8_E : ad8.E = ad8E := rfl
noncomputable def ad8y : G := { τ := adT, Γ := ad8Γ, E := ad8E, y := true }
theorem ad8y_good : ad8y.good Try.prog := good_of_all (adT_ok _ rfl) ad8Γ_ok ad8E_ok
theorem ad8y_td (t : TypeId) : ad8y.td t = (look adT t).getD .other := rfl
theorem ad8y_y : ad8y.y = true := rfl
theorem ad8y_Γ : ad8y.Γ = ad8Γ := rfl
theorem ad8y_E : ad8y.E = ad8E := rfl

/-- The first line of a rank. -/
def firstOf (p : List Pl) (r : Int) : Int := match (List.range p.length).find? fun i => decide (pr p i = r) with
  | some i => i
  | none => -1
def conIdx : Con := ⟨fun args => (match args with
  | [.s (.sl (.cons (.int .i64) (.cons (.int .i64) (.cons (.int .i64) .nil))) _ _), .s (.fnp f [⟨.int .i64, _⟩])] => f = 23
  | _ => False), fun args => match args with
  | [.s (.sl (.cons (.int .i64) (.cons (.int .i64) (.cons (.int .i64) .nil))) p _), .s (.fnp _ [⟨.int .i64, r⟩])] => .v (aI (firstOf p r))
  | _ => .v (.s .any)⟩
theorem conIdx_pre (p : List Pl) (ex : Bool) (r : Int) : conIdx.pre [.s (.sl tPlace p ex), .s (.fnp 23 [⟨tI, r⟩])] = True := eq_true rfl
theorem conIdx_val (p : List Pl) (ex : Bool) (r : Int) (f : FuncId) : conIdx.val [.s (.sl tPlace p ex), .s (.fnp f [⟨tI, r⟩])] = .v (aI (firstOf p r)) := rfl
theorem idx_ok : PureOk Try.prog 22 conIdx := by
  refine pureOkD (L := { live := [0, 1, 4, 5, 7, 8, 9, 16], frz := [] }) ad8_good rfl ad_mixed Try.func22 rfl conIdx 2 (by decide) (by kernel_rfl) ?_
  intro args hpre hlens
  simp only [conIdx] at hpre
  split at hpre
  · rename_i p ex f r
    subst hpre
    obtain ⟨⟨hl, _⟩, _⟩ := hlens
    simp only [maxLen] at hl
    refine ⟨rfl, ?_⟩
    simp -dsimp -implicitDefEqProofs [Try.f22, conIdx_val, conIs_pre, conIs_val, thenKD_normal, thenKD_exit, thenKD_goto, thenKD_ret, inBlockKD_normal, inBlockKD_exit, inBlockKD_goto, inBlockKD_ret, noGotoKD_normal, noGotoKD_exit, noGotoKD_goto, noGotoKD_ret, roundKD_normal, roundKD_exit, roundKD_goto, roundKD_ret, frzSlotsD_nil, frzSlotsD_cons, frzSlotD_eq, yieldVCD_trace, opVCD_eq, vcOpsD_nil, vcOpsD_cons, vcAllD_zero, vcAllD_succ, allAtD_nil, allAtD_cons, readyAux, edgA, vcD_skip, vcD_label, vcD_exit, vcD_goto, vcD_ret, vcD_region, vcD_seq, vcD_seqC, vcD_cond, vcCondD_bool, vcD_block, vcD_scope, vcD_loop, vcD_rangeFunc, yieldOf, isMem, isMem0, keepE, envLe, St.le, psE, yieldAV, round_td, round_y, round_Γ, vI, vB, vS, aI, aB, aS, look, getE, oper, opRV, putE, allOk, okOps, Op.operands, Call.operands, pEv, qEv, mEv, constRV, coe, RV.av, loadEv, loadCs, takeAt, indexAddrEv, fieldAddrEv, binEv, intEv, arith, unEv, gcond, pickEv, argsEv, callVal, callEv, capAV_mk, lenArgs, lenEv, minEv, extractEv, convEv, funcEv, allBox, bound, sliceEv, lookupEv, TD.isBool, allocEv, boxEv, storeEv, spl, plainTD, appendEv, appendArgs, makeMapEv, mapUpdateEv, buildEv, buildSliceEv, fillSV, zsvOf, sizeTD, Ty.parses, parses_flats', coeA, ← flats_append, flats_length, AV.good, AV.cells, AV.pure, SV.pure, av_int, av_bool, av_str, av_slice, av_cons, av_fld0, av_fld1, av_fld2, av_fld3, av_fld4, Ty.of, Ty.dflt, Ty.parse, Ty.flat, Ty.zsv, Ty.fld, Ty.get, Ty.off, Ty.nfld, Ty.size, coeTy, junk, Blk.look, argEnv, resEv, resOk, resVs, oneRV, retOk, frzAs, frzAV, frzL, frzSV, boxCaps, boxCap, SV.sig, sigs, RV.scalar, AV.scalar, SV.scalar, nope, effVCD_eq, effOf, SV.ids, AV.ids, dedup, SV.ren, AV.ren, RV.ren, idx, outId, mergeB, Blk.pureB, flats_pure, flat_pure, epsSlotsD_nil, epsSlotsD_cons, epsSlotD_eq, allEp, D.parts_fnOf, fvParts, retEff, round_E, av_fn, G.ye, isCutD_nil, isCutD_cons, firstReg_region, firstReg_seq, firstReg_skip, firstReg_ret, firstReg_label, firstReg_exit, firstReg_goto, firstReg_cond, firstReg_block, firstReg_scope, firstReg_loop, firstReg_rf, eptrOf_mk, flOfD_nil, flOfD_cons, vcFlD_cons, vcFlD_nil, flPairs_nil, flPairs_cons, ad8_td, ad8_y, ad8_Γ, ad8_E, adT, ad8Γ, ad8E, ad7Γ, ad7E, ad6Γ, ad6E, ad5Γ, ad5E, ad4Γ, ad4E, ad3Γ, ad3E, ad2Γ, ad2E, ad1Γ, ad1E, ad0Γ, ad0E, inI64]
    refine WpD.loop (L := { live := [0, 1, 4, 5, 7, 8, 9, 16], frz := [] }) ad8_good X0_ok ad_mixed (by kernel_rfl) (ι := Nat)
      (fun i => ⟨[(0, vS tPlace p ex), (1, ⟨true, .v (.s (.fnp 23 [⟨tI, r⟩]))⟩), (7, vI p.length), (8, vI i)], []⟩)
      (fun i => i ≤ p.length ∧ ∀ j, j < i → pr p j ≠ r) (fun i => p.length - i) 0 (by simp) (Turn.le (by simp -dsimp -implicitDefEqProofs [thenKD_normal, thenKD_exit, thenKD_goto, thenKD_ret, inBlockKD_normal, inBlockKD_exit, inBlockKD_goto, inBlockKD_ret, noGotoKD_normal, noGotoKD_exit, noGotoKD_goto, noGotoKD_ret, roundKD_normal, roundKD_exit, roundKD_goto, roundKD_ret, frzSlotsD_nil, frzSlotsD_cons, frzSlotD_eq, yieldVCD_trace, opVCD_eq, vcOpsD_nil, vcOpsD_cons, vcAllD_zero, vcAllD_succ, allAtD_nil, allAtD_cons, readyAux, edgA, vcD_skip, vcD_label, vcD_exit, vcD_goto, vcD_ret, vcD_region, vcD_seq, vcD_seqC, vcD_cond, vcCondD_bool, vcD_block, vcD_scope, vcD_loop, vcD_rangeFunc, yieldOf, isMem, isMem0, keepE, envLe, St.le, psE, yieldAV, round_td, round_y, round_Γ, vI, vB, vS, aI, aB, aS, look, getE, oper, opRV, putE, allOk, okOps, Op.operands, Call.operands, pEv, qEv, mEv, constRV, coe, RV.av, loadEv, loadCs, takeAt, indexAddrEv, fieldAddrEv, binEv, intEv, arith, unEv, gcond, pickEv, argsEv, callVal, callEv, capAV_mk, lenArgs, lenEv, minEv, extractEv, convEv, funcEv, allBox, bound, sliceEv, lookupEv, TD.isBool, allocEv, boxEv, storeEv, spl, plainTD, appendEv, appendArgs, makeMapEv, mapUpdateEv, buildEv, buildSliceEv, fillSV, zsvOf, sizeTD, Ty.parses, parses_flats', coeA, ← flats_append, flats_length, AV.good, AV.cells, AV.pure, SV.pure, av_int, av_bool, av_str, av_slice, av_cons, av_fld0, av_fld1, av_fld2, av_fld3, av_fld4, Ty.of, Ty.dflt, Ty.parse, Ty.flat, Ty.zsv, Ty.fld, Ty.get, Ty.off, Ty.nfld, Ty.size, coeTy, junk, Blk.look, argEnv, resEv, resOk, resVs, oneRV, retOk, frzAs, frzAV, frzL, frzSV, boxCaps, boxCap, SV.sig, sigs, RV.scalar, AV.scalar, SV.scalar, nope, effVCD_eq, effOf, SV.ids, AV.ids, dedup, SV.ren, AV.ren, RV.ren, idx, outId, mergeB, Blk.pureB, flats_pure, flat_pure, epsSlotsD_nil, epsSlotsD_cons, epsSlotD_eq, allEp, D.parts_fnOf, fvParts, retEff, round_E, av_fn, G.ye, isCutD_nil, isCutD_cons, firstReg_region, firstReg_seq, firstReg_skip, firstReg_ret, firstReg_label, firstReg_exit, firstReg_goto, firstReg_cond, firstReg_block, firstReg_scope, firstReg_loop, firstReg_rf, eptrOf_mk, flOfD_nil, flOfD_cons, vcFlD_cons, vcFlD_nil, flPairs_nil, flPairs_cons])) ?_
    rintro i ⟨hi, hno⟩
    simp -dsimp -implicitDefEqProofs [conIdx_val, conIs_pre, conIs_val, pr_fold, thenKD_normal, thenKD_exit, thenKD_goto, thenKD_ret, inBlockKD_normal, inBlockKD_exit, inBlockKD_goto, inBlockKD_ret, noGotoKD_normal, noGotoKD_exit, noGotoKD_goto, noGotoKD_ret, roundKD_normal, roundKD_exit, roundKD_goto, roundKD_ret, frzSlotsD_nil, frzSlotsD_cons, frzSlotD_eq, yieldVCD_trace, opVCD_eq, vcOpsD_nil, vcOpsD_cons, vcAllD_zero, vcAllD_succ, allAtD_nil, allAtD_cons, readyAux, edgA, vcD_skip, vcD_label, vcD_exit, vcD_goto, vcD_ret, vcD_region, vcD_seq, vcD_seqC, vcD_cond, vcCondD_bool, vcD_block, vcD_scope, vcD_loop, vcD_rangeFunc, yieldOf, isMem, isMem0, keepE, envLe, St.le, psE, yieldAV, round_td, round_y, round_Γ, vI, vB, vS, aI, aB, aS, look, getE, oper, opRV, putE, allOk, okOps, Op.operands, Call.operands, pEv, qEv, mEv, constRV, coe, RV.av, loadEv, loadCs, takeAt, indexAddrEv, fieldAddrEv, binEv, intEv, arith, unEv, gcond, pickEv, argsEv, callVal, callEv, capAV_mk, lenArgs, lenEv, minEv, extractEv, convEv, funcEv, allBox, bound, sliceEv, lookupEv, TD.isBool, allocEv, boxEv, storeEv, spl, plainTD, appendEv, appendArgs, makeMapEv, mapUpdateEv, buildEv, buildSliceEv, fillSV, zsvOf, sizeTD, Ty.parses, parses_flats', coeA, ← flats_append, flats_length, AV.good, AV.cells, AV.pure, SV.pure, av_int, av_bool, av_str, av_slice, av_cons, av_fld0, av_fld1, av_fld2, av_fld3, av_fld4, Ty.of, Ty.dflt, Ty.parse, Ty.flat, Ty.zsv, Ty.fld, Ty.get, Ty.off, Ty.nfld, Ty.size, coeTy, junk, Blk.look, argEnv, resEv, resOk, resVs, oneRV, retOk, frzAs, frzAV, frzL, frzSV, boxCaps, boxCap, SV.sig, sigs, RV.scalar, AV.scalar, SV.scalar, nope, effVCD_eq, effOf, SV.ids, AV.ids, dedup, SV.ren, AV.ren, RV.ren, idx, outId, mergeB, Blk.pureB, flats_pure, flat_pure, epsSlotsD_nil, epsSlotsD_cons, epsSlotD_eq, allEp, D.parts_fnOf, fvParts, retEff, round_E, av_fn, G.ye, isCutD_nil, isCutD_cons, firstReg_region, firstReg_seq, firstReg_skip, firstReg_ret, firstReg_label, firstReg_exit, firstReg_goto, firstReg_cond, firstReg_block, firstReg_scope, firstReg_loop, firstReg_rf, eptrOf_mk, flOfD_nil, flOfD_cons, vcFlD_cons, vcFlD_nil, flPairs_nil, flPairs_cons, ad8_td, ad8_y, ad8_Γ, ad8_E, adT, ad8Γ, ad8E, ad7Γ, ad7E, ad6Γ, ad6E, ad5Γ, ad5E, ad4Γ, ad4E, ad3Γ, ad3E, ad2Γ, ad2E, ad1Γ, ad1E, ad0Γ, ad0E, inI64]
    refine ⟨fun hlt => ⟨hlt, fun he => ?_, fun hne => ⟨⟨by omega, by omega⟩, i + 1, ⟨by omega, fun j hj => ?_⟩, by omega, TurnT.le (by simp -dsimp -implicitDefEqProofs [thenKD_normal, thenKD_exit, thenKD_goto, thenKD_ret, inBlockKD_normal, inBlockKD_exit, inBlockKD_goto, inBlockKD_ret, noGotoKD_normal, noGotoKD_exit, noGotoKD_goto, noGotoKD_ret, roundKD_normal, roundKD_exit, roundKD_goto, roundKD_ret, frzSlotsD_nil, frzSlotsD_cons, frzSlotD_eq, yieldVCD_trace, opVCD_eq, vcOpsD_nil, vcOpsD_cons, vcAllD_zero, vcAllD_succ, allAtD_nil, allAtD_cons, readyAux, edgA, vcD_skip, vcD_label, vcD_exit, vcD_goto, vcD_ret, vcD_region, vcD_seq, vcD_seqC, vcD_cond, vcCondD_bool, vcD_block, vcD_scope, vcD_loop, vcD_rangeFunc, yieldOf, isMem, isMem0, keepE, envLe, St.le, psE, yieldAV, round_td, round_y, round_Γ, vI, vB, vS, aI, aB, aS, look, getE, oper, opRV, putE, allOk, okOps, Op.operands, Call.operands, pEv, qEv, mEv, constRV, coe, RV.av, loadEv, loadCs, takeAt, indexAddrEv, fieldAddrEv, binEv, intEv, arith, unEv, gcond, pickEv, argsEv, callVal, callEv, capAV_mk, lenArgs, lenEv, minEv, extractEv, convEv, funcEv, allBox, bound, sliceEv, lookupEv, TD.isBool, allocEv, boxEv, storeEv, spl, plainTD, appendEv, appendArgs, makeMapEv, mapUpdateEv, buildEv, buildSliceEv, fillSV, zsvOf, sizeTD, Ty.parses, parses_flats', coeA, ← flats_append, flats_length, AV.good, AV.cells, AV.pure, SV.pure, av_int, av_bool, av_str, av_slice, av_cons, av_fld0, av_fld1, av_fld2, av_fld3, av_fld4, Ty.of, Ty.dflt, Ty.parse, Ty.flat, Ty.zsv, Ty.fld, Ty.get, Ty.off, Ty.nfld, Ty.size, coeTy, junk, Blk.look, argEnv, resEv, resOk, resVs, oneRV, retOk, frzAs, frzAV, frzL, frzSV, boxCaps, boxCap, SV.sig, sigs, RV.scalar, AV.scalar, SV.scalar, nope, effVCD_eq, effOf, SV.ids, AV.ids, dedup, SV.ren, AV.ren, RV.ren, idx, outId, mergeB, Blk.pureB, flats_pure, flat_pure, epsSlotsD_nil, epsSlotsD_cons, epsSlotD_eq, allEp, D.parts_fnOf, fvParts, retEff, round_E, av_fn, G.ye, isCutD_nil, isCutD_cons, firstReg_region, firstReg_seq, firstReg_skip, firstReg_ret, firstReg_label, firstReg_exit, firstReg_goto, firstReg_cond, firstReg_block, firstReg_scope, firstReg_loop, firstReg_rf, eptrOf_mk, flOfD_nil, flOfD_cons, vcFlD_cons, vcFlD_nil, flPairs_nil, flPairs_cons])⟩⟩, fun hge => ?_⟩
    · have : (List.range p.length).find? (fun i => decide (pr p i = r)) = some i := by
        rw [List.find?_range_eq_some]
        simp only [decide_eq_true_eq]
        exact ⟨he, by simpa using hlt, fun j hj => by simpa using hno j hj⟩
      simp [firstOf, this]
    · rcases Nat.lt_succ_iff_lt_or_eq.1 hj with h' | rfl
      · exact hno j h'
      · exact hne
    · have : (List.range p.length).find? (fun i => decide (pr p i = r)) = none := by
        rw [List.find?_eq_none]
        intro j hj
        have := hno j (by have := List.mem_range.1 hj; omega)
        simpa using this
      simp [firstOf, this]
  · exact hpre.elim
end Go.Am
