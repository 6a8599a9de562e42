/- The program of chapter 24: its types; the least functions. -/
import Derived.Test.YtdfafpmolbgklaaLs3
import Derived.Test.YtdfafpmolbgklaaLay
namespace Go.Am
set_option linter.unusedVariables false
set_option linter.unusedSimpArgs false
set_option maxHeartbeats 4000000
set_option maxRecDepth 20000
open Go.RowKit Go.Proofs

abbrev tPlace : Ty := .cons (.int .i64) (.cons (.int .i64) (.cons (.int .i64) .nil))
abbrev Pl := tPlace.T
abbrev tI : Ty := .int .i64
def adT : List (TypeId × TD) := [(3, .sc (.int .i64)), (4, .sc .bool), (5, .sc (.int .u8)), (23, .slice 3 (.int .i64) 8), (22, .slice 33 tPlace 24), (26, .sc (.int .i64)), (33, .struct tPlace), (52, .map 3 4 (.int .i64) .bool),
  (41, .func), (46, .func), (49, .func), (57, .func), (58, .func), (48, .func), (42, .map 3 41 (.int .i64) .fn)]

theorem ok_of_all {P : Program} {g : G} (h : ∀ p ∈ g.τ, p.2.ok P p.1) : G.ok P g := by
  intro t d hl
  have : ∀ l : List (TypeId × TD), look l t = some d → (t, d) ∈ l := by
    intro l
    induction l with
    | nil => intro h; simp [look] at h
    | cons p l ih =>
      intro h
      obtain ⟨k, x⟩ := p
      simp only [look] at h
      split at h
      · rename_i e; subst e; injection h with h; subst h; exact .head _
      · exact .tail _ (ih h)
  exact h _ (this _ hl)
def fieldsOf (P : Program) (t : TypeId) : Array Field := match P.underlying t with
  | some (.struct fs) => fs
  | _ => #[]
theorem adT_ok (g : G) (hg : g.τ = adT) : G.ok Try.prog g := by
  refine ok_of_all ?_
  rw [hg]
  simp only [adT, List.forall_mem_cons]
  refine ⟨?_, ?_, ?_, ?_, ?_, ?_, ?_, ?_, ?_, ?_, ?_, ?_, ?_, ?_, ?_, by simp⟩
  · exact ⟨by kernel_rfl, rfl, by kernel_rfl, rfl⟩
  · exact ⟨by kernel_rfl, rfl, by kernel_rfl, rfl⟩
  · exact ⟨by kernel_rfl, rfl, by kernel_rfl, rfl⟩
  · exact ⟨by kernel_rfl, by decide, by kernel_rfl, ⟨cellsV (Ty.zcells (.int .i64)), by kernel_rfl, by kernel_rfl, by kernel_rfl⟩, by kernel_rfl⟩
  · exact ⟨by kernel_rfl, by decide, by kernel_rfl, ⟨cellsV (Ty.zcells tPlace), by kernel_rfl, by kernel_rfl, by kernel_rfl⟩, by kernel_rfl⟩
  · exact ⟨by kernel_rfl, rfl, by kernel_rfl, rfl⟩
  · exact ⟨fieldsOf Try.prog 33, by kernel_rfl, by kernel_rfl, by kernel_rfl, by decide, by kernel_rfl⟩
  · exact ⟨by kernel_rfl, by kernel_rfl, by kernel_rfl, ⟨_, rfl⟩, rfl, rfl⟩
  · exact ⟨⟨_, _, _, Try.underlying41⟩, by kernel_rfl⟩
  · exact ⟨⟨_, _, _, Try.underlying46⟩, by kernel_rfl⟩
  · exact ⟨⟨_, _, _, Try.underlying49⟩, by kernel_rfl⟩
  · exact ⟨⟨_, _, _, Try.underlying57⟩, by kernel_rfl⟩
  · exact ⟨⟨_, _, _, Try.underlying58⟩, by kernel_rfl⟩
  · exact ⟨⟨_, _, _, Try.underlying48⟩, by kernel_rfl⟩
  · exact ⟨by kernel_rfl, by kernel_rfl, by kernel_rfl, ⟨_, rfl⟩, rfl, rfl⟩
theorem ad_mixed : Try.prog.follows .mixedOrders = true := by kernel_rfl

noncomputable def ad0Γ : List (FuncId × Con) := []
theorem ad0Γ_ok : ∀ p ∈ ad0Γ, (∀ (args : Array Value) (w : World), (callFunc p.1 args).run Try.prog w = .ok (.enter p.1 args) w) ∧ PureOk Try.prog p.1 p.2 := by simp [ad0Γ]
noncomputable def ad0E : List (FuncId × ECon) := []
theorem ad0E_ok : ∀ p ∈ ad0E, (∀ (args : Array Value) (w : World), (callFunc p.1 args).run Try.prog w = .ok (.enter p.1 args) w) ∧ EffOk Try.prog p.1 p.2 := by simp [ad0E]
noncomputable def ad0 : G := { τ := adT, Γ := ad0Γ, E := ad0E }
theorem ad0_good : ad0.good Try.prog := good_of_all (adT_ok _ rfl) ad0Γ_ok ad0E_ok
theorem ad0_td (t : TypeId) : ad0.td t = (look adT t).getD .other := rfl
theorem ad0_y : ad0.y = false := rfl
theorem ad0_Γ : ad0.Γ = ad0Γ := rfl
theorem ad0_E : ad0.E = ad0E := rfl
noncomputable def ad0y : G := { τ := adT, Γ := ad0Γ, E := ad0E, y := true }
theorem ad0y_good : ad0y.good Try.prog := good_of_all (adT_ok _ rfl) ad0Γ_ok ad0E_ok
theorem ad0y_td (t : TypeId) : ad0y.td t = (look adT t).getD .other := rfl
theorem ad0y_y : ad0y.y = true := rfl
theorem ad0y_Γ : ad0y.Γ = ad0Γ := rfl
theorem ad0y_E : ad0y.E = ad0E := rfl

def conFew : Con := ⟨fun args => (match args with
  | [.s (.sl (.cons (.int .i64) (.cons (.int .i64) (.cons (.int .i64) .nil))) _ _), .s (.sl (.int .i64) _ _)] => True
  | _ => False), fun args => match args with
  | [.s (.sl _ p _), .s (.sl _ l _)] => .v (aB (decide (p.length ≤ 30) && decide (l.length ≤ 40)))
  | _ => .v (.s .any)⟩
theorem conFew_pre (p : List Pl) (ex : Bool) (l : List Int) (ex' : Bool) : conFew.pre [.s (.sl tPlace p ex), .s (.sl tI l ex')] = True := rfl
theorem conFew_val (p : List Pl) (ex : Bool) (l : List Int) (ex' : Bool) : conFew.val [.s (.sl tPlace p ex), .s (.sl tI l ex')] = .v (aB (decide (p.length ≤ 30) && decide (l.length ≤ 40))) := rfl
theorem few_ok : PureOk Try.prog 9 conFew := by
  refine pureOkD (L := { live := [0, 1, 4], frz := [] }) ad0_good rfl ad_mixed Try.func9 rfl conFew 2 (by decide) (by kernel_rfl) ?_
  intro args hpre _
  simp only [conFew] at hpre
  split at hpre
  · rename_i p ex l ex'
    refine ⟨rfl, ?_⟩
    simp -dsimp -implicitDefEqProofs [Try.f9, conFew_val, thenKD_normal, thenKD_exit, thenKD_goto, thenKD_ret, inBlockKD_normal, inBlockKD_exit, inBlockKD_goto, inBlockKD_ret, noGotoKD_normal, noGotoKD_exit, noGotoKD_goto, noGotoKD_ret, roundKD_normal, roundKD_exit, roundKD_goto, roundKD_ret, frzSlotsD_nil, frzSlotsD_cons, frzSlotD_eq, yieldVCD_trace, opVCD_eq, vcOpsD_nil, vcOpsD_cons, vcAllD_zero, vcAllD_succ, allAtD_nil, allAtD_cons, readyAux, edgA, vcD_skip, vcD_label, vcD_exit, vcD_goto, vcD_ret, vcD_region, vcD_seq, vcD_seqC, vcD_cond, vcCondD_bool, vcD_block, vcD_scope, vcD_loop, vcD_rangeFunc, yieldOf, isMem, isMem0, keepE, envLe, St.le, psE, yieldAV, round_td, round_y, round_Γ, vI, vB, vS, aI, aB, aS, look, getE, oper, opRV, putE, allOk, okOps, Op.operands, Call.operands, pEv, qEv, mEv, constRV, coe, RV.av, loadEv, loadCs, takeAt, indexAddrEv, fieldAddrEv, binEv, intEv, arith, unEv, gcond, pickEv, argsEv, callVal, callEv, capAV_mk, lenArgs, lenEv, minEv, extractEv, convEv, funcEv, allBox, bound, sliceEv, lookupEv, TD.isBool, allocEv, boxEv, storeEv, spl, plainTD, appendEv, appendArgs, makeMapEv, mapUpdateEv, buildEv, buildSliceEv, fillSV, zsvOf, sizeTD, Ty.parses, parses_flats', coeA, ← flats_append, flats_length, AV.good, AV.cells, AV.pure, SV.pure, av_int, av_bool, av_str, av_slice, av_cons, av_fld0, av_fld1, av_fld2, av_fld3, av_fld4, Ty.of, Ty.dflt, Ty.parse, Ty.flat, Ty.zsv, Ty.fld, Ty.get, Ty.off, Ty.nfld, Ty.size, coeTy, junk, Blk.look, argEnv, resEv, resOk, resVs, oneRV, retOk, frzAs, frzAV, frzL, frzSV, boxCaps, boxCap, SV.sig, sigs, RV.scalar, AV.scalar, SV.scalar, nope, effVCD_eq, effOf, SV.ids, AV.ids, dedup, SV.ren, AV.ren, RV.ren, idx, outId, mergeB, Blk.pureB, flats_pure, flat_pure, epsSlotsD_nil, epsSlotsD_cons, epsSlotD_eq, allEp, D.parts_fnOf, fvParts, retEff, round_E, av_fn, G.ye, isCutD_nil, isCutD_cons, firstReg_region, firstReg_seq, firstReg_skip, firstReg_ret, firstReg_label, firstReg_exit, firstReg_goto, firstReg_cond, firstReg_block, firstReg_scope, firstReg_loop, firstReg_rf, eptrOf_mk, flOfD_nil, flOfD_cons, vcFlD_cons, vcFlD_nil, flPairs_nil, flPairs_cons, ad0_td, ad0_y, ad0_Γ, ad0_E, adT, ad0Γ, ad0E, inI64]
    congr 1 <;> exact decide_eq_decide.2 (by omega)
  · exact hpre.elim

def conSame : Con := ⟨fun args => (match args with
  | [.s (.sl (.int .i64) _ _), .s (.sl (.int .i64) _ _)] => True
  | _ => False), fun args => match args with
  | [.s (.sl (.int _) xs _), .s (.sl (.int _) ys _)] => .v (aB (decide (xs = ys)))
  | _ => .v (.s .any)⟩
theorem conSame_pre (p : List Int) (ex : Bool) (l : List Int) (ex' : Bool) : conSame.pre [.s (.sl tI p ex), .s (.sl tI l ex')] = True := rfl
theorem conSame_val (p : List Int) (ex : Bool) (l : List Int) (ex' : Bool) : conSame.val [.s (.sl tI p ex), .s (.sl tI l ex')] = .v (aB (decide (p = l))) := rfl
theorem same_ok : PureOk Try.prog 12 conSame := by
  refine pureOkD (L := { live := [0, 1, 4, 5, 10, 14, 25], frz := [] }) ad0_good rfl ad_mixed Try.func12 rfl conSame 2 (by decide) (by kernel_rfl) ?_
  intro args hpre hlens
  simp only [conSame] at hpre
  split at hpre
  · rename_i xs ex ys ex'
    obtain ⟨⟨hlen, _⟩, _⟩ := hlens
    refine ⟨rfl, ?_⟩
    simp only [maxLen] at hlen
    simp -dsimp -implicitDefEqProofs [Try.f12, conSame_val, thenKD_normal, thenKD_exit, thenKD_goto, thenKD_ret, inBlockKD_normal, inBlockKD_exit, inBlockKD_goto, inBlockKD_ret, noGotoKD_normal, noGotoKD_exit, noGotoKD_goto, noGotoKD_ret, roundKD_normal, roundKD_exit, roundKD_goto, roundKD_ret, frzSlotsD_nil, frzSlotsD_cons, frzSlotD_eq, yieldVCD_trace, opVCD_eq, vcOpsD_nil, vcOpsD_cons, vcAllD_zero, vcAllD_succ, allAtD_nil, allAtD_cons, readyAux, edgA, vcD_skip, vcD_label, vcD_exit, vcD_goto, vcD_ret, vcD_region, vcD_seq, vcD_seqC, vcD_cond, vcCondD_bool, vcD_block, vcD_scope, vcD_loop, vcD_rangeFunc, yieldOf, isMem, isMem0, keepE, envLe, St.le, psE, yieldAV, round_td, round_y, round_Γ, vI, vB, vS, aI, aB, aS, look, getE, oper, opRV, putE, allOk, okOps, Op.operands, Call.operands, pEv, qEv, mEv, constRV, coe, RV.av, loadEv, loadCs, takeAt, indexAddrEv, fieldAddrEv, binEv, intEv, arith, unEv, gcond, pickEv, argsEv, callVal, callEv, capAV_mk, lenArgs, lenEv, minEv, extractEv, convEv, funcEv, allBox, bound, sliceEv, lookupEv, TD.isBool, allocEv, boxEv, storeEv, spl, plainTD, appendEv, appendArgs, makeMapEv, mapUpdateEv, buildEv, buildSliceEv, fillSV, zsvOf, sizeTD, Ty.parses, parses_flats', coeA, ← flats_append, flats_length, AV.good, AV.cells, AV.pure, SV.pure, av_int, av_bool, av_str, av_slice, av_cons, av_fld0, av_fld1, av_fld2, av_fld3, av_fld4, Ty.of, Ty.dflt, Ty.parse, Ty.flat, Ty.zsv, Ty.fld, Ty.get, Ty.off, Ty.nfld, Ty.size, coeTy, junk, Blk.look, argEnv, resEv, resOk, resVs, oneRV, retOk, frzAs, frzAV, frzL, frzSV, boxCaps, boxCap, SV.sig, sigs, RV.scalar, AV.scalar, SV.scalar, nope, effVCD_eq, effOf, SV.ids, AV.ids, dedup, SV.ren, AV.ren, RV.ren, idx, outId, mergeB, Blk.pureB, flats_pure, flat_pure, epsSlotsD_nil, epsSlotsD_cons, epsSlotD_eq, allEp, D.parts_fnOf, fvParts, retEff, round_E, av_fn, G.ye, isCutD_nil, isCutD_cons, firstReg_region, firstReg_seq, firstReg_skip, firstReg_ret, firstReg_label, firstReg_exit, firstReg_goto, firstReg_cond, firstReg_block, firstReg_scope, firstReg_loop, firstReg_rf, eptrOf_mk, flOfD_nil, flOfD_cons, vcFlD_cons, vcFlD_nil, flPairs_nil, flPairs_cons, ad0_td, ad0_y, ad0_Γ, ad0_E, adT, ad0Γ, ad0E, inI64]
    refine ⟨fun h e => h (by rw [e]), fun h => ?_⟩
    refine WpD.loop (L := { live := [0, 1, 4, 5, 10, 14, 25], frz := [] }) ad0_good X0_ok ad_mixed (by kernel_rfl) (ι := Nat)
      (fun i => ⟨[(0, vS tI xs ex), (1, vS tI ys ex'), (4, vB false), (5, vI i)], []⟩)
      (fun i => i ≤ xs.length ∧ xs.take i = ys.take i) (fun i => xs.length - i) 0 (by simp) (Turn.le (by simp -dsimp -implicitDefEqProofs [thenKD_normal, thenKD_exit, thenKD_goto, thenKD_ret, inBlockKD_normal, inBlockKD_exit, inBlockKD_goto, inBlockKD_ret, noGotoKD_normal, noGotoKD_exit, noGotoKD_goto, noGotoKD_ret, roundKD_normal, roundKD_exit, roundKD_goto, roundKD_ret, frzSlotsD_nil, frzSlotsD_cons, frzSlotD_eq, yieldVCD_trace, opVCD_eq, vcOpsD_nil, vcOpsD_cons, vcAllD_zero, vcAllD_succ, allAtD_nil, allAtD_cons, readyAux, edgA, vcD_skip, vcD_label, vcD_exit, vcD_goto, vcD_ret, vcD_region, vcD_seq, vcD_seqC, vcD_cond, vcCondD_bool, vcD_block, vcD_scope, vcD_loop, vcD_rangeFunc, yieldOf, isMem, isMem0, keepE, envLe, St.le, psE, yieldAV, round_td, round_y, round_Γ, vI, vB, vS, aI, aB, aS, look, getE, oper, opRV, putE, allOk, okOps, Op.operands, Call.operands, pEv, qEv, mEv, constRV, coe, RV.av, loadEv, loadCs, takeAt, indexAddrEv, fieldAddrEv, binEv, intEv, arith, unEv, gcond, pickEv, argsEv, callVal, callEv, capAV_mk, lenArgs, lenEv, minEv, extractEv, convEv, funcEv, allBox, bound, sliceEv, lookupEv, TD.isBool, allocEv, boxEv, storeEv, spl, plainTD, appendEv, appendArgs, makeMapEv, mapUpdateEv, buildEv, buildSliceEv, fillSV, zsvOf, sizeTD, Ty.parses, parses_flats', coeA, ← flats_append, flats_length, AV.good, AV.cells, AV.pure, SV.pure, av_int, av_bool, av_str, av_slice, av_cons, av_fld0, av_fld1, av_fld2, av_fld3, av_fld4, Ty.of, Ty.dflt, Ty.parse, Ty.flat, Ty.zsv, Ty.fld, Ty.get, Ty.off, Ty.nfld, Ty.size, coeTy, junk, Blk.look, argEnv, resEv, resOk, resVs, oneRV, retOk, frzAs, frzAV, frzL, frzSV, boxCaps, boxCap, SV.sig, sigs, RV.scalar, AV.scalar, SV.scalar, nope, effVCD_eq, effOf, SV.ids, AV.ids, dedup, SV.ren, AV.ren, RV.ren, idx, outId, mergeB, Blk.pureB, flats_pure, flat_pure, epsSlotsD_nil, epsSlotsD_cons, epsSlotD_eq, allEp, D.parts_fnOf, fvParts, retEff, round_E, av_fn, G.ye, isCutD_nil, isCutD_cons, firstReg_region, firstReg_seq, firstReg_skip, firstReg_ret, firstReg_label, firstReg_exit, firstReg_goto, firstReg_cond, firstReg_block, firstReg_scope, firstReg_loop, firstReg_rf, eptrOf_mk, flOfD_nil, flOfD_cons, vcFlD_cons, vcFlD_nil, flPairs_nil, flPairs_cons])) ?_
    rintro i ⟨hi, he⟩
    simp -dsimp -implicitDefEqProofs [conSame_val, thenKD_normal, thenKD_exit, thenKD_goto, thenKD_ret, inBlockKD_normal, inBlockKD_exit, inBlockKD_goto, inBlockKD_ret, noGotoKD_normal, noGotoKD_exit, noGotoKD_goto, noGotoKD_ret, roundKD_normal, roundKD_exit, roundKD_goto, roundKD_ret, frzSlotsD_nil, frzSlotsD_cons, frzSlotD_eq, yieldVCD_trace, opVCD_eq, vcOpsD_nil, vcOpsD_cons, vcAllD_zero, vcAllD_succ, allAtD_nil, allAtD_cons, readyAux, edgA, vcD_skip, vcD_label, vcD_exit, vcD_goto, vcD_ret, vcD_region, vcD_seq, vcD_seqC, vcD_cond, vcCondD_bool, vcD_block, vcD_scope, vcD_loop, vcD_rangeFunc, yieldOf, isMem, isMem0, keepE, envLe, St.le, psE, yieldAV, round_td, round_y, round_Γ, vI, vB, vS, aI, aB, aS, look, getE, oper, opRV, putE, allOk, okOps, Op.operands, Call.operands, pEv, qEv, mEv, constRV, coe, RV.av, loadEv, loadCs, takeAt, indexAddrEv, fieldAddrEv, binEv, intEv, arith, unEv, gcond, pickEv, argsEv, callVal, callEv, capAV_mk, lenArgs, lenEv, minEv, extractEv, convEv, funcEv, allBox, bound, sliceEv, lookupEv, TD.isBool, allocEv, boxEv, storeEv, spl, plainTD, appendEv, appendArgs, makeMapEv, mapUpdateEv, buildEv, buildSliceEv, fillSV, zsvOf, sizeTD, Ty.parses, parses_flats', coeA, ← flats_append, flats_length, AV.good, AV.cells, AV.pure, SV.pure, av_int, av_bool, av_str, av_slice, av_cons, av_fld0, av_fld1, av_fld2, av_fld3, av_fld4, Ty.of, Ty.dflt, Ty.parse, Ty.flat, Ty.zsv, Ty.fld, Ty.get, Ty.off, Ty.nfld, Ty.size, coeTy, junk, Blk.look, argEnv, resEv, resOk, resVs, oneRV, retOk, frzAs, frzAV, frzL, frzSV, boxCaps, boxCap, SV.sig, sigs, RV.scalar, AV.scalar, SV.scalar, nope, effVCD_eq, effOf, SV.ids, AV.ids, dedup, SV.ren, AV.ren, RV.ren, idx, outId, mergeB, Blk.pureB, flats_pure, flat_pure, epsSlotsD_nil, epsSlotsD_cons, epsSlotD_eq, allEp, D.parts_fnOf, fvParts, retEff, round_E, av_fn, G.ye, isCutD_nil, isCutD_cons, firstReg_region, firstReg_seq, firstReg_skip, firstReg_ret, firstReg_label, firstReg_exit, firstReg_goto, firstReg_cond, firstReg_block, firstReg_scope, firstReg_loop, firstReg_rf, eptrOf_mk, flOfD_nil, flOfD_cons, vcFlD_cons, vcFlD_nil, flPairs_nil, flPairs_cons, ad0_td, ad0_y, ad0_Γ, ad0_E, adT, ad0Γ, ad0E, inI64]
    refine ⟨fun hlt => ?_, fun hge => ?_⟩
    · have hlt' : i < ys.length := by omega
      rw [getD_lt hlt, getD_lt hlt']
      refine ⟨hlt, hlt', fun h e => h (by simp -dsimp -implicitDefEqProofs [e]), fun h => ⟨by omega, i + 1, ⟨by omega, ?_⟩, by omega, TurnT.le (by simp [thenKD_normal, thenKD_exit, thenKD_goto, thenKD_ret, inBlockKD_normal, inBlockKD_exit, inBlockKD_goto, inBlockKD_ret, noGotoKD_normal, noGotoKD_exit, noGotoKD_goto, noGotoKD_ret, roundKD_normal, roundKD_exit, roundKD_goto, roundKD_ret, frzSlotsD_nil, frzSlotsD_cons, frzSlotD_eq, yieldVCD_trace, opVCD_eq, vcOpsD_nil, vcOpsD_cons, vcAllD_zero, vcAllD_succ, allAtD_nil, allAtD_cons, readyAux, edgA, vcD_skip, vcD_label, vcD_exit, vcD_goto, vcD_ret, vcD_region, vcD_seq, vcD_seqC, vcD_cond, vcCondD_bool, vcD_block, vcD_scope, vcD_loop, vcD_rangeFunc, yieldOf, isMem, isMem0, keepE, envLe, St.le, psE, yieldAV, round_td, round_y, round_Γ, vI, vB, vS, aI, aB, aS, look, getE, oper, opRV, putE, allOk, okOps, Op.operands, Call.operands, pEv, qEv, mEv, constRV, coe, RV.av, loadEv, loadCs, takeAt, indexAddrEv, fieldAddrEv, binEv, intEv, arith, unEv, gcond, pickEv, argsEv, callVal, callEv, capAV_mk, lenArgs, lenEv, minEv, extractEv, convEv, funcEv, allBox, bound, sliceEv, lookupEv, TD.isBool, allocEv, boxEv, storeEv, spl, plainTD, appendEv, appendArgs, makeMapEv, mapUpdateEv, buildEv, buildSliceEv, fillSV, zsvOf, sizeTD, Ty.parses, parses_flats', coeA, ← flats_append, flats_length, AV.good, AV.cells, AV.pure, SV.pure, av_int, av_bool, av_str, av_slice, av_cons, av_fld0, av_fld1, av_fld2, av_fld3, av_fld4, Ty.of, Ty.dflt, Ty.parse, Ty.flat, Ty.zsv, Ty.fld, Ty.get, Ty.off, Ty.nfld, Ty.size, coeTy, junk, Blk.look, argEnv, resEv, resOk, resVs, oneRV, retOk, frzAs, frzAV, frzL, frzSV, boxCaps, boxCap, SV.sig, sigs, RV.scalar, AV.scalar, SV.scalar, nope, effVCD_eq, effOf, SV.ids, AV.ids, dedup, SV.ren, AV.ren, RV.ren, idx, outId, mergeB, Blk.pureB, flats_pure, flat_pure, epsSlotsD_nil, epsSlotsD_cons, epsSlotD_eq, allEp, D.parts_fnOf, fvParts, retEff, round_E, av_fn, G.ye, isCutD_nil, isCutD_cons, firstReg_region, firstReg_seq, firstReg_skip, firstReg_ret, firstReg_label, firstReg_exit, firstReg_goto, firstReg_cond, firstReg_block, firstReg_scope, firstReg_loop, firstReg_rf, eptrOf_mk, flOfD_nil, flOfD_cons, vcFlD_cons, vcFlD_nil, flPairs_nil, flPairs_cons])⟩⟩
      rw [List.take_add_one, List.take_add_one, he, List.getElem?_eq_getElem hlt, List.getElem?_eq_getElem hlt', h]
    · rw [List.take_of_length_le (by omega), List.take_of_length_le (by omega)] at he
      exact he
  · exact hpre.elim
end Go.Am
