/- The program of chapter 25: the second law. -/
import Derived.Test.YthdojmkfpiocmaaPz11
namespace Go.Am
set_option linter.unusedVariables false
set_option linter.unusedSimpArgs false
set_option maxHeartbeats 4000000
set_option maxRecDepth 20000
open Go.RowKit Go.Proofs

theorem conSane_pre : conSane.pre [] = True := by simp [conSane]
theorem conSane_val : conSane.val [] = .v (aB true) := rfl
theorem conFew_pre (xs : List Int) (ex : Bool) (ps : List Pl) (ex' : Bool) : conFew.pre [.s (.sl tI xs ex), .s (.sl tPlace ps ex')] = True := eq_true ⟨xs, ex, ps, ex', rfl⟩
theorem conFew_val (xs : List Int) (ex : Bool) (ps : List Pl) (ex' : Bool) : conFew.val [.s (.sl tI xs ex), .s (.sl tPlace ps ex')] = .v (aB (decide (xs.length ≤ 70) && decide (ps.length ≤ 30))) := rfl
theorem conShare_pre (xs : List Int) (ex : Bool) (ps : List Pl) (ex' : Bool) : conShare.pre [.s (.sl tI xs ex), .s (.sl tPlace ps ex')] = (xs.length ≤ 70 ∧ ps.length ≤ 30) := by
  apply propext
  constructor
  · rintro ⟨l, e, p, e', h, h1, h2⟩
    simp only [List.cons.injEq, AV.s.injEq, SV.sl.injEq, heq_eq_eq, true_and, and_true] at h
    obtain ⟨⟨rfl, rfl⟩, rfl, rfl⟩ := h
    exact ⟨h1, h2⟩
  · rintro ⟨h1, h2⟩
    exact ⟨xs, ex, ps, ex', rfl, h1, h2⟩
theorem conShare_val (xs : List Int) (ex : Bool) (ps : List Pl) (ex' : Bool) : conShare.val [.s (.sl tI xs ex), .s (.sl tPlace ps ex')] = .tup [aS tI (shareL xs ps) false, aI (shareLeft xs ps), aI (shareErr xs ps)] := rfl
theorem conSame_pre (xs : List Int) (ex : Bool) (ps : List Int) (ex' : Bool) : conSame.pre [.s (.sl tI xs ex), .s (.sl tI ps ex')] = True := eq_true ⟨xs, ex, ps, ex', rfl⟩
theorem conSame_val (xs : List Int) (ex : Bool) (ps : List Int) (ex' : Bool) : conSame.val [.s (.sl tI xs ex), .s (.sl tI ps ex')] = .v (aB (decide (xs = ps))) := rfl
theorem conSum_pre (xs : List Int) (ex : Bool) : conSum.pre [.s (.sl tI xs ex)] = ∀ k, k ≤ xs.length → inI64 (isum (xs.take k)) := by
  apply propext
  constructor
  · rintro ⟨l, e, h, h1⟩
    simp only [List.cons.injEq, AV.s.injEq, SV.sl.injEq, heq_eq_eq, true_and, and_true] at h
    obtain ⟨rfl, rfl⟩ := h
    exact h1
  · intro h; exact ⟨xs, ex, rfl, h⟩
theorem conSum_val (xs : List Int) (ex : Bool) : conSum.val [.s (.sl tI xs ex)] = .v (aI (isum xs)) := rfl
theorem conRight_pre (xs : List Int) (ex : Bool) : conRight.pre [.s (.sl tI xs ex)] = True := eq_true ⟨xs, ex, rfl⟩
theorem conRight_val (xs : List Int) (ex : Bool) : conRight.val [.s (.sl tI xs ex)] = .v (aB (right xs)) := rfl
theorem conCheck_pre (ps : List Pl) (ex' : Bool) : conCheck.pre [.s (.sl tPlace ps ex')] = True := eq_true ⟨ps, ex', rfl⟩
theorem conCheck_val (ps : List Pl) (ex' : Bool) : conCheck.val [.s (.sl tPlace ps ex')] = .v (aI (check ps)) := rfl
theorem conPlaces_pre (xs : List Int) (ex : Bool) : conPlaces.pre [.s (.sl tI xs ex)] = (xs.length ≤ 100) := by
  apply propext
  constructor
  · rintro ⟨l, e, h, h1⟩
    simp only [List.cons.injEq, AV.s.injEq, SV.sl.injEq, heq_eq_eq, true_and, and_true] at h
    obtain ⟨rfl, rfl⟩ := h
    exact h1
  · intro h; exact ⟨xs, ex, rfl, h⟩
theorem conPlaces_val (xs : List Int) (ex : Bool) : conPlaces.val [.s (.sl tI xs ex)] = .v (aS tPlace (placesL xs) false) := rfl
theorem conPrize_pre (xs : List Int) (ex : Bool) (k : Int) : conPrize.pre [.s (.sl tI xs ex), .s (.int .i64 k)] = (1 ≤ k) := by
  apply propext
  constructor
  · rintro ⟨l, e, q, h, h1⟩
    simp only [List.cons.injEq, AV.s.injEq, SV.sl.injEq, SV.int.injEq, heq_eq_eq, true_and, and_true] at h
    obtain ⟨⟨rfl, rfl⟩, rfl⟩ := h
    exact h1
  · intro h; exact ⟨xs, ex, k, rfl, h⟩
theorem conPrize_val (xs : List Int) (ex : Bool) (k : Int) : conPrize.val [.s (.sl tI xs ex), .s (.int .i64 k)] = .v (aI (prize xs k)) := rfl

theorem shareL_len {l : List Int} {p : List Pl} (h : shareErr l p = 0) : (shareL l p).length = p.length := by
  unfold shareL; rw [if_pos h]; simp [sharesTo]
theorem shareL_get {l : List Int} {p : List Pl} (h : shareErr l p = 0) {i : Nat} (hi : i < p.length) : (shareL l p)[i]?.getD 0 = shareAt l p i := by
  unfold shareL; rw [if_pos h]; simp [sharesTo, hi]
theorem shareL_mem {l : List Int} {p : List Pl} (h : shareErr l p = 0) {x : Int} (hx : x ∈ shareL l p) : 0 ≤ x ∧ x ≤ 1099511627776 := by
  obtain ⟨h1, h2⟩ := share_err h
  unfold shareL at hx; rw [if_pos h] at hx
  simp only [sharesTo, List.mem_map, List.mem_range] at hx
  obtain ⟨i, hi, rfl⟩ := hx
  exact shareAt_bounds h1 h2 hi
theorem shareL_sum {l : List Int} {p : List Pl} (h : shareErr l p = 0) (hp : p.length ≤ 30) (k : Nat) : 0 ≤ isum ((shareL l p).take k) ∧ isum ((shareL l p).take k) ≤ 30 * 1099511627776 := by
  have h1 := isum_bounds (b := 1099511627776) (by omega) ((shareL l p).take k) (fun x hx => shareL_mem h (List.mem_of_mem_take hx))
  have h2 : ((shareL l p).take k).length ≤ 30 := by rw [List.length_take, shareL_len h]; omega
  omega
theorem share_left {l : List Int} {p : List Pl} (h : shareErr l p = 0) : isum (shareL l p) + shareLeft l p = isum l ∧ 0 ≤ shareLeft l p - isum (l.drop p.length) ∧ shareLeft l p - isum (l.drop p.length) ≤ max 0 ((p.length : Int) - 1) ∧ 0 ≤ isum (l.drop p.length) ∧ isum (l.drop p.length) ≤ 64 * 1099511627776 := by
  obtain ⟨h1, h2⟩ := share_err h
  have h3 := left_bounds h1 h2
  have h4 := isum_take_drop l p.length
  have h5 := isum_bounds (b := 1099511627776) (by omega) (l.drop p.length) (fun x hx => right_mem h1 (List.mem_of_mem_drop hx))
  have h6 : (l.drop p.length).length ≤ 64 := by rw [List.length_drop]; have := right_len h1; omega
  unfold shareL shareLeft
  rw [if_pos h, if_pos h]
  omega
theorem conLaw_val (args : List AV) : conLaw.val args = .v (aB true) := rfl

theorem all_ok : PureOk Try.prog 4 conLaw := by
  refine pureOkD (L := ⟨[0, 1, 4, 5, 6, 7, 9, 10, 12, 16, 25, 50, 51, 52, 53, 54, 58, 64], [], []⟩) g3_good rfl pz_mixed Try.func4 rfl conLaw 2 (by decide) (by kernel_rfl) ?_
  rintro _ ⟨l, ex, p, ex', rfl⟩ _
  refine ⟨rfl, ?_⟩
  simp -dsimp [Try.f4, conLaw, conSane_pre, conSane_val, conFew_pre, conFew_val, conShare_pre, conShare_val, conSum_pre, conSum_val, thenKD_normal, thenKD_exit, thenKD_goto, thenKD_ret, inBlockKD_normal, inBlockKD_exit, inBlockKD_goto, inBlockKD_ret, noGotoKD_normal, noGotoKD_exit, noGotoKD_goto, noGotoKD_ret, roundKD_normal, roundKD_exit, roundKD_goto, roundKD_ret, frzSlotsD_nil, frzSlotsD_cons, frzSlotD_eq, yieldVCD_trace, opVCD_eq, vcOpsD_nil, vcOpsD_cons, vcAllD_zero, vcAllD_succ, allAtD_nil, allAtD_cons, readyAux, edgA, vcD_skip, vcD_label, vcD_exit, vcD_goto, vcD_ret, vcD_region, vcD_seq, vcD_cond, vcCondD_bool, vcD_block, vcD_scope, vcD_loop, vcD_rangeFunc, yieldOf, isMem, isMem0, keepE, envLe, St.le, psE, yieldAV, round_td, round_y, round_Γ, vI, vB, vS, aI, aB, aS, look, getE, oper, opRV, putE, allOk, okOps, Op.operands, Call.operands, pEv, qEv, mEv, constRV, coe, RV.av, loadEv, loadCs, takeAt, indexAddrEv, fieldAddrEv, binEv, intEv, arith, unEv, gcond, pickEv, argsEv, callVal, callEv, capAV, lenArgs, lenEv, minEv, extractEv, funcEv, allBox, bound, sliceEv, lookupEv, TD.isBool, allocEv, boxEv, storeEv, spl, plainTD, appendEv, appendArgs, makeMapEv, mapUpdateEv, buildEv, buildSliceEv, fillSV, zsvOf, sizeTD, Ty.parses, parses_flats', coeA, ← flats_append, flats_length, AV.good, AV.cells, AV.pure, SV.pure, av_int, av_bool, av_str, av_slice, av_cons, av_fld0, av_fld1, av_fld2, av_fld3, av_fld4, Ty.of, Ty.dflt, Ty.parse, Ty.flat, Ty.zsv, Ty.fld, Ty.get, Ty.off, Ty.nfld, Ty.size, coeTy, junk, Blk.look, argEnv, resEv, resOk, resVs, oneRV, retOk, frzAs, frzAV, frzL, frzSV, boxCaps, boxCap, SV.sig, sigs, RV.scalar, AV.scalar, SV.scalar, nope, g3_td, g3_y, g3_Γ, pzT, pzG3, pzG2, pzG1, inI64]
  intro hl hp
  refine ⟨⟨hl, hp⟩, fun h => ?_, fun h => ?_⟩
  · unfold shareL shareLeft; rw [if_neg h, if_neg h]; exact ⟨rfl, rfl⟩
  have h1 := shareL_len h
  obtain ⟨h2, h3, h4, h5, h6⟩ := share_left h
  have h7 := shareL_sum h hp
  obtain ⟨hr, _⟩ := share_err h
  have h8 := fun k => sum_bounds hr k
  have h9 := h8 l.length
  rw [List.take_length] at h9
  have h10 := h7 (shareL l p).length
  rw [List.take_length] at h10
  refine ⟨fun _ _ => ⟨⟨by omega, by omega⟩, fun k _ => by have := h7 k; omega⟩, fun _ _ => ⟨⟨by omega, by omega⟩, by omega⟩, fun _ _ => ⟨⟨by omega, by omega⟩, fun k _ => by have := h8 k; omega⟩, ⟨⟨by omega, by omega⟩, h2⟩, fun _ _ _ => ?_⟩
  refine WpD.loop (L := ⟨[0, 1, 4, 5, 6, 7, 9, 10, 12, 16, 25, 50, 51, 52, 53, 54, 58, 64], [], []⟩) g3_good X0_ok pz_mixed (by kernel_rfl) (ι := Nat)
    (fun i => ⟨[(0, vS tI l ex), (1, vS tPlace p ex'), (4, vB false), (6, vI (shareLeft l p)), (51, vS tI (shareL l p) false), (52, vI (shareL l p).length), (53, vI i)], []⟩)
    (fun i => i ≤ p.length) (fun i => p.length - i) 0 (by simp) (Turn.le (by simp -dsimp [thenKD_normal, thenKD_exit, thenKD_goto, thenKD_ret, inBlockKD_normal, inBlockKD_exit, inBlockKD_goto, inBlockKD_ret, noGotoKD_normal, noGotoKD_exit, noGotoKD_goto, noGotoKD_ret, roundKD_normal, roundKD_exit, roundKD_goto, roundKD_ret, frzSlotsD_nil, frzSlotsD_cons, frzSlotD_eq, yieldVCD_trace, opVCD_eq, vcOpsD_nil, vcOpsD_cons, vcAllD_zero, vcAllD_succ, allAtD_nil, allAtD_cons, readyAux, edgA, vcD_skip, vcD_label, vcD_exit, vcD_goto, vcD_ret, vcD_region, vcD_seq, vcD_cond, vcCondD_bool, vcD_block, vcD_scope, vcD_loop, vcD_rangeFunc, yieldOf, isMem, isMem0, keepE, envLe, St.le, psE, yieldAV, round_td, round_y, round_Γ, vI, vB, vS, aI, aB, aS, look, getE, oper, opRV, putE, allOk, okOps, Op.operands, Call.operands, pEv, qEv, mEv, constRV, coe, RV.av, loadEv, loadCs, takeAt, indexAddrEv, fieldAddrEv, binEv, intEv, arith, unEv, gcond, pickEv, argsEv, callVal, callEv, capAV, lenArgs, lenEv, minEv, extractEv, funcEv, allBox, bound, sliceEv, lookupEv, TD.isBool, allocEv, boxEv, storeEv, spl, plainTD, appendEv, appendArgs, makeMapEv, mapUpdateEv, buildEv, buildSliceEv, fillSV, zsvOf, sizeTD, Ty.parses, parses_flats', coeA, ← flats_append, flats_length, AV.good, AV.cells, AV.pure, SV.pure, av_int, av_bool, av_str, av_slice, av_cons, av_fld0, av_fld1, av_fld2, av_fld3, av_fld4, Ty.of, Ty.dflt, Ty.parse, Ty.flat, Ty.zsv, Ty.fld, Ty.get, Ty.off, Ty.nfld, Ty.size, coeTy, junk, Blk.look, argEnv, resEv, resOk, resVs, oneRV, retOk, frzAs, frzAV, frzL, frzSV, boxCaps, boxCap, SV.sig, sigs, RV.scalar, AV.scalar, SV.scalar, nope])) ?_
  intro i hi
  simp -dsimp [conLaw, conSum_pre, conSum_val, thenKD_normal, thenKD_exit, thenKD_goto, thenKD_ret, inBlockKD_normal, inBlockKD_exit, inBlockKD_goto, inBlockKD_ret, noGotoKD_normal, noGotoKD_exit, noGotoKD_goto, noGotoKD_ret, roundKD_normal, roundKD_exit, roundKD_goto, roundKD_ret, frzSlotsD_nil, frzSlotsD_cons, frzSlotD_eq, yieldVCD_trace, opVCD_eq, vcOpsD_nil, vcOpsD_cons, vcAllD_zero, vcAllD_succ, allAtD_nil, allAtD_cons, readyAux, edgA, vcD_skip, vcD_label, vcD_exit, vcD_goto, vcD_ret, vcD_region, vcD_seq, vcD_cond, vcCondD_bool, vcD_block, vcD_scope, vcD_loop, vcD_rangeFunc, yieldOf, isMem, isMem0, keepE, envLe, St.le, psE, yieldAV, round_td, round_y, round_Γ, vI, vB, vS, aI, aB, aS, look, getE, oper, opRV, putE, allOk, okOps, Op.operands, Call.operands, pEv, qEv, mEv, constRV, coe, RV.av, loadEv, loadCs, takeAt, indexAddrEv, fieldAddrEv, binEv, intEv, arith, unEv, gcond, pickEv, argsEv, callVal, callEv, capAV, lenArgs, lenEv, minEv, extractEv, funcEv, allBox, bound, sliceEv, lookupEv, TD.isBool, allocEv, boxEv, storeEv, spl, plainTD, appendEv, appendArgs, makeMapEv, mapUpdateEv, buildEv, buildSliceEv, fillSV, zsvOf, sizeTD, Ty.parses, parses_flats', coeA, ← flats_append, flats_length, AV.good, AV.cells, AV.pure, SV.pure, av_int, av_bool, av_str, av_slice, av_cons, av_fld0, av_fld1, av_fld2, av_fld3, av_fld4, Ty.of, Ty.dflt, Ty.parse, Ty.flat, Ty.zsv, Ty.fld, Ty.get, Ty.off, Ty.nfld, Ty.size, coeTy, junk, Blk.look, argEnv, resEv, resOk, resVs, oneRV, retOk, frzAs, frzAV, frzL, frzSV, boxCaps, boxCap, SV.sig, sigs, RV.scalar, AV.scalar, SV.scalar, nope, g3_td, g3_y, g3_Γ, pzT, pzG3, pzG2, pzG1, inI64]
  have hpos : ∀ j, j < (shareL l p).length → 0 ≤ (shareL l p)[j]?.getD 0 := fun j hj => by
    rw [getD_lt hj]
    exact (shareL_mem h (List.getElem_mem _)).1
  refine ⟨fun hlt => ⟨hlt, hpos i hlt, fun _ => ⟨by omega, i + 1, by omega, by omega, TurnT.le (by simp -dsimp [thenKD_normal, thenKD_exit, thenKD_goto, thenKD_ret, inBlockKD_normal, inBlockKD_exit, inBlockKD_goto, inBlockKD_ret, noGotoKD_normal, noGotoKD_exit, noGotoKD_goto, noGotoKD_ret, roundKD_normal, roundKD_exit, roundKD_goto, roundKD_ret, frzSlotsD_nil, frzSlotsD_cons, frzSlotD_eq, yieldVCD_trace, opVCD_eq, vcOpsD_nil, vcOpsD_cons, vcAllD_zero, vcAllD_succ, allAtD_nil, allAtD_cons, readyAux, edgA, vcD_skip, vcD_label, vcD_exit, vcD_goto, vcD_ret, vcD_region, vcD_seq, vcD_cond, vcCondD_bool, vcD_block, vcD_scope, vcD_loop, vcD_rangeFunc, yieldOf, isMem, isMem0, keepE, envLe, St.le, psE, yieldAV, round_td, round_y, round_Γ, vI, vB, vS, aI, aB, aS, look, getE, oper, opRV, putE, allOk, okOps, Op.operands, Call.operands, pEv, qEv, mEv, constRV, coe, RV.av, loadEv, loadCs, takeAt, indexAddrEv, fieldAddrEv, binEv, intEv, arith, unEv, gcond, pickEv, argsEv, callVal, callEv, capAV, lenArgs, lenEv, minEv, extractEv, funcEv, allBox, bound, sliceEv, lookupEv, TD.isBool, allocEv, boxEv, storeEv, spl, plainTD, appendEv, appendArgs, makeMapEv, mapUpdateEv, buildEv, buildSliceEv, fillSV, zsvOf, sizeTD, Ty.parses, parses_flats', coeA, ← flats_append, flats_length, AV.good, AV.cells, AV.pure, SV.pure, av_int, av_bool, av_str, av_slice, av_cons, av_fld0, av_fld1, av_fld2, av_fld3, av_fld4, Ty.of, Ty.dflt, Ty.parse, Ty.flat, Ty.zsv, Ty.fld, Ty.get, Ty.off, Ty.nfld, Ty.size, coeTy, junk, Blk.look, argEnv, resEv, resOk, resVs, oneRV, retOk, frzAs, frzAV, frzL, frzSV, boxCaps, boxCap, SV.sig, sigs, RV.scalar, AV.scalar, SV.scalar, nope])⟩⟩, fun hge => ⟨fun hlt => ?_, fun hle => ?_⟩⟩
  · refine ⟨by omega, fun k hk => ?_, ?_⟩
    · have q1 := isum_bounds (b := 1099511627776) (by omega) ((l.drop p.length).take k) (fun x hx => right_mem hr (List.mem_of_mem_drop (List.mem_of_mem_take hx)))
      have q2 : ((l.drop p.length).take k).length ≤ 64 := by rw [List.length_take, List.length_drop]; have := right_len hr; omega
      omega
    · split <;> omega
  · rw [List.drop_of_length_le hle] at h3 h4
    simp only [isum] at h3 h4
    split <;> omega
end Go.Am
