/- The program of chapter 24: the program's own check of places. -/
import Derived.Test.YtdfafpmolbgklaaAd2
namespace Go.Am
set_option linter.unusedVariables false
set_option linter.unusedSimpArgs false
set_option maxHeartbeats 4000000
set_option maxRecDepth 20000
open Go.RowKit Go.Proofs

theorem mget_mput (k k' : Int) (v : Bool) : ∀ es : List (Int × Bool), mget (Ty.beq tI) k' (mput (Ty.beq tI) k v es) = if k' = k then some v else mget (Ty.beq tI) k' es
  | [] => by simp [mput, mget, Ty.beq]
  | (a, b) :: r => by
    have ih := mget_mput k k' v r
    simp only [mput, Ty.beq, beq_iff_eq]
    by_cases h1 : k = a
    · subst h1
      simp only [if_true, mget, Ty.beq, beq_iff_eq]
      by_cases h2 : k' = k <;> simp [h2]
    · rw [if_neg h1]
      simp only [mget, Ty.beq, beq_iff_eq]
      by_cases h2 : k' = a
      · subst h2
        simp [Ne.symm h1]
      · simp only [if_neg h2]
        simpa [Ty.beq] using ih

theorem scheck_ok : PureOk Try.prog 17 conCheck := by
  refine pureOkD (L := { live := [0, 2, 3, 4, 5, 6, 9, 11, 12, 13, 14, 31], frz := [] }) ad0_good rfl ad_mixed Try.func17 rfl conCheck 1 (by decide) (by kernel_rfl) ?_
  rintro _ ⟨p, ex, rfl⟩ ⟨⟨hlen, hl2⟩, hl3⟩
  clear hl2 hl3
  refine ⟨rfl, ?_⟩
  simp only [maxLen] at hlen
  simp -dsimp -implicitDefEqProofs [Try.f17, conCheck, thenKD_normal, thenKD_exit, thenKD_goto, thenKD_ret, inBlockKD_normal, inBlockKD_exit, inBlockKD_goto, inBlockKD_ret, noGotoKD_normal, noGotoKD_exit, noGotoKD_goto, noGotoKD_ret, roundKD_normal, roundKD_exit, roundKD_goto, roundKD_ret, frzSlotsD_nil, frzSlotsD_cons, frzSlotD_eq, yieldVCD_trace, opVCD_eq, vcOpsD_nil, vcOpsD_cons, vcAllD_zero, vcAllD_succ, allAtD_nil, allAtD_cons, readyAux, edgA, vcD_skip, vcD_label, vcD_exit, vcD_goto, vcD_ret, vcD_region, vcD_seq, vcD_seqC, vcD_cond, vcCondD_bool, vcD_block, vcD_scope, vcD_loop, vcD_rangeFunc, yieldOf, isMem, isMem0, keepE, envLe, St.le, psE, yieldAV, round_td, round_y, round_Γ, vI, vB, vS, aI, aB, aS, look, getE, oper, opRV, putE, allOk, okOps, Op.operands, Call.operands, pEv, qEv, mEv, constRV, coe, RV.av, loadEv, loadCs, takeAt, indexAddrEv, fieldAddrEv, binEv, intEv, arith, unEv, gcond, pickEv, argsEv, callVal, callEv, capAV_mk, lenArgs, lenEv, minEv, extractEv, convEv, funcEv, allBox, bound, sliceEv, lookupEv, TD.isBool, allocEv, boxEv, storeEv, spl, plainTD, appendEv, appendArgs, makeMapEv, mapUpdateEv, buildEv, buildSliceEv, fillSV, zsvOf, sizeTD, Ty.parses, parses_flats', coeA, ← flats_append, flats_length, AV.good, AV.cells, AV.pure, SV.pure, av_int, av_bool, av_str, av_slice, av_cons, av_fld0, av_fld1, av_fld2, av_fld3, av_fld4, Ty.of, Ty.dflt, Ty.parse, Ty.flat, Ty.zsv, Ty.fld, Ty.get, Ty.off, Ty.nfld, Ty.size, coeTy, junk, Blk.look, argEnv, resEv, resOk, resVs, oneRV, retOk, frzAs, frzAV, frzL, frzSV, boxCaps, boxCap, SV.sig, sigs, RV.scalar, AV.scalar, SV.scalar, nope, effVCD_eq, effOf, SV.ids, AV.ids, dedup, SV.ren, AV.ren, RV.ren, idx, outId, mergeB, Blk.pureB, flats_pure, flat_pure, epsSlotsD_nil, epsSlotsD_cons, epsSlotD_eq, allEp, D.parts_fnOf, fvParts, retEff, round_E, av_fn, G.ye, isCutD_nil, isCutD_cons, firstReg_region, firstReg_seq, firstReg_skip, firstReg_ret, firstReg_label, firstReg_exit, firstReg_goto, firstReg_cond, firstReg_block, firstReg_scope, firstReg_loop, firstReg_rf, eptrOf_mk, flOfD_nil, flOfD_cons, vcFlD_cons, vcFlD_nil, flPairs_nil, flPairs_cons, ad0_td, ad0_y, ad0_Γ, ad0_E, adT, ad0Γ, ad0E, inI64]
  refine ⟨fun h => ?_, fun h => ?_⟩
  · unfold check; rw [if_pos (by omega)]
  have h4 : p.length ≤ 4096 := by omega
  refine WpD.loop (L := { live := [0, 2, 3, 4, 5, 6, 9, 11, 12, 13, 14, 31], frz := [] }) ad0_good X0_ok ad_mixed (by kernel_rfl) (ι := Nat × List (Int × Bool))
    (fun i => ⟨[(0, vS tPlace p ex), (2, vI 0), (3, ⟨true, .v (.s (.mp 0))⟩), (11, vS tPlace p ex), (12, vI p.length), (13, vI i.1)], [.map tI .bool i.2]⟩)
    (fun i => i.1 ≤ p.length ∧ (∀ j, j < i.1 → OkAt p j) ∧ ∀ k, mget (Ty.beq tI) k i.2 = if ∃ j, j < i.1 ∧ pe p j = k then some true else none) (fun i => p.length - i.1) (0, []) (by simp [mget]) (Turn.le (by simp -dsimp -implicitDefEqProofs [thenKD_normal, thenKD_exit, thenKD_goto, thenKD_ret, inBlockKD_normal, inBlockKD_exit, inBlockKD_goto, inBlockKD_ret, noGotoKD_normal, noGotoKD_exit, noGotoKD_goto, noGotoKD_ret, roundKD_normal, roundKD_exit, roundKD_goto, roundKD_ret, frzSlotsD_nil, frzSlotsD_cons, frzSlotD_eq, yieldVCD_trace, opVCD_eq, vcOpsD_nil, vcOpsD_cons, vcAllD_zero, vcAllD_succ, allAtD_nil, allAtD_cons, readyAux, edgA, vcD_skip, vcD_label, vcD_exit, vcD_goto, vcD_ret, vcD_region, vcD_seq, vcD_seqC, vcD_cond, vcCondD_bool, vcD_block, vcD_scope, vcD_loop, vcD_rangeFunc, yieldOf, isMem, isMem0, keepE, envLe, St.le, psE, yieldAV, round_td, round_y, round_Γ, vI, vB, vS, aI, aB, aS, look, getE, oper, opRV, putE, allOk, okOps, Op.operands, Call.operands, pEv, qEv, mEv, constRV, coe, RV.av, loadEv, loadCs, takeAt, indexAddrEv, fieldAddrEv, binEv, intEv, arith, unEv, gcond, pickEv, argsEv, callVal, callEv, capAV_mk, lenArgs, lenEv, minEv, extractEv, convEv, funcEv, allBox, bound, sliceEv, lookupEv, TD.isBool, allocEv, boxEv, storeEv, spl, plainTD, appendEv, appendArgs, makeMapEv, mapUpdateEv, buildEv, buildSliceEv, fillSV, zsvOf, sizeTD, Ty.parses, parses_flats', coeA, ← flats_append, flats_length, AV.good, AV.cells, AV.pure, SV.pure, av_int, av_bool, av_str, av_slice, av_cons, av_fld0, av_fld1, av_fld2, av_fld3, av_fld4, Ty.of, Ty.dflt, Ty.parse, Ty.flat, Ty.zsv, Ty.fld, Ty.get, Ty.off, Ty.nfld, Ty.size, coeTy, junk, Blk.look, argEnv, resEv, resOk, resVs, oneRV, retOk, frzAs, frzAV, frzL, frzSV, boxCaps, boxCap, SV.sig, sigs, RV.scalar, AV.scalar, SV.scalar, nope, effVCD_eq, effOf, SV.ids, AV.ids, dedup, SV.ren, AV.ren, RV.ren, idx, outId, mergeB, Blk.pureB, flats_pure, flat_pure, epsSlotsD_nil, epsSlotsD_cons, epsSlotD_eq, allEp, D.parts_fnOf, fvParts, retEff, round_E, av_fn, G.ye, isCutD_nil, isCutD_cons, firstReg_region, firstReg_seq, firstReg_skip, firstReg_ret, firstReg_label, firstReg_exit, firstReg_goto, firstReg_cond, firstReg_block, firstReg_scope, firstReg_loop, firstReg_rf, eptrOf_mk, flOfD_nil, flOfD_cons, vcFlD_cons, vcFlD_nil, flPairs_nil, flPairs_cons])) ?_
  rintro ⟨i, es⟩ ⟨hi, hok, hes⟩
  simp only at hi hok hes
  simp -dsimp -implicitDefEqProofs [conCheck, thenKD_normal, thenKD_exit, thenKD_goto, thenKD_ret, inBlockKD_normal, inBlockKD_exit, inBlockKD_goto, inBlockKD_ret, noGotoKD_normal, noGotoKD_exit, noGotoKD_goto, noGotoKD_ret, roundKD_normal, roundKD_exit, roundKD_goto, roundKD_ret, frzSlotsD_nil, frzSlotsD_cons, frzSlotD_eq, yieldVCD_trace, opVCD_eq, vcOpsD_nil, vcOpsD_cons, vcAllD_zero, vcAllD_succ, allAtD_nil, allAtD_cons, readyAux, edgA, vcD_skip, vcD_label, vcD_exit, vcD_goto, vcD_ret, vcD_region, vcD_seq, vcD_seqC, vcD_cond, vcCondD_bool, vcD_block, vcD_scope, vcD_loop, vcD_rangeFunc, yieldOf, isMem, isMem0, keepE, envLe, St.le, psE, yieldAV, round_td, round_y, round_Γ, vI, vB, vS, aI, aB, aS, look, getE, oper, opRV, putE, allOk, okOps, Op.operands, Call.operands, pEv, qEv, mEv, constRV, coe, RV.av, loadEv, loadCs, takeAt, indexAddrEv, fieldAddrEv, binEv, intEv, arith, unEv, gcond, pickEv, argsEv, callVal, callEv, capAV_mk, lenArgs, lenEv, minEv, extractEv, convEv, funcEv, allBox, bound, sliceEv, lookupEv, TD.isBool, allocEv, boxEv, storeEv, spl, plainTD, appendEv, appendArgs, makeMapEv, mapUpdateEv, buildEv, buildSliceEv, fillSV, zsvOf, sizeTD, Ty.parses, parses_flats', coeA, ← flats_append, flats_length, AV.good, AV.cells, AV.pure, SV.pure, av_int, av_bool, av_str, av_slice, av_cons, av_fld0, av_fld1, av_fld2, av_fld3, av_fld4, Ty.of, Ty.dflt, Ty.parse, Ty.flat, Ty.zsv, Ty.fld, Ty.get, Ty.off, Ty.nfld, Ty.size, coeTy, junk, Blk.look, argEnv, resEv, resOk, resVs, oneRV, retOk, frzAs, frzAV, frzL, frzSV, boxCaps, boxCap, SV.sig, sigs, RV.scalar, AV.scalar, SV.scalar, nope, effVCD_eq, effOf, SV.ids, AV.ids, dedup, SV.ren, AV.ren, RV.ren, idx, outId, mergeB, Blk.pureB, flats_pure, flat_pure, epsSlotsD_nil, epsSlotsD_cons, epsSlotD_eq, allEp, D.parts_fnOf, fvParts, retEff, round_E, av_fn, G.ye, isCutD_nil, isCutD_cons, firstReg_region, firstReg_seq, firstReg_skip, firstReg_ret, firstReg_label, firstReg_exit, firstReg_goto, firstReg_cond, firstReg_block, firstReg_scope, firstReg_loop, firstReg_rf, eptrOf_mk, flOfD_nil, flOfD_cons, vcFlD_cons, vcFlD_nil, flPairs_nil, flPairs_cons, ad0_td, ad0_y, ad0_Γ, ad0_E, adT, ad0Γ, ad0E, inI64]
  refine ⟨fun hlt => ?_, fun hge => ?_⟩
  · have hno : ¬ OkAt p i → 230 = check p := fun h => (check_no h4 hlt h).symm
    have hM : (mget tI.beq (p[i]?.getD (0, 0, 0, ())).1 es).getD false = false ↔ ∀ k, k < i → pe p k ≠ pe p i := by
      rw [hes]
      constructor
      · intro h k hk he
        rw [if_pos ⟨k, hk, he⟩] at h
        simp at h
      · intro h
        rw [if_neg]
        · rfl
        · rintro ⟨k, hk, he⟩
          exact h k hk he
    have hch : OkAt p i ↔ (0 ≤ (p[i]?.getD (0, 0, 0, ())).1 ∧ (mget tI.beq (p[i]?.getD (0, 0, 0, ())).1 es).getD false = false ∧ (0 < i → (p[i]?.getD (0, 0, 0, ())).2.1 = (p[i - 1]?.getD (0, 0, 0, ())).2.1 → (p[i - 1]?.getD (0, 0, 0, ())).1 < (p[i]?.getD (0, 0, 0, ())).1) ∧
        ((i = 0 ∨ ¬ (p[i]?.getD (0, 0, 0, ())).2.1 = (p[i - 1]?.getD (0, 0, 0, ())).2.1) → (p[i]?.getD (0, 0, 0, ())).2.1 = i + 1) ∧
        ((i = 0 ∨ (p[i]?.getD (0, 0, 0, ())).2.1 = (p[i - 1]?.getD (0, 0, 0, ())).2.1) ↔ (p[i]?.getD (0, 0, 0, ())).2.2.1 = -1) ∧ -1 ≤ (p[i]?.getD (0, 0, 0, ())).2.2.1) := by
      rw [hM]
      have hz : ∀ {A : Prop}, (i = 0 ∨ A) ↔ (i = 0 ∨ (0 < i ∧ A)) := by
        intro A
        rcases Nat.eq_zero_or_pos i with h0 | h0
        · simp [h0]
        · have : i ≠ 0 := by omega
          simp [this, h0]
      constructor
      · intro q
        refine ⟨q.ent, q.new, fun h1 h2 => q.asc ⟨h1, h2⟩, fun h1 => q.rank fun h2 => ?_, ⟨fun h1 => q.by1 (hz.1 h1), fun h1 => hz.2 (q.by2 h1)⟩, q.by3⟩
        rcases h1 with h1 | h1
        · have := h2.1; omega
        · exact h1 h2.2
      · rintro ⟨q0, q00, q1, q2, q3, q4⟩
        refine ⟨q0, q00, fun h => q1 h.1 h.2, fun h => q2 ?_, fun h => q3.1 (hz.2 h), fun h => hz.1 (q3.2 h), q4⟩
        rcases Nat.eq_zero_or_pos i with h0 | h0
        · exact .inl h0
        · exact .inr fun h1 => h ⟨h0, h1⟩
    have hokS : OkAt p i → ∀ j, j < i + 1 → OkAt p j := fun q j hj => by
      rcases Nat.lt_succ_iff_lt_or_eq.1 hj with h' | rfl
      · exact hok j h'
      · exact q
    have hmap : ∀ k : Int, mget tI.beq k (mput tI.beq (p[i]?.getD (0, 0, 0, ())).1 true es) = if ∃ j, j < i + 1 ∧ pe p j = k then some true else none := by
      intro k
      rw [mget_mput, hes]
      by_cases h1 : k = (p[i]?.getD (0, 0, 0, ())).1
      · rw [if_pos h1, if_pos ⟨i, by omega, h1.symm⟩]
      · rw [if_neg h1]
        by_cases h2 : ∃ j, j < i ∧ pe p j = k
        · obtain ⟨j, hj, he⟩ := h2
          rw [if_pos ⟨j, hj, he⟩, if_pos ⟨j, by omega, he⟩]
        · rw [if_neg h2, if_neg]
          rintro ⟨j, hj, he⟩
          rcases Nat.lt_succ_iff_lt_or_eq.1 hj with h' | rfl
          · exact h2 ⟨j, h', he⟩
          · exact h1 he.symm
    clear hM hok hes
    generalize hmp : mput tI.beq (p[i]?.getD (0, 0, 0, ())).1 true es = es' at *
    generalize (mget tI.beq (p[i]?.getD (0, 0, 0, ())).1 es).getD false = M at *
    clear hmp es
    generalize (p[i]?.getD (0, 0, 0, ())).1 = e at *
    generalize (p[i]?.getD (0, 0, 0, ())).2.1 = r at *
    generalize (p[i]?.getD (0, 0, 0, ())).2.2.1 = b at *
    generalize (p[i - 1]?.getD (0, 0, 0, ())).1 = e' at *
    generalize (p[i - 1]?.getD (0, 0, 0, ())).2.1 = r' at *
    have hpos : ¬ i = 0 ↔ 0 < i := by omega
    have hi0 : ((i : Int) == 0) = decide (i = 0) := by by_cases h : i = 0 <;> simp [h]
    rw [hi0] at *
    have hgo : (0 ≤ e ∧ M = false ∧ (0 < i → r = r' → e' < e) ∧ ((i = 0 ∨ ¬ r = r') → r = i + 1) ∧ ((i = 0 ∨ r = r') ↔ b = -1) ∧ -1 ≤ b) → ∀ j, j < i + 1 → OkAt p j := fun h => hokS (hch.2 h)
    have hno' : ¬ (0 ≤ e ∧ M = false ∧ (0 < i → r = r' → e' < e) ∧ ((i = 0 ∨ ¬ r = r') → r = i + 1) ∧ ((i = 0 ∨ r = r') ↔ b = -1) ∧ -1 ≤ b) → 230 = check p := fun h => hno fun k => h (hch.1 k)
    have hfin : ∀ E : Env, ((0 ≤ e ∧ M = false ∧ (0 < i → r = r' → e' < e) ∧ ((i = 0 ∨ ¬ r = r') → r = i + 1) ∧ ((i = 0 ∨ r = r') ↔ b = -1) ∧ -1 ≤ b)) → envLe [(0, vS tPlace p ex), (2, vI 0), (3, ⟨true, .v (.s (.mp 0))⟩), (11, vS tPlace p ex), (12, vI p.length), (13, vI (i + 1))] E →
        ∃ a b', (a ≤ p.length ∧ (∀ j, j < a → OkAt p j) ∧ ∀ k : tI.T, mget tI.beq k b' = if ∃ j, j < a ∧ pe p j = k then some true else none) ∧ p.length - a < p.length - i ∧
          TurnT Try.prog ad0 X0 80 1 ⟨E, [Blk.map tI Ty.bool es', Blk.cells [SV.int IntKind.i64 e, SV.int IntKind.i64 r, SV.int IntKind.i64 b]]⟩
            ⟨[(0, vS tPlace p ex), (2, vI 0), (3, ⟨true, .v (.s (.mp 0))⟩), (11, vS tPlace p ex), (12, vI p.length), (13, vI a)], [Blk.map tI Ty.bool b']⟩ := by
      intro E h hE
      refine ⟨i + 1, es', ⟨by omega, hgo h, hmap⟩, by omega, TurnT.trunc X0_ok (hp := [Blk.map tI Ty.bool es']) (junk := [_]) (by simp) (by simp [Blk.below]) hE (by simp [envBelow, RV.below, AV.below, SV.below])⟩
    clear hno hch hokS hmap hgo
    repeat' (first | apply And.intro | intro _)
    all_goals first
      | omega
      | (refine hno' ?_; clear hfin hno'; grind)
      | (refine hfin _ ?_ (by simp -dsimp -implicitDefEqProofs [thenKD_normal, thenKD_exit, thenKD_goto, thenKD_ret, inBlockKD_normal, inBlockKD_exit, inBlockKD_goto, inBlockKD_ret, noGotoKD_normal, noGotoKD_exit, noGotoKD_goto, noGotoKD_ret, roundKD_normal, roundKD_exit, roundKD_goto, roundKD_ret, frzSlotsD_nil, frzSlotsD_cons, frzSlotD_eq, yieldVCD_trace, opVCD_eq, vcOpsD_nil, vcOpsD_cons, vcAllD_zero, vcAllD_succ, allAtD_nil, allAtD_cons, readyAux, edgA, vcD_skip, vcD_label, vcD_exit, vcD_goto, vcD_ret, vcD_region, vcD_seq, vcD_seqC, vcD_cond, vcCondD_bool, vcD_block, vcD_scope, vcD_loop, vcD_rangeFunc, yieldOf, isMem, isMem0, keepE, envLe, St.le, psE, yieldAV, round_td, round_y, round_Γ, vI, vB, vS, aI, aB, aS, look, getE, oper, opRV, putE, allOk, okOps, Op.operands, Call.operands, pEv, qEv, mEv, constRV, coe, RV.av, loadEv, loadCs, takeAt, indexAddrEv, fieldAddrEv, binEv, intEv, arith, unEv, gcond, pickEv, argsEv, callVal, callEv, capAV_mk, lenArgs, lenEv, minEv, extractEv, convEv, funcEv, allBox, bound, sliceEv, lookupEv, TD.isBool, allocEv, boxEv, storeEv, spl, plainTD, appendEv, appendArgs, makeMapEv, mapUpdateEv, buildEv, buildSliceEv, fillSV, zsvOf, sizeTD, Ty.parses, parses_flats', coeA, ← flats_append, flats_length, AV.good, AV.cells, AV.pure, SV.pure, av_int, av_bool, av_str, av_slice, av_cons, av_fld0, av_fld1, av_fld2, av_fld3, av_fld4, Ty.of, Ty.dflt, Ty.parse, Ty.flat, Ty.zsv, Ty.fld, Ty.get, Ty.off, Ty.nfld, Ty.size, coeTy, junk, Blk.look, argEnv, resEv, resOk, resVs, oneRV, retOk, frzAs, frzAV, frzL, frzSV, boxCaps, boxCap, SV.sig, sigs, RV.scalar, AV.scalar, SV.scalar, nope, effVCD_eq, effOf, SV.ids, AV.ids, dedup, SV.ren, AV.ren, RV.ren, idx, outId, mergeB, Blk.pureB, flats_pure, flat_pure, epsSlotsD_nil, epsSlotsD_cons, epsSlotD_eq, allEp, D.parts_fnOf, fvParts, retEff, round_E, av_fn, G.ye, isCutD_nil, isCutD_cons, firstReg_region, firstReg_seq, firstReg_skip, firstReg_ret, firstReg_label, firstReg_exit, firstReg_goto, firstReg_cond, firstReg_block, firstReg_scope, firstReg_loop, firstReg_rf, eptrOf_mk, flOfD_nil, flOfD_cons, vcFlD_cons, vcFlD_nil, flPairs_nil, flPairs_cons]); clear hfin hno'; grind)
      | (clear hfin hno'; grind)
  · exact (check_ok h4 fun j hj => hok j (by omega)).symm
end Go.Am
