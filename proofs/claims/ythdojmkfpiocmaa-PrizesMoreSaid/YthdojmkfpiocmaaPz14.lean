/- The program of chapter 25: the fourth law. -/
import Derived.Test.YthdojmkfpiocmaaPz13
namespace Go.Am
set_option linter.unusedVariables false
set_option linter.unusedSimpArgs false
set_option maxHeartbeats 4000000
set_option maxRecDepth 20000
open Go.RowKit Go.Proofs

def upTo (i : Nat) : List Int := (List.range i).map fun j => ((j : Nat) : Int) + 1
theorem upTo_len (i : Nat) : (upTo i).length = i := by simp [upTo]
theorem upTo_succ (i : Nat) : upTo (i + 1) = upTo i ++ [(i : Int) + 1] := by simp [upTo, List.range_succ]

theorem upTo_get {n i : Nat} (h : i < n) : (upTo n)[i]?.getD 0 = (i : Int) + 1 := by simp [upTo, h]
theorem placesL_len (xs : List Int) : (placesL xs).length = xs.length := by simp [placesL]
theorem placesL_get {n i : Nat} (h : i < n) : (placesL (upTo n))[i]?.getD (0, 0, 0, ()) = ((i : Int), (i : Int) + 1, if i = 0 then -1 else 0, ()) := by
  have h1 : (placesL (upTo n))[i]? = some (plAt (upTo n) i) := by
    simp [placesL, upTo_len, h]
  rw [h1]
  simp only [Option.getD_some, plAt]
  rw [upTo_get h]
  by_cases h0 : i = 0
  · simp [h0]
  · rw [upTo_get (show i - 1 < n by omega)]
    simp [h0]
    omega
theorem pl_r {n i : Nat} (h : i < n) : pr (placesL (upTo n)) i = (i : Int) + 1 := by unfold pr; rw [placesL_get h]
theorem pl_e {n i : Nat} (h : i < n) : pe (placesL (upTo n)) i = (i : Int) := by unfold pe; rw [placesL_get h]
theorem pl_b {n i : Nat} (h : i < n) : pb (placesL (upTo n)) i = if i = 0 then -1 else 0 := by unfold pb; rw [placesL_get h]
theorem pl_ok (n : Nat) : OkAll (placesL (upTo n)) := by
  intro i hi
  rw [placesL_len, upTo_len] at hi
  have hs : ¬ sameR (placesL (upTo n)) i := fun ⟨h1, h2⟩ => by
    rw [pl_r hi, pl_r (show i - 1 < n by omega)] at h2; omega
  refine ⟨by rw [pl_e hi]; omega, fun k hk => by rw [pl_e hi, pl_e (by omega)]; omega, fun h => absurd h hs, fun _ => pl_r hi, fun h => ?_, fun h => ?_, ?_⟩
  · rcases h with h | h
    · rw [pl_b hi, if_pos h]
    · exact absurd h hs
  · rw [pl_b hi] at h
    split at h
    · left; assumption
    · omega
  · rw [pl_b hi]; split <;> omega
theorem pl_err {l : List Int} (hr : right l = true) {n : Nat} (hn : n ≤ 4096) : shareErr l (placesL (upTo n)) = 0 := by
  unfold shareErr; rw [if_pos hr]; exact check_ok (by rw [placesL_len, upTo_len]; exact hn) (pl_ok n)
theorem pl_share (l : List Int) {n i : Nat} (h : i < n) : shareAt l (placesL (upTo n)) i = prize l ((i : Int) + 1) := by
  have hg : IsGrp (placesL (upTo n)) i 1 := by
    refine ⟨by omega, by rw [placesL_len, upTo_len]; omega, fun j h1 h2 => by rw [show j = i by omega], fun hn => ?_⟩
    rw [placesL_len, upTo_len] at hn
    rw [pl_r h, pl_r hn]; omega
  rw [share_grp (pl_ok n) hg (by
    rcases Nat.eq_zero_or_pos i with h0 | h0
    · exact .inl h0
    · right; rw [pl_r h, pl_r (by omega)]; omega) (Nat.le_refl _) (by omega), isum_drop_take]
  simp [psum]
theorem pl_sum (l : List Int) (n : Nat) : ∀ i, i ≤ n → isum (sharesTo l (placesL (upTo n)) i) = psum l 1 i
  | 0, _ => by simp [sharesTo, psum, isum]
  | i + 1, h => by
    rw [sharesTo_succ, isum_append, pl_sum l n i (by omega), pl_share l (by omega), psum]
    simp only [isum]
    rw [show (i : Int) + 1 = 1 + i by omega]
    omega
theorem pl_left {l : List Int} (hr : right l = true) {n : Nat} (hn : n ≤ 4096) : shareLeft l (placesL (upTo n)) = isum (l.drop n) := by
  unfold shareLeft
  rw [if_pos (pl_err hr hn), placesL_len, upTo_len, pl_sum l n n (Nat.le_refl _), psum_take]
  have := isum_take_drop l n
  omega
theorem drop_min (l : List Int) (n : Nat) : l.drop ((if l.length < n then (l.length : Int) else (n : Int)).toNat) = l.drop n := by
  split
  · rw [Int.toNat_natCast, List.drop_length, List.drop_of_length_le (by omega)]
  · rw [Int.toNat_natCast]

/-- Without the last place. -/
theorem pr_take {p : List Pl} {n i : Nat} (h : i < n) : pr (p.take n) i = pr p i := by unfold pr; rw [List.getElem?_take, if_pos h]
theorem pe_take {p : List Pl} {n i : Nat} (h : i < n) : pe (p.take n) i = pe p i := by unfold pe; rw [List.getElem?_take, if_pos h]
theorem pb_take {p : List Pl} {n i : Nat} (h : i < n) : pb (p.take n) i = pb p i := by unfold pb; rw [List.getElem?_take, if_pos h]
theorem take_ok {p : List Pl} (h : OkAll p) (n : Nat) : OkAll (p.take n) := by
  intro i hi
  rw [List.length_take] at hi
  have k := h i (by omega)
  have hs : sameR (p.take n) i ↔ sameR p i := by
    unfold sameR
    constructor
    · rintro ⟨h1, h2⟩; rw [pr_take (by omega), pr_take (by omega)] at h2; exact ⟨h1, h2⟩
    · rintro ⟨h1, h2⟩; rw [pr_take (by omega), pr_take (by omega)]; exact ⟨h1, h2⟩
  refine ⟨by rw [pe_take (by omega)]; exact k.ent, fun j hj => by rw [pe_take (by omega), pe_take (by omega)]; exact k.new j hj, fun h => ?_, fun h => ?_, fun h => ?_, fun h => ?_, ?_⟩
  · rw [pe_take (by omega), pe_take (by omega)]; exact k.asc (hs.1 h)
  · rw [pr_take (by omega)]; exact k.rank fun h' => h (hs.2 h')
  · rw [pb_take (by omega)]; exact k.by1 (h.imp id hs.1)
  · rw [pb_take (by omega)] at h; exact (k.by2 h).imp id hs.2
  · rw [pb_take (by omega)]; exact k.by3
theorem cntTo_take (p : List Pl) (r : Int) (n : Nat) : ∀ k, k ≤ n → cntTo (p.take n) r k = cntTo p r k
  | 0, _ => rfl
  | k + 1, h => by simp only [cntTo]; rw [cntTo_take p r n k (by omega), pr_take (by omega)]
theorem take_share (l : List Int) {p : List Pl} {i : Nat} (h : i < p.length - 1) (hne : pr p i ≠ pr p (p.length - 1)) : shareAt l (p.take (p.length - 1)) i = shareAt l p i := by
  have hc : cnt (p.take (p.length - 1)) i = cnt p i := by
    unfold cnt
    rw [pr_take h, List.length_take, show min (p.length - 1) p.length = p.length - 1 by omega, cntTo_take _ _ _ _ (Nat.le_refl _)]
    obtain ⟨n, hn⟩ : ∃ n, p.length = n + 1 := ⟨p.length - 1, by omega⟩
    rw [hn] at hne ⊢
    simp only [Nat.add_sub_cancel] at *
    simp only [cntTo]
    rw [if_neg (fun e => hne e.symm)]
    rfl
  unfold shareAt
  rw [hc, pr_take h]
theorem own_ok : PureOk Try.prog 6 conLaw := by
  refine pureOkD (L := ⟨[0, 1, 4, 5, 6, 7, 8, 9, 10, 11, 12, 14, 15, 17, 18, 19, 21, 40, 42, 43, 44, 80, 81, 82, 83, 84, 93, 133, 134, 135, 136, 137, 161], [(11, [5])], []⟩) g3_good rfl pz_mixed Try.func6 rfl conLaw 2 (by decide) (by kernel_rfl) ?_
  rintro _ ⟨l, ex, p, ex', rfl⟩ ⟨⟨hln, _⟩, ⟨hpn, _⟩, _⟩
  refine ⟨rfl, ?_⟩
  simp only [maxLen] at hpn
  simp -dsimp [Try.f6, conLaw, conSane_pre, conSane_val, conFew_pre, conFew_val, conShare_pre, conShare_val, conSum_pre, conSum_val, conSame_pre, conSame_val, conRight_pre, conRight_val, conCheck_pre, conCheck_val, conPlaces_pre, conPlaces_val, conPrize_pre, conPrize_val, thenKD_normal, thenKD_exit, thenKD_goto, thenKD_ret, inBlockKD_normal, inBlockKD_exit, inBlockKD_goto, inBlockKD_ret, noGotoKD_normal, noGotoKD_exit, noGotoKD_goto, noGotoKD_ret, roundKD_normal, roundKD_exit, roundKD_goto, roundKD_ret, frzSlotsD_nil, frzSlotsD_cons, frzSlotD_eq, yieldVCD_trace, opVCD_eq, vcOpsD_nil, vcOpsD_cons, vcAllD_zero, vcAllD_succ, allAtD_nil, allAtD_cons, readyAux, edgA, vcD_skip, vcD_label, vcD_exit, vcD_goto, vcD_ret, vcD_region, vcD_seq, vcD_cond, vcCondD_bool, vcD_block, vcD_scope, vcD_loop, vcD_rangeFunc, yieldOf, isMem, isMem0, keepE, envLe, St.le, psE, yieldAV, round_td, round_y, round_Γ, vI, vB, vS, aI, aB, aS, look, getE, oper, opRV, putE, allOk, okOps, Op.operands, Call.operands, pEv, qEv, mEv, constRV, coe, RV.av, loadEv, loadCs, takeAt, indexAddrEv, fieldAddrEv, binEv, intEv, arith, unEv, gcond, pickEv, argsEv, callVal, callEv, capAV, lenArgs, lenEv, minEv, extractEv, funcEv, allBox, bound, sliceEv, lookupEv, TD.isBool, allocEv, boxEv, storeEv, spl, plainTD, appendEv, appendArgs, makeMapEv, mapUpdateEv, buildEv, buildSliceEv, fillSV, zsvOf, sizeTD, Ty.parses, parses_flats', coeA, ← flats_append, flats_length, AV.good, AV.cells, AV.pure, SV.pure, av_int, av_bool, av_str, av_slice, av_cons, av_fld0, av_fld1, av_fld2, av_fld3, av_fld4, Ty.of, Ty.dflt, Ty.parse, Ty.flat, Ty.zsv, Ty.fld, Ty.get, Ty.off, Ty.nfld, Ty.size, coeTy, junk, Blk.look, argEnv, resEv, resOk, resVs, oneRV, retOk, frzAs, frzAV, frzL, frzSV, boxCaps, boxCap, SV.sig, sigs, RV.scalar, AV.scalar, SV.scalar, nope, g3_td, g3_y, g3_Γ, pzT, pzG3, pzG2, pzG1, inI64]
  intro hl hp hr hc hne
  have hpos : 0 < p.length := List.length_pos_iff.2 hne
  obtain ⟨_, hc'⟩ := check_zero hc
  refine WpD.loop (L := ⟨[0, 1, 4, 5, 6, 7, 8, 9, 10, 11, 12, 14, 15, 17, 18, 19, 21, 40, 42, 43, 44, 80, 81, 82, 83, 84, 93, 133, 134, 135, 136, 137, 161], [], []⟩) g3_good X0_ok pz_mixed (by kernel_rfl) (ι := Nat)
    (fun i => ⟨[(0, vS tI l ex), (1, vS tPlace p ex'), (4, vB false), (5, ⟨true, .v (.s (.own tI 0 i))⟩), (42, vI p.length), (43, vI i)], [.arr (decide (0 < i)) (tI.flats (upTo i))]⟩)
    (fun i => i ≤ p.length) (fun i => p.length - i) 0 (by simp) (Turn.trans (Turn.virt (k := 5) (t := tI) (xs := []) (by simp -dsimp [thenKD_normal, thenKD_exit, thenKD_goto, thenKD_ret, inBlockKD_normal, inBlockKD_exit, inBlockKD_goto, inBlockKD_ret, noGotoKD_normal, noGotoKD_exit, noGotoKD_goto, noGotoKD_ret, roundKD_normal, roundKD_exit, roundKD_goto, roundKD_ret, frzSlotsD_nil, frzSlotsD_cons, frzSlotD_eq, yieldVCD_trace, opVCD_eq, vcOpsD_nil, vcOpsD_cons, vcAllD_zero, vcAllD_succ, allAtD_nil, allAtD_cons, readyAux, edgA, vcD_skip, vcD_label, vcD_exit, vcD_goto, vcD_ret, vcD_region, vcD_seq, vcD_cond, vcCondD_bool, vcD_block, vcD_scope, vcD_loop, vcD_rangeFunc, yieldOf, isMem, isMem0, keepE, envLe, St.le, psE, yieldAV, round_td, round_y, round_Γ, vI, vB, vS, aI, aB, aS, look, getE, oper, opRV, putE, allOk, okOps, Op.operands, Call.operands, pEv, qEv, mEv, constRV, coe, RV.av, loadEv, loadCs, takeAt, indexAddrEv, fieldAddrEv, binEv, intEv, arith, unEv, gcond, pickEv, argsEv, callVal, callEv, capAV, lenArgs, lenEv, minEv, extractEv, funcEv, allBox, bound, sliceEv, lookupEv, TD.isBool, allocEv, boxEv, storeEv, spl, plainTD, appendEv, appendArgs, makeMapEv, mapUpdateEv, buildEv, buildSliceEv, fillSV, zsvOf, sizeTD, Ty.parses, parses_flats', coeA, ← flats_append, flats_length, AV.good, AV.cells, AV.pure, SV.pure, av_int, av_bool, av_str, av_slice, av_cons, av_fld0, av_fld1, av_fld2, av_fld3, av_fld4, Ty.of, Ty.dflt, Ty.parse, Ty.flat, Ty.zsv, Ty.fld, Ty.get, Ty.off, Ty.nfld, Ty.size, coeTy, junk, Blk.look, argEnv, resEv, resOk, resVs, oneRV, retOk, frzAs, frzAV, frzL, frzSV, boxCaps, boxCap, SV.sig, sigs, RV.scalar, AV.scalar, SV.scalar, nope])) (Turn.le (by simp -dsimp [thenKD_normal, thenKD_exit, thenKD_goto, thenKD_ret, inBlockKD_normal, inBlockKD_exit, inBlockKD_goto, inBlockKD_ret, noGotoKD_normal, noGotoKD_exit, noGotoKD_goto, noGotoKD_ret, roundKD_normal, roundKD_exit, roundKD_goto, roundKD_ret, frzSlotsD_nil, frzSlotsD_cons, frzSlotD_eq, yieldVCD_trace, opVCD_eq, vcOpsD_nil, vcOpsD_cons, vcAllD_zero, vcAllD_succ, allAtD_nil, allAtD_cons, readyAux, edgA, vcD_skip, vcD_label, vcD_exit, vcD_goto, vcD_ret, vcD_region, vcD_seq, vcD_cond, vcCondD_bool, vcD_block, vcD_scope, vcD_loop, vcD_rangeFunc, yieldOf, isMem, isMem0, keepE, envLe, St.le, psE, yieldAV, round_td, round_y, round_Γ, vI, vB, vS, aI, aB, aS, look, getE, oper, opRV, putE, allOk, okOps, Op.operands, Call.operands, pEv, qEv, mEv, constRV, coe, RV.av, loadEv, loadCs, takeAt, indexAddrEv, fieldAddrEv, binEv, intEv, arith, unEv, gcond, pickEv, argsEv, callVal, callEv, capAV, lenArgs, lenEv, minEv, extractEv, funcEv, allBox, bound, sliceEv, lookupEv, TD.isBool, allocEv, boxEv, storeEv, spl, plainTD, appendEv, appendArgs, makeMapEv, mapUpdateEv, buildEv, buildSliceEv, fillSV, zsvOf, sizeTD, Ty.parses, parses_flats', coeA, ← flats_append, flats_length, AV.good, AV.cells, AV.pure, SV.pure, av_int, av_bool, av_str, av_slice, av_cons, av_fld0, av_fld1, av_fld2, av_fld3, av_fld4, Ty.of, Ty.dflt, Ty.parse, Ty.flat, Ty.zsv, Ty.fld, Ty.get, Ty.off, Ty.nfld, Ty.size, coeTy, junk, Blk.look, argEnv, resEv, resOk, resVs, oneRV, retOk, frzAs, frzAV, frzL, frzSV, boxCaps, boxCap, SV.sig, sigs, RV.scalar, AV.scalar, SV.scalar, nope, Ty.flats, upTo]))) ?_
  intro i hi
  simp -dsimp [conLaw, conSane_pre, conSane_val, conFew_pre, conFew_val, conShare_pre, conShare_val, conSum_pre, conSum_val, conSame_pre, conSame_val, conRight_pre, conRight_val, conCheck_pre, conCheck_val, conPlaces_pre, conPlaces_val, conPrize_pre, conPrize_val, thenKD_normal, thenKD_exit, thenKD_goto, thenKD_ret, inBlockKD_normal, inBlockKD_exit, inBlockKD_goto, inBlockKD_ret, noGotoKD_normal, noGotoKD_exit, noGotoKD_goto, noGotoKD_ret, roundKD_normal, roundKD_exit, roundKD_goto, roundKD_ret, frzSlotsD_nil, frzSlotsD_cons, frzSlotD_eq, yieldVCD_trace, opVCD_eq, vcOpsD_nil, vcOpsD_cons, vcAllD_zero, vcAllD_succ, allAtD_nil, allAtD_cons, readyAux, edgA, vcD_skip, vcD_label, vcD_exit, vcD_goto, vcD_ret, vcD_region, vcD_seq, vcD_cond, vcCondD_bool, vcD_block, vcD_scope, vcD_loop, vcD_rangeFunc, yieldOf, isMem, isMem0, keepE, envLe, St.le, psE, yieldAV, round_td, round_y, round_Γ, vI, vB, vS, aI, aB, aS, look, getE, oper, opRV, putE, allOk, okOps, Op.operands, Call.operands, pEv, qEv, mEv, constRV, coe, RV.av, loadEv, loadCs, takeAt, indexAddrEv, fieldAddrEv, binEv, intEv, arith, unEv, gcond, pickEv, argsEv, callVal, callEv, capAV, lenArgs, lenEv, minEv, extractEv, funcEv, allBox, bound, sliceEv, lookupEv, TD.isBool, allocEv, boxEv, storeEv, spl, plainTD, appendEv, appendArgs, makeMapEv, mapUpdateEv, buildEv, buildSliceEv, fillSV, zsvOf, sizeTD, Ty.parses, parses_flats', coeA, ← flats_append, flats_length, AV.good, AV.cells, AV.pure, SV.pure, av_int, av_bool, av_str, av_slice, av_cons, av_fld0, av_fld1, av_fld2, av_fld3, av_fld4, Ty.of, Ty.dflt, Ty.parse, Ty.flat, Ty.zsv, Ty.fld, Ty.get, Ty.off, Ty.nfld, Ty.size, coeTy, junk, Blk.look, argEnv, resEv, resOk, resVs, oneRV, retOk, frzAs, frzAV, frzL, frzSV, boxCaps, boxCap, SV.sig, sigs, RV.scalar, AV.scalar, SV.scalar, nope, g3_td, g3_y, g3_Γ, pzT, pzG3, pzG2, pzG1, inI64]
  refine ⟨fun hlt => ⟨⟨by omega, by omega⟩, ⟨upTo_len i, by omega, by simp only [maxLen]; omega⟩, ⟨by omega, by omega⟩, i + 1, by omega, by omega, TurnT.le (by simp -dsimp [thenKD_normal, thenKD_exit, thenKD_goto, thenKD_ret, inBlockKD_normal, inBlockKD_exit, inBlockKD_goto, inBlockKD_ret, noGotoKD_normal, noGotoKD_exit, noGotoKD_goto, noGotoKD_ret, roundKD_normal, roundKD_exit, roundKD_goto, roundKD_ret, frzSlotsD_nil, frzSlotsD_cons, frzSlotD_eq, yieldVCD_trace, opVCD_eq, vcOpsD_nil, vcOpsD_cons, vcAllD_zero, vcAllD_succ, allAtD_nil, allAtD_cons, readyAux, edgA, vcD_skip, vcD_label, vcD_exit, vcD_goto, vcD_ret, vcD_region, vcD_seq, vcD_cond, vcCondD_bool, vcD_block, vcD_scope, vcD_loop, vcD_rangeFunc, yieldOf, isMem, isMem0, keepE, envLe, St.le, psE, yieldAV, round_td, round_y, round_Γ, vI, vB, vS, aI, aB, aS, look, getE, oper, opRV, putE, allOk, okOps, Op.operands, Call.operands, pEv, qEv, mEv, constRV, coe, RV.av, loadEv, loadCs, takeAt, indexAddrEv, fieldAddrEv, binEv, intEv, arith, unEv, gcond, pickEv, argsEv, callVal, callEv, capAV, lenArgs, lenEv, minEv, extractEv, funcEv, allBox, bound, sliceEv, lookupEv, TD.isBool, allocEv, boxEv, storeEv, spl, plainTD, appendEv, appendArgs, makeMapEv, mapUpdateEv, buildEv, buildSliceEv, fillSV, zsvOf, sizeTD, Ty.parses, parses_flats', coeA, ← flats_append, flats_length, AV.good, AV.cells, AV.pure, SV.pure, av_int, av_bool, av_str, av_slice, av_cons, av_fld0, av_fld1, av_fld2, av_fld3, av_fld4, Ty.of, Ty.dflt, Ty.parse, Ty.flat, Ty.zsv, Ty.fld, Ty.get, Ty.off, Ty.nfld, Ty.size, coeTy, junk, Blk.look, argEnv, resEv, resOk, resVs, oneRV, retOk, frzAs, frzAV, frzL, frzSV, boxCaps, boxCap, SV.sig, sigs, RV.scalar, AV.scalar, SV.scalar, nope, upTo_succ])⟩, fun hge => ?_⟩
  obtain rfl : i = p.length := by omega
  have e1 : shareErr l (placesL (upTo p.length)) = 0 := pl_err hr (by omega)
  have e2 := shareL_len e1
  rw [placesL_len, upTo_len] at e2
  have e3 : shareLeft l (placesL (upTo p.length)) = isum (l.drop p.length) := pl_left hr (by omega)
  refine ⟨upTo p.length, rfl, (upTo_len _).symm, by rw [upTo_len]; omega, ⟨hl, by rw [placesL_len, upTo_len]; omega⟩, ?_⟩
  have e4 : ∀ k, 0 ≤ isum (List.take k (List.drop p.length l)) ∧ isum (List.take k (List.drop p.length l)) ≤ 64 * 1099511627776 := fun k => by
    have q1 := isum_bounds (b := 1099511627776) (by omega) ((l.drop p.length).take k) (fun x hx => right_mem hr (List.mem_of_mem_drop (List.mem_of_mem_take hx)))
    have q2 : ((l.drop p.length).take k).length ≤ 64 := by rw [List.length_take, List.length_drop]; have := right_len hr; omega
    omega
  rw [drop_min, e2]
  refine ⟨fun _ _ => ⟨⟨e1, rfl⟩, by split <;> omega, by split <;> omega⟩, fun _ _ => ⟨⟨e1, rfl⟩, fun k _ => by have := e4 k; omega⟩, ⟨⟨e1, rfl⟩, e3⟩, fun _ _ _ => ?_⟩
  have g1 : ∀ j, j < p.length → (shareL l (placesL (upTo p.length)))[j]?.getD 0 = prize l (j + 1) := fun j hj => by
    rw [shareL_get e1 (by rw [placesL_len, upTo_len]; exact hj), pl_share l hj]
  generalize shareL l (placesL (upTo p.length)) = a at *
  refine WpD.loop (L := ⟨[0, 1, 4, 5, 6, 7, 8, 9, 10, 11, 12, 14, 15, 17, 18, 19, 21, 40, 42, 43, 44, 80, 81, 82, 83, 84, 93, 133, 134, 135, 136, 137, 161], [], []⟩) g3_good X0_ok pz_mixed (by kernel_rfl) (ι := Nat)
    (fun i => ⟨[(0, vS tI l ex), (1, vS tPlace p ex'), (4, vB false), (81, vS tI a false), (82, vI p.length), (83, vI i)], [.dead]⟩)
    (fun i => i ≤ p.length) (fun i => p.length - i) 0 (by simp) (Turn.le (by simp -dsimp [thenKD_normal, thenKD_exit, thenKD_goto, thenKD_ret, inBlockKD_normal, inBlockKD_exit, inBlockKD_goto, inBlockKD_ret, noGotoKD_normal, noGotoKD_exit, noGotoKD_goto, noGotoKD_ret, roundKD_normal, roundKD_exit, roundKD_goto, roundKD_ret, frzSlotsD_nil, frzSlotsD_cons, frzSlotD_eq, yieldVCD_trace, opVCD_eq, vcOpsD_nil, vcOpsD_cons, vcAllD_zero, vcAllD_succ, allAtD_nil, allAtD_cons, readyAux, edgA, vcD_skip, vcD_label, vcD_exit, vcD_goto, vcD_ret, vcD_region, vcD_seq, vcD_cond, vcCondD_bool, vcD_block, vcD_scope, vcD_loop, vcD_rangeFunc, yieldOf, isMem, isMem0, keepE, envLe, St.le, psE, yieldAV, round_td, round_y, round_Γ, vI, vB, vS, aI, aB, aS, look, getE, oper, opRV, putE, allOk, okOps, Op.operands, Call.operands, pEv, qEv, mEv, constRV, coe, RV.av, loadEv, loadCs, takeAt, indexAddrEv, fieldAddrEv, binEv, intEv, arith, unEv, gcond, pickEv, argsEv, callVal, callEv, capAV, lenArgs, lenEv, minEv, extractEv, funcEv, allBox, bound, sliceEv, lookupEv, TD.isBool, allocEv, boxEv, storeEv, spl, plainTD, appendEv, appendArgs, makeMapEv, mapUpdateEv, buildEv, buildSliceEv, fillSV, zsvOf, sizeTD, Ty.parses, parses_flats', coeA, ← flats_append, flats_length, AV.good, AV.cells, AV.pure, SV.pure, av_int, av_bool, av_str, av_slice, av_cons, av_fld0, av_fld1, av_fld2, av_fld3, av_fld4, Ty.of, Ty.dflt, Ty.parse, Ty.flat, Ty.zsv, Ty.fld, Ty.get, Ty.off, Ty.nfld, Ty.size, coeTy, junk, Blk.look, argEnv, resEv, resOk, resVs, oneRV, retOk, frzAs, frzAV, frzL, frzSV, boxCaps, boxCap, SV.sig, sigs, RV.scalar, AV.scalar, SV.scalar, nope])) ?_
  intro i hi
  simp -dsimp [conLaw, conSane_pre, conSane_val, conFew_pre, conFew_val, conShare_pre, conShare_val, conSum_pre, conSum_val, conSame_pre, conSame_val, conRight_pre, conRight_val, conCheck_pre, conCheck_val, conPlaces_pre, conPlaces_val, conPrize_pre, conPrize_val, thenKD_normal, thenKD_exit, thenKD_goto, thenKD_ret, inBlockKD_normal, inBlockKD_exit, inBlockKD_goto, inBlockKD_ret, noGotoKD_normal, noGotoKD_exit, noGotoKD_goto, noGotoKD_ret, roundKD_normal, roundKD_exit, roundKD_goto, roundKD_ret, frzSlotsD_nil, frzSlotsD_cons, frzSlotD_eq, yieldVCD_trace, opVCD_eq, vcOpsD_nil, vcOpsD_cons, vcAllD_zero, vcAllD_succ, allAtD_nil, allAtD_cons, readyAux, edgA, vcD_skip, vcD_label, vcD_exit, vcD_goto, vcD_ret, vcD_region, vcD_seq, vcD_cond, vcCondD_bool, vcD_block, vcD_scope, vcD_loop, vcD_rangeFunc, yieldOf, isMem, isMem0, keepE, envLe, St.le, psE, yieldAV, round_td, round_y, round_Γ, vI, vB, vS, aI, aB, aS, look, getE, oper, opRV, putE, allOk, okOps, Op.operands, Call.operands, pEv, qEv, mEv, constRV, coe, RV.av, loadEv, loadCs, takeAt, indexAddrEv, fieldAddrEv, binEv, intEv, arith, unEv, gcond, pickEv, argsEv, callVal, callEv, capAV, lenArgs, lenEv, minEv, extractEv, funcEv, allBox, bound, sliceEv, lookupEv, TD.isBool, allocEv, boxEv, storeEv, spl, plainTD, appendEv, appendArgs, makeMapEv, mapUpdateEv, buildEv, buildSliceEv, fillSV, zsvOf, sizeTD, Ty.parses, parses_flats', coeA, ← flats_append, flats_length, AV.good, AV.cells, AV.pure, SV.pure, av_int, av_bool, av_str, av_slice, av_cons, av_fld0, av_fld1, av_fld2, av_fld3, av_fld4, Ty.of, Ty.dflt, Ty.parse, Ty.flat, Ty.zsv, Ty.fld, Ty.get, Ty.off, Ty.nfld, Ty.size, coeTy, junk, Blk.look, argEnv, resEv, resOk, resVs, oneRV, retOk, frzAs, frzAV, frzL, frzSV, boxCaps, boxCap, SV.sig, sigs, RV.scalar, AV.scalar, SV.scalar, nope, g3_td, g3_y, g3_Γ, pzT, pzG3, pzG2, pzG1, inI64]
  refine ⟨fun hlt => ⟨by omega, ⟨by omega, by omega⟩, by omega, g1 i hlt, fun _ => ⟨⟨by omega, by omega⟩, i + 1, by omega, by omega, TurnT.le (by simp -dsimp [thenKD_normal, thenKD_exit, thenKD_goto, thenKD_ret, inBlockKD_normal, inBlockKD_exit, inBlockKD_goto, inBlockKD_ret, noGotoKD_normal, noGotoKD_exit, noGotoKD_goto, noGotoKD_ret, roundKD_normal, roundKD_exit, roundKD_goto, roundKD_ret, frzSlotsD_nil, frzSlotsD_cons, frzSlotD_eq, yieldVCD_trace, opVCD_eq, vcOpsD_nil, vcOpsD_cons, vcAllD_zero, vcAllD_succ, allAtD_nil, allAtD_cons, readyAux, edgA, vcD_skip, vcD_label, vcD_exit, vcD_goto, vcD_ret, vcD_region, vcD_seq, vcD_cond, vcCondD_bool, vcD_block, vcD_scope, vcD_loop, vcD_rangeFunc, yieldOf, isMem, isMem0, keepE, envLe, St.le, psE, yieldAV, round_td, round_y, round_Γ, vI, vB, vS, aI, aB, aS, look, getE, oper, opRV, putE, allOk, okOps, Op.operands, Call.operands, pEv, qEv, mEv, constRV, coe, RV.av, loadEv, loadCs, takeAt, indexAddrEv, fieldAddrEv, binEv, intEv, arith, unEv, gcond, pickEv, argsEv, callVal, callEv, capAV, lenArgs, lenEv, minEv, extractEv, funcEv, allBox, bound, sliceEv, lookupEv, TD.isBool, allocEv, boxEv, storeEv, spl, plainTD, appendEv, appendArgs, makeMapEv, mapUpdateEv, buildEv, buildSliceEv, fillSV, zsvOf, sizeTD, Ty.parses, parses_flats', coeA, ← flats_append, flats_length, AV.good, AV.cells, AV.pure, SV.pure, av_int, av_bool, av_str, av_slice, av_cons, av_fld0, av_fld1, av_fld2, av_fld3, av_fld4, Ty.of, Ty.dflt, Ty.parse, Ty.flat, Ty.zsv, Ty.fld, Ty.get, Ty.off, Ty.nfld, Ty.size, coeTy, junk, Blk.look, argEnv, resEv, resOk, resVs, oneRV, retOk, frzAs, frzAV, frzL, frzSV, boxCaps, boxCap, SV.sig, sigs, RV.scalar, AV.scalar, SV.scalar, nope])⟩⟩, fun hge => ?_⟩
  have f1 : shareErr l p = 0 := by unfold shareErr; rw [if_pos hr]; exact hc
  have f2 : shareErr l (p.take (p.length - 1)) = 0 := by
    unfold shareErr; rw [if_pos hr]; exact check_ok (by rw [List.length_take]; omega) (take_ok hc' _)
  have f3 := shareL_len f1
  have f4 := shareL_len f2
  rw [List.length_take, show min (p.length - 1) p.length = p.length - 1 by omega] at f4
  have g2 : ∀ j, j < p.length → (shareL l p)[j]?.getD 0 = shareAt l p j := fun j hj => shareL_get f1 hj
  have g3 : ∀ j, j < p.length - 1 → (shareL l (p.take (p.length - 1)))[j]?.getD 0 = shareAt l (p.take (p.length - 1)) j := fun j hj => shareL_get f2 (by rw [List.length_take]; omega)
  refine ⟨⟨hl, hp⟩, ⟨by omega, by omega⟩, ⟨by omega, by omega⟩, ⟨hl, by omega⟩, fun _ _ _ => ⟨⟨⟨f1, f2⟩, by omega⟩, by omega, by omega⟩, ⟨⟨⟨f1, f2⟩, by omega⟩, by omega⟩, fun _ _ _ _ => ?_⟩
  generalize shareL l p = b at *
  generalize shareL l (p.take (p.length - 1)) = c at *
  refine WpD.loop (L := ⟨[0, 1, 4, 5, 6, 7, 8, 9, 10, 11, 12, 14, 15, 17, 18, 19, 21, 40, 42, 43, 44, 80, 81, 82, 83, 84, 93, 133, 134, 135, 136, 137, 161], [], []⟩) g3_good X0_ok pz_mixed (by kernel_rfl) (ι := Nat)
    (fun i => ⟨[(0, vS tI l ex), (1, vS tPlace p ex'), (4, vB false), (12, vS tI b false), (134, vS tI c false), (135, vI c.length), (136, vI i)], [.dead]⟩)
    (fun i => i ≤ c.length) (fun i => c.length - i) 0 (by simp) (Turn.le (by simp -dsimp [thenKD_normal, thenKD_exit, thenKD_goto, thenKD_ret, inBlockKD_normal, inBlockKD_exit, inBlockKD_goto, inBlockKD_ret, noGotoKD_normal, noGotoKD_exit, noGotoKD_goto, noGotoKD_ret, roundKD_normal, roundKD_exit, roundKD_goto, roundKD_ret, frzSlotsD_nil, frzSlotsD_cons, frzSlotD_eq, yieldVCD_trace, opVCD_eq, vcOpsD_nil, vcOpsD_cons, vcAllD_zero, vcAllD_succ, allAtD_nil, allAtD_cons, readyAux, edgA, vcD_skip, vcD_label, vcD_exit, vcD_goto, vcD_ret, vcD_region, vcD_seq, vcD_cond, vcCondD_bool, vcD_block, vcD_scope, vcD_loop, vcD_rangeFunc, yieldOf, isMem, isMem0, keepE, envLe, St.le, psE, yieldAV, round_td, round_y, round_Γ, vI, vB, vS, aI, aB, aS, look, getE, oper, opRV, putE, allOk, okOps, Op.operands, Call.operands, pEv, qEv, mEv, constRV, coe, RV.av, loadEv, loadCs, takeAt, indexAddrEv, fieldAddrEv, binEv, intEv, arith, unEv, gcond, pickEv, argsEv, callVal, callEv, capAV, lenArgs, lenEv, minEv, extractEv, funcEv, allBox, bound, sliceEv, lookupEv, TD.isBool, allocEv, boxEv, storeEv, spl, plainTD, appendEv, appendArgs, makeMapEv, mapUpdateEv, buildEv, buildSliceEv, fillSV, zsvOf, sizeTD, Ty.parses, parses_flats', coeA, ← flats_append, flats_length, AV.good, AV.cells, AV.pure, SV.pure, av_int, av_bool, av_str, av_slice, av_cons, av_fld0, av_fld1, av_fld2, av_fld3, av_fld4, Ty.of, Ty.dflt, Ty.parse, Ty.flat, Ty.zsv, Ty.fld, Ty.get, Ty.off, Ty.nfld, Ty.size, coeTy, junk, Blk.look, argEnv, resEv, resOk, resVs, oneRV, retOk, frzAs, frzAV, frzL, frzSV, boxCaps, boxCap, SV.sig, sigs, RV.scalar, AV.scalar, SV.scalar, nope])) ?_
  intro i hi
  simp -dsimp [conLaw, conSane_pre, conSane_val, conFew_pre, conFew_val, conShare_pre, conShare_val, conSum_pre, conSum_val, conSame_pre, conSame_val, conRight_pre, conRight_val, conCheck_pre, conCheck_val, conPlaces_pre, conPlaces_val, conPrize_pre, conPrize_val, thenKD_normal, thenKD_exit, thenKD_goto, thenKD_ret, inBlockKD_normal, inBlockKD_exit, inBlockKD_goto, inBlockKD_ret, noGotoKD_normal, noGotoKD_exit, noGotoKD_goto, noGotoKD_ret, roundKD_normal, roundKD_exit, roundKD_goto, roundKD_ret, frzSlotsD_nil, frzSlotsD_cons, frzSlotD_eq, yieldVCD_trace, opVCD_eq, vcOpsD_nil, vcOpsD_cons, vcAllD_zero, vcAllD_succ, allAtD_nil, allAtD_cons, readyAux, edgA, vcD_skip, vcD_label, vcD_exit, vcD_goto, vcD_ret, vcD_region, vcD_seq, vcD_cond, vcCondD_bool, vcD_block, vcD_scope, vcD_loop, vcD_rangeFunc, yieldOf, isMem, isMem0, keepE, envLe, St.le, psE, yieldAV, round_td, round_y, round_Γ, vI, vB, vS, aI, aB, aS, look, getE, oper, opRV, putE, allOk, okOps, Op.operands, Call.operands, pEv, qEv, mEv, constRV, coe, RV.av, loadEv, loadCs, takeAt, indexAddrEv, fieldAddrEv, binEv, intEv, arith, unEv, gcond, pickEv, argsEv, callVal, callEv, capAV, lenArgs, lenEv, minEv, extractEv, funcEv, allBox, bound, sliceEv, lookupEv, TD.isBool, allocEv, boxEv, storeEv, spl, plainTD, appendEv, appendArgs, makeMapEv, mapUpdateEv, buildEv, buildSliceEv, fillSV, zsvOf, sizeTD, Ty.parses, parses_flats', coeA, ← flats_append, flats_length, AV.good, AV.cells, AV.pure, SV.pure, av_int, av_bool, av_str, av_slice, av_cons, av_fld0, av_fld1, av_fld2, av_fld3, av_fld4, Ty.of, Ty.dflt, Ty.parse, Ty.flat, Ty.zsv, Ty.fld, Ty.get, Ty.off, Ty.nfld, Ty.size, coeTy, junk, Blk.look, argEnv, resEv, resOk, resVs, oneRV, retOk, frzAs, frzAV, frzL, frzSV, boxCaps, boxCap, SV.sig, sigs, RV.scalar, AV.scalar, SV.scalar, nope, g3_td, g3_y, g3_Γ, pzT, pzG3, pzG2, pzG1, inI64]
  intro hlt
  have q1 : (p[i]?.getD (0, 0, 0, ())).2.1 < (p[p.length - 1]?.getD (0, 0, 0, ())).2.1 → c[i]?.getD 0 = b[i]?.getD 0 := fun q => by
    have q' : pr p i < pr p (p.length - 1) := q
    rw [g2 i (by omega), g3 i (by omega), take_share l (by omega) (by omega)]
  exact ⟨hlt, by omega, ⟨by omega, by omega⟩, ⟨by omega, by omega⟩, fun q => ⟨q, by omega⟩, q1, fun _ => ⟨⟨by omega, by omega⟩, i + 1, by omega, by omega, TurnT.le (by simp -dsimp [thenKD_normal, thenKD_exit, thenKD_goto, thenKD_ret, inBlockKD_normal, inBlockKD_exit, inBlockKD_goto, inBlockKD_ret, noGotoKD_normal, noGotoKD_exit, noGotoKD_goto, noGotoKD_ret, roundKD_normal, roundKD_exit, roundKD_goto, roundKD_ret, frzSlotsD_nil, frzSlotsD_cons, frzSlotD_eq, yieldVCD_trace, opVCD_eq, vcOpsD_nil, vcOpsD_cons, vcAllD_zero, vcAllD_succ, allAtD_nil, allAtD_cons, readyAux, edgA, vcD_skip, vcD_label, vcD_exit, vcD_goto, vcD_ret, vcD_region, vcD_seq, vcD_cond, vcCondD_bool, vcD_block, vcD_scope, vcD_loop, vcD_rangeFunc, yieldOf, isMem, isMem0, keepE, envLe, St.le, psE, yieldAV, round_td, round_y, round_Γ, vI, vB, vS, aI, aB, aS, look, getE, oper, opRV, putE, allOk, okOps, Op.operands, Call.operands, pEv, qEv, mEv, constRV, coe, RV.av, loadEv, loadCs, takeAt, indexAddrEv, fieldAddrEv, binEv, intEv, arith, unEv, gcond, pickEv, argsEv, callVal, callEv, capAV, lenArgs, lenEv, minEv, extractEv, funcEv, allBox, bound, sliceEv, lookupEv, TD.isBool, allocEv, boxEv, storeEv, spl, plainTD, appendEv, appendArgs, makeMapEv, mapUpdateEv, buildEv, buildSliceEv, fillSV, zsvOf, sizeTD, Ty.parses, parses_flats', coeA, ← flats_append, flats_length, AV.good, AV.cells, AV.pure, SV.pure, av_int, av_bool, av_str, av_slice, av_cons, av_fld0, av_fld1, av_fld2, av_fld3, av_fld4, Ty.of, Ty.dflt, Ty.parse, Ty.flat, Ty.zsv, Ty.fld, Ty.get, Ty.off, Ty.nfld, Ty.size, coeTy, junk, Blk.look, argEnv, resEv, resOk, resVs, oneRV, retOk, frzAs, frzAV, frzL, frzSV, boxCaps, boxCap, SV.sig, sigs, RV.scalar, AV.scalar, SV.scalar, nope])⟩⟩
end Go.Am
