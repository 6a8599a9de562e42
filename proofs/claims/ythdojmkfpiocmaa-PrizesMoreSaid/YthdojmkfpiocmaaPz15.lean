/- The program of chapter 25: the fifth law. -/
import Derived.Test.YthdojmkfpiocmaaPz14
namespace Go.Am
set_option linter.unusedVariables false
set_option linter.unusedSimpArgs false
set_option maxHeartbeats 4000000
set_option maxRecDepth 20000
open Go.RowKit Go.Proofs

def conLaw3 : Con := { pre := fun args => ∃ (l : List Int) (ex : Bool) (m : List Int) (ex'' : Bool) (p : List Pl) (ex' : Bool), args = [aS tI l ex, aS tI m ex'', aS tPlace p ex'], val := fun _ => .v (aB true) }
def gAt (l m : List Int) (j : Nat) : Int := if prize l ((j : Int) + 1) < prize m ((j : Int) + 1) then prize m ((j : Int) + 1) else prize l ((j : Int) + 1)
def great (l m : List Int) (n : Nat) : List Int := (List.range n).map (gAt l m)
theorem great_len (l m : List Int) (n : Nat) : (great l m n).length = n := by simp [great]
theorem great_succ (l m : List Int) (n : Nat) : great l m (n + 1) = great l m n ++ [gAt l m n] := by simp [great, List.range_succ]
theorem gAt_bounds {l m : List Int} (hl : right l = true) (hm : right m = true) (j : Nat) : 0 ≤ gAt l m j ∧ gAt l m j ≤ 1099511627776 := by
  have h1 := prize_bounds hl (r := (j : Int) + 1) (by omega)
  have h2 := prize_bounds hm (r := (j : Int) + 1) (by omega)
  unfold gAt
  split <;> omega
theorem gAt_desc {l m : List Int} (hl : right l = true) (hm : right m = true) (j : Nat) : gAt l m (j + 1) ≤ gAt l m j := by
  have h1 := prize_mono hl (r := (j : Int) + 1) (s := ((j + 1 : Nat) : Int) + 1) (by omega) (by omega)
  have h2 := prize_mono hm (r := (j : Int) + 1) (s := ((j + 1 : Nat) : Int) + 1) (by omega) (by omega)
  unfold gAt
  split <;> split <;> omega
theorem great_good {l m : List Int} (hl : right l = true) (hm : right m = true) : ∀ n, goodFrom 1099511627776 (great l m n) = true
  | 0 => by simp [great, goodFrom]
  | n + 1 => by
    have h1 := gAt_bounds hl hm n
    rw [great_succ, goodFrom_append, great_good hl hm n]
    have : gAt l m n ≤ (great l m n).getLastD 1099511627776 := by
      cases n with
      | zero => simpa [great] using h1.2
      | succ n =>
        rw [great_succ, List.getLastD_eq_getLast?, List.getLast?_append]
        simpa using gAt_desc hl hm n
    simp only [h1.1, this, decide_true, Bool.and_true]
theorem great_right {l m : List Int} (hl : right l = true) (hm : right m = true) {n : Nat} (hn : n ≤ 64) : right (great l m n) = true := by
  simp [right, great_len, great_good hl hm n, hn]
theorem great_prize {l m : List Int} (hl : right l = true) (hm : right m = true) {n : Nat} (hn : l.length ≤ n) {r : Int} (hr : 1 ≤ r) : prize l r ≤ prize (great l m n) r := by
  by_cases c : r ≤ n
  · have : prize (great l m n) r = gAt l m (r.toNat - 1) := by
      unfold prize
      rw [great_len, if_pos c]
      have : r.toNat - 1 < n := by omega
      simp [great, this]
    rw [this]
    unfold gAt
    rw [show ((r.toNat - 1 : Nat) : Int) + 1 = r by omega]
    split <;> omega
  · unfold prize
    rw [great_len, if_neg c, if_neg (by omega)]
    omega
theorem psum_mono {l g : List Int} {r : Int} (h : ∀ s, r ≤ s → prize l s ≤ prize g s) : ∀ m : Nat, psum l r m ≤ psum g r m
  | 0 => by simp [psum]
  | m + 1 => by
    have h1 := psum_mono h m
    have h2 := h (r + m) (by omega)
    simp only [psum]
    omega
theorem great_share {l m : List Int} (hl : right l = true) (hm : right m = true) {n : Nat} (hn : l.length ≤ n) (h64 : n ≤ 64) {p : List Pl} (hp : OkAll p) {i : Nat} (hi : i < p.length) : shareAt l p i ≤ shareAt (great l m n) p i := by
  have hr := rank_bounds hp i hi
  have h1 := psum_bounds hl hr.1 (cnt p i)
  have h2 := psum_bounds (great_right hl hm h64) hr.1 (cnt p i)
  have h3 := psum_mono (r := pr p i) (l := l) (g := great l m n) (fun s hs => great_prize hl hm hn (by omega)) (cnt p i)
  have h4 : 0 < cnt p i := cntTo_pos hi
  unfold shareAt
  rw [Int.tdiv_eq_ediv_of_nonneg h1.1, Int.tdiv_eq_ediv_of_nonneg h2.1]
  exact Int.ediv_le_ediv (by omega) h3

theorem more_ok : PureOk Try.prog 7 conLaw3 := by
  refine pureOkD (L := ⟨[0, 1, 2, 6, 7, 8, 9, 11, 12, 14, 15, 17, 42, 47, 48, 49, 97, 99, 100, 101, 111], [(12, [7])], []⟩) g3_good rfl pz_mixed Try.func7 rfl conLaw3 3 (by decide) (by kernel_rfl) ?_
  rintro _ ⟨l, ex, m, ex'', p, ex', rfl⟩ ⟨⟨hln, _⟩, ⟨hmn, _⟩, ⟨hpn, _⟩, _⟩
  refine ⟨rfl, ?_⟩
  simp only [maxLen] at hpn
  simp -dsimp [Try.f7, conLaw3, conSane_pre, conSane_val, conFew_pre, conFew_val, conShare_pre, conShare_val, conSum_pre, conSum_val, conSame_pre, conSame_val, conRight_pre, conRight_val, conCheck_pre, conCheck_val, conPlaces_pre, conPlaces_val, conPrize_pre, conPrize_val, thenKD_normal, thenKD_exit, thenKD_goto, thenKD_ret, inBlockKD_normal, inBlockKD_exit, inBlockKD_goto, inBlockKD_ret, noGotoKD_normal, noGotoKD_exit, noGotoKD_goto, noGotoKD_ret, roundKD_normal, roundKD_exit, roundKD_goto, roundKD_ret, frzSlotsD_nil, frzSlotsD_cons, frzSlotD_eq, yieldVCD_trace, opVCD_eq, vcOpsD_nil, vcOpsD_cons, vcAllD_zero, vcAllD_succ, allAtD_nil, allAtD_cons, readyAux, edgA, vcD_skip, vcD_label, vcD_exit, vcD_goto, vcD_ret, vcD_region, vcD_seq, vcD_cond, vcCondD_bool, vcD_block, vcD_scope, vcD_loop, vcD_rangeFunc, yieldOf, isMem, isMem0, keepE, envLe, St.le, psE, yieldAV, round_td, round_y, round_Γ, vI, vB, vS, aI, aB, aS, look, getE, oper, opRV, putE, allOk, okOps, Op.operands, Call.operands, pEv, qEv, mEv, constRV, coe, RV.av, loadEv, loadCs, takeAt, indexAddrEv, fieldAddrEv, binEv, intEv, arith, unEv, gcond, pickEv, argsEv, callVal, callEv, capAV, lenArgs, lenEv, minEv, extractEv, funcEv, allBox, bound, sliceEv, lookupEv, TD.isBool, allocEv, boxEv, storeEv, spl, plainTD, appendEv, appendArgs, makeMapEv, mapUpdateEv, buildEv, buildSliceEv, fillSV, zsvOf, sizeTD, Ty.parses, parses_flats', coeA, ← flats_append, flats_length, AV.good, AV.cells, AV.pure, SV.pure, av_int, av_bool, av_str, av_slice, av_cons, av_fld0, av_fld1, av_fld2, av_fld3, av_fld4, Ty.of, Ty.dflt, Ty.parse, Ty.flat, Ty.zsv, Ty.fld, Ty.get, Ty.off, Ty.nfld, Ty.size, coeTy, junk, Blk.look, argEnv, resEv, resOk, resVs, oneRV, retOk, frzAs, frzAV, frzL, frzSV, boxCaps, boxCap, SV.sig, sigs, RV.scalar, AV.scalar, SV.scalar, nope, g3_td, g3_y, g3_Γ, pzT, pzG3, pzG2, pzG1, inI64]
  intro hl hp hm _ hr hr' hc
  have l64 := right_len hr
  have m64 := right_len hr'
  obtain ⟨_, hc'⟩ := check_zero hc
  obtain ⟨K, hK, hK1, hK2⟩ : ∃ K : Nat, (if l.length < m.length then (m.length : Int) else l.length) = K ∧ l.length ≤ K ∧ K ≤ 64 := by
    split
    · exact ⟨m.length, rfl, by omega, by omega⟩
    · exact ⟨l.length, rfl, by omega, by omega⟩
  refine WpD.loop (L := ⟨[0, 1, 2, 6, 7, 8, 9, 11, 12, 14, 15, 17, 42, 47, 48, 49, 97, 99, 100, 101, 111], [], []⟩) g3_good X0_ok pz_mixed (by kernel_rfl) (ι := Nat)
    (fun i => ⟨[(0, vS tI l ex), (1, vS tI m ex''), (2, vS tPlace p ex'), (6, vB false), (7, ⟨true, .v (.s (.own tI 0 i))⟩), (47, vI K), (48, vI i)], [.arr (decide (0 < i)) (tI.flats (great l m i))]⟩)
    (fun i => i ≤ K) (fun i => K - i) 0 (by simp) (Turn.trans (Turn.virt (k := 7) (t := tI) (xs := []) (by simp -dsimp [thenKD_normal, thenKD_exit, thenKD_goto, thenKD_ret, inBlockKD_normal, inBlockKD_exit, inBlockKD_goto, inBlockKD_ret, noGotoKD_normal, noGotoKD_exit, noGotoKD_goto, noGotoKD_ret, roundKD_normal, roundKD_exit, roundKD_goto, roundKD_ret, frzSlotsD_nil, frzSlotsD_cons, frzSlotD_eq, yieldVCD_trace, opVCD_eq, vcOpsD_nil, vcOpsD_cons, vcAllD_zero, vcAllD_succ, allAtD_nil, allAtD_cons, readyAux, edgA, vcD_skip, vcD_label, vcD_exit, vcD_goto, vcD_ret, vcD_region, vcD_seq, vcD_cond, vcCondD_bool, vcD_block, vcD_scope, vcD_loop, vcD_rangeFunc, yieldOf, isMem, isMem0, keepE, envLe, St.le, psE, yieldAV, round_td, round_y, round_Γ, vI, vB, vS, aI, aB, aS, look, getE, oper, opRV, putE, allOk, okOps, Op.operands, Call.operands, pEv, qEv, mEv, constRV, coe, RV.av, loadEv, loadCs, takeAt, indexAddrEv, fieldAddrEv, binEv, intEv, arith, unEv, gcond, pickEv, argsEv, callVal, callEv, capAV, lenArgs, lenEv, minEv, extractEv, funcEv, allBox, bound, sliceEv, lookupEv, TD.isBool, allocEv, boxEv, storeEv, spl, plainTD, appendEv, appendArgs, makeMapEv, mapUpdateEv, buildEv, buildSliceEv, fillSV, zsvOf, sizeTD, Ty.parses, parses_flats', coeA, ← flats_append, flats_length, AV.good, AV.cells, AV.pure, SV.pure, av_int, av_bool, av_str, av_slice, av_cons, av_fld0, av_fld1, av_fld2, av_fld3, av_fld4, Ty.of, Ty.dflt, Ty.parse, Ty.flat, Ty.zsv, Ty.fld, Ty.get, Ty.off, Ty.nfld, Ty.size, coeTy, junk, Blk.look, argEnv, resEv, resOk, resVs, oneRV, retOk, frzAs, frzAV, frzL, frzSV, boxCaps, boxCap, SV.sig, sigs, RV.scalar, AV.scalar, SV.scalar, nope])) (Turn.le (by simp -dsimp [thenKD_normal, thenKD_exit, thenKD_goto, thenKD_ret, inBlockKD_normal, inBlockKD_exit, inBlockKD_goto, inBlockKD_ret, noGotoKD_normal, noGotoKD_exit, noGotoKD_goto, noGotoKD_ret, roundKD_normal, roundKD_exit, roundKD_goto, roundKD_ret, frzSlotsD_nil, frzSlotsD_cons, frzSlotD_eq, yieldVCD_trace, opVCD_eq, vcOpsD_nil, vcOpsD_cons, vcAllD_zero, vcAllD_succ, allAtD_nil, allAtD_cons, readyAux, edgA, vcD_skip, vcD_label, vcD_exit, vcD_goto, vcD_ret, vcD_region, vcD_seq, vcD_cond, vcCondD_bool, vcD_block, vcD_scope, vcD_loop, vcD_rangeFunc, yieldOf, isMem, isMem0, keepE, envLe, St.le, psE, yieldAV, round_td, round_y, round_Γ, vI, vB, vS, aI, aB, aS, look, getE, oper, opRV, putE, allOk, okOps, Op.operands, Call.operands, pEv, qEv, mEv, constRV, coe, RV.av, loadEv, loadCs, takeAt, indexAddrEv, fieldAddrEv, binEv, intEv, arith, unEv, gcond, pickEv, argsEv, callVal, callEv, capAV, lenArgs, lenEv, minEv, extractEv, funcEv, allBox, bound, sliceEv, lookupEv, TD.isBool, allocEv, boxEv, storeEv, spl, plainTD, appendEv, appendArgs, makeMapEv, mapUpdateEv, buildEv, buildSliceEv, fillSV, zsvOf, sizeTD, Ty.parses, parses_flats', coeA, ← flats_append, flats_length, AV.good, AV.cells, AV.pure, SV.pure, av_int, av_bool, av_str, av_slice, av_cons, av_fld0, av_fld1, av_fld2, av_fld3, av_fld4, Ty.of, Ty.dflt, Ty.parse, Ty.flat, Ty.zsv, Ty.fld, Ty.get, Ty.off, Ty.nfld, Ty.size, coeTy, junk, Blk.look, argEnv, resEv, resOk, resVs, oneRV, retOk, frzAs, frzAV, frzL, frzSV, boxCaps, boxCap, SV.sig, sigs, RV.scalar, AV.scalar, SV.scalar, nope, Ty.flats, great, hK]))) ?_
  intro i hi
  simp -dsimp [conLaw3, conSane_pre, conSane_val, conFew_pre, conFew_val, conShare_pre, conShare_val, conSum_pre, conSum_val, conSame_pre, conSame_val, conRight_pre, conRight_val, conCheck_pre, conCheck_val, conPlaces_pre, conPlaces_val, conPrize_pre, conPrize_val, thenKD_normal, thenKD_exit, thenKD_goto, thenKD_ret, inBlockKD_normal, inBlockKD_exit, inBlockKD_goto, inBlockKD_ret, noGotoKD_normal, noGotoKD_exit, noGotoKD_goto, noGotoKD_ret, roundKD_normal, roundKD_exit, roundKD_goto, roundKD_ret, frzSlotsD_nil, frzSlotsD_cons, frzSlotD_eq, yieldVCD_trace, opVCD_eq, vcOpsD_nil, vcOpsD_cons, vcAllD_zero, vcAllD_succ, allAtD_nil, allAtD_cons, readyAux, edgA, vcD_skip, vcD_label, vcD_exit, vcD_goto, vcD_ret, vcD_region, vcD_seq, vcD_cond, vcCondD_bool, vcD_block, vcD_scope, vcD_loop, vcD_rangeFunc, yieldOf, isMem, isMem0, keepE, envLe, St.le, psE, yieldAV, round_td, round_y, round_Γ, vI, vB, vS, aI, aB, aS, look, getE, oper, opRV, putE, allOk, okOps, Op.operands, Call.operands, pEv, qEv, mEv, constRV, coe, RV.av, loadEv, loadCs, takeAt, indexAddrEv, fieldAddrEv, binEv, intEv, arith, unEv, gcond, pickEv, argsEv, callVal, callEv, capAV, lenArgs, lenEv, minEv, extractEv, funcEv, allBox, bound, sliceEv, lookupEv, TD.isBool, allocEv, boxEv, storeEv, spl, plainTD, appendEv, appendArgs, makeMapEv, mapUpdateEv, buildEv, buildSliceEv, fillSV, zsvOf, sizeTD, Ty.parses, parses_flats', coeA, ← flats_append, flats_length, AV.good, AV.cells, AV.pure, SV.pure, av_int, av_bool, av_str, av_slice, av_cons, av_fld0, av_fld1, av_fld2, av_fld3, av_fld4, Ty.of, Ty.dflt, Ty.parse, Ty.flat, Ty.zsv, Ty.fld, Ty.get, Ty.off, Ty.nfld, Ty.size, coeTy, junk, Blk.look, argEnv, resEv, resOk, resVs, oneRV, retOk, frzAs, frzAV, frzL, frzSV, boxCaps, boxCap, SV.sig, sigs, RV.scalar, AV.scalar, SV.scalar, nope, g3_td, g3_y, g3_Γ, pzT, pzG3, pzG2, pzG1, inI64]
  refine ⟨fun hlt => ⟨⟨by omega, by omega⟩, by omega, ⟨by omega, by omega⟩, by omega, ⟨great_len _ _ _, by omega, by simp only [maxLen]; omega⟩, ⟨by omega, by omega⟩, i + 1, by omega, by omega, TurnT.le (by simp -dsimp [thenKD_normal, thenKD_exit, thenKD_goto, thenKD_ret, inBlockKD_normal, inBlockKD_exit, inBlockKD_goto, inBlockKD_ret, noGotoKD_normal, noGotoKD_exit, noGotoKD_goto, noGotoKD_ret, roundKD_normal, roundKD_exit, roundKD_goto, roundKD_ret, frzSlotsD_nil, frzSlotsD_cons, frzSlotD_eq, yieldVCD_trace, opVCD_eq, vcOpsD_nil, vcOpsD_cons, vcAllD_zero, vcAllD_succ, allAtD_nil, allAtD_cons, readyAux, edgA, vcD_skip, vcD_label, vcD_exit, vcD_goto, vcD_ret, vcD_region, vcD_seq, vcD_cond, vcCondD_bool, vcD_block, vcD_scope, vcD_loop, vcD_rangeFunc, yieldOf, isMem, isMem0, keepE, envLe, St.le, psE, yieldAV, round_td, round_y, round_Γ, vI, vB, vS, aI, aB, aS, look, getE, oper, opRV, putE, allOk, okOps, Op.operands, Call.operands, pEv, qEv, mEv, constRV, coe, RV.av, loadEv, loadCs, takeAt, indexAddrEv, fieldAddrEv, binEv, intEv, arith, unEv, gcond, pickEv, argsEv, callVal, callEv, capAV, lenArgs, lenEv, minEv, extractEv, funcEv, allBox, bound, sliceEv, lookupEv, TD.isBool, allocEv, boxEv, storeEv, spl, plainTD, appendEv, appendArgs, makeMapEv, mapUpdateEv, buildEv, buildSliceEv, fillSV, zsvOf, sizeTD, Ty.parses, parses_flats', coeA, ← flats_append, flats_length, AV.good, AV.cells, AV.pure, SV.pure, av_int, av_bool, av_str, av_slice, av_cons, av_fld0, av_fld1, av_fld2, av_fld3, av_fld4, Ty.of, Ty.dflt, Ty.parse, Ty.flat, Ty.zsv, Ty.fld, Ty.get, Ty.off, Ty.nfld, Ty.size, coeTy, junk, Blk.look, argEnv, resEv, resOk, resVs, oneRV, retOk, frzAs, frzAV, frzL, frzSV, boxCaps, boxCap, SV.sig, sigs, RV.scalar, AV.scalar, SV.scalar, nope, great_succ, gAt])⟩, fun hge => ?_⟩
  obtain rfl : i = K := by omega
  have f1 : shareErr l p = 0 := by unfold shareErr; rw [if_pos hr]; exact hc
  have f2 : shareErr (great l m i) p = 0 := by unfold shareErr; rw [if_pos (great_right hr hr' hK2)]; exact hc
  have f3 := shareL_len f1
  have f4 := shareL_len f2
  refine ⟨⟨hl, hp⟩, great l m i, rfl, (great_len _ _ _).symm, ⟨by rw [great_len]; omega, hp⟩, ⟨⟨⟨f1, f2⟩, by omega⟩, by omega⟩, fun _ _ _ _ => ?_⟩
  have q1 : ∀ j, j < p.length → (shareL l p)[j]?.getD 0 ≤ (shareL (great l m i) p)[j]?.getD 0 := fun j hj => by
    rw [shareL_get f1 hj, shareL_get f2 hj]; exact great_share hr hr' hK1 hK2 hc' hj
  generalize shareL l p = a at *
  generalize shareL (great l m i) p = b at *
  refine WpD.loop (L := ⟨[0, 1, 2, 6, 7, 8, 9, 11, 12, 14, 15, 17, 42, 47, 48, 49, 97, 99, 100, 101, 111], [], []⟩) g3_good X0_ok pz_mixed (by kernel_rfl) (ι := Nat)
    (fun i => ⟨[(0, vS tI l ex), (1, vS tI m ex''), (2, vS tPlace p ex'), (6, vB false), (9, vS tI a false), (12, vS tI b false), (99, vI p.length), (100, vI i)], [.dead]⟩)
    (fun i => i ≤ p.length) (fun i => p.length - i) 0 (by simp) (Turn.le (by simp -dsimp [thenKD_normal, thenKD_exit, thenKD_goto, thenKD_ret, inBlockKD_normal, inBlockKD_exit, inBlockKD_goto, inBlockKD_ret, noGotoKD_normal, noGotoKD_exit, noGotoKD_goto, noGotoKD_ret, roundKD_normal, roundKD_exit, roundKD_goto, roundKD_ret, frzSlotsD_nil, frzSlotsD_cons, frzSlotD_eq, yieldVCD_trace, opVCD_eq, vcOpsD_nil, vcOpsD_cons, vcAllD_zero, vcAllD_succ, allAtD_nil, allAtD_cons, readyAux, edgA, vcD_skip, vcD_label, vcD_exit, vcD_goto, vcD_ret, vcD_region, vcD_seq, vcD_cond, vcCondD_bool, vcD_block, vcD_scope, vcD_loop, vcD_rangeFunc, yieldOf, isMem, isMem0, keepE, envLe, St.le, psE, yieldAV, round_td, round_y, round_Γ, vI, vB, vS, aI, aB, aS, look, getE, oper, opRV, putE, allOk, okOps, Op.operands, Call.operands, pEv, qEv, mEv, constRV, coe, RV.av, loadEv, loadCs, takeAt, indexAddrEv, fieldAddrEv, binEv, intEv, arith, unEv, gcond, pickEv, argsEv, callVal, callEv, capAV, lenArgs, lenEv, minEv, extractEv, funcEv, allBox, bound, sliceEv, lookupEv, TD.isBool, allocEv, boxEv, storeEv, spl, plainTD, appendEv, appendArgs, makeMapEv, mapUpdateEv, buildEv, buildSliceEv, fillSV, zsvOf, sizeTD, Ty.parses, parses_flats', coeA, ← flats_append, flats_length, AV.good, AV.cells, AV.pure, SV.pure, av_int, av_bool, av_str, av_slice, av_cons, av_fld0, av_fld1, av_fld2, av_fld3, av_fld4, Ty.of, Ty.dflt, Ty.parse, Ty.flat, Ty.zsv, Ty.fld, Ty.get, Ty.off, Ty.nfld, Ty.size, coeTy, junk, Blk.look, argEnv, resEv, resOk, resVs, oneRV, retOk, frzAs, frzAV, frzL, frzSV, boxCaps, boxCap, SV.sig, sigs, RV.scalar, AV.scalar, SV.scalar, nope])) ?_
  intro j hj
  simp -dsimp [conLaw3, conSane_pre, conSane_val, conFew_pre, conFew_val, conShare_pre, conShare_val, conSum_pre, conSum_val, conSame_pre, conSame_val, conRight_pre, conRight_val, conCheck_pre, conCheck_val, conPlaces_pre, conPlaces_val, conPrize_pre, conPrize_val, thenKD_normal, thenKD_exit, thenKD_goto, thenKD_ret, inBlockKD_normal, inBlockKD_exit, inBlockKD_goto, inBlockKD_ret, noGotoKD_normal, noGotoKD_exit, noGotoKD_goto, noGotoKD_ret, roundKD_normal, roundKD_exit, roundKD_goto, roundKD_ret, frzSlotsD_nil, frzSlotsD_cons, frzSlotD_eq, yieldVCD_trace, opVCD_eq, vcOpsD_nil, vcOpsD_cons, vcAllD_zero, vcAllD_succ, allAtD_nil, allAtD_cons, readyAux, edgA, vcD_skip, vcD_label, vcD_exit, vcD_goto, vcD_ret, vcD_region, vcD_seq, vcD_cond, vcCondD_bool, vcD_block, vcD_scope, vcD_loop, vcD_rangeFunc, yieldOf, isMem, isMem0, keepE, envLe, St.le, psE, yieldAV, round_td, round_y, round_Γ, vI, vB, vS, aI, aB, aS, look, getE, oper, opRV, putE, allOk, okOps, Op.operands, Call.operands, pEv, qEv, mEv, constRV, coe, RV.av, loadEv, loadCs, takeAt, indexAddrEv, fieldAddrEv, binEv, intEv, arith, unEv, gcond, pickEv, argsEv, callVal, callEv, capAV, lenArgs, lenEv, minEv, extractEv, funcEv, allBox, bound, sliceEv, lookupEv, TD.isBool, allocEv, boxEv, storeEv, spl, plainTD, appendEv, appendArgs, makeMapEv, mapUpdateEv, buildEv, buildSliceEv, fillSV, zsvOf, sizeTD, Ty.parses, parses_flats', coeA, ← flats_append, flats_length, AV.good, AV.cells, AV.pure, SV.pure, av_int, av_bool, av_str, av_slice, av_cons, av_fld0, av_fld1, av_fld2, av_fld3, av_fld4, Ty.of, Ty.dflt, Ty.parse, Ty.flat, Ty.zsv, Ty.fld, Ty.get, Ty.off, Ty.nfld, Ty.size, coeTy, junk, Blk.look, argEnv, resEv, resOk, resVs, oneRV, retOk, frzAs, frzAV, frzL, frzSV, boxCaps, boxCap, SV.sig, sigs, RV.scalar, AV.scalar, SV.scalar, nope, g3_td, g3_y, g3_Γ, pzT, pzG3, pzG2, pzG1, inI64]
  intro hlt
  exact ⟨by omega, by omega, q1 j hlt, fun _ => ⟨⟨by omega, by omega⟩, j + 1, by omega, by omega, TurnT.le (by simp -dsimp [thenKD_normal, thenKD_exit, thenKD_goto, thenKD_ret, inBlockKD_normal, inBlockKD_exit, inBlockKD_goto, inBlockKD_ret, noGotoKD_normal, noGotoKD_exit, noGotoKD_goto, noGotoKD_ret, roundKD_normal, roundKD_exit, roundKD_goto, roundKD_ret, frzSlotsD_nil, frzSlotsD_cons, frzSlotD_eq, yieldVCD_trace, opVCD_eq, vcOpsD_nil, vcOpsD_cons, vcAllD_zero, vcAllD_succ, allAtD_nil, allAtD_cons, readyAux, edgA, vcD_skip, vcD_label, vcD_exit, vcD_goto, vcD_ret, vcD_region, vcD_seq, vcD_cond, vcCondD_bool, vcD_block, vcD_scope, vcD_loop, vcD_rangeFunc, yieldOf, isMem, isMem0, keepE, envLe, St.le, psE, yieldAV, round_td, round_y, round_Γ, vI, vB, vS, aI, aB, aS, look, getE, oper, opRV, putE, allOk, okOps, Op.operands, Call.operands, pEv, qEv, mEv, constRV, coe, RV.av, loadEv, loadCs, takeAt, indexAddrEv, fieldAddrEv, binEv, intEv, arith, unEv, gcond, pickEv, argsEv, callVal, callEv, capAV, lenArgs, lenEv, minEv, extractEv, funcEv, allBox, bound, sliceEv, lookupEv, TD.isBool, allocEv, boxEv, storeEv, spl, plainTD, appendEv, appendArgs, makeMapEv, mapUpdateEv, buildEv, buildSliceEv, fillSV, zsvOf, sizeTD, Ty.parses, parses_flats', coeA, ← flats_append, flats_length, AV.good, AV.cells, AV.pure, SV.pure, av_int, av_bool, av_str, av_slice, av_cons, av_fld0, av_fld1, av_fld2, av_fld3, av_fld4, Ty.of, Ty.dflt, Ty.parse, Ty.flat, Ty.zsv, Ty.fld, Ty.get, Ty.off, Ty.nfld, Ty.size, coeTy, junk, Blk.look, argEnv, resEv, resOk, resVs, oneRV, retOk, frzAs, frzAV, frzL, frzSV, boxCaps, boxCap, SV.sig, sigs, RV.scalar, AV.scalar, SV.scalar, nope])⟩⟩
end Go.Am
