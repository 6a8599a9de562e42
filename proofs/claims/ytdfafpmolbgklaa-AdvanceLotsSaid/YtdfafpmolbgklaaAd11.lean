/- The program of chapter 24: the examples. -/
import Derived.Test.YtdfafpmolbgklaaAd10
namespace Go.Am
set_option linter.unusedVariables false
set_option linter.unusedSimpArgs false
set_option maxHeartbeats 4000000
set_option maxRecDepth 20000
open Go.RowKit Go.Proofs

def sameB (p : List Pl) (i : Nat) : Bool := decide (0 < i) && decide (pr p i = pr p (i - 1))
def okB (p : List Pl) (i : Nat) : Bool :=
  decide (0 ≤ pe p i) && (List.range i).all (fun k => decide (pe p k ≠ pe p i)) && (!sameB p i || decide (pe p (i - 1) < pe p i)) && (sameB p i || decide (pr p i = i + 1)) &&
  ((decide (i = 0) || sameB p i) == decide (pb p i = -1)) && decide (-1 ≤ pb p i)
theorem okB_iff (p : List Pl) (i : Nat) : okB p i = true ↔ OkAt p i := by
  have hs : sameB p i = true ↔ sameR p i := by simp [sameB, sameR]
  have hn : sameB p i = false ↔ ¬ sameR p i := by rw [← hs]; simp
  unfold okB
  simp only [Bool.and_eq_true, decide_eq_true_eq, List.all_eq_true, List.mem_range, Bool.or_eq_true, Bool.not_eq_true', beq_iff_eq]
  constructor
  · rintro ⟨⟨⟨⟨⟨h1, h2⟩, h3⟩, h4⟩, h5⟩, h6⟩
    have h5' : (i = 0 ∨ sameR p i) ↔ pb p i = -1 := by
      rw [← hs]
      have := congrArg (· = true) h5
      simp only [Bool.or_eq_true, decide_eq_true_eq, eq_iff_iff] at this
      exact this
    exact ⟨h1, h2, fun h => h3.elim (fun k => absurd h (hn.1 k)) id, fun h => h4.elim (fun k => absurd (hs.1 k) h) id, h5'.1, h5'.2, h6⟩
  · intro q
    refine ⟨⟨⟨⟨⟨q.ent, q.new⟩, ?_⟩, ?_⟩, ?_⟩, q.by3⟩
    · by_cases h : sameR p i
      · exact .inr (q.asc h)
      · exact .inl (hn.2 h)
    · by_cases h : sameR p i
      · exact .inl (hs.2 h)
      · exact .inr (q.rank h)
    · have h5' : (i = 0 ∨ sameB p i = true) ↔ pb p i = -1 := by rw [hs]; exact ⟨q.by1, q.by2⟩
      rw [Bool.eq_iff_iff]
      simpa using h5'
def okAllB (p : List Pl) : Bool := (List.range p.length).all (okB p)
theorem okAllB_iff (p : List Pl) : okAllB p = true ↔ OkAll p := by
  simp only [okAllB, List.all_eq_true, List.mem_range, okB_iff]
  exact Iff.rfl
def checkB (p : List Pl) : Int := if 4096 < p.length then 2 else if okAllB p then 0 else 230
theorem check_eq (p : List Pl) : check p = checkB p := by
  unfold check checkB
  split
  · rfl
  · by_cases h : OkAll p
    · rw [if_pos h, if_pos ((okAllB_iff p).2 h)]
    · rw [if_neg h, if_neg (fun k => h ((okAllB_iff p).1 k))]

def nextErrB (p : List Pl) (q cut : Int) (lots : List Int) : Int :=
  if checkB p ≠ 0 then checkB p else if q < 1 ∨ 4096 < q ∨ ¬ (cut = 1 ∨ cut = 2 ∨ cut = 3) ∨ lots.length ≠ p.length ∨ ¬ lots.Nodup then 240 else 0
theorem nextErr_eq (p : List Pl) (q cut : Int) (lots : List Int) : nextErr p q cut lots = nextErrB p q cut lots := by unfold nextErr nextErrB; rw [check_eq]
theorem isort_foldl (xs : List Int) : isort xs = xs.foldl putL [] := by
  have key : ∀ (ys zs : List Int), ys.foldl putL (isort zs) = isort (zs ++ ys) := by
    intro ys
    induction ys with
    | nil => intro zs; simp
    | cons y ys ih => intro zs; rw [List.foldl_cons, putL_isort, ih]; simp
  have := key xs []
  rw [isort_nil] at this
  simpa using this.symm
def nextLB (p : List Pl) (q cut : Int) (lots : List Int) : List Int :=
  if nextErrB p q cut lots ≠ 0 then [] else (if (p.length : Int) ≤ q then p.map (·.1) else ((List.range p.length).filter (goes p q cut lots)).map (pe p)).foldl putL []
theorem ok_of_err {p : List Pl} {q cut : Int} {lots : List Int} (h : nextErr p q cut lots = 0) : p.length ≤ 4096 ∧ OkAll p ∧ 1 ≤ q ∧ q ≤ 4096 ∧ (cut = 1 ∨ cut = 2 ∨ cut = 3) ∧ p.length = lots.length ∧ lots.Nodup := by
  unfold nextErr at h
  split at h
  · rename_i h0; exact absurd h h0
  · rename_i h0
    split at h
    · cases h
    · rename_i h1
      simp only [not_or, Decidable.not_not, ne_eq] at h0 h1
      have hc : p.length ≤ 4096 ∧ OkAll p := by
        unfold check at h0
        split at h0
        · cases h0
        · split at h0
          · exact ⟨by omega, by assumption⟩
          · cases h0
      exact ⟨hc.1, hc.2, by omega, by omega, by omega, h1.2.2.2.1.symm, h1.2.2.2.2⟩
theorem nextL_eq (p : List Pl) (q cut : Int) (lots : List Int) : nextL p q cut lots = nextLB p q cut lots := by
  unfold nextL nextLB
  rw [← nextErr_eq]
  by_cases h : nextErr p q cut lots = 0
  · rw [if_neg (by simpa using h), if_neg (by simpa using h)]
    obtain ⟨h1, h2, h3, h4, h5, h6, h7⟩ := ok_of_err h
    by_cases hle : (p.length : Int) ≤ q
    · rw [if_pos hle, ← isort_foldl]
      unfold goOn; rw [if_pos hle]
    · rw [if_neg hle, ← isort_foldl, goOn_isort h2 h6 h7 h3 (by omega) h5]
  · rw [if_pos h, if_pos h]

/-- Lines with some ranks. -/
def lineAt (ranks : List Int) (i : Nat) : Pl := (10 + i, ranks[i]?.getD 0, if i = 0 ∨ ranks[i - 1]?.getD 0 = ranks[i]?.getD 0 then -1 else 0, ())
def linesTo (ranks : List Int) (i : Nat) : List Pl := (List.range i).map (lineAt ranks)
theorem linesTo_succ (ranks : List Int) (i : Nat) : linesTo ranks (i + 1) = linesTo ranks i ++ [lineAt ranks i] := by simp [linesTo, List.range_succ]
theorem linesTo_len (ranks : List Int) (i : Nat) : (linesTo ranks i).length = i := by simp [linesTo]
def conLines : Con := ⟨fun args => (match args with
  | [.s (.sl (.int .i64) r _)] => r.length ≤ 1000
  | _ => False), fun args => match args with
  | [.s (.sl (.int _) r _)] => .v (aS tPlace (linesTo r r.length) false)
  | _ => .v (.s .any)⟩
theorem conLines_pre (r : List Int) (ex : Bool) : conLines.pre [.s (.sl tI r ex)] = (r.length ≤ 1000) := rfl
theorem conLines_val (r : List Int) (ex : Bool) : conLines.val [.s (.sl tI r ex)] = .v (aS tPlace (linesTo r r.length) false) := rfl
theorem lines_ok : PureOk Try.prog 15 conLines := by
  refine pureOkD (L := { live := [0, 2, 3, 4, 5, 6, 7, 8, 9, 27] }) ad10_good rfl ad_mixed Try.func15 rfl conLines 1 (by decide) (by kernel_rfl) ?_
  intro args hpre hlens
  simp only [conLines] at hpre
  split at hpre
  · rename_i r ex
    refine ⟨rfl, ?_⟩
    simp -dsimp -implicitDefEqProofs [Try.f15, conLines_val, thenKD_normal, thenKD_exit, thenKD_goto, thenKD_ret, inBlockKD_normal, inBlockKD_exit, inBlockKD_goto, inBlockKD_ret, noGotoKD_normal, noGotoKD_exit, noGotoKD_goto, noGotoKD_ret, roundKD_normal, roundKD_exit, roundKD_goto, roundKD_ret, frzSlotsD_nil, frzSlotsD_cons, frzSlotD_eq, yieldVCD_trace, opVCD_eq, vcOpsD_nil, vcOpsD_cons, vcAllD_zero, vcAllD_succ, allAtD_nil, allAtD_cons, readyAux, edgA, vcD_skip, vcD_label, vcD_exit, vcD_goto, vcD_ret, vcD_region, vcD_seq, vcD_seqC, vcD_cond, vcCondD_bool, vcD_block, vcD_scope, vcD_loop, vcD_rangeFunc, yieldOf, isMem, isMem0, keepE, envLe, St.le, psE, yieldAV, round_td, round_y, round_Γ, vI, vB, vS, aI, aB, aS, look, getE, oper, opRV, putE, allOk, okOps, Op.operands, Call.operands, pEv, qEv, mEv, constRV, coe, RV.av, loadEv, loadCs, takeAt, indexAddrEv, fieldAddrEv, binEv, intEv, arith, unEv, gcond, pickEv, argsEv, callVal, callEv, capAV_mk, lenArgs, lenEv, minEv, extractEv, convEv, funcEv, allBox, bound, sliceEv, lookupEv, TD.isBool, allocEv, boxEv, storeEv, spl, plainTD, appendEv, appendArgs, makeMapEv, mapUpdateEv, buildEv, buildSliceEv, fillSV, zsvOf, sizeTD, Ty.parses, parses_flats', coeA, ← flats_append, flats_length, AV.good, AV.cells, AV.pure, SV.pure, av_int, av_bool, av_str, av_slice, av_cons, av_fld0, av_fld1, av_fld2, av_fld3, av_fld4, Ty.of, Ty.dflt, Ty.parse, Ty.flat, Ty.zsv, Ty.fld, Ty.get, Ty.off, Ty.nfld, Ty.size, coeTy, junk, Blk.look, argEnv, resEv, resOk, resVs, oneRV, retOk, frzAs, frzAV, frzL, frzSV, boxCaps, boxCap, SV.sig, sigs, RV.scalar, AV.scalar, SV.scalar, nope, effVCD_eq, effOf, SV.ids, AV.ids, dedup, SV.ren, AV.ren, RV.ren, idx, outId, mergeB, Blk.pureB, flats_pure, flat_pure, epsSlotsD_nil, epsSlotsD_cons, epsSlotD_eq, allEp, D.parts_fnOf, fvParts, retEff, round_E, av_fn, G.ye, isCutD_nil, isCutD_cons, firstReg_region, firstReg_seq, firstReg_skip, firstReg_ret, firstReg_label, firstReg_exit, firstReg_goto, firstReg_cond, firstReg_block, firstReg_scope, firstReg_loop, firstReg_rf, eptrOf_mk, flOfD_nil, flOfD_cons, vcFlD_cons, vcFlD_nil, flPairs_nil, flPairs_cons, ad10_td, ad10_y, ad10_Γ, ad10_E, adT, ad10Γ, ad10E, ad9Γ, ad9E, ad8Γ, ad8E, ad7Γ, ad7E, ad6Γ, ad6E, ad5Γ, ad5E, ad4Γ, ad4E, ad3Γ, ad3E, ad2Γ, ad2E, ad1Γ, ad1E, ad0Γ, ad0E, inI64]
    refine WpD.turn _ (Turn.virt (k := 2) (t := tPlace) (xs := []) (by simp [look])) ?_
    refine WpD.loop (L := { live := [0, 2, 3, 4, 5, 6, 7, 8, 9, 27] }) ad10_good X0_ok ad_mixed (by kernel_rfl) (ι := Nat)
      (fun i => ⟨[(0, vS tI r ex), (2, ⟨true, .v (.s (.own tPlace 0 i))⟩), (6, vS tI r ex), (7, vI r.length), (8, vI i)], [.arr (decide (0 < i)) (tPlace.flats (linesTo r i))]⟩)
      (fun i => i ≤ r.length) (fun i => r.length - i) 0 (by simp) (Turn.le (by simp -dsimp -implicitDefEqProofs [linesTo, thenKD_normal, thenKD_exit, thenKD_goto, thenKD_ret, inBlockKD_normal, inBlockKD_exit, inBlockKD_goto, inBlockKD_ret, noGotoKD_normal, noGotoKD_exit, noGotoKD_goto, noGotoKD_ret, roundKD_normal, roundKD_exit, roundKD_goto, roundKD_ret, frzSlotsD_nil, frzSlotsD_cons, frzSlotD_eq, yieldVCD_trace, opVCD_eq, vcOpsD_nil, vcOpsD_cons, vcAllD_zero, vcAllD_succ, allAtD_nil, allAtD_cons, readyAux, edgA, vcD_skip, vcD_label, vcD_exit, vcD_goto, vcD_ret, vcD_region, vcD_seq, vcD_seqC, vcD_cond, vcCondD_bool, vcD_block, vcD_scope, vcD_loop, vcD_rangeFunc, yieldOf, isMem, isMem0, keepE, envLe, St.le, psE, yieldAV, round_td, round_y, round_Γ, vI, vB, vS, aI, aB, aS, look, getE, oper, opRV, putE, allOk, okOps, Op.operands, Call.operands, pEv, qEv, mEv, constRV, coe, RV.av, loadEv, loadCs, takeAt, indexAddrEv, fieldAddrEv, binEv, intEv, arith, unEv, gcond, pickEv, argsEv, callVal, callEv, capAV_mk, lenArgs, lenEv, minEv, extractEv, convEv, funcEv, allBox, bound, sliceEv, lookupEv, TD.isBool, allocEv, boxEv, storeEv, spl, plainTD, appendEv, appendArgs, makeMapEv, mapUpdateEv, buildEv, buildSliceEv, fillSV, zsvOf, sizeTD, Ty.parses, parses_flats', coeA, ← flats_append, flats_length, AV.good, AV.cells, AV.pure, SV.pure, av_int, av_bool, av_str, av_slice, av_cons, av_fld0, av_fld1, av_fld2, av_fld3, av_fld4, Ty.of, Ty.dflt, Ty.parse, Ty.flat, Ty.zsv, Ty.fld, Ty.get, Ty.off, Ty.nfld, Ty.size, coeTy, junk, Blk.look, argEnv, resEv, resOk, resVs, oneRV, retOk, frzAs, frzAV, frzL, frzSV, boxCaps, boxCap, SV.sig, sigs, RV.scalar, AV.scalar, SV.scalar, nope, effVCD_eq, effOf, SV.ids, AV.ids, dedup, SV.ren, AV.ren, RV.ren, idx, outId, mergeB, Blk.pureB, flats_pure, flat_pure, epsSlotsD_nil, epsSlotsD_cons, epsSlotD_eq, allEp, D.parts_fnOf, fvParts, retEff, round_E, av_fn, G.ye, isCutD_nil, isCutD_cons, firstReg_region, firstReg_seq, firstReg_skip, firstReg_ret, firstReg_label, firstReg_exit, firstReg_goto, firstReg_cond, firstReg_block, firstReg_scope, firstReg_loop, firstReg_rf, eptrOf_mk, flOfD_nil, flOfD_cons, vcFlD_cons, vcFlD_nil, flPairs_nil, flPairs_cons])) ?_
    intro i hi
    have hll := linesTo_len r i
    simp -dsimp -implicitDefEqProofs [conLines_val, hll, thenKD_normal, thenKD_exit, thenKD_goto, thenKD_ret, inBlockKD_normal, inBlockKD_exit, inBlockKD_goto, inBlockKD_ret, noGotoKD_normal, noGotoKD_exit, noGotoKD_goto, noGotoKD_ret, roundKD_normal, roundKD_exit, roundKD_goto, roundKD_ret, frzSlotsD_nil, frzSlotsD_cons, frzSlotD_eq, yieldVCD_trace, opVCD_eq, vcOpsD_nil, vcOpsD_cons, vcAllD_zero, vcAllD_succ, allAtD_nil, allAtD_cons, readyAux, edgA, vcD_skip, vcD_label, vcD_exit, vcD_goto, vcD_ret, vcD_region, vcD_seq, vcD_seqC, vcD_cond, vcCondD_bool, vcD_block, vcD_scope, vcD_loop, vcD_rangeFunc, yieldOf, isMem, isMem0, keepE, envLe, St.le, psE, yieldAV, round_td, round_y, round_Γ, vI, vB, vS, aI, aB, aS, look, getE, oper, opRV, putE, allOk, okOps, Op.operands, Call.operands, pEv, qEv, mEv, constRV, coe, RV.av, loadEv, loadCs, takeAt, indexAddrEv, fieldAddrEv, binEv, intEv, arith, unEv, gcond, pickEv, argsEv, callVal, callEv, capAV_mk, lenArgs, lenEv, minEv, extractEv, convEv, funcEv, allBox, bound, sliceEv, lookupEv, TD.isBool, allocEv, boxEv, storeEv, spl, plainTD, appendEv, appendArgs, makeMapEv, mapUpdateEv, buildEv, buildSliceEv, fillSV, zsvOf, sizeTD, Ty.parses, parses_flats', coeA, ← flats_append, flats_length, AV.good, AV.cells, AV.pure, SV.pure, av_int, av_bool, av_str, av_slice, av_cons, av_fld0, av_fld1, av_fld2, av_fld3, av_fld4, Ty.of, Ty.dflt, Ty.parse, Ty.flat, Ty.zsv, Ty.fld, Ty.get, Ty.off, Ty.nfld, Ty.size, coeTy, junk, Blk.look, argEnv, resEv, resOk, resVs, oneRV, retOk, frzAs, frzAV, frzL, frzSV, boxCaps, boxCap, SV.sig, sigs, RV.scalar, AV.scalar, SV.scalar, nope, effVCD_eq, effOf, SV.ids, AV.ids, dedup, SV.ren, AV.ren, RV.ren, idx, outId, mergeB, Blk.pureB, flats_pure, flat_pure, epsSlotsD_nil, epsSlotsD_cons, epsSlotD_eq, allEp, D.parts_fnOf, fvParts, retEff, round_E, av_fn, G.ye, isCutD_nil, isCutD_cons, firstReg_region, firstReg_seq, firstReg_skip, firstReg_ret, firstReg_label, firstReg_exit, firstReg_goto, firstReg_cond, firstReg_block, firstReg_scope, firstReg_loop, firstReg_rf, eptrOf_mk, flOfD_nil, flOfD_cons, vcFlD_cons, vcFlD_nil, flPairs_nil, flPairs_cons, ad10_td, ad10_y, ad10_Γ, ad10_E, adT, ad10Γ, ad10E, ad9Γ, ad9E, ad8Γ, ad8E, ad7Γ, ad7E, ad6Γ, ad6E, ad5Γ, ad5E, ad4Γ, ad4E, ad3Γ, ad3E, ad2Γ, ad2E, ad1Γ, ad1E, ad0Γ, ad0E, inI64]
    have hend : ∀ (b : Int) (e : Env), b = (lineAt r i).2.2.1 → envLe [(0, vS tI r ex), (2, ⟨true, .v (.s (.own tPlace 0 (i + 1)))⟩), (6, vS tI r ex), (7, vI r.length), (8, vI (i + 1))] e → ∀ x : Blk,
        TurnT Try.prog ad10 X0 35 1 ⟨e, [.arr true (tPlace.flats (linesTo r i ++ [(10 + (i : Int), r[i]?.getD 0, b, ())])), x]⟩ ⟨[(0, vS tI r ex), (2, ⟨true, .v (.s (.own tPlace 0 (i + 1)))⟩), (6, vS tI r ex), (7, vI r.length), (8, vI (i + 1 : Nat))], [.arr (decide (0 < i + 1)) (tPlace.flats (linesTo r (i + 1)))]⟩ := by
      intro b e hb he x
      subst hb
      rw [linesTo_succ]
      have hd : decide (0 < i + 1) = true := by simp
      rw [hd]
      exact TurnT.trunc X0_ok (hp := [_]) (junk := [_]) (by simp) (by simp only [List.length_cons, List.length_nil, List.all_cons, List.all_nil, Bool.and_true, Bool.and_eq_true]; simp [Blk.below, flats_below]) he (by simp [envBelow, RV.below, AV.below, SV.below])
    refine ⟨fun hlt => ⟨hlt, ⟨by omega, by omega⟩, fun h0 => ⟨h0, by omega, by omega⟩, fun h0 => ⟨h0, by omega, by omega⟩, fun h => ⟨⟨by omega, by simp only [maxLen]; omega⟩, ⟨by omega, by omega⟩, i + 1, by omega, by omega, hend _ _ ?_ (by simp -dsimp -implicitDefEqProofs [thenKD_normal, thenKD_exit, thenKD_goto, thenKD_ret, inBlockKD_normal, inBlockKD_exit, inBlockKD_goto, inBlockKD_ret, noGotoKD_normal, noGotoKD_exit, noGotoKD_goto, noGotoKD_ret, roundKD_normal, roundKD_exit, roundKD_goto, roundKD_ret, frzSlotsD_nil, frzSlotsD_cons, frzSlotD_eq, yieldVCD_trace, opVCD_eq, vcOpsD_nil, vcOpsD_cons, vcAllD_zero, vcAllD_succ, allAtD_nil, allAtD_cons, readyAux, edgA, vcD_skip, vcD_label, vcD_exit, vcD_goto, vcD_ret, vcD_region, vcD_seq, vcD_seqC, vcD_cond, vcCondD_bool, vcD_block, vcD_scope, vcD_loop, vcD_rangeFunc, yieldOf, isMem, isMem0, keepE, envLe, St.le, psE, yieldAV, round_td, round_y, round_Γ, vI, vB, vS, aI, aB, aS, look, getE, oper, opRV, putE, allOk, okOps, Op.operands, Call.operands, pEv, qEv, mEv, constRV, coe, RV.av, loadEv, loadCs, takeAt, indexAddrEv, fieldAddrEv, binEv, intEv, arith, unEv, gcond, pickEv, argsEv, callVal, callEv, capAV_mk, lenArgs, lenEv, minEv, extractEv, convEv, funcEv, allBox, bound, sliceEv, lookupEv, TD.isBool, allocEv, boxEv, storeEv, spl, plainTD, appendEv, appendArgs, makeMapEv, mapUpdateEv, buildEv, buildSliceEv, fillSV, zsvOf, sizeTD, Ty.parses, parses_flats', coeA, ← flats_append, flats_length, AV.good, AV.cells, AV.pure, SV.pure, av_int, av_bool, av_str, av_slice, av_cons, av_fld0, av_fld1, av_fld2, av_fld3, av_fld4, Ty.of, Ty.dflt, Ty.parse, Ty.flat, Ty.zsv, Ty.fld, Ty.get, Ty.off, Ty.nfld, Ty.size, coeTy, junk, Blk.look, argEnv, resEv, resOk, resVs, oneRV, retOk, frzAs, frzAV, frzL, frzSV, boxCaps, boxCap, SV.sig, sigs, RV.scalar, AV.scalar, SV.scalar, nope, effVCD_eq, effOf, SV.ids, AV.ids, dedup, SV.ren, AV.ren, RV.ren, idx, outId, mergeB, Blk.pureB, flats_pure, flat_pure, epsSlotsD_nil, epsSlotsD_cons, epsSlotD_eq, allEp, D.parts_fnOf, fvParts, retEff, round_E, av_fn, G.ye, isCutD_nil, isCutD_cons, firstReg_region, firstReg_seq, firstReg_skip, firstReg_ret, firstReg_label, firstReg_exit, firstReg_goto, firstReg_cond, firstReg_block, firstReg_scope, firstReg_loop, firstReg_rf, eptrOf_mk, flOfD_nil, flOfD_cons, vcFlD_cons, vcFlD_nil, flPairs_nil, flPairs_cons]) _⟩,
      fun h0 h1 => ⟨⟨by omega, by simp only [maxLen]; omega⟩, ⟨by omega, by omega⟩, i + 1, by omega, by omega, hend _ _ ?_ (by simp -dsimp -implicitDefEqProofs [thenKD_normal, thenKD_exit, thenKD_goto, thenKD_ret, inBlockKD_normal, inBlockKD_exit, inBlockKD_goto, inBlockKD_ret, noGotoKD_normal, noGotoKD_exit, noGotoKD_goto, noGotoKD_ret, roundKD_normal, roundKD_exit, roundKD_goto, roundKD_ret, frzSlotsD_nil, frzSlotsD_cons, frzSlotD_eq, yieldVCD_trace, opVCD_eq, vcOpsD_nil, vcOpsD_cons, vcAllD_zero, vcAllD_succ, allAtD_nil, allAtD_cons, readyAux, edgA, vcD_skip, vcD_label, vcD_exit, vcD_goto, vcD_ret, vcD_region, vcD_seq, vcD_seqC, vcD_cond, vcCondD_bool, vcD_block, vcD_scope, vcD_loop, vcD_rangeFunc, yieldOf, isMem, isMem0, keepE, envLe, St.le, psE, yieldAV, round_td, round_y, round_Γ, vI, vB, vS, aI, aB, aS, look, getE, oper, opRV, putE, allOk, okOps, Op.operands, Call.operands, pEv, qEv, mEv, constRV, coe, RV.av, loadEv, loadCs, takeAt, indexAddrEv, fieldAddrEv, binEv, intEv, arith, unEv, gcond, pickEv, argsEv, callVal, callEv, capAV_mk, lenArgs, lenEv, minEv, extractEv, convEv, funcEv, allBox, bound, sliceEv, lookupEv, TD.isBool, allocEv, boxEv, storeEv, spl, plainTD, appendEv, appendArgs, makeMapEv, mapUpdateEv, buildEv, buildSliceEv, fillSV, zsvOf, sizeTD, Ty.parses, parses_flats', coeA, ← flats_append, flats_length, AV.good, AV.cells, AV.pure, SV.pure, av_int, av_bool, av_str, av_slice, av_cons, av_fld0, av_fld1, av_fld2, av_fld3, av_fld4, Ty.of, Ty.dflt, Ty.parse, Ty.flat, Ty.zsv, Ty.fld, Ty.get, Ty.off, Ty.nfld, Ty.size, coeTy, junk, Blk.look, argEnv, resEv, resOk, resVs, oneRV, retOk, frzAs, frzAV, frzL, frzSV, boxCaps, boxCap, SV.sig, sigs, RV.scalar, AV.scalar, SV.scalar, nope, effVCD_eq, effOf, SV.ids, AV.ids, dedup, SV.ren, AV.ren, RV.ren, idx, outId, mergeB, Blk.pureB, flats_pure, flat_pure, epsSlotsD_nil, epsSlotsD_cons, epsSlotD_eq, allEp, D.parts_fnOf, fvParts, retEff, round_E, av_fn, G.ye, isCutD_nil, isCutD_cons, firstReg_region, firstReg_seq, firstReg_skip, firstReg_ret, firstReg_label, firstReg_exit, firstReg_goto, firstReg_cond, firstReg_block, firstReg_scope, firstReg_loop, firstReg_rf, eptrOf_mk, flOfD_nil, flOfD_cons, vcFlD_cons, vcFlD_nil, flPairs_nil, flPairs_cons]) _⟩⟩, fun hge => by rw [show i = r.length by omega]⟩
    · unfold lineAt; rw [if_pos h]
    · unfold lineAt; rw [if_neg (by simp [h0]; exact h1)]
  · exact hpre.elim

noncomputable def conGo : Con := ⟨fun args => (match args with
  | [.s (.sl (.cons (.int .i64) (.cons (.int .i64) (.cons (.int .i64) .nil))) _ _), .s (.int .i64 _), .s (.int .i64 _), .s (.sl (.int .i64) _ _), .s (.sl (.int .i64) _ _)] => True
  | _ => False), fun args => match args with
  | [.s (.sl (.cons (.int .i64) (.cons (.int .i64) (.cons (.int .i64) .nil))) p _), .s (.int _ q), .s (.int _ cut), .s (.sl (.int _) lots _), .s (.sl (.int _) w _)] => .v (aB (decide (nextErr p q cut lots = 0) && decide (nextL p q cut lots = w)))
  | _ => .v (.s .any)⟩
theorem conGo_pre (p : List Pl) (ex : Bool) (q cut : Int) (lots : List Int) (ex' : Bool) (w : List Int) (ex'' : Bool) : conGo.pre [.s (.sl tPlace p ex), .s (.int .i64 q), .s (.int .i64 cut), .s (.sl tI lots ex'), .s (.sl tI w ex'')] = True := rfl
theorem conGo_val (p : List Pl) (ex : Bool) (q cut : Int) (lots : List Int) (ex' : Bool) (w : List Int) (ex'' : Bool) : conGo.val [.s (.sl tPlace p ex), .s (.int .i64 q), .s (.int .i64 cut), .s (.sl tI lots ex'), .s (.sl tI w ex'')] = .v (aB (decide (nextErr p q cut lots = 0) && decide (nextL p q cut lots = w))) := rfl
theorem go_ok : PureOk Try.prog 16 conGo := by
  refine pureOkD (L := { live := [0, 1, 2, 3, 4, 10, 11, 12] }) ad10_good rfl ad_mixed Try.func16 rfl conGo 5 (by decide) (by kernel_rfl) ?_
  intro args hpre hlens
  simp only [conGo] at hpre
  split at hpre
  · rename_i p ex q cut lots ex' w ex''
    refine ⟨rfl, ?_⟩
    simp -dsimp -implicitDefEqProofs [Try.f16, conGo_val, conNext_pre, conNext_val, conSame_pre, conSame_val, thenKD_normal, thenKD_exit, thenKD_goto, thenKD_ret, inBlockKD_normal, inBlockKD_exit, inBlockKD_goto, inBlockKD_ret, noGotoKD_normal, noGotoKD_exit, noGotoKD_goto, noGotoKD_ret, roundKD_normal, roundKD_exit, roundKD_goto, roundKD_ret, frzSlotsD_nil, frzSlotsD_cons, frzSlotD_eq, yieldVCD_trace, opVCD_eq, vcOpsD_nil, vcOpsD_cons, vcAllD_zero, vcAllD_succ, allAtD_nil, allAtD_cons, readyAux, edgA, vcD_skip, vcD_label, vcD_exit, vcD_goto, vcD_ret, vcD_region, vcD_seq, vcD_seqC, vcD_cond, vcCondD_bool, vcD_block, vcD_scope, vcD_loop, vcD_rangeFunc, yieldOf, isMem, isMem0, keepE, envLe, St.le, psE, yieldAV, round_td, round_y, round_Γ, vI, vB, vS, aI, aB, aS, look, getE, oper, opRV, putE, allOk, okOps, Op.operands, Call.operands, pEv, qEv, mEv, constRV, coe, RV.av, loadEv, loadCs, takeAt, indexAddrEv, fieldAddrEv, binEv, intEv, arith, unEv, gcond, pickEv, argsEv, callVal, callEv, capAV_mk, lenArgs, lenEv, minEv, extractEv, convEv, funcEv, allBox, bound, sliceEv, lookupEv, TD.isBool, allocEv, boxEv, storeEv, spl, plainTD, appendEv, appendArgs, makeMapEv, mapUpdateEv, buildEv, buildSliceEv, fillSV, zsvOf, sizeTD, Ty.parses, parses_flats', coeA, ← flats_append, flats_length, AV.good, AV.cells, AV.pure, SV.pure, av_int, av_bool, av_str, av_slice, av_cons, av_fld0, av_fld1, av_fld2, av_fld3, av_fld4, Ty.of, Ty.dflt, Ty.parse, Ty.flat, Ty.zsv, Ty.fld, Ty.get, Ty.off, Ty.nfld, Ty.size, coeTy, junk, Blk.look, argEnv, resEv, resOk, resVs, oneRV, retOk, frzAs, frzAV, frzL, frzSV, boxCaps, boxCap, SV.sig, sigs, RV.scalar, AV.scalar, SV.scalar, nope, effVCD_eq, effOf, SV.ids, AV.ids, dedup, SV.ren, AV.ren, RV.ren, idx, outId, mergeB, Blk.pureB, flats_pure, flat_pure, epsSlotsD_nil, epsSlotsD_cons, epsSlotD_eq, allEp, D.parts_fnOf, fvParts, retEff, round_E, av_fn, G.ye, isCutD_nil, isCutD_cons, firstReg_region, firstReg_seq, firstReg_skip, firstReg_ret, firstReg_label, firstReg_exit, firstReg_goto, firstReg_cond, firstReg_block, firstReg_scope, firstReg_loop, firstReg_rf, eptrOf_mk, flOfD_nil, flOfD_cons, vcFlD_cons, vcFlD_nil, flPairs_nil, flPairs_cons, ad10_td, ad10_y, ad10_Γ, ad10_E, adT, ad10Γ, ad10E, ad9Γ, ad9E, ad8Γ, ad8E, ad7Γ, ad7E, ad6Γ, ad6E, ad5Γ, ad5E, ad4Γ, ad4E, ad3Γ, ad3E, ad2Γ, ad2E, ad1Γ, ad1E, ad0Γ, ad0E, inI64]
  · exact hpre.elim
noncomputable def ad11Γ : List (FuncId × Con) := (11, conNext) :: (15, conLines) :: (16, conGo) :: ad10Γ
theorem ad11Γ_ok : ∀ p ∈ ad11Γ, (∀ (args : Array Value) (w : World), (callFunc p.1 args).run Try.prog w = .ok (.enter p.1 args) w) ∧ PureOk Try.prog p.1 p.2 := by
  simp only [ad11Γ, List.forall_mem_cons]
  exact ⟨⟨enters_of Try.func11 (by kernel_rfl) rfl, rnext_ok⟩, ⟨enters_of Try.func15 (by kernel_rfl) rfl, lines_ok⟩, ⟨enters_of Try.func16 (by kernel_rfl) rfl, go_ok⟩, ad10Γ_ok⟩
noncomputable def ad11E : List (FuncId × ECon) := ad10E
theorem ad11E_ok : ∀ p ∈ ad11E, (∀ (args : Array Value) (w : World), (callFunc p.1 args).run Try.prog w = .ok (.enter p.1 args) w) ∧ EffOk Try.prog p.1 p.2 := by
  simp only [ad11E]
  exact ad10E_ok
noncomputable def ad11 : G := { τ := adT, Γ := ad11Γ, E := ad11E }
theorem ad11_good : ad11.good Try.prog := good_of_all (adT_ok _ rfl) ad11Γ_ok ad11E_ok
theorem ad11_td (t : TypeId) : ad11.td t = (look adT t).getD .other := rfl
theorem ad11_y : ad11.y = false := rfl
theorem ad11_Γ : ad11.Γ = ad11Γ := rfl
theorem ad11_E : ad11.E = ad11E := rfl
noncomputable def ad11y : G := { τ := adT, Γ := ad11Γ, E := ad11E, y := true }
theorem ad11y_good : ad11y.good Try.prog := good_of_all (adT_ok _ rfl) ad11Γ_ok ad11E_ok
theorem ad11y_td (t : TypeId) : ad11y.td t = (look adT t).getD .other := rfl
theorem ad11y_y : ad11y.y = true := rfl
theorem ad11y_Γ : ad11y.Γ = ad11Γ := rfl
theorem ad11y_E : ad11y.E = ad11E := rfl

def conSane : Con := { pre := fun args => args = [], val := fun _ => .v (aB true) }
theorem sane_ok : PureOk Try.prog 8 conSane := by
  refine pureOkD (L := { live := [0, 2, 4, 6, 8, 9, 10, 52] }) ad11_good rfl ad_mixed Try.func8 rfl conSane 0 (by decide) (by kernel_rfl) ?_
  rintro _ rfl _
  refine ⟨rfl, ?_⟩
  simp -dsimp -implicitDefEqProofs [Try.f8, conSane, conNext_pre, conNext_val, conGo_pre, conGo_val, conLines_pre, conLines_val, thenKD_normal, thenKD_exit, thenKD_goto, thenKD_ret, inBlockKD_normal, inBlockKD_exit, inBlockKD_goto, inBlockKD_ret, noGotoKD_normal, noGotoKD_exit, noGotoKD_goto, noGotoKD_ret, roundKD_normal, roundKD_exit, roundKD_goto, roundKD_ret, frzSlotsD_nil, frzSlotsD_cons, frzSlotD_eq, yieldVCD_trace, opVCD_eq, vcOpsD_nil, vcOpsD_cons, vcAllD_zero, vcAllD_succ, allAtD_nil, allAtD_cons, readyAux, edgA, vcD_skip, vcD_label, vcD_exit, vcD_goto, vcD_ret, vcD_region, vcD_seq, vcD_seqC, vcD_cond, vcCondD_bool, vcD_block, vcD_scope, vcD_loop, vcD_rangeFunc, yieldOf, isMem, isMem0, keepE, envLe, St.le, psE, yieldAV, round_td, round_y, round_Γ, vI, vB, vS, aI, aB, aS, look, getE, oper, opRV, putE, allOk, okOps, Op.operands, Call.operands, pEv, qEv, mEv, constRV, coe, RV.av, loadEv, loadCs, takeAt, indexAddrEv, fieldAddrEv, binEv, intEv, arith, unEv, gcond, pickEv, argsEv, callVal, callEv, capAV_mk, lenArgs, lenEv, minEv, extractEv, convEv, funcEv, allBox, bound, sliceEv, lookupEv, TD.isBool, allocEv, boxEv, storeEv, spl, plainTD, appendEv, appendArgs, makeMapEv, mapUpdateEv, buildEv, buildSliceEv, fillSV, zsvOf, sizeTD, Ty.parses, parses_flats', coeA, ← flats_append, flats_length, AV.good, AV.cells, AV.pure, SV.pure, av_int, av_bool, av_str, av_slice, av_cons, av_fld0, av_fld1, av_fld2, av_fld3, av_fld4, Ty.of, Ty.dflt, Ty.parse, Ty.flat, Ty.zsv, Ty.fld, Ty.get, Ty.off, Ty.nfld, Ty.size, coeTy, junk, Blk.look, argEnv, resEv, resOk, resVs, oneRV, retOk, frzAs, frzAV, frzL, frzSV, boxCaps, boxCap, SV.sig, sigs, RV.scalar, AV.scalar, SV.scalar, nope, effVCD_eq, effOf, SV.ids, AV.ids, dedup, SV.ren, AV.ren, RV.ren, idx, outId, mergeB, Blk.pureB, flats_pure, flat_pure, epsSlotsD_nil, epsSlotsD_cons, epsSlotD_eq, allEp, D.parts_fnOf, fvParts, retEff, round_E, av_fn, G.ye, isCutD_nil, isCutD_cons, firstReg_region, firstReg_seq, firstReg_skip, firstReg_ret, firstReg_label, firstReg_exit, firstReg_goto, firstReg_cond, firstReg_block, firstReg_scope, firstReg_loop, firstReg_rf, eptrOf_mk, flOfD_nil, flOfD_cons, vcFlD_cons, vcFlD_nil, flPairs_nil, flPairs_cons, ad11_td, ad11_y, ad11_Γ, ad11_E, adT, ad11Γ, ad11E, ad10Γ, ad10E, ad9Γ, ad9E, ad8Γ, ad8E, ad7Γ, ad7E, ad6Γ, ad6E, ad5Γ, ad5E, ad4Γ, ad4E, ad3Γ, ad3E, ad2Γ, ad2E, ad1Γ, ad1E, ad0Γ, ad0E, inI64]
  exact ⟨by simp only [nextErr_eq]; decide +kernel, fun _ _ _ _ => by simp only [nextErr_eq, nextL_eq]; decide +kernel⟩
end Go.Am
