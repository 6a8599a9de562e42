/- The program of chapter 25: groups of places. -/
import Derived.Test.YthdojmkfpiocmaaPz4
namespace Go.Am
set_option linter.unusedVariables false
set_option linter.unusedSimpArgs false
set_option maxHeartbeats 4000000
set_option maxRecDepth 20000
open Go.RowKit Go.Proofs

def runL (r : Int) : List Pl → Nat
  | [] => 0
  | x :: l => if x.2.1 = r then runL r l + 1 else 0
theorem runL_eq (r : Int) : ∀ (l : List Pl) (n : Nat), n ≤ l.length → (∀ j, j < n → (l[j]?.getD (0, 0, 0, ())).2.1 = r) → (n = l.length ∨ (l[n]?.getD (0, 0, 0, ())).2.1 ≠ r) → runL r l = n
  | [], n, h, _, _ => by simp at h; simp [runL, h]
  | x :: l, 0, _, _, h => by
    rcases h with h | h
    · simp at h
    · simp at h; simp [runL, h]
  | x :: l, n + 1, h, h1, h2 => by
    have h0 := h1 0 (by omega)
    simp at h0
    simp only [runL, h0, if_true]
    rw [runL_eq r l n (by simpa using h) (fun j hj => by simpa using h1 (j + 1) (by omega)) (by simpa using h2)]
theorem runL_le (r : Int) : ∀ (l : List Pl), runL r l ≤ l.length
  | [] => by simp [runL]
  | x :: l => by
    simp only [runL]
    split
    · have := runL_le r l; simp; omega
    · simp
def grpF : Nat → Nat → List Pl → List (Nat × Nat)
  | 0, _, _ => []
  | _ + 1, _, [] => []
  | f + 1, i, x :: l => (i, runL x.2.1 l + 1) :: grpF f (i + (runL x.2.1 l + 1)) (l.drop (runL x.2.1 l))
def groups (p : List Pl) : List (Nat × Nat) := grpF p.length 0 p
def grpAV (x : Nat × Nat) : List AV := [aI x.1, aI x.2]

def conGroups : Con := { pre := fun args => ∃ (p : List Pl) (ex : Bool), args = [aS tPlace p ex], val := fun args => match args with
  | [.s (.sl t p _)] => .v (.s (.fnp 21 [⟨.slice t, p⟩]))
  | _ => .v (.s .any) }
theorem groups_ok : PureOk Try.prog 20 conGroups := by
  refine pureOkD (L := ⟨[0, 1, 2], [], []⟩) g0_good rfl pz_mixed Try.func20 rfl conGroups 1 (by decide) (by kernel_rfl) ?_
  rintro _ ⟨p, ex, rfl⟩ _
  refine ⟨rfl, ?_⟩
  simp -dsimp [Try.f20, conGroups, thenKD_normal, thenKD_exit, thenKD_goto, thenKD_ret, inBlockKD_normal, inBlockKD_exit, inBlockKD_goto, inBlockKD_ret, noGotoKD_normal, noGotoKD_exit, noGotoKD_goto, noGotoKD_ret, roundKD_normal, roundKD_exit, roundKD_goto, roundKD_ret, frzSlotsD_nil, frzSlotsD_cons, frzSlotD_eq, yieldVCD_trace, opVCD_eq, vcOpsD_nil, vcOpsD_cons, vcAllD_zero, vcAllD_succ, allAtD_nil, allAtD_cons, readyAux, edgA, vcD_skip, vcD_label, vcD_exit, vcD_goto, vcD_ret, vcD_region, vcD_seq, vcD_cond, vcCondD_bool, vcD_block, vcD_scope, vcD_loop, vcD_rangeFunc, yieldOf, isMem, isMem0, keepE, envLe, St.le, psE, yieldAV, round_td, round_y, round_Γ, vI, vB, vS, aI, aB, aS, look, getE, oper, opRV, putE, allOk, okOps, Op.operands, Call.operands, pEv, qEv, mEv, constRV, coe, RV.av, loadEv, loadCs, takeAt, indexAddrEv, fieldAddrEv, binEv, intEv, arith, unEv, gcond, pickEv, argsEv, callVal, callEv, capAV, lenArgs, lenEv, minEv, extractEv, funcEv, allBox, bound, sliceEv, lookupEv, TD.isBool, allocEv, boxEv, storeEv, spl, plainTD, appendEv, appendArgs, makeMapEv, mapUpdateEv, buildEv, buildSliceEv, fillSV, zsvOf, sizeTD, Ty.parses, parses_flats', coeA, ← flats_append, flats_length, AV.good, AV.cells, AV.pure, SV.pure, av_int, av_bool, av_str, av_slice, av_cons, av_fld0, av_fld1, av_fld2, av_fld3, av_fld4, Ty.of, Ty.dflt, Ty.parse, Ty.flat, Ty.zsv, Ty.fld, Ty.get, Ty.off, Ty.nfld, Ty.size, coeTy, junk, Blk.look, argEnv, resEv, resOk, resVs, oneRV, retOk, frzAs, frzAV, frzL, frzSV, boxCaps, boxCap, SV.sig, sigs, RV.scalar, AV.scalar, SV.scalar, nope, g0_td, g0_y, g0_Γ, pzT, inI64]

def gY : G := { τ := pzT, Γ := [], y := true }
theorem gY_good : gY.good Try.prog := ⟨pzT_ok _ rfl, by simp [gY, look]⟩
theorem gY_td (t : TypeId) : gY.td t = (look pzT t).getD .other := rfl
theorem gY_y : gY.y = true := rfl
theorem gY_Γ : gY.Γ = [] := rfl
def itGroups : ItCon := { pre := fun caps => ∃ p : List Pl, caps = [capAV ⟨.slice tPlace, p⟩], xs := fun caps => match caps with
  | [.s (.eptr (.slice (.cons (.int .i64) (.cons (.int .i64) (.cons (.int .i64) .nil)))) p)] => (groups p).map grpAV
  | _ => [] }
theorem groups1_ok : ItOk Try.prog 21 itGroups := by
  refine itOkD (L := ⟨[0, 1, 3, 4, 8, 27, 36], [], []⟩) gY_good rfl pz_mixed Try.func21 (enters_of Try.func21 (by kernel_rfl) rfl) rfl rfl itGroups 1 (by decide) (by kernel_rfl) ?_
  rintro _ l ⟨p, rfl⟩ ⟨hl, _⟩
  refine ⟨rfl, fun X hX => ?_⟩
  have hxs : itGroups.xs [capAV ⟨.slice tPlace, p⟩] = (groups p).map grpAV := rfl
  rw [hxs]
  simp -dsimp [Try.f21, thenKD_normal, thenKD_exit, thenKD_goto, thenKD_ret, inBlockKD_normal, inBlockKD_exit, inBlockKD_goto, inBlockKD_ret, noGotoKD_normal, noGotoKD_exit, noGotoKD_goto, noGotoKD_ret, roundKD_normal, roundKD_exit, roundKD_goto, roundKD_ret, frzSlotsD_nil, frzSlotsD_cons, frzSlotD_eq, yieldVCD_trace, opVCD_eq, vcOpsD_nil, vcOpsD_cons, vcAllD_zero, vcAllD_succ, allAtD_nil, allAtD_cons, readyAux, edgA, vcD_skip, vcD_label, vcD_exit, vcD_goto, vcD_ret, vcD_region, vcD_seq, vcD_cond, vcCondD_bool, vcD_block, vcD_scope, vcD_loop, vcD_rangeFunc, yieldOf, isMem, isMem0, keepE, envLe, St.le, psE, yieldAV, round_td, round_y, round_Γ, vI, vB, vS, aI, aB, aS, look, getE, oper, opRV, putE, allOk, okOps, Op.operands, Call.operands, pEv, qEv, mEv, constRV, coe, RV.av, loadEv, loadCs, takeAt, indexAddrEv, fieldAddrEv, binEv, intEv, arith, unEv, gcond, pickEv, argsEv, callVal, callEv, capAV, lenArgs, lenEv, minEv, extractEv, funcEv, allBox, bound, sliceEv, lookupEv, TD.isBool, allocEv, boxEv, storeEv, spl, plainTD, appendEv, appendArgs, makeMapEv, mapUpdateEv, buildEv, buildSliceEv, fillSV, zsvOf, sizeTD, Ty.parses, parses_flats', coeA, ← flats_append, flats_length, AV.good, AV.cells, AV.pure, SV.pure, av_int, av_bool, av_str, av_slice, av_cons, av_fld0, av_fld1, av_fld2, av_fld3, av_fld4, Ty.of, Ty.dflt, Ty.parse, Ty.flat, Ty.zsv, Ty.fld, Ty.get, Ty.off, Ty.nfld, Ty.size, coeTy, junk, Blk.look, argEnv, resEv, resOk, resVs, oneRV, retOk, frzAs, frzAV, frzL, frzSV, boxCaps, boxCap, SV.sig, sigs, RV.scalar, AV.scalar, SV.scalar, nope, gY_td, gY_y, gY_Γ, pzT, inI64]
  have hl' : p.length ≤ 2 ^ 63 - 1 := by simpa [maxLen] using hl.1
  clear hl
  have hgr : ∀ t a, a < p.length → (∃ f, p.length - a ≤ f ∧ (groups p).drop t = grpF f a (p.drop a)) →
      (groups p)[t]? = some (a, runL (p[a]?.getD (0, 0, 0, ())).2.1 (p.drop (a + 1)) + 1) ∧
        ∃ f, p.length - (a + (runL (p[a]?.getD (0, 0, 0, ())).2.1 (p.drop (a + 1)) + 1)) ≤ f ∧ (groups p).drop (t + 1) = grpF f (a + (runL (p[a]?.getD (0, 0, 0, ())).2.1 (p.drop (a + 1)) + 1)) (p.drop (a + (runL (p[a]?.getD (0, 0, 0, ())).2.1 (p.drop (a + 1)) + 1))) := by
    rintro t a ha ⟨f, hf, hd⟩
    rw [List.drop_eq_getElem_cons ha] at hd
    have hx : p[a]?.getD (0, 0, 0, ()) = p[a] := by simp [ha]
    rw [hx]
    cases f with
    | zero => omega
    | succ f =>
      simp only [grpF] at hd
      refine ⟨?_, f, by omega, ?_⟩
      · have := congrArg (fun l => l[0]?) hd
        simpa [List.getElem?_drop] using this
      · have := congrArg (fun l => l.drop 1) hd
        simp only [List.drop_drop, List.drop_succ_cons, List.drop_zero] at this
        rw [this]
        congr 2
        omega
  refine WpD.loop (L := ⟨[0, 1, 3, 4, 8, 27, 36], [], []⟩) gY_good hX pz_mixed (by kernel_rfl) (ι := Nat × Nat)
    (fun i => ⟨[(0, ⟨true, .v (.s (.val (.func (.yield l) #[] #[])))⟩), (1, ⟨true, .v (.s (.eptr (.slice tPlace) p))⟩), (3, vI i.1)], [.trace l ((groups p).map grpAV) i.2 false]⟩)
    (fun i => i.1 ≤ p.length ∧ i.2 ≤ (groups p).length ∧ ∃ f, p.length - i.1 ≤ f ∧ (groups p).drop i.2 = grpF f i.1 (p.drop i.1)) (fun i => p.length - i.1) (0, 0) (by simp; exact ⟨p.length, Nat.le_refl _, rfl⟩) (Turn.le (by simp -dsimp [thenKD_normal, thenKD_exit, thenKD_goto, thenKD_ret, inBlockKD_normal, inBlockKD_exit, inBlockKD_goto, inBlockKD_ret, noGotoKD_normal, noGotoKD_exit, noGotoKD_goto, noGotoKD_ret, roundKD_normal, roundKD_exit, roundKD_goto, roundKD_ret, frzSlotsD_nil, frzSlotsD_cons, frzSlotD_eq, yieldVCD_trace, opVCD_eq, vcOpsD_nil, vcOpsD_cons, vcAllD_zero, vcAllD_succ, allAtD_nil, allAtD_cons, readyAux, edgA, vcD_skip, vcD_label, vcD_exit, vcD_goto, vcD_ret, vcD_region, vcD_seq, vcD_cond, vcCondD_bool, vcD_block, vcD_scope, vcD_loop, vcD_rangeFunc, yieldOf, isMem, isMem0, keepE, envLe, St.le, psE, yieldAV, round_td, round_y, round_Γ, vI, vB, vS, aI, aB, aS, look, getE, oper, opRV, putE, allOk, okOps, Op.operands, Call.operands, pEv, qEv, mEv, constRV, coe, RV.av, loadEv, loadCs, takeAt, indexAddrEv, fieldAddrEv, binEv, intEv, arith, unEv, gcond, pickEv, argsEv, callVal, callEv, capAV, lenArgs, lenEv, minEv, extractEv, funcEv, allBox, bound, sliceEv, lookupEv, TD.isBool, allocEv, boxEv, storeEv, spl, plainTD, appendEv, appendArgs, makeMapEv, mapUpdateEv, buildEv, buildSliceEv, fillSV, zsvOf, sizeTD, Ty.parses, parses_flats', coeA, ← flats_append, flats_length, AV.good, AV.cells, AV.pure, SV.pure, av_int, av_bool, av_str, av_slice, av_cons, av_fld0, av_fld1, av_fld2, av_fld3, av_fld4, Ty.of, Ty.dflt, Ty.parse, Ty.flat, Ty.zsv, Ty.fld, Ty.get, Ty.off, Ty.nfld, Ty.size, coeTy, junk, Blk.look, argEnv, resEv, resOk, resVs, oneRV, retOk, frzAs, frzAV, frzL, frzSV, boxCaps, boxCap, SV.sig, sigs, RV.scalar, AV.scalar, SV.scalar, nope])) ?_
  rintro ⟨a, t⟩ ⟨ha, ht, hf⟩
  simp only at ha ht hf
  simp -dsimp [thenKD_normal, thenKD_exit, thenKD_goto, thenKD_ret, inBlockKD_normal, inBlockKD_exit, inBlockKD_goto, inBlockKD_ret, noGotoKD_normal, noGotoKD_exit, noGotoKD_goto, noGotoKD_ret, roundKD_normal, roundKD_exit, roundKD_goto, roundKD_ret, frzSlotsD_nil, frzSlotsD_cons, frzSlotD_eq, yieldVCD_trace, opVCD_eq, vcOpsD_nil, vcOpsD_cons, vcAllD_zero, vcAllD_succ, allAtD_nil, allAtD_cons, readyAux, edgA, vcD_skip, vcD_label, vcD_exit, vcD_goto, vcD_ret, vcD_region, vcD_seq, vcD_cond, vcCondD_bool, vcD_block, vcD_scope, vcD_loop, vcD_rangeFunc, yieldOf, isMem, isMem0, keepE, envLe, St.le, psE, yieldAV, round_td, round_y, round_Γ, vI, vB, vS, aI, aB, aS, look, getE, oper, opRV, putE, allOk, okOps, Op.operands, Call.operands, pEv, qEv, mEv, constRV, coe, RV.av, loadEv, loadCs, takeAt, indexAddrEv, fieldAddrEv, binEv, intEv, arith, unEv, gcond, pickEv, argsEv, callVal, callEv, capAV, lenArgs, lenEv, minEv, extractEv, funcEv, allBox, bound, sliceEv, lookupEv, TD.isBool, allocEv, boxEv, storeEv, spl, plainTD, appendEv, appendArgs, makeMapEv, mapUpdateEv, buildEv, buildSliceEv, fillSV, zsvOf, sizeTD, Ty.parses, parses_flats', coeA, ← flats_append, flats_length, AV.good, AV.cells, AV.pure, SV.pure, av_int, av_bool, av_str, av_slice, av_cons, av_fld0, av_fld1, av_fld2, av_fld3, av_fld4, Ty.of, Ty.dflt, Ty.parse, Ty.flat, Ty.zsv, Ty.fld, Ty.get, Ty.off, Ty.nfld, Ty.size, coeTy, junk, Blk.look, argEnv, resEv, resOk, resVs, oneRV, retOk, frzAs, frzAV, frzL, frzSV, boxCaps, boxCap, SV.sig, sigs, RV.scalar, AV.scalar, SV.scalar, nope, gY_td, gY_y, gY_Γ, pzT, inI64]
  refine ⟨fun hlt => ⟨by omega, ?_⟩, fun hge => ?_⟩
  · obtain ⟨hg1, hg2⟩ := hgr t a hlt hf
    refine WpD.loop (L := ⟨[0, 1, 3, 4, 8, 27, 36], [], []⟩) gY_good hX pz_mixed (by kernel_rfl) (ι := Nat)
      (fun b => ⟨[(0, ⟨true, .v (.s (.val (.func (.yield l) #[] #[])))⟩), (1, ⟨true, .v (.s (.eptr (.slice tPlace) p))⟩), (3, vI a), (4, vI b)], [.trace l ((groups p).map grpAV) t false]⟩)
      (fun b => a < b ∧ b ≤ p.length ∧ ∀ j, a < j → j < b → (p[j]?.getD (0, 0, 0, ())).2.1 = (p[a]?.getD (0, 0, 0, ())).2.1) (fun b => p.length - b) (a + 1) ⟨by omega, by omega, fun j h1 h2 => by omega⟩ (Turn.le (by simp -dsimp [thenKD_normal, thenKD_exit, thenKD_goto, thenKD_ret, inBlockKD_normal, inBlockKD_exit, inBlockKD_goto, inBlockKD_ret, noGotoKD_normal, noGotoKD_exit, noGotoKD_goto, noGotoKD_ret, roundKD_normal, roundKD_exit, roundKD_goto, roundKD_ret, frzSlotsD_nil, frzSlotsD_cons, frzSlotD_eq, yieldVCD_trace, opVCD_eq, vcOpsD_nil, vcOpsD_cons, vcAllD_zero, vcAllD_succ, allAtD_nil, allAtD_cons, readyAux, edgA, vcD_skip, vcD_label, vcD_exit, vcD_goto, vcD_ret, vcD_region, vcD_seq, vcD_cond, vcCondD_bool, vcD_block, vcD_scope, vcD_loop, vcD_rangeFunc, yieldOf, isMem, isMem0, keepE, envLe, St.le, psE, yieldAV, round_td, round_y, round_Γ, vI, vB, vS, aI, aB, aS, look, getE, oper, opRV, putE, allOk, okOps, Op.operands, Call.operands, pEv, qEv, mEv, constRV, coe, RV.av, loadEv, loadCs, takeAt, indexAddrEv, fieldAddrEv, binEv, intEv, arith, unEv, gcond, pickEv, argsEv, callVal, callEv, capAV, lenArgs, lenEv, minEv, extractEv, funcEv, allBox, bound, sliceEv, lookupEv, TD.isBool, allocEv, boxEv, storeEv, spl, plainTD, appendEv, appendArgs, makeMapEv, mapUpdateEv, buildEv, buildSliceEv, fillSV, zsvOf, sizeTD, Ty.parses, parses_flats', coeA, ← flats_append, flats_length, AV.good, AV.cells, AV.pure, SV.pure, av_int, av_bool, av_str, av_slice, av_cons, av_fld0, av_fld1, av_fld2, av_fld3, av_fld4, Ty.of, Ty.dflt, Ty.parse, Ty.flat, Ty.zsv, Ty.fld, Ty.get, Ty.off, Ty.nfld, Ty.size, coeTy, junk, Blk.look, argEnv, resEv, resOk, resVs, oneRV, retOk, frzAs, frzAV, frzL, frzSV, boxCaps, boxCap, SV.sig, sigs, RV.scalar, AV.scalar, SV.scalar, nope])) ?_
    rintro b ⟨hab, hb, hr⟩
    simp -dsimp [thenKD_normal, thenKD_exit, thenKD_goto, thenKD_ret, inBlockKD_normal, inBlockKD_exit, inBlockKD_goto, inBlockKD_ret, noGotoKD_normal, noGotoKD_exit, noGotoKD_goto, noGotoKD_ret, roundKD_normal, roundKD_exit, roundKD_goto, roundKD_ret, frzSlotsD_nil, frzSlotsD_cons, frzSlotD_eq, yieldVCD_trace, opVCD_eq, vcOpsD_nil, vcOpsD_cons, vcAllD_zero, vcAllD_succ, allAtD_nil, allAtD_cons, readyAux, edgA, vcD_skip, vcD_label, vcD_exit, vcD_goto, vcD_ret, vcD_region, vcD_seq, vcD_cond, vcCondD_bool, vcD_block, vcD_scope, vcD_loop, vcD_rangeFunc, yieldOf, isMem, isMem0, keepE, envLe, St.le, psE, yieldAV, round_td, round_y, round_Γ, vI, vB, vS, aI, aB, aS, look, getE, oper, opRV, putE, allOk, okOps, Op.operands, Call.operands, pEv, qEv, mEv, constRV, coe, RV.av, loadEv, loadCs, takeAt, indexAddrEv, fieldAddrEv, binEv, intEv, arith, unEv, gcond, pickEv, argsEv, callVal, callEv, capAV, lenArgs, lenEv, minEv, extractEv, funcEv, allBox, bound, sliceEv, lookupEv, TD.isBool, allocEv, boxEv, storeEv, spl, plainTD, appendEv, appendArgs, makeMapEv, mapUpdateEv, buildEv, buildSliceEv, fillSV, zsvOf, sizeTD, Ty.parses, parses_flats', coeA, ← flats_append, flats_length, AV.good, AV.cells, AV.pure, SV.pure, av_int, av_bool, av_str, av_slice, av_cons, av_fld0, av_fld1, av_fld2, av_fld3, av_fld4, Ty.of, Ty.dflt, Ty.parse, Ty.flat, Ty.zsv, Ty.fld, Ty.get, Ty.off, Ty.nfld, Ty.size, coeTy, junk, Blk.look, argEnv, resEv, resOk, resVs, oneRV, retOk, frzAs, frzAV, frzL, frzSV, boxCaps, boxCap, SV.sig, sigs, RV.scalar, AV.scalar, SV.scalar, nope, gY_td, gY_y, gY_Γ, pzT, inI64]
    refine ⟨fun h => ⟨h, hlt⟩, fun h1 h2 => ⟨by omega, b + 1, ⟨by omega, by omega, fun j hj1 hj2 => ?_⟩, by omega, TurnT.le (by simp -dsimp [thenKD_normal, thenKD_exit, thenKD_goto, thenKD_ret, inBlockKD_normal, inBlockKD_exit, inBlockKD_goto, inBlockKD_ret, noGotoKD_normal, noGotoKD_exit, noGotoKD_goto, noGotoKD_ret, roundKD_normal, roundKD_exit, roundKD_goto, roundKD_ret, frzSlotsD_nil, frzSlotsD_cons, frzSlotD_eq, yieldVCD_trace, opVCD_eq, vcOpsD_nil, vcOpsD_cons, vcAllD_zero, vcAllD_succ, allAtD_nil, allAtD_cons, readyAux, edgA, vcD_skip, vcD_label, vcD_exit, vcD_goto, vcD_ret, vcD_region, vcD_seq, vcD_cond, vcCondD_bool, vcD_block, vcD_scope, vcD_loop, vcD_rangeFunc, yieldOf, isMem, isMem0, keepE, envLe, St.le, psE, yieldAV, round_td, round_y, round_Γ, vI, vB, vS, aI, aB, aS, look, getE, oper, opRV, putE, allOk, okOps, Op.operands, Call.operands, pEv, qEv, mEv, constRV, coe, RV.av, loadEv, loadCs, takeAt, indexAddrEv, fieldAddrEv, binEv, intEv, arith, unEv, gcond, pickEv, argsEv, callVal, callEv, capAV, lenArgs, lenEv, minEv, extractEv, funcEv, allBox, bound, sliceEv, lookupEv, TD.isBool, allocEv, boxEv, storeEv, spl, plainTD, appendEv, appendArgs, makeMapEv, mapUpdateEv, buildEv, buildSliceEv, fillSV, zsvOf, sizeTD, Ty.parses, parses_flats', coeA, ← flats_append, flats_length, AV.good, AV.cells, AV.pure, SV.pure, av_int, av_bool, av_str, av_slice, av_cons, av_fld0, av_fld1, av_fld2, av_fld3, av_fld4, Ty.of, Ty.dflt, Ty.parse, Ty.flat, Ty.zsv, Ty.fld, Ty.get, Ty.off, Ty.nfld, Ty.size, coeTy, junk, Blk.look, argEnv, resEv, resOk, resVs, oneRV, retOk, frzAs, frzAV, frzL, frzSV, boxCaps, boxCap, SV.sig, sigs, RV.scalar, AV.scalar, SV.scalar, nope])⟩, fun hstop => ?_⟩
    · rcases Nat.lt_succ_iff_lt_or_eq.1 hj2 with h' | rfl
      · exact hr j hj1 h'
      · exact h2
    · have hrun : runL (p[a]?.getD (0, 0, 0, ())).2.1 (p.drop (a + 1)) = b - a - 1 := by
        refine runL_eq _ _ _ (by rw [List.length_drop]; omega) (fun j hj => ?_) ?_
        · rw [List.getElem?_drop]; exact hr _ (by omega) (by omega)
        · rcases Nat.lt_or_ge b p.length with hb' | hb'
          · right
            rw [List.getElem?_drop, show a + 1 + (b - a - 1) = b by omega]
            exact hstop hb'
          · left
            rw [List.length_drop]; omega
      rw [hrun] at hg1 hg2
      obtain ⟨f, hf1, hf2⟩ := hg2
      have hba : a + (b - a - 1 + 1) = b := by omega
      rw [hba] at hf1 hf2
      have htl := (List.getElem?_eq_some_iff.1 hg1).1
      refine ⟨by omega, ⟨a, b - a - 1 + 1, hg1, ?_⟩, b, t + 1, ⟨hb, by omega, f, by omega, hf2⟩, by omega, TurnT.le (by simp -dsimp [thenKD_normal, thenKD_exit, thenKD_goto, thenKD_ret, inBlockKD_normal, inBlockKD_exit, inBlockKD_goto, inBlockKD_ret, noGotoKD_normal, noGotoKD_exit, noGotoKD_goto, noGotoKD_ret, roundKD_normal, roundKD_exit, roundKD_goto, roundKD_ret, frzSlotsD_nil, frzSlotsD_cons, frzSlotD_eq, yieldVCD_trace, opVCD_eq, vcOpsD_nil, vcOpsD_cons, vcAllD_zero, vcAllD_succ, allAtD_nil, allAtD_cons, readyAux, edgA, vcD_skip, vcD_label, vcD_exit, vcD_goto, vcD_ret, vcD_region, vcD_seq, vcD_cond, vcCondD_bool, vcD_block, vcD_scope, vcD_loop, vcD_rangeFunc, yieldOf, isMem, isMem0, keepE, envLe, St.le, psE, yieldAV, round_td, round_y, round_Γ, vI, vB, vS, aI, aB, aS, look, getE, oper, opRV, putE, allOk, okOps, Op.operands, Call.operands, pEv, qEv, mEv, constRV, coe, RV.av, loadEv, loadCs, takeAt, indexAddrEv, fieldAddrEv, binEv, intEv, arith, unEv, gcond, pickEv, argsEv, callVal, callEv, capAV, lenArgs, lenEv, minEv, extractEv, funcEv, allBox, bound, sliceEv, lookupEv, TD.isBool, allocEv, boxEv, storeEv, spl, plainTD, appendEv, appendArgs, makeMapEv, mapUpdateEv, buildEv, buildSliceEv, fillSV, zsvOf, sizeTD, Ty.parses, parses_flats', coeA, ← flats_append, flats_length, AV.good, AV.cells, AV.pure, SV.pure, av_int, av_bool, av_str, av_slice, av_cons, av_fld0, av_fld1, av_fld2, av_fld3, av_fld4, Ty.of, Ty.dflt, Ty.parse, Ty.flat, Ty.zsv, Ty.fld, Ty.get, Ty.off, Ty.nfld, Ty.size, coeTy, junk, Blk.look, argEnv, resEv, resOk, resVs, oneRV, retOk, frzAs, frzAV, frzL, frzSV, boxCaps, boxCap, SV.sig, sigs, RV.scalar, AV.scalar, SV.scalar, nope])⟩
      simp only [grpAV, aI]
      rw [show ((b - a - 1 + 1 : Nat) : Int) = (b : Int) - a by omega]
  · obtain ⟨f, hf1, hf2⟩ := hf
    have : a = p.length := by omega
    subst this
    rw [List.drop_length] at hf2
    have h0 : (groups p).drop t = [] := by rw [hf2]; cases f <;> rfl
    have := List.drop_eq_nil_iff.1 h0
    omega
end Go.Am
