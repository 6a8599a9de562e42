/- The program of chapter 25: the examples; the first law. -/
import Derived.Test.YthdojmkfpiocmaaPz9
namespace Go.Am
set_option linter.unusedVariables false
set_option linter.unusedSimpArgs false
set_option maxHeartbeats 4000000
set_option maxRecDepth 20000
open Go.RowKit Go.Proofs

def sameB (p : List Pl) (i : Nat) : Bool := decide (0 < i) && decide (pr p i = pr p (i - 1))
def okB (p : List Pl) (i : Nat) : Bool :=
  decide (0 ≤ pe p i) && (List.range i).all (fun k => decide (pe p k ≠ pe p i)) && (!sameB p i || decide (pe p (i - 1) < pe p i)) && (sameB p i || decide (pr p i = i + 1)) &&
  ((decide (i = 0) || sameB p i) == decide (pb p i = -1)) && decide (-1 ≤ pb p i)
theorem okB_iff (p : List Pl) (i : Nat) : okB p i = true ↔ OkAt p i := by
  have hs : sameB p i = true ↔ sameR p i := by simp [sameB, sameR]
  have hn : sameB p i = false ↔ ¬ sameR p i := by rw [← hs]; simp
  unfold okB
  simp only [Bool.and_eq_true, decide_eq_true_eq, List.all_eq_true, List.mem_range, Bool.or_eq_true, Bool.not_eq_true', beq_iff_eq]
  constructor
  · rintro ⟨⟨⟨⟨⟨h1, h2⟩, h3⟩, h4⟩, h5⟩, h6⟩
    have h5' : (i = 0 ∨ sameR p i) ↔ pb p i = -1 := by
      rw [← hs]
      have := congrArg (· = true) h5
      simp only [Bool.or_eq_true, decide_eq_true_eq, eq_iff_iff] at this
      exact this
    exact ⟨h1, h2, fun h => h3.elim (fun k => absurd h (hn.1 k)) id, fun h => h4.elim (fun k => absurd (hs.1 k) h) id, h5'.1, h5'.2, h6⟩
  · intro q
    refine ⟨⟨⟨⟨⟨q.ent, q.new⟩, ?_⟩, ?_⟩, ?_⟩, q.by3⟩
    · by_cases h : sameR p i
      · exact .inr (q.asc h)
      · exact .inl (hn.2 h)
    · by_cases h : sameR p i
      · exact .inl (hs.2 h)
      · exact .inr (q.rank h)
    · have h5' : (i = 0 ∨ sameB p i = true) ↔ pb p i = -1 := by rw [hs]; exact ⟨q.by1, q.by2⟩
      rw [Bool.eq_iff_iff]
      simpa using h5'
def okAllB (p : List Pl) : Bool := (List.range p.length).all (okB p)
theorem okAllB_iff (p : List Pl) : okAllB p = true ↔ OkAll p := by
  simp only [okAllB, List.all_eq_true, List.mem_range, okB_iff]
  exact Iff.rfl
def checkB (p : List Pl) : Int := if 4096 < p.length then 2 else if okAllB p then 0 else 230
theorem check_eq (p : List Pl) : check p = checkB p := by
  unfold check checkB
  split
  · rfl
  · by_cases h : OkAll p
    · rw [if_pos h, if_pos ((okAllB_iff p).2 h)]
    · rw [if_neg h, if_neg (fun k => h ((okAllB_iff p).1 k))]
def shareErrB (l : List Int) (p : List Pl) : Int := if right l = true then checkB p else 250
theorem shareErr_eq (l : List Int) (p : List Pl) : shareErr l p = shareErrB l p := by unfold shareErr shareErrB; rw [check_eq]
theorem shareL_eq (l : List Int) (p : List Pl) : shareL l p = if shareErrB l p = 0 then sharesTo l p p.length else [] := by unfold shareL; rw [shareErr_eq]
theorem shareLeft_eq (l : List Int) (p : List Pl) : shareLeft l p = if shareErrB l p = 0 then isum l - isum (sharesTo l p p.length) else 0 := by unfold shareLeft; rw [shareErr_eq]

noncomputable def pzG2 : List (FuncId × Con) := (10, conShare) :: (11, conShare) :: pzG1
theorem pzG2_ok : ∀ p ∈ pzG2, (∀ (args : Array Value) (w : World), (callFunc p.1 args).run Try.prog w = .ok (.enter p.1 args) w) ∧ PureOk Try.prog p.1 p.2 := by
  simp only [pzG2, List.forall_mem_cons]
  exact ⟨⟨enters_of Try.func10 (by kernel_rfl) rfl, share10_ok⟩, ⟨enters_of Try.func11 (by kernel_rfl) rfl, share11_ok⟩, pzG1_ok⟩
noncomputable def g2 : G := { τ := pzT, Γ := pzG2 }
theorem g2_good : g2.good Try.prog := good_of_all (pzT_ok _ rfl) pzG2_ok
theorem g2_td (t : TypeId) : g2.td t = (look pzT t).getD .other := rfl
theorem g2_y : g2.y = false := rfl
theorem g2_Γ : g2.Γ = pzG2 := rfl

def conSane : Con := { pre := fun args => args = [], val := fun _ => .v (aB true) }
theorem sane_ok : PureOk Try.prog 8 conSane := by
  refine pureOkD (L := ⟨[0, 1, 2, 3, 4, 5, 6, 7, 8, 9, 10, 11, 12, 15, 18, 21, 96], [], []⟩) g2_good rfl pz_mixed Try.func8 rfl conSane 0 (by decide) (by kernel_rfl) ?_
  rintro _ rfl _
  refine ⟨rfl, ?_⟩
  simp -dsimp [Try.f8, conSane, conShare, conSame, conPlaces, shareErr_eq, shareL_eq, shareLeft_eq, thenKD_normal, thenKD_exit, thenKD_goto, thenKD_ret, inBlockKD_normal, inBlockKD_exit, inBlockKD_goto, inBlockKD_ret, noGotoKD_normal, noGotoKD_exit, noGotoKD_goto, noGotoKD_ret, roundKD_normal, roundKD_exit, roundKD_goto, roundKD_ret, frzSlotsD_nil, frzSlotsD_cons, frzSlotD_eq, yieldVCD_trace, opVCD_eq, vcOpsD_nil, vcOpsD_cons, vcAllD_zero, vcAllD_succ, allAtD_nil, allAtD_cons, readyAux, edgA, vcD_skip, vcD_label, vcD_exit, vcD_goto, vcD_ret, vcD_region, vcD_seq, vcD_cond, vcCondD_bool, vcD_block, vcD_scope, vcD_loop, vcD_rangeFunc, yieldOf, isMem, isMem0, keepE, envLe, St.le, psE, yieldAV, round_td, round_y, round_Γ, vI, vB, vS, aI, aB, aS, look, getE, oper, opRV, putE, allOk, okOps, Op.operands, Call.operands, pEv, qEv, mEv, constRV, coe, RV.av, loadEv, loadCs, takeAt, indexAddrEv, fieldAddrEv, binEv, intEv, arith, unEv, gcond, pickEv, argsEv, callVal, callEv, capAV, lenArgs, lenEv, minEv, extractEv, funcEv, allBox, bound, sliceEv, lookupEv, TD.isBool, allocEv, boxEv, storeEv, spl, plainTD, appendEv, appendArgs, makeMapEv, mapUpdateEv, buildEv, buildSliceEv, fillSV, zsvOf, sizeTD, Ty.parses, parses_flats', coeA, ← flats_append, flats_length, AV.good, AV.cells, AV.pure, SV.pure, av_int, av_bool, av_str, av_slice, av_cons, av_fld0, av_fld1, av_fld2, av_fld3, av_fld4, Ty.of, Ty.dflt, Ty.parse, Ty.flat, Ty.zsv, Ty.fld, Ty.get, Ty.off, Ty.nfld, Ty.size, coeTy, junk, Blk.look, argEnv, resEv, resOk, resVs, oneRV, retOk, frzAs, frzAV, frzL, frzSV, boxCaps, boxCap, SV.sig, sigs, RV.scalar, AV.scalar, SV.scalar, nope, g2_td, g2_y, g2_Γ, pzT, pzG2, pzG1, inI64]
  refine ⟨⟨_, _, ⟨rfl, rfl⟩, by decide, by decide⟩, ⟨_, _, ⟨rfl, rfl⟩, by decide, by decide⟩, ⟨_, _, ⟨rfl, rfl⟩, by decide, by decide⟩, ⟨_, _, ⟨rfl, rfl⟩, by decide, by decide⟩, ⟨_, _, ⟨rfl, rfl⟩, by decide, by decide⟩, ⟨_, _, ⟨rfl, rfl⟩, by decide, by decide⟩, ⟨_, _, ⟨rfl, rfl⟩, by decide, by decide⟩, ?_⟩
  have e1 : shareErrB [50, 21, 10] (placesL [1, 1, 3]) = 0 := by decide +kernel
  have e2 : shareErrB [] (placesL [1, 1]) = 0 := by decide +kernel
  have e3 : shareErrB [10] [] = 0 := by decide +kernel
  have e4 : shareErrB [50, 20] (placesL [1, 2, 2, 4]) = 0 := by decide +kernel
  have e5 : shareErrB [1, 2] [] = 250 := by decide +kernel
  have e6 : shareErrB [-1] [] = 250 := by decide +kernel
  have e7 : shareErrB [5] (placesL [2]) = 230 := by decide +kernel
  have s1 : sharesTo [50, 21, 10] (placesL [1, 1, 3]) (placesL [1, 1, 3]).length = [35, 35, 10] := by decide +kernel
  have s2 : sharesTo [] (placesL [1, 1]) (placesL [1, 1]).length = [0, 0] := by decide +kernel
  have s3 : sharesTo [10] [] 0 = [] := by decide +kernel
  have s4 : sharesTo [50, 20] (placesL [1, 2, 2, 4]) (placesL [1, 2, 2, 4]).length = [50, 10, 10, 0] := by decide +kernel
  simp only [e1, e2, e3, e4, e5, e6, e7, s1, s2, s3, s4]
  simp [isum]

noncomputable def pzG3 : List (FuncId × Con) := (8, conSane) :: pzG2
theorem pzG3_ok : ∀ p ∈ pzG3, (∀ (args : Array Value) (w : World), (callFunc p.1 args).run Try.prog w = .ok (.enter p.1 args) w) ∧ PureOk Try.prog p.1 p.2 := by
  simp only [pzG3, List.forall_mem_cons]
  exact ⟨⟨enters_of Try.func8 (by kernel_rfl) rfl, sane_ok⟩, pzG2_ok⟩
noncomputable def g3 : G := { τ := pzT, Γ := pzG3 }
theorem g3_good : g3.good Try.prog := good_of_all (pzT_ok _ rfl) pzG3_ok
theorem g3_td (t : TypeId) : g3.td t = (look pzT t).getD .other := rfl
theorem g3_y : g3.y = false := rfl
theorem g3_Γ : g3.Γ = pzG3 := rfl

def conLaw : Con := { pre := fun args => ∃ (l : List Int) (ex : Bool) (p : List Pl) (ex' : Bool), args = [aS tI l ex, aS tPlace p ex'], val := fun _ => .v (aB true) }
theorem spec_ok : PureOk Try.prog 3 conLaw := by
  refine pureOkD (L := ⟨[0, 1, 4, 5, 6, 7, 8, 9, 10, 12, 16], [], []⟩) g3_good rfl pz_mixed Try.func3 rfl conLaw 2 (by decide) (by kernel_rfl) ?_
  rintro _ ⟨l, ex, p, ex', rfl⟩ _
  refine ⟨rfl, ?_⟩
  simp -dsimp [Try.f3, conLaw, conSane, conFew, conShare, conSame, thenKD_normal, thenKD_exit, thenKD_goto, thenKD_ret, inBlockKD_normal, inBlockKD_exit, inBlockKD_goto, inBlockKD_ret, noGotoKD_normal, noGotoKD_exit, noGotoKD_goto, noGotoKD_ret, roundKD_normal, roundKD_exit, roundKD_goto, roundKD_ret, frzSlotsD_nil, frzSlotsD_cons, frzSlotD_eq, yieldVCD_trace, opVCD_eq, vcOpsD_nil, vcOpsD_cons, vcAllD_zero, vcAllD_succ, allAtD_nil, allAtD_cons, readyAux, edgA, vcD_skip, vcD_label, vcD_exit, vcD_goto, vcD_ret, vcD_region, vcD_seq, vcD_cond, vcCondD_bool, vcD_block, vcD_scope, vcD_loop, vcD_rangeFunc, yieldOf, isMem, isMem0, keepE, envLe, St.le, psE, yieldAV, round_td, round_y, round_Γ, vI, vB, vS, aI, aB, aS, look, getE, oper, opRV, putE, allOk, okOps, Op.operands, Call.operands, pEv, qEv, mEv, constRV, coe, RV.av, loadEv, loadCs, takeAt, indexAddrEv, fieldAddrEv, binEv, intEv, arith, unEv, gcond, pickEv, argsEv, callVal, callEv, capAV, lenArgs, lenEv, minEv, extractEv, funcEv, allBox, bound, sliceEv, lookupEv, TD.isBool, allocEv, boxEv, storeEv, spl, plainTD, appendEv, appendArgs, makeMapEv, mapUpdateEv, buildEv, buildSliceEv, fillSV, zsvOf, sizeTD, Ty.parses, parses_flats', coeA, ← flats_append, flats_length, AV.good, AV.cells, AV.pure, SV.pure, av_int, av_bool, av_str, av_slice, av_cons, av_fld0, av_fld1, av_fld2, av_fld3, av_fld4, Ty.of, Ty.dflt, Ty.parse, Ty.flat, Ty.zsv, Ty.fld, Ty.get, Ty.off, Ty.nfld, Ty.size, coeTy, junk, Blk.look, argEnv, resEv, resOk, resVs, oneRV, retOk, frzAs, frzAV, frzL, frzSV, boxCaps, boxCap, SV.sig, sigs, RV.scalar, AV.scalar, SV.scalar, nope, g3_td, g3_y, g3_Γ, pzT, pzG3, pzG2, pzG1, inI64]
  exact ⟨⟨l, by cases ex <;> cases ex' <;> simp⟩, fun h1 h2 => ⟨l, by cases ex <;> cases ex' <;> simp [h1, h2]⟩⟩
end Go.Am
