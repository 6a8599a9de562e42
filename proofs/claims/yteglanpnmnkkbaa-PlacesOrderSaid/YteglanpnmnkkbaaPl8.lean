/- The program of chapter 22: the reference, second part. -/
import Derived.Test.YteglanpnmnkkbaaPl7
namespace Go.Am
set_option linter.unusedVariables false
set_option linter.unusedSimpArgs false
set_option maxHeartbeats 4000000
set_option maxRecDepth 20000
open Go.RowKit Go.Proofs
attribute [local simp] thenKD_normal thenKD_exit thenKD_goto thenKD_ret inBlockKD_normal inBlockKD_exit inBlockKD_goto inBlockKD_ret noGotoKD_normal noGotoKD_exit noGotoKD_goto noGotoKD_ret roundKD_normal roundKD_exit roundKD_goto roundKD_ret frzSlotsD_nil frzSlotsD_cons frzSlotD_eq yieldVCD_trace opVCD_eq vcOpsD_nil vcOpsD_cons vcAllD_zero vcAllD_succ allAtD_nil allAtD_cons readyAux edgA vcD_skip vcD_label vcD_exit vcD_goto vcD_ret vcD_region vcD_seq vcD_seqC vcD_cond vcCondD_bool vcD_block vcD_scope vcD_loop vcD_rangeFunc yieldOf isMem isMem0 keepE envLe St.le psE yieldAV round_td round_y round_Γ vI vB vS aI aB aS look getE oper opRV putE allOk okOps Op.operands Call.operands pEv qEv mEv constRV coe RV.av loadEv loadCs takeAt indexAddrEv fieldAddrEv binEv intEv arith unEv gcond pickEv argsEv callVal callEv capAV_mk lenArgs lenEv minEv extractEv convEv funcEv allBox bound sliceEv lookupEv TD.isBool allocEv boxEv storeEv spl plainTD appendEv appendArgs makeMapEv mapUpdateEv buildEv buildSliceEv fillSV zsvOf sizeTD Ty.parses parses_flats' coeA flats_length AV.good AV.cells AV.pure SV.pure av_int av_bool av_str av_slice av_cons av_fld0 av_fld1 av_fld2 av_fld3 av_fld4 Ty.of Ty.dflt Ty.parse Ty.flat Ty.zsv Ty.fld Ty.get Ty.off Ty.nfld Ty.size coeTy junk Blk.look argEnv resEv resOk resVs oneRV retOk frzAs frzAV frzL frzSV boxCaps boxCap SV.sig sigs RV.scalar AV.scalar SV.scalar nope effVCD_eq effOf SV.ids AV.ids dedup SV.ren AV.ren RV.ren idx outId mergeB Blk.pureB flats_pure flat_pure epsSlotsD_nil epsSlotsD_cons epsSlotD_eq allEp D.parts_fnOf fvParts retEff round_E av_fn G.ye isCutD_nil isCutD_cons firstReg_region firstReg_seq firstReg_skip firstReg_ret firstReg_label firstReg_exit firstReg_goto firstReg_cond firstReg_block firstReg_scope firstReg_loop firstReg_rf eptrOf_mk flOfD_nil flOfD_cons vcFlD_cons vcFlD_nil flPairs_nil flPairs_cons vcFrD_nil vcFrD_cons makeSliceEv vcCondD_ib fzEv unfl_flats isFz round_fz
attribute [local simp ←] flats_append

theorem col_len (l : List (List Int)) (e : Int) : (col l e).length = l.length := by simp [col]
theorem col_get (l : List (List Int)) (e : Int) {i : Nat} (h : i < l.length) : (col l e)[i]?.getD 0 = (l[i]?.getD [])[e.toNat]?.getD 0 := by
  unfold col
  rw [List.getElem?_map, List.getElem?_eq_getElem h]; rfl
theorem sum_take (p : Int) (c : List Int) {j : Nat} (hj : j < c.length) : ((c.take (j + 1)).filter fun x => decide (x ≤ p)).sum = ((c.take j).filter fun x => decide (x ≤ p)).sum + if c[j]?.getD 0 ≤ p then c[j]?.getD 0 else 0 := by
  rw [take_succ_get c hj 0, List.filter_append, List.sum_append]
  congr 1
  by_cases h : c[j]?.getD 0 ≤ p <;> simp [h]
noncomputable def conAt : Con := ⟨fun args => (match args with
  | [.s (.sl (.slice (.int .i64)) l _), .s (.int .i64 e), .s (.int .i64 p)] => standOk l e
  | _ => False), fun args => match args with
  | [.s (.sl (.slice (.int .i64)) l _), .s (.int _ e), .s (.int _ p)] => .tup [aI (stP (col l e) p).1, aI (stP (col l e) p).2.1]
  | _ => .v (.s .any)⟩
theorem conAt_pre (l : List (Ty.T (.slice (.int .i64)))) (exl : Bool) (e : Int) (p : Int) : conAt.pre [.s (.sl (.slice (.int .i64)) l exl), .s (.int .i64 e), .s (.int .i64 p)] = (standOk l e) := rfl
theorem conAt_val (l : List (Ty.T (.slice (.int .i64)))) (exl : Bool) (e : Int) (p : Int) : conAt.val [.s (.sl (.slice (.int .i64)) l exl), .s (.int .i64 e), .s (.int .i64 p)] = .tup [aI (stP (col l e) p).1, aI (stP (col l e) p).2.1] := rfl
theorem at_ok : PureOk Try.prog 52 conAt := by
  refine pureOkD (L := { live := [0, 1, 2, 6, 7, 8, 9, 10, 14, 25, 41] }) pl16_good rfl pl_mixed Try.func52 rfl conAt 3 (by decide) (by kernel_rfl) ?_
  intro args hpre hlens
  simp only [conAt] at hpre
  split at hpre
  case h_2 => exact hpre.elim
  rename_i l ex e p
  simp only [allLen, AV.lenOk, SV.lenOk, Ty.lenOk, maxLen, and_true, implies_true, true_and] at hlens
  refine ⟨rfl, ?_⟩
  simp -dsimp -implicitDefEqProofs [Try.f52, conAt_val, pl16_td, pl16_y, pl16_Γ, pl16_E, pl16_fz, plT, pl16Γ, pl16E, pl15Γ, pl15E, pl14Γ, pl14E, pl13Γ, pl13E, pl12Γ, pl12E, pl11Γ, pl11E, pl10Γ, pl10E, pl9Γ, pl9E, pl8Γ, pl8E, pl7Γ, pl7E, pl6Γ, pl6E, pl5Γ, pl5E, pl4Γ, pl4E, pl3Γ, pl3E, pl2Γ, pl2E, pl1Γ, pl1E, pl0Γ, pl0E, conROrd_pre, conROrd_val, conRTable_pre, conRTable_val, conSameT_pre, conSameT_val, conFew_pre, conFew_val, conSame_pre, conSame_val, conMajority_pre, conMajority_val, conMapSI_pre, conMapSI_val, conSortF, conBinF_pre, conBinF_val, conCompare_pre, conCompare_val, conClone, conDecide_pre, conDecide_val, conStands_pre, conStands_val, conColS, conOrdinals_pre, conOrdinals_val, conMapRI, conCheck_pre, conCheck_val, conMapRR_pre, conMapRR_val, conCont_pre, conCont_val, conTable_pre, conTable_val, conEqual_pre, conEqual_val, conPlaced_pre, conPlaced_val, conMapII_pre, conMapII_val, conSorted, conBin_pre, conBin_val, conValues_pre, conValues_val, conColI, conSort, conLess_pre, conLess_val, conNaN_pre, conNaN_val, inI64]
  obtain ⟨h1, h2, h3, h4, h5⟩ := hpre
  have hcr : ∀ n ∈ col l e, 1 ≤ n ∧ n ≤ 10000 := fun n hn => by
    rw [col, List.mem_map] at hn
    obtain ⟨row, hr, rfl⟩ := hn
    obtain ⟨q1, q2⟩ := h5 row hr
    rw [getD_lt (show e.toNat < row.length by omega)]
    exact q2 _ (List.getElem_mem _)
  have hcl := col_len l e
  refine WpD.loop (L := { live := [0, 1, 2, 6, 7, 8, 9, 10, 14, 25, 41] }) pl16_good X0_ok pl_mixed (by kernel_rfl)
    (fun i : Nat => ⟨[(0, vS tRow l ex), (1, vI e), (2, vI p), (8, vI (((col l e).take i).filter fun x => decide (x ≤ p)).length), (9, vI (((col l e).take i).filter fun x => decide (x ≤ p)).sum), (10, vI i)], []⟩)
    (fun i => i ≤ l.length) (fun i => l.length - i) 0 (by simp) (Turn.le (by simp -dsimp -implicitDefEqProofs)) ?_
  intro i hi
  have hfl := filt_take_le (fun x => decide (x ≤ p)) (col l e) i
  have hfs := sum_le (((col l e).take i).filter fun x => decide (x ≤ p)) (fun n hn => hcr n (List.mem_of_mem_take (List.mem_filter.1 hn).1))
  simp -dsimp -implicitDefEqProofs [conAt_val, pl16_td, pl16_y, pl16_Γ, pl16_E, pl16_fz, plT, pl16Γ, pl16E, pl15Γ, pl15E, pl14Γ, pl14E, pl13Γ, pl13E, pl12Γ, pl12E, pl11Γ, pl11E, pl10Γ, pl10E, pl9Γ, pl9E, pl8Γ, pl8E, pl7Γ, pl7E, pl6Γ, pl6E, pl5Γ, pl5E, pl4Γ, pl4E, pl3Γ, pl3E, pl2Γ, pl2E, pl1Γ, pl1E, pl0Γ, pl0E, conROrd_pre, conROrd_val, conRTable_pre, conRTable_val, conSameT_pre, conSameT_val, conFew_pre, conFew_val, conSame_pre, conSame_val, conMajority_pre, conMajority_val, conMapSI_pre, conMapSI_val, conSortF, conBinF_pre, conBinF_val, conCompare_pre, conCompare_val, conClone, conDecide_pre, conDecide_val, conStands_pre, conStands_val, conColS, conOrdinals_pre, conOrdinals_val, conMapRI, conCheck_pre, conCheck_val, conMapRR_pre, conMapRR_val, conCont_pre, conCont_val, conTable_pre, conTable_val, conEqual_pre, conEqual_val, conPlaced_pre, conPlaced_val, conMapII_pre, conMapII_val, conSorted, conBin_pre, conBin_val, conValues_pre, conValues_val, conColI, conSort, conLess_pre, conLess_val, conNaN_pre, conNaN_val, inI64]
  refine ⟨fun hlt => ?_, fun hge => ?_⟩
  · have hrow := h5 _ (get_mem [] hlt)
    have hcg := col_get l e hlt
    have hf := filt_take (fun x => decide (x ≤ p)) (col l e) (j := i) (by omega) 0
    have hs := sum_take p (col l e) (j := i) (by omega)
    have hv : 1 ≤ (col l e)[i]?.getD 0 ∧ (col l e)[i]?.getD 0 ≤ 10000 := hcr _ (get_mem 0 (by omega))
    have hg : ∀ x : Int, x = (l[i]?.getD [])[e.toNat]?.getD 0 → x = (col l e)[i]?.getD 0 := fun x hx => by rw [hx, hcg]
    generalize hx : (l[i]?.getD [])[e.toNat]?.getD 0 = x at *
    have hx' := hg x rfl
    refine ⟨hlt, ⟨h4, hrow.1⟩, fun hb => ⟨⟨by omega, by omega⟩, hlt, ⟨h4, hrow.1⟩, ⟨by omega, by omega⟩, ⟨by omega, by omega⟩, i + 1, by omega, by omega, TurnT.le ?_⟩, fun hb => ⟨⟨by omega, by omega⟩, i + 1, by omega, by omega, TurnT.le ?_⟩⟩
    · rw [hx'] at hb
      simp -dsimp -implicitDefEqProofs [hf, hs, hb, hx']
    · rw [hx'] at hb
      simp -dsimp -implicitDefEqProofs [hf, hs, Int.not_le.2 hb]
  · rw [List.take_of_length_le (show (col l e).length ≤ i by omega)]
    have hfl' : ((col l e).filter fun x => decide (x ≤ p)).length ≤ (col l e).length := List.length_filter_le ..
    refine ⟨⟨by omega, by omega⟩, fun hb => ?_, fun hb => ?_⟩
    · rw [show stP (col l e) p = (0, 0, ()) from if_pos (by omega)]; exact ⟨rfl, rfl⟩
    · rw [show stP (col l e) p = _ from if_neg (by omega)]; exact ⟨rfl, rfl⟩
noncomputable def pl17Γ : List (FuncId × Con) := (31, conRCheck) :: (52, conAt) :: pl16Γ
theorem pl17Γ_ok : ∀ p ∈ pl17Γ, (∀ (args : Array Value) (w : World), (callFunc p.1 args).run Try.prog w = .ok (.enter p.1 args) w) ∧ PureOk Try.prog p.1 p.2 := by
  simp only [pl17Γ, List.forall_mem_cons]
  exact ⟨⟨enters_of Try.func31 (by kernel_rfl) rfl, rcheck_ok⟩, ⟨enters_of Try.func52 (by kernel_rfl) rfl, at_ok⟩, pl16Γ_ok⟩
noncomputable def pl17E : List (FuncId × ECon) := pl16E
theorem pl17E_ok : ∀ p ∈ pl17E, (∀ (args : Array Value) (w : World), (callFunc p.1 args).run Try.prog w = .ok (.enter p.1 args) w) ∧ EffOk Try.prog p.1 p.2 := by
  simp only [pl17E]
  exact pl16E_ok
noncomputable def pl17 : G := { τ := plT, Γ := pl17Γ, E := pl17E }
theorem pl17_good : pl17.good Try.prog := good_of_all (plT_ok _ rfl) pl17Γ_ok pl17E_ok
theorem pl17_td (t : TypeId) : pl17.td t = (look plT t).getD .other := rfl
theorem pl17_y : pl17.y = false := rfl
theorem pl17_Γ : pl17.Γ = pl17Γ := rfl
theorem pl17_E : pl17.E = pl17E := rfl
theorem pl17_fz : pl17.fz = [] := rfl
noncomputable def pl17y : G := { τ := plT, Γ := pl17Γ, E := pl17E, y := true }
theorem pl17y_good : pl17y.good Try.prog := good_of_all (plT_ok _ rfl) pl17Γ_ok pl17E_ok
theorem pl17y_td (t : TypeId) : pl17y.td t = (look plT t).getD .other := rfl
theorem pl17y_y : pl17y.y = true := rfl
theorem pl17y_Γ : pl17y.Γ = pl17Γ := rfl
theorem pl17y_E : pl17y.E = pl17E := rfl
theorem pl17y_fz : pl17y.fz = [] := rfl

/-- compare. -/
theorem dec_step {A B : List Sd} {q : Nat} (ha : q < A.length) (hb : q < B.length) {x y : Sd} (hx : A[q]?.getD (0, 0, ()) = x) (hy : B[q]?.getD (0, 0, ()) = y) :
    (y.1 < x.1 ∨ x.1 = y.1 ∧ x.2.1 < y.2.1 → dec (A.drop q) (B.drop q) = -1) ∧ (x.1 < y.1 ∨ x.1 = y.1 ∧ y.2.1 < x.2.1 → dec (A.drop q) (B.drop q) = 1) ∧ (x.1 = y.1 → x.2.1 = y.2.1 → dec (A.drop q) (B.drop q) = dec (A.drop (q + 1)) (B.drop (q + 1))) := by
  subst hx; subst hy
  refine ⟨fun h => ?_, fun h => ?_, fun h1 h2 => dec_3 ha hb h1 h2⟩
  · rcases h with h | ⟨h1, h2⟩
    · rw [dec_1 ha hb (by omega)]
      have := sgn_cases ((B[q]?.getD (0, 0, ())).1 - (A[q]?.getD (0, 0, ())).1)
      omega
    · rw [dec_2 ha hb h1 (by omega)]
      have := sgn_cases ((A[q]?.getD (0, 0, ())).2.1 - (B[q]?.getD (0, 0, ())).2.1)
      omega
  · rcases h with h | ⟨h1, h2⟩
    · rw [dec_1 ha hb (by omega)]
      have := sgn_cases ((B[q]?.getD (0, 0, ())).1 - (A[q]?.getD (0, 0, ())).1)
      omega
    · rw [dec_2 ha hb h1 (by omega)]
      have := sgn_cases ((A[q]?.getD (0, 0, ())).2.1 - (B[q]?.getD (0, 0, ())).2.1)
      omega
noncomputable def conRCmp : Con := ⟨fun args => (match args with
  | [.s (.sl (.slice (.int .i64)) l _), .s (.int .i64 a), .s (.int .i64 b)] => standOk l a ∧ standOk l b
  | _ => False), fun args => match args with
  | [.s (.sl (.slice (.int .i64)) l _), .s (.int _ a), .s (.int _ b)] => .v (aI (dec (standL l a) (standL l b)))
  | _ => .v (.s .any)⟩
theorem conRCmp_pre (l : List (Ty.T (.slice (.int .i64)))) (exl : Bool) (a : Int) (b : Int) : conRCmp.pre [.s (.sl (.slice (.int .i64)) l exl), .s (.int .i64 a), .s (.int .i64 b)] = (standOk l a ∧ standOk l b) := rfl
theorem conRCmp_val (l : List (Ty.T (.slice (.int .i64)))) (exl : Bool) (a : Int) (b : Int) : conRCmp.val [.s (.sl (.slice (.int .i64)) l exl), .s (.int .i64 a), .s (.int .i64 b)] = .v (aI (dec (standL l a) (standL l b))) := rfl
theorem rcmp_ok : PureOk Try.prog 32 conRCmp := by
  refine pureOkD (L := { live := [0, 1, 2, 6, 7, 8, 9, 10, 11, 17, 46, 59] }) pl17_good rfl pl_mixed Try.func32 rfl conRCmp 3 (by decide) (by kernel_rfl) ?_
  intro args hpre hlens
  simp only [conRCmp] at hpre
  split at hpre
  case h_2 => exact hpre.elim
  rename_i l ex a b
  simp only [allLen, AV.lenOk, SV.lenOk, Ty.lenOk, maxLen, and_true, implies_true, true_and] at hlens
  refine ⟨rfl, ?_⟩
  simp -dsimp -implicitDefEqProofs [Try.f32, conRCmp_val, pl17_td, pl17_y, pl17_Γ, pl17_E, pl17_fz, plT, pl17Γ, pl17E, pl16Γ, pl16E, pl15Γ, pl15E, pl14Γ, pl14E, pl13Γ, pl13E, pl12Γ, pl12E, pl11Γ, pl11E, pl10Γ, pl10E, pl9Γ, pl9E, pl8Γ, pl8E, pl7Γ, pl7E, pl6Γ, pl6E, pl5Γ, pl5E, pl4Γ, pl4E, pl3Γ, pl3E, pl2Γ, pl2E, pl1Γ, pl1E, pl0Γ, pl0E, conRCheck_pre, conRCheck_val, conAt_pre, conAt_val, conROrd_pre, conROrd_val, conRTable_pre, conRTable_val, conSameT_pre, conSameT_val, conFew_pre, conFew_val, conSame_pre, conSame_val, conMajority_pre, conMajority_val, conMapSI_pre, conMapSI_val, conSortF, conBinF_pre, conBinF_val, conCompare_pre, conCompare_val, conClone, conDecide_pre, conDecide_val, conStands_pre, conStands_val, conColS, conOrdinals_pre, conOrdinals_val, conMapRI, conCheck_pre, conCheck_val, conMapRR_pre, conMapRR_val, conCont_pre, conCont_val, conTable_pre, conTable_val, conEqual_pre, conEqual_val, conPlaced_pre, conPlaced_val, conMapII_pre, conMapII_val, conSorted, conBin_pre, conBin_val, conValues_pre, conValues_val, conColI, conSort, conLess_pre, conLess_val, conNaN_pre, conNaN_val, inI64]
  obtain ⟨oa, ob⟩ := hpre
  have la := standL_len l a
  have lb := standL_len l b
  have ga : ∀ q, q < (l[0]?.getD []).length → (standL l a)[q]?.getD (0, 0, ()) = stP (col l a) ((q : Int) + 1) := fun q hq => by
    unfold standL; rw [List.getElem?_map, List.getElem?_range hq]; rfl
  have gb : ∀ q, q < (l[0]?.getD []).length → (standL l b)[q]?.getD (0, 0, ()) = stP (col l b) ((q : Int) + 1) := fun q hq => by
    unfold standL; rw [List.getElem?_map, List.getElem?_range hq]; rfl
  refine WpD.loop (L := { live := [0, 1, 2, 6, 7, 8, 9, 10, 11, 17, 46, 59] }) pl17_good X0_ok pl_mixed (by kernel_rfl)
    (fun q : Nat => ⟨[(0, vS tRow l ex), (1, vI a), (2, vI b), (7, vI (q + 1))], []⟩)
    (fun q => q ≤ (l[0]?.getD []).length ∧ dec (standL l a) (standL l b) = dec ((standL l a).drop q) ((standL l b).drop q)) (fun q => (l[0]?.getD []).length - q) 0 (by simp) (Turn.le (by simp -dsimp -implicitDefEqProofs)) ?_
  rintro q ⟨hq, hd⟩
  simp -dsimp -implicitDefEqProofs [conRCmp_val, pl17_td, pl17_y, pl17_Γ, pl17_E, pl17_fz, plT, pl17Γ, pl17E, pl16Γ, pl16E, pl15Γ, pl15E, pl14Γ, pl14E, pl13Γ, pl13E, pl12Γ, pl12E, pl11Γ, pl11E, pl10Γ, pl10E, pl9Γ, pl9E, pl8Γ, pl8E, pl7Γ, pl7E, pl6Γ, pl6E, pl5Γ, pl5E, pl4Γ, pl4E, pl3Γ, pl3E, pl2Γ, pl2E, pl1Γ, pl1E, pl0Γ, pl0E, conRCheck_pre, conRCheck_val, conAt_pre, conAt_val, conROrd_pre, conROrd_val, conRTable_pre, conRTable_val, conSameT_pre, conSameT_val, conFew_pre, conFew_val, conSame_pre, conSame_val, conMajority_pre, conMajority_val, conMapSI_pre, conMapSI_val, conSortF, conBinF_pre, conBinF_val, conCompare_pre, conCompare_val, conClone, conDecide_pre, conDecide_val, conStands_pre, conStands_val, conColS, conOrdinals_pre, conOrdinals_val, conMapRI, conCheck_pre, conCheck_val, conMapRR_pre, conMapRR_val, conCont_pre, conCont_val, conTable_pre, conTable_val, conEqual_pre, conEqual_val, conPlaced_pre, conPlaced_val, conMapII_pre, conMapII_val, conSorted, conBin_pre, conBin_val, conValues_pre, conValues_val, conColI, conSort, conLess_pre, conLess_val, conNaN_pre, conNaN_val, inI64]
  refine ⟨oa.1, fun hlt => ?_, fun hge => by rw [hd, List.drop_of_length_le (by omega)]; rfl⟩
  obtain ⟨s1, s2, s3⟩ := dec_step (show q < (standL l a).length by omega) (show q < (standL l b).length by omega) (ga q (by omega)) (gb q (by omega))
  generalize stP (col l a) ((q : Int) + 1) = x at *
  generalize stP (col l b) ((q : Int) + 1) = y at *
  have hm := oa.2.2.1
  exact ⟨oa, ob, fun h => ⟨h, fun h' => ⟨h, h'⟩⟩, fun h => by rw [hd, s1 h], fun h1 h2 => ⟨fun h => ⟨h, fun h' => ⟨h, h'⟩⟩, fun h => by rw [hd, s2 h], fun h3 h4 => ⟨⟨by omega, by omega⟩, q + 1, ⟨by omega, by rw [hd]; exact s3 (Int.le_antisymm h1 h3) (Int.le_antisymm (h4 (Int.le_antisymm h1 h3)) (h2 (Int.le_antisymm h1 h3)))⟩, by omega, TurnT.le (by simp -dsimp -implicitDefEqProofs)⟩⟩⟩
noncomputable def pl18Γ : List (FuncId × Con) := (32, conRCmp) :: pl17Γ
theorem pl18Γ_ok : ∀ p ∈ pl18Γ, (∀ (args : Array Value) (w : World), (callFunc p.1 args).run Try.prog w = .ok (.enter p.1 args) w) ∧ PureOk Try.prog p.1 p.2 := by
  simp only [pl18Γ, List.forall_mem_cons]
  exact ⟨⟨enters_of Try.func32 (by kernel_rfl) rfl, rcmp_ok⟩, pl17Γ_ok⟩
noncomputable def pl18E : List (FuncId × ECon) := pl17E
theorem pl18E_ok : ∀ p ∈ pl18E, (∀ (args : Array Value) (w : World), (callFunc p.1 args).run Try.prog w = .ok (.enter p.1 args) w) ∧ EffOk Try.prog p.1 p.2 := by
  simp only [pl18E]
  exact pl17E_ok
noncomputable def pl18 : G := { τ := plT, Γ := pl18Γ, E := pl18E }
theorem pl18_good : pl18.good Try.prog := good_of_all (plT_ok _ rfl) pl18Γ_ok pl18E_ok
theorem pl18_td (t : TypeId) : pl18.td t = (look plT t).getD .other := rfl
theorem pl18_y : pl18.y = false := rfl
theorem pl18_Γ : pl18.Γ = pl18Γ := rfl
theorem pl18_E : pl18.E = pl18E := rfl
theorem pl18_fz : pl18.fz = [] := rfl
noncomputable def pl18y : G := { τ := plT, Γ := pl18Γ, E := pl18E, y := true }
theorem pl18y_good : pl18y.good Try.prog := good_of_all (plT_ok _ rfl) pl18Γ_ok pl18E_ok
theorem pl18y_td (t : TypeId) : pl18y.td t = (look plT t).getD .other := rfl
theorem pl18y_y : pl18y.y = true := rfl
theorem pl18y_Γ : pl18y.Γ = pl18Γ := rfl
theorem pl18y_E : pl18y.E = pl18E := rfl
theorem pl18y_fz : pl18y.fz = [] := rfl
noncomputable def conRCompare : Con := ⟨fun args => (match args with
  | [.s (.sl (.slice (.int .i64)) l _), .s (.int .i64 a), .s (.int .i64 b)] => True
  | _ => False), fun args => match args with
  | [.s (.sl (.slice (.int .i64)) l _), .s (.int _ a), .s (.int _ b)] => .tup [aI (cmpV l a b), aI (cmpErr l a b)]
  | _ => .v (.s .any)⟩
theorem conRCompare_pre (l : List (Ty.T (.slice (.int .i64)))) (exl : Bool) (a : Int) (b : Int) : conRCompare.pre [.s (.sl (.slice (.int .i64)) l exl), .s (.int .i64 a), .s (.int .i64 b)] = (True) := rfl
theorem conRCompare_val (l : List (Ty.T (.slice (.int .i64)))) (exl : Bool) (a : Int) (b : Int) : conRCompare.val [.s (.sl (.slice (.int .i64)) l exl), .s (.int .i64 a), .s (.int .i64 b)] = .tup [aI (cmpV l a b), aI (cmpErr l a b)] := rfl
theorem rcompare_ok : PureOk Try.prog 14 conRCompare := by
  refine pureOkD (L := { live := [0, 1, 2, 6, 7, 8, 12, 40] }) pl18_good rfl pl_mixed Try.func14 rfl conRCompare 3 (by decide) (by kernel_rfl) ?_
  intro args hpre hlens
  simp only [conRCompare] at hpre
  split at hpre
  case h_2 => exact hpre.elim
  rename_i l ex a b
  simp only [allLen, AV.lenOk, SV.lenOk, Ty.lenOk, maxLen, and_true, implies_true, true_and] at hlens
  refine ⟨rfl, ?_⟩
  simp -dsimp -implicitDefEqProofs [Try.f14, conRCompare_val, pl18_td, pl18_y, pl18_Γ, pl18_E, pl18_fz, plT, pl18Γ, pl18E, pl17Γ, pl17E, pl16Γ, pl16E, pl15Γ, pl15E, pl14Γ, pl14E, pl13Γ, pl13E, pl12Γ, pl12E, pl11Γ, pl11E, pl10Γ, pl10E, pl9Γ, pl9E, pl8Γ, pl8E, pl7Γ, pl7E, pl6Γ, pl6E, pl5Γ, pl5E, pl4Γ, pl4E, pl3Γ, pl3E, pl2Γ, pl2E, pl1Γ, pl1E, pl0Γ, pl0E, conRCmp_pre, conRCmp_val, conRCheck_pre, conRCheck_val, conAt_pre, conAt_val, conROrd_pre, conROrd_val, conRTable_pre, conRTable_val, conSameT_pre, conSameT_val, conFew_pre, conFew_val, conSame_pre, conSame_val, conMajority_pre, conMajority_val, conMapSI_pre, conMapSI_val, conSortF, conBinF_pre, conBinF_val, conCompare_pre, conCompare_val, conClone, conDecide_pre, conDecide_val, conStands_pre, conStands_val, conColS, conOrdinals_pre, conOrdinals_val, conMapRI, conCheck_pre, conCheck_val, conMapRR_pre, conMapRR_val, conCont_pre, conCont_val, conTable_pre, conTable_val, conEqual_pre, conEqual_val, conPlaced_pre, conPlaced_val, conMapII_pre, conMapII_val, conSorted, conBin_pre, conBin_val, conValues_pre, conValues_val, conColI, conSort, conLess_pre, conLess_val, conNaN_pre, conNaN_val, inI64]
  refine ⟨fun h => ?_, fun h => ⟨fun h1 h2 => ⟨⟨h1, h2⟩, List.length_pos_iff.2 h1⟩, fun h1 h2 h3 h4 => ⟨⟨⟨⟨h1, h2⟩, h3⟩, h4⟩, List.length_pos_iff.2 h1⟩, fun h1 => ?_, fun h1 h2 h3 h4 h5 => ?_⟩⟩
  · have := cmpErr_1 (a := a) (b := b) h
    exact ⟨by rw [cmpV, if_neg (by rw [this]; exact h)], this.symm⟩
  · have hc : (l = [] ∨ (if b < a then b else a) < 0) ∨ ((l[0]?.getD []).length : Int) ≤ (if a < b then b else a) := by
      by_cases hl : l = []
      · exact .inl (.inl hl)
      · rcases h1 with (((h1 | h1) | h1) | h1) | h1
        · exact absurd h1 hl
        · left; right; split <;> omega
        · right; split <;> omega
        · left; right; split <;> omega
        · right; split <;> omega
    have := cmpErr_2 h hc
    exact ⟨by rw [cmpV, if_neg (by rw [this]; decide)], this.symm⟩
  · have he : cmpErr l a b = 0 := cmpErr_3 h (by
      rintro ((q | q) | q)
      · exact h1 q
      · split at q <;> omega
      · split at q <;> omega)
    obtain ⟨_, k0, ⟨k1, k2⟩, ⟨k3, k4⟩⟩ := cmpErr_ok he
    exact ⟨⟨standOk_of h k0 k1 k2, standOk_of h k0 k3 k4⟩, by rw [cmpV, if_pos he], he.symm⟩
theorem decN_succ (l : List (List Int)) (k : Nat) (t : List Sd) : decN (allTo l (k + 1)) t = decN (allTo l k) t + if dec (standL l k) t < 0 then 1 else 0 := by
  unfold decN
  rw [allTo_succ, List.filter_append, List.length_append]
  congr 1
  by_cases h : dec (standL l k) t < 0 <;> simp [h]
theorem decN_le (l : List (List Int)) (k : Nat) (t : List Sd) : decN (allTo l k) t ≤ k := by
  have := List.length_filter_le (fun x => decide (dec x t < 0)) (allTo l k)
  rw [allTo_len] at this
  exact this
noncomputable def conRMaj : Con := ⟨fun args => (match args with
  | [.s (.sl (.slice (.int .i64)) l _)] => True
  | _ => False), fun args => match args with
  | [.s (.sl (.slice (.int .i64)) l _)] => .tup [aS tI (majL l) false, aI (checkErr l)]
  | _ => .v (.s .any)⟩
theorem conRMaj_pre (l : List (Ty.T (.slice (.int .i64)))) (exl : Bool) : conRMaj.pre [.s (.sl (.slice (.int .i64)) l exl)] = (True) := rfl
theorem conRMaj_val (l : List (Ty.T (.slice (.int .i64)))) (exl : Bool) : conRMaj.val [.s (.sl (.slice (.int .i64)) l exl)] = .tup [aS tI (majL l) false, aI (checkErr l)] := rfl
theorem rmaj_ok : PureOk Try.prog 16 conRMaj := by
  refine pureOkD (L := { live := [0, 2, 3, 4, 5, 6, 7, 8, 12, 25, 33, 40] }) pl18_good rfl pl_mixed Try.func16 rfl conRMaj 1 (by decide) (by kernel_rfl) ?_
  intro args hpre hlens
  simp only [conRMaj] at hpre
  split at hpre
  case h_2 => exact hpre.elim
  rename_i l ex
  simp only [allLen, AV.lenOk, SV.lenOk, Ty.lenOk, maxLen, and_true, implies_true, true_and] at hlens
  refine ⟨rfl, ?_⟩
  simp -dsimp -implicitDefEqProofs [Try.f16, conRMaj_val, pl18_td, pl18_y, pl18_Γ, pl18_E, pl18_fz, plT, pl18Γ, pl18E, pl17Γ, pl17E, pl16Γ, pl16E, pl15Γ, pl15E, pl14Γ, pl14E, pl13Γ, pl13E, pl12Γ, pl12E, pl11Γ, pl11E, pl10Γ, pl10E, pl9Γ, pl9E, pl8Γ, pl8E, pl7Γ, pl7E, pl6Γ, pl6E, pl5Γ, pl5E, pl4Γ, pl4E, pl3Γ, pl3E, pl2Γ, pl2E, pl1Γ, pl1E, pl0Γ, pl0E, conRCmp_pre, conRCmp_val, conRCheck_pre, conRCheck_val, conAt_pre, conAt_val, conROrd_pre, conROrd_val, conRTable_pre, conRTable_val, conSameT_pre, conSameT_val, conFew_pre, conFew_val, conSame_pre, conSame_val, conMajority_pre, conMajority_val, conMapSI_pre, conMapSI_val, conSortF, conBinF_pre, conBinF_val, conCompare_pre, conCompare_val, conClone, conDecide_pre, conDecide_val, conStands_pre, conStands_val, conColS, conOrdinals_pre, conOrdinals_val, conMapRI, conCheck_pre, conCheck_val, conMapRR_pre, conMapRR_val, conCont_pre, conCont_val, conTable_pre, conTable_val, conEqual_pre, conEqual_val, conPlaced_pre, conPlaced_val, conMapII_pre, conMapII_val, conSorted, conBin_pre, conBin_val, conValues_pre, conValues_val, conColI, conSort, conLess_pre, conLess_val, conNaN_pre, conNaN_val, inI64]
  refine ⟨fun h => if_neg (fun q => h q.1), fun hc => ?_⟩
  obtain ⟨n, hn⟩ : ∃ n, n = (l[0]?.getD []).length := ⟨_, rfl⟩
  have hn4 : n ≤ 4096 := by
    by_cases hl : l = []
    · subst hl; simp at hn; omega
    · rw [hn]; exact (tableErr_ok (checkErr_ok hc).1).2.1 _ (get_mem [] (List.length_pos_iff.2 hl))
  have hso := fun (h0 : 0 < l.length) (e : Int) (h1 : 0 ≤ e) (h2 : e < (l[0]?.getD []).length) => standOk_of hc h0 h1 h2
  have hM : majL l = (allTo l n).map fun x => (decN (allTo l n) x : Int) + 1 := by
    unfold majL
    rw [← hn]
    by_cases hl : l = []
    · rw [if_neg (fun q => q.2 hl)]
      subst hl
      simp at hn
      subst hn
      rfl
    · rw [if_pos ⟨hc, hl⟩]
  have hMl : (majL l).length = n := by rw [hM, List.length_map, allTo_len]
  refine WpD.turn _ (Turn.virt (k := 5) (t := tI) (xs := []) (by simp [look])) ?_
  refine WpD.loop (L := { live := [0, 2, 3, 4, 5, 6, 7, 8, 12, 25, 33, 40] }) pl18_good X0_ok pl_mixed (by kernel_rfl)
    (fun i : Nat => ⟨[(0, vS tRow l ex), (2, vS tI [] true), (3, vI 0), (5, ⟨true, .v (.s (.own tI 0 i))⟩), (6, vI i)], [.arr (decide (0 < i)) (tI.flats ((majL l).take i))]⟩)
    (fun i => i ≤ n) (fun i => n - i) 0 (by simp) (Turn.le (by simp -dsimp -implicitDefEqProofs)) ?_
  intro i hi
  have hmin : min i n = i := by omega
  simp -dsimp -implicitDefEqProofs [conRMaj_val, hMl, hmin, ← hn, pl18_td, pl18_y, pl18_Γ, pl18_E, pl18_fz, plT, pl18Γ, pl18E, pl17Γ, pl17E, pl16Γ, pl16E, pl15Γ, pl15E, pl14Γ, pl14E, pl13Γ, pl13E, pl12Γ, pl12E, pl11Γ, pl11E, pl10Γ, pl10E, pl9Γ, pl9E, pl8Γ, pl8E, pl7Γ, pl7E, pl6Γ, pl6E, pl5Γ, pl5E, pl4Γ, pl4E, pl3Γ, pl3E, pl2Γ, pl2E, pl1Γ, pl1E, pl0Γ, pl0E, conRCmp_pre, conRCmp_val, conRCheck_pre, conRCheck_val, conAt_pre, conAt_val, conROrd_pre, conROrd_val, conRTable_pre, conRTable_val, conSameT_pre, conSameT_val, conFew_pre, conFew_val, conSame_pre, conSame_val, conMajority_pre, conMajority_val, conMapSI_pre, conMapSI_val, conSortF, conBinF_pre, conBinF_val, conCompare_pre, conCompare_val, conClone, conDecide_pre, conDecide_val, conStands_pre, conStands_val, conColS, conOrdinals_pre, conOrdinals_val, conMapRI, conCheck_pre, conCheck_val, conMapRR_pre, conMapRR_val, conCont_pre, conCont_val, conTable_pre, conTable_val, conEqual_pre, conEqual_val, conPlaced_pre, conPlaced_val, conMapII_pre, conMapII_val, conSorted, conBin_pre, conBin_val, conValues_pre, conValues_val, conColI, conSort, conLess_pre, conLess_val, conNaN_pre, conNaN_val, inI64]
  refine ⟨fun h0 hlt => ?_, fun hge => ?_⟩
  · have oi := hso h0 i (by omega) (by omega)
    refine WpD.loop (L := { live := [0, 2, 3, 4, 5, 6, 7, 8, 12, 25, 33, 40] }) pl18_good X0_ok pl_mixed (by kernel_rfl)
      (fun k : Nat => ⟨[(0, vS tRow l ex), (2, vS tI [] true), (3, vI 0), (5, ⟨true, .v (.s (.own tI 0 i))⟩), (6, vI i), (7, vI (decN (allTo l k) (standL l i) + 1)), (8, vI k)], [.arr (decide (0 < i)) (tI.flats ((majL l).take i))]⟩)
      (fun k => k ≤ n) (fun k => n - k) 0 (by simp) (Turn.le (by simp -dsimp -implicitDefEqProofs [decN, allTo])) ?_
    intro k hk
    have hle := decN_le l k (standL l i)
    simp -dsimp -implicitDefEqProofs [conRMaj_val, hMl, hmin, ← hn, pl18_td, pl18_y, pl18_Γ, pl18_E, pl18_fz, plT, pl18Γ, pl18E, pl17Γ, pl17E, pl16Γ, pl16E, pl15Γ, pl15E, pl14Γ, pl14E, pl13Γ, pl13E, pl12Γ, pl12E, pl11Γ, pl11E, pl10Γ, pl10E, pl9Γ, pl9E, pl8Γ, pl8E, pl7Γ, pl7E, pl6Γ, pl6E, pl5Γ, pl5E, pl4Γ, pl4E, pl3Γ, pl3E, pl2Γ, pl2E, pl1Γ, pl1E, pl0Γ, pl0E, conRCmp_pre, conRCmp_val, conRCheck_pre, conRCheck_val, conAt_pre, conAt_val, conROrd_pre, conROrd_val, conRTable_pre, conRTable_val, conSameT_pre, conSameT_val, conFew_pre, conFew_val, conSame_pre, conSame_val, conMajority_pre, conMajority_val, conMapSI_pre, conMapSI_val, conSortF, conBinF_pre, conBinF_val, conCompare_pre, conCompare_val, conClone, conDecide_pre, conDecide_val, conStands_pre, conStands_val, conColS, conOrdinals_pre, conOrdinals_val, conMapRI, conCheck_pre, conCheck_val, conMapRR_pre, conMapRR_val, conCont_pre, conCont_val, conTable_pre, conTable_val, conEqual_pre, conEqual_val, conPlaced_pre, conPlaced_val, conMapII_pre, conMapII_val, conSorted, conBin_pre, conBin_val, conValues_pre, conValues_val, conColI, conSort, conLess_pre, conLess_val, conNaN_pre, conNaN_val, inI64]
    refine ⟨h0, fun hkl => ⟨⟨hso h0 k (by omega) (by omega), oi⟩, fun hb => ⟨⟨by omega, by omega⟩, ⟨by omega, by omega⟩, k + 1, by omega, by omega, TurnT.le ?_⟩, fun hb => ⟨⟨by omega, by omega⟩, k + 1, by omega, by omega, TurnT.le ?_⟩⟩, fun hkg => ⟨⟨by omega, by simp only [maxLen]; omega⟩, ⟨by omega, by omega⟩, i + 1, by omega, by omega, TurnT.le ?_⟩⟩
    · simp -dsimp -implicitDefEqProofs [decN_succ, hb]
    · simp -dsimp -implicitDefEqProofs [decN_succ, Int.not_lt.2 hb]
    · have hke : k = n := by omega
      subst hke
      have hg : (majL l)[i]?.getD 0 = (decN (allTo l k) (standL l i) : Int) + 1 := by
        rw [hM, List.getElem?_map, allTo, List.getElem?_map, List.getElem?_range hlt]; rfl
      have ht := take_succ_get (majL l) (i := i) (by omega) 0
      rw [hg] at ht
      simp -dsimp -implicitDefEqProofs [ht]
  · have hin : i = n := by
      rcases Nat.eq_zero_or_pos l.length with h | h
      · have : l = [] := List.length_eq_zero_iff.1 h
        subst this
        simp at hn
        omega
      · have := hge h; omega
    rw [List.take_of_length_le (by omega)]
    exact ⟨rfl, hc.symm⟩
noncomputable def pl19Γ : List (FuncId × Con) := (14, conRCompare) :: (16, conRMaj) :: pl18Γ
theorem pl19Γ_ok : ∀ p ∈ pl19Γ, (∀ (args : Array Value) (w : World), (callFunc p.1 args).run Try.prog w = .ok (.enter p.1 args) w) ∧ PureOk Try.prog p.1 p.2 := by
  simp only [pl19Γ, List.forall_mem_cons]
  exact ⟨⟨enters_of Try.func14 (by kernel_rfl) rfl, rcompare_ok⟩, ⟨enters_of Try.func16 (by kernel_rfl) rfl, rmaj_ok⟩, pl18Γ_ok⟩
noncomputable def pl19E : List (FuncId × ECon) := pl18E
theorem pl19E_ok : ∀ p ∈ pl19E, (∀ (args : Array Value) (w : World), (callFunc p.1 args).run Try.prog w = .ok (.enter p.1 args) w) ∧ EffOk Try.prog p.1 p.2 := by
  simp only [pl19E]
  exact pl18E_ok
noncomputable def pl19 : G := { τ := plT, Γ := pl19Γ, E := pl19E }
theorem pl19_good : pl19.good Try.prog := good_of_all (plT_ok _ rfl) pl19Γ_ok pl19E_ok
theorem pl19_td (t : TypeId) : pl19.td t = (look plT t).getD .other := rfl
theorem pl19_y : pl19.y = false := rfl
theorem pl19_Γ : pl19.Γ = pl19Γ := rfl
theorem pl19_E : pl19.E = pl19E := rfl
theorem pl19_fz : pl19.fz = [] := rfl
noncomputable def pl19y : G := { τ := plT, Γ := pl19Γ, E := pl19E, y := true }
theorem pl19y_good : pl19y.good Try.prog := good_of_all (plT_ok _ rfl) pl19Γ_ok pl19E_ok
theorem pl19y_td (t : TypeId) : pl19y.td t = (look plT t).getD .other := rfl
theorem pl19y_y : pl19y.y = true := rfl
theorem pl19y_Γ : pl19y.Γ = pl19Γ := rfl
theorem pl19y_E : pl19y.E = pl19E := rfl
theorem pl19y_fz : pl19y.fz = [] := rfl
end Go.Am
