/- Part 7 of the proof's base. -/
import Derived.Test.YtnekjoocbfbmaaaGreatK6
set_option linter.all false
namespace Go.Am
set_option maxHeartbeats 4000000
set_option maxRecDepth 20000
open Go.RowKit Go.Proofs
attribute [local simp] thenKD_normal thenKD_exit thenKD_goto thenKD_ret inBlockKD_normal inBlockKD_exit inBlockKD_goto inBlockKD_ret noGotoKD_normal noGotoKD_exit noGotoKD_goto noGotoKD_ret roundKD_normal roundKD_exit roundKD_goto roundKD_ret frzSlotsD_nil frzSlotsD_cons frzSlotD_eq yieldVCD_trace opVCD_eq vcOpsD_nil vcOpsD_cons vcAllD_zero vcAllD_succ allAtD_nil allAtD_cons readyAux edgA vcD_skip vcD_label vcD_exit vcD_goto vcD_ret vcD_region vcD_seq vcD_seqC vcD_cond vcCondD_bool vcD_block vcD_scope vcD_loop vcD_rangeFunc yieldOf isMem isMem0 keepE envLe St.le psE yieldAV round_td round_y round_Γ vI vB vS aI aB aS look getE oper opRV putE allOk okOps Op.operands Call.operands pEv qEv mEv constRV coe RV.av loadEv loadCs takeAt indexAddrEv fieldAddrEv binEv intEv arith unEv gcond pickEv argsEv callVal callEv capAV_mk lenArgs lenEv minEv extractEv convEv funcEv allBox bound sliceEv lookupEv TD.isBool allocEv boxEv storeEv spl plainTD appendEv appendArgs makeMapEv mapUpdateEv buildEv buildSliceEv fillSV zsvOf sizeTD Ty.parses parses_flats' coeA flats_length AV.good AV.cells AV.pure SV.pure av_int av_bool av_str av_slice av_cons av_fld0 av_fld1 av_fld2 av_fld3 av_fld4 Ty.of Ty.dflt Ty.parse Ty.flat Ty.zsv Ty.fld Ty.get Ty.off Ty.nfld Ty.size coeTy junk Blk.look argEnv resEv resOk resVs oneRV retOk frzAs frzAV frzL frzSV boxCaps boxCap SV.sig sigs RV.scalar AV.scalar SV.scalar nope effVCD_eq effOf SV.ids AV.ids dedup SV.ren AV.ren RV.ren idx outId mergeB Blk.pureB flats_pure flat_pure epsSlotsD_nil epsSlotsD_cons epsSlotD_eq allEp D.parts_fnOf fvParts retEff round_E av_fn G.ye isCutD_nil isCutD_cons firstReg_region firstReg_seq firstReg_skip firstReg_ret firstReg_label firstReg_exit firstReg_goto firstReg_cond firstReg_block firstReg_scope firstReg_loop firstReg_rf eptrOf_mk flOfD_nil flOfD_cons vcFlD_cons vcFlD_nil flPairs_nil flPairs_cons vcFrD_nil vcFrD_cons makeSliceEv vcCondD_ib fzEv unfl_flats isFz round_fz panVCD_eq panOf isShift strIdxEv ifaceEv nilChkEv sliceAnyEv sliceOwnEv sliceSufEv appendEv0 appendEv1 Ty.beq Ty.isAgg round_Pn vcDefD_seqR vcDefD_seqS vcDefD_seqC vcDefD_seqB vcDefD_seqL vcDefD_seqF vcDefD_seqSc vcDefD_region vcDefD_ret vcDefD_cond vcDefD_block vcDefD_loop thenKD_panic inBlockKD_panic noGotoKD_panic exitOk_normal exitOk_ret exitOk_panic exitOk_exit runDefs_none runDefs_some runDefs_cons defRegD isDefer defOf caughtCon unfl_cons D.bpart_bndOf D.parts_bndOf AV.sig
attribute [local simp ←] flats_append
noncomputable def nr16Γ : List (FuncId × Con) := (176, conChk) :: (181, conBigN) :: (180, conDiv) :: (199, conTimes) :: nr15Γ
theorem nr16Γ_ok : ∀ p ∈ nr16Γ, (∀ (args : Array Value) (w : World), (callFunc p.1 args).run Tryz.prog w = .ok (.enter p.1 args) w) ∧ PureOk Tryz.prog p.1 p.2 := by
 simp only [nr16Γ, List.forall_mem_cons]
 exact ⟨⟨enters_of Tryz.func176 (by kernel_rfl) rfl, nchk_ok⟩, ⟨enters_of Tryz.func181 (by kernel_rfl) rfl, nbig_ok⟩, ⟨enters_of Tryz.func180 (by kernel_rfl) rfl, ndiv_ok⟩, ⟨enters_of Tryz.func199 (by kernel_rfl) rfl, nmul_ok⟩, nr15Γ_ok⟩
noncomputable def nr16E : List (FuncId × ECon) := nr15E
theorem nr16E_ok : ∀ p ∈ nr16E, (∀ (args : Array Value) (w : World), (callFunc p.1 args).run Tryz.prog w = .ok (.enter p.1 args) w) ∧ EffOk Tryz.prog p.1 p.2 := by
 simp only [nr16E]
 exact nr15E_ok
noncomputable def nr16P : List (FuncId × PCon) := nr15P
theorem nr16P_ok : ∀ p ∈ nr16P, (∀ (args : Array Value) (w : World), (callFunc p.1 args).run Tryz.prog w = .ok (.enter p.1 args) w) ∧ PanOk Tryz.prog p.1 p.2 := by
 simp only [nr16P]
 exact nr15P_ok
noncomputable def nr16 : G := { τ := nrT, Γ := nr16Γ, E := nr16E, Pn := nr16P }
theorem nr16_good : nr16.good Tryz.prog := good_of_all (nrT_ok _ rfl) nr16Γ_ok nr16E_ok nr16P_ok
theorem nr16_all : (∀ t, nr16.td t = (look nrT t).getD .other) ∧ nr16.y = false ∧ nr16.Γ = nr16Γ ∧ nr16.E = nr16E ∧ nr16.Pn = nr16P ∧ nr16.fz = [] := ⟨fun _ => rfl, rfl, rfl, rfl, rfl, rfl⟩
noncomputable def conGcdN : Con := ⟨fun args => (match args with
 | [.agg [.bool n1, .sl (.int .i64) m1 _], .agg [.bool n2, .sl (.int .i64) m2 _]] => okBig n1 m1 ∧ okBig n2 m2
 | _ => False), fun args => match args with
 | [.agg [.bool n1, .sl (.int .i64) m1 _], .agg [.bool n2, .sl (.int .i64) m2 _]] => .tup [.agg [.bool false, .sl tI (dig (Nat.gcd (vl m1) (vl m2))) false], aI 0]
 | _ => .v (.s .any)⟩
theorem conGcdN_eq (n1 : Bool) (m1 : List (Ty.T tI)) (exm1 : Bool) (n2 : Bool) (m2 : List (Ty.T tI)) (exm2 : Bool) : conGcdN.pre [.agg [.bool n1, .sl tI m1 exm1], .agg [.bool n2, .sl tI m2 exm2]] = (okBig n1 m1 ∧ okBig n2 m2) ∧ conGcdN.val [.agg [.bool n1, .sl tI m1 exm1], .agg [.bool n2, .sl tI m2 exm2]] = .tup [.agg [.bool false, .sl tI (dig (Nat.gcd (vl m1) (vl m2))) false], aI 0] := ⟨rfl, rfl⟩
theorem gcdn_ok : PureOk Tryz.prog 146 conGcdN := by
 refine pureDefD (L := { live := [0, 1, 2, 3, 4, 5, 6, 7, 9, 20] }) nr16_good rfl nr_mixed (dl_cons ⟨enters_of Tryz.func175 (by kernel_rfl) rfl, caught_ok natCaught⟩ dl_nil) Tryz.func146 rfl conGcdN 2 (by decide) (by kernel_rfl) ?_
 intro args hpre hlens
 simp only [conGcdN] at hpre
 split at hpre
 case h_2 => exact hpre.elim
 rename_i n1 m1 e1 n2 m2 e2
 simp only [allLen, AV.lenOk, SV.lenOk, Ty.lenOk, maxLen, and_true, implies_true, true_and, List.forall_mem_cons, List.not_mem_nil, false_implies] at hlens
 refine ⟨rfl, ?_⟩
 simp -dsimp -implicitDefEqProofs [Tryz.f146, conGcdN_eq, nr16_all, nrT, nr16Γ, nr16E, nr16P, nr15Γ, nr15E, nr15P, nr14Γ, nr14E, nr14P, nr13Γ, nr13E, nr13P, nr9Γ, nr9E, nr9P, nr8Γ, nr8E, nr8P, nr7Γ, nr7E, nr7P, nr6Γ, nr6E, nr6P, nr5Γ, nr5E, nr5P, nr4Γ, nr4E, nr4P, nr3Γ, nr3E, nr3P, nr0Γ, nr0E, nr0P, conChk_eq, conBigN_eq, conDiv_eq, conTimes_eq, conNCheck_eq, conLong_eq, conLead64_eq, conShort_eq, conMovE, conTrim_eq, conAt_eq, conNCmp_eq, conBack_eq, conOf9_eq, conDivide_eq, conLess9_eq, conTwo_eq, conRCheck_eq, conRCmpD_eq, inI64]
 obtain ⟨m1, rfl⟩ : ∃ y : List Int, y = m1 := ⟨m1, rfl⟩; obtain ⟨m2, rfl⟩ : ∃ y : List Int, y = m2 := ⟨m2, rfl⟩
 obtain ⟨h1, h2⟩ := hpre
 refine ⟨⟨h1, h2⟩, ?_⟩
 refine WpD.loop (L := { live := [0, 1, 2, 3, 4, 5, 6, 7, 9, 20] }) nr16_good X0_ok nr_mixed (by kernel_rfl)
  (fun p : TwoL => ⟨[(4, ⟨true, .v (.s (.box 2 0))⟩), (5, ⟨true, .v (.s (.box 3 0))⟩), (6, vS tI p.x p.ex), (7, vS tI p.y p.ey)], [.cells [.bool n1, .sl tI m1 e1], .cells [.bool n2, .sl tI m2 e2], .cells [.bool false, .sl tI [] true], .cells [.int .i64 0]]⟩)
  (fun p => canon p.x ∧ canon p.y ∧ p.x.length ≤ 2048 ∧ p.y.length ≤ 2048 ∧ Nat.gcd (vl p.x) (vl p.y) = Nat.gcd (vl m1) (vl m2)) (fun p => vl p.y) ⟨m1, e1, m2, e2⟩ ⟨h1.1, h2.1, h1.2.1, h2.2.1, rfl⟩ (Turn.le (by simp -dsimp -implicitDefEqProofs)) ?_
 rintro ⟨x, ex, y, ey⟩ ⟨hx, hy, hxl, hyl, hg⟩
 simp only at hx hy hxl hyl hg
 rcases Nat.eq_zero_or_pos y.length with h0 | h0
 ·
  obtain rfl := List.length_eq_zero_iff.1 h0
  have hv : vl x = Nat.gcd (vl m1) (vl m2) := by rw [← hg]; simp [vl]
  simp -dsimp -implicitDefEqProofs [conGcdN_eq, trim_canon hx, nr16_all, nrT, nr16Γ, nr16E, nr16P, nr15Γ, nr15E, nr15P, nr14Γ, nr14E, nr14P, nr13Γ, nr13E, nr13P, nr9Γ, nr9E, nr9P, nr8Γ, nr8E, nr8P, nr7Γ, nr7E, nr7P, nr6Γ, nr6E, nr6P, nr5Γ, nr5E, nr5P, nr4Γ, nr4E, nr4P, nr3Γ, nr3E, nr3P, nr0Γ, nr0E, nr0P, conChk_eq, conBigN_eq, conDiv_eq, conTimes_eq, conNCheck_eq, conLong_eq, conLead64_eq, conShort_eq, conMovE, conTrim_eq, conAt_eq, conNCmp_eq, conBack_eq, conOf9_eq, conDivide_eq, conLess9_eq, conTwo_eq, conRCheck_eq, conRCmpD_eq, inI64]
  rw [← hv, canon_eq hx]
  exact ⟨hxl, rfl⟩
 ·
  have hvp := (vl_pos hy).2 h0
  simp -dsimp -implicitDefEqProofs [conGcdN_eq, nr16_all, nrT, nr16Γ, nr16E, nr16P, nr15Γ, nr15E, nr15P, nr14Γ, nr14E, nr14P, nr13Γ, nr13E, nr13P, nr9Γ, nr9E, nr9P, nr8Γ, nr8E, nr8P, nr7Γ, nr7E, nr7P, nr6Γ, nr6E, nr6P, nr5Γ, nr5E, nr5P, nr4Γ, nr4E, nr4P, nr3Γ, nr3E, nr3P, nr0Γ, nr0E, nr0P, conChk_eq, conBigN_eq, conDiv_eq, conTimes_eq, conNCheck_eq, conLong_eq, conLead64_eq, conShort_eq, conMovE, conTrim_eq, conAt_eq, conNCmp_eq, conBack_eq, conOf9_eq, conDivide_eq, conLess9_eq, conTwo_eq, conRCheck_eq, conRCmpD_eq, inI64]
  refine ⟨fun _ => ⟨⟨hx, hy, h0, hxl, hyl⟩, ⟨y, ey, dig (vl x % vl y), false⟩, ⟨hy, canon_dig _, hyl, ?_, ?_⟩, ?_, TurnT.le (by simp -dsimp -implicitDefEqProofs)⟩, fun h => absurd h (by intro he; rw [he] at h0; exact absurd h0 (by decide))⟩
  ·
   show (dig _).length ≤ 2048
   exact dig_le (Nat.lt_trans (Nat.mod_lt _ hvp) (vl_lt hy.1)) hyl
  ·
   show Nat.gcd (vl y) (vl (dig _)) = _
   rw [vl_dig, ← hg, Nat.gcd_comm (vl y), ← Nat.gcd_rec, Nat.gcd_comm]
  ·
   show vl (dig _) < vl y
   rw [vl_dig]; exact Nat.mod_lt _ hvp
noncomputable def conMulN : Con := ⟨fun args => (match args with
 | [.agg [.bool n1, .sl (.int .i64) m1 _], .agg [.bool n2, .sl (.int .i64) m2 _]] => okBig n1 m1 ∧ okBig n2 m2 ∧ m1.length + m2.length ≤ 2048
 | _ => False), fun args => match args with
 | [.agg [.bool n1, .sl (.int .i64) m1 _], .agg [.bool n2, .sl (.int .i64) m2 _]] => .tup [.agg [.bool ((n1 != n2) && decide (dig (vl m1 * vl m2) ≠ [])), .sl tI (dig (vl m1 * vl m2)) false], aI 0]
 | _ => .v (.s .any)⟩
theorem conMulN_eq (n1 : Bool) (m1 : List (Ty.T tI)) (exm1 : Bool) (n2 : Bool) (m2 : List (Ty.T tI)) (exm2 : Bool) : conMulN.pre [.agg [.bool n1, .sl tI m1 exm1], .agg [.bool n2, .sl tI m2 exm2]] = (okBig n1 m1 ∧ okBig n2 m2 ∧ m1.length + m2.length ≤ 2048) ∧ conMulN.val [.agg [.bool n1, .sl tI m1 exm1], .agg [.bool n2, .sl tI m2 exm2]] = .tup [.agg [.bool ((n1 != n2) && decide (dig (vl m1 * vl m2) ≠ [])), .sl tI (dig (vl m1 * vl m2)) false], aI 0] := ⟨rfl, rfl⟩
theorem muln_ok : PureOk Tryz.prog 174 conMulN := by
 refine pureDefD (L := { live := [0, 1, 2, 3, 4, 5] }) nr16_good rfl nr_mixed (dl_cons ⟨enters_of Tryz.func175 (by kernel_rfl) rfl, caught_ok natCaught⟩ dl_nil) Tryz.func174 rfl conMulN 2 (by decide) (by kernel_rfl) ?_
 intro args hpre hlens
 simp only [conMulN] at hpre
 split at hpre
 case h_2 => exact hpre.elim
 rename_i n1 m1 e1 n2 m2 e2
 simp only [allLen, AV.lenOk, SV.lenOk, Ty.lenOk, maxLen, and_true, implies_true, true_and, List.forall_mem_cons, List.not_mem_nil, false_implies] at hlens
 refine ⟨rfl, ?_⟩
 simp -dsimp -implicitDefEqProofs [Tryz.f174, conMulN_eq, nr16_all, nrT, nr16Γ, nr16E, nr16P, nr15Γ, nr15E, nr15P, nr14Γ, nr14E, nr14P, nr13Γ, nr13E, nr13P, nr9Γ, nr9E, nr9P, nr8Γ, nr8E, nr8P, nr7Γ, nr7E, nr7P, nr6Γ, nr6E, nr6P, nr5Γ, nr5E, nr5P, nr4Γ, nr4E, nr4P, nr3Γ, nr3E, nr3P, nr0Γ, nr0E, nr0P, conChk_eq, conBigN_eq, conDiv_eq, conTimes_eq, conNCheck_eq, conLong_eq, conLead64_eq, conShort_eq, conMovE, conTrim_eq, conAt_eq, conNCmp_eq, conBack_eq, conOf9_eq, conDivide_eq, conLess9_eq, conTwo_eq, conRCheck_eq, conRCmpD_eq, inI64]
 obtain ⟨m1, rfl⟩ : ∃ y : List Int, y = m1 := ⟨m1, rfl⟩; obtain ⟨m2, rfl⟩ : ∃ y : List Int, y = m2 := ⟨m2, rfl⟩
 obtain ⟨h1, h2, h3⟩ := hpre
 have hd : trimL (dig (vl m1 * vl m2)) = dig (vl m1 * vl m2) := trim_canon (canon_dig _)
 rw [hd]
 refine ⟨⟨h1, h2⟩, ⟨h1.1.1, h2.1.1, h1.2.1, h2.2.1⟩, ?_, rfl, rfl⟩
 have e1 := vl_lt h1.1.1
 have e2 := vl_lt h2.1.1
 have e3 : vl m1 * vl m2 < 1073741824 ^ m1.length * 1073741824 ^ m2.length := Nat.mul_lt_mul'' e1 e2
 rw [← Nat.pow_add] at e3
 exact dig_le e3 h3
noncomputable def conCmpN2 : Con := ⟨fun args => (match args with
 | [.agg [.bool n1, .sl (.int .i64) m1 _], .agg [.bool n2, .sl (.int .i64) m2 _]] => okBig n1 m1 ∧ okBig n2 m2
 | _ => False), fun args => match args with
 | [.agg [.bool n1, .sl (.int .i64) m1 _], .agg [.bool n2, .sl (.int .i64) m2 _]] => .tup [aI (cmpZ (sgn n1 m1) (sgn n2 m2)), aI 0]
 | _ => .v (.s .any)⟩
theorem conCmpN2_eq (n1 : Bool) (m1 : List (Ty.T tI)) (exm1 : Bool) (n2 : Bool) (m2 : List (Ty.T tI)) (exm2 : Bool) : conCmpN2.pre [.agg [.bool n1, .sl tI m1 exm1], .agg [.bool n2, .sl tI m2 exm2]] = (okBig n1 m1 ∧ okBig n2 m2) ∧ conCmpN2.val [.agg [.bool n1, .sl tI m1 exm1], .agg [.bool n2, .sl tI m2 exm2]] = .tup [aI (cmpZ (sgn n1 m1) (sgn n2 m2)), aI 0] := ⟨rfl, rfl⟩
theorem cmpn_ok : PureOk Tryz.prog 143 conCmpN2 := by
 refine pureDefD (L := { live := [0, 1, 2, 3, 4, 5, 10, 22, 25] }) nr16_good rfl nr_mixed (dl_cons ⟨enters_of Tryz.func175 (by kernel_rfl) rfl, caught_ok natCaught⟩ dl_nil) Tryz.func143 rfl conCmpN2 2 (by decide) (by kernel_rfl) ?_
 intro args hpre hlens
 simp only [conCmpN2] at hpre
 split at hpre
 case h_2 => exact hpre.elim
 rename_i n1 m1 e1 n2 m2 e2
 simp only [allLen, AV.lenOk, SV.lenOk, Ty.lenOk, maxLen, and_true, implies_true, true_and, List.forall_mem_cons, List.not_mem_nil, false_implies] at hlens
 refine ⟨rfl, ?_⟩
 simp -dsimp -implicitDefEqProofs [Tryz.f143, conCmpN2_eq, nr16_all, nrT, nr16Γ, nr16E, nr16P, nr15Γ, nr15E, nr15P, nr14Γ, nr14E, nr14P, nr13Γ, nr13E, nr13P, nr9Γ, nr9E, nr9P, nr8Γ, nr8E, nr8P, nr7Γ, nr7E, nr7P, nr6Γ, nr6E, nr6P, nr5Γ, nr5E, nr5P, nr4Γ, nr4E, nr4P, nr3Γ, nr3E, nr3P, nr0Γ, nr0E, nr0P, conChk_eq, conBigN_eq, conDiv_eq, conTimes_eq, conNCheck_eq, conLong_eq, conLead64_eq, conShort_eq, conMovE, conTrim_eq, conAt_eq, conNCmp_eq, conBack_eq, conOf9_eq, conDivide_eq, conLess9_eq, conTwo_eq, conRCheck_eq, conRCmpD_eq, inI64]
 obtain ⟨m1, rfl⟩ : ∃ y : List Int, y = m1 := ⟨m1, rfl⟩; obtain ⟨m2, rfl⟩ : ∃ y : List Int, y = m2 := ⟨m2, rfl⟩
 obtain ⟨h1, h2⟩ := hpre
 have hp1 : n1 = true → 0 < vl m1 := fun e => (vl_pos h1.1).2 (List.length_pos_iff.2 (h1.2.2 e))
 have hp2 : n2 = true → 0 < vl m2 := fun e => (vl_pos h2.1).2 (List.length_pos_iff.2 (h2.2.2 e))
 refine ⟨⟨h1, h2⟩, fun a b => ⟨⟨h2.1, h1.1⟩, ?_⟩, fun h => ⟨fun a => ?_, fun a => ⟨fun b => ?_, fun b => ⟨⟨h1.1, h2.1⟩, ?_⟩⟩⟩⟩
 ·
  subst a b
  rw [sgn_true, sgn_true, cmpZ_neg, cmpZ_nat]
 ·
  obtain rfl := h a
  subst a
  have := hp1 rfl
  rw [sgn_true, sgn_false, cmpZ_lt (by omega)]
 ·
  subst a b
  have := hp2 rfl
  rw [sgn_true, sgn_false, cmpZ_gt (by omega)]
 ·
  subst a b
  rw [sgn_false, sgn_false, cmpZ_nat]
abbrev tRat : Ty := .cons tBig (.cons tBig .nil)
def okRat (n1 : Bool) (m1 : List Int) (n2 : Bool) (m2 : List Int) : Prop := okBig n1 m1 ∧ okBig n2 m2 ∧ n2 = false ∧ m2 ≠ [] ∧ Nat.gcd (vl m1) (vl m2) = 1
def okR (x : tRat.T) : Prop := okRat x.1.1 x.1.2.1 x.2.1.1 x.2.1.2.1
noncomputable instance (n1 : Bool) (m1 : List Int) (n2 : Bool) (m2 : List Int) : Decidable (okRat n1 m1 n2 m2) := Classical.propDecidable _
noncomputable def ratErr (n1 : Bool) (m1 : List Int) (n2 : Bool) (m2 : List Int) : Int := if okRat n1 m1 n2 m2 then 0 else 100
theorem ratErr_0 {n1 : Bool} {m1 : List Int} {n2 : Bool} {m2 : List Int} : ratErr n1 m1 n2 m2 = 0 ↔ okRat n1 m1 n2 m2 := by
 unfold ratErr
 split <;> simp_all
noncomputable def nr17Γ : List (FuncId × Con) := (146, conGcdN) :: (174, conMulN) :: (143, conCmpN2) :: (145, conPosi) :: nr16Γ
theorem nr17Γ_ok : ∀ p ∈ nr17Γ, (∀ (args : Array Value) (w : World), (callFunc p.1 args).run Tryz.prog w = .ok (.enter p.1 args) w) ∧ PureOk Tryz.prog p.1 p.2 := by
 simp only [nr17Γ, List.forall_mem_cons]
 exact ⟨⟨enters_of Tryz.func146 (by kernel_rfl) rfl, gcdn_ok⟩, ⟨enters_of Tryz.func174 (by kernel_rfl) rfl, muln_ok⟩, ⟨enters_of Tryz.func143 (by kernel_rfl) rfl, cmpn_ok⟩, ⟨enters_of Tryz.func145 (by kernel_rfl) rfl, posi_ok⟩, nr16Γ_ok⟩
noncomputable def nr17E : List (FuncId × ECon) := nr16E
theorem nr17E_ok : ∀ p ∈ nr17E, (∀ (args : Array Value) (w : World), (callFunc p.1 args).run Tryz.prog w = .ok (.enter p.1 args) w) ∧ EffOk Tryz.prog p.1 p.2 := by
 simp only [nr17E]
 exact nr16E_ok
noncomputable def nr17P : List (FuncId × PCon) := nr16P
theorem nr17P_ok : ∀ p ∈ nr17P, (∀ (args : Array Value) (w : World), (callFunc p.1 args).run Tryz.prog w = .ok (.enter p.1 args) w) ∧ PanOk Tryz.prog p.1 p.2 := by
 simp only [nr17P]
 exact nr16P_ok
noncomputable def nr17 : G := { τ := nrT, Γ := nr17Γ, E := nr17E, Pn := nr17P }
theorem nr17_good : nr17.good Tryz.prog := good_of_all (nrT_ok _ rfl) nr17Γ_ok nr17E_ok nr17P_ok
theorem nr17_all : (∀ t, nr17.td t = (look nrT t).getD .other) ∧ nr17.y = false ∧ nr17.Γ = nr17Γ ∧ nr17.E = nr17E ∧ nr17.Pn = nr17P ∧ nr17.fz = [] := ⟨fun _ => rfl, rfl, rfl, rfl, rfl, rfl⟩
noncomputable def conRatC : Con := ⟨fun args => (match args with
 | [.agg [.bool n1, .sl (.int .i64) m1 _, .bool n2, .sl (.int .i64) m2 _]] => True
 | _ => False), fun args => match args with
 | [.agg [.bool n1, .sl (.int .i64) m1 _, .bool n2, .sl (.int .i64) m2 _]] => .v (aI (ratErr n1 m1 n2 m2))
 | _ => .v (.s .any)⟩
theorem conRatC_eq (n1 : Bool) (m1 : List (Ty.T tI)) (exm1 : Bool) (n2 : Bool) (m2 : List (Ty.T tI)) (exm2 : Bool) : conRatC.pre [.agg [.bool n1, .sl tI m1 exm1, .bool n2, .sl tI m2 exm2]] = (True) ∧ conRatC.val [.agg [.bool n1, .sl tI m1 exm1, .bool n2, .sl tI m2 exm2]] = .v (aI (ratErr n1 m1 n2 m2)) := ⟨rfl, rfl⟩
theorem ratc_ok : PureOk Tryz.prog 112 conRatC := by
 refine pureOkD (L := { live := [0, 1, 2, 3, 20, 39] }) nr17_good rfl nr_mixed Tryz.func112 rfl conRatC 1 (by decide) (by kernel_rfl) ?_
 intro args hpre hlens
 simp only [conRatC] at hpre
 split at hpre
 case h_2 => exact hpre.elim
 rename_i n1 m1 e1 n2 m2 e2
 simp only [allLen, AV.lenOk, SV.lenOk, Ty.lenOk, maxLen, and_true, implies_true, true_and, List.forall_mem_cons, List.not_mem_nil, false_implies] at hlens
 refine ⟨rfl, ?_⟩
 simp -dsimp -implicitDefEqProofs [Tryz.f112, conRatC_eq, nr17_all, nrT, nr17Γ, nr17E, nr17P, nr16Γ, nr16E, nr16P, nr15Γ, nr15E, nr15P, nr14Γ, nr14E, nr14P, nr13Γ, nr13E, nr13P, nr9Γ, nr9E, nr9P, nr8Γ, nr8E, nr8P, nr7Γ, nr7E, nr7P, nr6Γ, nr6E, nr6P, nr5Γ, nr5E, nr5P, nr4Γ, nr4E, nr4P, nr3Γ, nr3E, nr3P, nr0Γ, nr0E, nr0P, conGcdN_eq, conMulN_eq, conCmpN2_eq, conPosi_eq, conChk_eq, conBigN_eq, conDiv_eq, conTimes_eq, conNCheck_eq, conLong_eq, conLead64_eq, conShort_eq, conMovE, conTrim_eq, conAt_eq, conNCmp_eq, conBack_eq, conOf9_eq, conDivide_eq, conLess9_eq, conTwo_eq, conRCheck_eq, conRCmpD_eq, inI64]
 obtain ⟨m1, rfl⟩ : ∃ y : List Int, y = m1 := ⟨m1, rfl⟩; obtain ⟨m2, rfl⟩ : ∃ y : List Int, y = m2 := ⟨m2, rfl⟩
 have hok : okRat n1 m1 n2 m2 ↔ (natErr n1 m1 = 0 ∧ natErr n2 m2 = 0 ∧ n2 = false ∧ m2 ≠ [] ∧ Nat.gcd (vl m1) (vl m2) = 1) := by
  rw [natErr_0, natErr_0]; rfl
 refine ⟨fun h => ?_, fun h1 h2 h3 h4 => ⟨⟨natErr_0.1 h1, natErr_0.1 h2⟩, fun h => ⟨h, by omega⟩, fun h => ?_, fun h5 h6 => ?_⟩⟩
 ·
  unfold ratErr
  rw [if_neg]
  rw [hok]
  rintro ⟨q1, q2, q3, q4, _⟩
  rcases h with h | h | h
  ·
   rcases h with h | h
   ·
    exact h q1
   ·
    exact h q2
  ·
   rw [h] at q3; cases q3
  ·
   exact q4 h
 ·
  unfold ratErr
  rw [if_neg]
  rw [hok]
  rintro ⟨_, _, _, _, q⟩
  rw [q, dig_one] at h
  rcases h with h | h
  ·
   exact h rfl
  ·
   exact h rfl
 ·
  unfold ratErr
  rw [if_pos]
  rw [hok]
  refine ⟨h1, h2, h3, h4, ?_⟩
  have hv := vl_dig (Nat.gcd (vl m1) (vl m2))
  generalize dig (Nat.gcd (vl m1) (vl m2)) = d at *
  obtain ⟨x, rfl⟩ := List.length_eq_one_iff.1 (show d.length = 1 by omega)
  have h6 : x = 1 := h6
  rw [← hv, vl_one, h6]
  rfl
noncomputable def conNeed : Con := ⟨fun args => (match args with
 | [.s (.bool ok), .s (.int .i64 e)] => ok = true
 | _ => False), fun args => match args with
 | [.s (.bool ok), .s (.int _ e)] => .tup []
 | _ => .v (.s .any)⟩
theorem conNeed_eq (ok : Bool) (e : Int) : conNeed.pre [.s (.bool ok), .s (.int .i64 e)] = (ok = true) ∧ conNeed.val [.s (.bool ok), .s (.int .i64 e)] = .tup [] := ⟨rfl, rfl⟩
theorem need_ok : PureOk Tryz.prog 172 conNeed := by
 refine pureOkD (L := { live := [0, 1, 5], fin := [(1, [])] }) nr0_good rfl nr_mixed Tryz.func172 rfl conNeed 2 (by decide) (by kernel_rfl) ?_
 intro args hpre hlens
 simp only [conNeed] at hpre
 split at hpre
 case h_2 => exact hpre.elim
 rename_i ok e
 simp only [allLen, AV.lenOk, SV.lenOk, Ty.lenOk, maxLen, and_true, implies_true, true_and, List.forall_mem_cons, List.not_mem_nil, false_implies] at hlens
 refine ⟨rfl, ?_⟩
 simp -dsimp -implicitDefEqProofs [Tryz.f172, conNeed_eq, nr0_all, nrT, nr0Γ, nr0E, nr0P, inI64]
 exact hpre
noncomputable def panNeed : PCon := ⟨fun args => (match args with
 | [.s (.bool ok), .s (.int .i64 e)] => ok = false
 | _ => False), fun args => match args with
 | [.s (.bool ok), .s (.int _ e)] => .iface 27 (.int .i64 e)
 | _ => undef⟩
theorem panNeed_when (ok : Bool) (e : Int) : panNeed.when [.s (.bool ok), .s (.int .i64 e)] = (ok = false) := rfl
theorem panNeed_what (ok : Bool) (e : Int) : panNeed.what [.s (.bool ok), .s (.int .i64 e)] = .iface 27 (.int .i64 e) := rfl
theorem needp_ok : PanOk Tryz.prog 172 panNeed := by
 refine panDefD (L := { live := [0, 1, 5], fin := [(1, [])] }) nr0_good rfl nr_mixed dl_nil Tryz.func172 rfl panNeed 2 (by decide) (by kernel_rfl) ?_
 intro args hpre hlens
 simp only [panNeed] at hpre
 split at hpre
 case h_2 => exact hpre.elim
 rename_i ok e
 simp only [allLen, AV.lenOk, SV.lenOk, Ty.lenOk, maxLen, and_true, implies_true, true_and, List.forall_mem_cons, List.not_mem_nil, false_implies] at hlens
 refine ⟨rfl, ?_⟩
 simp -dsimp -implicitDefEqProofs [Tryz.f172, panNeed_what, nr0_all, nrT, nr0Γ, nr0E, nr0P, inI64]
 exact hpre
noncomputable def nr18Γ : List (FuncId × Con) := (112, conRatC) :: (172, conNeed) :: nr17Γ
theorem nr18Γ_ok : ∀ p ∈ nr18Γ, (∀ (args : Array Value) (w : World), (callFunc p.1 args).run Tryz.prog w = .ok (.enter p.1 args) w) ∧ PureOk Tryz.prog p.1 p.2 := by
 simp only [nr18Γ, List.forall_mem_cons]
 exact ⟨⟨enters_of Tryz.func112 (by kernel_rfl) rfl, ratc_ok⟩, ⟨enters_of Tryz.func172 (by kernel_rfl) rfl, need_ok⟩, nr17Γ_ok⟩
noncomputable def nr18E : List (FuncId × ECon) := nr17E
theorem nr18E_ok : ∀ p ∈ nr18E, (∀ (args : Array Value) (w : World), (callFunc p.1 args).run Tryz.prog w = .ok (.enter p.1 args) w) ∧ EffOk Tryz.prog p.1 p.2 := by
 simp only [nr18E]
 exact nr17E_ok
noncomputable def nr18P : List (FuncId × PCon) := (172, panNeed) :: nr17P
theorem nr18P_ok : ∀ p ∈ nr18P, (∀ (args : Array Value) (w : World), (callFunc p.1 args).run Tryz.prog w = .ok (.enter p.1 args) w) ∧ PanOk Tryz.prog p.1 p.2 := by
 simp only [nr18P, List.forall_mem_cons]
 exact ⟨⟨enters_of Tryz.func172 (by kernel_rfl) rfl, needp_ok⟩, nr17P_ok⟩
noncomputable def nr18 : G := { τ := nrT, Γ := nr18Γ, E := nr18E, Pn := nr18P }
theorem nr18_good : nr18.good Tryz.prog := good_of_all (nrT_ok _ rfl) nr18Γ_ok nr18E_ok nr18P_ok
theorem nr18_all : (∀ t, nr18.td t = (look nrT t).getD .other) ∧ nr18.y = false ∧ nr18.Γ = nr18Γ ∧ nr18.E = nr18E ∧ nr18.Pn = nr18P ∧ nr18.fz = [] := ⟨fun _ => rfl, rfl, rfl, rfl, rfl, rfl⟩
noncomputable def conDidB : Con := ⟨fun args => (match args with
 | [.agg [.bool n, .sl (.int .i64) m _], .s (.int .i64 e)] => e = 0
 | _ => False), fun args => match args with
 | [.agg [.bool n, .sl (.int .i64) m _], .s (.int _ e)] => .v (.agg [.bool n, .sl tI m false])
 | _ => .v (.s .any)⟩
theorem conDidB_eq (n : Bool) (m : List (Ty.T tI)) (exm : Bool) (e : Int) : conDidB.pre [.agg [.bool n, .sl tI m exm], .s (.int .i64 e)] = (e = 0) ∧ conDidB.val [.agg [.bool n, .sl tI m exm], .s (.int .i64 e)] = .v (.agg [.bool n, .sl tI m false]) := ⟨rfl, rfl⟩
theorem didb_ok : PureOk Tryz.prog 173 conDidB := by
 refine pureOkD (L := { live := [0, 1, 2, 4] }) nr18_good rfl nr_mixed Tryz.func173 rfl conDidB 2 (by decide) (by kernel_rfl) ?_
 intro args hpre hlens
 simp only [conDidB] at hpre
 split at hpre
 case h_2 => exact hpre.elim
 rename_i n m em e
 simp only [allLen, AV.lenOk, SV.lenOk, Ty.lenOk, maxLen, and_true, implies_true, true_and, List.forall_mem_cons, List.not_mem_nil, false_implies] at hlens
 refine ⟨rfl, ?_⟩
 simp -dsimp -implicitDefEqProofs [Tryz.f173, conDidB_eq, nr18_all, nrT, nr18Γ, nr18E, nr18P, nr17Γ, nr17E, nr17P, nr16Γ, nr16E, nr16P, nr15Γ, nr15E, nr15P, nr14Γ, nr14E, nr14P, nr13Γ, nr13E, nr13P, nr9Γ, nr9E, nr9P, nr8Γ, nr8E, nr8P, nr7Γ, nr7E, nr7P, nr6Γ, nr6E, nr6P, nr5Γ, nr5E, nr5P, nr4Γ, nr4E, nr4P, nr3Γ, nr3E, nr3P, nr0Γ, nr0E, nr0P, conRatC_eq, conNeed_eq, panNeed_when, panNeed_what, conGcdN_eq, conMulN_eq, conCmpN2_eq, conPosi_eq, conChk_eq, conBigN_eq, conDiv_eq, conTimes_eq, conNCheck_eq, conLong_eq, conLead64_eq, conShort_eq, conMovE, conTrim_eq, conAt_eq, conNCmp_eq, conBack_eq, conOf9_eq, conDivide_eq, conLess9_eq, conTwo_eq, conRCheck_eq, conRCmpD_eq, inI64]
 exact hpre
noncomputable def conDidI : Con := ⟨fun args => (match args with
 | [.s (.int .i64 x), .s (.int .i64 e)] => e = 0
 | _ => False), fun args => match args with
 | [.s (.int _ x), .s (.int _ e)] => .v (aI x)
 | _ => .v (.s .any)⟩
theorem conDidI_eq (x : Int) (e : Int) : conDidI.pre [.s (.int .i64 x), .s (.int .i64 e)] = (e = 0) ∧ conDidI.val [.s (.int .i64 x), .s (.int .i64 e)] = .v (aI x) := ⟨rfl, rfl⟩
theorem didi_ok : PureOk Tryz.prog 142 conDidI := by
 refine pureOkD (L := { live := [0, 1, 4] }) nr18_good rfl nr_mixed Tryz.func142 rfl conDidI 2 (by decide) (by kernel_rfl) ?_
 intro args hpre hlens
 simp only [conDidI] at hpre
 split at hpre
 case h_2 => exact hpre.elim
 rename_i x e
 simp only [allLen, AV.lenOk, SV.lenOk, Ty.lenOk, maxLen, and_true, implies_true, true_and, List.forall_mem_cons, List.not_mem_nil, false_implies] at hlens
 refine ⟨rfl, ?_⟩
 simp -dsimp -implicitDefEqProofs [Tryz.f142, conDidI_eq, nr18_all, nrT, nr18Γ, nr18E, nr18P, nr17Γ, nr17E, nr17P, nr16Γ, nr16E, nr16P, nr15Γ, nr15E, nr15P, nr14Γ, nr14E, nr14P, nr13Γ, nr13E, nr13P, nr9Γ, nr9E, nr9P, nr8Γ, nr8E, nr8P, nr7Γ, nr7E, nr7P, nr6Γ, nr6E, nr6P, nr5Γ, nr5E, nr5P, nr4Γ, nr4E, nr4P, nr3Γ, nr3E, nr3P, nr0Γ, nr0E, nr0P, conRatC_eq, conNeed_eq, panNeed_when, panNeed_what, conGcdN_eq, conMulN_eq, conCmpN2_eq, conPosi_eq, conChk_eq, conBigN_eq, conDiv_eq, conTimes_eq, conNCheck_eq, conLong_eq, conLead64_eq, conShort_eq, conMovE, conTrim_eq, conAt_eq, conNCmp_eq, conBack_eq, conOf9_eq, conDivide_eq, conLess9_eq, conTwo_eq, conRCheck_eq, conRCmpD_eq, inI64]
 exact hpre
noncomputable def conValid : Con := ⟨fun args => (match args with
 | [.s (.sl (.cons (.cons .bool (.cons (.slice (.int .i64)) .nil)) (.cons (.cons .bool (.cons (.slice (.int .i64)) .nil)) .nil)) l _)] => ∀ x ∈ l, okR x
 | _ => False), fun args => match args with
 | [.s (.sl (.cons (.cons .bool (.cons (.slice (.int .i64)) .nil)) (.cons (.cons .bool (.cons (.slice (.int .i64)) .nil)) .nil)) l _)] => .tup []
 | _ => .v (.s .any)⟩
theorem conValid_eq (l : List (Ty.T tRat)) (exl : Bool) : conValid.pre [.s (.sl tRat l exl)] = (∀ x ∈ l, okR x) ∧ conValid.val [.s (.sl tRat l exl)] = .tup [] := ⟨rfl, rfl⟩
theorem valid_ok : PureOk Tryz.prog 140 conValid := by
 refine pureOkD (L := { live := [0, 3, 4, 5, 6, 7] }) nr18_good rfl nr_mixed Tryz.func140 rfl conValid 1 (by decide) (by kernel_rfl) ?_
 intro args hpre hlens
 simp only [conValid] at hpre
 split at hpre
 case h_2 => exact hpre.elim
 rename_i l el
 simp only [allLen, AV.lenOk, SV.lenOk, Ty.lenOk, maxLen, and_true, implies_true, true_and, List.forall_mem_cons, List.not_mem_nil, false_implies] at hlens
 refine ⟨rfl, ?_⟩
 simp -dsimp -implicitDefEqProofs [Tryz.f140, conValid_eq, nr18_all, nrT, nr18Γ, nr18E, nr18P, nr17Γ, nr17E, nr17P, nr16Γ, nr16E, nr16P, nr15Γ, nr15E, nr15P, nr14Γ, nr14E, nr14P, nr13Γ, nr13E, nr13P, nr9Γ, nr9E, nr9P, nr8Γ, nr8E, nr8P, nr7Γ, nr7E, nr7P, nr6Γ, nr6E, nr6P, nr5Γ, nr5E, nr5P, nr4Γ, nr4E, nr4P, nr3Γ, nr3E, nr3P, nr0Γ, nr0E, nr0P, conRatC_eq, conNeed_eq, panNeed_when, panNeed_what, conGcdN_eq, conMulN_eq, conCmpN2_eq, conPosi_eq, conChk_eq, conBigN_eq, conDiv_eq, conTimes_eq, conNCheck_eq, conLong_eq, conLead64_eq, conShort_eq, conMovE, conTrim_eq, conAt_eq, conNCmp_eq, conBack_eq, conOf9_eq, conDivide_eq, conLess9_eq, conTwo_eq, conRCheck_eq, conRCmpD_eq, inI64]
 refine WpD.loop (L := { live := [0, 3, 4, 5, 6, 7] }) nr18_good X0_ok nr_mixed (by kernel_rfl)
  (fun i : Nat => ⟨[(4, vS tRat l el), (5, vI l.length), (6, vI i)], []⟩)
  (fun i => i ≤ l.length) (fun i => l.length - i) 0 (Nat.zero_le _) (Turn.le (by simp -dsimp -implicitDefEqProofs)) ?_
 intro i hi
 rcases Nat.lt_or_ge i l.length with hil | hge
 ·
  have h0 : ratErr l[i].1.1 l[i].1.2.1 l[i].2.1.1 l[i].2.1.2.1 = 0 := ratErr_0.2 (hpre _ (List.getElem_mem hil))
  simp -dsimp -implicitDefEqProofs [conValid_eq, hil, h0, nr18_all, nrT, nr18Γ, nr18E, nr18P, nr17Γ, nr17E, nr17P, nr16Γ, nr16E, nr16P, nr15Γ, nr15E, nr15P, nr14Γ, nr14E, nr14P, nr13Γ, nr13E, nr13P, nr9Γ, nr9E, nr9P, nr8Γ, nr8E, nr8P, nr7Γ, nr7E, nr7P, nr6Γ, nr6E, nr6P, nr5Γ, nr5E, nr5P, nr4Γ, nr4E, nr4P, nr3Γ, nr3E, nr3P, nr0Γ, nr0E, nr0P, conRatC_eq, conNeed_eq, panNeed_when, panNeed_what, conGcdN_eq, conMulN_eq, conCmpN2_eq, conPosi_eq, conChk_eq, conBigN_eq, conDiv_eq, conTimes_eq, conNCheck_eq, conLong_eq, conLead64_eq, conShort_eq, conMovE, conTrim_eq, conAt_eq, conNCmp_eq, conBack_eq, conOf9_eq, conDivide_eq, conLess9_eq, conTwo_eq, conRCheck_eq, conRCmpD_eq, inI64]
  exact ⟨⟨by omega, by omega⟩, i + 1, by omega, by omega, TurnT.trunc X0_ok (hp := []) (junk := [_]) (by simp) (by simp only [List.length_cons, List.length_nil, List.all_cons, List.all_nil, arr_below, Bool.and_true] <;> simp [Blk.below, SV.below]) (by simp -dsimp -implicitDefEqProofs []) (by simp [envBelow, RV.below, AV.below, SV.below])⟩
 ·
  have hn : ¬ i < l.length := by omega
  simp -dsimp -implicitDefEqProofs [conValid_eq, hn, nr18_all, nrT, nr18Γ, nr18E, nr18P, nr17Γ, nr17E, nr17P, nr16Γ, nr16E, nr16P, nr15Γ, nr15E, nr15P, nr14Γ, nr14E, nr14P, nr13Γ, nr13E, nr13P, nr9Γ, nr9E, nr9P, nr8Γ, nr8E, nr8P, nr7Γ, nr7E, nr7P, nr6Γ, nr6E, nr6P, nr5Γ, nr5E, nr5P, nr4Γ, nr4E, nr4P, nr3Γ, nr3E, nr3P, nr0Γ, nr0E, nr0P, conRatC_eq, conNeed_eq, panNeed_when, panNeed_what, conGcdN_eq, conMulN_eq, conCmpN2_eq, conPosi_eq, conChk_eq, conBigN_eq, conDiv_eq, conTimes_eq, conNCheck_eq, conLong_eq, conLead64_eq, conShort_eq, conMovE, conTrim_eq, conAt_eq, conNCmp_eq, conBack_eq, conOf9_eq, conDivide_eq, conLess9_eq, conTwo_eq, conRCheck_eq, conRCmpD_eq, inI64]
noncomputable def panValid : PCon := ⟨fun args => (match args with
 | [.s (.sl (.cons (.cons .bool (.cons (.slice (.int .i64)) .nil)) (.cons (.cons .bool (.cons (.slice (.int .i64)) .nil)) .nil)) l _)] => ¬ ∀ x ∈ l, okR x
 | _ => False), fun args => match args with
 | [.s (.sl (.cons (.cons .bool (.cons (.slice (.int .i64)) .nil)) (.cons (.cons .bool (.cons (.slice (.int .i64)) .nil)) .nil)) l _)] => .iface 27 (.int .i64 100)
 | _ => undef⟩
theorem panValid_when (l : List (Ty.T tRat)) (exl : Bool) : panValid.when [.s (.sl tRat l exl)] = (¬ ∀ x ∈ l, okR x) := rfl
theorem panValid_what (l : List (Ty.T tRat)) (exl : Bool) : panValid.what [.s (.sl tRat l exl)] = .iface 27 (.int .i64 100) := rfl
theorem validp_ok : PanOk Tryz.prog 140 panValid := by
 refine panDefD (L := { live := [0, 3, 4, 5, 6, 7], fin := [(3, [])] }) nr18_good rfl nr_mixed dl_nil Tryz.func140 rfl panValid 1 (by decide) (by kernel_rfl) ?_
 intro args hpre hlens
 simp only [panValid] at hpre
 split at hpre
 case h_2 => exact hpre.elim
 rename_i l el
 simp only [allLen, AV.lenOk, SV.lenOk, Ty.lenOk, maxLen, and_true, implies_true, true_and, List.forall_mem_cons, List.not_mem_nil, false_implies] at hlens
 refine ⟨rfl, ?_⟩
 simp -dsimp -implicitDefEqProofs [Tryz.f140, panValid_what, nr18_all, nrT, nr18Γ, nr18E, nr18P, nr17Γ, nr17E, nr17P, nr16Γ, nr16E, nr16P, nr15Γ, nr15E, nr15P, nr14Γ, nr14E, nr14P, nr13Γ, nr13E, nr13P, nr9Γ, nr9E, nr9P, nr8Γ, nr8E, nr8P, nr7Γ, nr7E, nr7P, nr6Γ, nr6E, nr6P, nr5Γ, nr5E, nr5P, nr4Γ, nr4E, nr4P, nr3Γ, nr3E, nr3P, nr0Γ, nr0E, nr0P, conRatC_eq, conNeed_eq, panNeed_when, panNeed_what, conGcdN_eq, conMulN_eq, conCmpN2_eq, conPosi_eq, conChk_eq, conBigN_eq, conDiv_eq, conTimes_eq, conNCheck_eq, conLong_eq, conLead64_eq, conShort_eq, conMovE, conTrim_eq, conAt_eq, conNCmp_eq, conBack_eq, conOf9_eq, conDivide_eq, conLess9_eq, conTwo_eq, conRCheck_eq, conRCmpD_eq, inI64]
 refine WpD.loop (L := { live := [0, 3, 4, 5, 6, 7], fin := [(3, [])] }) nr18_good X0_ok nr_mixed (by kernel_rfl)
  (fun i : Nat => ⟨[(4, vS tRat l el), (5, vI l.length), (6, vI i)], []⟩)
  (fun i => i ≤ l.length ∧ ∀ j (h : j < l.length), j < i → okR l[j]) (fun i => l.length - i) 0 ⟨Nat.zero_le _, fun j _ h => absurd h (by omega)⟩ (Turn.le (by simp -dsimp -implicitDefEqProofs)) ?_
 rintro i ⟨hi, hj⟩
 rcases Nat.lt_or_ge i l.length with hil | hge
 ·
  have h0 : ratErr l[i].1.1 l[i].1.2.1 l[i].2.1.1 l[i].2.1.2.1 = 0 ↔ okR l[i] := ratErr_0
  simp -dsimp -implicitDefEqProofs [panValid_what, hil, h0, nr18_all, nrT, nr18Γ, nr18E, nr18P, nr17Γ, nr17E, nr17P, nr16Γ, nr16E, nr16P, nr15Γ, nr15E, nr15P, nr14Γ, nr14E, nr14P, nr13Γ, nr13E, nr13P, nr9Γ, nr9E, nr9P, nr8Γ, nr8E, nr8P, nr7Γ, nr7E, nr7P, nr6Γ, nr6E, nr6P, nr5Γ, nr5E, nr5P, nr4Γ, nr4E, nr4P, nr3Γ, nr3E, nr3P, nr0Γ, nr0E, nr0P, conRatC_eq, conNeed_eq, panNeed_when, panNeed_what, conGcdN_eq, conMulN_eq, conCmpN2_eq, conPosi_eq, conChk_eq, conBigN_eq, conDiv_eq, conTimes_eq, conNCheck_eq, conLong_eq, conLead64_eq, conShort_eq, conMovE, conTrim_eq, conAt_eq, conNCmp_eq, conBack_eq, conOf9_eq, conDivide_eq, conLess9_eq, conTwo_eq, conRCheck_eq, conRCmpD_eq, inI64]
  refine fun hok => ⟨hok, ⟨by omega, by omega⟩, i + 1, ⟨by omega, fun j h1 h2 => ?_⟩, by omega, TurnT.trunc X0_ok (hp := []) (junk := [_]) (by simp) (by simp only [List.length_cons, List.length_nil, List.all_cons, List.all_nil, arr_below, Bool.and_true] <;> simp [Blk.below, SV.below]) (by simp -dsimp -implicitDefEqProofs []) (by simp [envBelow, RV.below, AV.below, SV.below])⟩
  rcases Nat.lt_or_ge j i with h3 | h3
  ·
   exact hj j h1 h3
  ·
   obtain rfl : j = i := by omega
   exact hok
 ·
  refine absurd (fun x hx => ?_) hpre
  obtain ⟨j, hjl, rfl⟩ := List.mem_iff_getElem.1 hx
  exact hj j hjl (by omega)
def mulB (x y : tBig.T) : tBig.T := ((x.1 != y.1) && decide (dig (vl x.2.1 * vl y.2.1) ≠ []), dig (vl x.2.1 * vl y.2.1), ())
def mulOk (x y : tBig.T) : Prop := okB x ∧ okB y ∧ List.length x.2.1 + List.length y.2.1 ≤ 2048
def zB : tBig.T := (false, [], ())
def prodT (l : List tBig.T) (k : Nat) : List tBig.T := (List.range k).map fun k => mulB (l[2 * k]?.getD zB) (l[2 * k + 1]?.getD zB)
def prodL (l : List tBig.T) : List tBig.T := prodT l (l.length / 2)
theorem prodT_len (l : List tBig.T) (k : Nat) : (prodT l k).length = k := by simp [prodT]
theorem prodT_succ (l : List tBig.T) (k : Nat) : prodT l (k + 1) = prodT l k ++ [mulB (l[2 * k]?.getD zB) (l[2 * k + 1]?.getD zB)] := by simp [prodT, List.range_succ]
theorem prodL_four (a b c d : tBig.T) : prodL [a, b, c, d] = [mulB a b, mulB c d] := by simp [prodL, prodT, List.range_succ]
theorem okB_mulB {x y : tBig.T} (h : mulOk x y) : okB (mulB x y) := by
 obtain ⟨h1, h2, h3⟩ := h
 refine ⟨canon_dig _, ?_, fun e => ?_⟩
 ·
  show (dig _).length ≤ 2048
  have e3 : vl x.2.1 * vl y.2.1 < 1073741824 ^ (List.length x.2.1) * 1073741824 ^ (List.length y.2.1) := Nat.mul_lt_mul'' (vl_lt h1.1.1) (vl_lt h2.1.1)
  rw [← Nat.pow_add] at e3
  exact dig_le e3 h3
 ·
  simp only [mulB, Bool.and_eq_true, decide_eq_true_eq] at e
  exact e.2
noncomputable def nr19Γ : List (FuncId × Con) := (173, conDidB) :: (142, conDidI) :: (140, conValid) :: nr18Γ
theorem nr19Γ_ok : ∀ p ∈ nr19Γ, (∀ (args : Array Value) (w : World), (callFunc p.1 args).run Tryz.prog w = .ok (.enter p.1 args) w) ∧ PureOk Tryz.prog p.1 p.2 := by
 simp only [nr19Γ, List.forall_mem_cons]
 exact ⟨⟨enters_of Tryz.func173 (by kernel_rfl) rfl, didb_ok⟩, ⟨enters_of Tryz.func142 (by kernel_rfl) rfl, didi_ok⟩, ⟨enters_of Tryz.func140 (by kernel_rfl) rfl, valid_ok⟩, nr18Γ_ok⟩
noncomputable def nr19E : List (FuncId × ECon) := nr18E
theorem nr19E_ok : ∀ p ∈ nr19E, (∀ (args : Array Value) (w : World), (callFunc p.1 args).run Tryz.prog w = .ok (.enter p.1 args) w) ∧ EffOk Tryz.prog p.1 p.2 := by
 simp only [nr19E]
 exact nr18E_ok
noncomputable def nr19P : List (FuncId × PCon) := (140, panValid) :: nr18P
theorem nr19P_ok : ∀ p ∈ nr19P, (∀ (args : Array Value) (w : World), (callFunc p.1 args).run Tryz.prog w = .ok (.enter p.1 args) w) ∧ PanOk Tryz.prog p.1 p.2 := by
 simp only [nr19P, List.forall_mem_cons]
 exact ⟨⟨enters_of Tryz.func140 (by kernel_rfl) rfl, validp_ok⟩, nr18P_ok⟩
noncomputable def nr19 : G := { τ := nrT, Γ := nr19Γ, E := nr19E, Pn := nr19P }
theorem nr19_good : nr19.good Tryz.prog := good_of_all (nrT_ok _ rfl) nr19Γ_ok nr19E_ok nr19P_ok
theorem nr19_all : (∀ t, nr19.td t = (look nrT t).getD .other) ∧ nr19.y = false ∧ nr19.Γ = nr19Γ ∧ nr19.E = nr19E ∧ nr19.Pn = nr19P ∧ nr19.fz = [] := ⟨fun _ => rfl, rfl, rfl, rfl, rfl, rfl⟩
noncomputable def conProd : Con := ⟨fun args => (match args with
 | [.s (.sl (.cons .bool (.cons (.slice (.int .i64)) .nil)) l _)] => l.length ≤ 100 ∧ ∀ k, k < l.length / 2 → mulOk (l[2 * k]?.getD zB) (l[2 * k + 1]?.getD zB)
 | _ => False), fun args => match args with
 | [.s (.sl (.cons .bool (.cons (.slice (.int .i64)) .nil)) l _)] => .v (aS tBig (prodL l) false)
 | _ => .v (.s .any)⟩
theorem conProd_eq (l : List (Ty.T tBig)) (exl : Bool) : conProd.pre [.s (.sl tBig l exl)] = (l.length ≤ 100 ∧ ∀ k, k < l.length / 2 → mulOk (l[2 * k]?.getD zB) (l[2 * k + 1]?.getD zB)) ∧ conProd.val [.s (.sl tBig l exl)] = .v (aS tBig (prodL l) false) := ⟨rfl, rfl⟩
theorem prod_ok : PureOk Tryz.prog 141 conProd := by
 refine pureOkD (L := { live := [0, 2, 3, 8], fl := [(4, [(3, 0), (4, 0), (8, 0), (9, 0), (14, 0)])] }) nr19_good rfl nr_mixed Tryz.func141 rfl conProd 1 (by decide) (by kernel_rfl) ?_
 intro args hpre hlens
 simp only [conProd] at hpre
 split at hpre
 case h_2 => exact hpre.elim
 rename_i l el
 simp only [allLen, AV.lenOk, SV.lenOk, Ty.lenOk, maxLen, and_true, implies_true, true_and, List.forall_mem_cons, List.not_mem_nil, false_implies] at hlens
 refine ⟨rfl, ?_⟩
 simp -dsimp -implicitDefEqProofs [Tryz.f141, conProd_eq, nr19_all, nrT, nr19Γ, nr19E, nr19P, nr18Γ, nr18E, nr18P, nr17Γ, nr17E, nr17P, nr16Γ, nr16E, nr16P, nr15Γ, nr15E, nr15P, nr14Γ, nr14E, nr14P, nr13Γ, nr13E, nr13P, nr9Γ, nr9E, nr9P, nr8Γ, nr8E, nr8P, nr7Γ, nr7E, nr7P, nr6Γ, nr6E, nr6P, nr5Γ, nr5E, nr5P, nr4Γ, nr4E, nr4P, nr3Γ, nr3E, nr3P, nr0Γ, nr0E, nr0P, conDidB_eq, conDidI_eq, conValid_eq, panValid_when, panValid_what, conRatC_eq, conNeed_eq, panNeed_when, panNeed_what, conGcdN_eq, conMulN_eq, conCmpN2_eq, conPosi_eq, conChk_eq, conBigN_eq, conDiv_eq, conTimes_eq, conNCheck_eq, conLong_eq, conLead64_eq, conShort_eq, conMovE, conTrim_eq, conAt_eq, conNCmp_eq, conBack_eq, conOf9_eq, conDivide_eq, conLess9_eq, conTwo_eq, conRCheck_eq, conRCmpD_eq, inI64]
 obtain ⟨hl, hp⟩ := hpre
 have hmx : 10000 ≤ maxLen := by simp only [maxLen]; omega
 refine WpD.turn _ (Turn.virt (k := 2) (t := tBig) (xs := []) (by simp [look])) ?_
 refine WpD.loop (L := { live := [0, 2, 3, 8], fl := [(4, [(3, 0), (4, 0), (8, 0), (9, 0), (14, 0)])] }) nr19_good X0_ok nr_mixed (by kernel_rfl)
  (fun k : Nat => ⟨[(0, vS tBig l el), (2, ⟨true, .v (.s (.own tBig 0 (prodT l k).length))⟩), (3, vI (2 * k : Nat))], [.arr (decide (0 < (prodT l k).length)) (tBig.flats (prodT l k))]⟩)
  (fun k => k ≤ l.length / 2) (fun k => l.length / 2 - k) 0 (Nat.zero_le _) (Turn.le (by simp -dsimp -implicitDefEqProofs [prodT])) ?_
 intro k hk
 have hlen := prodT_len l k
 rcases Nat.lt_or_ge k (l.length / 2) with hkl | hge
 ·
  have h0 := hp k hkl
  have e1 : (2 * (k : Int) + 1).toNat = 2 * k + 1 := by omega
  have e2 : (2 * (k : Int)).toNat = 2 * k := by omega
  simp -dsimp -implicitDefEqProofs [conProd_eq, e1, e2, nr19_all, nrT, nr19Γ, nr19E, nr19P, nr18Γ, nr18E, nr18P, nr17Γ, nr17E, nr17P, nr16Γ, nr16E, nr16P, nr15Γ, nr15E, nr15P, nr14Γ, nr14E, nr14P, nr13Γ, nr13E, nr13P, nr9Γ, nr9E, nr9P, nr8Γ, nr8E, nr8P, nr7Γ, nr7E, nr7P, nr6Γ, nr6E, nr6P, nr5Γ, nr5E, nr5P, nr4Γ, nr4E, nr4P, nr3Γ, nr3E, nr3P, nr0Γ, nr0E, nr0P, conDidB_eq, conDidI_eq, conValid_eq, panValid_when, panValid_what, conRatC_eq, conNeed_eq, panNeed_when, panNeed_what, conGcdN_eq, conMulN_eq, conCmpN2_eq, conPosi_eq, conChk_eq, conBigN_eq, conDiv_eq, conTimes_eq, conNCheck_eq, conLong_eq, conLead64_eq, conShort_eq, conMovE, conTrim_eq, conAt_eq, conNCmp_eq, conBack_eq, conOf9_eq, conDivide_eq, conLess9_eq, conTwo_eq, conRCheck_eq, conRCmpD_eq, inI64]
  have e3 : 2 * ((k : Int) + 1) = 2 * (k : Int) + 2 := by omega
  rw [hlen]
  refine ⟨⟨by omega, by omega⟩, fun h => ⟨⟨⟨by omega, by omega⟩, ⟨by omega, by omega⟩, ⟨by omega, by omega⟩, ⟨h0.1, h0.2.1, h0.2.2⟩, ⟨by omega, by omega⟩, ⟨by omega, by omega⟩, k + 1, by omega, by omega, TurnT.le ?_⟩, ⟨by omega, by omega⟩, by omega, by omega⟩, fun h => absurd h (by omega)⟩
  simp -dsimp -implicitDefEqProofs [prodT_succ, hlen, e3, mulB, zB]
 ·
  obtain rfl : k = l.length / 2 := by omega
  simp -dsimp -implicitDefEqProofs [conProd_eq, nr19_all, nrT, nr19Γ, nr19E, nr19P, nr18Γ, nr18E, nr18P, nr17Γ, nr17E, nr17P, nr16Γ, nr16E, nr16P, nr15Γ, nr15E, nr15P, nr14Γ, nr14E, nr14P, nr13Γ, nr13E, nr13P, nr9Γ, nr9E, nr9P, nr8Γ, nr8E, nr8P, nr7Γ, nr7E, nr7P, nr6Γ, nr6E, nr6P, nr5Γ, nr5E, nr5P, nr4Γ, nr4E, nr4P, nr3Γ, nr3E, nr3P, nr0Γ, nr0E, nr0P, conDidB_eq, conDidI_eq, conValid_eq, panValid_when, panValid_what, conRatC_eq, conNeed_eq, panNeed_when, panNeed_what, conGcdN_eq, conMulN_eq, conCmpN2_eq, conPosi_eq, conChk_eq, conBigN_eq, conDiv_eq, conTimes_eq, conNCheck_eq, conLong_eq, conLead64_eq, conShort_eq, conMovE, conTrim_eq, conAt_eq, conNCmp_eq, conBack_eq, conOf9_eq, conDivide_eq, conLess9_eq, conTwo_eq, conRCheck_eq, conRCmpD_eq, inI64]
  exact ⟨⟨by omega, by omega⟩, by omega, fun _ => rfl⟩
noncomputable def nr20Γ : List (FuncId × Con) := (141, conProd) :: nr19Γ
theorem nr20Γ_ok : ∀ p ∈ nr20Γ, (∀ (args : Array Value) (w : World), (callFunc p.1 args).run Tryz.prog w = .ok (.enter p.1 args) w) ∧ PureOk Tryz.prog p.1 p.2 := by
 simp only [nr20Γ, List.forall_mem_cons]
 exact ⟨⟨enters_of Tryz.func141 (by kernel_rfl) rfl, prod_ok⟩, nr19Γ_ok⟩
noncomputable def nr20E : List (FuncId × ECon) := nr19E
theorem nr20E_ok : ∀ p ∈ nr20E, (∀ (args : Array Value) (w : World), (callFunc p.1 args).run Tryz.prog w = .ok (.enter p.1 args) w) ∧ EffOk Tryz.prog p.1 p.2 := by
 simp only [nr20E]
 exact nr19E_ok
noncomputable def nr20P : List (FuncId × PCon) := nr19P
theorem nr20P_ok : ∀ p ∈ nr20P, (∀ (args : Array Value) (w : World), (callFunc p.1 args).run Tryz.prog w = .ok (.enter p.1 args) w) ∧ PanOk Tryz.prog p.1 p.2 := by
 simp only [nr20P]
 exact nr19P_ok
noncomputable def nr20 : G := { τ := nrT, Γ := nr20Γ, E := nr20E, Pn := nr20P }
theorem nr20_good : nr20.good Tryz.prog := good_of_all (nrT_ok _ rfl) nr20Γ_ok nr20E_ok nr20P_ok
theorem nr20_all : (∀ t, nr20.td t = (look nrT t).getD .other) ∧ nr20.y = false ∧ nr20.Γ = nr20Γ ∧ nr20.E = nr20E ∧ nr20.Pn = nr20P ∧ nr20.fz = [] := ⟨fun _ => rfl, rfl, rfl, rfl, rfl, rfl⟩
noncomputable def ratCmp (n1 : Bool) (m1 l1 : List Int) (n2 : Bool) (m2 l2 : List Int) : Int := cmpZ (sgn n1 m1 * (vl l2 : Int)) (sgn n2 m2 * (vl l1 : Int))
noncomputable def cmpR (x y : tRat.T) : Int := cmpZ (sgn x.1.1 x.1.2.1 * (vl y.2.1.2.1 : Int)) (sgn y.1.1 y.1.2.1 * (vl x.2.1.2.1 : Int))
noncomputable instance (x : tRat.T) : Decidable (okR x) := Classical.propDecidable _
theorem sgn_mulB {n1 : Bool} {m1 : List Int} {n2 : Bool} {m2 : List Int} : sgn ((n1 != n2) && decide (dig (vl m1 * vl m2) ≠ [])) (dig (vl m1 * vl m2)) = sgn n1 m1 * sgn n2 m2 := by
 have hz : dig (vl m1 * vl m2) = [] ↔ vl m1 * vl m2 = 0 := dig_nil
 have hc : ((vl m1 * vl m2 : Nat) : Int) = (vl m1 : Int) * vl m2 := Int.natCast_mul _ _
 by_cases h : vl m1 * vl m2 = 0
 ·
  rw [hz.2 h]
  rw [h] at hc
  cases n1 <;> cases n2 <;> simp [sgn, vl, ← hc, Int.neg_mul, Int.mul_neg]
 ·
  have hne : dig (vl m1 * vl m2) ≠ [] := fun e => h (hz.1 e)
  cases n1 <;> cases n2 <;> simp [sgn, vl_dig, hne, hc, Int.neg_mul, Int.mul_neg]
noncomputable def conCmpR : Con := ⟨fun args => (match args with
 | [.agg [.bool n1, .sl (.int .i64) m1 _, .bool n2, .sl (.int .i64) m2 _], .agg [.bool k1, .sl (.int .i64) l1 _, .bool k2, .sl (.int .i64) l2 _]] => (okRat n1 m1 n2 m2 ∧ okRat k1 l1 k2 l2 → m1.length + l2.length ≤ 2048 ∧ l1.length + m2.length ≤ 2048)
 | _ => False), fun args => match args with
 | [.agg [.bool n1, .sl (.int .i64) m1 _, .bool n2, .sl (.int .i64) m2 _], .agg [.bool k1, .sl (.int .i64) l1 _, .bool k2, .sl (.int .i64) l2 _]] => .tup [aI (if okRat n1 m1 n2 m2 ∧ okRat k1 l1 k2 l2 then ratCmp n1 m1 m2 k1 l1 l2 else 0), aI (if okRat n1 m1 n2 m2 ∧ okRat k1 l1 k2 l2 then 0 else 100)]
 | _ => .v (.s .any)⟩
theorem conCmpR_eq (n1 : Bool) (m1 : List (Ty.T tI)) (exm1 : Bool) (n2 : Bool) (m2 : List (Ty.T tI)) (exm2 : Bool) (k1 : Bool) (l1 : List (Ty.T tI)) (exl1 : Bool) (k2 : Bool) (l2 : List (Ty.T tI)) (exl2 : Bool) : conCmpR.pre [.agg [.bool n1, .sl tI m1 exm1, .bool n2, .sl tI m2 exm2], .agg [.bool k1, .sl tI l1 exl1, .bool k2, .sl tI l2 exl2]] = ((okRat n1 m1 n2 m2 ∧ okRat k1 l1 k2 l2 → m1.length + l2.length ≤ 2048 ∧ l1.length + m2.length ≤ 2048)) ∧ conCmpR.val [.agg [.bool n1, .sl tI m1 exm1, .bool n2, .sl tI m2 exm2], .agg [.bool k1, .sl tI l1 exl1, .bool k2, .sl tI l2 exl2]] = .tup [aI (if okRat n1 m1 n2 m2 ∧ okRat k1 l1 k2 l2 then ratCmp n1 m1 m2 k1 l1 l2 else 0), aI (if okRat n1 m1 n2 m2 ∧ okRat k1 l1 k2 l2 then 0 else 100)] := ⟨rfl, rfl⟩
theorem cmpr_ok : PureOk Tryz.prog 102 conCmpR := by
 refine pureDefD (L := { live := [0, 1, 2, 3, 4, 5, 6], fin := [(2, [])], fl := [(4, [(1, 0), (2, 0), (4, 0), (5, 0)])] }) nr20_good rfl nr_mixed (dl_cons ⟨enters_of Tryz.func139 (by kernel_rfl) rfl, caught_ok ratioCaught⟩ dl_nil) Tryz.func102 rfl conCmpR 2 (by decide) (by kernel_rfl) ?_
 intro args hpre hlens
 simp only [conCmpR] at hpre
 split at hpre
 case h_2 => exact hpre.elim
 rename_i n1 m1 e1 n2 m2 e2 k1 l1 f1 k2 l2 f2
 simp only [allLen, AV.lenOk, SV.lenOk, Ty.lenOk, maxLen, and_true, implies_true, true_and, List.forall_mem_cons, List.not_mem_nil, false_implies] at hlens
 refine ⟨rfl, ?_⟩
 simp -dsimp -implicitDefEqProofs [Tryz.f102, conCmpR_eq, nr20_all, nrT, nr20Γ, nr20E, nr20P, nr19Γ, nr19E, nr19P, nr18Γ, nr18E, nr18P, nr17Γ, nr17E, nr17P, nr16Γ, nr16E, nr16P, nr15Γ, nr15E, nr15P, nr14Γ, nr14E, nr14P, nr13Γ, nr13E, nr13P, nr9Γ, nr9E, nr9P, nr8Γ, nr8E, nr8P, nr7Γ, nr7E, nr7P, nr6Γ, nr6E, nr6P, nr5Γ, nr5E, nr5P, nr4Γ, nr4E, nr4P, nr3Γ, nr3E, nr3P, nr0Γ, nr0E, nr0P, conProd_eq, conDidB_eq, conDidI_eq, conValid_eq, panValid_when, panValid_what, conRatC_eq, conNeed_eq, panNeed_when, panNeed_what, conGcdN_eq, conMulN_eq, conCmpN2_eq, conPosi_eq, conChk_eq, conBigN_eq, conDiv_eq, conTimes_eq, conNCheck_eq, conLong_eq, conLead64_eq, conShort_eq, conMovE, conTrim_eq, conAt_eq, conNCmp_eq, conBack_eq, conOf9_eq, conDivide_eq, conLess9_eq, conTwo_eq, conRCheck_eq, conRCmpD_eq, inI64]
 obtain ⟨m1, rfl⟩ : ∃ y : List Int, y = m1 := ⟨m1, rfl⟩; obtain ⟨m2, rfl⟩ : ∃ y : List Int, y = m2 := ⟨m2, rfl⟩; obtain ⟨l1, rfl⟩ : ∃ y : List Int, y = l1 := ⟨l1, rfl⟩; obtain ⟨l2, rfl⟩ : ∃ y : List Int, y = l2 := ⟨l2, rfl⟩
 have hoR : ∀ {a : Bool} {b : List Int} {c : Bool} {d : List Int}, okR ((a, b, ()), (c, d, ()), ()) = okRat a b c d := fun {a b c d} => rfl
 simp only [hoR]
 refine ⟨fun h => ⟨fun a b => absurd b (h a), h⟩, fun a b => ⟨⟨a, b⟩, ?_, ?_⟩⟩
 ·
  intro k hk
  obtain ⟨z1, z2⟩ := hpre ⟨a, b⟩
  rcases k with _ | _ | k
  ·
   exact ⟨a.1, b.2.1, z1⟩
  ·
   exact ⟨b.1, a.2.1, z2⟩
  ·
   omega
 ·
  obtain ⟨z1, z2⟩ := hpre ⟨a, b⟩
  have o1 : okB (mulB (n1, m1, ()) (k2, l2, ())) := okB_mulB ⟨a.1, b.2.1, z1⟩
  have o2 : okB (mulB (k1, l1, ()) (n2, m2, ())) := okB_mulB ⟨b.1, a.2.1, z2⟩
  rw [prodL_four, if_pos ⟨a, b⟩]
  obtain rfl := a.2.2.1
  obtain rfl := b.2.2.1
  refine ⟨⟨Nat.succ_pos _, by show (1 : Int) < 2; decide, ⟨o1, o2⟩, ?_, a, b⟩, Nat.succ_pos _, by show (1 : Int) < 2; decide⟩
  show cmpZ (sgn ((n1 != false) && decide (dig (vl m1 * vl l2) ≠ [])) (dig (vl m1 * vl l2))) (sgn ((k1 != false) && decide (dig (vl l1 * vl m2) ≠ [])) (dig (vl l1 * vl m2))) = _
  rw [sgn_mulB, sgn_mulB]
  rfl
theorem cmpZ_zero {a b : Int} : cmpZ a b = 0 ↔ a = b := by
 unfold cmpZ
 split
 ·
  simp; omega
 ·
  split
  ·
   simp; omega
  ·
   simp; omega
noncomputable def nr21Γ : List (FuncId × Con) := (163, conGcd9) :: (164, conCmp9) :: (197, conMul9) :: (83, conMake9) :: (162, conZero) :: nr7Γ
theorem nr21Γ_ok : ∀ p ∈ nr21Γ, (∀ (args : Array Value) (w : World), (callFunc p.1 args).run Tryz.prog w = .ok (.enter p.1 args) w) ∧ PureOk Tryz.prog p.1 p.2 := by
 simp only [nr21Γ, List.forall_mem_cons]
 exact ⟨⟨enters_of Tryz.func163 (by kernel_rfl) rfl, gcd9_ok⟩, ⟨enters_of Tryz.func164 (by kernel_rfl) rfl, cmp9_ok⟩, ⟨enters_of Tryz.func197 (by kernel_rfl) rfl, mul9_ok⟩, ⟨enters_of Tryz.func83 (by kernel_rfl) rfl, make9_ok⟩, ⟨enters_of Tryz.func162 (by kernel_rfl) rfl, zero_ok⟩, nr7Γ_ok⟩
noncomputable def nr21E : List (FuncId × ECon) := nr7E
theorem nr21E_ok : ∀ p ∈ nr21E, (∀ (args : Array Value) (w : World), (callFunc p.1 args).run Tryz.prog w = .ok (.enter p.1 args) w) ∧ EffOk Tryz.prog p.1 p.2 := by
 simp only [nr21E]
 exact nr7E_ok
noncomputable def nr21P : List (FuncId × PCon) := nr7P
theorem nr21P_ok : ∀ p ∈ nr21P, (∀ (args : Array Value) (w : World), (callFunc p.1 args).run Tryz.prog w = .ok (.enter p.1 args) w) ∧ PanOk Tryz.prog p.1 p.2 := by
 simp only [nr21P]
 exact nr7P_ok
noncomputable def nr21 : G := { τ := nrT, Γ := nr21Γ, E := nr21E, Pn := nr21P }
theorem nr21_good : nr21.good Tryz.prog := good_of_all (nrT_ok _ rfl) nr21Γ_ok nr21E_ok nr21P_ok
theorem nr21_all : (∀ t, nr21.td t = (look nrT t).getD .other) ∧ nr21.y = false ∧ nr21.Γ = nr21Γ ∧ nr21.E = nr21E ∧ nr21.Pn = nr21P ∧ nr21.fz = [] := ⟨fun _ => rfl, rfl, rfl, rfl, rfl, rfl⟩
noncomputable def conRInt : Con := ⟨fun args => (match args with
 | [.s (.int .i64 n)] => inI64 n
 | _ => False), fun args => match args with
 | [.s (.int _ n)] => .v (.agg [.bool (decide (n < 0)), .sl tI (dig n.natAbs) false, .bool false, .sl tI [1] false])
 | _ => .v (.s .any)⟩
theorem conRInt_eq (n : Int) : conRInt.pre [.s (.int .i64 n)] = (inI64 n) ∧ conRInt.val [.s (.int .i64 n)] = .v (.agg [.bool (decide (n < 0)), .sl tI (dig n.natAbs) false, .bool false, .sl tI [1] false]) := ⟨rfl, rfl⟩
theorem conRInt_pre (n : Int) : conRInt.pre [.s (.int .i64 n)] = (inI64 n) := rfl
theorem conRInt_val (n : Int) : conRInt.val [.s (.int .i64 n)] = .v (.agg [.bool (decide (n < 0)), .sl tI (dig n.natAbs) false, .bool false, .sl tI [1] false]) := rfl
theorem rint_ok : PureOk Tryz.prog 47 conRInt := by
 refine pureOkD (L := { live := [0, 2] }) nr21_good rfl nr_mixed Tryz.func47 rfl conRInt 1 (by decide) (by kernel_rfl) ?_
 intro args hpre hlens
 simp only [conRInt] at hpre
 split at hpre
 case h_2 => exact hpre.elim
 rename_i n
 simp only [allLen, AV.lenOk, SV.lenOk, Ty.lenOk, maxLen, and_true, implies_true, true_and, List.forall_mem_cons, List.not_mem_nil, false_implies] at hlens
 refine ⟨rfl, ?_⟩
 simp -dsimp -implicitDefEqProofs [Tryz.f47, conRInt_eq, nr21_all, nrT, nr21Γ, nr21E, nr21P, nr7Γ, nr7E, nr7P, nr6Γ, nr6E, nr6P, nr5Γ, nr5E, nr5P, nr4Γ, nr4E, nr4P, nr3Γ, nr3E, nr3P, nr0Γ, nr0E, nr0P, conGcd9_eq, conCmp9_eq, conMul9_eq, conMake9_eq, conZero_eq, conOf9_eq, conDivide_eq, conTimes_eq, conLess9_eq, conTwo_eq, conTrim_eq, conAt_eq, conRCheck_eq, conRCmpD_eq, inI64]
 exact ⟨hpre, dig_one⟩
def fewB (m : List Int) (n : Int) : Bool := decide ((m.length : Int) ≤ n ∨ 2048 < m.length ∧ m.length ≤ 2052)
noncomputable def conFewB : Con := ⟨fun args => (match args with
 | [.agg [.bool ng, .sl (.int .i64) m _], .s (.int .i64 n)] => True
 | _ => False), fun args => match args with
 | [.agg [.bool ng, .sl (.int .i64) m _], .s (.int _ n)] => .v (aB (fewB m n))
 | _ => .v (.s .any)⟩
theorem conFewB_eq (ng : Bool) (m : List (Ty.T tI)) (exm : Bool) (n : Int) : conFewB.pre [.agg [.bool ng, .sl tI m exm], .s (.int .i64 n)] = (True) ∧ conFewB.val [.agg [.bool ng, .sl tI m exm], .s (.int .i64 n)] = .v (aB (fewB m n)) := ⟨rfl, rfl⟩
theorem fewb_ok : PureOk Tryz.prog 48 conFewB := by
 refine pureOkD (L := { live := [0, 1, 2, 4] }) nr0_good rfl nr_mixed Tryz.func48 rfl conFewB 2 (by decide) (by kernel_rfl) ?_
 intro args hpre hlens
 simp only [conFewB] at hpre
 split at hpre
 case h_2 => exact hpre.elim
 rename_i ng m em n
 simp only [allLen, AV.lenOk, SV.lenOk, Ty.lenOk, maxLen, and_true, implies_true, true_and, List.forall_mem_cons, List.not_mem_nil, false_implies] at hlens
 refine ⟨rfl, ?_⟩
 simp -dsimp -implicitDefEqProofs [Tryz.f48, conFewB_eq, nr0_all, nrT, nr0Γ, nr0E, nr0P, inI64]
 refine ⟨fun h => ⟨h, fun h2 => ⟨h, h2⟩⟩, ?_⟩
 rw [fewB, Bool.eq_iff_iff]
 simp
 omega
noncomputable def conFewR : Con := ⟨fun args => (match args with
 | [.agg [.bool n1, .sl (.int .i64) m1 _, .bool n2, .sl (.int .i64) m2 _], .s (.int .i64 n)] => True
 | _ => False), fun args => match args with
 | [.agg [.bool n1, .sl (.int .i64) m1 _, .bool n2, .sl (.int .i64) m2 _], .s (.int _ n)] => .v (aB (fewB m1 n && fewB m2 n))
 | _ => .v (.s .any)⟩
theorem conFewR_eq (n1 : Bool) (m1 : List (Ty.T tI)) (exm1 : Bool) (n2 : Bool) (m2 : List (Ty.T tI)) (exm2 : Bool) (n : Int) : conFewR.pre [.agg [.bool n1, .sl tI m1 exm1, .bool n2, .sl tI m2 exm2], .s (.int .i64 n)] = (True) ∧ conFewR.val [.agg [.bool n1, .sl tI m1 exm1, .bool n2, .sl tI m2 exm2], .s (.int .i64 n)] = .v (aB (fewB m1 n && fewB m2 n)) := ⟨rfl, rfl⟩
noncomputable def nr24Γ : List (FuncId × Con) := (48, conFewB) :: nr0Γ
theorem nr24Γ_ok : ∀ p ∈ nr24Γ, (∀ (args : Array Value) (w : World), (callFunc p.1 args).run Tryz.prog w = .ok (.enter p.1 args) w) ∧ PureOk Tryz.prog p.1 p.2 := by
 simp only [nr24Γ, List.forall_mem_cons]
 exact ⟨⟨enters_of Tryz.func48 (by kernel_rfl) rfl, fewb_ok⟩, nr0Γ_ok⟩
noncomputable def nr24E : List (FuncId × ECon) := nr0E
theorem nr24E_ok : ∀ p ∈ nr24E, (∀ (args : Array Value) (w : World), (callFunc p.1 args).run Tryz.prog w = .ok (.enter p.1 args) w) ∧ EffOk Tryz.prog p.1 p.2 := by
 simp only [nr24E]
 exact nr0E_ok
noncomputable def nr24P : List (FuncId × PCon) := nr0P
theorem nr24P_ok : ∀ p ∈ nr24P, (∀ (args : Array Value) (w : World), (callFunc p.1 args).run Tryz.prog w = .ok (.enter p.1 args) w) ∧ PanOk Tryz.prog p.1 p.2 := by
 simp only [nr24P]
 exact nr0P_ok
noncomputable def nr24 : G := { τ := nrT, Γ := nr24Γ, E := nr24E, Pn := nr24P }
theorem nr24_good : nr24.good Tryz.prog := good_of_all (nrT_ok _ rfl) nr24Γ_ok nr24E_ok nr24P_ok
theorem nr24_all : (∀ t, nr24.td t = (look nrT t).getD .other) ∧ nr24.y = false ∧ nr24.Γ = nr24Γ ∧ nr24.E = nr24E ∧ nr24.Pn = nr24P ∧ nr24.fz = [] := ⟨fun _ => rfl, rfl, rfl, rfl, rfl, rfl⟩
theorem fewr_ok : PureOk Tryz.prog 28 conFewR := by
 refine pureOkD (L := { live := [0, 1, 2, 4] }) nr24_good rfl nr_mixed Tryz.func28 rfl conFewR 2 (by decide) (by kernel_rfl) ?_
 intro args hpre hlens
 simp only [conFewR] at hpre
 split at hpre
 case h_2 => exact hpre.elim
 rename_i n1 m1 e1 n2 m2 e2 n
 simp only [allLen, AV.lenOk, SV.lenOk, Ty.lenOk, maxLen, and_true, implies_true, true_and, List.forall_mem_cons, List.not_mem_nil, false_implies] at hlens
 refine ⟨rfl, ?_⟩
 simp -dsimp -implicitDefEqProofs [Tryz.f28, conFewR_eq, nr24_all, nrT, nr24Γ, nr24E, nr24P, nr0Γ, nr0E, nr0P, conFewB_eq, inI64]
 skip
abbrev tKey : Ty := .cons (.int .i64) (.cons .str (.cons (.int .i64) .nil))
abbrev tKd : Ty := .cons (.int .i64) (.cons tRat (.cons (.slice tRat) (.cons (.slice tRat) (.cons (.int .i64) (.cons (.int .i64) (.cons (.int .i64) .nil))))))
abbrev tKind : Ty := .cons .fn (.cons .fn .nil)
abbrev tOrd : Ty := .cons (.slice .fn) (.cons (.slice .fn) .nil)
abbrev mkK (en : Int) (n1 : Bool) (m1 : List Int) (n2 : Bool) (m2 : List Int) (tot prv : List tRat.T) (hi bo lo : Int) : tKd.T := (en, ((n1, m1, ()), (n2, m2, ()), ()), tot, prv, hi, bo, lo, ())
abbrev mkR (n1 : Bool) (m1 : List Int) (n2 : Bool) (m2 : List Int) : tRat.T := ((n1, m1, ()), (n2, m2, ()), ())
def tiT : List (TypeId × TD) := [(1, .func), (2, .sc tI), (3, .sc tI), (4, .sc .bool), (5, .sc (.int .u8)), (6, .sc (.int .u8)), (22, .slice 120 tKey 32), (23, .slice 46 tKd 144), (27, .sc tI), (39, .slice 3 tI 8), (41, .struct tBig), (43, .struct tRat), (44, .slice 43 tRat 64), (46, .struct tKd), (70, .func), (71, .func), (75, .slice 81 .fn 8), (76, .slice 116 .fn 8), (78, .struct (.cons (.slice .fn) (.cons (.slice .fn) .nil))), (81, .func), (86, .slice 89 (.cons tI (.cons tI .nil)) 16), (89, .struct (.cons tI (.cons tI .nil))), (98, .func), (105, .func), (106, .slice 86 (.slice (.cons tI (.cons tI .nil))) 24), (116, .func), (117, .map 3 124 tI (.cons .fn (.cons .fn .nil))), (120, .struct tKey), (121, .func), (122, .func), (124, .struct (.cons .fn (.cons .fn .nil))), (126, .func), (139, .struct (.cons (.cons (.slice .fn) (.cons (.slice .fn) .nil)) (.cons (.slice tKd) .nil))), (152, .func), (153, .func)]
theorem tiT_ok (g : G) (hg : g.τ = tiT) : G.ok Tryz.prog g := by
 refine ok_of_all ?_
 rw [hg]
 simp only [tiT, List.forall_mem_cons]
 refine ⟨?_, ?_, ?_, ?_, ?_, ?_, ?_, ?_, ?_, ?_, ?_, ?_, ?_, ?_, ?_, ?_, ?_, ?_, ?_, ?_, ?_, ?_, ?_, ?_, ?_, ?_, ?_, ?_, ?_, ?_, ?_, ?_, ?_, ?_, ?_, by simp⟩
 ·
  exact ⟨⟨_, _, _, Tryz.underlying1⟩, by kernel_rfl⟩
 ·
  exact ⟨by kernel_rfl, rfl, by kernel_rfl, rfl⟩
 ·
  exact ⟨by kernel_rfl, rfl, by kernel_rfl, rfl⟩
 ·
  exact ⟨by kernel_rfl, rfl, by kernel_rfl, rfl⟩
 ·
  exact ⟨by kernel_rfl, rfl, by kernel_rfl, rfl⟩
 ·
  exact ⟨by kernel_rfl, rfl, by kernel_rfl, rfl⟩
 ·
  exact ⟨by kernel_rfl, by decide, by kernel_rfl, ⟨cellsV (Ty.zcells tKey), by kernel_rfl, by kernel_rfl, by kernel_rfl⟩, by kernel_rfl⟩
 ·
  exact ⟨by kernel_rfl, by decide, by kernel_rfl, ⟨cellsV (Ty.zcells tKd), by kernel_rfl, by kernel_rfl, by kernel_rfl⟩, by kernel_rfl⟩
 ·
  exact ⟨by kernel_rfl, rfl, by kernel_rfl, rfl⟩
 ·
  exact ⟨by kernel_rfl, by decide, by kernel_rfl, ⟨cellsV (Ty.zcells tI), by kernel_rfl, by kernel_rfl, by kernel_rfl⟩, by kernel_rfl⟩
 ·
  exact ⟨fieldsOf Tryz.prog 41, by kernel_rfl, by kernel_rfl, by kernel_rfl, by decide, by kernel_rfl⟩
 ·
  exact ⟨fieldsOf Tryz.prog 43, by kernel_rfl, by kernel_rfl, by kernel_rfl, by decide, by kernel_rfl⟩
 ·
  exact ⟨by kernel_rfl, by decide, by kernel_rfl, ⟨cellsV (Ty.zcells tRat), by kernel_rfl, by kernel_rfl, by kernel_rfl⟩, by kernel_rfl⟩
 ·
  exact ⟨fieldsOf Tryz.prog 46, by kernel_rfl, by kernel_rfl, by kernel_rfl, by decide, by kernel_rfl⟩
 ·
  exact ⟨⟨_, _, _, Tryz.underlying70⟩, by kernel_rfl⟩
 ·
  exact ⟨⟨_, _, _, Tryz.underlying71⟩, by kernel_rfl⟩
 ·
  exact ⟨by kernel_rfl, by decide, by kernel_rfl, ⟨cellsV (Ty.zcells .fn), by kernel_rfl, by kernel_rfl, by kernel_rfl⟩, by kernel_rfl⟩
 ·
  exact ⟨by kernel_rfl, by decide, by kernel_rfl, ⟨cellsV (Ty.zcells .fn), by kernel_rfl, by kernel_rfl, by kernel_rfl⟩, by kernel_rfl⟩
 ·
  exact ⟨fieldsOf Tryz.prog 78, by kernel_rfl, by kernel_rfl, by kernel_rfl, by decide, by kernel_rfl⟩
 ·
  exact ⟨⟨_, _, _, Tryz.underlying81⟩, by kernel_rfl⟩
 ·
  exact ⟨by kernel_rfl, by decide, by kernel_rfl, ⟨cellsV (Ty.zcells (.cons tI (.cons tI .nil))), by kernel_rfl, by kernel_rfl, by kernel_rfl⟩, by kernel_rfl⟩
 ·
  exact ⟨fieldsOf Tryz.prog 89, by kernel_rfl, by kernel_rfl, by kernel_rfl, by decide, by kernel_rfl⟩
 ·
  exact ⟨⟨_, _, _, Tryz.underlying98⟩, by kernel_rfl⟩
 ·
  exact ⟨⟨_, _, _, Tryz.underlying105⟩, by kernel_rfl⟩
 ·
  exact ⟨by kernel_rfl, by decide, by kernel_rfl, ⟨cellsV (Ty.zcells (.slice (.cons tI (.cons tI .nil)))), by kernel_rfl, by kernel_rfl, by kernel_rfl⟩, by kernel_rfl⟩
 ·
  exact ⟨⟨_, _, _, Tryz.underlying116⟩, by kernel_rfl⟩
 ·
  exact ⟨by kernel_rfl, by kernel_rfl, by kernel_rfl, rfl, by decide⟩
 ·
  exact ⟨fieldsOf Tryz.prog 120, by kernel_rfl, by kernel_rfl, by kernel_rfl, by decide, by kernel_rfl⟩
 ·
  exact ⟨⟨_, _, _, Tryz.underlying121⟩, by kernel_rfl⟩
 ·
  exact ⟨⟨_, _, _, Tryz.underlying122⟩, by kernel_rfl⟩
 ·
  exact ⟨fieldsOf Tryz.prog 124, by kernel_rfl, by kernel_rfl, by kernel_rfl, by decide, by kernel_rfl⟩
 ·
  exact ⟨⟨_, _, _, Tryz.underlying126⟩, by kernel_rfl⟩
 ·
  exact ⟨fieldsOf Tryz.prog 139, by kernel_rfl, by kernel_rfl, by kernel_rfl, by decide, by kernel_rfl⟩
 ·
  exact ⟨⟨_, _, _, Tryz.underlying152⟩, by kernel_rfl⟩
 ·
  exact ⟨⟨_, _, _, Tryz.underlying153⟩, by kernel_rfl⟩
noncomputable def ti0Γ : List (FuncId × Con) := []
theorem ti0Γ_ok : ∀ p ∈ ti0Γ, (∀ (args : Array Value) (w : World), (callFunc p.1 args).run Tryz.prog w = .ok (.enter p.1 args) w) ∧ PureOk Tryz.prog p.1 p.2 := by simp [ti0Γ]
noncomputable def ti0E : List (FuncId × ECon) := []
theorem ti0E_ok : ∀ p ∈ ti0E, (∀ (args : Array Value) (w : World), (callFunc p.1 args).run Tryz.prog w = .ok (.enter p.1 args) w) ∧ EffOk Tryz.prog p.1 p.2 := by simp [ti0E]
noncomputable def ti0P : List (FuncId × PCon) := []
theorem ti0P_ok : ∀ p ∈ ti0P, (∀ (args : Array Value) (w : World), (callFunc p.1 args).run Tryz.prog w = .ok (.enter p.1 args) w) ∧ PanOk Tryz.prog p.1 p.2 := by simp [ti0P]
noncomputable def ti0 : G := { τ := tiT, Γ := ti0Γ, E := ti0E, Pn := ti0P }
theorem ti0_good : ti0.good Tryz.prog := good_of_all (tiT_ok _ rfl) ti0Γ_ok ti0E_ok ti0P_ok
theorem ti0_all : (∀ t, ti0.td t = (look tiT t).getD .other) ∧ ti0.y = false ∧ ti0.Γ = ti0Γ ∧ ti0.E = ti0E ∧ ti0.Pn = ti0P ∧ ti0.fz = [] := ⟨fun _ => rfl, rfl, rfl, rfl, rfl, rfl⟩
noncomputable def conNaT : Con := ⟨fun args => (match args with
 | [.s (.int .i64 a)] => True
 | _ => False), fun args => match args with
 | [.s (.int _ a)] => .v (aB false)
 | _ => .v (.s .any)⟩
theorem conNaT_eq (a : Int) : conNaT.pre [.s (.int .i64 a)] = (True) ∧ conNaT.val [.s (.int .i64 a)] = .v (aB false) := ⟨rfl, rfl⟩
theorem nat_ok : PureOk Tryz.prog 92 conNaT := by
 refine pureOkD (L := { live := [0, 2] }) ti0_good rfl nr_mixed Tryz.func92 rfl conNaT 1 (by decide) (by kernel_rfl) ?_
 intro args hpre hlens
 simp only [conNaT] at hpre
 split at hpre
 case h_2 => exact hpre.elim
 rename_i a
 simp only [allLen, AV.lenOk, SV.lenOk, Ty.lenOk, maxLen, and_true, implies_true, true_and, List.forall_mem_cons, List.not_mem_nil, false_implies] at hlens
 refine ⟨rfl, ?_⟩
 simp -dsimp -implicitDefEqProofs [Tryz.f92, conNaT_eq, ti0_all, tiT, ti0Γ, ti0E, ti0P, inI64]
noncomputable def ti1Γ : List (FuncId × Con) := (92, conNaT) :: ti0Γ
theorem ti1Γ_ok : ∀ p ∈ ti1Γ, (∀ (args : Array Value) (w : World), (callFunc p.1 args).run Tryz.prog w = .ok (.enter p.1 args) w) ∧ PureOk Tryz.prog p.1 p.2 := by
 simp only [ti1Γ, List.forall_mem_cons]
 exact ⟨⟨enters_of Tryz.func92 (by kernel_rfl) rfl, nat_ok⟩, ti0Γ_ok⟩
noncomputable def ti1E : List (FuncId × ECon) := ti0E
theorem ti1E_ok : ∀ p ∈ ti1E, (∀ (args : Array Value) (w : World), (callFunc p.1 args).run Tryz.prog w = .ok (.enter p.1 args) w) ∧ EffOk Tryz.prog p.1 p.2 := by
 simp only [ti1E]
 exact ti0E_ok
noncomputable def ti1P : List (FuncId × PCon) := ti0P
theorem ti1P_ok : ∀ p ∈ ti1P, (∀ (args : Array Value) (w : World), (callFunc p.1 args).run Tryz.prog w = .ok (.enter p.1 args) w) ∧ PanOk Tryz.prog p.1 p.2 := by
 simp only [ti1P]
 exact ti0P_ok
noncomputable def ti1 : G := { τ := tiT, Γ := ti1Γ, E := ti1E, Pn := ti1P }
theorem ti1_good : ti1.good Tryz.prog := good_of_all (tiT_ok _ rfl) ti1Γ_ok ti1E_ok ti1P_ok
theorem ti1_all : (∀ t, ti1.td t = (look tiT t).getD .other) ∧ ti1.y = false ∧ ti1.Γ = ti1Γ ∧ ti1.E = ti1E ∧ ti1.Pn = ti1P ∧ ti1.fz = [] := ⟨fun _ => rfl, rfl, rfl, rfl, rfl, rfl⟩
noncomputable def conCmpI : Con := ⟨fun args => (match args with
 | [.s (.int .i64 a), .s (.int .i64 b)] => True
 | _ => False), fun args => match args with
 | [.s (.int _ a), .s (.int _ b)] => .v (aI (cmpZ a b))
 | _ => .v (.s .any)⟩
theorem conCmpI_eq (a : Int) (b : Int) : conCmpI.pre [.s (.int .i64 a), .s (.int .i64 b)] = (True) ∧ conCmpI.val [.s (.int .i64 a), .s (.int .i64 b)] = .v (aI (cmpZ a b)) := ⟨rfl, rfl⟩
theorem cmpi_ok : PureOk Tryz.prog 53 conCmpI := by
 refine pureOkD (L := { live := [0, 1, 4, 5, 6, 11, 12, 13, 16, 19] }) ti1_good rfl nr_mixed Tryz.func53 rfl conCmpI 2 (by decide) (by kernel_rfl) ?_
 intro args hpre hlens
 simp only [conCmpI] at hpre
 split at hpre
 case h_2 => exact hpre.elim
 rename_i a b
 simp only [allLen, AV.lenOk, SV.lenOk, Ty.lenOk, maxLen, and_true, implies_true, true_and, List.forall_mem_cons, List.not_mem_nil, false_implies] at hlens
 refine ⟨rfl, ?_⟩
 simp -dsimp -implicitDefEqProofs [Tryz.f53, conCmpI_eq, ti1_all, tiT, ti1Γ, ti1E, ti1P, ti0Γ, ti0E, ti0P, conNaT_eq, inI64]
 refine ⟨fun h => (cmpZ_lt h).symm, fun h => ⟨fun h2 => (cmpZ_gt h2).symm, fun h2 => ?_⟩⟩
 rw [Int.le_antisymm h h2]
 exact (cmpZ_zero.2 rfl).symm
def orI : List Int → Int
 | [] => 0
 | x :: r => if x = 0 then orI r else x
theorem orI_at {l : List Int} {i : Nat} (hi : i < l.length) (hz : ∀ j, j < i → l[j]?.getD 0 = 0) (h : l[i]?.getD 0 ≠ 0) : orI l = l[i]?.getD 0 := by
 induction l generalizing i with
 | nil => simp at hi
 | cons x r ih =>
  cases i with
  | zero => simp at h; simp [orI, h]
  | succ i =>
   have h0 : x = 0 := by have := hz 0 (by omega); simpa using this
   subst h0
   simp only [orI, if_pos, List.getElem?_cons_succ] at h ⊢
   exact ih (by simpa using hi) (fun j hj => by have := hz (j + 1) (by omega); simpa using this) h
theorem orI_none {l : List Int} (hz : ∀ j, j < l.length → l[j]?.getD 0 = 0) : orI l = 0 := by
 induction l with
 | nil => rfl
 | cons x r ih =>
  have h0 : x = 0 := by have := hz 0 (by simp); simpa using this
  subst h0
  simp only [orI, if_pos]
  exact ih fun j hj => by have := hz (j + 1) (by simpa using hj); simpa using this
noncomputable def conOrI : Con := ⟨fun args => (match args with
 | [.s (.sl (.int .i64) l _)] => True
 | _ => False), fun args => match args with
 | [.s (.sl (.int .i64) l _)] => .v (aI (orI l))
 | _ => .v (.s .any)⟩
theorem conOrI_eq (l : List (Ty.T tI)) (exl : Bool) : conOrI.pre [.s (.sl tI l exl)] = (True) ∧ conOrI.val [.s (.sl tI l exl)] = .v (aI (orI l)) := ⟨rfl, rfl⟩
theorem ori_ok : PureOk Tryz.prog 91 conOrI := by
 refine pureOkD (L := { live := [0, 2, 3, 5, 6, 7, 8, 9, 14] }) ti0_good rfl nr_mixed Tryz.func91 rfl conOrI 1 (by decide) (by kernel_rfl) ?_
 intro args hpre hlens
 simp only [conOrI] at hpre
 split at hpre
 case h_2 => exact hpre.elim
 rename_i l el
 simp only [allLen, AV.lenOk, SV.lenOk, Ty.lenOk, maxLen, and_true, implies_true, true_and, List.forall_mem_cons, List.not_mem_nil, false_implies] at hlens
 refine ⟨rfl, ?_⟩
 simp -dsimp -implicitDefEqProofs [Tryz.f91, conOrI_eq, ti0_all, tiT, ti0Γ, ti0E, ti0P, inI64]
 obtain ⟨l, rfl⟩ : ∃ y : List Int, y = l := ⟨l, rfl⟩
 refine WpD.loop (L := { live := [0, 2, 3, 5, 6, 7, 8, 9, 14] }) ti0_good X0_ok nr_mixed (by kernel_rfl)
  (fun i : Nat => ⟨[(3, vI 0), (6, vS tI l el), (7, vI l.length), (8, vI i)], []⟩)
  (fun i => i ≤ l.length ∧ ∀ j, j < i → l[j]?.getD 0 = 0) (fun i => l.length - i) 0 ⟨Nat.zero_le _, fun j h => absurd h (by omega)⟩ (Turn.le (by simp -dsimp -implicitDefEqProofs)) ?_
 rintro i ⟨hi, hz⟩
 simp -dsimp -implicitDefEqProofs [conOrI_eq, ti0_all, tiT, ti0Γ, ti0E, ti0P, inI64]
 refine ⟨fun hil => ⟨hil, fun h => (orI_at hil hz h).symm, fun h => ⟨⟨by omega, by omega⟩, i + 1, ⟨by omega, fun j hj => ?_⟩, by omega, TurnT.le (by simp -dsimp -implicitDefEqProofs)⟩⟩, fun h => ?_⟩
 ·
  rcases Nat.lt_succ_iff_lt_or_eq.1 hj with h' | rfl
  ·
   exact hz j h'
  ·
   exact h
 ·
  exact (orI_none fun j hj => hz j (by omega)).symm
def shortR (x : tRat.T) : Prop := List.length x.1.2.1 ≤ 1024 ∧ List.length x.2.1.2.1 ≤ 1024
noncomputable instance (x : tRat.T) : Decidable (shortR x) := Classical.propDecidable _
def allShort (l : List tRat.T) : Prop := ∀ r ∈ l, shortR r
noncomputable def greatR (a b : tRat.T) : Int := if okR b ∧ okR a then cmpR b a else 0
noncomputable def oddR (x : tRat.T) : Bool := !decide (okR x ∧ shortR x)
noncomputable def conGreat : Con := ⟨fun args => (match args with
 | [.agg [.bool n1, .sl (.int .i64) m1 _, .bool n2, .sl (.int .i64) m2 _], .agg [.bool k1, .sl (.int .i64) l1 _, .bool k2, .sl (.int .i64) l2 _]] => shortR (mkR n1 m1 n2 m2) ∧ shortR (mkR k1 l1 k2 l2)
 | _ => False), fun args => match args with
 | [.agg [.bool n1, .sl (.int .i64) m1 _, .bool n2, .sl (.int .i64) m2 _], .agg [.bool k1, .sl (.int .i64) l1 _, .bool k2, .sl (.int .i64) l2 _]] => .v (aI (greatR (mkR n1 m1 n2 m2) (mkR k1 l1 k2 l2)))
 | _ => .v (.s .any)⟩
theorem conGreat_eq (n1 : Bool) (m1 : List (Ty.T tI)) (exm1 : Bool) (n2 : Bool) (m2 : List (Ty.T tI)) (exm2 : Bool) (k1 : Bool) (l1 : List (Ty.T tI)) (exl1 : Bool) (k2 : Bool) (l2 : List (Ty.T tI)) (exl2 : Bool) : conGreat.pre [.agg [.bool n1, .sl tI m1 exm1, .bool n2, .sl tI m2 exm2], .agg [.bool k1, .sl tI l1 exl1, .bool k2, .sl tI l2 exl2]] = (shortR (mkR n1 m1 n2 m2) ∧ shortR (mkR k1 l1 k2 l2)) ∧ conGreat.val [.agg [.bool n1, .sl tI m1 exm1, .bool n2, .sl tI m2 exm2], .agg [.bool k1, .sl tI l1 exl1, .bool k2, .sl tI l2 exl2]] = .v (aI (greatR (mkR n1 m1 n2 m2) (mkR k1 l1 k2 l2))) := ⟨rfl, rfl⟩
noncomputable def ti2Γ : List (FuncId × Con) := (102, conCmpR) :: (112, conRatC) :: ti0Γ
theorem ti2Γ_ok : ∀ p ∈ ti2Γ, (∀ (args : Array Value) (w : World), (callFunc p.1 args).run Tryz.prog w = .ok (.enter p.1 args) w) ∧ PureOk Tryz.prog p.1 p.2 := by
 simp only [ti2Γ, List.forall_mem_cons]
 exact ⟨⟨enters_of Tryz.func102 (by kernel_rfl) rfl, cmpr_ok⟩, ⟨enters_of Tryz.func112 (by kernel_rfl) rfl, ratc_ok⟩, ti0Γ_ok⟩
noncomputable def ti2E : List (FuncId × ECon) := ti0E
theorem ti2E_ok : ∀ p ∈ ti2E, (∀ (args : Array Value) (w : World), (callFunc p.1 args).run Tryz.prog w = .ok (.enter p.1 args) w) ∧ EffOk Tryz.prog p.1 p.2 := by
 simp only [ti2E]
 exact ti0E_ok
noncomputable def ti2P : List (FuncId × PCon) := ti0P
theorem ti2P_ok : ∀ p ∈ ti2P, (∀ (args : Array Value) (w : World), (callFunc p.1 args).run Tryz.prog w = .ok (.enter p.1 args) w) ∧ PanOk Tryz.prog p.1 p.2 := by
 simp only [ti2P]
 exact ti0P_ok
noncomputable def ti2 : G := { τ := tiT, Γ := ti2Γ, E := ti2E, Pn := ti2P }
theorem ti2_good : ti2.good Tryz.prog := good_of_all (tiT_ok _ rfl) ti2Γ_ok ti2E_ok ti2P_ok
theorem ti2_all : (∀ t, ti2.td t = (look tiT t).getD .other) ∧ ti2.y = false ∧ ti2.Γ = ti2Γ ∧ ti2.E = ti2E ∧ ti2.Pn = ti2P ∧ ti2.fz = [] := ⟨fun _ => rfl, rfl, rfl, rfl, rfl, rfl⟩
theorem great_ok : PureOk Tryz.prog 68 conGreat := by
 refine pureOkD (L := { live := [0, 1, 2, 3, 4, 5] }) ti2_good rfl nr_mixed Tryz.func68 rfl conGreat 2 (by decide) (by kernel_rfl) ?_
 intro args hpre hlens
 simp only [conGreat] at hpre
 split at hpre
 case h_2 => exact hpre.elim
 rename_i n1 m1 e1 n2 m2 e2 k1 l1 f1 k2 l2 f2
 simp only [allLen, AV.lenOk, SV.lenOk, Ty.lenOk, maxLen, and_true, implies_true, true_and, List.forall_mem_cons, List.not_mem_nil, false_implies] at hlens
 refine ⟨rfl, ?_⟩
 simp -dsimp -implicitDefEqProofs [Tryz.f68, conGreat_eq, ti2_all, tiT, ti2Γ, ti2E, ti2P, ti0Γ, ti0E, ti0P, conCmpR_eq, conRatC_eq, inI64]
 obtain ⟨m1, rfl⟩ : ∃ y : List Int, y = m1 := ⟨m1, rfl⟩; obtain ⟨m2, rfl⟩ : ∃ y : List Int, y = m2 := ⟨m2, rfl⟩; obtain ⟨l1, rfl⟩ : ∃ y : List Int, y = l1 := ⟨l1, rfl⟩; obtain ⟨l2, rfl⟩ : ∃ y : List Int, y = l2 := ⟨l2, rfl⟩
 obtain ⟨⟨a1, a2⟩, b1, b2⟩ := hpre
 simp only at a1 a2 b1 b2
 refine ⟨fun _ _ => ⟨by omega, by omega⟩, rfl⟩
noncomputable def conOddR : Con := ⟨fun args => (match args with
 | [.agg [.bool n1, .sl (.int .i64) m1 _, .bool n2, .sl (.int .i64) m2 _]] => True
 | _ => False), fun args => match args with
 | [.agg [.bool n1, .sl (.int .i64) m1 _, .bool n2, .sl (.int .i64) m2 _]] => .v (aB (oddR (mkR n1 m1 n2 m2)))
 | _ => .v (.s .any)⟩
theorem conOddR_eq (n1 : Bool) (m1 : List (Ty.T tI)) (exm1 : Bool) (n2 : Bool) (m2 : List (Ty.T tI)) (exm2 : Bool) : conOddR.pre [.agg [.bool n1, .sl tI m1 exm1, .bool n2, .sl tI m2 exm2]] = (True) ∧ conOddR.val [.agg [.bool n1, .sl tI m1 exm1, .bool n2, .sl tI m2 exm2]] = .v (aB (oddR (mkR n1 m1 n2 m2))) := ⟨rfl, rfl⟩
theorem oddr_ok : PureOk Tryz.prog 72 conOddR := by
 refine pureOkD (L := { live := [0, 1, 2] }) ti2_good rfl nr_mixed Tryz.func72 rfl conOddR 1 (by decide) (by kernel_rfl) ?_
 intro args hpre hlens
 simp only [conOddR] at hpre
 split at hpre
 case h_2 => exact hpre.elim
 rename_i n1 m1 e1 n2 m2 e2
 simp only [allLen, AV.lenOk, SV.lenOk, Ty.lenOk, maxLen, and_true, implies_true, true_and, List.forall_mem_cons, List.not_mem_nil, false_implies] at hlens
 refine ⟨rfl, ?_⟩
 simp -dsimp -implicitDefEqProofs [Tryz.f72, conOddR_eq, ti2_all, tiT, ti2Γ, ti2E, ti2P, ti0Γ, ti0E, ti0P, conCmpR_eq, conRatC_eq, inI64]
 obtain ⟨m1, rfl⟩ : ∃ y : List Int, y = m1 := ⟨m1, rfl⟩; obtain ⟨m2, rfl⟩ : ∃ y : List Int, y = m2 := ⟨m2, rfl⟩
 have h1 : decide (ratErr n1 m1 n2 m2 = 0) = decide (okR (mkR n1 m1 n2 m2)) := decide_eq_decide.2 ratErr_0
 have h2 : (decide ((1024 : Int) < if m1.length < m2.length then (m2.length : Int) else (m1.length : Int))) = !decide (shortR (mkR n1 m1 n2 m2)) := by
  rw [Bool.eq_iff_iff, decide_eq_true_eq, Bool.not_eq_true', decide_eq_false_iff_not]
  show _ ↔ ¬ (m1.length ≤ 1024 ∧ m2.length ≤ 1024)
  split <;> omega
 rw [h1, h2, oddR, Bool.decide_and, Bool.not_and]
noncomputable def conAlw : Con := ⟨fun args => (match args with
 | [.agg [.int .i64 kd, .str s, .int .i64 n], .agg [.int .i64 en, .bool n1, .sl (.int .i64) m1 _, .bool n2, .sl (.int .i64) m2 _, .sl (.cons (.cons .bool (.cons (.slice (.int .i64)) .nil)) (.cons (.cons .bool (.cons (.slice (.int .i64)) .nil)) .nil)) tot _, .sl (.cons (.cons .bool (.cons (.slice (.int .i64)) .nil)) (.cons (.cons .bool (.cons (.slice (.int .i64)) .nil)) .nil)) prv _, .int .i64 hi, .int .i64 bo, .int .i64 lo]] => True
 | _ => False), fun args => match args with
 | [.agg [.int _ kd, .str s, .int _ n], .agg [.int _ en, .bool n1, .sl (.int .i64) m1 _, .bool n2, .sl (.int .i64) m2 _, .sl (.cons (.cons .bool (.cons (.slice (.int .i64)) .nil)) (.cons (.cons .bool (.cons (.slice (.int .i64)) .nil)) .nil)) tot _, .sl (.cons (.cons .bool (.cons (.slice (.int .i64)) .nil)) (.cons (.cons .bool (.cons (.slice (.int .i64)) .nil)) .nil)) prv _, .int _ hi, .int _ bo, .int _ lo]] => .v (aB true)
 | _ => .v (.s .any)⟩
theorem conAlw_eq (kd : Int) (s : ByteArray) (n : Int) (en : Int) (n1 : Bool) (m1 : List (Ty.T tI)) (exm1 : Bool) (n2 : Bool) (m2 : List (Ty.T tI)) (exm2 : Bool) (tot : List (Ty.T tRat)) (extot : Bool) (prv : List (Ty.T tRat)) (exprv : Bool) (hi : Int) (bo : Int) (lo : Int) : conAlw.pre [.agg [.int .i64 kd, .str s, .int .i64 n], .agg [.int .i64 en, .bool n1, .sl tI m1 exm1, .bool n2, .sl tI m2 exm2, .sl tRat tot extot, .sl tRat prv exprv, .int .i64 hi, .int .i64 bo, .int .i64 lo]] = (True) ∧ conAlw.val [.agg [.int .i64 kd, .str s, .int .i64 n], .agg [.int .i64 en, .bool n1, .sl tI m1 exm1, .bool n2, .sl tI m2 exm2, .sl tRat tot extot, .sl tRat prv exprv, .int .i64 hi, .int .i64 bo, .int .i64 lo]] = .v (aB true) := ⟨rfl, rfl⟩
theorem alw_ok : PureOk Tryz.prog 103 conAlw := by
 refine pureOkD (L := { live := [0, 1, 4] }) ti0_good rfl nr_mixed Tryz.func103 rfl conAlw 2 (by decide) (by kernel_rfl) ?_
 intro args hpre hlens
 simp only [conAlw] at hpre
 split at hpre
 case h_2 => exact hpre.elim
 rename_i kd s n en n1 m1 e1 n2 m2 e2 tot et prv ep hi bo lo
 simp only [allLen, AV.lenOk, SV.lenOk, Ty.lenOk, maxLen, and_true, implies_true, true_and, List.forall_mem_cons, List.not_mem_nil, false_implies] at hlens
 refine ⟨rfl, ?_⟩
 simp -dsimp -implicitDefEqProofs [Tryz.f103, conAlw_eq, ti0_all, tiT, ti0Γ, ti0E, ti0P, inI64]
noncomputable def conTot : Con := ⟨fun args => (match args with
 | [.agg [.int .i64 en, .bool n1, .sl (.int .i64) m1 _, .bool n2, .sl (.int .i64) m2 _, .sl (.cons (.cons .bool (.cons (.slice (.int .i64)) .nil)) (.cons (.cons .bool (.cons (.slice (.int .i64)) .nil)) .nil)) tot _, .sl (.cons (.cons .bool (.cons (.slice (.int .i64)) .nil)) (.cons (.cons .bool (.cons (.slice (.int .i64)) .nil)) .nil)) prv _, .int .i64 hi, .int .i64 bo, .int .i64 lo]] => True
 | _ => False), fun args => match args with
 | [.agg [.int _ en, .bool n1, .sl (.int .i64) m1 _, .bool n2, .sl (.int .i64) m2 _, .sl (.cons (.cons .bool (.cons (.slice (.int .i64)) .nil)) (.cons (.cons .bool (.cons (.slice (.int .i64)) .nil)) .nil)) tot _, .sl (.cons (.cons .bool (.cons (.slice (.int .i64)) .nil)) (.cons (.cons .bool (.cons (.slice (.int .i64)) .nil)) .nil)) prv _, .int _ hi, .int _ bo, .int _ lo]] => .v (aS tRat tot false)
 | _ => .v (.s .any)⟩
theorem conTot_eq (en : Int) (n1 : Bool) (m1 : List (Ty.T tI)) (exm1 : Bool) (n2 : Bool) (m2 : List (Ty.T tI)) (exm2 : Bool) (tot : List (Ty.T tRat)) (extot : Bool) (prv : List (Ty.T tRat)) (exprv : Bool) (hi : Int) (bo : Int) (lo : Int) : conTot.pre [.agg [.int .i64 en, .bool n1, .sl tI m1 exm1, .bool n2, .sl tI m2 exm2, .sl tRat tot extot, .sl tRat prv exprv, .int .i64 hi, .int .i64 bo, .int .i64 lo]] = (True) ∧ conTot.val [.agg [.int .i64 en, .bool n1, .sl tI m1 exm1, .bool n2, .sl tI m2 exm2, .sl tRat tot extot, .sl tRat prv exprv, .int .i64 hi, .int .i64 bo, .int .i64 lo]] = .v (aS tRat tot false) := ⟨rfl, rfl⟩
theorem tot_ok : PureOk Tryz.prog 107 conTot := by
 refine pureOkD (L := { live := [0, 1, 2] }) ti0_good rfl nr_mixed Tryz.func107 rfl conTot 1 (by decide) (by kernel_rfl) ?_
 intro args hpre hlens
 simp only [conTot] at hpre
 split at hpre
 case h_2 => exact hpre.elim
 rename_i en n1 m1 e1 n2 m2 e2 tot et prv ep hi bo lo
 simp only [allLen, AV.lenOk, SV.lenOk, Ty.lenOk, maxLen, and_true, implies_true, true_and, List.forall_mem_cons, List.not_mem_nil, false_implies] at hlens
 refine ⟨rfl, ?_⟩
 simp -dsimp -implicitDefEqProofs [Tryz.f107, conTot_eq, ti0_all, tiT, ti0Γ, ti0E, ti0P, inI64]
noncomputable def conPrv : Con := ⟨fun args => (match args with
 | [.agg [.int .i64 en, .bool n1, .sl (.int .i64) m1 _, .bool n2, .sl (.int .i64) m2 _, .sl (.cons (.cons .bool (.cons (.slice (.int .i64)) .nil)) (.cons (.cons .bool (.cons (.slice (.int .i64)) .nil)) .nil)) tot _, .sl (.cons (.cons .bool (.cons (.slice (.int .i64)) .nil)) (.cons (.cons .bool (.cons (.slice (.int .i64)) .nil)) .nil)) prv _, .int .i64 hi, .int .i64 bo, .int .i64 lo]] => True
 | _ => False), fun args => match args with
 | [.agg [.int _ en, .bool n1, .sl (.int .i64) m1 _, .bool n2, .sl (.int .i64) m2 _, .sl (.cons (.cons .bool (.cons (.slice (.int .i64)) .nil)) (.cons (.cons .bool (.cons (.slice (.int .i64)) .nil)) .nil)) tot _, .sl (.cons (.cons .bool (.cons (.slice (.int .i64)) .nil)) (.cons (.cons .bool (.cons (.slice (.int .i64)) .nil)) .nil)) prv _, .int _ hi, .int _ bo, .int _ lo]] => .v (aS tRat prv false)
 | _ => .v (.s .any)⟩
theorem conPrv_eq (en : Int) (n1 : Bool) (m1 : List (Ty.T tI)) (exm1 : Bool) (n2 : Bool) (m2 : List (Ty.T tI)) (exm2 : Bool) (tot : List (Ty.T tRat)) (extot : Bool) (prv : List (Ty.T tRat)) (exprv : Bool) (hi : Int) (bo : Int) (lo : Int) : conPrv.pre [.agg [.int .i64 en, .bool n1, .sl tI m1 exm1, .bool n2, .sl tI m2 exm2, .sl tRat tot extot, .sl tRat prv exprv, .int .i64 hi, .int .i64 bo, .int .i64 lo]] = (True) ∧ conPrv.val [.agg [.int .i64 en, .bool n1, .sl tI m1 exm1, .bool n2, .sl tI m2 exm2, .sl tRat tot extot, .sl tRat prv exprv, .int .i64 hi, .int .i64 bo, .int .i64 lo]] = .v (aS tRat prv false) := ⟨rfl, rfl⟩
theorem prv_ok : PureOk Tryz.prog 108 conPrv := by
 refine pureOkD (L := { live := [0, 1, 2] }) ti0_good rfl nr_mixed Tryz.func108 rfl conPrv 1 (by decide) (by kernel_rfl) ?_
 intro args hpre hlens
 simp only [conPrv] at hpre
 split at hpre
 case h_2 => exact hpre.elim
 rename_i en n1 m1 e1 n2 m2 e2 tot et prv ep hi bo lo
 simp only [allLen, AV.lenOk, SV.lenOk, Ty.lenOk, maxLen, and_true, implies_true, true_and, List.forall_mem_cons, List.not_mem_nil, false_implies] at hlens
 refine ⟨rfl, ?_⟩
 simp -dsimp -implicitDefEqProofs [Tryz.f108, conPrv_eq, ti0_all, tiT, ti0Γ, ti0E, ti0P, inI64]
noncomputable def ti3Γ : List (FuncId × Con) := (53, conCmpI) :: ti1Γ
theorem ti3Γ_ok : ∀ p ∈ ti3Γ, (∀ (args : Array Value) (w : World), (callFunc p.1 args).run Tryz.prog w = .ok (.enter p.1 args) w) ∧ PureOk Tryz.prog p.1 p.2 := by
 simp only [ti3Γ, List.forall_mem_cons]
 exact ⟨⟨enters_of Tryz.func53 (by kernel_rfl) rfl, cmpi_ok⟩, ti1Γ_ok⟩
noncomputable def ti3E : List (FuncId × ECon) := ti1E
theorem ti3E_ok : ∀ p ∈ ti3E, (∀ (args : Array Value) (w : World), (callFunc p.1 args).run Tryz.prog w = .ok (.enter p.1 args) w) ∧ EffOk Tryz.prog p.1 p.2 := by
 simp only [ti3E]
 exact ti1E_ok
noncomputable def ti3P : List (FuncId × PCon) := ti1P
theorem ti3P_ok : ∀ p ∈ ti3P, (∀ (args : Array Value) (w : World), (callFunc p.1 args).run Tryz.prog w = .ok (.enter p.1 args) w) ∧ PanOk Tryz.prog p.1 p.2 := by
 simp only [ti3P]
 exact ti1P_ok
noncomputable def ti3 : G := { τ := tiT, Γ := ti3Γ, E := ti3E, Pn := ti3P }
theorem ti3_good : ti3.good Tryz.prog := good_of_all (tiT_ok _ rfl) ti3Γ_ok ti3E_ok ti3P_ok
theorem ti3_all : (∀ t, ti3.td t = (look tiT t).getD .other) ∧ ti3.y = false ∧ ti3.Γ = ti3Γ ∧ ti3.E = ti3E ∧ ti3.Pn = ti3P ∧ ti3.fz = [] := ⟨fun _ => rfl, rfl, rfl, rfl, rfl, rfl⟩
noncomputable def conHig : Con := ⟨fun args => (match args with
 | [.agg [.int .i64 kd, .str s, .int .i64 n], .agg [.int .i64 en, .bool n1, .sl (.int .i64) m1 _, .bool n2, .sl (.int .i64) m2 _, .sl (.cons (.cons .bool (.cons (.slice (.int .i64)) .nil)) (.cons (.cons .bool (.cons (.slice (.int .i64)) .nil)) .nil)) tot _, .sl (.cons (.cons .bool (.cons (.slice (.int .i64)) .nil)) (.cons (.cons .bool (.cons (.slice (.int .i64)) .nil)) .nil)) prv _, .int .i64 hi, .int .i64 bo, .int .i64 lo], .agg [.int .i64 en', .bool n1', .sl (.int .i64) m1' _, .bool n2', .sl (.int .i64) m2' _, .sl (.cons (.cons .bool (.cons (.slice (.int .i64)) .nil)) (.cons (.cons .bool (.cons (.slice (.int .i64)) .nil)) .nil)) tot' _, .sl (.cons (.cons .bool (.cons (.slice (.int .i64)) .nil)) (.cons (.cons .bool (.cons (.slice (.int .i64)) .nil)) .nil)) prv' _, .int .i64 hi', .int .i64 bo', .int .i64 lo']] => True
 | _ => False), fun args => match args with
 | [.agg [.int _ kd, .str s, .int _ n], .agg [.int _ en, .bool n1, .sl (.int .i64) m1 _, .bool n2, .sl (.int .i64) m2 _, .sl (.cons (.cons .bool (.cons (.slice (.int .i64)) .nil)) (.cons (.cons .bool (.cons (.slice (.int .i64)) .nil)) .nil)) tot _, .sl (.cons (.cons .bool (.cons (.slice (.int .i64)) .nil)) (.cons (.cons .bool (.cons (.slice (.int .i64)) .nil)) .nil)) prv _, .int _ hi, .int _ bo, .int _ lo], .agg [.int _ en', .bool n1', .sl (.int .i64) m1' _, .bool n2', .sl (.int .i64) m2' _, .sl (.cons (.cons .bool (.cons (.slice (.int .i64)) .nil)) (.cons (.cons .bool (.cons (.slice (.int .i64)) .nil)) .nil)) tot' _, .sl (.cons (.cons .bool (.cons (.slice (.int .i64)) .nil)) (.cons (.cons .bool (.cons (.slice (.int .i64)) .nil)) .nil)) prv' _, .int _ hi', .int _ bo', .int _ lo']] => .v (aI (cmpZ hi' hi))
 | _ => .v (.s .any)⟩
theorem conHig_eq (kd : Int) (s : ByteArray) (n : Int) (en : Int) (n1 : Bool) (m1 : List (Ty.T tI)) (exm1 : Bool) (n2 : Bool) (m2 : List (Ty.T tI)) (exm2 : Bool) (tot : List (Ty.T tRat)) (extot : Bool) (prv : List (Ty.T tRat)) (exprv : Bool) (hi : Int) (bo : Int) (lo : Int) (en' : Int) (n1' : Bool) (m1' : List (Ty.T tI)) (exm1' : Bool) (n2' : Bool) (m2' : List (Ty.T tI)) (exm2' : Bool) (tot' : List (Ty.T tRat)) (extot' : Bool) (prv' : List (Ty.T tRat)) (exprv' : Bool) (hi' : Int) (bo' : Int) (lo' : Int) : conHig.pre [.agg [.int .i64 kd, .str s, .int .i64 n], .agg [.int .i64 en, .bool n1, .sl tI m1 exm1, .bool n2, .sl tI m2 exm2, .sl tRat tot extot, .sl tRat prv exprv, .int .i64 hi, .int .i64 bo, .int .i64 lo], .agg [.int .i64 en', .bool n1', .sl tI m1' exm1', .bool n2', .sl tI m2' exm2', .sl tRat tot' extot', .sl tRat prv' exprv', .int .i64 hi', .int .i64 bo', .int .i64 lo']] = (True) ∧ conHig.val [.agg [.int .i64 kd, .str s, .int .i64 n], .agg [.int .i64 en, .bool n1, .sl tI m1 exm1, .bool n2, .sl tI m2 exm2, .sl tRat tot extot, .sl tRat prv exprv, .int .i64 hi, .int .i64 bo, .int .i64 lo], .agg [.int .i64 en', .bool n1', .sl tI m1' exm1', .bool n2', .sl tI m2' exm2', .sl tRat tot' extot', .sl tRat prv' exprv', .int .i64 hi', .int .i64 bo', .int .i64 lo']] = .v (aI (cmpZ hi' hi)) := ⟨rfl, rfl⟩
theorem hig_ok : PureOk Tryz.prog 109 conHig := by
 refine pureOkD (L := { live := [0, 1, 2, 4, 5, 6] }) ti3_good rfl nr_mixed Tryz.func109 rfl conHig 3 (by decide) (by kernel_rfl) ?_
 intro args hpre hlens
 simp only [conHig] at hpre
 split at hpre
 case h_2 => exact hpre.elim
 rename_i kd s n en n1 m1 e1 n2 m2 e2 tot et prv ep hi bo lo en' n1' m1' e1' n2' m2' e2' tot' et' prv' ep' hi' bo' lo'
 simp only [allLen, AV.lenOk, SV.lenOk, Ty.lenOk, maxLen, and_true, implies_true, true_and, List.forall_mem_cons, List.not_mem_nil, false_implies] at hlens
 refine ⟨rfl, ?_⟩
 simp -dsimp -implicitDefEqProofs [Tryz.f109, conHig_eq, ti3_all, tiT, ti3Γ, ti3E, ti3P, ti1Γ, ti1E, ti1P, ti0Γ, ti0E, ti0P, conCmpI_eq, conNaT_eq, inI64]
noncomputable def conBon : Con := ⟨fun args => (match args with
 | [.agg [.int .i64 kd, .str s, .int .i64 n], .agg [.int .i64 en, .bool n1, .sl (.int .i64) m1 _, .bool n2, .sl (.int .i64) m2 _, .sl (.cons (.cons .bool (.cons (.slice (.int .i64)) .nil)) (.cons (.cons .bool (.cons (.slice (.int .i64)) .nil)) .nil)) tot _, .sl (.cons (.cons .bool (.cons (.slice (.int .i64)) .nil)) (.cons (.cons .bool (.cons (.slice (.int .i64)) .nil)) .nil)) prv _, .int .i64 hi, .int .i64 bo, .int .i64 lo], .agg [.int .i64 en', .bool n1', .sl (.int .i64) m1' _, .bool n2', .sl (.int .i64) m2' _, .sl (.cons (.cons .bool (.cons (.slice (.int .i64)) .nil)) (.cons (.cons .bool (.cons (.slice (.int .i64)) .nil)) .nil)) tot' _, .sl (.cons (.cons .bool (.cons (.slice (.int .i64)) .nil)) (.cons (.cons .bool (.cons (.slice (.int .i64)) .nil)) .nil)) prv' _, .int .i64 hi', .int .i64 bo', .int .i64 lo']] => True
 | _ => False), fun args => match args with
 | [.agg [.int _ kd, .str s, .int _ n], .agg [.int _ en, .bool n1, .sl (.int .i64) m1 _, .bool n2, .sl (.int .i64) m2 _, .sl (.cons (.cons .bool (.cons (.slice (.int .i64)) .nil)) (.cons (.cons .bool (.cons (.slice (.int .i64)) .nil)) .nil)) tot _, .sl (.cons (.cons .bool (.cons (.slice (.int .i64)) .nil)) (.cons (.cons .bool (.cons (.slice (.int .i64)) .nil)) .nil)) prv _, .int _ hi, .int _ bo, .int _ lo], .agg [.int _ en', .bool n1', .sl (.int .i64) m1' _, .bool n2', .sl (.int .i64) m2' _, .sl (.cons (.cons .bool (.cons (.slice (.int .i64)) .nil)) (.cons (.cons .bool (.cons (.slice (.int .i64)) .nil)) .nil)) tot' _, .sl (.cons (.cons .bool (.cons (.slice (.int .i64)) .nil)) (.cons (.cons .bool (.cons (.slice (.int .i64)) .nil)) .nil)) prv' _, .int _ hi', .int _ bo', .int _ lo']] => .v (aI (cmpZ bo' bo))
 | _ => .v (.s .any)⟩
theorem conBon_eq (kd : Int) (s : ByteArray) (n : Int) (en : Int) (n1 : Bool) (m1 : List (Ty.T tI)) (exm1 : Bool) (n2 : Bool) (m2 : List (Ty.T tI)) (exm2 : Bool) (tot : List (Ty.T tRat)) (extot : Bool) (prv : List (Ty.T tRat)) (exprv : Bool) (hi : Int) (bo : Int) (lo : Int) (en' : Int) (n1' : Bool) (m1' : List (Ty.T tI)) (exm1' : Bool) (n2' : Bool) (m2' : List (Ty.T tI)) (exm2' : Bool) (tot' : List (Ty.T tRat)) (extot' : Bool) (prv' : List (Ty.T tRat)) (exprv' : Bool) (hi' : Int) (bo' : Int) (lo' : Int) : conBon.pre [.agg [.int .i64 kd, .str s, .int .i64 n], .agg [.int .i64 en, .bool n1, .sl tI m1 exm1, .bool n2, .sl tI m2 exm2, .sl tRat tot extot, .sl tRat prv exprv, .int .i64 hi, .int .i64 bo, .int .i64 lo], .agg [.int .i64 en', .bool n1', .sl tI m1' exm1', .bool n2', .sl tI m2' exm2', .sl tRat tot' extot', .sl tRat prv' exprv', .int .i64 hi', .int .i64 bo', .int .i64 lo']] = (True) ∧ conBon.val [.agg [.int .i64 kd, .str s, .int .i64 n], .agg [.int .i64 en, .bool n1, .sl tI m1 exm1, .bool n2, .sl tI m2 exm2, .sl tRat tot extot, .sl tRat prv exprv, .int .i64 hi, .int .i64 bo, .int .i64 lo], .agg [.int .i64 en', .bool n1', .sl tI m1' exm1', .bool n2', .sl tI m2' exm2', .sl tRat tot' extot', .sl tRat prv' exprv', .int .i64 hi', .int .i64 bo', .int .i64 lo']] = .v (aI (cmpZ bo' bo)) := ⟨rfl, rfl⟩
theorem bon_ok : PureOk Tryz.prog 110 conBon := by
 refine pureOkD (L := { live := [0, 1, 2, 4, 5, 6] }) ti3_good rfl nr_mixed Tryz.func110 rfl conBon 3 (by decide) (by kernel_rfl) ?_
 intro args hpre hlens
 simp only [conBon] at hpre
 split at hpre
 case h_2 => exact hpre.elim
 rename_i kd s n en n1 m1 e1 n2 m2 e2 tot et prv ep hi bo lo en' n1' m1' e1' n2' m2' e2' tot' et' prv' ep' hi' bo' lo'
 simp only [allLen, AV.lenOk, SV.lenOk, Ty.lenOk, maxLen, and_true, implies_true, true_and, List.forall_mem_cons, List.not_mem_nil, false_implies] at hlens
 refine ⟨rfl, ?_⟩
 simp -dsimp -implicitDefEqProofs [Tryz.f110, conBon_eq, ti3_all, tiT, ti3Γ, ti3E, ti3P, ti1Γ, ti1E, ti1P, ti0Γ, ti0E, ti0P, conCmpI_eq, conNaT_eq, inI64]
noncomputable def conLot : Con := ⟨fun args => (match args with
 | [.agg [.int .i64 kd, .str s, .int .i64 n], .agg [.int .i64 en, .bool n1, .sl (.int .i64) m1 _, .bool n2, .sl (.int .i64) m2 _, .sl (.cons (.cons .bool (.cons (.slice (.int .i64)) .nil)) (.cons (.cons .bool (.cons (.slice (.int .i64)) .nil)) .nil)) tot _, .sl (.cons (.cons .bool (.cons (.slice (.int .i64)) .nil)) (.cons (.cons .bool (.cons (.slice (.int .i64)) .nil)) .nil)) prv _, .int .i64 hi, .int .i64 bo, .int .i64 lo], .agg [.int .i64 en', .bool n1', .sl (.int .i64) m1' _, .bool n2', .sl (.int .i64) m2' _, .sl (.cons (.cons .bool (.cons (.slice (.int .i64)) .nil)) (.cons (.cons .bool (.cons (.slice (.int .i64)) .nil)) .nil)) tot' _, .sl (.cons (.cons .bool (.cons (.slice (.int .i64)) .nil)) (.cons (.cons .bool (.cons (.slice (.int .i64)) .nil)) .nil)) prv' _, .int .i64 hi', .int .i64 bo', .int .i64 lo']] => True
 | _ => False), fun args => match args with
 | [.agg [.int _ kd, .str s, .int _ n], .agg [.int _ en, .bool n1, .sl (.int .i64) m1 _, .bool n2, .sl (.int .i64) m2 _, .sl (.cons (.cons .bool (.cons (.slice (.int .i64)) .nil)) (.cons (.cons .bool (.cons (.slice (.int .i64)) .nil)) .nil)) tot _, .sl (.cons (.cons .bool (.cons (.slice (.int .i64)) .nil)) (.cons (.cons .bool (.cons (.slice (.int .i64)) .nil)) .nil)) prv _, .int _ hi, .int _ bo, .int _ lo], .agg [.int _ en', .bool n1', .sl (.int .i64) m1' _, .bool n2', .sl (.int .i64) m2' _, .sl (.cons (.cons .bool (.cons (.slice (.int .i64)) .nil)) (.cons (.cons .bool (.cons (.slice (.int .i64)) .nil)) .nil)) tot' _, .sl (.cons (.cons .bool (.cons (.slice (.int .i64)) .nil)) (.cons (.cons .bool (.cons (.slice (.int .i64)) .nil)) .nil)) prv' _, .int _ hi', .int _ bo', .int _ lo']] => .v (aI (cmpZ lo lo'))
 | _ => .v (.s .any)⟩
theorem conLot_eq (kd : Int) (s : ByteArray) (n : Int) (en : Int) (n1 : Bool) (m1 : List (Ty.T tI)) (exm1 : Bool) (n2 : Bool) (m2 : List (Ty.T tI)) (exm2 : Bool) (tot : List (Ty.T tRat)) (extot : Bool) (prv : List (Ty.T tRat)) (exprv : Bool) (hi : Int) (bo : Int) (lo : Int) (en' : Int) (n1' : Bool) (m1' : List (Ty.T tI)) (exm1' : Bool) (n2' : Bool) (m2' : List (Ty.T tI)) (exm2' : Bool) (tot' : List (Ty.T tRat)) (extot' : Bool) (prv' : List (Ty.T tRat)) (exprv' : Bool) (hi' : Int) (bo' : Int) (lo' : Int) : conLot.pre [.agg [.int .i64 kd, .str s, .int .i64 n], .agg [.int .i64 en, .bool n1, .sl tI m1 exm1, .bool n2, .sl tI m2 exm2, .sl tRat tot extot, .sl tRat prv exprv, .int .i64 hi, .int .i64 bo, .int .i64 lo], .agg [.int .i64 en', .bool n1', .sl tI m1' exm1', .bool n2', .sl tI m2' exm2', .sl tRat tot' extot', .sl tRat prv' exprv', .int .i64 hi', .int .i64 bo', .int .i64 lo']] = (True) ∧ conLot.val [.agg [.int .i64 kd, .str s, .int .i64 n], .agg [.int .i64 en, .bool n1, .sl tI m1 exm1, .bool n2, .sl tI m2 exm2, .sl tRat tot extot, .sl tRat prv exprv, .int .i64 hi, .int .i64 bo, .int .i64 lo], .agg [.int .i64 en', .bool n1', .sl tI m1' exm1', .bool n2', .sl tI m2' exm2', .sl tRat tot' extot', .sl tRat prv' exprv', .int .i64 hi', .int .i64 bo', .int .i64 lo']] = .v (aI (cmpZ lo lo')) := ⟨rfl, rfl⟩
theorem lot_ok : PureOk Tryz.prog 111 conLot := by
 refine pureOkD (L := { live := [0, 1, 2, 4, 5, 6] }) ti3_good rfl nr_mixed Tryz.func111 rfl conLot 3 (by decide) (by kernel_rfl) ?_
 intro args hpre hlens
 simp only [conLot] at hpre
 split at hpre
 case h_2 => exact hpre.elim
 rename_i kd s n en n1 m1 e1 n2 m2 e2 tot et prv ep hi bo lo en' n1' m1' e1' n2' m2' e2' tot' et' prv' ep' hi' bo' lo'
 simp only [allLen, AV.lenOk, SV.lenOk, Ty.lenOk, maxLen, and_true, implies_true, true_and, List.forall_mem_cons, List.not_mem_nil, false_implies] at hlens
 refine ⟨rfl, ?_⟩
 simp -dsimp -implicitDefEqProofs [Tryz.f111, conLot_eq, ti3_all, tiT, ti3Γ, ti3E, ti3P, ti1Γ, ti1E, ti1P, ti0Γ, ti0E, ti0P, conCmpI_eq, conNaT_eq, inI64]
def totF : D .fn := D.fnOf 107 []
def prvF : D .fn := D.fnOf 108 []
def listOf (f : D .fn) (x : tKd.T) : List tRat.T := match f.parts with
 | some (i, _) => if i = 108 then x.2.2.2.1 else x.2.2.1
 | none => []
theorem listOf_tot (x : tKd.T) : listOf totF x = x.2.2.1 := by simp [listOf, totF, D.parts_fnOf]
theorem listOf_prv (x : tKd.T) : listOf prvF x = x.2.2.2.1 := by simp [listOf, prvF, D.parts_fnOf]
theorem listOf_tot' (x : tKd.T) : listOf (D.fnOf 107 []) x = x.2.2.1 := listOf_tot x
theorem listOf_prv' (x : tKd.T) : listOf (D.fnOf 108 []) x = x.2.2.2.1 := listOf_prv x
def dR : tRat.T := ((false, [], ()), (false, [], ()), ())
theorem mem_getD {α : Type} {l : List α} {n : Int} {d : α} (h0 : 0 ≤ n) (h : n < (l.length : Int)) : l[n.toNat]?.getD d ∈ l := by
 rw [List.getElem?_eq_getElem (by omega), Option.getD_some]
 exact List.getElem_mem _
noncomputable def ti4Γ : List (FuncId × Con) := (68, conGreat) :: (107, conTot) :: (108, conPrv) :: ti3Γ
theorem ti4Γ_ok : ∀ p ∈ ti4Γ, (∀ (args : Array Value) (w : World), (callFunc p.1 args).run Tryz.prog w = .ok (.enter p.1 args) w) ∧ PureOk Tryz.prog p.1 p.2 := by
 simp only [ti4Γ, List.forall_mem_cons]
 exact ⟨⟨enters_of Tryz.func68 (by kernel_rfl) rfl, great_ok⟩, ⟨enters_of Tryz.func107 (by kernel_rfl) rfl, tot_ok⟩, ⟨enters_of Tryz.func108 (by kernel_rfl) rfl, prv_ok⟩, ti3Γ_ok⟩
noncomputable def ti4E : List (FuncId × ECon) := ti3E
theorem ti4E_ok : ∀ p ∈ ti4E, (∀ (args : Array Value) (w : World), (callFunc p.1 args).run Tryz.prog w = .ok (.enter p.1 args) w) ∧ EffOk Tryz.prog p.1 p.2 := by
 simp only [ti4E]
 exact ti3E_ok
noncomputable def ti4P : List (FuncId × PCon) := ti3P
theorem ti4P_ok : ∀ p ∈ ti4P, (∀ (args : Array Value) (w : World), (callFunc p.1 args).run Tryz.prog w = .ok (.enter p.1 args) w) ∧ PanOk Tryz.prog p.1 p.2 := by
 simp only [ti4P]
 exact ti3P_ok
noncomputable def ti4 : G := { τ := tiT, Γ := ti4Γ, E := ti4E, Pn := ti4P }
theorem ti4_good : ti4.good Tryz.prog := good_of_all (tiT_ok _ rfl) ti4Γ_ok ti4E_ok ti4P_ok
theorem ti4_all : (∀ t, ti4.td t = (look tiT t).getD .other) ∧ ti4.y = false ∧ ti4.Γ = ti4Γ ∧ ti4.E = ti4E ∧ ti4.Pn = ti4P ∧ ti4.fz = [] := ⟨fun _ => rfl, rfl, rfl, rfl, rfl, rfl⟩
noncomputable def conHasL : Con := ⟨fun args => (match args with
 | [.agg [.int .i64 kd, .str s, .int .i64 n], .agg [.int .i64 en, .bool n1, .sl (.int .i64) m1 _, .bool n2, .sl (.int .i64) m2 _, .sl (.cons (.cons .bool (.cons (.slice (.int .i64)) .nil)) (.cons (.cons .bool (.cons (.slice (.int .i64)) .nil)) .nil)) tot _, .sl (.cons (.cons .bool (.cons (.slice (.int .i64)) .nil)) (.cons (.cons .bool (.cons (.slice (.int .i64)) .nil)) .nil)) prv _, .int .i64 hi, .int .i64 bo, .int .i64 lo], .s (.eptr .fn f)] => f = totF ∨ f = prvF
 | _ => False), fun args => match args with
 | [.agg [.int _ kd, .str s, .int _ n], .agg [.int _ en, .bool n1, .sl (.int .i64) m1 _, .bool n2, .sl (.int .i64) m2 _, .sl (.cons (.cons .bool (.cons (.slice (.int .i64)) .nil)) (.cons (.cons .bool (.cons (.slice (.int .i64)) .nil)) .nil)) tot _, .sl (.cons (.cons .bool (.cons (.slice (.int .i64)) .nil)) (.cons (.cons .bool (.cons (.slice (.int .i64)) .nil)) .nil)) prv _, .int _ hi, .int _ bo, .int _ lo], .s (.eptr .fn f)] => .v (aB (decide (0 ≤ n) && decide (n < ((listOf f (mkK en n1 m1 n2 m2 tot prv hi bo lo)).length : Int))))
 | _ => .v (.s .any)⟩
theorem conHasL_eq (kd : Int) (s : ByteArray) (n : Int) (en : Int) (n1 : Bool) (m1 : List (Ty.T tI)) (exm1 : Bool) (n2 : Bool) (m2 : List (Ty.T tI)) (exm2 : Bool) (tot : List (Ty.T tRat)) (extot : Bool) (prv : List (Ty.T tRat)) (exprv : Bool) (hi : Int) (bo : Int) (lo : Int) (f : Ty.T .fn) : conHasL.pre [.agg [.int .i64 kd, .str s, .int .i64 n], .agg [.int .i64 en, .bool n1, .sl tI m1 exm1, .bool n2, .sl tI m2 exm2, .sl tRat tot extot, .sl tRat prv exprv, .int .i64 hi, .int .i64 bo, .int .i64 lo], .s (.eptr .fn f)] = (f = totF ∨ f = prvF) ∧ conHasL.val [.agg [.int .i64 kd, .str s, .int .i64 n], .agg [.int .i64 en, .bool n1, .sl tI m1 exm1, .bool n2, .sl tI m2 exm2, .sl tRat tot extot, .sl tRat prv exprv, .int .i64 hi, .int .i64 bo, .int .i64 lo], .s (.eptr .fn f)] = .v (aB (decide (0 ≤ n) && decide (n < ((listOf f (mkK en n1 m1 n2 m2 tot prv hi bo lo)).length : Int)))) := ⟨rfl, rfl⟩
theorem hasl_ok : PureOk Tryz.prog 105 conHasL := by
 refine pureOkD (L := { live := [0, 1, 2, 3, 4, 5] }) ti4_good rfl nr_mixed Tryz.func105 rfl conHasL 3 (by decide) (by kernel_rfl) ?_
 intro args hpre hlens
 simp only [conHasL] at hpre
 split at hpre
 case h_2 => exact hpre.elim
 rename_i kd s n en n1 m1 e1 n2 m2 e2 tot et prv ep hi bo lo f
 simp only [allLen, AV.lenOk, SV.lenOk, Ty.lenOk, maxLen, and_true, implies_true, true_and, List.forall_mem_cons, List.not_mem_nil, false_implies] at hlens
 rcases hpre with rfl | rfl <;> simp only [totF, prvF]
 all_goals refine ⟨rfl, ?_⟩
 all_goals simp -dsimp -implicitDefEqProofs [Tryz.f105, conHasL_eq, listOf_tot', listOf_prv', ti4_all, tiT, ti4Γ, ti4E, ti4P, ti3Γ, ti3E, ti3P, ti1Γ, ti1E, ti1P, ti0Γ, ti0E, ti0P, conGreat_eq, conTot_eq, conPrv_eq, conCmpI_eq, conNaT_eq, inI64]
noncomputable def conFstL : Con := ⟨fun args => (match args with
 | [.agg [.int .i64 kd, .str s, .int .i64 n], .agg [.int .i64 en, .bool n1, .sl (.int .i64) m1 _, .bool n2, .sl (.int .i64) m2 _, .sl (.cons (.cons .bool (.cons (.slice (.int .i64)) .nil)) (.cons (.cons .bool (.cons (.slice (.int .i64)) .nil)) .nil)) tot _, .sl (.cons (.cons .bool (.cons (.slice (.int .i64)) .nil)) (.cons (.cons .bool (.cons (.slice (.int .i64)) .nil)) .nil)) prv _, .int .i64 hi, .int .i64 bo, .int .i64 lo], .agg [.int .i64 en', .bool n1', .sl (.int .i64) m1' _, .bool n2', .sl (.int .i64) m2' _, .sl (.cons (.cons .bool (.cons (.slice (.int .i64)) .nil)) (.cons (.cons .bool (.cons (.slice (.int .i64)) .nil)) .nil)) tot' _, .sl (.cons (.cons .bool (.cons (.slice (.int .i64)) .nil)) (.cons (.cons .bool (.cons (.slice (.int .i64)) .nil)) .nil)) prv' _, .int .i64 hi', .int .i64 bo', .int .i64 lo'], .s (.eptr .fn f)] => (f = totF ∨ f = prvF) ∧ 0 ≤ n ∧ n < ((listOf f (mkK en n1 m1 n2 m2 tot prv hi bo lo)).length : Int) ∧ n < ((listOf f (mkK en' n1' m1' n2' m2' tot' prv' hi' bo' lo')).length : Int) ∧ allShort (listOf f (mkK en n1 m1 n2 m2 tot prv hi bo lo)) ∧ allShort (listOf f (mkK en' n1' m1' n2' m2' tot' prv' hi' bo' lo'))
 | _ => False), fun args => match args with
 | [.agg [.int _ kd, .str s, .int _ n], .agg [.int _ en, .bool n1, .sl (.int .i64) m1 _, .bool n2, .sl (.int .i64) m2 _, .sl (.cons (.cons .bool (.cons (.slice (.int .i64)) .nil)) (.cons (.cons .bool (.cons (.slice (.int .i64)) .nil)) .nil)) tot _, .sl (.cons (.cons .bool (.cons (.slice (.int .i64)) .nil)) (.cons (.cons .bool (.cons (.slice (.int .i64)) .nil)) .nil)) prv _, .int _ hi, .int _ bo, .int _ lo], .agg [.int _ en', .bool n1', .sl (.int .i64) m1' _, .bool n2', .sl (.int .i64) m2' _, .sl (.cons (.cons .bool (.cons (.slice (.int .i64)) .nil)) (.cons (.cons .bool (.cons (.slice (.int .i64)) .nil)) .nil)) tot' _, .sl (.cons (.cons .bool (.cons (.slice (.int .i64)) .nil)) (.cons (.cons .bool (.cons (.slice (.int .i64)) .nil)) .nil)) prv' _, .int _ hi', .int _ bo', .int _ lo'], .s (.eptr .fn f)] => .v (aI (greatR ((listOf f (mkK en n1 m1 n2 m2 tot prv hi bo lo))[n.toNat]?.getD dR) ((listOf f (mkK en' n1' m1' n2' m2' tot' prv' hi' bo' lo'))[n.toNat]?.getD dR)))
 | _ => .v (.s .any)⟩
theorem conFstL_eq (kd : Int) (s : ByteArray) (n : Int) (en : Int) (n1 : Bool) (m1 : List (Ty.T tI)) (exm1 : Bool) (n2 : Bool) (m2 : List (Ty.T tI)) (exm2 : Bool) (tot : List (Ty.T tRat)) (extot : Bool) (prv : List (Ty.T tRat)) (exprv : Bool) (hi : Int) (bo : Int) (lo : Int) (en' : Int) (n1' : Bool) (m1' : List (Ty.T tI)) (exm1' : Bool) (n2' : Bool) (m2' : List (Ty.T tI)) (exm2' : Bool) (tot' : List (Ty.T tRat)) (extot' : Bool) (prv' : List (Ty.T tRat)) (exprv' : Bool) (hi' : Int) (bo' : Int) (lo' : Int) (f : Ty.T .fn) : conFstL.pre [.agg [.int .i64 kd, .str s, .int .i64 n], .agg [.int .i64 en, .bool n1, .sl tI m1 exm1, .bool n2, .sl tI m2 exm2, .sl tRat tot extot, .sl tRat prv exprv, .int .i64 hi, .int .i64 bo, .int .i64 lo], .agg [.int .i64 en', .bool n1', .sl tI m1' exm1', .bool n2', .sl tI m2' exm2', .sl tRat tot' extot', .sl tRat prv' exprv', .int .i64 hi', .int .i64 bo', .int .i64 lo'], .s (.eptr .fn f)] = ((f = totF ∨ f = prvF) ∧ 0 ≤ n ∧ n < ((listOf f (mkK en n1 m1 n2 m2 tot prv hi bo lo)).length : Int) ∧ n < ((listOf f (mkK en' n1' m1' n2' m2' tot' prv' hi' bo' lo')).length : Int) ∧ allShort (listOf f (mkK en n1 m1 n2 m2 tot prv hi bo lo)) ∧ allShort (listOf f (mkK en' n1' m1' n2' m2' tot' prv' hi' bo' lo'))) ∧ conFstL.val [.agg [.int .i64 kd, .str s, .int .i64 n], .agg [.int .i64 en, .bool n1, .sl tI m1 exm1, .bool n2, .sl tI m2 exm2, .sl tRat tot extot, .sl tRat prv exprv, .int .i64 hi, .int .i64 bo, .int .i64 lo], .agg [.int .i64 en', .bool n1', .sl tI m1' exm1', .bool n2', .sl tI m2' exm2', .sl tRat tot' extot', .sl tRat prv' exprv', .int .i64 hi', .int .i64 bo', .int .i64 lo'], .s (.eptr .fn f)] = .v (aI (greatR ((listOf f (mkK en n1 m1 n2 m2 tot prv hi bo lo))[n.toNat]?.getD dR) ((listOf f (mkK en' n1' m1' n2' m2' tot' prv' hi' bo' lo'))[n.toNat]?.getD dR))) := ⟨rfl, rfl⟩
theorem fstl_ok : PureOk Tryz.prog 106 conFstL := by
 refine pureOkD (L := { live := [0, 1, 2, 3, 4, 5, 6, 7] }) ti4_good rfl nr_mixed Tryz.func106 rfl conFstL 4 (by decide) (by kernel_rfl) ?_
 intro args hpre hlens
 simp only [conFstL] at hpre
 split at hpre
 case h_2 => exact hpre.elim
 rename_i kd s n en n1 m1 e1 n2 m2 e2 tot et prv ep hi bo lo en' n1' m1' e1' n2' m2' e2' tot' et' prv' ep' hi' bo' lo' f
 simp only [allLen, AV.lenOk, SV.lenOk, Ty.lenOk, maxLen, and_true, implies_true, true_and, List.forall_mem_cons, List.not_mem_nil, false_implies] at hlens
 obtain ⟨hf, hn0, hx, hy, hsx, hsy⟩ := hpre; rcases hf with rfl | rfl <;> simp only [listOf_tot, listOf_prv] at hx hy hsx hsy ⊢ <;> simp only [totF, prvF]
 all_goals refine ⟨rfl, ?_⟩
 all_goals simp -dsimp -implicitDefEqProofs [Tryz.f106, conFstL_eq, listOf_tot', listOf_prv', ti4_all, tiT, ti4Γ, ti4E, ti4P, ti3Γ, ti3E, ti3P, ti1Γ, ti1E, ti1P, ti0Γ, ti0E, ti0P, conGreat_eq, conTot_eq, conPrv_eq, conCmpI_eq, conNaT_eq, inI64]
 ·
  exact ⟨⟨hn0, hx⟩, ⟨hn0, hy⟩, ⟨hsx _ (mem_getD hn0 hx), hsy _ (mem_getD hn0 hy)⟩, rfl⟩
 ·
  exact ⟨⟨hn0, hx⟩, ⟨hn0, hy⟩, ⟨hsx _ (mem_getD hn0 hx), hsy _ (mem_getD hn0 hy)⟩, rfl⟩
noncomputable def conListK : Con := ⟨fun args => (match args with
 | [.s (.fnp f [])] => True
 | _ => False), fun args => match args with
 | [.s (.fnp f [])] => .v (.agg [.fnp 105 [⟨.fn, D.fnOf f []⟩], .fnp 106 [⟨.fn, D.fnOf f []⟩]])
 | _ => .v (.s .any)⟩
theorem conListK_eq (f : FuncId) : conListK.pre [.s (.fnp f [])] = (True) ∧ conListK.val [.s (.fnp f [])] = .v (.agg [.fnp 105 [⟨.fn, D.fnOf f []⟩], .fnp 106 [⟨.fn, D.fnOf f []⟩]]) := ⟨rfl, rfl⟩
theorem listk_ok : PureOk Tryz.prog 104 conListK := by
 refine pureOkD (L := { live := [0, 1, 2], eps := [(1, [1])] }) ti0_good rfl nr_mixed Tryz.func104 rfl conListK 1 (by decide) (by kernel_rfl) ?_
 intro args hpre hlens
 simp only [conListK] at hpre
 split at hpre
 case h_2 => exact hpre.elim
 rename_i f
 simp only [allLen, AV.lenOk, SV.lenOk, Ty.lenOk, maxLen, and_true, implies_true, true_and, List.forall_mem_cons, List.not_mem_nil, false_implies] at hlens
 refine ⟨rfl, ?_⟩
 simp -dsimp -implicitDefEqProofs [Tryz.f104, conListK_eq, ti0_all, tiT, ti0Γ, ti0E, ti0P, inI64]
 done
def kd1 : tKind.T := (D.fnOf 105 [⟨.fn, totF⟩], D.fnOf 106 [⟨.fn, totF⟩], ())
def kd2 : tKind.T := (D.fnOf 105 [⟨.fn, prvF⟩], D.fnOf 106 [⟨.fn, prvF⟩], ())
def kd3 : tKind.T := (D.fnOf 103 [], D.fnOf 109 [], ())
def kd4 : tKind.T := (D.fnOf 103 [], D.fnOf 110 [], ())
def kd6 : tKind.T := (D.fnOf 103 [], D.fnOf 111 [], ())
def kdMap : List (Int × tKind.T) := [(1, kd1), (2, kd2), (3, kd3), (4, kd4), (6, kd6)]
def kindOf (k : Int) : Option tKind.T := mget (fun x y => x == y) k kdMap
noncomputable def ti5Γ : List (FuncId × Con) := (104, conListK) :: ti4Γ
theorem ti5Γ_ok : ∀ p ∈ ti5Γ, (∀ (args : Array Value) (w : World), (callFunc p.1 args).run Tryz.prog w = .ok (.enter p.1 args) w) ∧ PureOk Tryz.prog p.1 p.2 := by
 simp only [ti5Γ, List.forall_mem_cons]
 exact ⟨⟨enters_of Tryz.func104 (by kernel_rfl) rfl, listk_ok⟩, ti4Γ_ok⟩
noncomputable def ti5E : List (FuncId × ECon) := ti4E
theorem ti5E_ok : ∀ p ∈ ti5E, (∀ (args : Array Value) (w : World), (callFunc p.1 args).run Tryz.prog w = .ok (.enter p.1 args) w) ∧ EffOk Tryz.prog p.1 p.2 := by
 simp only [ti5E]
 exact ti4E_ok
noncomputable def ti5P : List (FuncId × PCon) := ti4P
theorem ti5P_ok : ∀ p ∈ ti5P, (∀ (args : Array Value) (w : World), (callFunc p.1 args).run Tryz.prog w = .ok (.enter p.1 args) w) ∧ PanOk Tryz.prog p.1 p.2 := by
 simp only [ti5P]
 exact ti4P_ok
noncomputable def ti5 : G := { τ := tiT, Γ := ti5Γ, E := ti5E, Pn := ti5P }
theorem ti5_good : ti5.good Tryz.prog := good_of_all (tiT_ok _ rfl) ti5Γ_ok ti5E_ok ti5P_ok
theorem ti5_all : (∀ t, ti5.td t = (look tiT t).getD .other) ∧ ti5.y = false ∧ ti5.Γ = ti5Γ ∧ ti5.E = ti5E ∧ ti5.Pn = ti5P ∧ ti5.fz = [] := ⟨fun _ => rfl, rfl, rfl, rfl, rfl, rfl⟩
def conKinds : ECon := { wp := fun args hp K => match args, hp with
 | [], [] => True ∧ K (.v (.s (.mp 0))) [.map tI tKind kdMap]
 | _, _ => False }
theorem kinds_ok : EffOk Tryz.prog 69 conKinds := by
 refine effOkD (L := { live := [0, 1, 2] }) ti5_good rfl nr_mixed Tryz.func69 rfl conKinds 0 (by decide) (by kernel_rfl) ?_
 intro args hp K hpre hlens
 simp only [conKinds] at hpre
 split at hpre
 case h_2 => exact hpre.elim
 skip
 obtain ⟨_, hK⟩ := hpre
 refine ⟨rfl, ?_⟩
 simp -dsimp -implicitDefEqProofs [Tryz.f69, ti5_all, tiT, ti5Γ, ti5E, ti5P, ti4Γ, ti4E, ti4P, ti3Γ, ti3E, ti3P, ti1Γ, ti1E, ti1P, ti0Γ, ti0E, ti0P, conListK_eq, conGreat_eq, conTot_eq, conPrv_eq, conCmpI_eq, conNaT_eq, inI64]
 exact hK
theorem kindOf_cases {n : Int} {kd : tKind.T} (h : kindOf n = some kd) : (n = 1 ∧ kd = kd1) ∨ (n = 2 ∧ kd = kd2) ∨ (n = 3 ∧ kd = kd3) ∨ (n = 4 ∧ kd = kd4) ∨ (n = 6 ∧ kd = kd6) := by
 simp only [kindOf, kdMap, mget, beq_iff_eq] at h
 split at h
 ·
  injection h with h; exact .inl ⟨by assumption, h.symm⟩
 ·
  split at h
  ·
   injection h with h; exact .inr (.inl ⟨by assumption, h.symm⟩)
  ·
   split at h
   ·
    injection h with h; exact .inr (.inr (.inl ⟨by assumption, h.symm⟩))
   ·
    split at h
    ·
     injection h with h; exact .inr (.inr (.inr (.inl ⟨by assumption, h.symm⟩)))
    ·
     split at h
     ·
      injection h with h; exact .inr (.inr (.inr (.inr ⟨by assumption, h.symm⟩)))
     ·
      cases h
def inL (n : Int) (l : List tRat.T) : Bool := decide (0 ≤ n) && decide (n < (l.length : Int))
def hasK (k : tKey.T) (x : tKd.T) : Bool := if k.1 = 1 then inL k.2.2.1 x.2.2.1 else if k.1 = 2 then inL k.2.2.1 x.2.2.2.1 else true
noncomputable def firstK (k : tKey.T) (x y : tKd.T) : Int :=
 if k.1 = 1 then greatR (x.2.2.1[k.2.2.1.toNat]?.getD dR) (y.2.2.1[k.2.2.1.toNat]?.getD dR)
 else if k.1 = 2 then greatR (x.2.2.2.1[k.2.2.1.toNat]?.getD dR) (y.2.2.2.1[k.2.2.1.toNat]?.getD dR)
 else if k.1 = 3 then cmpZ y.2.2.2.2.1 x.2.2.2.2.1
 else if k.1 = 4 then cmpZ y.2.2.2.2.2.1 x.2.2.2.2.2.1
 else cmpZ x.2.2.2.2.2.2.1 y.2.2.2.2.2.2.1
def tame (x : tKd.T) : Prop := shortR x.2.1 ∧ allShort x.2.2.1 ∧ allShort x.2.2.2.1
noncomputable def conP1 : Con := ⟨fun args => (match args with
 | [.agg [.int .i64 en, .bool n1, .sl (.int .i64) m1 _, .bool n2, .sl (.int .i64) m2 _, .sl (.cons (.cons .bool (.cons (.slice (.int .i64)) .nil)) (.cons (.cons .bool (.cons (.slice (.int .i64)) .nil)) .nil)) tot _, .sl (.cons (.cons .bool (.cons (.slice (.int .i64)) .nil)) (.cons (.cons .bool (.cons (.slice (.int .i64)) .nil)) .nil)) prv _, .int .i64 hi, .int .i64 bo, .int .i64 lo], .agg [.int .i64 en', .bool n1', .sl (.int .i64) m1' _, .bool n2', .sl (.int .i64) m2' _, .sl (.cons (.cons .bool (.cons (.slice (.int .i64)) .nil)) (.cons (.cons .bool (.cons (.slice (.int .i64)) .nil)) .nil)) tot' _, .sl (.cons (.cons .bool (.cons (.slice (.int .i64)) .nil)) (.cons (.cons .bool (.cons (.slice (.int .i64)) .nil)) .nil)) prv' _, .int .i64 hi', .int .i64 bo', .int .i64 lo']] => shortR (mkR n1 m1 n2 m2) ∧ shortR (mkR n1' m1' n2' m2')
 | _ => False), fun args => match args with
 | [.agg [.int _ en, .bool n1, .sl (.int .i64) m1 _, .bool n2, .sl (.int .i64) m2 _, .sl (.cons (.cons .bool (.cons (.slice (.int .i64)) .nil)) (.cons (.cons .bool (.cons (.slice (.int .i64)) .nil)) .nil)) tot _, .sl (.cons (.cons .bool (.cons (.slice (.int .i64)) .nil)) (.cons (.cons .bool (.cons (.slice (.int .i64)) .nil)) .nil)) prv _, .int _ hi, .int _ bo, .int _ lo], .agg [.int _ en', .bool n1', .sl (.int .i64) m1' _, .bool n2', .sl (.int .i64) m2' _, .sl (.cons (.cons .bool (.cons (.slice (.int .i64)) .nil)) (.cons (.cons .bool (.cons (.slice (.int .i64)) .nil)) .nil)) tot' _, .sl (.cons (.cons .bool (.cons (.slice (.int .i64)) .nil)) (.cons (.cons .bool (.cons (.slice (.int .i64)) .nil)) .nil)) prv' _, .int _ hi', .int _ bo', .int _ lo']] => .v (aI (greatR (mkR n1 m1 n2 m2) (mkR n1' m1' n2' m2')))
 | _ => .v (.s .any)⟩
theorem conP1_eq (en : Int) (n1 : Bool) (m1 : List (Ty.T tI)) (exm1 : Bool) (n2 : Bool) (m2 : List (Ty.T tI)) (exm2 : Bool) (tot : List (Ty.T tRat)) (extot : Bool) (prv : List (Ty.T tRat)) (exprv : Bool) (hi : Int) (bo : Int) (lo : Int) (en' : Int) (n1' : Bool) (m1' : List (Ty.T tI)) (exm1' : Bool) (n2' : Bool) (m2' : List (Ty.T tI)) (exm2' : Bool) (tot' : List (Ty.T tRat)) (extot' : Bool) (prv' : List (Ty.T tRat)) (exprv' : Bool) (hi' : Int) (bo' : Int) (lo' : Int) : conP1.pre [.agg [.int .i64 en, .bool n1, .sl tI m1 exm1, .bool n2, .sl tI m2 exm2, .sl tRat tot extot, .sl tRat prv exprv, .int .i64 hi, .int .i64 bo, .int .i64 lo], .agg [.int .i64 en', .bool n1', .sl tI m1' exm1', .bool n2', .sl tI m2' exm2', .sl tRat tot' extot', .sl tRat prv' exprv', .int .i64 hi', .int .i64 bo', .int .i64 lo']] = (shortR (mkR n1 m1 n2 m2) ∧ shortR (mkR n1' m1' n2' m2')) ∧ conP1.val [.agg [.int .i64 en, .bool n1, .sl tI m1 exm1, .bool n2, .sl tI m2 exm2, .sl tRat tot extot, .sl tRat prv exprv, .int .i64 hi, .int .i64 bo, .int .i64 lo], .agg [.int .i64 en', .bool n1', .sl tI m1' exm1', .bool n2', .sl tI m2' exm2', .sl tRat tot' extot', .sl tRat prv' exprv', .int .i64 hi', .int .i64 bo', .int .i64 lo']] = .v (aI (greatR (mkR n1 m1 n2 m2) (mkR n1' m1' n2' m2'))) := ⟨rfl, rfl⟩
theorem p1_ok : PureOk Tryz.prog 67 conP1 := by
 refine pureOkD (L := { live := [0, 1, 2, 3, 4] }) ti4_good rfl nr_mixed Tryz.func67 rfl conP1 2 (by decide) (by kernel_rfl) ?_
 intro args hpre hlens
 simp only [conP1] at hpre
 split at hpre
 case h_2 => exact hpre.elim
 rename_i en n1 m1 e1 n2 m2 e2 tot et prv ep hi bo lo en' n1' m1' e1' n2' m2' e2' tot' et' prv' ep' hi' bo' lo'
 simp only [allLen, AV.lenOk, SV.lenOk, Ty.lenOk, maxLen, and_true, implies_true, true_and, List.forall_mem_cons, List.not_mem_nil, false_implies] at hlens
 refine ⟨rfl, ?_⟩
 simp -dsimp -implicitDefEqProofs [Tryz.f67, conP1_eq, ti4_all, tiT, ti4Γ, ti4E, ti4P, ti3Γ, ti3E, ti3P, ti1Γ, ti1E, ti1P, ti0Γ, ti0E, ti0P, conGreat_eq, conTot_eq, conPrv_eq, conCmpI_eq, conNaT_eq, inI64]
 exact hpre
noncomputable def ti6Γ : List (FuncId × Con) := (105, conHasL) :: (106, conFstL) :: (103, conAlw) :: (109, conHig) :: (110, conBon) :: (111, conLot) :: ti4Γ
theorem ti6Γ_ok : ∀ p ∈ ti6Γ, (∀ (args : Array Value) (w : World), (callFunc p.1 args).run Tryz.prog w = .ok (.enter p.1 args) w) ∧ PureOk Tryz.prog p.1 p.2 := by
 simp only [ti6Γ, List.forall_mem_cons]
 exact ⟨⟨enters_of Tryz.func105 (by kernel_rfl) rfl, hasl_ok⟩, ⟨enters_of Tryz.func106 (by kernel_rfl) rfl, fstl_ok⟩, ⟨enters_of Tryz.func103 (by kernel_rfl) rfl, alw_ok⟩, ⟨enters_of Tryz.func109 (by kernel_rfl) rfl, hig_ok⟩, ⟨enters_of Tryz.func110 (by kernel_rfl) rfl, bon_ok⟩, ⟨enters_of Tryz.func111 (by kernel_rfl) rfl, lot_ok⟩, ti4Γ_ok⟩
noncomputable def ti6E : List (FuncId × ECon) := ti4E
theorem ti6E_ok : ∀ p ∈ ti6E, (∀ (args : Array Value) (w : World), (callFunc p.1 args).run Tryz.prog w = .ok (.enter p.1 args) w) ∧ EffOk Tryz.prog p.1 p.2 := by
 simp only [ti6E]
 exact ti4E_ok
noncomputable def ti6P : List (FuncId × PCon) := ti4P
theorem ti6P_ok : ∀ p ∈ ti6P, (∀ (args : Array Value) (w : World), (callFunc p.1 args).run Tryz.prog w = .ok (.enter p.1 args) w) ∧ PanOk Tryz.prog p.1 p.2 := by
 simp only [ti6P]
 exact ti4P_ok
noncomputable def ti6 : G := { τ := tiT, Γ := ti6Γ, E := ti6E, Pn := ti6P }
theorem ti6_good : ti6.good Tryz.prog := good_of_all (tiT_ok _ rfl) ti6Γ_ok ti6E_ok ti6P_ok
theorem ti6_all : (∀ t, ti6.td t = (look tiT t).getD .other) ∧ ti6.y = false ∧ ti6.Γ = ti6Γ ∧ ti6.E = ti6E ∧ ti6.Pn = ti6P ∧ ti6.fz = [] := ⟨fun _ => rfl, rfl, rfl, rfl, rfl, rfl⟩
noncomputable def conP2 : Con := ⟨fun args => (match args with
 | [.agg [.int .i64 en, .bool n1, .sl (.int .i64) m1 _, .bool n2, .sl (.int .i64) m2 _, .sl (.cons (.cons .bool (.cons (.slice (.int .i64)) .nil)) (.cons (.cons .bool (.cons (.slice (.int .i64)) .nil)) .nil)) tot _, .sl (.cons (.cons .bool (.cons (.slice (.int .i64)) .nil)) (.cons (.cons .bool (.cons (.slice (.int .i64)) .nil)) .nil)) prv _, .int .i64 hi, .int .i64 bo, .int .i64 lo], .s (.eptr (.cons .fn (.cons .fn .nil)) kd), .s (.eptr (.cons (.int .i64) (.cons .str (.cons (.int .i64) .nil))) k)] => kindOf k.1 = some kd
 | _ => False), fun args => match args with
 | [.agg [.int _ en, .bool n1, .sl (.int .i64) m1 _, .bool n2, .sl (.int .i64) m2 _, .sl (.cons (.cons .bool (.cons (.slice (.int .i64)) .nil)) (.cons (.cons .bool (.cons (.slice (.int .i64)) .nil)) .nil)) tot _, .sl (.cons (.cons .bool (.cons (.slice (.int .i64)) .nil)) (.cons (.cons .bool (.cons (.slice (.int .i64)) .nil)) .nil)) prv _, .int _ hi, .int _ bo, .int _ lo], .s (.eptr (.cons .fn (.cons .fn .nil)) kd), .s (.eptr (.cons (.int .i64) (.cons .str (.cons (.int .i64) .nil))) k)] => .v (aB (hasK k (mkK en n1 m1 n2 m2 tot prv hi bo lo)))
 | _ => .v (.s .any)⟩
theorem conP2_eq (en : Int) (n1 : Bool) (m1 : List (Ty.T tI)) (exm1 : Bool) (n2 : Bool) (m2 : List (Ty.T tI)) (exm2 : Bool) (tot : List (Ty.T tRat)) (extot : Bool) (prv : List (Ty.T tRat)) (exprv : Bool) (hi : Int) (bo : Int) (lo : Int) (kd : Ty.T (.cons .fn (.cons .fn .nil))) (k : Ty.T tKey) : conP2.pre [.agg [.int .i64 en, .bool n1, .sl tI m1 exm1, .bool n2, .sl tI m2 exm2, .sl tRat tot extot, .sl tRat prv exprv, .int .i64 hi, .int .i64 bo, .int .i64 lo], .s (.eptr (.cons .fn (.cons .fn .nil)) kd), .s (.eptr tKey k)] = (kindOf k.1 = some kd) ∧ conP2.val [.agg [.int .i64 en, .bool n1, .sl tI m1 exm1, .bool n2, .sl tI m2 exm2, .sl tRat tot extot, .sl tRat prv exprv, .int .i64 hi, .int .i64 bo, .int .i64 lo], .s (.eptr (.cons .fn (.cons .fn .nil)) kd), .s (.eptr tKey k)] = .v (aB (hasK k (mkK en n1 m1 n2 m2 tot prv hi bo lo))) := ⟨rfl, rfl⟩
theorem p2_ok : PureOk Tryz.prog 70 conP2 := by
 refine pureOkD (L := { live := [0, 1, 2, 3, 4] }) ti6_good rfl nr_mixed Tryz.func70 rfl conP2 3 (by decide) (by kernel_rfl) ?_
 intro args hpre hlens
 simp only [conP2] at hpre
 split at hpre
 case h_2 => exact hpre.elim
 rename_i en n1 m1 e1 n2 m2 e2 tot et prv ep hi bo lo kd k
 simp only [allLen, AV.lenOk, SV.lenOk, Ty.lenOk, maxLen, and_true, implies_true, true_and, List.forall_mem_cons, List.not_mem_nil, false_implies] at hlens
 obtain ⟨k0, ks, kn, ⟨⟩⟩ := k; rcases kindOf_cases hpre with ⟨hk, rfl⟩ | ⟨hk, rfl⟩ | ⟨hk, rfl⟩ | ⟨hk, rfl⟩ | ⟨hk, rfl⟩ <;> simp only at hk <;> subst hk <;> simp only [kd1, kd2, kd3, kd4, kd6]
 all_goals refine ⟨rfl, ?_⟩
 all_goals simp -dsimp -implicitDefEqProofs [Tryz.f70, conP2_eq, ti6_all, tiT, ti6Γ, ti6E, ti6P, ti4Γ, ti4E, ti4P, ti3Γ, ti3E, ti3P, ti1Γ, ti1E, ti1P, ti0Γ, ti0E, ti0P, conHasL_eq, conFstL_eq, conAlw_eq, conHig_eq, conBon_eq, conLot_eq, conGreat_eq, conTot_eq, conPrv_eq, conCmpI_eq, conNaT_eq, inI64]
 ·
  rw [listOf_tot]; rfl
 ·
  rw [listOf_prv]; rfl
 ·
  rfl
 ·
  rfl
 ·
  rfl
noncomputable def conP3 : Con := ⟨fun args => (match args with
 | [.agg [.int .i64 en, .bool n1, .sl (.int .i64) m1 _, .bool n2, .sl (.int .i64) m2 _, .sl (.cons (.cons .bool (.cons (.slice (.int .i64)) .nil)) (.cons (.cons .bool (.cons (.slice (.int .i64)) .nil)) .nil)) tot _, .sl (.cons (.cons .bool (.cons (.slice (.int .i64)) .nil)) (.cons (.cons .bool (.cons (.slice (.int .i64)) .nil)) .nil)) prv _, .int .i64 hi, .int .i64 bo, .int .i64 lo], .agg [.int .i64 en', .bool n1', .sl (.int .i64) m1' _, .bool n2', .sl (.int .i64) m2' _, .sl (.cons (.cons .bool (.cons (.slice (.int .i64)) .nil)) (.cons (.cons .bool (.cons (.slice (.int .i64)) .nil)) .nil)) tot' _, .sl (.cons (.cons .bool (.cons (.slice (.int .i64)) .nil)) (.cons (.cons .bool (.cons (.slice (.int .i64)) .nil)) .nil)) prv' _, .int .i64 hi', .int .i64 bo', .int .i64 lo'], .s (.eptr (.cons .fn (.cons .fn .nil)) kd), .s (.eptr (.cons (.int .i64) (.cons .str (.cons (.int .i64) .nil))) k)] => kindOf k.1 = some kd ∧ hasK k (mkK en n1 m1 n2 m2 tot prv hi bo lo) = true ∧ hasK k (mkK en' n1' m1' n2' m2' tot' prv' hi' bo' lo') = true ∧ tame (mkK en n1 m1 n2 m2 tot prv hi bo lo) ∧ tame (mkK en' n1' m1' n2' m2' tot' prv' hi' bo' lo')
 | _ => False), fun args => match args with
 | [.agg [.int _ en, .bool n1, .sl (.int .i64) m1 _, .bool n2, .sl (.int .i64) m2 _, .sl (.cons (.cons .bool (.cons (.slice (.int .i64)) .nil)) (.cons (.cons .bool (.cons (.slice (.int .i64)) .nil)) .nil)) tot _, .sl (.cons (.cons .bool (.cons (.slice (.int .i64)) .nil)) (.cons (.cons .bool (.cons (.slice (.int .i64)) .nil)) .nil)) prv _, .int _ hi, .int _ bo, .int _ lo], .agg [.int _ en', .bool n1', .sl (.int .i64) m1' _, .bool n2', .sl (.int .i64) m2' _, .sl (.cons (.cons .bool (.cons (.slice (.int .i64)) .nil)) (.cons (.cons .bool (.cons (.slice (.int .i64)) .nil)) .nil)) tot' _, .sl (.cons (.cons .bool (.cons (.slice (.int .i64)) .nil)) (.cons (.cons .bool (.cons (.slice (.int .i64)) .nil)) .nil)) prv' _, .int _ hi', .int _ bo', .int _ lo'], .s (.eptr (.cons .fn (.cons .fn .nil)) kd), .s (.eptr (.cons (.int .i64) (.cons .str (.cons (.int .i64) .nil))) k)] => .v (aI (firstK k (mkK en n1 m1 n2 m2 tot prv hi bo lo) (mkK en' n1' m1' n2' m2' tot' prv' hi' bo' lo')))
 | _ => .v (.s .any)⟩
theorem conP3_eq (en : Int) (n1 : Bool) (m1 : List (Ty.T tI)) (exm1 : Bool) (n2 : Bool) (m2 : List (Ty.T tI)) (exm2 : Bool) (tot : List (Ty.T tRat)) (extot : Bool) (prv : List (Ty.T tRat)) (exprv : Bool) (hi : Int) (bo : Int) (lo : Int) (en' : Int) (n1' : Bool) (m1' : List (Ty.T tI)) (exm1' : Bool) (n2' : Bool) (m2' : List (Ty.T tI)) (exm2' : Bool) (tot' : List (Ty.T tRat)) (extot' : Bool) (prv' : List (Ty.T tRat)) (exprv' : Bool) (hi' : Int) (bo' : Int) (lo' : Int) (kd : Ty.T (.cons .fn (.cons .fn .nil))) (k : Ty.T tKey) : conP3.pre [.agg [.int .i64 en, .bool n1, .sl tI m1 exm1, .bool n2, .sl tI m2 exm2, .sl tRat tot extot, .sl tRat prv exprv, .int .i64 hi, .int .i64 bo, .int .i64 lo], .agg [.int .i64 en', .bool n1', .sl tI m1' exm1', .bool n2', .sl tI m2' exm2', .sl tRat tot' extot', .sl tRat prv' exprv', .int .i64 hi', .int .i64 bo', .int .i64 lo'], .s (.eptr (.cons .fn (.cons .fn .nil)) kd), .s (.eptr tKey k)] = (kindOf k.1 = some kd ∧ hasK k (mkK en n1 m1 n2 m2 tot prv hi bo lo) = true ∧ hasK k (mkK en' n1' m1' n2' m2' tot' prv' hi' bo' lo') = true ∧ tame (mkK en n1 m1 n2 m2 tot prv hi bo lo) ∧ tame (mkK en' n1' m1' n2' m2' tot' prv' hi' bo' lo')) ∧ conP3.val [.agg [.int .i64 en, .bool n1, .sl tI m1 exm1, .bool n2, .sl tI m2 exm2, .sl tRat tot extot, .sl tRat prv exprv, .int .i64 hi, .int .i64 bo, .int .i64 lo], .agg [.int .i64 en', .bool n1', .sl tI m1' exm1', .bool n2', .sl tI m2' exm2', .sl tRat tot' extot', .sl tRat prv' exprv', .int .i64 hi', .int .i64 bo', .int .i64 lo'], .s (.eptr (.cons .fn (.cons .fn .nil)) kd), .s (.eptr tKey k)] = .v (aI (firstK k (mkK en n1 m1 n2 m2 tot prv hi bo lo) (mkK en' n1' m1' n2' m2' tot' prv' hi' bo' lo'))) := ⟨rfl, rfl⟩
theorem p3_ok : PureOk Tryz.prog 71 conP3 := by
 refine pureOkD (L := { live := [0, 1, 2, 3, 4, 5, 6] }) ti6_good rfl nr_mixed Tryz.func71 rfl conP3 4 (by decide) (by kernel_rfl) ?_
 intro args hpre hlens
 simp only [conP3] at hpre
 split at hpre
 case h_2 => exact hpre.elim
 rename_i en n1 m1 e1 n2 m2 e2 tot et prv ep hi bo lo en' n1' m1' e1' n2' m2' e2' tot' et' prv' ep' hi' bo' lo' kd k
 simp only [allLen, AV.lenOk, SV.lenOk, Ty.lenOk, maxLen, and_true, implies_true, true_and, List.forall_mem_cons, List.not_mem_nil, false_implies] at hlens
 obtain ⟨k0, ks, kn, ⟨⟩⟩ := k; obtain ⟨hkd, hx, hy, htx, hty⟩ := hpre; rcases kindOf_cases hkd with ⟨hk, rfl⟩ | ⟨hk, rfl⟩ | ⟨hk, rfl⟩ | ⟨hk, rfl⟩ | ⟨hk, rfl⟩ <;> simp only at hk <;> subst hk <;> simp only [kd1, kd2, kd3, kd4, kd6]
 all_goals refine ⟨rfl, ?_⟩
 all_goals simp -dsimp -implicitDefEqProofs [Tryz.f71, conP3_eq, ti6_all, tiT, ti6Γ, ti6E, ti6P, ti4Γ, ti4E, ti4P, ti3Γ, ti3E, ti3P, ti1Γ, ti1E, ti1P, ti0Γ, ti0E, ti0P, conHasL_eq, conFstL_eq, conAlw_eq, conHig_eq, conBon_eq, conLot_eq, conGreat_eq, conTot_eq, conPrv_eq, conCmpI_eq, conNaT_eq, inI64]
 ·
  rw [listOf_tot, listOf_tot]
  have hx' : inL kn tot = true := hx
  have hy' : inL kn tot' = true := hy
  simp only [inL, Bool.and_eq_true, decide_eq_true_eq] at hx' hy'
  exact ⟨⟨hx'.1, hx'.2, hy'.2, htx.2.1, hty.2.1⟩, rfl⟩
 ·
  rw [listOf_prv, listOf_prv]
  have hx' : inL kn prv = true := hx
  have hy' : inL kn prv' = true := hy
  simp only [inL, Bool.and_eq_true, decide_eq_true_eq] at hx' hy'
  exact ⟨⟨hx'.1, hx'.2, hy'.2, htx.2.2, hty.2.2⟩, rfl⟩
 ·
  rfl
 ·
  rfl
 ·
  rfl
def kdOf (k : tKey.T) : tKind.T := (kindOf k.1).getD (.nofn, .nofn, ())
def known (k : tKey.T) : Bool := (kindOf k.1).isSome
def hasF (k : tKey.T) : D .fn := D.fnOf 70 [⟨tKind, kdOf k⟩, ⟨tKey, k⟩]
def fstF (k : tKey.T) : D .fn := D.fnOf 71 [⟨tKind, kdOf k⟩, ⟨tKey, k⟩]
def headF : D .fn := D.fnOf 67 []
def hasLs (ks : List tKey.T) : List (D .fn) := (ks.takeWhile known).map hasF
def fstLs (ks : List tKey.T) : List (D .fn) := headF :: (ks.takeWhile known).map fstF
def hasT (ks : List tKey.T) (i : Nat) : List (D .fn) := (ks.take i).map hasF
def fstT (ks : List tKey.T) (i : Nat) : List (D .fn) := headF :: (ks.take i).map fstF
theorem hasT_len {ks : List tKey.T} {i : Nat} (h : i ≤ ks.length) : (hasT ks i).length = i := by simp [hasT]; omega
theorem fstT_len {ks : List tKey.T} {i : Nat} (h : i ≤ ks.length) : (fstT ks i).length = i + 1 := by simp [fstT]; omega
theorem hasT_zero (ks : List tKey.T) : hasT ks 0 = [] := rfl
theorem fstT_zero (ks : List tKey.T) : fstT ks 0 = [D.fnOf 67 []] := rfl
theorem hasT_succ {ks : List tKey.T} {i : Nat} (h : i < ks.length) {kd : tKind.T} (hk : kindOf ks[i].1 = some kd) : hasT ks (i + 1) = hasT ks i ++ [D.fnOf 70 [⟨tKind, kd⟩, ⟨tKey, ks[i]⟩]] := by
 simp only [hasT, List.take_add_one, List.getElem?_eq_getElem h, Option.toList, List.map_append, List.map_cons, List.map_nil, hasF, kdOf, hk, Option.getD_some]
theorem fstT_succ {ks : List tKey.T} {i : Nat} (h : i < ks.length) {kd : tKind.T} (hk : kindOf ks[i].1 = some kd) : fstT ks (i + 1) = fstT ks i ++ [D.fnOf 71 [⟨tKind, kd⟩, ⟨tKey, ks[i]⟩]] := by
 simp only [fstT, List.take_add_one, List.getElem?_eq_getElem h, Option.toList, List.map_append, List.map_cons, List.map_nil, fstF, kdOf, hk, Option.getD_some, List.cons_append]
theorem take_known {ks : List tKey.T} : ∀ {i : Nat}, i ≤ ks.length → (∀ j (h : j < ks.length), j < i → known ks[j] = true) → (∀ h : i < ks.length, known ks[i] = false) → ks.takeWhile known = ks.take i := by
 induction ks with
 | nil => intro i _ _ _; simp
 | cons x r ih =>
  intro i hi h1 h2
  cases i with
  | zero => have := h2 (by simp); simp at this; simp [this]
  | succ i =>
   have h0 := h1 0 (by simp) (by omega)
   simp only [List.getElem_cons_zero] at h0
   simp only [List.takeWhile_cons, h0, if_true, List.take_succ_cons, List.cons.injEq, true_and]
   exact ih (by simpa using hi) (fun j h hj => by have := h1 (j + 1) (by simpa using h) (by omega); simpa using this) (fun h => by have := h2 (by simpa using h); simpa using this)
theorem hasLs_at {ks : List tKey.T} {i : Nat} (hi : i ≤ ks.length) (h1 : ∀ j (h : j < ks.length), j < i → known ks[j] = true) (h2 : ∀ h : i < ks.length, known ks[i] = false) : hasT ks i = hasLs ks ∧ fstT ks i = fstLs ks := by
 simp [hasT, fstT, hasLs, fstLs, take_known hi h1 h2]
def plainB (ks : List tKey.T) : Bool := ks.all known && decide (ks.length ≤ 32)
noncomputable def ti7Γ : List (FuncId × Con) := ti0Γ
theorem ti7Γ_ok : ∀ p ∈ ti7Γ, (∀ (args : Array Value) (w : World), (callFunc p.1 args).run Tryz.prog w = .ok (.enter p.1 args) w) ∧ PureOk Tryz.prog p.1 p.2 := by
 simp only [ti7Γ]
 exact ti0Γ_ok
noncomputable def ti7E : List (FuncId × ECon) := (69, conKinds) :: ti0E
theorem ti7E_ok : ∀ p ∈ ti7E, (∀ (args : Array Value) (w : World), (callFunc p.1 args).run Tryz.prog w = .ok (.enter p.1 args) w) ∧ EffOk Tryz.prog p.1 p.2 := by
 simp only [ti7E, List.forall_mem_cons]
 exact ⟨⟨enters_of Tryz.func69 (by kernel_rfl) rfl, kinds_ok⟩, ti0E_ok⟩
noncomputable def ti7P : List (FuncId × PCon) := ti0P
theorem ti7P_ok : ∀ p ∈ ti7P, (∀ (args : Array Value) (w : World), (callFunc p.1 args).run Tryz.prog w = .ok (.enter p.1 args) w) ∧ PanOk Tryz.prog p.1 p.2 := by
 simp only [ti7P]
 exact ti0P_ok
noncomputable def ti7 : G := { τ := tiT, Γ := ti7Γ, E := ti7E, Pn := ti7P }
theorem ti7_good : ti7.good Tryz.prog := good_of_all (tiT_ok _ rfl) ti7Γ_ok ti7E_ok ti7P_ok
theorem ti7_all : (∀ t, ti7.td t = (look tiT t).getD .other) ∧ ti7.y = false ∧ ti7.Γ = ti7Γ ∧ ti7.E = ti7E ∧ ti7.Pn = ti7P ∧ ti7.fz = [] := ⟨fun _ => rfl, rfl, rfl, rfl, rfl, rfl⟩
noncomputable def conPlain : Con := ⟨fun args => (match args with
 | [.s (.sl (.cons (.int .i64) (.cons .str (.cons (.int .i64) .nil))) ks _)] => ks.length ≤ 100000
 | _ => False), fun args => match args with
 | [.s (.sl (.cons (.int .i64) (.cons .str (.cons (.int .i64) .nil))) ks _)] => .tup [.agg [.sl .fn (hasLs ks) false, .sl .fn (fstLs ks) false], aB (plainB ks)]
 | _ => .v (.s .any)⟩
theorem conPlain_eq (ks : List (Ty.T tKey)) (exks : Bool) : conPlain.pre [.s (.sl tKey ks exks)] = (ks.length ≤ 100000) ∧ conPlain.val [.s (.sl tKey ks exks)] = .tup [.agg [.sl .fn (hasLs ks) false, .sl .fn (fstLs ks) false], aB (plainB ks)] := ⟨rfl, rfl⟩
theorem plain_ok : PureOk Tryz.prog 40 conPlain := by
 refine pureOkD (L := { live := [0, 2, 3, 4, 6, 7, 8, 15, 16, 17, 18, 29], eps := [(9, [7, 6]), (10, [7, 6])], frz := [(8, [2]), (12, [2])] }) ti7_good rfl nr_mixed Tryz.func40 rfl conPlain 1 (by decide) (by kernel_rfl) ?_
 intro args hpre hlens
 simp only [conPlain] at hpre
 split at hpre
 case h_2 => exact hpre.elim
 rename_i ks ek
 simp only [allLen, AV.lenOk, SV.lenOk, Ty.lenOk, maxLen, and_true, implies_true, true_and, List.forall_mem_cons, List.not_mem_nil, false_implies] at hlens
 refine ⟨rfl, ?_⟩
 simp -dsimp -implicitDefEqProofs [Tryz.f40, conPlain_eq, ti7_all, tiT, ti7Γ, ti7E, ti7P, ti0Γ, ti0E, ti0P, conKinds, inI64]
 have hmx : 200000 ≤ maxLen := by simp only [maxLen]; omega
 refine ⟨by omega, ?_⟩
 refine WpD.turn _ (Turn.virtBox (b := 0) (off := 0) (t := .fn) (xs := []) rfl rfl) ?_
 refine WpD.loop (L := { live := [0, 2, 3, 4, 6, 7, 8, 15, 16, 17, 18, 29], eps := [(9, [7, 6]), (10, [7, 6])], frz := [(8, [2]), (12, [2])] }) ti7_good X0_ok nr_mixed (by kernel_rfl)
  (fun i : Nat => ⟨[(0, vS tKey ks ek), (2, ⟨true, .v (.s (.box 0 0))⟩), (3, vB false), (4, ⟨true, .v (.s (.mp 2))⟩), (15, vS tKey ks ek), (16, vI ks.length), (17, vI i)], [.cells [.own .fn 3 (hasT ks i).length, .own .fn 1 (fstT ks i).length], .arr true (Ty.fn.flats (fstT ks i)), .map tI tKind kdMap, .arr (decide (0 < i)) (Ty.fn.flats (hasT ks i))]⟩)
  (fun i => i ≤ ks.length ∧ ∀ j (h : j < ks.length), j < i → known ks[j] = true) (fun i => ks.length - i) 0 ⟨Nat.zero_le _, fun j _ h => absurd h (by omega)⟩ (Turn.le (by simp -dsimp -implicitDefEqProofs [hasT_zero, fstT_zero])) ?_
 rintro i ⟨hi, hk⟩
 have l1 := hasT_len hi
 have l2 := fstT_len hi
 have hm : ∀ n : Int, mget (fun x x_1 => x == x_1) n kdMap = kindOf n := fun n => rfl
 rcases Nat.lt_or_ge i ks.length with hil | hge
 ·
  rcases hkn : kindOf ks[i].1 with _ | kd
  ·
   obtain ⟨q1, q2⟩ := hasLs_at hi hk (fun h => by simp [known, hkn])
   rw [q1, q2] at *
   simp -dsimp -implicitDefEqProofs [conPlain_eq, hil, hm, hkn, ti7_all, tiT, ti7Γ, ti7E, ti7P, ti0Γ, ti0E, ti0P, conKinds, inI64]
   refine ⟨_, rfl, rfl, rfl, ?_⟩
   rw [plainB, Bool.and_eq_false_iff]
   left
   rw [List.all_eq_false]
   exact ⟨ks[i], List.getElem_mem hil, by simp [known, hkn]⟩
  ·
   have s1 := hasT_succ hil hkn
   have s2 := fstT_succ hil hkn
   simp -dsimp -implicitDefEqProofs [conPlain_eq, hil, hm, hkn, ti7_all, tiT, ti7Γ, ti7E, ti7P, ti0Γ, ti0E, ti0P, conKinds, inI64]
   rw [l1, l2]
   refine ⟨⟨by omega, by omega⟩, ⟨by omega, by omega⟩, ⟨by omega, by omega⟩, i + 1, ⟨by omega, fun j h hj => ?_⟩, by omega, ?_⟩
   ·
    rcases Nat.lt_or_ge j i with h3 | h3
    ·
     exact hk j h h3
    ·
     obtain rfl : j = i := by omega
     simp [known, hkn]
   have l3 := hasT_len (show i + 1 ≤ ks.length by omega)
   have l4 := fstT_len (show i + 1 ≤ ks.length by omega)
   rw [l3, l4, s1, s2]
   have hp0 : decide (0 < i + 1) = true := by simp
   rw [hp0]
   generalize fstT ks i = F at *
   generalize hasT ks i = H at *
   generalize ks[i] = kk at *
   obtain ⟨k0, k1, k2, ⟨⟩⟩ := kk
   obtain ⟨d0, d1, ⟨⟩⟩ := kd
   dsimp only
   exact TurnT.trunc X0_ok (hp := [.cells [.own .fn 3 (i + 1), .own .fn 1 (i + 1 + 1)], .arr true _, .map tI tKind kdMap, .arr true _]) (junk := [_, _]) (by simp) (by simp only [List.length_cons, List.length_nil, List.all_cons, List.all_nil, arr_below, Bool.and_true] <;> simp [Blk.below, SV.below]) (by simp -dsimp -implicitDefEqProofs) (by simp [envBelow, RV.below, AV.below, SV.below])
 ·
  obtain rfl : i = ks.length := by omega
  have hn : ¬ ks.length < ks.length := by omega
  obtain ⟨q1, q2⟩ := hasLs_at (i := ks.length) (Nat.le_refl _) hk (fun h => absurd h hn)
  rw [q1, q2] at *
  simp -dsimp -implicitDefEqProofs [conPlain_eq, hn, ti7_all, tiT, ti7Γ, ti7E, ti7P, ti0Γ, ti0E, ti0P, conKinds, inI64]
  refine ⟨_, rfl, rfl, rfl, ?_⟩
  have ha : ks.all known = true := by
   rw [List.all_eq_true]
   intro k hk2
   obtain ⟨j, hj, rfl⟩ := List.mem_iff_getElem.1 hk2
   exact hk j hj hj
  rw [plainB, ha, Bool.true_and]
  rw [decide_eq_decide]
  omega
end Go.Am
