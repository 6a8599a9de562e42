/- Part 6 of the proof's base. -/
import Derived.Test.YtnekjoocbfbmaaaGreatK5
set_option linter.all false
namespace Go.Am
set_option maxHeartbeats 4000000
set_option maxRecDepth 20000
open Go.RowKit Go.Proofs
attribute [local simp] thenKD_normal thenKD_exit thenKD_goto thenKD_ret inBlockKD_normal inBlockKD_exit inBlockKD_goto inBlockKD_ret noGotoKD_normal noGotoKD_exit noGotoKD_goto noGotoKD_ret roundKD_normal roundKD_exit roundKD_goto roundKD_ret frzSlotsD_nil frzSlotsD_cons frzSlotD_eq yieldVCD_trace opVCD_eq vcOpsD_nil vcOpsD_cons vcAllD_zero vcAllD_succ allAtD_nil allAtD_cons readyAux edgA vcD_skip vcD_label vcD_exit vcD_goto vcD_ret vcD_region vcD_seq vcD_seqC vcD_cond vcCondD_bool vcD_block vcD_scope vcD_loop vcD_rangeFunc yieldOf isMem isMem0 keepE envLe St.le psE yieldAV round_td round_y round_Γ vI vB vS aI aB aS look getE oper opRV putE allOk okOps Op.operands Call.operands pEv qEv mEv constRV coe RV.av loadEv loadCs takeAt indexAddrEv fieldAddrEv binEv intEv arith unEv gcond pickEv argsEv callVal callEv capAV_mk lenArgs lenEv minEv extractEv convEv funcEv allBox bound sliceEv lookupEv TD.isBool allocEv boxEv storeEv spl plainTD appendEv appendArgs makeMapEv mapUpdateEv buildEv buildSliceEv fillSV zsvOf sizeTD Ty.parses parses_flats' coeA flats_length AV.good AV.cells AV.pure SV.pure av_int av_bool av_str av_slice av_cons av_fld0 av_fld1 av_fld2 av_fld3 av_fld4 Ty.of Ty.dflt Ty.parse Ty.flat Ty.zsv Ty.fld Ty.get Ty.off Ty.nfld Ty.size coeTy junk Blk.look argEnv resEv resOk resVs oneRV retOk frzAs frzAV frzL frzSV boxCaps boxCap SV.sig sigs RV.scalar AV.scalar SV.scalar nope effVCD_eq effOf SV.ids AV.ids dedup SV.ren AV.ren RV.ren idx outId mergeB Blk.pureB flats_pure flat_pure epsSlotsD_nil epsSlotsD_cons epsSlotD_eq allEp D.parts_fnOf fvParts retEff round_E av_fn G.ye isCutD_nil isCutD_cons firstReg_region firstReg_seq firstReg_skip firstReg_ret firstReg_label firstReg_exit firstReg_goto firstReg_cond firstReg_block firstReg_scope firstReg_loop firstReg_rf eptrOf_mk flOfD_nil flOfD_cons vcFlD_cons vcFlD_nil flPairs_nil flPairs_cons vcFrD_nil vcFrD_cons makeSliceEv vcCondD_ib fzEv unfl_flats isFz round_fz panVCD_eq panOf isShift strIdxEv ifaceEv nilChkEv sliceAnyEv sliceOwnEv sliceSufEv appendEv0 appendEv1 Ty.beq Ty.isAgg round_Pn vcDefD_seqR vcDefD_seqS vcDefD_seqC vcDefD_seqB vcDefD_seqL vcDefD_seqF vcDefD_seqSc vcDefD_region vcDefD_ret vcDefD_cond vcDefD_block vcDefD_loop thenKD_panic inBlockKD_panic noGotoKD_panic exitOk_normal exitOk_ret exitOk_panic exitOk_exit runDefs_none runDefs_some runDefs_cons defRegD isDefer defOf caughtCon unfl_cons D.bpart_bndOf D.parts_bndOf AV.sig
attribute [local simp ←] flats_append
theorem natErr_0 {ng : Bool} {m : List Int} : natErr ng m = 0 ↔ okBig ng m := by
 unfold natErr
 split <;> simp_all
theorem twoErr_0 {n1 : Bool} {m1 : List Int} {n2 : Bool} {m2 : List Int} : twoErr n1 m1 n2 m2 = 0 ↔ okBig n1 m1 ∧ okBig n2 m2 := by
 unfold twoErr
 split
 ·
  rw [natErr_0]; simp_all
 ·
  simp_all
noncomputable def gcdD (n1 : Bool) (m1 : List Int) (n2 : Bool) (m2 : List Int) : List Int := if twoErr n1 m1 n2 m2 = 0 then dig (Nat.gcd (vl m1) (vl m2)) else []
noncomputable def limD (n : Nat) : List Int := if (dig n).length ≤ 2048 then dig n else []
noncomputable def limE (n : Nat) : Int := if (dig n).length ≤ 2048 then 0 else 2
structure TwoL where
 x : List Int
 ex : Bool
 y : List Int
 ey : Bool
noncomputable def conOf9 : Con := ⟨fun args => (match args with
 | [.s (.bool ng), .s (.sl (.int .i64) m _)] => okD m
 | _ => False), fun args => match args with
 | [.s (.bool ng), .s (.sl (.int .i64) m _)] => .tup [.agg [.bool (ng && decide (limD (vl m) ≠ [])), .sl tI (limD (vl m)) false], aI (limE (vl m))]
 | _ => .v (.s .any)⟩
theorem conOf9_eq (ng : Bool) (m : List (Ty.T tI)) (exm : Bool) : conOf9.pre [.s (.bool ng), .s (.sl tI m exm)] = (okD m) ∧ conOf9.val [.s (.bool ng), .s (.sl tI m exm)] = .tup [.agg [.bool (ng && decide (limD (vl m) ≠ [])), .sl tI (limD (vl m)) false], aI (limE (vl m))] := ⟨rfl, rfl⟩
theorem of9_ok : PureOk Tryz.prog 195 conOf9 := by
 refine pureOkD (L := { live := [0, 1, 4, 5, 10] }) nr6_good rfl nr_mixed Tryz.func195 rfl conOf9 2 (by decide) (by kernel_rfl) ?_
 intro args hpre hlens
 simp only [conOf9] at hpre
 split at hpre
 case h_2 => exact hpre.elim
 rename_i ng m em
 simp only [allLen, AV.lenOk, SV.lenOk, Ty.lenOk, maxLen, and_true, implies_true, true_and, List.forall_mem_cons, List.not_mem_nil, false_implies] at hlens
 refine ⟨rfl, ?_⟩
 simp -dsimp -implicitDefEqProofs [Tryz.f195, conOf9_eq, nr6_all, nrT, nr6Γ, nr6E, nr6P, nr5Γ, nr5E, nr5P, nr4Γ, nr4E, nr4P, nr3Γ, nr3E, nr3P, nr0Γ, nr0E, nr0P, conDivide_eq, conTimes_eq, conLess9_eq, conTwo_eq, conTrim_eq, conAt_eq, conRCheck_eq, conRCmpD_eq, inI64]
 obtain ⟨m, rfl⟩ : ∃ y : List Int, y = m := ⟨m, rfl⟩
 unfold limD limE
 rw [dig_vl hpre]
 refine ⟨fun h => ?_, fun h => ?_⟩
 ·
  rw [if_neg (by omega), if_neg (by omega)]; simp
 ·
  rw [if_pos (by omega), if_pos (by omega)]
  cases trimL m <;> simp
noncomputable def conGcd9 : Con := ⟨fun args => (match args with
 | [.agg [.bool n1, .sl (.int .i64) m1 _], .agg [.bool n2, .sl (.int .i64) m2 _]] => True
 | _ => False), fun args => match args with
 | [.agg [.bool n1, .sl (.int .i64) m1 _], .agg [.bool n2, .sl (.int .i64) m2 _]] => .tup [.agg [.bool false, .sl tI (gcdD n1 m1 n2 m2) false], aI (twoErr n1 m1 n2 m2)]
 | _ => .v (.s .any)⟩
theorem conGcd9_eq (n1 : Bool) (m1 : List (Ty.T tI)) (exm1 : Bool) (n2 : Bool) (m2 : List (Ty.T tI)) (exm2 : Bool) : conGcd9.pre [.agg [.bool n1, .sl tI m1 exm1], .agg [.bool n2, .sl tI m2 exm2]] = (True) ∧ conGcd9.val [.agg [.bool n1, .sl tI m1 exm1], .agg [.bool n2, .sl tI m2 exm2]] = .tup [.agg [.bool false, .sl tI (gcdD n1 m1 n2 m2) false], aI (twoErr n1 m1 n2 m2)] := ⟨rfl, rfl⟩
noncomputable def nr7Γ : List (FuncId × Con) := (195, conOf9) :: nr6Γ
theorem nr7Γ_ok : ∀ p ∈ nr7Γ, (∀ (args : Array Value) (w : World), (callFunc p.1 args).run Tryz.prog w = .ok (.enter p.1 args) w) ∧ PureOk Tryz.prog p.1 p.2 := by
 simp only [nr7Γ, List.forall_mem_cons]
 exact ⟨⟨enters_of Tryz.func195 (by kernel_rfl) rfl, of9_ok⟩, nr6Γ_ok⟩
noncomputable def nr7E : List (FuncId × ECon) := nr6E
theorem nr7E_ok : ∀ p ∈ nr7E, (∀ (args : Array Value) (w : World), (callFunc p.1 args).run Tryz.prog w = .ok (.enter p.1 args) w) ∧ EffOk Tryz.prog p.1 p.2 := by
 simp only [nr7E]
 exact nr6E_ok
noncomputable def nr7P : List (FuncId × PCon) := nr6P
theorem nr7P_ok : ∀ p ∈ nr7P, (∀ (args : Array Value) (w : World), (callFunc p.1 args).run Tryz.prog w = .ok (.enter p.1 args) w) ∧ PanOk Tryz.prog p.1 p.2 := by
 simp only [nr7P]
 exact nr6P_ok
noncomputable def nr7 : G := { τ := nrT, Γ := nr7Γ, E := nr7E, Pn := nr7P }
theorem nr7_good : nr7.good Tryz.prog := good_of_all (nrT_ok _ rfl) nr7Γ_ok nr7E_ok nr7P_ok
theorem nr7_all : (∀ t, nr7.td t = (look nrT t).getD .other) ∧ nr7.y = false ∧ nr7.Γ = nr7Γ ∧ nr7.E = nr7E ∧ nr7.Pn = nr7P ∧ nr7.fz = [] := ⟨fun _ => rfl, rfl, rfl, rfl, rfl, rfl⟩
theorem gcd9_ok : PureOk Tryz.prog 163 conGcd9 := by
 refine pureOkD (L := { live := [0, 1, 2, 3, 4, 5, 6, 7, 8, 10, 15, 24] }) nr7_good rfl nr_mixed Tryz.func163 rfl conGcd9 2 (by decide) (by kernel_rfl) ?_
 intro args hpre hlens
 simp only [conGcd9] at hpre
 split at hpre
 case h_2 => exact hpre.elim
 rename_i n1 m1 e1 n2 m2 e2
 simp only [allLen, AV.lenOk, SV.lenOk, Ty.lenOk, maxLen, and_true, implies_true, true_and, List.forall_mem_cons, List.not_mem_nil, false_implies] at hlens
 refine ⟨rfl, ?_⟩
 simp -dsimp -implicitDefEqProofs [Tryz.f163, conGcd9_eq, nr7_all, nrT, nr7Γ, nr7E, nr7P, nr6Γ, nr6E, nr6P, nr5Γ, nr5E, nr5P, nr4Γ, nr4E, nr4P, nr3Γ, nr3E, nr3P, nr0Γ, nr0E, nr0P, conOf9_eq, conDivide_eq, conTimes_eq, conLess9_eq, conTwo_eq, conTrim_eq, conAt_eq, conRCheck_eq, conRCmpD_eq, inI64]
 obtain ⟨m1, rfl⟩ : ∃ y : List Int, y = m1 := ⟨m1, rfl⟩; obtain ⟨m2, rfl⟩ : ∃ y : List Int, y = m2 := ⟨m2, rfl⟩
 refine ⟨fun h => ?_, fun h => ?_⟩
 ·
  unfold gcdD; rw [if_neg h]
 obtain ⟨h1, h2⟩ := twoErr_0.1 h
 refine WpD.loop (L := { live := [0, 1, 2, 3, 4, 5, 6, 7, 8, 10, 15, 24] }) nr7_good X0_ok nr_mixed (by kernel_rfl)
  (fun p : TwoL => ⟨[(4, ⟨true, .v (.s (.box 2 0))⟩), (5, vI 0), (7, vS tI p.x p.ex), (8, vS tI p.y p.ey)], [.cells [.bool n1, .sl tI m1 e1], .cells [.bool n2, .sl tI m2 e2], .cells [.bool false, .sl tI [] true]]⟩)
  (fun p => canon p.x ∧ canon p.y ∧ p.x.length ≤ 2048 ∧ p.y.length ≤ 2048 ∧ Nat.gcd (vl p.x) (vl p.y) = Nat.gcd (vl m1) (vl m2)) (fun p => vl p.y) ⟨m1, e1, m2, e2⟩ ⟨h1.1, h2.1, h1.2.1, h2.2.1, rfl⟩ (Turn.le (by simp -dsimp -implicitDefEqProofs)) ?_
 rintro ⟨x, ex, y, ey⟩ ⟨hx, hy, hxl, hyl, hg⟩
 simp only at hx hy hxl hyl hg
 simp -dsimp -implicitDefEqProofs [conGcd9_eq, nr7_all, nrT, nr7Γ, nr7E, nr7P, nr6Γ, nr6E, nr6P, nr5Γ, nr5E, nr5P, nr4Γ, nr4E, nr4P, nr3Γ, nr3E, nr3P, nr0Γ, nr0E, nr0P, conOf9_eq, conDivide_eq, conTimes_eq, conLess9_eq, conTwo_eq, conTrim_eq, conAt_eq, conRCheck_eq, conRCmpD_eq, inI64]
 refine ⟨fun hp => ?_, fun he => ?_⟩
 ·
  have hvp := (vl_pos hy).2 hp
  refine ⟨⟨hx, hy, hvp, hxl, hyl⟩, ⟨y, ey, dig (vl x % vl y), false⟩, ⟨hy, canon_dig _, hyl, ?_, ?_⟩, ?_, TurnT.le (by simp -dsimp -implicitDefEqProofs)⟩
  ·
   show (dig _).length ≤ 2048
   exact dig_le (Nat.lt_trans (Nat.mod_lt _ hvp) (vl_lt hy.1)) hyl
  ·
   show Nat.gcd (vl y) (vl (dig _)) = _
   rw [vl_dig, ← hg, Nat.gcd_comm (vl y), ← Nat.gcd_rec, Nat.gcd_comm]
  ·
   show vl (dig _) < vl y
   rw [vl_dig]; exact Nat.mod_lt _ hvp
 ·
  subst he
  have hv : vl x = Nat.gcd (vl m1) (vl m2) := by rw [← hg]; simp [vl]
  have hl : (dig (vl x)).length ≤ 2048 := by rw [canon_eq hx]; exact hxl
  refine ⟨hx.1, ?_, ?_⟩
  ·
   unfold limD gcdD
   rw [if_pos hl, if_pos h, hv]
  ·
   unfold limE
   rw [if_pos hl, h]
noncomputable def cmpV9 (n1 : Bool) (m1 : List Int) (n2 : Bool) (m2 : List Int) : Int := if twoErr n1 m1 n2 m2 = 0 then cmpZ (sgn n1 m1) (sgn n2 m2) else 0
noncomputable def conCmp9 : Con := ⟨fun args => (match args with
 | [.agg [.bool n1, .sl (.int .i64) m1 _], .agg [.bool n2, .sl (.int .i64) m2 _]] => True
 | _ => False), fun args => match args with
 | [.agg [.bool n1, .sl (.int .i64) m1 _], .agg [.bool n2, .sl (.int .i64) m2 _]] => .tup [aI (cmpV9 n1 m1 n2 m2), aI (twoErr n1 m1 n2 m2)]
 | _ => .v (.s .any)⟩
theorem conCmp9_eq (n1 : Bool) (m1 : List (Ty.T tI)) (exm1 : Bool) (n2 : Bool) (m2 : List (Ty.T tI)) (exm2 : Bool) : conCmp9.pre [.agg [.bool n1, .sl tI m1 exm1], .agg [.bool n2, .sl tI m2 exm2]] = (True) ∧ conCmp9.val [.agg [.bool n1, .sl tI m1 exm1], .agg [.bool n2, .sl tI m2 exm2]] = .tup [aI (cmpV9 n1 m1 n2 m2), aI (twoErr n1 m1 n2 m2)] := ⟨rfl, rfl⟩
theorem cmp9_ok : PureOk Tryz.prog 164 conCmp9 := by
 refine pureOkD (L := { live := [0, 1, 2, 3, 4, 5, 6, 11, 17, 19, 21] }) nr7_good rfl nr_mixed Tryz.func164 rfl conCmp9 2 (by decide) (by kernel_rfl) ?_
 intro args hpre hlens
 simp only [conCmp9] at hpre
 split at hpre
 case h_2 => exact hpre.elim
 rename_i n1 m1 e1 n2 m2 e2
 simp only [allLen, AV.lenOk, SV.lenOk, Ty.lenOk, maxLen, and_true, implies_true, true_and, List.forall_mem_cons, List.not_mem_nil, false_implies] at hlens
 refine ⟨rfl, ?_⟩
 simp -dsimp -implicitDefEqProofs [Tryz.f164, conCmp9_eq, nr7_all, nrT, nr7Γ, nr7E, nr7P, nr6Γ, nr6E, nr6P, nr5Γ, nr5E, nr5P, nr4Γ, nr4E, nr4P, nr3Γ, nr3E, nr3P, nr0Γ, nr0E, nr0P, conOf9_eq, conDivide_eq, conTimes_eq, conLess9_eq, conTwo_eq, conTrim_eq, conAt_eq, conRCheck_eq, conRCmpD_eq, inI64]
 obtain ⟨m1, rfl⟩ : ∃ y : List Int, y = m1 := ⟨m1, rfl⟩; obtain ⟨m2, rfl⟩ : ∃ y : List Int, y = m2 := ⟨m2, rfl⟩
 refine ⟨fun h => by unfold cmpV9; rw [if_neg h], fun h => ?_⟩
 obtain ⟨h1, h2⟩ := twoErr_0.1 h
 have hp1 : n1 = true → 0 < vl m1 := fun e => (vl_pos h1.1).2 (List.length_pos_iff.2 (h1.2.2 e))
 have hp2 : n2 = true → 0 < vl m2 := fun e => (vl_pos h2.1).2 (List.length_pos_iff.2 (h2.2.2 e))
 unfold cmpV9
 rw [if_pos h, h]
 have l1 := h1.2.1
 have l2 := h2.2.1
 refine ⟨fun hne => ⟨fun e1 => ⟨?_, rfl⟩, fun e1 => ⟨?_, rfl⟩⟩, fun he => ⟨fun e1 => ⟨⟨h2.1, h1.1, by omega, by omega⟩, ?_, rfl⟩, fun e1 => ⟨⟨h1.1, h2.1, by omega, by omega⟩, ?_, rfl⟩⟩⟩
 ·
  have e2 : n2 = false := by cases n2 <;> simp_all
  subst e1 e2
  rw [sgn_true, sgn_false, cmpZ_lt]
  have := hp1 rfl
  omega
 ·
  have e2 : n2 = true := by cases n2 <;> simp_all
  subst e1 e2
  rw [sgn_true, sgn_false, cmpZ_gt]
  have := hp2 rfl
  omega
 ·
  subst he e1
  rw [sgn_true, sgn_true, cmpZ_neg, cmpZ_nat]
 ·
  subst he e1
  rw [sgn_false, sgn_false, cmpZ_nat]
noncomputable def mulD (n1 : Bool) (m1 : List Int) (n2 : Bool) (m2 : List Int) : List Int := if twoErr n1 m1 n2 m2 = 0 then limD (vl m1 * vl m2) else []
noncomputable def mulErr (n1 : Bool) (m1 : List Int) (n2 : Bool) (m2 : List Int) : Int := if twoErr n1 m1 n2 m2 = 0 then limE (vl m1 * vl m2) else 90
noncomputable def conMul9 : Con := ⟨fun args => (match args with
 | [.agg [.bool n1, .sl (.int .i64) m1 _], .agg [.bool n2, .sl (.int .i64) m2 _]] => True
 | _ => False), fun args => match args with
 | [.agg [.bool n1, .sl (.int .i64) m1 _], .agg [.bool n2, .sl (.int .i64) m2 _]] => .tup [.agg [.bool ((n1 != n2) && decide (mulD n1 m1 n2 m2 ≠ [])), .sl tI (mulD n1 m1 n2 m2) false], aI (mulErr n1 m1 n2 m2)]
 | _ => .v (.s .any)⟩
theorem conMul9_eq (n1 : Bool) (m1 : List (Ty.T tI)) (exm1 : Bool) (n2 : Bool) (m2 : List (Ty.T tI)) (exm2 : Bool) : conMul9.pre [.agg [.bool n1, .sl tI m1 exm1], .agg [.bool n2, .sl tI m2 exm2]] = (True) ∧ conMul9.val [.agg [.bool n1, .sl tI m1 exm1], .agg [.bool n2, .sl tI m2 exm2]] = .tup [.agg [.bool ((n1 != n2) && decide (mulD n1 m1 n2 m2 ≠ [])), .sl tI (mulD n1 m1 n2 m2) false], aI (mulErr n1 m1 n2 m2)] := ⟨rfl, rfl⟩
theorem mul9_ok : PureOk Tryz.prog 197 conMul9 := by
 refine pureOkD (L := { live := [0, 1, 2, 3, 4, 5, 6, 11] }) nr7_good rfl nr_mixed Tryz.func197 rfl conMul9 2 (by decide) (by kernel_rfl) ?_
 intro args hpre hlens
 simp only [conMul9] at hpre
 split at hpre
 case h_2 => exact hpre.elim
 rename_i n1 m1 e1 n2 m2 e2
 simp only [allLen, AV.lenOk, SV.lenOk, Ty.lenOk, maxLen, and_true, implies_true, true_and, List.forall_mem_cons, List.not_mem_nil, false_implies] at hlens
 refine ⟨rfl, ?_⟩
 simp -dsimp -implicitDefEqProofs [Tryz.f197, conMul9_eq, nr7_all, nrT, nr7Γ, nr7E, nr7P, nr6Γ, nr6E, nr6P, nr5Γ, nr5E, nr5P, nr4Γ, nr4E, nr4P, nr3Γ, nr3E, nr3P, nr0Γ, nr0E, nr0P, conOf9_eq, conDivide_eq, conTimes_eq, conLess9_eq, conTwo_eq, conTrim_eq, conAt_eq, conRCheck_eq, conRCmpD_eq, inI64]
 obtain ⟨m1, rfl⟩ : ∃ y : List Int, y = m1 := ⟨m1, rfl⟩; obtain ⟨m2, rfl⟩ : ∃ y : List Int, y = m2 := ⟨m2, rfl⟩
 refine ⟨fun h => ?_, fun h => ?_⟩
 ·
  have e1 : mulD n1 m1 n2 m2 = [] := if_neg h
  have e2 : mulErr n1 m1 n2 m2 = 90 := if_neg h
  have e3 : twoErr n1 m1 n2 m2 = 90 := by
   unfold twoErr at h ⊢
   unfold natErr at h ⊢
   split
   ·
    rename_i hq; rw [if_pos hq] at h; split <;> simp_all
   ·
    rfl
  exact ⟨⟨fun _ => e1, e1⟩, by rw [e2, e3]⟩
 ·
  obtain ⟨h1, h2⟩ := twoErr_0.1 h
  rw [vl_dig]
  unfold mulD mulErr
  rw [if_pos h, if_pos h]
  exact ⟨⟨h1.1.1, h2.1.1, h1.2.1, h2.2.1⟩, okD_dig _, ⟨rfl, rfl⟩, rfl⟩
noncomputable def conMake9 : Con := ⟨fun args => (match args with
 | [.s (.int .i64 n)] => inI64 n
 | _ => False), fun args => match args with
 | [.s (.int _ n)] => .v (.agg [.bool (decide (n < 0)), .sl tI (dig n.natAbs) false])
 | _ => .v (.s .any)⟩
theorem conMake9_eq (n : Int) : conMake9.pre [.s (.int .i64 n)] = (inI64 n) ∧ conMake9.val [.s (.int .i64 n)] = .v (.agg [.bool (decide (n < 0)), .sl tI (dig n.natAbs) false]) := ⟨rfl, rfl⟩
theorem make9_ok : PureOk Tryz.prog 83 conMake9 := by
 refine pureOkD (L := { live := [0, 2, 3, 4, 5, 9, 15] }) nr0_good rfl nr_mixed Tryz.func83 rfl conMake9 1 (by decide) (by kernel_rfl) ?_
 intro args hpre hlens
 simp only [conMake9] at hpre
 split at hpre
 case h_2 => exact hpre.elim
 rename_i n
 simp only [allLen, AV.lenOk, SV.lenOk, Ty.lenOk, maxLen, and_true, implies_true, true_and, List.forall_mem_cons, List.not_mem_nil, false_implies] at hlens
 refine ⟨rfl, ?_⟩
 simp -dsimp -implicitDefEqProofs [Tryz.f83, conMake9_eq, nr0_all, nrT, nr0Γ, nr0E, nr0P, inI64]
 refine WpD.turn _ (Turn.virt (k := 3) (t := tI) (xs := []) (by simp [look])) ?_
 refine WpD.loop (L := { live := [0, 2, 3, 4, 5, 9, 15] }) nr0_good X0_ok nr_mixed (by kernel_rfl)
  (fun p : List Int × Int => ⟨[(0, vI n), (2, ⟨true, .v (.s (.box 0 0))⟩), (3, ⟨true, .v (.s (.own tI 1 p.1.length))⟩), (4, vI p.2)], [.cells [.bool false, .sl tI [] true], .arr (decide (0 < p.1.length)) (tI.flats p.1)]⟩)
  (fun p => okD p.1 ∧ vl p.1 + 1073741824 ^ p.1.length * p.2.natAbs = n.natAbs ∧ (p.2 = 0 → canon p.1)) (fun p => p.2.natAbs) ([], n) ⟨okD_nil, by simp [vl], fun _ => canon_nil⟩ (Turn.le (by simp -dsimp -implicitDefEqProofs)) ?_
 rintro ⟨out, k⟩ ⟨ho, hv, hc⟩
 simp only at ho hv hc
 simp only [inI64] at hpre
 have hlen : k ≠ 0 → out.length ≤ 2 := fun hk => by
  apply Classical.byContradiction
  intro h3
  have h1 : 1073741824 ^ 3 ≤ 1073741824 ^ out.length := Nat.pow_le_pow_right (by decide) (by omega)
  have h2 : 1 ≤ k.natAbs := by omega
  have h4 := Nat.mul_le_mul_left (1073741824 ^ out.length) h2
  simp only [Nat.reducePow] at h1
  omega
 have hmx : 4096 ≤ maxLen := by simp only [maxLen]; omega
 have hkn : k.natAbs ≤ n.natAbs := by
  have h1 := Nat.mul_le_mul_right k.natAbs (pow_pos' out.length)
  omega
 have hq : (k.tdiv 1073741824).natAbs = k.natAbs / 1073741824 := by rw [Int.natAbs_tdiv]; rfl
 have hr : (k.tmod 1073741824).natAbs = k.natAbs % 1073741824 := by rw [Int.natAbs_tmod]; rfl
 simp -dsimp -implicitDefEqProofs [conMake9_eq, nr0_all, nrT, nr0Γ, nr0E, nr0P, inI64]
 refine ⟨fun hk => ?_, fun hk => ?_⟩
 ·
  have hl := hlen hk
  refine ⟨fun hneg => ?_, fun hpos => ?_⟩
  ·
   obtain ⟨s1, s2⟩ := make_step ho hv (-(k.tmod 1073741824)) (by rw [if_pos hneg])
   exact ⟨⟨by omega, by omega⟩, ⟨by omega, by omega⟩, ⟨by omega, by omega⟩, _, _, ⟨s1, s2, fun h0 => canon_snoc s1 (by omega)⟩, by omega, TurnT.le (by simp -dsimp -implicitDefEqProofs)⟩
  ·
   obtain ⟨s1, s2⟩ := make_step ho hv (k.tmod 1073741824) (by rw [if_neg (by omega)])
   exact ⟨⟨by omega, by omega⟩, ⟨by omega, by omega⟩, _, _, ⟨s1, s2, fun h0 => canon_snoc s1 (by omega)⟩, by omega, TurnT.le (by simp -dsimp -implicitDefEqProofs)⟩
 ·
  subst hk
  rw [← canon_eq (hc rfl)]
  simp at hv
  rw [hv]
def backL (m : List Int) : List (List AV) := (List.range m.length).map fun t => [aI (((m.length - 1 - t : Nat)) : Int), aI (m[m.length - 1 - t]?.getD 0)]
theorem backL_len (m : List Int) : (backL m).length = m.length := by simp [backL]
theorem backL_get {m : List Int} {t : Nat} (h : t < m.length) : (backL m)[t]? = some [aI (((m.length - 1 - t : Nat)) : Int), aI (m[m.length - 1 - t]?.getD 0)] := by
 simp [backL, h]
def itBack : ItCon := ⟨fun caps => (match caps with
 | [.s (.eptr (.slice (.int .i64)) _)] => True
 | _ => False), fun caps => match caps with
 | [.s (.eptr (.slice (.int .i64)) xs)] => backL xs
 | _ => []⟩
theorem itBack_xs (xs : List Int) : itBack.xs [.s (.eptr (.slice tI) xs)] = backL xs := rfl
noncomputable def nriΓ : List (FuncId × Con) := []
theorem nriΓ_ok : ∀ p ∈ nriΓ, (∀ (args : Array Value) (w : World), (callFunc p.1 args).run Tryz.prog w = .ok (.enter p.1 args) w) ∧ PureOk Tryz.prog p.1 p.2 := by simp [nriΓ]
noncomputable def nriE : List (FuncId × ECon) := []
theorem nriE_ok : ∀ p ∈ nriE, (∀ (args : Array Value) (w : World), (callFunc p.1 args).run Tryz.prog w = .ok (.enter p.1 args) w) ∧ EffOk Tryz.prog p.1 p.2 := by simp [nriE]
noncomputable def nriP : List (FuncId × PCon) := []
theorem nriP_ok : ∀ p ∈ nriP, (∀ (args : Array Value) (w : World), (callFunc p.1 args).run Tryz.prog w = .ok (.enter p.1 args) w) ∧ PanOk Tryz.prog p.1 p.2 := by simp [nriP]
noncomputable def nri : G := { τ := nrT, Γ := nriΓ, E := nriE, Pn := nriP }
theorem nri_good : nri.good Tryz.prog := good_of_all (nrT_ok _ rfl) nriΓ_ok nriE_ok nriP_ok
theorem nri_all : (∀ t, nri.td t = (look nrT t).getD .other) ∧ nri.y = false ∧ nri.Γ = nriΓ ∧ nri.E = nriE ∧ nri.Pn = nriP ∧ nri.fz = [] := ⟨fun _ => rfl, rfl, rfl, rfl, rfl, rfl⟩
noncomputable def nriy : G := { τ := nrT, Γ := nriΓ, E := nriE, Pn := nriP, y := true }
theorem nriy_good : nriy.good Tryz.prog := good_of_all (nrT_ok _ rfl) nriΓ_ok nriE_ok nriP_ok
theorem nriy_all : (∀ t, nriy.td t = (look nrT t).getD .other) ∧ nriy.y = true ∧ nriy.Γ = nriΓ ∧ nriy.E = nriE ∧ nriy.Pn = nriP ∧ nriy.fz = [] := ⟨fun _ => rfl, rfl, rfl, rfl, rfl, rfl⟩
theorem nriy_q : nriy.quiet = nri := rfl
theorem back1_ok : ItOk Tryz.prog 218 itBack := by
 refine itOkD (L := { live := [0, 1, 3, 8, 18] }) nriy_good rfl nr_mixed Tryz.func218 (enters_of Tryz.func218 (by kernel_rfl) rfl) rfl rfl itBack 1 (by decide) (by kernel_rfl) ?_
 intro caps l hpre hlens
 simp only [itBack] at hpre
 split at hpre
 ·
  rename_i xs
  obtain ⟨⟨hl, _⟩, _⟩ := hlens
  obtain ⟨xs, rfl⟩ : ∃ y : List Int, y = xs := ⟨xs, rfl⟩
  refine ⟨rfl, fun X hX => ?_⟩
  rw [itBack_xs]
  simp only [maxLen] at hl
  simp -dsimp -implicitDefEqProofs [Tryz.f218, nriy_q, nri_all, nriy_all, nrT, nriΓ, nriE, nriP, inI64]
  refine ⟨⟨by omega, by omega⟩, ?_⟩
  refine WpD.loop (L := { live := [0, 1, 3, 8, 18] }) nriy_good hX nr_mixed (by kernel_rfl)
   (fun t : Nat => ⟨[(0, ⟨true, .v (.s (.val (.func (.yield l) #[] #[])))⟩), (1, ⟨true, .v (.s (.eptr (.slice tI) xs))⟩), (3, vI ((xs.length : Int) - 1 - t))], [.trace l (backL xs) t false]⟩)
   (fun t => t ≤ xs.length) (fun t => xs.length - t) 0 (by simp) (Turn.le (by simp -dsimp -implicitDefEqProofs)) ?_
  intro t ht
  rcases Nat.lt_or_ge t xs.length with hlt | hge
  ·
   have hg := backL_get hlt
   have e1 : ((xs.length : Int) - 1 - t) = ((xs.length - 1 - t : Nat) : Int) := by omega
   have h2 : xs.length - 1 - t < xs.length := by omega
   have e2 : ((xs.length - 1 - t : Nat) : Int) - 1 = (xs.length : Int) - 1 - ((t + 1 : Nat) : Int) := by omega
   simp -dsimp -implicitDefEqProofs [e1, hg, h2, nriy_q, nri_all, nriy_all, nrT, nriΓ, nriE, nriP, inI64]
   refine ⟨⟨by omega, by omega⟩, t + 1, by omega, by omega, TurnT.le (by simp -dsimp -implicitDefEqProofs [e2])⟩
  ·
   obtain rfl : t = xs.length := by omega
   simp -dsimp -implicitDefEqProofs [backL_len, nriy_q, nri_all, nriy_all, nrT, nriΓ, nriE, nriP, inI64]
   omega
 ·
  exact hpre.elim
noncomputable def conBack : Con := ⟨fun args => (match args with
 | [.s (.sl (.int .i64) m _)] => True
 | _ => False), fun args => match args with
 | [.s (.sl (.int .i64) m _)] => .v (.s (.fnp 218 [⟨.slice tI, m⟩]))
 | _ => .v (.s .any)⟩
theorem conBack_eq (m : List (Ty.T tI)) (exm : Bool) : conBack.pre [.s (.sl tI m exm)] = (True) ∧ conBack.val [.s (.sl tI m exm)] = .v (.s (.fnp 218 [⟨.slice tI, m⟩])) := ⟨rfl, rfl⟩
theorem back_ok : PureOk Tryz.prog 213 conBack := by
 refine pureOkD (L := { live := [0, 1, 2] }) nri_good rfl nr_mixed Tryz.func213 rfl conBack 1 (by decide) (by kernel_rfl) ?_
 intro args hpre hlens
 simp only [conBack] at hpre
 split at hpre
 case h_2 => exact hpre.elim
 rename_i m em
 simp only [allLen, AV.lenOk, SV.lenOk, Ty.lenOk, maxLen, and_true, implies_true, true_and, List.forall_mem_cons, List.not_mem_nil, false_implies] at hlens
 refine ⟨rfl, ?_⟩
 simp -dsimp -implicitDefEqProofs [Tryz.f213, conBack_eq, nri_all, nrT, nriΓ, nriE, nriP, inI64]
 done
noncomputable def nrjΓ : List (FuncId × Con) := (213, conBack) :: nriΓ
theorem nrjΓ_ok : ∀ p ∈ nrjΓ, (∀ (args : Array Value) (w : World), (callFunc p.1 args).run Tryz.prog w = .ok (.enter p.1 args) w) ∧ PureOk Tryz.prog p.1 p.2 := by
 simp only [nrjΓ, List.forall_mem_cons]
 exact ⟨⟨enters_of Tryz.func213 (by kernel_rfl) rfl, back_ok⟩, nriΓ_ok⟩
noncomputable def nrjE : List (FuncId × ECon) := nriE
theorem nrjE_ok : ∀ p ∈ nrjE, (∀ (args : Array Value) (w : World), (callFunc p.1 args).run Tryz.prog w = .ok (.enter p.1 args) w) ∧ EffOk Tryz.prog p.1 p.2 := by
 simp only [nrjE]
 exact nriE_ok
noncomputable def nrjP : List (FuncId × PCon) := nriP
theorem nrjP_ok : ∀ p ∈ nrjP, (∀ (args : Array Value) (w : World), (callFunc p.1 args).run Tryz.prog w = .ok (.enter p.1 args) w) ∧ PanOk Tryz.prog p.1 p.2 := by
 simp only [nrjP]
 exact nriP_ok
noncomputable def nrj : G := { τ := nrT, Γ := nrjΓ, E := nrjE, Pn := nrjP }
theorem nrj_good : nrj.good Tryz.prog := good_of_all (nrT_ok _ rfl) nrjΓ_ok nrjE_ok nrjP_ok
theorem nrj_all : (∀ t, nrj.td t = (look nrT t).getD .other) ∧ nrj.y = false ∧ nrj.Γ = nrjΓ ∧ nrj.E = nrjE ∧ nrj.Pn = nrjP ∧ nrj.fz = [] := ⟨fun _ => rfl, rfl, rfl, rfl, rfl, rfl⟩
theorem down_ok : PureOk Tryz.prog 200 conBack := by
 refine pureOkD (L := { live := [0, 2] }) nrj_good rfl nr_mixed Tryz.func200 rfl conBack 1 (by decide) (by kernel_rfl) ?_
 intro args hpre hlens
 simp only [conBack] at hpre
 split at hpre
 case h_2 => exact hpre.elim
 rename_i m em
 simp only [allLen, AV.lenOk, SV.lenOk, Ty.lenOk, maxLen, and_true, implies_true, true_and, List.forall_mem_cons, List.not_mem_nil, false_implies] at hlens
 refine ⟨rfl, ?_⟩
 simp -dsimp -implicitDefEqProofs [Tryz.f200, conBack_eq, nrj_all, nrT, nrjΓ, nrjE, nrjP, nriΓ, nriE, nriP, conBack_eq, inI64]
 done
noncomputable def nr8Γ : List (FuncId × Con) := (200, conBack) :: nr7Γ
theorem nr8Γ_ok : ∀ p ∈ nr8Γ, (∀ (args : Array Value) (w : World), (callFunc p.1 args).run Tryz.prog w = .ok (.enter p.1 args) w) ∧ PureOk Tryz.prog p.1 p.2 := by
 simp only [nr8Γ, List.forall_mem_cons]
 exact ⟨⟨enters_of Tryz.func200 (by kernel_rfl) rfl, down_ok⟩, nr7Γ_ok⟩
noncomputable def nr8E : List (FuncId × ECon) := nr7E
theorem nr8E_ok : ∀ p ∈ nr8E, (∀ (args : Array Value) (w : World), (callFunc p.1 args).run Tryz.prog w = .ok (.enter p.1 args) w) ∧ EffOk Tryz.prog p.1 p.2 := by
 simp only [nr8E]
 exact nr7E_ok
noncomputable def nr8P : List (FuncId × PCon) := nr7P
theorem nr8P_ok : ∀ p ∈ nr8P, (∀ (args : Array Value) (w : World), (callFunc p.1 args).run Tryz.prog w = .ok (.enter p.1 args) w) ∧ PanOk Tryz.prog p.1 p.2 := by
 simp only [nr8P]
 exact nr7P_ok
noncomputable def nr8 : G := { τ := nrT, Γ := nr8Γ, E := nr8E, Pn := nr8P }
theorem nr8_good : nr8.good Tryz.prog := good_of_all (nrT_ok _ rfl) nr8Γ_ok nr8E_ok nr8P_ok
theorem nr8_all : (∀ t, nr8.td t = (look nrT t).getD .other) ∧ nr8.y = false ∧ nr8.Γ = nr8Γ ∧ nr8.E = nr8E ∧ nr8.Pn = nr8P ∧ nr8.fz = [] := ⟨fun _ => rfl, rfl, rfl, rfl, rfl, rfl⟩
noncomputable def conNCmp : Con := ⟨fun args => (match args with
 | [.s (.sl (.int .i64) a _), .s (.sl (.int .i64) b _)] => canon a ∧ canon b
 | _ => False), fun args => match args with
 | [.s (.sl (.int .i64) a _), .s (.sl (.int .i64) b _)] => .v (aI (cmpN (vl a) (vl b)))
 | _ => .v (.s .any)⟩
theorem conNCmp_eq (a : List (Ty.T tI)) (exa : Bool) (b : List (Ty.T tI)) (exb : Bool) : conNCmp.pre [.s (.sl tI a exa), .s (.sl tI b exb)] = (canon a ∧ canon b) ∧ conNCmp.val [.s (.sl tI a exa), .s (.sl tI b exb)] = .v (aI (cmpN (vl a) (vl b))) := ⟨rfl, rfl⟩
theorem cmp_lens {a b : List Int} (ha : canon a) (hb : canon b) (h : ¬ (a.length : Int) = b.length) : cmpN (vl a) (vl b) = if b.length < a.length then 1 else -1 := by
 split
 ·
  rename_i h2; exact cmpN_gt (vl_len hb ha h2)
 ·
  exact cmpN_lt (vl_len ha hb (by omega))
theorem drop_eq_all {a b : List Int} (h : a.drop (a.length - a.length) = b.drop (a.length - a.length)) : a = b := by simpa using h
theorem ncmp_ok : PureOk Tryz.prog 177 conNCmp := by
 refine pureOkD (L := { live := [0, 1, 3, 4, 5, 6, 11, 22, 23, 24, 25, 32] }) nr8_good rfl nr_mixed Tryz.func177 rfl conNCmp 2 (by decide) (by kernel_rfl) ?_
 intro args hpre hlens
 simp only [conNCmp] at hpre
 split at hpre
 case h_2 => exact hpre.elim
 rename_i a ea b eb
 simp only [allLen, AV.lenOk, SV.lenOk, Ty.lenOk, maxLen, and_true, implies_true, true_and, List.forall_mem_cons, List.not_mem_nil, false_implies] at hlens
 refine ⟨rfl, ?_⟩
 simp -dsimp -implicitDefEqProofs [Tryz.f177, conNCmp_eq, nr8_all, nrT, nr8Γ, nr8E, nr8P, nr7Γ, nr7E, nr7P, nr6Γ, nr6E, nr6P, nr5Γ, nr5E, nr5P, nr4Γ, nr4E, nr4P, nr3Γ, nr3E, nr3P, nr0Γ, nr0E, nr0P, conBack_eq, conOf9_eq, conDivide_eq, conTimes_eq, conLess9_eq, conTwo_eq, conTrim_eq, conAt_eq, conRCheck_eq, conRCmpD_eq, inI64]
 obtain ⟨a, rfl⟩ : ∃ y : List Int, y = a := ⟨a, rfl⟩; obtain ⟨b, rfl⟩ : ∃ y : List Int, y = b := ⟨b, rfl⟩
 obtain ⟨ha, hb⟩ := hpre
 refine ⟨fun hne => ?_, fun he => ?_⟩
 ·
  rw [cmp_lens ha hb hne]
  refine ⟨⟨by omega, by omega⟩, ?_⟩
  split <;> rename_i h1
  ·
   have e1 : (if (a.length : Int) - (b.length : Int) < 1 then (a.length : Int) - (b.length : Int) else 1) = 1 := by split <;> omega
   rw [e1]; omega
  ·
   exact ⟨⟨by omega, by omega⟩, ⟨by omega, by omega⟩, by omega⟩
 have he : a.length = b.length := by omega
 refine WpD.rangeFunc (L := { live := [0, 1, 3, 4, 5, 6, 11, 22, 23, 24, 25, 32] }) (d := ⟨⟩) nr8_good nr_mixed rfl rfl 218 [⟨.slice tI, a⟩] (by simp -dsimp -implicitDefEqProofs) itBack back1_ok trivial (by decide) (by kernel_rfl) (by kernel_rfl) (by intro a b c d; simp -dsimp -implicitDefEqProofs)
  (fun t hp => hp = [.cells [.sl tI b eb], .cells [.int .i64 0]] ∧ a.drop (a.length - t) = b.drop (a.length - t)) ⟨rfl, by rw [Nat.sub_zero, List.drop_eq_nil_of_le (Nat.le_refl _), List.drop_eq_nil_of_le (by omega)]⟩ ?_ ?_
 ·
  rintro t args hp hx ⟨rfl, hd⟩
  rw [List.map_singleton, show itBack.xs [capAV ⟨.slice tI, a⟩] = backL a from rfl] at hx
  have ht : t < a.length := by
   obtain ⟨h1, _⟩ := List.getElem?_eq_some_iff.1 hx
   rwa [backL_len] at h1
  rw [backL_get ht] at hx
  injection hx with hx
  subst hx
  have hb2 : a.length - 1 - t < b.length := by omega
  have hk : a.length - t = a.length - 1 - t + 1 := by omega
  have hk2 : a.length - (t + 1) = a.length - 1 - t := by omega
  simp -dsimp -implicitDefEqProofs [hb2, conNCmp_eq, hk2, nr8_all, nrT, nr8Γ, nr8E, nr8P, nr7Γ, nr7E, nr7P, nr6Γ, nr6E, nr6P, nr5Γ, nr5E, nr5P, nr4Γ, nr4E, nr4P, nr3Γ, nr3E, nr3P, nr0Γ, nr0E, nr0P, conBack_eq, conOf9_eq, conDivide_eq, conTimes_eq, conLess9_eq, conTwo_eq, conTrim_eq, conAt_eq, conRCheck_eq, conRCmpD_eq, inI64]
  rw [hk] at hd
  have ha2 : a.length - 1 - t < a.length := by omega
  generalize a.length - 1 - t = i at *
  have eb : b[i] = b[i]?.getD 0 := by rw [List.getElem?_eq_getElem hb2]; rfl
  rw [eb]
  refine ⟨fun h => (cmpN_lt (vl_less ha.1 hb.1 ha2 hb2 hd h)).symm, fun h1 => ⟨fun h => (cmpN_gt (vl_less hb.1 ha.1 hb2 ha2 hd.symm h)).symm, fun h => ⟨_, TrT.refl _ _, rfl, ?_⟩⟩⟩
  rw [List.drop_eq_getElem_cons ha2, List.drop_eq_getElem_cons hb2, hd]
  congr 1
  rw [eb, ← (show a[i]?.getD 0 = a[i] by rw [List.getElem?_eq_getElem ha2]; rfl)]
  omega
 ·
  rintro hp ⟨rfl, hd⟩
  rw [List.map_singleton, show itBack.xs [capAV ⟨.slice tI, a⟩] = backL a from rfl, backL_len] at hd
  simp -dsimp -implicitDefEqProofs [conNCmp_eq, nr8_all, nrT, nr8Γ, nr8E, nr8P, nr7Γ, nr7E, nr7P, nr6Γ, nr6E, nr6P, nr5Γ, nr5E, nr5P, nr4Γ, nr4E, nr4P, nr3Γ, nr3E, nr3P, nr0Γ, nr0E, nr0P, conBack_eq, conOf9_eq, conDivide_eq, conTimes_eq, conLess9_eq, conTwo_eq, conTrim_eq, conAt_eq, conRCheck_eq, conRCmpD_eq, inI64]
  rw [drop_eq_all hd, cmpN_eq]
noncomputable def nr9Γ : List (FuncId × Con) := (203, conTrim) :: (221, conAt) :: (177, conNCmp) :: nr8Γ
theorem nr9Γ_ok : ∀ p ∈ nr9Γ, (∀ (args : Array Value) (w : World), (callFunc p.1 args).run Tryz.prog w = .ok (.enter p.1 args) w) ∧ PureOk Tryz.prog p.1 p.2 := by
 simp only [nr9Γ, List.forall_mem_cons]
 exact ⟨⟨enters_of Tryz.func203 (by kernel_rfl) rfl, trim_ok⟩, ⟨enters_of Tryz.func221 (by kernel_rfl) rfl, at_ok⟩, ⟨enters_of Tryz.func177 (by kernel_rfl) rfl, ncmp_ok⟩, nr8Γ_ok⟩
noncomputable def nr9E : List (FuncId × ECon) := nr8E
theorem nr9E_ok : ∀ p ∈ nr9E, (∀ (args : Array Value) (w : World), (callFunc p.1 args).run Tryz.prog w = .ok (.enter p.1 args) w) ∧ EffOk Tryz.prog p.1 p.2 := by
 simp only [nr9E]
 exact nr8E_ok
noncomputable def nr9P : List (FuncId × PCon) := nr8P
theorem nr9P_ok : ∀ p ∈ nr9P, (∀ (args : Array Value) (w : World), (callFunc p.1 args).run Tryz.prog w = .ok (.enter p.1 args) w) ∧ PanOk Tryz.prog p.1 p.2 := by
 simp only [nr9P]
 exact nr8P_ok
noncomputable def nr9 : G := { τ := nrT, Γ := nr9Γ, E := nr9E, Pn := nr9P }
theorem nr9_good : nr9.good Tryz.prog := good_of_all (nrT_ok _ rfl) nr9Γ_ok nr9E_ok nr9P_ok
theorem nr9_all : (∀ t, nr9.td t = (look nrT t).getD .other) ∧ nr9.y = false ∧ nr9.Γ = nr9Γ ∧ nr9.E = nr9E ∧ nr9.Pn = nr9P ∧ nr9.fz = [] := ⟨fun _ => rfl, rfl, rfl, rfl, rfl, rfl⟩
theorem nmul_ok : PureOk Tryz.prog 199 conTimes := by
 refine pureOkD (L := { live := [0, 1, 4, 5, 6, 7, 8, 9, 10, 11, 18, 19, 20, 21, 26, 27, 28, 29, 30], frz := [(15, [5])] }) nr9_good rfl nr_mixed Tryz.func199 rfl conTimes 2 (by decide) (by kernel_rfl) ?_
 intro args hpre hlens
 simp only [conTimes] at hpre
 split at hpre
 case h_2 => exact hpre.elim
 rename_i a ea b eb
 simp only [allLen, AV.lenOk, SV.lenOk, Ty.lenOk, maxLen, and_true, implies_true, true_and, List.forall_mem_cons, List.not_mem_nil, false_implies] at hlens
 refine ⟨rfl, ?_⟩
 simp -dsimp -implicitDefEqProofs [Tryz.f199, conTimes_eq, nr9_all, nrT, nr9Γ, nr9E, nr9P, nr8Γ, nr8E, nr8P, nr7Γ, nr7E, nr7P, nr6Γ, nr6E, nr6P, nr5Γ, nr5E, nr5P, nr4Γ, nr4E, nr4P, nr3Γ, nr3E, nr3P, nr0Γ, nr0E, nr0P, conTrim_eq, conAt_eq, conNCmp_eq, conBack_eq, conOf9_eq, conDivide_eq, conTimes_eq, conLess9_eq, conTwo_eq, conRCheck_eq, conRCmpD_eq, inI64]
 obtain ⟨a, rfl⟩ : ∃ y : List Int, y = a := ⟨a, rfl⟩; obtain ⟨b, rfl⟩ : ∃ y : List Int, y = b := ⟨b, rfl⟩
 obtain ⟨ha, hb, ha2, hb2⟩ := hpre
 have hn : ((a.length : Int) + (b.length : Int)).toNat = a.length + b.length := by omega
 refine ⟨⟨by omega, by omega⟩, ⟨by omega, by omega, by omega⟩, ?_⟩
 rw [hn]
 refine WpD.loop (L := { live := [0, 1, 4, 5, 6, 7, 8, 9, 10, 11, 18, 19, 20, 21, 26, 27, 28, 29, 30], frz := [(15, [5])] }) nr9_good X0_ok nr_mixed (by kernel_rfl)
  (fun p : Nat × List Int => ⟨[(1, vS tI b eb), (5, ⟨true, .v (.s (.own tI 0 (a.length + b.length)))⟩), (18, vS tI a ea), (19, vI a.length), (20, vI p.1)], [.arr true (tI.flats p.2)]⟩)
  (fun p => p.1 ≤ a.length ∧ p.2.length = a.length + b.length ∧ okD p.2 ∧ vl p.2 = vl (a.take p.1) * vl b ∧ ∀ d ∈ p.2.drop (p.1 + b.length), d = 0) (fun p => a.length - p.1) (0, List.replicate (a.length + b.length) 0)
  ⟨Nat.zero_le _, List.length_replicate, okD_rep _, by simp [vl_rep, vl], fun d hd => List.eq_of_mem_replicate (List.mem_of_mem_drop hd)⟩ (Turn.le (by simp -dsimp -implicitDefEqProofs)) ?_
 rintro ⟨i, xs⟩ ⟨hi, hxl, hxo, hxv, hxz⟩
 simp only at hi hxl hxo hxv hxz
 rcases Nat.lt_or_ge i a.length with hil | hge
 ·
  have eai : a[i] = a[i]?.getD 0 := by rw [List.getElem?_eq_getElem hil]; rfl
  have hai := okD_get ha hil
  simp -dsimp -implicitDefEqProofs [conTimes_eq, hil, nr9_all, nrT, nr9Γ, nr9E, nr9P, nr8Γ, nr8E, nr8P, nr7Γ, nr7E, nr7P, nr6Γ, nr6E, nr6P, nr5Γ, nr5E, nr5P, nr4Γ, nr4E, nr4P, nr3Γ, nr3E, nr3P, nr0Γ, nr0E, nr0P, conTrim_eq, conAt_eq, conNCmp_eq, conBack_eq, conOf9_eq, conDivide_eq, conTimes_eq, conLess9_eq, conTwo_eq, conRCheck_eq, conRCmpD_eq, inI64]
  rw [eai]
  refine ⟨fun h0 => ⟨⟨by omega, by omega⟩, i + 1, xs, ⟨by omega, hxl, hxo, ?_, ?_⟩, by omega, TurnT.le (by simp -dsimp -implicitDefEqProofs)⟩, fun h0 => ?_⟩
  ·
   rw [vl_take_succ hil, h0, hxv]; simp
  ·
   intro d hd
   rw [show i + 1 + b.length = i + b.length + 1 by omega, ← List.drop_drop] at hd
   exact hxz d (List.mem_of_mem_drop hd)
  refine WpD.loop (L := { live := [0, 1, 4, 5, 6, 7, 8, 9, 10, 11, 18, 19, 20, 21, 26, 27, 28, 29, 30], frz := [(15, [5])] }) nr9_good X0_ok nr_mixed (by kernel_rfl)
   (fun p : Nat × List Int × Int => ⟨[(1, vS tI b eb), (5, ⟨true, .v (.s (.own tI 0 (a.length + b.length)))⟩), (6, vI i), (7, vI (a[i]?.getD 0)), (8, vI p.2.2), (18, vS tI a ea), (19, vI a.length), (20, vI i), (27, vS tI b eb), (28, vI b.length), (29, vI p.1)], [.arr true (tI.flats p.2.1)]⟩)
   (fun p => p.1 ≤ b.length ∧ p.2.1.length = a.length + b.length ∧ okD p.2.1 ∧ (0 ≤ p.2.2 ∧ p.2.2 ≤ 1073741823) ∧ vl p.2.1 + 1073741824 ^ (i + p.1) * p.2.2.toNat = vl xs + 1073741824 ^ i * ((a[i]?.getD 0).toNat * vl (b.take p.1)) ∧ p.2.1.drop (i + p.1) = xs.drop (i + p.1)) (fun p => b.length - p.1) (0, xs, 0)
   ⟨Nat.zero_le _, hxl, hxo, ⟨Int.le_refl _, by show (0 : Int) ≤ 1073741823; decide⟩, by simp [vl], rfl⟩ (Turn.le (by simp -dsimp -implicitDefEqProofs)) ?_
  rintro ⟨k, ys, ov⟩ ⟨hk, hyl, hyo, hov, hyv, hyd⟩
  simp only at hk hyl hyo hov hyv hyd
  rcases Nat.lt_or_ge k b.length with hkl | hkl
  ·
   have e1 : ((i : Int) + (k : Int)).toNat = i + k := by omega
   have hfl := fl_at (xs := ys) (j := i + k) (by omega)
   obtain ⟨s1, s2, s3, s4, s5⟩ := mul_step (s := ys[i + k]?.getD 0 + a[i]?.getD 0 * b[k] + ov) hyo (by omega) hkl hb hai hov hyv (by rw [List.getElem?_eq_getElem hkl]; rfl)
   simp -dsimp -implicitDefEqProofs [conTimes_eq, e1, hfl, hkl, nr9_all, nrT, nr9Γ, nr9E, nr9P, nr8Γ, nr8E, nr8P, nr7Γ, nr7E, nr7P, nr6Γ, nr6E, nr6P, nr5Γ, nr5E, nr5P, nr4Γ, nr4E, nr4P, nr3Γ, nr3E, nr3P, nr0Γ, nr0E, nr0P, conTrim_eq, conAt_eq, conNCmp_eq, conBack_eq, conOf9_eq, conDivide_eq, conTimes_eq, conLess9_eq, conTwo_eq, conRCheck_eq, conRCmpD_eq, inI64]
   have hm := mul_range hai (okD_get hb hkl)
   rw [List.getElem?_eq_getElem hkl, Option.getD_some] at hm
   have hy := okD_get hyo (i := i + k) (by omega)
   rw [Int.fdiv_eq_ediv_of_nonneg _ (by decide), fl_set (by omega)]
   generalize ys[i + k]?.getD 0 + a[i]?.getD 0 * b[k] + ov = s at *
   refine ⟨⟨by omega, by omega⟩, ⟨hyl, by omega, by omega⟩, ⟨hyl, by omega⟩, ⟨by omega, by omega⟩, ⟨by omega, by omega⟩, ⟨by omega, by omega⟩, ⟨by omega, by omega⟩, by decide, ⟨hyl, by omega, by omega⟩, ⟨hyl, by omega⟩, ⟨by omega, by omega⟩,
    k + 1, ys.set (i + k) (s % 1073741824), s / 1073741824, ⟨by omega, by rw [List.length_set]; exact hyl, s4, s2, s5, ?_⟩, by omega, TurnT.le (by simp -dsimp -implicitDefEqProofs)⟩
   rw [← Nat.add_assoc, drop_set_succ]
   exact drop_eq_succ hyd
  ·
   have hkn : ¬ k < b.length := by omega
   obtain rfl : k = b.length := by omega
   obtain ⟨r1, r2, r3⟩ := row_end hil hyl hyo ha hov hyv hyd hxz hxv
   have e1 : ((i : Int) + (b.length : Int)).toNat = i + b.length := by omega
   simp -dsimp -implicitDefEqProofs [conTimes_eq, hkn, e1, nr9_all, nrT, nr9Γ, nr9E, nr9P, nr8Γ, nr8E, nr8P, nr7Γ, nr7E, nr7P, nr6Γ, nr6E, nr6P, nr5Γ, nr5E, nr5P, nr4Γ, nr4E, nr4P, nr3Γ, nr3E, nr3P, nr0Γ, nr0E, nr0P, conTrim_eq, conAt_eq, conNCmp_eq, conBack_eq, conOf9_eq, conDivide_eq, conTimes_eq, conLess9_eq, conTwo_eq, conRCheck_eq, conRCmpD_eq, inI64]
   rw [fl_set (by omega)]
   exact ⟨⟨by omega, by omega⟩, ⟨hyl, by omega, by omega⟩, ⟨hyl, by omega⟩, ⟨by omega, by omega⟩, i + 1, ys.set (i + b.length) ov, ⟨by omega, by rw [List.length_set]; exact hyl, r1, r2, r3⟩, by omega, TurnT.le (by simp -dsimp -implicitDefEqProofs)⟩
 ·
  have hn : ¬ i < a.length := by omega
  simp -dsimp -implicitDefEqProofs [conTimes_eq, hn, nr9_all, nrT, nr9Γ, nr9E, nr9P, nr8Γ, nr8E, nr8P, nr7Γ, nr7E, nr7P, nr6Γ, nr6E, nr6P, nr5Γ, nr5E, nr5P, nr4Γ, nr4E, nr4P, nr3Γ, nr3E, nr3P, nr0Γ, nr0E, nr0P, conTrim_eq, conAt_eq, conNCmp_eq, conBack_eq, conOf9_eq, conDivide_eq, conTimes_eq, conLess9_eq, conTwo_eq, conRCheck_eq, conRCmpD_eq, inI64]
  obtain rfl : i = a.length := by omega
  refine ⟨xs, rfl, hxl.symm, ?_⟩
  rw [← dig_vl hxo, hxv, List.take_of_length_le (Nat.le_refl _)]
theorem back_round {a : List Int} {t : Nat} {args : List AV} (hx : (itBack.xs (List.map capAV [(⟨.slice tI, a⟩ : Sigma Ty.T)]))[t]? = some args) : t < a.length ∧ args = [aI (((a.length - 1 - t : Nat)) : Int), aI (a[a.length - 1 - t]?.getD 0)] := by
 rw [List.map_singleton, show itBack.xs [capAV ⟨.slice tI, a⟩] = backL a from rfl] at hx
 have ht : t < a.length := by
  obtain ⟨h1, _⟩ := List.getElem?_eq_some_iff.1 hx
  rwa [backL_len] at h1
 rw [backL_get ht] at hx
 injection hx with hx
 exact ⟨ht, hx.symm⟩
theorem back_end (a : List Int) : (itBack.xs (List.map capAV [(⟨.slice tI, a⟩ : Sigma Ty.T)])).length = a.length := by
 rw [List.map_singleton, show itBack.xs [capAV ⟨.slice tI, a⟩] = backL a from rfl, backL_len]
theorem short_mul {r d : Nat} {x : Int} (hx : 0 ≤ x ∧ x ≤ 1073741823) (h : r < d) : (x.toNat + 1073741824 * r) / d ≤ 1073741823 := by
 have h1 : x.toNat + 1073741824 * r < d * 1073741824 := by omega
 have := Nat.div_lt_of_lt_mul h1
 omega
noncomputable def conShort : Con := ⟨fun args => (match args with
 | [.s (.sl (.int .i64) a _), .s (.int .i64 d)] => okD a ∧ (1 ≤ d ∧ d ≤ 1073741824) ∧ a.length ≤ 8192
 | _ => False), fun args => match args with
 | [.s (.sl (.int .i64) a _), .s (.int _ d)] => .tup [aS tI (dig (vl a / d.toNat)) false, aI ((vl a % d.toNat : Nat) : Int)]
 | _ => .v (.s .any)⟩
theorem conShort_eq (a : List (Ty.T tI)) (exa : Bool) (d : Int) : conShort.pre [.s (.sl tI a exa), .s (.int .i64 d)] = (okD a ∧ (1 ≤ d ∧ d ≤ 1073741824) ∧ a.length ≤ 8192) ∧ conShort.val [.s (.sl tI a exa), .s (.int .i64 d)] = .tup [aS tI (dig (vl a / d.toNat)) false, aI ((vl a % d.toNat : Nat) : Int)] := ⟨rfl, rfl⟩
theorem short_ok : PureOk Tryz.prog 202 conShort := by
 refine pureOkD (L := { live := [0, 1, 3, 4, 5, 6, 7, 12, 13, 14], frz := [(7, [4])], fl := [(6, [(0, 0), (2, 0), (3, 0), (5, 0), (5, 10), (6, 0), (6, 10), (8, 0)]), (7, [(0, 0), (2, 0), (2, 4)])] }) nr9_good rfl nr_mixed Tryz.func202 rfl conShort 2 (by decide) (by kernel_rfl) ?_
 intro args hpre hlens
 simp only [conShort] at hpre
 split at hpre
 case h_2 => exact hpre.elim
 rename_i a ea d
 simp only [allLen, AV.lenOk, SV.lenOk, Ty.lenOk, maxLen, and_true, implies_true, true_and, List.forall_mem_cons, List.not_mem_nil, false_implies] at hlens
 refine ⟨rfl, ?_⟩
 simp -dsimp -implicitDefEqProofs [Tryz.f202, conShort_eq, nr9_all, nrT, nr9Γ, nr9E, nr9P, nr8Γ, nr8E, nr8P, nr7Γ, nr7E, nr7P, nr6Γ, nr6E, nr6P, nr5Γ, nr5E, nr5P, nr4Γ, nr4E, nr4P, nr3Γ, nr3E, nr3P, nr0Γ, nr0E, nr0P, conTrim_eq, conAt_eq, conNCmp_eq, conBack_eq, conOf9_eq, conDivide_eq, conTimes_eq, conLess9_eq, conTwo_eq, conRCheck_eq, conRCmpD_eq, inI64]
 obtain ⟨a, rfl⟩ : ∃ y : List Int, y = a := ⟨a, rfl⟩
 obtain ⟨ha, hd, hal⟩ := hpre
 obtain ⟨D, rfl⟩ : ∃ D : Nat, d = D := ⟨d.toNat, by omega⟩
 have hmx : 8192 ≤ maxLen := by simp only [maxLen]; omega
 refine ⟨by omega, ?_⟩
 refine WpD.rangeFunc (L := { live := [0, 1, 3, 4, 5, 6, 7, 12, 13, 14], frz := [(7, [4])], fl := [(6, [(0, 0), (2, 0), (3, 0), (5, 0), (5, 10), (6, 0), (6, 10), (8, 0)]), (7, [(0, 0), (2, 0), (2, 4)])] }) (d := ⟨⟩) nr9_good nr_mixed rfl rfl 218 [⟨.slice tI, a⟩] (by simp -dsimp -implicitDefEqProofs) itBack back1_ok trivial (by decide) (by kernel_rfl) (by kernel_rfl) (by intro a b c d; simp -dsimp -implicitDefEqProofs)
  (fun t hp => ∃ q : List Int, ∃ r : Nat, hp = [.cells [.int .i64 D], .cells [.own tI 3 a.length], .cells [.int .i64 r], .arr true (tI.flats q)] ∧ q.length = a.length ∧ okD q ∧ (∀ d ∈ q.take (a.length - t), d = 0) ∧ vl (a.drop (a.length - t)) = vl (q.drop (a.length - t)) * D + r ∧ r < D) ?_ ?_ ?_
 ·
  exact ⟨List.replicate a.length 0, 0, rfl, List.length_replicate, okD_rep _, fun d hd => List.eq_of_mem_replicate (List.mem_of_mem_take hd), by rw [Nat.sub_zero, List.drop_eq_nil_of_le (Nat.le_refl _), List.drop_eq_nil_of_le (by rw [List.length_replicate]; exact Nat.le_refl _)]; simp [vl], by omega⟩
 ·
  rintro t args hp hx ⟨q, r, rfl, hql, hqo, hqz, hqv, hr⟩
  obtain ⟨ht, rfl⟩ := back_round hx
  have hk : a.length - t = a.length - 1 - t + 1 := by omega
  have hk2 : a.length - (t + 1) = a.length - 1 - t := by omega
  rw [hk2]
  rw [hk] at hqz hqv
  have hkl : a.length - 1 - t < a.length := by omega
  generalize a.length - 1 - t = k at *
  have hak := okD_get ha hkl
  obtain ⟨x, hx⟩ : ∃ x : Nat, (a[k]?.getD 0) = x := ⟨(a[k]?.getD 0).toNat, by omega⟩
  have hrow := div_row (vb := D) (lo := (x + 1073741824 * r) / D) hkl hql hqo hqz hqv
  have hsm := short_mul hak hr
  have hx2 : (a[k]?.getD 0).toNat = x := by omega
  rw [hx2] at hrow hsm
  have hle := Nat.div_mul_le_self (x + 1073741824 * r) D
  obtain ⟨r1, r2, r3⟩ := hrow hsm hle
  have e1 : (r : Int) * 1073741824 + (x : Int) = ((x + 1073741824 * r : Nat) : Int) := by omega
  have e2 : ((x + 1073741824 * r : Nat) : Int).tdiv (D : Int) = ((x + 1073741824 * r) / D : Nat) := Int.ofNat_tdiv _ _
  have e3 : ((x + 1073741824 * r : Nat) : Int).tmod (D : Int) = ((x + 1073741824 * r) % D : Nat) := Int.ofNat_tmod _ _
  have e4 : x + 1073741824 * r - (x + 1073741824 * r) / D * D = (x + 1073741824 * r) % D := by rw [Nat.mod_eq_sub, Nat.mul_comm D]
  rw [e4] at r3
  have hmod := Nat.mod_lt (x + 1073741824 * r) (show D > 0 by omega)
  simp -dsimp -implicitDefEqProofs [conShort_eq, nr9_all, nrT, nr9Γ, nr9E, nr9P, nr8Γ, nr8E, nr8P, nr7Γ, nr7E, nr7P, nr6Γ, nr6E, nr6P, nr5Γ, nr5E, nr5P, nr4Γ, nr4E, nr4P, nr3Γ, nr3E, nr3P, nr0Γ, nr0E, nr0P, conTrim_eq, conAt_eq, conNCmp_eq, conBack_eq, conOf9_eq, conDivide_eq, conTimes_eq, conLess9_eq, conTwo_eq, conRCheck_eq, conRCmpD_eq, inI64]
  rw [hx, e1, e2, e3, fl_set (by omega)]
  clear e2 e3 e4 hrow hle
  generalize (x + 1073741824 * r) / D = Q at *
  exact ⟨⟨by decide, by omega, by omega⟩, ⟨by omega, by omega, by omega, by omega⟩, ⟨⟨by omega, by omega, by omega⟩, by omega, ⟨hql, hkl⟩, ⟨hql, by omega⟩, _, TrT.refl _ _, q.set k _, _, rfl, by rw [List.length_set]; exact hql, r1, r2, r3, hmod⟩, hql, hkl⟩
 ·
  rintro hp ⟨q, r, rfl, hql, hqo, hqz, hqv, hr⟩
  rw [back_end, Nat.sub_self, List.drop_zero, List.drop_zero] at hqv
  simp -dsimp -implicitDefEqProofs [conShort_eq, nr9_all, nrT, nr9Γ, nr9E, nr9P, nr8Γ, nr8E, nr8P, nr7Γ, nr7E, nr7P, nr6Γ, nr6E, nr6P, nr5Γ, nr5E, nr5P, nr4Γ, nr4E, nr4P, nr3Γ, nr3E, nr3P, nr0Γ, nr0E, nr0P, conTrim_eq, conAt_eq, conNCmp_eq, conBack_eq, conOf9_eq, conDivide_eq, conTimes_eq, conLess9_eq, conTwo_eq, conRCheck_eq, conRCmpD_eq, inI64]
  obtain ⟨d1, d2⟩ := (Nat.div_mod_unique (show 0 < D by omega) (a := vl a) (c := r) (d := vl q)).2 ⟨by rw [hqv, Nat.mul_comm, Nat.add_comm], hr⟩
  refine ⟨q, rfl, hql.symm, by rw [d1, dig_vl hqo], by omega⟩
theorem carry_ring {p v o a K x s : Nat} (h : v + p * o = a * K) (hs : s = x * K + o) : v + p * (s % 1073741824) + p * 1073741824 * (s / 1073741824) = (a + p * x) * K := by
 have h1 : p * (s % 1073741824) + p * 1073741824 * (s / 1073741824) = p * s := by
  rw [Nat.mul_assoc, ← Nat.mul_add]
  congr 1
  omega
 have h2 : (a + p * x) * K = a * K + p * (x * K) := by rw [Nat.add_mul, Nat.mul_assoc]
 rw [Nat.add_assoc, h1, h2, ← h, hs, Nat.mul_add]
 omega
theorem vl_take_any (xs : List Int) (i : Nat) : vl (xs.take (i + 1)) = vl (xs.take i) + 1073741824 ^ i * (xs[i]?.getD 0).toNat := by
 rcases Nat.lt_or_ge i xs.length with h | h
 ·
  exact vl_take_succ h
 ·
  rw [List.getElem?_eq_none h, List.take_of_length_le (by omega), List.take_of_length_le (by omega), Option.getD_none, Int.toNat_zero, Nat.mul_zero, Nat.add_zero]
theorem okD_getD {xs : List Int} (h : okD xs) (i : Nat) : 0 ≤ xs[i]?.getD 0 ∧ xs[i]?.getD 0 ≤ 1073741823 := by
 rcases Nat.lt_or_ge i xs.length with h1 | h1
 ·
  exact okD_get h h1
 ·
  rw [List.getElem?_eq_none h1, Option.getD_none]; omega
theorem carry_le {x K ov : Nat} (hx : x ≤ 1073741823) (hK : K ≤ 536870912) (ho : ov ≤ 1073741823) : x * K + ov ≤ 576460752303423487 + 536870913 := by
 have := Nat.mul_le_mul hx hK
 omega
theorem carry_step {m xs : List Int} {i K ov : Nat} {s : Nat} (hm : okD m) (hK : K ≤ 536870912) (hi : i < xs.length) (ho : okD xs) (hov : ov ≤ 1073741823) (hv : vl (xs.take i) + 1073741824 ^ i * ov = vl (m.take i) * K)
  (hs : s = (m[i]?.getD 0).toNat * K + ov) : okD (xs.set i ((s % 1073741824 : Nat) : Int)) ∧ vl ((xs.set i ((s % 1073741824 : Nat) : Int)).take (i + 1)) + 1073741824 ^ (i + 1) * (s / 1073741824) = vl (m.take (i + 1)) * K ∧
   s / 1073741824 ≤ 1073741823 ∧ s ≤ 576460752303423487 + 536870913 ∧ (m.length ≤ i → s / 1073741824 = 0) := by
 have hx := okD_getD hm i
 have h1 := carry_le (x := (m[i]?.getD 0).toNat) (by omega) hK hov
 rw [← hs] at h1
 refine ⟨okD_set ho (by omega), ?_, by omega, h1, fun hl => ?_⟩
 ·
  rw [vl_take_succ (by rw [List.length_set]; exact hi), List.take_set_of_le (Nat.le_refl _), List.getElem?_set_self hi, Option.getD_some, Int.toNat_natCast, vl_take_any, Nat.pow_succ]
  exact carry_ring hv hs
 ·
  rw [List.getElem?_eq_none hl, Option.getD_none, Int.toNat_zero, Nat.zero_mul, Nat.zero_add] at hs
  omega
def conTrimE : ECon := { wp := fun args hp K => match args, hp with
 | [.s (.own (.int .i64) 0 n)], [.arr true cs] => ∃ xs : List Int, (cs = tI.flats xs ∧ n = xs.length ∧ xs.length ≤ 1000000) ∧ K (.v (.s (.pre tI 0 n (trimL xs).length))) [.arr true (tI.flats xs)]
 | _, _ => False }
theorem trimE_ok : EffOk Tryz.prog 203 conTrimE := by
 refine effOkD (L := { live := [0, 2, 3, 15] }) nr0_good rfl nr_mixed Tryz.func203 rfl conTrimE 1 (by decide) (by kernel_rfl) ?_
 intro args hp K hpre hlens
 simp only [conTrimE] at hpre
 split at hpre
 case h_2 => exact hpre.elim
 rename_i n cs
 obtain ⟨xs, ⟨rfl, rfl, hxl⟩, hK⟩ := hpre
 refine ⟨rfl, ?_⟩
 simp -dsimp -implicitDefEqProofs [Tryz.f203, nr0_all, nrT, nr0Γ, nr0E, nr0P, inI64]
 obtain ⟨xs, rfl⟩ : ∃ y : List Int, y = xs := ⟨xs, rfl⟩
 refine WpD.loop (L := { live := [0, 2, 3, 15] }) nr0_good X0_ok nr_mixed (by kernel_rfl)
  (fun n : Nat => ⟨[(0, ⟨true, .v (.s (.own tI 0 xs.length))⟩), (2, vS tI [] true), (3, vI n)], [.arr true (tI.flats xs)]⟩)
  (fun n => n ≤ xs.length ∧ ∀ d ∈ xs.drop n, d = 0) (fun n => n) xs.length ⟨Nat.le_refl _, by rw [List.drop_eq_nil_of_le (Nat.le_refl _)]; intro d hd; cases hd⟩ (Turn.le (by simp -dsimp -implicitDefEqProofs)) ?_
 rintro n ⟨hn, hd⟩
 rcases Nat.lt_or_ge 0 n with h0 | h0
 ·
  have hfl := fl_at (xs := xs) (j := n - 1) (by omega)
  have e1 : ((n : Int) - 1).toNat = n - 1 := by omega
  simp -dsimp -implicitDefEqProofs [e1, hfl, nr0_all, nrT, nr0Γ, nr0E, nr0P, inI64]
  refine ⟨fun _ => ⟨h0, by omega, by omega⟩, fun _ => ⟨h0, by omega, by omega⟩, fun _ => ⟨h0, by omega⟩, fun _ hz => ?_, fun hz => ⟨hn, ?_⟩⟩
  ·
   obtain ⟨k, rfl⟩ : ∃ k, n = k + 1 := ⟨n - 1, by omega⟩
   have e : ((k + 1 : Nat) : Int) - 1 = (k : Int) := by omega
   refine ⟨⟨by omega, by omega⟩, k, ⟨by omega, fun d hd2 => ?_⟩, by omega, TurnT.le (by simp -dsimp -implicitDefEqProofs [e])⟩
   rw [List.drop_eq_getElem_cons (by omega)] at hd2
   rw [Nat.add_sub_cancel, List.getElem?_eq_getElem (by omega)] at hz
   rcases List.mem_cons.1 hd2 with rfl | hd2
   ·
    exact hz
   ·
    exact hd d hd2
  ·
   have := take_trim hn hd hz
   rw [← this, List.length_take, Nat.min_eq_left hn] at hK
   exact hK
 ·
  obtain rfl : n = 0 := by omega
  have := take_trim hn hd (fun h => by omega)
  rw [← this, List.length_take, Nat.min_eq_left hn] at hK
  rcases xs with _ | ⟨x, xs⟩
  ·
   simp -dsimp -implicitDefEqProofs [nr0_all, nrT, nr0Γ, nr0E, nr0P, inI64]
   exact hK
  ·
   have hc : tI.flats (x :: xs) = SV.int .i64 x :: tI.flats xs := rfl
   rw [hc] at hK ⊢
   simp -dsimp -implicitDefEqProofs [nr0_all, nrT, nr0Γ, nr0E, nr0P, inI64]
   exact ⟨by omega, hK⟩
noncomputable def conMovD : Con := ⟨fun args => (match args with
 | [.s (.int .i64 i), .s (.eptr (.slice (.int .i64)) m), .s (.eptr (.int .i64) k)] => 0 ≤ i ∧ okD m ∧ 0 ≤ k ∧ k ≤ 29
 | _ => False), fun args => match args with
 | [.s (.int _ i), .s (.eptr (.slice (.int .i64)) m), .s (.eptr (.int .i64) k)] => .v (aI (m[i.toNat]?.getD 0 * 2 ^ k.toNat))
 | _ => .v (.s .any)⟩
theorem conMovD_eq (i : Int) (m : Ty.T (.slice tI)) (k : Ty.T tI) : conMovD.pre [.s (.int .i64 i), .s (.eptr (.slice tI) m), .s (.eptr tI k)] = (0 ≤ i ∧ okD m ∧ 0 ≤ k ∧ k ≤ 29) ∧ conMovD.val [.s (.int .i64 i), .s (.eptr (.slice tI) m), .s (.eptr tI k)] = .v (aI (m[i.toNat]?.getD 0 * 2 ^ k.toNat)) := ⟨rfl, rfl⟩
theorem pow2_le {k : Int} (h0 : 0 ≤ k) (h : k ≤ 29) : 2 ^ k.toNat ≤ 536870912 ∧ 1 ≤ 2 ^ k.toNat := by
 have h1 : 2 ^ k.toNat ≤ 2 ^ 29 := Nat.pow_le_pow_right (by decide) (by omega)
 have h2 : 2 ^ 0 ≤ 2 ^ k.toNat := Nat.pow_le_pow_right (by decide) (by omega)
 exact ⟨h1, h2⟩
theorem shl_nat {x k : Int} (hx : 0 ≤ x) : x * 2 ^ k.toNat = ((x.toNat * 2 ^ k.toNat : Nat) : Int) := by
 rw [Int.natCast_mul, Int.natCast_pow, Int.toNat_of_nonneg hx]; rfl
theorem movd_ok : PureOk Tryz.prog 220 conMovD := by
 refine pureOkD (L := { live := [0, 1, 2, 4] }) nr9_good rfl nr_mixed Tryz.func220 rfl conMovD 3 (by decide) (by kernel_rfl) ?_
 intro args hpre hlens
 simp only [conMovD] at hpre
 split at hpre
 case h_2 => exact hpre.elim
 rename_i i m0 k0
 simp only [allLen, AV.lenOk, SV.lenOk, Ty.lenOk, maxLen, and_true, implies_true, true_and, List.forall_mem_cons, List.not_mem_nil, false_implies] at hlens
 refine ⟨rfl, ?_⟩
 simp -dsimp -implicitDefEqProofs [Tryz.f220, conMovD_eq, nr9_all, nrT, nr9Γ, nr9E, nr9P, nr8Γ, nr8E, nr8P, nr7Γ, nr7E, nr7P, nr6Γ, nr6E, nr6P, nr5Γ, nr5E, nr5P, nr4Γ, nr4E, nr4P, nr3Γ, nr3E, nr3P, nr0Γ, nr0E, nr0P, conTrim_eq, conAt_eq, conNCmp_eq, conBack_eq, conOf9_eq, conDivide_eq, conTimes_eq, conLess9_eq, conTwo_eq, conRCheck_eq, conRCmpD_eq, inI64]
 obtain ⟨m, hm'⟩ : ∃ m' : List Int, m' = m0 := ⟨m0, rfl⟩
 subst hm'
 obtain ⟨k, hk'⟩ : ∃ k' : Int, k' = k0 := ⟨k0, rfl⟩
 subst hk'
 obtain ⟨hi, hm, hk0, hk⟩ := hpre
 have hk0 : 0 ≤ (k : Int) := hk0
 have hk : k ≤ (29 : Int) := hk
 have h1 := okD_getD hm i.toNat
 have h2 := pow2_le hk0 hk
 have h3 := carry_le (x := (m[i.toNat]?.getD 0).toNat) (ov := 0) (by omega) h2.1 (by omega)
 rw [shl_nat h1.1]
 generalize (m[i.toNat]?.getD 0).toNat * 2 ^ k.toNat = z at *
 exact ⟨hi, ⟨hk0, by omega, .inr (by show k < 64; omega)⟩, by omega, by omega⟩
noncomputable def nr10Γ : List (FuncId × Con) := (220, conMovD) :: nr0Γ
theorem nr10Γ_ok : ∀ p ∈ nr10Γ, (∀ (args : Array Value) (w : World), (callFunc p.1 args).run Tryz.prog w = .ok (.enter p.1 args) w) ∧ PureOk Tryz.prog p.1 p.2 := by
 simp only [nr10Γ, List.forall_mem_cons]
 exact ⟨⟨enters_of Tryz.func220 (by kernel_rfl) rfl, movd_ok⟩, nr0Γ_ok⟩
noncomputable def nr10E : List (FuncId × ECon) := (203, conTrimE) :: nr0E
theorem nr10E_ok : ∀ p ∈ nr10E, (∀ (args : Array Value) (w : World), (callFunc p.1 args).run Tryz.prog w = .ok (.enter p.1 args) w) ∧ EffOk Tryz.prog p.1 p.2 := by
 simp only [nr10E, List.forall_mem_cons]
 exact ⟨⟨enters_of Tryz.func203 (by kernel_rfl) rfl, trimE_ok⟩, nr0E_ok⟩
noncomputable def nr10P : List (FuncId × PCon) := nr0P
theorem nr10P_ok : ∀ p ∈ nr10P, (∀ (args : Array Value) (w : World), (callFunc p.1 args).run Tryz.prog w = .ok (.enter p.1 args) w) ∧ PanOk Tryz.prog p.1 p.2 := by
 simp only [nr10P]
 exact nr0P_ok
noncomputable def nr10 : G := { τ := nrT, Γ := nr10Γ, E := nr10E, Pn := nr10P }
theorem nr10_good : nr10.good Tryz.prog := good_of_all (nrT_ok _ rfl) nr10Γ_ok nr10E_ok nr10P_ok
theorem nr10_all : (∀ t, nr10.td t = (look nrT t).getD .other) ∧ nr10.y = false ∧ nr10.Γ = nr10Γ ∧ nr10.E = nr10E ∧ nr10.Pn = nr10P ∧ nr10.fz = [] := ⟨fun _ => rfl, rfl, rfl, rfl, rfl, rfl⟩
def conCarE : ECon := { wp := fun args hp K => match args, hp with
 | [.s (.int .i64 n), .s (.fnp f [⟨.slice (.int .i64), m⟩, ⟨.int .i64, k⟩])], [] => (f = 220 ∧ okD m ∧ 0 ≤ k ∧ k ≤ 29 ∧ n = m.length + 1 ∧ m.length ≤ 100000) ∧ ∀ xs : List Int, okD xs → xs.length = m.length + 1 → vl xs = vl m * 2 ^ k.toNat → K (.v (.s (.pre tI 0 xs.length (trimL xs).length))) [.arr true (tI.flats xs)]
 | _, _ => False }
theorem carE_ok : EffOk Tryz.prog 219 conCarE := by
 refine effOkD (L := { live := [0, 1, 4, 5, 6, 7, 8, 12, 13, 14] }) nr10_good rfl nr_mixed Tryz.func219 rfl conCarE 2 (by decide) (by kernel_rfl) ?_
 intro args hp K hpre hlens
 simp only [conCarE] at hpre
 split at hpre
 case h_2 => exact hpre.elim
 rename_i n f m0 k0
 obtain ⟨⟨rfl, hm, hk0, hk, rfl, hml⟩, hK⟩ := hpre
 refine ⟨rfl, ?_⟩
 simp -dsimp -implicitDefEqProofs [Tryz.f219, nr10_all, nrT, nr10Γ, nr10E, nr10P, nr0Γ, nr0E, nr0P, conMovD_eq, conTrimE, inI64]
 obtain ⟨m, hm'⟩ : ∃ m' : List Int, m' = m0 := ⟨m0, rfl⟩
 subst hm'
 obtain ⟨k, hk'⟩ : ∃ k' : Int, k' = k0 := ⟨k0, rfl⟩
 subst hk'
 have h2 := pow2_le hk0 hk
 refine ⟨⟨by omega, by omega, by omega⟩, ?_⟩
 refine WpD.loop (L := { live := [0, 1, 4, 5, 6, 7, 8, 12, 13, 14] }) nr10_good X0_ok nr_mixed (by kernel_rfl)
  (fun p : Nat × List Int × Nat => ⟨[(1, ⟨true, .v (.s (.fnp 220 [⟨.slice tI, m⟩, ⟨.int .i64, k⟩]))⟩), (5, ⟨true, .v (.s (.own tI 0 (m.length + 1)))⟩), (6, vI p.2.2), (12, vI ((m.length : Int) + 1)), (13, vI p.1)], [.arr true (tI.flats p.2.1)]⟩)
  (fun p => p.1 ≤ m.length + 1 ∧ p.2.1.length = m.length + 1 ∧ okD p.2.1 ∧ p.2.2 ≤ 1073741823 ∧ vl (p.2.1.take p.1) + 1073741824 ^ p.1 * p.2.2 = vl (m.take p.1) * 2 ^ k.toNat ∧ (p.1 = m.length + 1 → p.2.2 = 0)) (fun p => m.length + 1 - p.1) (0, List.replicate (m.length + 1) 0, 0)
  ⟨Nat.zero_le _, List.length_replicate, okD_rep _, Nat.zero_le _, by simp [vl], fun h => by omega⟩ (Turn.le (by simp -dsimp -implicitDefEqProofs)) ?_
 rintro ⟨i, xs, ov⟩ ⟨hi, hxl, hxo, hov, hv, hend⟩
 simp only at hi hxl hxo hov hv hend
 rcases Nat.lt_or_ge i (m.length + 1) with hil | hge
 ·
  obtain ⟨s1, s2, s3, s4, s5⟩ := carry_step (s := (m[i]?.getD 0).toNat * 2 ^ k.toNat + ov) hm h2.1 (by omega) hxo hov hv rfl
  have hmi := okD_getD hm i
  have hs : m[i]?.getD 0 * 2 ^ k.toNat + (ov : Int) = (((m[i]?.getD 0).toNat * 2 ^ k.toNat + ov : Nat) : Int) := by rw [shl_nat hmi.1]; omega
  simp -dsimp -implicitDefEqProofs [nr10_all, nrT, nr10Γ, nr10E, nr10P, nr0Γ, nr0E, nr0P, conMovD_eq, conTrimE, inI64]
  rw [hs, Int.fdiv_eq_ediv_of_nonneg _ (by decide)]
  generalize (m[i]?.getD 0).toNat * 2 ^ k.toNat + ov = s at *
  have e1 : (s : Int) / 1073741824 = ((s / 1073741824 : Nat) : Int) := by omega
  have e2 : (s : Int) % 1073741824 = ((s % 1073741824 : Nat) : Int) := by omega
  rw [e1, e2, fl_set (by omega)]
  refine ⟨fun _ => ⟨⟨hm, hk0, hk⟩, ⟨by omega, by omega⟩, by decide, ⟨hxl, by omega⟩, ⟨hxl, by omega⟩, ⟨by omega, by omega⟩, i + 1, xs.set i _, s / 1073741824, ⟨by omega, by rw [List.length_set]; exact hxl, s1, s3, s2, fun h => s5 (by omega)⟩, by omega, TurnT.le (by simp -dsimp -implicitDefEqProofs)⟩, fun h => by omega⟩
 ·
  obtain rfl : i = m.length + 1 := by omega
  obtain rfl := hend rfl
  simp -dsimp -implicitDefEqProofs [nr10_all, nrT, nr10Γ, nr10E, nr10P, nr0Γ, nr0E, nr0P, conMovD_eq, conTrimE, inI64]
  refine ⟨xs, ⟨rfl, hxl.symm, by omega⟩, ?_⟩
  rw [← hxl]
  refine hK xs hxo hxl ?_
  rw [List.take_of_length_le (by omega), List.take_of_length_le (by omega), Nat.mul_zero, Nat.add_zero] at hv
  exact hv
def conMovE : ECon := { wp := fun args hp K => match args, hp with
 | [.s (.sl (.int .i64) m _), .s (.int .i64 k)], [] => (okD m ∧ 0 ≤ k ∧ k ≤ 29 ∧ m.length ≤ 100000) ∧ ∀ xs : List Int, okD xs → xs.length = m.length + 1 → vl xs = vl m * 2 ^ k.toNat → K (.v (.s (.pre tI 0 xs.length (trimL xs).length))) [.arr true (tI.flats xs)]
 | _, _ => False }
noncomputable def nr11Γ : List (FuncId × Con) := nr10Γ
theorem nr11Γ_ok : ∀ p ∈ nr11Γ, (∀ (args : Array Value) (w : World), (callFunc p.1 args).run Tryz.prog w = .ok (.enter p.1 args) w) ∧ PureOk Tryz.prog p.1 p.2 := by
 simp only [nr11Γ]
 exact nr10Γ_ok
noncomputable def nr11E : List (FuncId × ECon) := (219, conCarE) :: nr10E
theorem nr11E_ok : ∀ p ∈ nr11E, (∀ (args : Array Value) (w : World), (callFunc p.1 args).run Tryz.prog w = .ok (.enter p.1 args) w) ∧ EffOk Tryz.prog p.1 p.2 := by
 simp only [nr11E, List.forall_mem_cons]
 exact ⟨⟨enters_of Tryz.func219 (by kernel_rfl) rfl, carE_ok⟩, nr10E_ok⟩
noncomputable def nr11P : List (FuncId × PCon) := nr10P
theorem nr11P_ok : ∀ p ∈ nr11P, (∀ (args : Array Value) (w : World), (callFunc p.1 args).run Tryz.prog w = .ok (.enter p.1 args) w) ∧ PanOk Tryz.prog p.1 p.2 := by
 simp only [nr11P]
 exact nr10P_ok
noncomputable def nr11 : G := { τ := nrT, Γ := nr11Γ, E := nr11E, Pn := nr11P }
theorem nr11_good : nr11.good Tryz.prog := good_of_all (nrT_ok _ rfl) nr11Γ_ok nr11E_ok nr11P_ok
theorem nr11_all : (∀ t, nr11.td t = (look nrT t).getD .other) ∧ nr11.y = false ∧ nr11.Γ = nr11Γ ∧ nr11.E = nr11E ∧ nr11.Pn = nr11P ∧ nr11.fz = [] := ⟨fun _ => rfl, rfl, rfl, rfl, rfl, rfl⟩
theorem movE_ok : EffOk Tryz.prog 215 conMovE := by
 refine effOkD (L := { live := [0, 1, 2, 3, 4], eps := [(1, [2, 3])] }) nr11_good rfl nr_mixed Tryz.func215 rfl conMovE 2 (by decide) (by kernel_rfl) ?_
 intro args hp K hpre hlens
 simp only [conMovE] at hpre
 split at hpre
 case h_2 => exact hpre.elim
 rename_i m0 em k
 obtain ⟨⟨hm, hk0, hk, hml⟩, hK⟩ := hpre
 refine ⟨rfl, ?_⟩
 simp -dsimp -implicitDefEqProofs [Tryz.f215, nr11_all, nrT, nr11Γ, nr11E, nr11P, nr10Γ, nr10E, nr10P, nr0Γ, nr0E, nr0P, conCarE, conMovD_eq, conTrimE, inI64]
 exact ⟨⟨by omega, by omega⟩, ⟨hm, hk0, hk, hml⟩, hK⟩
def lenN (x : Nat) : Nat := if x = 0 then 0 else Nat.log2 x + 1
theorem lenN_div {x k : Nat} (h : 2 ^ k ≤ x) : lenN x = lenN (x / 2 ^ k) + k := by
 have hp : 0 < 2 ^ k := Nat.pow_pos (by decide)
 have hy : x / 2 ^ k ≠ 0 := by
  have := Nat.div_le_div_right (c := 2 ^ k) h
  rw [Nat.div_self hp] at this
  omega
 have hx : x ≠ 0 := by omega
 unfold lenN
 rw [if_neg hx, if_neg hy]
 obtain ⟨e1, e2⟩ := (Nat.log2_eq_iff (k := Nat.log2 (x / 2 ^ k)) hy).1 rfl
 have : Nat.log2 x = Nat.log2 (x / 2 ^ k) + k := by
  rw [Nat.log2_eq_iff hx]
  refine ⟨?_, ?_⟩
  ·
   rw [Nat.pow_add]; exact (Nat.le_div_iff_mul_le hp).1 e1
  ·
   rw [Nat.add_right_comm, Nat.pow_add]; exact (Nat.div_lt_iff_lt_mul hp).1 e2
 omega
theorem lenN_lt {x : Nat} (h : x ≠ 0) : x < 2 ^ lenN x ∧ 1 ≤ lenN x := by
 unfold lenN
 rw [if_neg h]
 exact ⟨Nat.lt_log2_self, by omega⟩
theorem lenN_le {x k : Nat} (h : x < 2 ^ k) : lenN x ≤ k := by
 unfold lenN
 split
 ·
  omega
 ·
  rename_i hx
  have := (Nat.log2_lt hx).2 h
  omega
def tab8 : ByteArray := { data := #[0, 1, 2, 2, 3, 3, 3, 3, 4, 4, 4, 4, 4, 4, 4, 4, 5, 5, 5, 5, 5, 5, 5, 5, 5, 5, 5, 5, 5, 5, 5, 5, 6, 6, 6, 6, 6, 6, 6, 6, 6, 6, 6, 6, 6, 6, 6, 6, 6, 6, 6, 6, 6, 6, 6, 6, 6, 6, 6, 6, 6, 6, 6, 6, 7, 7, 7, 7, 7, 7, 7, 7, 7, 7, 7, 7, 7, 7, 7, 7, 7, 7, 7, 7, 7, 7, 7, 7, 7, 7, 7, 7, 7, 7, 7, 7, 7, 7, 7, 7, 7, 7, 7, 7, 7, 7, 7, 7, 7, 7, 7, 7, 7, 7, 7, 7, 7, 7, 7, 7, 7, 7, 7, 7, 7, 7, 7, 7, 8, 8, 8, 8, 8, 8, 8, 8, 8, 8, 8, 8, 8, 8, 8, 8, 8, 8, 8, 8, 8, 8, 8, 8, 8, 8, 8, 8, 8, 8, 8, 8, 8, 8, 8, 8, 8, 8, 8, 8, 8, 8, 8, 8, 8, 8, 8, 8, 8, 8, 8, 8, 8, 8, 8, 8, 8, 8, 8, 8, 8, 8, 8, 8, 8, 8, 8, 8, 8, 8, 8, 8, 8, 8, 8, 8, 8, 8, 8, 8, 8, 8, 8, 8, 8, 8, 8, 8, 8, 8, 8, 8, 8, 8, 8, 8, 8, 8, 8, 8, 8, 8, 8, 8, 8, 8, 8, 8, 8, 8, 8, 8, 8, 8, 8, 8, 8, 8, 8, 8, 8, 8, 8, 8, 8, 8, 8, 8] }
theorem tab8_eq : ({ data := #[0, 1, 2, 2, 3, 3, 3, 3, 4, 4, 4, 4, 4, 4, 4, 4, 5, 5, 5, 5, 5, 5, 5, 5, 5, 5, 5, 5, 5, 5, 5, 5, 6, 6, 6, 6, 6, 6, 6, 6, 6, 6, 6, 6, 6, 6, 6, 6, 6, 6, 6, 6, 6, 6, 6, 6, 6, 6, 6, 6, 6, 6, 6, 6, 7, 7, 7, 7, 7, 7, 7, 7, 7, 7, 7, 7, 7, 7, 7, 7, 7, 7, 7, 7, 7, 7, 7, 7, 7, 7, 7, 7, 7, 7, 7, 7, 7, 7, 7, 7, 7, 7, 7, 7, 7, 7, 7, 7, 7, 7, 7, 7, 7, 7, 7, 7, 7, 7, 7, 7, 7, 7, 7, 7, 7, 7, 7, 7, 8, 8, 8, 8, 8, 8, 8, 8, 8, 8, 8, 8, 8, 8, 8, 8, 8, 8, 8, 8, 8, 8, 8, 8, 8, 8, 8, 8, 8, 8, 8, 8, 8, 8, 8, 8, 8, 8, 8, 8, 8, 8, 8, 8, 8, 8, 8, 8, 8, 8, 8, 8, 8, 8, 8, 8, 8, 8, 8, 8, 8, 8, 8, 8, 8, 8, 8, 8, 8, 8, 8, 8, 8, 8, 8, 8, 8, 8, 8, 8, 8, 8, 8, 8, 8, 8, 8, 8, 8, 8, 8, 8, 8, 8, 8, 8, 8, 8, 8, 8, 8, 8, 8, 8, 8, 8, 8, 8, 8, 8, 8, 8, 8, 8, 8, 8, 8, 8, 8, 8, 8, 8, 8, 8, 8, 8, 8, 8] } : ByteArray) = tab8 := rfl
theorem tab8_size : tab8.size = 256 := rfl
theorem tab8_at : ∀ j, j < 256 → byteAt tab8 j = (lenN j : Int) := by decide
theorem tab_use {y : Nat} (h : y < 256) : IntKind.u8.wrap (y : Int) = (y : Int) ∧ IntKind.i64.wrap (byteAt tab8 (IntKind.u8.wrap (y : Int)).toNat) = (lenN y : Int) ∧ lenN y ≤ 8 := by
 have e1 : IntKind.u8.wrap (y : Int) = (y : Int) := by rw [IntKind.wrap_u8]; omega
 have h8 : lenN y ≤ 8 := lenN_le (k := 8) h
 refine ⟨e1, ?_, h8⟩
 rw [e1, Int.toNat_natCast, tab8_at y h]
 exact IntWalk.i64_in _ (by omega)
theorem fdiv_nat (n k : Nat) : (n : Int).fdiv (k : Int) = ((n / k : Nat) : Int) := by rw [Int.fdiv_eq_ediv_of_nonneg _ (by omega)]; rfl
noncomputable def conLen64 : Con := ⟨fun args => (match args with
 | [.s (.int .u64 x)] => 0 ≤ x ∧ x ≤ 1073741823
 | _ => False), fun args => match args with
 | [.s (.int _ x)] => .v (aI (lenN x.toNat))
 | _ => .v (.s .any)⟩
theorem conLen64_eq (x : Int) : conLen64.pre [.s (.int .u64 x)] = (0 ≤ x ∧ x ≤ 1073741823) ∧ conLen64.val [.s (.int .u64 x)] = .v (aI (lenN x.toNat)) := ⟨rfl, rfl⟩
theorem len64_ok : PureOk Tryz.prog 138 conLen64 := by
 refine pureOkD (L := { live := [0, 2, 4, 8, 14] }) nr0_good rfl nr_mixed Tryz.func138 rfl conLen64 1 (by decide) (by kernel_rfl) ?_
 intro args hpre hlens
 simp only [conLen64] at hpre
 split at hpre
 case h_2 => exact hpre.elim
 rename_i x
 simp only [allLen, AV.lenOk, SV.lenOk, Ty.lenOk, maxLen, and_true, implies_true, true_and, List.forall_mem_cons, List.not_mem_nil, false_implies] at hlens
 refine ⟨rfl, ?_⟩
 simp -dsimp -implicitDefEqProofs [Tryz.f138, conLen64_eq, tab8_eq, tab8_size, nr0_all, nrT, nr0Γ, nr0E, nr0P, inI64]
 obtain ⟨hx0, hx⟩ := hpre
 obtain ⟨n, rfl⟩ : ∃ n : Nat, x = n := ⟨x.toNat, by omega⟩
 refine ⟨fun h => by omega, fun _ => ?_⟩
 have f1 : (n : Int).fdiv 65536 = ((n / 65536 : Nat) : Int) := fdiv_nat n 65536
 have f2 : (n : Int).fdiv 256 = ((n / 256 : Nat) : Int) := fdiv_nat n 256
 have f3 : ((n / 65536 : Nat) : Int).fdiv 256 = ((n / 65536 / 256 : Nat) : Int) := fdiv_nat _ 256
 rw [f1, f2, f3, Int.toNat_natCast]
 refine ⟨fun h16 => ⟨by decide, fun h8 => ?_, fun h8 => ?_⟩, fun h16 => ⟨fun h8 => ?_, fun h8 => ?_⟩⟩
 ·
  obtain ⟨t1, t2, t3⟩ := tab_use (y := n / 65536 / 256) (by omega)
  have := lenN_div (x := n / 65536) (k := 8) (by omega)
  have := lenN_div (x := n) (k := 16) (by omega)
  simp only [Nat.reducePow] at *
  rw [t2, t1]
  omega
 ·
  obtain ⟨t1, t2, t3⟩ := tab_use (y := n / 65536) (by omega)
  have := lenN_div (x := n) (k := 16) (by omega)
  simp only [Nat.reducePow] at *
  rw [t2, t1]
  omega
 ·
  obtain ⟨t1, t2, t3⟩ := tab_use (y := n / 256) (by omega)
  have := lenN_div (x := n) (k := 8) (by omega)
  simp only [Nat.reducePow] at *
  rw [t2, t1]
  omega
 ·
  obtain ⟨t1, t2, t3⟩ := tab_use (y := n) (by omega)
  rw [t2, t1]
  omega
noncomputable def nr12Γ : List (FuncId × Con) := (138, conLen64) :: nr0Γ
theorem nr12Γ_ok : ∀ p ∈ nr12Γ, (∀ (args : Array Value) (w : World), (callFunc p.1 args).run Tryz.prog w = .ok (.enter p.1 args) w) ∧ PureOk Tryz.prog p.1 p.2 := by
 simp only [nr12Γ, List.forall_mem_cons]
 exact ⟨⟨enters_of Tryz.func138 (by kernel_rfl) rfl, len64_ok⟩, nr0Γ_ok⟩
noncomputable def nr12E : List (FuncId × ECon) := nr0E
theorem nr12E_ok : ∀ p ∈ nr12E, (∀ (args : Array Value) (w : World), (callFunc p.1 args).run Tryz.prog w = .ok (.enter p.1 args) w) ∧ EffOk Tryz.prog p.1 p.2 := by
 simp only [nr12E]
 exact nr0E_ok
noncomputable def nr12P : List (FuncId × PCon) := nr0P
theorem nr12P_ok : ∀ p ∈ nr12P, (∀ (args : Array Value) (w : World), (callFunc p.1 args).run Tryz.prog w = .ok (.enter p.1 args) w) ∧ PanOk Tryz.prog p.1 p.2 := by
 simp only [nr12P]
 exact nr0P_ok
noncomputable def nr12 : G := { τ := nrT, Γ := nr12Γ, E := nr12E, Pn := nr12P }
theorem nr12_good : nr12.good Tryz.prog := good_of_all (nrT_ok _ rfl) nr12Γ_ok nr12E_ok nr12P_ok
theorem nr12_all : (∀ t, nr12.td t = (look nrT t).getD .other) ∧ nr12.y = false ∧ nr12.Γ = nr12Γ ∧ nr12.E = nr12E ∧ nr12.Pn = nr12P ∧ nr12.fz = [] := ⟨fun _ => rfl, rfl, rfl, rfl, rfl, rfl⟩
noncomputable def conLead64 : Con := ⟨fun args => (match args with
 | [.s (.int .u64 x)] => 0 ≤ x ∧ x ≤ 1073741823
 | _ => False), fun args => match args with
 | [.s (.int _ x)] => .v (aI (64 - lenN x.toNat))
 | _ => .v (.s .any)⟩
theorem conLead64_eq (x : Int) : conLead64.pre [.s (.int .u64 x)] = (0 ≤ x ∧ x ≤ 1073741823) ∧ conLead64.val [.s (.int .u64 x)] = .v (aI (64 - lenN x.toNat)) := ⟨rfl, rfl⟩
theorem lead64_ok : PureOk Tryz.prog 214 conLead64 := by
 refine pureOkD (L := { live := [0, 2] }) nr12_good rfl nr_mixed Tryz.func214 rfl conLead64 1 (by decide) (by kernel_rfl) ?_
 intro args hpre hlens
 simp only [conLead64] at hpre
 split at hpre
 case h_2 => exact hpre.elim
 rename_i x
 simp only [allLen, AV.lenOk, SV.lenOk, Ty.lenOk, maxLen, and_true, implies_true, true_and, List.forall_mem_cons, List.not_mem_nil, false_implies] at hlens
 refine ⟨rfl, ?_⟩
 simp -dsimp -implicitDefEqProofs [Tryz.f214, conLead64_eq, nr12_all, nrT, nr12Γ, nr12E, nr12P, nr0Γ, nr0E, nr0P, conLen64_eq, inI64]
 have := lenN_le (x := x.toNat) (k := 30) (by omega)
 exact ⟨hpre, by omega, by omega⟩
end Go.Am
namespace Go.Am
set_option maxHeartbeats 4000000
theorem ld_ring {A A' p x y d ow q s Z Bi gv g : Int} (h1 : A' + p * x = A + p * d) (h2 : A + p * ow = Z - Bi * gv) (hd : d + 1073741824 * q = s) (hs : s = x - g * y + ow) : A' + p * 1073741824 * q = Z - (Bi * gv + p * (g * y)) := by
 grind
theorem ld_sub {us v : List Int} {i t g : Nat} {ow s Z : Int} (ho : okD us) (hv : okD v) (ht : t < v.length) (hi : i + t < us.length) (hg : g ≤ 1073741823) (how : -1073741823 ≤ ow ∧ ow ≤ 0)
  (hz : (vl us : Int) + ((1073741824 ^ (i + t) : Nat) : Int) * ow = Z - ((1073741824 ^ i : Nat) : Int) * ((g * vl (v.take t) : Nat) : Int))
  (hs : s = us[i + t]?.getD 0 - (g : Int) * v[t]?.getD 0 + ow) :
  okD (us.set (i + t) (s % 1073741824)) ∧ (vl (us.set (i + t) (s % 1073741824)) : Int) + ((1073741824 ^ (i + (t + 1)) : Nat) : Int) * (s / 1073741824) = Z - ((1073741824 ^ i : Nat) : Int) * ((g * vl (v.take (t + 1)) : Nat) : Int) ∧
   (-1073741823 ≤ s / 1073741824 ∧ s / 1073741824 ≤ 0) ∧ (-1152921504606846976 ≤ s ∧ s ≤ 1073741823) ∧ (0 ≤ (g : Int) * v[t]?.getD 0 ∧ (g : Int) * v[t]?.getD 0 ≤ 1152921502459363329) := by
 have hx := okD_get ho hi
 have hy := okD_get hv ht
 have hm := mul_range (x := (g : Int)) (by omega) hy
 refine ⟨okD_set ho (by omega), ?_, ⟨by omega, by omega⟩, ⟨by omega, by omega⟩, hm⟩
 have h1 := vl_set hi (s % 1073741824)
 have h2 := vl_take_succ ht
 have e1 : 1073741824 ^ (i + (t + 1)) = 1073741824 ^ (i + t) * 1073741824 := by rw [← Nat.add_assoc, Nat.pow_succ]
 have e2 : 1073741824 ^ i * (g * vl (v.take (t + 1))) = 1073741824 ^ i * (g * vl (v.take t)) + 1073741824 ^ (i + t) * (g * (v[t]?.getD 0).toNat) := by
  rw [h2, Nat.mul_add, Nat.mul_add, Nat.pow_add, Nat.mul_assoc, Nat.mul_left_comm g]
 rw [e1, ← Int.natCast_mul, e2]
 rw [← Int.natCast_mul] at hz
 have h1' : ((vl (us.set (i + t) (s % 1073741824)) : Nat) : Int) + ((1073741824 ^ (i + t) : Nat) : Int) * (us[i + t]?.getD 0) = (vl us : Int) + ((1073741824 ^ (i + t) : Nat) : Int) * (s % 1073741824) := by
  have a1 : ((us[i + t]?.getD 0).toNat : Int) = us[i + t]?.getD 0 := by omega
  have a2 : ((s % 1073741824).toNat : Int) = s % 1073741824 := by omega
  have := congrArg (Int.ofNat) h1
  simp only [Int.ofNat_eq_natCast, Int.natCast_add, Int.natCast_mul, a1, a2] at this
  exact this
 have a3 : ((v[t]?.getD 0).toNat : Int) = v[t]?.getD 0 := by omega
 rw [Int.natCast_add, Int.natCast_mul, Int.natCast_mul (1073741824 ^ (i + t)) (g * _), Int.natCast_mul g _, a3, Int.natCast_mul]
 rw [Int.natCast_mul] at hz
 have hd : s % 1073741824 + 1073741824 * (s / 1073741824) = s := Int.emod_add_mul_ediv s 1073741824
 exact ld_ring h1' hz hd hs
theorem ld_ring2 {A A' p x y d ov q s Y Bi vt : Int} (h1 : A' + p * x = A + p * d) (h2 : A + p * ov = Y + Bi * vt) (hd : d + 1073741824 * q = s) (hs : s = x + y + ov) : A' + p * 1073741824 * q = Y + (Bi * vt + p * y) := by
 grind
theorem ld_add {ys v : List Int} {i t : Nat} {ov s Y : Int} (ho : okD ys) (hv : okD v) (ht : t < v.length) (hi : i + t < ys.length) (hov : 0 ≤ ov ∧ ov ≤ 1)
  (hz : (vl ys : Int) + ((1073741824 ^ (i + t) : Nat) : Int) * ov = Y + ((1073741824 ^ i : Nat) : Int) * ((vl (v.take t) : Nat) : Int))
  (hs : s = ys[i + t]?.getD 0 + v[t]?.getD 0 + ov) :
  okD (ys.set (i + t) (s % 1073741824)) ∧ (vl (ys.set (i + t) (s % 1073741824)) : Int) + ((1073741824 ^ (i + (t + 1)) : Nat) : Int) * (s / 1073741824) = Y + ((1073741824 ^ i : Nat) : Int) * ((vl (v.take (t + 1)) : Nat) : Int) ∧
   (0 ≤ s / 1073741824 ∧ s / 1073741824 ≤ 1) ∧ (0 ≤ s ∧ s ≤ 2147483647) ∧ (0 ≤ v[t]?.getD 0 ∧ v[t]?.getD 0 ≤ 1073741823) ∧ (0 ≤ ys[i + t]?.getD 0 ∧ ys[i + t]?.getD 0 ≤ 1073741823) := by
 have hx := okD_get ho hi
 have hy := okD_get hv ht
 refine ⟨okD_set ho (by omega), ?_, ⟨by omega, by omega⟩, ⟨by omega, by omega⟩, hy, hx⟩
 have h1 := vl_set hi (s % 1073741824)
 have h2 := vl_take_succ ht
 have e1 : 1073741824 ^ (i + (t + 1)) = 1073741824 ^ (i + t) * 1073741824 := by rw [← Nat.add_assoc, Nat.pow_succ]
 have e2 : 1073741824 ^ i * (vl (v.take (t + 1))) = 1073741824 ^ i * (vl (v.take t)) + 1073741824 ^ (i + t) * (v[t]?.getD 0).toNat := by
  rw [h2, Nat.mul_add, Nat.pow_add, Nat.mul_assoc]
 rw [e1, ← Int.natCast_mul, e2]
 have h1' : ((vl (ys.set (i + t) (s % 1073741824)) : Nat) : Int) + ((1073741824 ^ (i + t) : Nat) : Int) * (ys[i + t]?.getD 0) = (vl ys : Int) + ((1073741824 ^ (i + t) : Nat) : Int) * (s % 1073741824) := by
  have a1 : ((ys[i + t]?.getD 0).toNat : Int) = ys[i + t]?.getD 0 := by omega
  have a2 : ((s % 1073741824).toNat : Int) = s % 1073741824 := by omega
  have := congrArg (Int.ofNat) h1
  simp only [Int.ofNat_eq_natCast, Int.natCast_add, Int.natCast_mul, a1, a2] at this
  exact this
 have a3 : ((v[t]?.getD 0).toNat : Int) = v[t]?.getD 0 := by omega
 rw [Int.natCast_add, Int.natCast_mul, Int.natCast_mul (1073741824 ^ (i + t)), a3, Int.natCast_mul]
 have hd : s % 1073741824 + 1073741824 * (s / 1073741824) = s := Int.emod_add_mul_ediv s 1073741824
 exact ld_ring2 h1' hz hd hs
theorem ld_mul_lt {a b c : Nat} (h : a * b < a * c) : b < c := Nat.lt_of_mul_lt_mul_left h
theorem ld_top {us : List Int} {i k V : Nat} (hk : 2 ≤ k) (ho : okD us) (hl : i + k < us.length) (hX : vl us < 1073741824 ^ (i + 1) * V) (hV : V < 1073741824 ^ k) :
  ∃ X X' : Nat, vl us = vl (us.take i) + 1073741824 ^ i * X ∧ vl (us.take i) < 1073741824 ^ i ∧ X = X' + 1073741824 ^ (k - 2) * (((us[i + k]?.getD 0).toNat * 1073741824 + (us[i + k - 1]?.getD 0).toNat) * 1073741824 + (us[i + k - 2]?.getD 0).toNat) ∧ X' < 1073741824 ^ (k - 2) ∧ X < 1073741824 * V := by
 obtain ⟨m, rfl⟩ : ∃ m, k = m + 2 := ⟨k - 2, by omega⟩
 have h0 := vl_take_drop us i (by omega)
 have h1 := vl_lt (okD_take ho i)
 rw [List.length_take, Nat.min_eq_left (by omega)] at h1
 have hXB : vl (us.drop i) < 1073741824 * V := by
  have : 1073741824 ^ i * vl (us.drop i) < 1073741824 ^ i * (1073741824 * V) := by
   rw [← Nat.mul_assoc, ← Nat.pow_succ]
   show _ < 1073741824 ^ (i + 1) * V
   omega
  exact ld_mul_lt this
 have h2 := vl_take_drop (us.drop i) m (by rw [List.length_drop]; omega)
 have h3 := vl_lt (okD_take (okD_drop ho i) m)
 rw [List.length_take, List.length_drop, Nat.min_eq_left (by omega)] at h3
 rw [List.drop_drop] at h2
 have d1 := vl_drop us (i := i + m) (by omega)
 have d2 := vl_drop us (i := i + m + 1) (by omega)
 have d3 := vl_drop us (i := i + m + 1 + 1) (by omega)
 have hz : vl (us.drop (i + m + 1 + 1 + 1)) = 0 := by
  apply Classical.byContradiction
  intro hne
  have q1 : 1073741824 * V < 1073741824 ^ m * (1073741824 * (1073741824 * 1073741824)) := by
   have : 1073741824 * V < 1073741824 * 1073741824 ^ (m + 2) := by omega
   rw [Nat.pow_succ, Nat.pow_succ] at this
   generalize 1073741824 ^ m = p at *
   omega
  have q2 : 1073741824 ^ m * (1073741824 * (1073741824 * 1073741824)) ≤ 1073741824 ^ m * vl (us.drop (i + m)) := Nat.mul_le_mul_left _ (by omega)
  omega
 rw [hz] at d3
 refine ⟨vl (us.drop i), vl ((us.drop i).take m), h0, h1, ?_, h3, hXB⟩
 rw [h2, Nat.add_sub_cancel]
 congr 2
 rw [d1, d2, d3, show i + (m + 2) = i + m + 1 + 1 by omega, show i + m + 1 + 1 - 1 = i + m + 1 by omega, show i + m + 1 + 1 - 2 = i + m by omega]
 generalize (us[i + m + 1 + 1]?.getD 0).toNat = a
 generalize (us[i + m + 1]?.getD 0).toNat = b
 generalize (us[i + m]?.getD 0).toNat = c
 omega
theorem ld_vtop {v : List Int} (hk : 2 ≤ v.length) (ho : okD v) :
  ∃ V' : Nat, vl v = V' + 1073741824 ^ (v.length - 2) * ((v[v.length - 1]?.getD 0).toNat * 1073741824 + (v[v.length - 2]?.getD 0).toNat) ∧ V' < 1073741824 ^ (v.length - 2) := by
 obtain ⟨m, hm⟩ : ∃ m, v.length = m + 2 := ⟨v.length - 2, by omega⟩
 have h2 := vl_take_drop v m (by omega)
 have h3 := vl_lt (okD_take ho m)
 rw [List.length_take, Nat.min_eq_left (by omega)] at h3
 have d1 := vl_drop v (i := m) (by omega)
 have d2 := vl_drop v (i := m + 1) (by omega)
 have hz : vl (v.drop (m + 1 + 1)) = 0 := by rw [List.drop_eq_nil_of_le (by omega)]; rfl
 rw [hz] at d2
 rw [hm, Nat.add_sub_cancel, show m + 2 - 1 = m + 1 by omega]
 refine ⟨vl (v.take m), ?_, h3⟩
 rw [h2]
 congr 2
 rw [d1, d2]
 generalize (v[m + 1]?.getD 0).toNat = a
 generalize (v[m]?.getD 0).toNat = b
 omega
theorem ld_up {X X' p h u2 : Nat} (hX : X = X' + p * (h * 1073741824 + u2)) (hX' : X' < p) : X < p * (h * 1073741824 + u2 + 1) := by
 rw [Nat.mul_add p _ 1, hX]; omega
theorem ld_low {V V' p v1 v2 g : Nat} (hV : V = V' + p * (v1 * 1073741824 + v2)) : p * (g * (v1 * 1073741824 + v2)) ≤ g * V := by
 rw [Nat.mul_left_comm]
 exact Nat.mul_le_mul_left _ (by omega)
theorem ld_guess0 {X X' V V' p u0 u1 u2 v1 v2 g : Nat} (hX : X = X' + p * ((u0 * 1073741824 + u1) * 1073741824 + u2)) (hX' : X' < p) (hV : V = V' + p * (v1 * 1073741824 + v2)) (hV' : V' < p)
  (hu1 : u1 ≤ 1073741823) (hu2 : u2 ≤ 1073741823) (hv1 : 1 ≤ v1) (hv1b : v1 ≤ 1073741823) (hv2 : v2 ≤ 1073741823) (hXB : X < 1073741824 * V) (hg : g = if (u0 * 1073741824 + u1) / v1 ≤ 1073741823 then (u0 * 1073741824 + u1) / v1 else 1073741823) :
  X < (g + 1) * V ∧ g ≤ 1073741823 ∧ g * v1 ≤ u0 * 1073741824 + u1 ∧ u0 * 1073741824 + u1 < g * v1 + 2147483648 ∧ u0 ≤ 1073741823 := by
 have hp : 0 < p := by omega
 have hup := ld_up hX hX'
 have hu0 : u0 ≤ v1 := by
  have h1 : V < p * (v1 * 1073741824 + v2 + 1) := ld_up hV hV'
  have h2 : 1073741824 * V < p * ((v1 + 1) * 1073741824 * 1073741824) := by
   have : 1073741824 * (p * (v1 * 1073741824 + v2 + 1)) ≤ p * ((v1 + 1) * 1073741824 * 1073741824) := by
    rw [Nat.mul_left_comm]
    exact Nat.mul_le_mul_left _ (by omega)
   omega
  have h3 : p * (u0 * 1073741824 * 1073741824) ≤ X := by
   rw [hX]
   have : p * (u0 * 1073741824 * 1073741824) ≤ p * ((u0 * 1073741824 + u1) * 1073741824 + u2) := Nat.mul_le_mul_left _ (by omega)
   omega
  have h4 : p * (u0 * 1073741824 * 1073741824) < p * ((v1 + 1) * 1073741824 * 1073741824) := by omega
  have := ld_mul_lt h4
  omega
 have hd := Nat.div_mul_le_self (u0 * 1073741824 + u1) v1
 have hd2 : u0 * 1073741824 + u1 < ((u0 * 1073741824 + u1) / v1 + 1) * v1 := by
  have := Nat.lt_mul_div_succ (u0 * 1073741824 + u1) (show 0 < v1 by omega)
  rw [Nat.mul_comm v1] at this
  exact this
 split at hg
 ·
  rename_i hle
  rw [← hg] at hd hd2 hle
  refine ⟨?_, hle, hd, by rw [Nat.add_mul, Nat.one_mul] at hd2; omega, by omega⟩
  apply Classical.byContradiction
  intro hc
  have h1 := ld_low (g := g + 1) hV
  have h2 : p * ((u0 * 1073741824 + u1) * 1073741824 + u2 + 1) ≤ p * ((g + 1) * (v1 * 1073741824 + v2)) := by
   refine Nat.mul_le_mul_left _ ?_
   rw [Nat.mul_add, ← Nat.mul_assoc]
   generalize (g + 1) * v1 = z at *
   have : 0 ≤ (g + 1) * v2 := Nat.zero_le _
   omega
  omega
 ·
  rename_i hle
  subst hg
  have h1 : 1073741823 * v1 ≤ (u0 * 1073741824 + u1) / v1 * v1 := Nat.mul_le_mul_right _ (by omega)
  refine ⟨by omega, by omega, by omega, ?_, by omega⟩
  omega
theorem ld_guessS {X X' V V' p h u2 v1 v2 g : Nat} (hX : X = X' + p * (h * 1073741824 + u2)) (hX' : X' < p) (hV : V = V' + p * (v1 * 1073741824 + v2)) (hgv : g * v1 ≤ h) (hgt : (h - g * v1) * 1073741824 + u2 < g * v2) :
  1 ≤ g ∧ X < g * V := by
 have hup := ld_up hX hX'
 have h1 := ld_low (g := g) hV
 have hg0 : 1 ≤ g := by
  rcases Nat.eq_zero_or_pos g with rfl | h
  ·
   omega
  ·
   exact h
 refine ⟨hg0, ?_⟩
 have h2 : p * (h * 1073741824 + u2 + 1) ≤ p * (g * (v1 * 1073741824 + v2)) := by
  refine Nat.mul_le_mul_left _ ?_
  rw [Nat.mul_add, ← Nat.mul_assoc]
  generalize g * v1 = z at *
  generalize g * v2 = y at *
  omega
 omega
theorem ld_guessE {X X' V V' p h u2 v1 v2 g : Nat} (hX : X = X' + p * (h * 1073741824 + u2)) (hV : V = V' + p * (v1 * 1073741824 + v2)) (hV' : V' < p) (hv1 : 1 ≤ v1) (hg : g ≤ 1073741823) (hgv : g * v1 ≤ h)
  (hle : g * v2 ≤ (h - g * v1) * 1073741824 + u2) : g * V < X + V := by
 have hp : 0 < p := by omega
 have h1 : p * (g * (v1 * 1073741824 + v2)) ≤ p * (h * 1073741824 + u2) := by
  refine Nat.mul_le_mul_left _ ?_
  rw [Nat.mul_add, ← Nat.mul_assoc]
  generalize g * v1 = z at *
  generalize g * v2 = y at *
  omega
 have h2 : g * V = g * V' + p * (g * (v1 * 1073741824 + v2)) := by
  rw [hV, Nat.mul_add]
  congr 1
  rw [Nat.mul_left_comm]
 have h3 : g * V' ≤ 1073741823 * p := Nat.mul_le_mul hg (by omega)
 have h4 : p * 1073741824 ≤ p * (v1 * 1073741824 + v2) := Nat.mul_le_mul_left _ (by omega)
 omega
theorem ld_norm {b : List Int} (hb : canon b) (hl : 1 ≤ b.length) : 1 ≤ lenN (b[b.length - 1]?.getD 0).toNat ∧ lenN (b[b.length - 1]?.getD 0).toNat ≤ 30 ∧ (dig (vl b * 2 ^ (30 - lenN (b[b.length - 1]?.getD 0).toNat))).length = b.length := by
 have h1 := canon_last hb hl
 obtain ⟨h2, h3⟩ := lenN_lt (x := (b[b.length - 1]?.getD 0).toNat) (by omega)
 have h4 := lenN_le (x := (b[b.length - 1]?.getD 0).toNat) (k := 30) (by omega)
 refine ⟨h3, h4, Nat.le_antisymm ?_ ?_⟩
 ·
  rw [dig_len]
  have e1 := vl_take_succ (xs := b) (i := b.length - 1) (by omega)
  rw [Nat.sub_add_cancel hl, List.take_of_length_le (Nat.le_refl _)] at e1
  have e2 := vl_lt (okD_take hb.1 (b.length - 1))
  rw [List.length_take, Nat.min_eq_left (by omega)] at e2
  have e3 : 1073741824 ^ b.length = 1073741824 ^ (b.length - 1) * 1073741824 := by rw [← Nat.pow_succ, Nat.succ_eq_add_one, Nat.sub_add_cancel hl]
  have e4 : 2 ^ lenN (b[b.length - 1]?.getD 0).toNat * 2 ^ (30 - lenN (b[b.length - 1]?.getD 0).toNat) = 1073741824 := by rw [← Nat.pow_add, Nat.add_sub_cancel' h4]
  rw [e3, e1]
  generalize (b[b.length - 1]?.getD 0).toNat = x at *
  generalize 2 ^ (30 - lenN x) = K at *
  generalize 2 ^ lenN x = L at *
  generalize 1073741824 ^ (b.length - 1) = p at *
  generalize vl (b.take (b.length - 1)) = r at *
  have hK : 0 < K := by
   rcases Nat.eq_zero_or_pos K with rfl | h
   ·
    simp at e4
   ·
    exact h
  have f1 : r + p * x < p * L := by
   have : p * (x + 1) ≤ p * L := Nat.mul_le_mul_left _ h2
   rw [Nat.mul_add] at this
   omega
  have f2 : (r + p * x) * K < p * L * K := Nat.mul_lt_mul_of_pos_right f1 hK
  rw [Nat.mul_assoc p, e4] at f2
  exact f2
 ·
  have : ¬ (dig (vl b * 2 ^ (30 - lenN (b[b.length - 1]?.getD 0).toNat))).length ≤ b.length - 1 := by
   rw [dig_len]
   intro h
   have h5 : ¬ b.length ≤ b.length - 1 := by omega
   rw [canon_len hb] at h5
   have : vl b * 1 ≤ vl b * 2 ^ (30 - lenN (b[b.length - 1]?.getD 0).toNat) := Nat.mul_le_mul_left _ (Nat.pow_pos (by decide))
   omega
  omega
theorem ld_head {us : List Int} {m : Nat} (ho : okD us) (hm : m ≤ us.length) (h : vl us < 1073741824 ^ m) : vl (us.take m) = vl us := by
 have h1 := vl_take_drop us m hm
 rcases Nat.eq_zero_or_pos (vl (us.drop m)) with h0 | h0
 ·
  rw [h0, Nat.mul_zero] at h1; omega
 ·
  have : 1073741824 ^ m * 1 ≤ 1073741824 ^ m * vl (us.drop m) := Nat.mul_le_mul_left _ h0
  omega
theorem ld_last {U Q a b K : Nat} (hb : 0 < b) (hK : 0 < K) (h : U + Q * (b * K) = a * K) (hl : U < b * K) : Q = a / b ∧ U / K = a % b := by
 have h1 := (Nat.div_mod_unique (Nat.mul_pos hb hK) (a := a * K) (c := U) (d := Q)).2 ⟨by rw [Nat.mul_comm (b * K)]; exact h, hl⟩
 rw [Nat.mul_div_mul_right _ _ hK, Nat.mul_mod_mul_right] at h1
 refine ⟨h1.1.symm, ?_⟩
 rw [← h1.2, Nat.mul_div_cancel _ hK]
theorem ld_zero {us : List Int} {m : Nat} (ho : okD us) (hm : m ≤ us.length) (h : vl us < 1073741824 ^ m) : vl (us.drop m) = 0 := by
 have h1 := vl_take_drop us m hm
 rcases Nat.eq_zero_or_pos (vl (us.drop m)) with h0 | h0
 ·
  exact h0
 ·
  have : 1073741824 ^ m * 1 ≤ 1073741824 ^ m * vl (us.drop m) := Nat.mul_le_mul_left _ h0
  omega
theorem ld_ringA {L p X gV V z : Int} (h1 : z = L + p * X - p * gV) (hL : 0 ≤ L) (hL2 : L < p) (hX : X < gV + V) (hp : 0 < p) : z < p * V := by
 have h2 : p * (X - gV) ≤ p * (V - 1) := Int.mul_le_mul_of_nonneg_left (by omega) (by omega)
 have h3 : p * (X - gV) = p * X - p * gV := by grind
 have h4 : p * (V - 1) = p * V - p := by grind
 omega
theorem ld_ringB {L p X gV V z : Int} (h1 : z = L + p * X - p * gV) (hL : 0 ≤ L) (hX : gV < X + V) (hp : 0 < p) : 0 < z + p * V := by
 have h2 : p * 1 ≤ p * (X + V - gV) := Int.mul_le_mul_of_nonneg_left (by omega) (by omega)
 have h3 : p * (X + V - gV) = p * X + p * V - p * gV := by grind
 omega
theorem ld_gV {g V : Nat} : (g + 1) * V = g * V + V := by rw [Nat.add_mul, Nat.one_mul]
theorem ld_castA {u0 u1 gv u2 gw : Nat} (hle : gv ≤ u0 * 1073741824 + u1) (hA : ((u0 : Int) * 1073741824 + u1 - (gv : Int)) * 1073741824 + u2 < (gw : Int)) : (u0 * 1073741824 + u1 - gv) * 1073741824 + u2 < gw := by omega
theorem ld_castB {u0 u1 gv u2 gw : Nat} (hle : gv ≤ u0 * 1073741824 + u1) (hgw : gw ≤ 1152921502459363329) (hE : ((u0 : Int) * 1073741824 + u1 - (gv : Int)) * 1073741824 + u2 < (gw : Int) → 1073741823 < ((u0 : Int) * 1073741824 + u1 - (gv : Int))) : gw ≤ (u0 * 1073741824 + u1 - gv) * 1073741824 + u2 := by omega
def LdSub (us v : List Int) (i g t : Nat) (ys : List Int) (ow : Int) : Prop :=
 okD ys ∧ (-1073741823 ≤ ow ∧ ow ≤ 0) ∧ (vl ys : Int) + ((1073741824 ^ (i + t) : Nat) : Int) * ow = vl us - ((1073741824 ^ i : Nat) : Int) * ((g * vl (v.take t) : Nat) : Int) ∧ ys.drop (i + t) = us.drop (i + t)
def LdAdd (ys v : List Int) (i t : Nat) (zs : List Int) (ov : Int) : Prop :=
 okD zs ∧ (0 ≤ ov ∧ ov ≤ 1) ∧ (vl zs : Int) + ((1073741824 ^ (i + t) : Nat) : Int) * ov = vl ys + ((1073741824 ^ i : Nat) : Int) * ((vl (v.take t) : Nat) : Int) ∧ zs.drop (i + t) = ys.drop (i + t)
theorem LdSub.zero {us v : List Int} {i g : Nat} (h : okD us) : LdSub us v i g 0 us 0 := ⟨h, by omega, by simp [vl], rfl⟩
theorem LdAdd.zero {ys v : List Int} {i : Nat} (h : okD ys) : LdAdd ys v i 0 ys 0 := ⟨h, by omega, by simp [vl], rfl⟩
theorem LdSub.step {us v ys : List Int} {i t g : Nat} {ow s : Int} (hh : LdSub us v i g t ys ow) (hv : okD v) (ht : t < v.length) (hi : i + t < ys.length) (hg : g ≤ 1073741823)
  (hs : s = ys[i + t]?.getD 0 - (g : Int) * v[t]?.getD 0 + ow) : LdSub us v i g (t + 1) (ys.set (i + t) (s % 1073741824)) (s / 1073741824) ∧ (-1152921504606846976 ≤ s ∧ s ≤ 1073741823) ∧ (0 ≤ (g : Int) * v[t]?.getD 0 ∧ (g : Int) * v[t]?.getD 0 ≤ 1152921502459363329) := by
 obtain ⟨h1, h2, h3, h4⟩ := hh
 obtain ⟨s1, s2, s3, s4, s5⟩ := ld_sub h1 hv ht hi hg h2 h3 hs
 refine ⟨⟨s1, s3, s2, ?_⟩, s4, s5⟩
 rw [← Nat.add_assoc, drop_set_succ]
 exact drop_eq_succ h4
theorem LdAdd.step {ys v zs : List Int} {i t : Nat} {ov s : Int} (hh : LdAdd ys v i t zs ov) (hv : okD v) (ht : t < v.length) (hi : i + t < zs.length)
  (hs : s = zs[i + t]?.getD 0 + v[t]?.getD 0 + ov) : LdAdd ys v i (t + 1) (zs.set (i + t) (s % 1073741824)) (s / 1073741824) ∧ (0 ≤ s ∧ s ≤ 2147483647) ∧ (0 ≤ v[t]?.getD 0 ∧ v[t]?.getD 0 ≤ 1073741823) ∧ (0 ≤ zs[i + t]?.getD 0 ∧ zs[i + t]?.getD 0 ≤ 1073741823) := by
 obtain ⟨h1, h2, h3, h4⟩ := hh
 obtain ⟨s1, s2, s3, s4, s5, s6⟩ := ld_add h1 hv ht hi h2 h3 hs
 refine ⟨⟨s1, s3, s2, ?_⟩, s4, s5, s6⟩
 rw [← Nat.add_assoc, drop_set_succ]
 exact drop_eq_succ h4
theorem ld_fin1 {us ys : List Int} {i k V X L g : Nat} {ow : Int} (hy : okD ys) (hl : ys.length = us.length) (hi : i + k < us.length) (hd : ys[i + k]?.getD 0 = us[i + k]?.getD 0)
  (hz : (vl ys : Int) + ((1073741824 ^ (i + k) : Nat) : Int) * ow = vl us - ((1073741824 ^ i : Nat) : Int) * ((g * V : Nat) : Int)) (hx : vl us = L + 1073741824 ^ i * X) (hL : L < 1073741824 ^ i) (hX : X < (g + 1) * V)
  (hc : 0 ≤ us[i + k]?.getD 0 + ow) (how : ow ≤ 0) :
  okD (ys.set (i + k) (us[i + k]?.getD 0 + ow)) ∧ vl (ys.set (i + k) (us[i + k]?.getD 0 + ow)) + 1073741824 ^ i * (g * V) = vl us ∧ vl (ys.set (i + k) (us[i + k]?.getD 0 + ow)) < 1073741824 ^ i * V := by
 have hy2 := okD_get hy (i := i + k) (by omega)
 have h1 := vl_set (xs := ys) (i := i + k) (by omega) (us[i + k]?.getD 0 + ow)
 rw [hd] at h1 hy2
 have h2 : (vl (ys.set (i + k) (us[i + k]?.getD 0 + ow)) : Int) = vl ys + ((1073741824 ^ (i + k) : Nat) : Int) * ow := by
  obtain ⟨u, hu⟩ : ∃ u : Nat, us[i + k]?.getD 0 = u := ⟨(us[i + k]?.getD 0).toNat, by omega⟩
  obtain ⟨c, hc'⟩ : ∃ c : Nat, us[i + k]?.getD 0 + ow = c := ⟨(us[i + k]?.getD 0 + ow).toNat, by omega⟩
  rw [hc', hu, Int.toNat_natCast, Int.toNat_natCast] at h1
  rw [hc']
  have h3 : ow = (c : Int) - u := by omega
  have h4 := congrArg (Int.ofNat) h1
  simp only [Int.ofNat_eq_natCast, Int.natCast_add, Int.natCast_mul] at h4
  rw [h3]
  generalize ((1073741824 ^ (i + k) : Nat) : Int) = p at *
  rw [Int.mul_sub]
  omega
 refine ⟨okD_set hy (by omega), ?_, ?_⟩
 ·
  generalize vl (ys.set (i + k) (us[i + k]?.getD 0 + ow)) = A at *
  have : ((A + 1073741824 ^ i * (g * V) : Nat) : Int) = (vl us : Int) := by
   rw [Int.natCast_add, Int.natCast_mul]
   omega
  exact Int.ofNat.inj this
 ·
  generalize vl (ys.set (i + k) (us[i + k]?.getD 0 + ow)) = A at *
  have hp : 0 < 1073741824 ^ i := pow_pos' i
  rw [ld_gV] at hX
  generalize g * V = gV at *
  have h5 := ld_ringA (L := L) (p := ((1073741824 ^ i : Nat) : Int)) (X := X) (gV := gV) (V := V) (z := A) (by rw [← Int.natCast_mul _ X, h2, hz, hx, Int.natCast_add]) (by omega) (by omega) (by omega) (by omega)
  rw [← Int.natCast_mul] at h5
  omega
theorem ld_fin2 {us ys : List Int} {i k V X L g : Nat} {ow : Int} (hu : okD us) (hy : okD ys) (hl : ys.length = us.length) (hi : i + k < us.length) (hd : ys.drop (i + k) = us.drop (i + k))
  (hz : (vl ys : Int) + ((1073741824 ^ (i + k) : Nat) : Int) * ow = vl us - ((1073741824 ^ i : Nat) : Int) * ((g * V : Nat) : Int)) (hx : vl us = L + 1073741824 ^ i * X) (hX : g * V < X + V) (hlt : vl us < 1073741824 ^ (i + 1) * V) (hV : V < 1073741824 ^ k)
  (hc : us[i + k]?.getD 0 + ow < 0) :
  okD (ys.set (i + k) 0) ∧ ∀ (zs : List Int) (ov : Int), okD zs → zs.length = us.length → zs.drop (i + k) = (ys.set (i + k) 0).drop (i + k) → 0 ≤ ov ∧ ov ≤ 1 → (vl zs : Int) + ((1073741824 ^ (i + k) : Nat) : Int) * ov = vl (ys.set (i + k) 0) + ((1073741824 ^ i : Nat) : Int) * ((V : Nat) : Int) →
   us[i + k]?.getD 0 + ow + ov = 0 ∧ 1 ≤ g ∧ vl zs + 1073741824 ^ i * ((g - 1) * V) = vl us ∧ vl zs < 1073741824 ^ i * V := by
 have hd1 : ys[i + k]?.getD 0 = us[i + k]?.getD 0 := by
  have := congrArg (fun l => l[0]?.getD 0) hd
  simpa only [List.getElem?_drop, Nat.add_zero] using this
 have hU := vl_set (xs := ys) (i := i + k) (by omega) 0
 rw [hd1, Int.toNat_zero, Nat.mul_zero, Nat.add_zero] at hU
 have hu2 := okD_get hu hi
 refine ⟨okD_set hy (by omega), fun zs ov hzo hzl hzd hov hzv => ?_⟩
 have hlt2 : vl us < 1073741824 ^ (i + k + 1) := by
  refine Nat.lt_of_lt_of_le hlt ?_
  rw [show i + k + 1 = i + 1 + k by omega, Nat.pow_add _ (i + 1) k]
  exact Nat.mul_le_mul_left _ (by omega)
 have hz0 := ld_zero hu (by omega) hlt2
 have low : ∀ xs : List Int, okD xs → xs.length = us.length → xs.drop (i + k) = (ys.set (i + k) 0).drop (i + k) → vl xs < 1073741824 ^ (i + k) := by
  intro xs ho hxl hxd
  have e1 := vl_take_drop xs (i + k) (by omega)
  have e2 := vl_lt (okD_take ho (i + k))
  rw [List.length_take, Nat.min_eq_left (by omega)] at e2
  have e3 : vl (xs.drop (i + k)) = 0 := by
   rw [hxd, vl_drop _ (by rw [List.length_set]; omega), drop_set_succ, drop_eq_succ hd, hz0, List.getElem?_set_self (by omega)]
   rfl
  rw [e3, Nat.mul_zero] at e1
  omega
 have hlz := low zs hzo hzl hzd
 have hly := low _ (okD_set (i := i + k) (x := 0) hy (by omega)) (by rw [List.length_set]; exact hl) rfl
 generalize us[i + k]?.getD 0 = u at *
 obtain ⟨u', rfl⟩ : ∃ u' : Nat, u = u' := ⟨u.toNat, by omega⟩
 rw [Int.toNat_natCast] at hU
 generalize vl (ys.set (i + k) 0) = Y at *
 generalize vl zs = Zs at *
 generalize vl ys = Y0 at *
 have hpk : 0 < 1073741824 ^ (i + k) := pow_pos' _
 have hpi : 0 < 1073741824 ^ i := pow_pos' _
 have hU' : (Y : Int) + ((1073741824 ^ (i + k) : Nat) : Int) * u' = Y0 := by rw [← Int.natCast_mul]; omega
 generalize hA : ((1073741824 ^ (i + k) : Nat) : Int) = pk at *
 have hB : ((1073741824 ^ i : Nat) : Int) * (X : Int) = ((1073741824 ^ i * X : Nat) : Int) := (Int.natCast_mul _ _).symm
 have hB2 : ((1073741824 ^ i : Nat) : Int) * (V : Int) = ((1073741824 ^ i * V : Nat) : Int) := (Int.natCast_mul _ _).symm
 have hgV : (((g - 1) * V : Nat) : Int) = if 1 ≤ g then ((g * V : Nat) : Int) - V else 0 := by
  split
  ·
   obtain ⟨g', rfl⟩ : ∃ g', g = g' + 1 := ⟨g - 1, by omega⟩
   rw [Nat.add_sub_cancel, ld_gV]; omega
  ·
   rw [show g - 1 = 0 by omega, Nat.zero_mul]; rfl
 have k1 : (Y : Int) + pk * (u' + ow) = vl us - ((1073741824 ^ i : Nat) : Int) * ((g * V : Nat) : Int) := by
  rw [Int.mul_add]; omega
 have k2 := ld_ringB (L := L) (p := ((1073741824 ^ i : Nat) : Int)) (X := X) (gV := ((g * V : Nat) : Int)) (V := V) (z := (Y : Int) + pk * (u' + ow)) (by rw [k1, hx, Int.natCast_add, hB]) (by omega) (by omega) (by omega)
 have k3 : (Zs : Int) + pk * (u' + ow + ov) = (Y : Int) + pk * (u' + ow) + ((1073741824 ^ i : Nat) : Int) * (V : Int) := by
  rw [Int.mul_add pk (u' + ow) ov]; omega
 have k4 : u' + ow + ov = 0 := by
  apply Classical.byContradiction
  intro hne
  have h1 : (u' : Int) + ow + ov ≤ -1 := by omega
  have h2 : pk * (u' + ow + ov) ≤ pk * (-1) := Int.mul_le_mul_of_nonneg_left h1 (by omega)
  omega
 rw [k4, Int.mul_zero, Int.add_zero] at k3
 have k5 : pk * (u' + ow) ≤ pk * (-1) := Int.mul_le_mul_of_nonneg_left (by omega) (by omega)
 have k6 : 1 ≤ g := by
  apply Classical.byContradiction
  intro h0
  have : g = 0 := by omega
  subst this
  rw [Nat.zero_mul] at k1
  omega
 refine ⟨k4, k6, ?_, by rw [hB2] at k3; omega⟩
 rw [if_pos k6] at hgV
 have : ((Zs + 1073741824 ^ i * ((g - 1) * V) : Nat) : Int) = (vl us : Int) := by
  rw [Int.natCast_add, Int.natCast_mul, hgV, Int.mul_sub, k3, k1]
  omega
 exact Int.ofNat.inj this
theorem ld_quot {q : List Int} {i V us w us' : Nat} {g : Nat} (hi : i < q.length) (hinv : us + 1073741824 ^ (i + 1) * (vl (q.drop (i + 1)) * V) = w) (h : us' + 1073741824 ^ i * (g * V) = us) :
  us' + 1073741824 ^ i * (vl ((q.set i (g : Int)).drop i) * V) = w := by
 rw [vl_drop _ (by rw [List.length_set]; exact hi), drop_set_succ, List.getElem?_set_self hi, Option.getD_some, Int.toNat_natCast, ← hinv, ← h, Nat.pow_succ]
 generalize vl (q.drop (i + 1)) = r
 generalize 1073741824 ^ i = p
 rw [Nat.add_mul, Nat.mul_add, Nat.mul_assoc 1073741824, Nat.mul_assoc p]
 omega
theorem set_zero_same {zs : List Int} {n : Nat} (hn : n < zs.length) (h : zs[n]?.getD 0 = 0) : zs.set n 0 = zs := by
 rw [List.getElem?_eq_getElem hn, Option.getD_some] at h
 have := List.set_getElem_self hn
 rwa [h] at this
theorem LdAdd.top {ys v zs : List Int} {i t : Nat} {ov : Int} (h : LdAdd ys v i t zs ov) : zs[i + t]?.getD 0 = ys[i + t]?.getD 0 := by
 have := congrArg (fun l => l[0]?.getD 0) h.2.2.2
 simpa only [List.getElem?_drop, Nat.add_zero] using this
end Go.Am
namespace Go.Am
set_option maxHeartbeats 4000000
set_option maxRecDepth 20000
open Go.RowKit Go.Proofs
attribute [local simp] thenKD_normal thenKD_exit thenKD_goto thenKD_ret inBlockKD_normal inBlockKD_exit inBlockKD_goto inBlockKD_ret noGotoKD_normal noGotoKD_exit noGotoKD_goto noGotoKD_ret roundKD_normal roundKD_exit roundKD_goto roundKD_ret frzSlotsD_nil frzSlotsD_cons frzSlotD_eq yieldVCD_trace opVCD_eq vcOpsD_nil vcOpsD_cons vcAllD_zero vcAllD_succ allAtD_nil allAtD_cons readyAux edgA vcD_skip vcD_label vcD_exit vcD_goto vcD_ret vcD_region vcD_seq vcD_seqC vcD_cond vcCondD_bool vcD_block vcD_scope vcD_loop vcD_rangeFunc yieldOf isMem isMem0 keepE envLe St.le psE yieldAV round_td round_y round_Γ vI vB vS aI aB aS look getE oper opRV putE allOk okOps Op.operands Call.operands pEv qEv mEv constRV coe RV.av loadEv loadCs takeAt indexAddrEv fieldAddrEv binEv intEv arith unEv gcond pickEv argsEv callVal callEv capAV_mk lenArgs lenEv minEv extractEv convEv funcEv allBox bound sliceEv lookupEv TD.isBool allocEv boxEv storeEv spl plainTD appendEv appendArgs makeMapEv mapUpdateEv buildEv buildSliceEv fillSV zsvOf sizeTD Ty.parses parses_flats' coeA flats_length AV.good AV.cells AV.pure SV.pure av_int av_bool av_str av_slice av_cons av_fld0 av_fld1 av_fld2 av_fld3 av_fld4 Ty.of Ty.dflt Ty.parse Ty.flat Ty.zsv Ty.fld Ty.get Ty.off Ty.nfld Ty.size coeTy junk Blk.look argEnv resEv resOk resVs oneRV retOk frzAs frzAV frzL frzSV boxCaps boxCap SV.sig sigs RV.scalar AV.scalar SV.scalar nope effVCD_eq effOf SV.ids AV.ids dedup SV.ren AV.ren RV.ren idx outId mergeB Blk.pureB flats_pure flat_pure epsSlotsD_nil epsSlotsD_cons epsSlotD_eq allEp D.parts_fnOf fvParts retEff round_E av_fn G.ye isCutD_nil isCutD_cons firstReg_region firstReg_seq firstReg_skip firstReg_ret firstReg_label firstReg_exit firstReg_goto firstReg_cond firstReg_block firstReg_scope firstReg_loop firstReg_rf eptrOf_mk flOfD_nil flOfD_cons vcFlD_cons vcFlD_nil flPairs_nil flPairs_cons vcFrD_nil vcFrD_cons makeSliceEv vcCondD_ib fzEv unfl_flats isFz round_fz panVCD_eq panOf isShift strIdxEv ifaceEv nilChkEv sliceAnyEv sliceOwnEv sliceSufEv appendEv0 appendEv1 Ty.beq Ty.isAgg round_Pn vcDefD_seqR vcDefD_seqS vcDefD_seqC vcDefD_seqB vcDefD_seqL vcDefD_seqF vcDefD_seqSc vcDefD_region vcDefD_ret vcDefD_cond vcDefD_block vcDefD_loop thenKD_panic inBlockKD_panic noGotoKD_panic exitOk_normal exitOk_ret exitOk_panic exitOk_exit runDefs_none runDefs_some runDefs_cons defRegD isDefer defOf caughtCon unfl_cons D.bpart_bndOf D.parts_bndOf AV.sig
attribute [local simp ←] flats_append
noncomputable def nr13Γ : List (FuncId × Con) := (214, conLead64) :: (202, conShort) :: nr9Γ
theorem nr13Γ_ok : ∀ p ∈ nr13Γ, (∀ (args : Array Value) (w : World), (callFunc p.1 args).run Tryz.prog w = .ok (.enter p.1 args) w) ∧ PureOk Tryz.prog p.1 p.2 := by
 simp only [nr13Γ, List.forall_mem_cons]
 exact ⟨⟨enters_of Tryz.func214 (by kernel_rfl) rfl, lead64_ok⟩, ⟨enters_of Tryz.func202 (by kernel_rfl) rfl, short_ok⟩, nr9Γ_ok⟩
noncomputable def nr13E : List (FuncId × ECon) := (215, conMovE) :: nr9E
theorem nr13E_ok : ∀ p ∈ nr13E, (∀ (args : Array Value) (w : World), (callFunc p.1 args).run Tryz.prog w = .ok (.enter p.1 args) w) ∧ EffOk Tryz.prog p.1 p.2 := by
 simp only [nr13E, List.forall_mem_cons]
 exact ⟨⟨enters_of Tryz.func215 (by kernel_rfl) rfl, movE_ok⟩, nr9E_ok⟩
noncomputable def nr13P : List (FuncId × PCon) := nr9P
theorem nr13P_ok : ∀ p ∈ nr13P, (∀ (args : Array Value) (w : World), (callFunc p.1 args).run Tryz.prog w = .ok (.enter p.1 args) w) ∧ PanOk Tryz.prog p.1 p.2 := by
 simp only [nr13P]
 exact nr9P_ok
noncomputable def nr13 : G := { τ := nrT, Γ := nr13Γ, E := nr13E, Pn := nr13P }
theorem nr13_good : nr13.good Tryz.prog := good_of_all (nrT_ok _ rfl) nr13Γ_ok nr13E_ok nr13P_ok
theorem nr13_all : (∀ t, nr13.td t = (look nrT t).getD .other) ∧ nr13.y = false ∧ nr13.Γ = nr13Γ ∧ nr13.E = nr13E ∧ nr13.Pn = nr13P ∧ nr13.fz = [] := ⟨fun _ => rfl, rfl, rfl, rfl, rfl, rfl⟩
noncomputable def conLong : Con := ⟨fun args => (match args with
 | [.s (.sl (.int .i64) a _), .s (.sl (.int .i64) b _)] => canon a ∧ canon b ∧ 2 ≤ b.length ∧ b.length ≤ a.length ∧ a.length ≤ 4096
 | _ => False), fun args => match args with
 | [.s (.sl (.int .i64) a _), .s (.sl (.int .i64) b _)] => .tup [aS tI (dig (vl a / vl b)) false, aS tI (dig (vl a % vl b)) false]
 | _ => .v (.s .any)⟩
theorem conLong_eq (a : List (Ty.T tI)) (exa : Bool) (b : List (Ty.T tI)) (exb : Bool) : conLong.pre [.s (.sl tI a exa), .s (.sl tI b exb)] = (canon a ∧ canon b ∧ 2 ≤ b.length ∧ b.length ≤ a.length ∧ a.length ≤ 4096) ∧ conLong.val [.s (.sl tI a exa), .s (.sl tI b exb)] = .tup [aS tI (dig (vl a / vl b)) false, aS tI (dig (vl a % vl b)) false] := ⟨rfl, rfl⟩
theorem fl_map (l : List Int) : (Ty.int .i64).flats l = l.map (SV.int .i64) := by
 induction l with
 | nil => rfl
 | cons x l ih => simp [Ty.flats, Ty.flat, ih]
theorem fl_take2 (l : List Int) (m : Nat) : List.take m ((Ty.int .i64).flats l) ++ (Ty.int .i64).flats [0, 0] = (Ty.int .i64).flats (l.take m ++ [0, 0]) := by
 rw [fl_map, fl_map, fl_map, List.map_append, List.map_take]
theorem vl_pad (xs : List Int) (n : Nat) : vl (xs ++ List.replicate n 0) = vl xs := by rw [vl_append, vl_rep, Nat.mul_zero, Nat.add_zero]
theorem long_ok : PureOk Tryz.prog 204 conLong := by
 refine pureOkD (L := { live := [0, 1, 4, 5, 6, 7, 8, 9, 10, 11, 12, 13, 14, 15, 16, 17, 18, 53, 116, 120, 121, 122, 164, 168, 169, 170], frz := [(3, [7]), (33, [8]), (34, [4])] }) nr13_good rfl nr_mixed Tryz.func204 rfl conLong 2 (by decide) (by kernel_rfl) ?_
 intro args hpre hlens
 simp only [conLong] at hpre
 split at hpre
 case h_2 => exact hpre.elim
 rename_i a ea b eb
 simp only [allLen, AV.lenOk, SV.lenOk, Ty.lenOk, maxLen, and_true, implies_true, true_and, List.forall_mem_cons, List.not_mem_nil, false_implies] at hlens
 refine ⟨rfl, ?_⟩
 simp -dsimp -implicitDefEqProofs [Tryz.f204, conLong_eq, nr13_all, nrT, nr13Γ, nr13E, nr13P, nr9Γ, nr9E, nr9P, nr8Γ, nr8E, nr8P, nr7Γ, nr7E, nr7P, nr6Γ, nr6E, nr6P, nr5Γ, nr5E, nr5P, nr4Γ, nr4E, nr4P, nr3Γ, nr3E, nr3P, nr0Γ, nr0E, nr0P, conLead64_eq, conShort_eq, conMovE, conTrim_eq, conAt_eq, conNCmp_eq, conBack_eq, conOf9_eq, conDivide_eq, conTimes_eq, conLess9_eq, conTwo_eq, conRCheck_eq, conRCmpD_eq, inI64]
 obtain ⟨ha, hb, hb2, hba, hal⟩ := hpre
 obtain ⟨a, rfl⟩ : ∃ y : List Int, y = a := ⟨a, rfl⟩; obtain ⟨b, rfl⟩ : ∃ y : List Int, y = b := ⟨b, rfl⟩
 have hx := canon_last hb (by omega)
 have hw : IntKind.u64.wrap (b[b.length - 1]?.getD 0) = b[b.length - 1]?.getD 0 := by rw [IntKind.wrap_u64]; omega
 obtain ⟨n1, n2, n3⟩ := ld_norm hb (by omega)
 rw [hw]
 generalize lenN (b[b.length - 1]?.getD 0).toNat = L at *
 have e1 : 64 - (L : Int) - 34 = ((30 - L : Nat) : Int) := by omega
 rw [e1, Int.toNat_natCast]
 generalize hn : 30 - L = n at *
 have hmx : 10000 ≤ maxLen := by simp only [maxLen]; omega
 refine ⟨⟨by omega, by omega⟩, ⟨by omega, by omega⟩, ⟨by omega, by omega⟩, ⟨by omega, by omega⟩, ⟨hb.1, by omega, by omega, by omega⟩, fun xs hxo hxl hxv => ⟨xs, rfl, rfl, ⟨ha.1, by omega, by omega, by omega⟩, fun ys hyo hyl hyv => ?_⟩⟩
 have hxt : trimL xs = dig (vl b * 2 ^ n) := by rw [← dig_vl hxo, hxv]
 have hyt : trimL ys = dig (vl a * 2 ^ n) := by rw [← dig_vl hyo, hyv]
 have hly : a.length ≤ (dig (vl a * 2 ^ n)).length ∧ (dig (vl a * 2 ^ n)).length ≤ a.length + 1 := by
  refine ⟨?_, by rw [← hyt]; have := trimL_len ys; omega⟩
  have : ¬ (dig (vl a * 2 ^ n)).length ≤ a.length - 1 := by
   rw [dig_len]
   intro h
   have h5 : ¬ a.length ≤ a.length - 1 := by omega
   rw [canon_len ha] at h5
   have : vl a * 1 ≤ vl a * 2 ^ n := Nat.mul_le_mul_left _ (Nat.pow_pos (by decide))
   omega
  omega
 have hq : ((a.length : Int) - (b.length : Int) + 1).toNat = a.length - b.length + 1 := by omega
 have hmax : max ((a.length : Int) - (b.length : Int) + 1) 0 - 1 = ((a.length - b.length + 1 : Nat) : Int) - 1 := by omega
 rw [fl_take2, ← trimL_take ys, ← trimL_take xs, Nat.min_eq_left (trimL_len xs), Nat.min_eq_left (trimL_len ys), hxt, hyt, n3, hq, hmax]
 refine ⟨⟨rfl, by omega, by omega⟩, ⟨by omega, by omega⟩, ⟨rfl, by omega, by omega⟩, ⟨by omega, by omega⟩, ⟨by omega, by omega⟩, ⟨by omega, by omega, by omega⟩, ⟨by omega, by omega⟩, ?_⟩
 have hV : vl (dig (vl b * 2 ^ n)) = vl b * 2 ^ n := vl_dig _
 have hW : vl (dig (vl a * 2 ^ n)) = vl a * 2 ^ n := vl_dig _
 have hvo := canon_dig (vl b * 2 ^ n)
 have hWo := okD_dig (vl a * 2 ^ n)
 have hV0 : vl a * 2 ^ n < 1073741824 ^ (a.length - b.length + 1) * (vl b * 2 ^ n) := by
  have h1 := vl_lt ha.1
  have h2 : ¬ vl b < 1073741824 ^ (b.length - 1) := fun h => by have := (canon_len hb).2 h; omega
  have h3 : 1073741824 ^ a.length = 1073741824 ^ (a.length - b.length + 1) * 1073741824 ^ (b.length - 1) := by rw [← Nat.pow_add]; congr 1; omega
  have h4 : 1073741824 ^ (a.length - b.length + 1) * 1073741824 ^ (b.length - 1) ≤ 1073741824 ^ (a.length - b.length + 1) * vl b := Nat.mul_le_mul_left _ (by omega)
  rw [← Nat.mul_assoc]
  exact Nat.mul_lt_mul_of_pos_right (by omega) (Nat.pow_pos (by decide))
 have hp2 := pow2_le (k := n) (by omega) (by omega)
 rw [Int.toNat_natCast] at hp2
 generalize dig (vl b * 2 ^ n) = v at *
 generalize dig (vl a * 2 ^ n) = w at *
 refine WpD.loop (L := { live := [0, 1, 4, 5, 6, 7, 8, 9, 10, 11, 12, 13, 14, 15, 16, 17, 18, 53, 116, 120, 121, 122, 164, 168, 169, 170], frz := [(3, [7]), (33, [8]), (34, [4])] }) nr13_good X0_ok nr_mixed (by kernel_rfl)
  (fun p : Nat × List Int × List Int => ⟨[(4, ⟨true, .v (.s (.own tI 3 (a.length - b.length + 1)))⟩), (5, vS tI [] true), (6, vI n), (7, vS tI v false), (8, ⟨true, .v (.s (.pre tI 2 (w.length + 2) (a.length + 1)))⟩), (9, vI b.length), (10, vI ((p.1 : Int) - 1))], [.dead, .dead, .arr true (tI.flats p.2.1), .arr true (tI.flats p.2.2)]⟩)
  (fun p => p.1 ≤ a.length - b.length + 1 ∧ p.2.1.length = w.length + 2 ∧ okD p.2.1 ∧ p.2.2.length = a.length - b.length + 1 ∧ okD p.2.2 ∧ vl p.2.1 + 1073741824 ^ p.1 * (vl (p.2.2.drop p.1) * vl v) = vl w ∧ vl p.2.1 < 1073741824 ^ p.1 * vl v) (fun p => p.1) (a.length - b.length + 1, w ++ [0, 0], List.replicate (a.length - b.length + 1) 0)
  ⟨by omega, by simp, okD_append.2 ⟨hWo, by simp [okD]⟩, List.length_replicate, okD_rep _, ?_, ?_⟩ (Turn.le (by simp -dsimp -implicitDefEqProofs)) ?_
 ·
  show vl (w ++ List.replicate 2 0) + 1073741824 ^ (a.length - b.length + 1) * (vl (List.drop (a.length - b.length + 1) (List.replicate (a.length - b.length + 1) 0)) * vl v) = vl w
  rw [vl_pad, List.drop_eq_nil_of_le (by rw [List.length_replicate]; exact Nat.le_refl _), show vl [] = 0 from rfl, Nat.zero_mul, Nat.mul_zero, Nat.add_zero]
 ·
  show vl (w ++ List.replicate 2 0) < 1073741824 ^ (a.length - b.length + 1) * vl v
  rw [vl_pad, hW, hV]
  exact hV0
 rintro ⟨j, us, q⟩ ⟨hj, hul, huo, hql, hqo, hinv, hlt⟩
 simp only at hj hul huo hql hqo hinv hlt
 have hvl := vl_lt hvo.1
 rw [n3] at hvl
 have hbp : 0 < vl b := (vl_pos hb).2 (by omega)
 rcases Nat.eq_zero_or_pos j with rfl | hj0
 ·
  simp -dsimp -implicitDefEqProofs [conLong_eq, nr13_all, nrT, nr13Γ, nr13E, nr13P, nr9Γ, nr9E, nr9P, nr8Γ, nr8E, nr8P, nr7Γ, nr7E, nr7P, nr6Γ, nr6E, nr6P, nr5Γ, nr5E, nr5P, nr4Γ, nr4E, nr4P, nr3Γ, nr3E, nr3P, nr0Γ, nr0E, nr0P, conLead64_eq, conShort_eq, conMovE, conTrim_eq, conAt_eq, conNCmp_eq, conBack_eq, conOf9_eq, conDivide_eq, conTimes_eq, conLess9_eq, conTwo_eq, conRCheck_eq, conRCmpD_eq, inI64]
  rw [Nat.pow_zero, Nat.one_mul, List.drop_zero, hV, hW] at hinv
  rw [Nat.pow_zero, Nat.one_mul] at hlt
  have hh := ld_head (m := a.length + 1) huo (by omega) (Nat.lt_of_lt_of_le (Nat.lt_trans hlt hvl) (Nat.pow_le_pow_right (by decide) (by omega)))
  rw [hV] at hlt
  obtain ⟨d1, d2⟩ := ld_last hbp (by omega) hinv hlt
  have e2 : ((2 : Int) ^ n) = ((2 ^ n : Nat) : Int) := by rw [Int.natCast_pow]; rfl
  have hto := okD_trim (okD_take huo (a.length + 1))
  have htl := trimL_len (us.take (a.length + 1))
  rw [List.length_take] at htl
  refine ⟨us, rfl, hul.symm, ⟨⟨by omega, .inr (by show n < 64; omega)⟩, by omega, by omega⟩, ⟨hto, by omega, by omega⟩, q, rfl, hql.symm, ?_, ?_⟩
  ·
   rw [← dig_vl hqo, d1]
  ·
   rw [vl_trim, hh, e2, Int.toNat_natCast, d2]
 ·
  obtain ⟨i, rfl⟩ : ∃ i, j = i + 1 := ⟨j - 1, by omega⟩
  have hib : i + b.length < us.length := by omega
  have t0 : ((i : Int) + (b.length : Int)).toNat = i + b.length := by omega
  have f0 := fl_at (xs := us) (j := i + b.length) hib
  have f1 := fl_at (xs := us) (j := i + b.length - 1) (by omega)
  have f2 := fl_at (xs := us) (j := i + b.length - 2) (by omega)
  simp -dsimp -implicitDefEqProofs [conLong_eq, t0, f0, f1, f2, nr13_all, nrT, nr13Γ, nr13E, nr13P, nr9Γ, nr9E, nr9P, nr8Γ, nr8E, nr8P, nr7Γ, nr7E, nr7P, nr6Γ, nr6E, nr6P, nr5Γ, nr5E, nr5P, nr4Γ, nr4E, nr4P, nr3Γ, nr3E, nr3P, nr0Γ, nr0E, nr0P, conLead64_eq, conShort_eq, conMovE, conTrim_eq, conAt_eq, conNCmp_eq, conBack_eq, conOf9_eq, conDivide_eq, conTimes_eq, conLess9_eq, conTwo_eq, conRCheck_eq, conRCmpD_eq, inI64]
  obtain ⟨X, X', x1, x2, x3, x4, x5⟩ := ld_top (k := b.length) hb2 huo hib hlt hvl
  obtain ⟨V', y1, y2⟩ := ld_vtop (by omega) hvo.1
  have b0 := okD_get huo hib
  have b1 := okD_get huo (i := i + b.length - 1) (by omega)
  have b2 := okD_get huo (i := i + b.length - 2) (by omega)
  have c1 := canon_last hvo (by omega)
  have c2 := okD_get hvo.1 (i := v.length - 2) (by omega)
  rw [n3] at y1 y2 c1 c2
  obtain ⟨u0, h0⟩ : ∃ u : Nat, us[i + b.length]?.getD 0 = u := ⟨(us[i + b.length]?.getD 0).toNat, by omega⟩
  obtain ⟨u1, h1⟩ : ∃ u : Nat, us[i + b.length - 1]?.getD 0 = u := ⟨(us[i + b.length - 1]?.getD 0).toNat, by omega⟩
  obtain ⟨u2, h2⟩ : ∃ u : Nat, us[i + b.length - 2]?.getD 0 = u := ⟨(us[i + b.length - 2]?.getD 0).toNat, by omega⟩
  obtain ⟨v1, h3⟩ : ∃ u : Nat, v[b.length - 1]?.getD 0 = u := ⟨(v[b.length - 1]?.getD 0).toNat, by omega⟩
  obtain ⟨v2, h4⟩ : ∃ u : Nat, v[b.length - 2]?.getD 0 = u := ⟨(v[b.length - 2]?.getD 0).toNat, by omega⟩
  rw [h0, h1, h2, Int.toNat_natCast, Int.toNat_natCast, Int.toNat_natCast] at x3
  rw [h3, h4, Int.toNat_natCast, Int.toNat_natCast] at y1
  rw [h0] at b0
  rw [h1] at b1
  rw [h2] at b2
  rw [h3] at c1
  rw [h4] at c2
  rw [h0, h1, h3]
  have et : ((u0 : Int) * 1073741824 + (u1 : Int)).tdiv (v1 : Int) = (((u0 * 1073741824 + u1) / v1 : Nat) : Int) := by
   rw [show (u0 : Int) * 1073741824 + (u1 : Int) = ((u0 * 1073741824 + u1 : Nat) : Int) by omega]; exact Int.ofNat_tdiv _ _
  rw [et]
  obtain ⟨g1, g2, g3, g4, g5⟩ := ld_guess0 x3 x4 y1 y2 (by omega) (by omega) (by omega) (by omega) (by omega) x5 rfl
  have eg : (if (1073741823 : Int) < (((u0 * 1073741824 + u1) / v1 : Nat) : Int) then (1073741823 : Int) else (((u0 * 1073741824 + u1) / v1 : Nat) : Int)) = ((if (u0 * 1073741824 + u1) / v1 ≤ 1073741823 then (u0 * 1073741824 + u1) / v1 else 1073741823 : Nat) : Int) := by
   split <;> split <;> omega
  rw [eg]
  have hdv : (u0 * 1073741824 + u1) / v1 ≤ u0 * 1073741824 + u1 := Nat.div_le_self _ _
  generalize (if (u0 * 1073741824 + u1) / v1 ≤ 1073741823 then (u0 * 1073741824 + u1) / v1 else 1073741823) = g0 at *
  generalize (u0 * 1073741824 + u1) / v1 = gd at *
  refine ⟨⟨by omega, by omega⟩, ⟨hul, by omega, by omega⟩, ⟨hul, hib⟩, ⟨by decide, by omega, by omega⟩, ⟨by omega, by omega⟩, ⟨by omega, by omega⟩, ⟨hul, by omega, by omega⟩, ⟨hul, by omega⟩, ⟨by omega, by omega, by omega, by omega⟩, ⟨by omega, by omega⟩, ⟨by omega, by omega⟩, ⟨by omega, by omega, by omega⟩, ?_⟩
  refine WpD.loop (L := { live := [0, 1, 4, 5, 6, 7, 8, 9, 10, 11, 12, 13, 14, 15, 16, 17, 18, 53, 116, 120, 121, 122, 164, 168, 169, 170], frz := [(3, [7]), (33, [8]), (34, [4])] }) nr13_good X0_ok nr_mixed (by kernel_rfl)
   (fun g : Nat => ⟨[(4, ⟨true, .v (.s (.own tI 3 (a.length - b.length + 1)))⟩), (5, vS tI [] true), (6, vI n), (7, vS tI v false), (8, ⟨true, .v (.s (.pre tI 2 (w.length + 2) (a.length + 1)))⟩), (9, vI b.length), (10, vI i), (11, vI ((u0 * 1073741824 + u1 : Nat) : Int)), (12, vI g)], [.dead, .dead, .arr true (tI.flats us), .arr true (tI.flats q)]⟩)
   (fun g => X < (g + 1) * vl v ∧ g ≤ 1073741823 ∧ g * v1 ≤ u0 * 1073741824 + u1 ∧ u0 * 1073741824 + u1 < g * v1 + 2147483648) (fun g => g) g0 ⟨g1, g2, g3, g4⟩ (Turn.le (by simp -dsimp -implicitDefEqProofs)) ?_
  clear g1 g2 g3 g4 eg hdv et
  rintro g ⟨g1, g2, g3, g4⟩
  have t2 : ((i : Int) + (b.length : Int) - 2).toNat = i + b.length - 2 := by omega
  have t3 : ((b.length : Int) - 2).toNat = b.length - 2 := by omega
  simp -dsimp -implicitDefEqProofs [conLong_eq, t0, t2, t3, f0, f1, f2, n3, h2, h3, h4, nr13_all, nrT, nr13Γ, nr13E, nr13P, nr9Γ, nr9E, nr9P, nr8Γ, nr8E, nr8P, nr7Γ, nr7E, nr7P, nr6Γ, nr6E, nr6P, nr5Γ, nr5E, nr5P, nr4Γ, nr4E, nr4P, nr3Γ, nr3E, nr3P, nr0Γ, nr0E, nr0P, conLead64_eq, conShort_eq, conMovE, conTrim_eq, conAt_eq, conNCmp_eq, conBack_eq, conOf9_eq, conDivide_eq, conTimes_eq, conLess9_eq, conTwo_eq, conRCheck_eq, conRCmpD_eq, inI64]
  have hgw : g * v2 ≤ 1152921502459363329 := Nat.le_trans (Nat.mul_le_mul g2 (show v2 ≤ 1073741823 by omega)) (by decide)
  have hgz := Nat.zero_le (g * v2)
  have hgy := Nat.zero_le (g * v1)
  have p1 : (g : Int) * (v1 : Int) = ((g * v1 : Nat) : Int) := (Int.natCast_mul _ _).symm
  have p2 : (g : Int) * (v2 : Int) = ((g * v2 : Nat) : Int) := (Int.natCast_mul _ _).symm
  rw [p1, p2]
  refine ⟨⟨by omega, by omega⟩, ⟨by omega, by omega⟩, ⟨by omega, by omega⟩, ⟨by omega, by omega⟩, ⟨by omega, by omega⟩, ⟨by omega, by omega⟩, ⟨by omega, by omega⟩, ⟨by decide, by omega, by omega⟩, ⟨by omega, by omega⟩, ⟨by omega, by omega⟩, ⟨hul, by omega, by omega⟩, ⟨hul, by omega⟩, ⟨by omega, by omega, by omega⟩,
   fun h => ⟨h, by omega, by omega⟩, fun h => ⟨h, by omega, by omega⟩, fun h => ⟨h, by omega, by omega⟩, fun h => ⟨h, by omega, by omega⟩, fun hA hB => ?_, fun hE => ?_⟩
  ·
   obtain ⟨s1, s2⟩ := ld_guessS (h := u0 * 1073741824 + u1) (g := g) x3 x4 y1 g3 (ld_castA g3 hA)
   obtain ⟨k, rfl⟩ : ∃ k, g = k + 1 := ⟨g - 1, by omega⟩
   have e1 : (k + 1) * v1 = k * v1 + v1 := by rw [Nat.add_mul, Nat.one_mul]
   rw [e1] at g3 g4 hB
   have e2 : ((k + 1 : Nat) : Int) - 1 = (k : Int) := by omega
   exact ⟨⟨by omega, by omega⟩, k, ⟨s2, by omega, by omega, by omega⟩, by omega, TurnT.le (by simp -dsimp -implicitDefEqProofs [e2])⟩
  have hE2 := ld_castB g3 hgw (fun h => by have := hE h; omega)
  have x6 := ld_guessE (h := u0 * 1073741824 + u1) x3 y1 y2 (by omega) g2 g3 hE2
  clear hE hE2 hgw hgz hgy p1 p2 g3 g4 x3 y1 c1 c2 b1 b2
  refine WpD.loop (L := { live := [0, 1, 4, 5, 6, 7, 8, 9, 10, 11, 12, 13, 14, 15, 16, 17, 18, 53, 116, 120, 121, 122, 164, 168, 169, 170], frz := [(3, [7]), (33, [8]), (34, [4])] }) nr13_good X0_ok nr_mixed (by kernel_rfl)
   (fun p : Nat × List Int × Int => ⟨[(4, ⟨true, .v (.s (.own tI 3 (a.length - b.length + 1)))⟩), (5, vS tI [] true), (6, vI n), (7, vS tI v false), (8, ⟨true, .v (.s (.pre tI 2 (w.length + 2) (a.length + 1)))⟩), (9, vI b.length), (10, vI i), (12, vI g), (13, vI p.2.2), (120, vI b.length), (121, vI p.1)], [.dead, .dead, .arr true (tI.flats p.2.1), .arr true (tI.flats q)]⟩)
   (fun p => p.1 ≤ b.length ∧ p.2.1.length = w.length + 2 ∧ LdSub us v i g p.1 p.2.1 p.2.2) (fun p => b.length - p.1) (0, us, 0)
   ⟨Nat.zero_le _, hul, LdSub.zero huo⟩ (Turn.le (by simp -dsimp -implicitDefEqProofs)) ?_
  rintro ⟨t, ys, ow⟩ ⟨ht, hyl, hsub⟩
  simp only at ht hyl hsub
  have hyo := hsub.1
  have how := hsub.2.1
  rcases Nat.lt_or_ge t b.length with htl | htl
  ·
   have e1 : ((i : Int) + (t : Int)).toNat = i + t := by omega
   have hfl := fl_at (xs := ys) (j := i + t) (by omega)
   have etv : v[t]'(by omega) = v[t]?.getD 0 := by rw [List.getElem?_eq_getElem (by omega)]; rfl
   obtain ⟨s1, s2, s3⟩ := hsub.step (s := ys[i + t]?.getD 0 - (g : Int) * v[t]?.getD 0 + ow) hvo.1 (by omega) (by omega) g2 rfl
   have hy := okD_get hyo (i := i + t) (by omega)
   simp -dsimp -implicitDefEqProofs [conLong_eq, e1, hfl, htl, n3, nr13_all, nrT, nr13Γ, nr13E, nr13P, nr9Γ, nr9E, nr9P, nr8Γ, nr8E, nr8P, nr7Γ, nr7E, nr7P, nr6Γ, nr6E, nr6P, nr5Γ, nr5E, nr5P, nr4Γ, nr4E, nr4P, nr3Γ, nr3E, nr3P, nr0Γ, nr0E, nr0P, conLead64_eq, conShort_eq, conMovE, conTrim_eq, conAt_eq, conNCmp_eq, conBack_eq, conOf9_eq, conDivide_eq, conTimes_eq, conLess9_eq, conTwo_eq, conRCheck_eq, conRCmpD_eq, inI64]
   rw [etv, Int.fdiv_eq_ediv_of_nonneg _ (by decide), fl_set (by omega)]
   generalize ys[i + t]?.getD 0 - (g : Int) * v[t]?.getD 0 + ow = s at *
   refine ⟨⟨by omega, by omega⟩, ⟨hyl, by omega, by omega⟩, ⟨hyl, by omega⟩, ⟨by omega, by omega⟩, ⟨by omega, by omega⟩, ⟨by omega, by omega⟩, ⟨by omega, by omega⟩, by decide, ⟨hyl, by omega, by omega⟩, ⟨hyl, by omega⟩, ⟨by omega, by omega⟩,
    t + 1, ys.set (i + t) (s % 1073741824), s / 1073741824, ⟨by omega, by rw [List.length_set]; exact hyl, s1⟩, by omega, TurnT.le (by simp -dsimp -implicitDefEqProofs)⟩
  ·
   obtain rfl : t = b.length := by omega
   have htn : ¬ b.length < b.length := by omega
   have hfl := fl_at (xs := ys) (j := i + b.length) (by omega)
   have hd1 : ys[i + b.length]?.getD 0 = u0 := by
    have := congrArg (fun l => l[0]?.getD 0) hsub.2.2.2
    simp only [List.getElem?_drop, Nat.add_zero] at this
    rw [this, h0]
   rw [hd1] at hfl
   have hset := fl_set (xs := ys) (j := i + b.length) (v := (u0 : Int) + ow) (by omega)
   have hget := fl_at (xs := ys.set (i + b.length) ((u0 : Int) + ow)) (j := i + b.length) (by rw [List.length_set]; omega)
   rw [List.getElem?_set_self (by omega), Option.getD_some] at hget
   simp -dsimp -implicitDefEqProofs [conLong_eq, t0, hfl, htn, n3, hset, hget, nr13_all, nrT, nr13Γ, nr13E, nr13P, nr9Γ, nr9E, nr9P, nr8Γ, nr8E, nr8P, nr7Γ, nr7E, nr7P, nr6Γ, nr6E, nr6P, nr5Γ, nr5E, nr5P, nr4Γ, nr4E, nr4P, nr3Γ, nr3E, nr3P, nr0Γ, nr0E, nr0P, conLead64_eq, conShort_eq, conMovE, conTrim_eq, conAt_eq, conNCmp_eq, conBack_eq, conOf9_eq, conDivide_eq, conTimes_eq, conLess9_eq, conTwo_eq, conRCheck_eq, conRCmpD_eq, inI64]
   have hz := hsub.2.2.1
   rw [List.take_of_length_le (by omega)] at hz
   have hgi : i < q.length := by omega
   refine ⟨⟨by omega, by omega⟩, ⟨hyl, by omega, by omega⟩, ⟨hyl, by omega⟩, ⟨by omega, by omega⟩, ⟨hyl, by omega, by omega⟩, ⟨hyl, by omega⟩, ⟨by omega, by omega⟩, ⟨hyl, by omega, by omega⟩, ⟨hyl, by omega⟩, fun hneg => ⟨⟨by omega, by omega⟩, ?_⟩, fun hpos => ?_⟩
   ·
    obtain ⟨k1, k2⟩ := ld_fin2 huo hyo (by omega) hib hsub.2.2.2 hz x1 x6 hlt hvl (by rw [h0]; exact hneg)
    rw [h0] at k2
    generalize hc : (u0 : Int) + ow = c at *
    refine WpD.loop (L := { live := [0, 1, 4, 5, 6, 7, 8, 9, 10, 11, 12, 13, 14, 15, 16, 17, 18, 53, 116, 120, 121, 122, 164, 168, 169, 170], frz := [(3, [7]), (33, [8]), (34, [4])] }) nr13_good X0_ok nr_mixed (by kernel_rfl)
     (fun p : Nat × List Int × Int => ⟨[(4, ⟨true, .v (.s (.own tI 3 (a.length - b.length + 1)))⟩), (5, vS tI [] true), (6, vI n), (7, vS tI v false), (8, ⟨true, .v (.s (.pre tI 2 (w.length + 2) (a.length + 1)))⟩), (9, vI b.length), (10, vI i), (12, vI ((g : Int) - 1)), (16, vI p.2.2), (168, vI b.length), (169, vI p.1)], [.dead, .dead, .arr true (tI.flats (p.2.1.set (i + b.length) c)), .arr true (tI.flats q)]⟩)
     (fun p => p.1 ≤ b.length ∧ p.2.1.length = w.length + 2 ∧ LdAdd (ys.set (i + b.length) 0) v i p.1 p.2.1 p.2.2) (fun p => b.length - p.1) (0, ys.set (i + b.length) 0, 0)
     ⟨Nat.zero_le _, by rw [List.length_set]; exact hyl, LdAdd.zero k1⟩ (Turn.le (by simp -dsimp -implicitDefEqProofs [List.set_set])) ?_
    rintro ⟨t, zs, ov⟩ ⟨ht, hzl, hadd⟩
    simp only at ht hzl hadd
    have hov := hadd.2.1
    rcases Nat.lt_or_ge t b.length with htl | htl
    ·
     have e1 : ((i : Int) + (t : Int)).toNat = i + t := by omega
     have hfl := fl_at (xs := zs.set (i + b.length) c) (j := i + t) (by rw [List.length_set]; omega)
     rw [List.getElem?_set_ne (by omega)] at hfl
     have etv : v[t]'(by omega) = v[t]?.getD 0 := by rw [List.getElem?_eq_getElem (by omega)]; rfl
     obtain ⟨s1, s2, s3, s4⟩ := hadd.step (s := zs[i + t]?.getD 0 + v[t]?.getD 0 + ov) hvo.1 (by omega) (by omega) rfl
     have hset := fl_set (xs := zs.set (i + b.length) c) (j := i + t) (by rw [List.length_set]; omega)
     simp only [List.set_comm _ _ (show i + b.length ≠ i + t by omega)] at hset
     simp -dsimp -implicitDefEqProofs [conLong_eq, e1, hfl, htl, n3, hset, nr13_all, nrT, nr13Γ, nr13E, nr13P, nr9Γ, nr9E, nr9P, nr8Γ, nr8E, nr8P, nr7Γ, nr7E, nr7P, nr6Γ, nr6E, nr6P, nr5Γ, nr5E, nr5P, nr4Γ, nr4E, nr4P, nr3Γ, nr3E, nr3P, nr0Γ, nr0E, nr0P, conLead64_eq, conShort_eq, conMovE, conTrim_eq, conAt_eq, conNCmp_eq, conBack_eq, conOf9_eq, conDivide_eq, conTimes_eq, conLess9_eq, conTwo_eq, conRCheck_eq, conRCmpD_eq, inI64]
     rw [etv, Int.fdiv_eq_ediv_of_nonneg _ (by decide)]
     generalize zs[i + t]?.getD 0 + v[t]?.getD 0 + ov = s at *
     exact ⟨⟨by omega, by omega⟩, ⟨hzl, by omega, by omega⟩, ⟨hzl, by omega⟩, ⟨by omega, by omega⟩, ⟨by omega, by omega⟩, ⟨by omega, by omega⟩, by decide, ⟨hzl, by omega, by omega⟩, ⟨hzl, by omega⟩, ⟨by omega, by omega⟩,
      t + 1, zs.set (i + t) (s % 1073741824), s / 1073741824, ⟨by omega, by rw [List.length_set]; exact hzl, s1⟩, by omega, TurnT.le (by simp -dsimp -implicitDefEqProofs)⟩
    ·
     obtain rfl : t = b.length := by omega
     have htn : ¬ b.length < b.length := by omega
     have hzt := hadd.top
     rw [List.getElem?_set_self (by omega), Option.getD_some] at hzt
     obtain ⟨m1, m2, m3, m4⟩ := k2 zs ov hadd.1 (by omega) hadd.2.2.2 hov (by have := hadd.2.2.1; rwa [List.take_of_length_le (by omega)] at this)
     have hfl := fl_at (xs := zs.set (i + b.length) c) (j := i + b.length) (by rw [List.length_set]; omega)
     rw [List.getElem?_set_self (by omega), Option.getD_some] at hfl
     have hset := fl_set (xs := zs.set (i + b.length) c) (j := i + b.length) (v := 0) (by rw [List.length_set]; omega)
     rw [List.set_set, set_zero_same (by omega) hzt] at hset
     have hqs := fl_set (xs := q) (j := i) (v := ((g - 1 : Nat) : Int)) (by omega)
     have hg1 : (g : Int) - 1 = ((g - 1 : Nat) : Int) := by omega
     simp -dsimp -implicitDefEqProofs [conLong_eq, t0, hfl, htn, n3, hset, m1, hg1, nr13_all, nrT, nr13Γ, nr13E, nr13P, nr9Γ, nr9E, nr9P, nr8Γ, nr8E, nr8P, nr7Γ, nr7E, nr7P, nr6Γ, nr6E, nr6P, nr5Γ, nr5E, nr5P, nr4Γ, nr4E, nr4P, nr3Γ, nr3E, nr3P, nr0Γ, nr0E, nr0P, conLead64_eq, conShort_eq, conMovE, conTrim_eq, conAt_eq, conNCmp_eq, conBack_eq, conOf9_eq, conDivide_eq, conTimes_eq, conLess9_eq, conTwo_eq, conRCheck_eq, conRCmpD_eq, inI64]
     rw [hqs]
     exact ⟨⟨by omega, by omega⟩, ⟨hzl, by omega, by omega⟩, ⟨hzl, by omega⟩, ⟨hzl, by omega, by omega⟩, ⟨hzl, by omega⟩, ⟨hql, by omega⟩, ⟨hql, by omega⟩, ⟨by omega, by omega⟩,
      i, zs, q.set i ((g - 1 : Nat) : Int), ⟨by omega, hzl, hadd.1, by rw [List.length_set]; exact hql, okD_set hqo (by omega), ld_quot hgi hinv m3, m4⟩, by omega, TurnT.le (by simp -dsimp -implicitDefEqProofs)⟩
   ·
    skip
    obtain ⟨m2, m3, m4⟩ := ld_fin1 hyo (by omega) hib (hd1.trans h0.symm) hz x1 x2 g1 (by rw [h0]; exact hpos) (by omega)
    rw [h0] at m2 m3 m4
    rw [fl_set (xs := q) (j := i) (v := (g : Int)) (by omega)]
    exact ⟨⟨hql, by omega⟩, ⟨hql, by omega⟩, ⟨by omega, by omega⟩,
      i, ys.set (i + b.length) ((u0 : Int) + ow), q.set i (g : Int), ⟨by omega, by rw [List.length_set]; exact hyl, m2, by rw [List.length_set]; exact hql, okD_set hqo (by omega), ld_quot hgi hinv m3, m4⟩, by omega, TurnT.le (by simp -dsimp -implicitDefEqProofs)⟩
noncomputable def nr14Γ : List (FuncId × Con) := (204, conLong) :: nr13Γ
theorem nr14Γ_ok : ∀ p ∈ nr14Γ, (∀ (args : Array Value) (w : World), (callFunc p.1 args).run Tryz.prog w = .ok (.enter p.1 args) w) ∧ PureOk Tryz.prog p.1 p.2 := by
 simp only [nr14Γ, List.forall_mem_cons]
 exact ⟨⟨enters_of Tryz.func204 (by kernel_rfl) rfl, long_ok⟩, nr13Γ_ok⟩
noncomputable def nr14E : List (FuncId × ECon) := nr13E
theorem nr14E_ok : ∀ p ∈ nr14E, (∀ (args : Array Value) (w : World), (callFunc p.1 args).run Tryz.prog w = .ok (.enter p.1 args) w) ∧ EffOk Tryz.prog p.1 p.2 := by
 simp only [nr14E]
 exact nr13E_ok
noncomputable def nr14P : List (FuncId × PCon) := nr13P
theorem nr14P_ok : ∀ p ∈ nr14P, (∀ (args : Array Value) (w : World), (callFunc p.1 args).run Tryz.prog w = .ok (.enter p.1 args) w) ∧ PanOk Tryz.prog p.1 p.2 := by
 simp only [nr14P]
 exact nr13P_ok
noncomputable def nr14 : G := { τ := nrT, Γ := nr14Γ, E := nr14E, Pn := nr14P }
theorem nr14_good : nr14.good Tryz.prog := good_of_all (nrT_ok _ rfl) nr14Γ_ok nr14E_ok nr14P_ok
theorem nr14_all : (∀ t, nr14.td t = (look nrT t).getD .other) ∧ nr14.y = false ∧ nr14.Γ = nr14Γ ∧ nr14.E = nr14E ∧ nr14.Pn = nr14P ∧ nr14.fz = [] := ⟨fun _ => rfl, rfl, rfl, rfl, rfl, rfl⟩
noncomputable def conDiv : Con := ⟨fun args => (match args with
 | [.s (.sl (.int .i64) a _), .s (.sl (.int .i64) b _)] => canon a ∧ canon b ∧ 1 ≤ b.length ∧ a.length ≤ 2048 ∧ b.length ≤ 2048
 | _ => False), fun args => match args with
 | [.s (.sl (.int .i64) a _), .s (.sl (.int .i64) b _)] => .tup [aS tI (dig (vl a / vl b)) false, aS tI (dig (vl a % vl b)) false]
 | _ => .v (.s .any)⟩
theorem conDiv_eq (a : List (Ty.T tI)) (exa : Bool) (b : List (Ty.T tI)) (exb : Bool) : conDiv.pre [.s (.sl tI a exa), .s (.sl tI b exb)] = (canon a ∧ canon b ∧ 1 ≤ b.length ∧ a.length ≤ 2048 ∧ b.length ≤ 2048) ∧ conDiv.val [.s (.sl tI a exa), .s (.sl tI b exb)] = .tup [aS tI (dig (vl a / vl b)) false, aS tI (dig (vl a % vl b)) false] := ⟨rfl, rfl⟩
theorem ndiv_ok : PureOk Tryz.prog 180 conDiv := by
 refine pureOkD (L := { live := [0, 1, 4, 5, 6, 7, 8, 14] }) nr14_good rfl nr_mixed Tryz.func180 rfl conDiv 2 (by decide) (by kernel_rfl) ?_
 intro args hpre hlens
 simp only [conDiv] at hpre
 split at hpre
 case h_2 => exact hpre.elim
 rename_i a ea b eb
 simp only [allLen, AV.lenOk, SV.lenOk, Ty.lenOk, maxLen, and_true, implies_true, true_and, List.forall_mem_cons, List.not_mem_nil, false_implies] at hlens
 refine ⟨rfl, ?_⟩
 simp -dsimp -implicitDefEqProofs [Tryz.f180, conDiv_eq, nr14_all, nrT, nr14Γ, nr14E, nr14P, nr13Γ, nr13E, nr13P, nr9Γ, nr9E, nr9P, nr8Γ, nr8E, nr8P, nr7Γ, nr7E, nr7P, nr6Γ, nr6E, nr6P, nr5Γ, nr5E, nr5P, nr4Γ, nr4E, nr4P, nr3Γ, nr3E, nr3P, nr0Γ, nr0E, nr0P, conLong_eq, conLead64_eq, conShort_eq, conMovE, conTrim_eq, conAt_eq, conNCmp_eq, conBack_eq, conOf9_eq, conDivide_eq, conTimes_eq, conLess9_eq, conTwo_eq, conRCheck_eq, conRCmpD_eq, inI64]
 obtain ⟨ha, hb, hb1, hal, hbl⟩ := hpre
 obtain ⟨a, rfl⟩ : ∃ y : List Int, y = a := ⟨a, rfl⟩; obtain ⟨b, rfl⟩ : ∃ y : List Int, y = b := ⟨b, rfl⟩
 refine ⟨⟨ha, hb⟩, fun h => ?_, fun h => ⟨fun h1 => ?_, fun h1 => ?_⟩⟩
 ·
  have hl := cmpN_neg.1 h
  rw [Nat.div_eq_of_lt hl, Nat.mod_eq_of_lt hl, dig_zero, canon_eq ha]
  exact ⟨rfl, rfl⟩
 ·
  have h0 := canon_last hb (by omega)
  rw [show b.length - 1 = 0 by omega] at h0
  obtain ⟨d, rfl⟩ : ∃ d, b = [d] := List.length_eq_one_iff.1 (by omega)
  have e1 : ([d] : List Int)[0]?.getD 0 = d := rfl
  rw [e1] at h0 ⊢
  obtain ⟨n, rfl⟩ : ∃ n : Nat, d = n := ⟨d.toNat, by omega⟩
  have hmx : max (n : Int) 0 = n := by omega
  have hmod := Nat.mod_lt (vl a) (show 0 < n by omega)
  rw [vl_one, Int.toNat_natCast, hmx, ← Int.natCast_emod]
  refine ⟨by omega, ⟨ha.1, ⟨by omega, by omega⟩, by omega⟩, rfl, ?_⟩
  rw [← dig_vl (okD_cons.2 ⟨⟨by omega, by omega⟩, okD_nil⟩), vl_one, Int.toNat_natCast]
 ·
  refine ⟨ha, hb, by omega, ?_, by omega⟩
  apply Classical.byContradiction
  intro hc
  have := cmpN_lt (vl_len ha hb (by omega))
  omega
noncomputable def conBigN : Con := ⟨fun args => (match args with
 | [.s (.bool ng), .s (.sl (.int .i64) m _)] => (trimL m).length ≤ 2048
 | _ => False), fun args => match args with
 | [.s (.bool ng), .s (.sl (.int .i64) m _)] => .v (.agg [.bool (ng && decide (trimL m ≠ [])), .sl tI (trimL m) false])
 | _ => .v (.s .any)⟩
theorem conBigN_eq (ng : Bool) (m : List (Ty.T tI)) (exm : Bool) : conBigN.pre [.s (.bool ng), .s (.sl tI m exm)] = ((trimL m).length ≤ 2048) ∧ conBigN.val [.s (.bool ng), .s (.sl tI m exm)] = .v (.agg [.bool (ng && decide (trimL m ≠ [])), .sl tI (trimL m) false]) := ⟨rfl, rfl⟩
theorem nbig_ok : PureOk Tryz.prog 181 conBigN := by
 refine pureOkD (L := { live := [0, 1, 4, 9], fin := [(3, [])] }) nr14_good rfl nr_mixed Tryz.func181 rfl conBigN 2 (by decide) (by kernel_rfl) ?_
 intro args hpre hlens
 simp only [conBigN] at hpre
 split at hpre
 case h_2 => exact hpre.elim
 rename_i ng m em
 simp only [allLen, AV.lenOk, SV.lenOk, Ty.lenOk, maxLen, and_true, implies_true, true_and, List.forall_mem_cons, List.not_mem_nil, false_implies] at hlens
 refine ⟨rfl, ?_⟩
 simp -dsimp -implicitDefEqProofs [Tryz.f181, conBigN_eq, nr14_all, nrT, nr14Γ, nr14E, nr14P, nr13Γ, nr13E, nr13P, nr9Γ, nr9E, nr9P, nr8Γ, nr8E, nr8P, nr7Γ, nr7E, nr7P, nr6Γ, nr6E, nr6P, nr5Γ, nr5E, nr5P, nr4Γ, nr4E, nr4P, nr3Γ, nr3E, nr3P, nr0Γ, nr0E, nr0P, conLong_eq, conLead64_eq, conShort_eq, conMovE, conTrim_eq, conAt_eq, conNCmp_eq, conBack_eq, conOf9_eq, conDivide_eq, conTimes_eq, conLess9_eq, conTwo_eq, conRCheck_eq, conRCmpD_eq, inI64]
 refine ⟨by omega, fun _ => ?_⟩
 cases trimL m <;> simp
abbrev tBig : Ty := .cons .bool (.cons (.slice (.int .i64)) .nil)
def okB (x : tBig.T) : Prop := okBig x.1 x.2.1
noncomputable def conChk : Con := ⟨fun args => (match args with
 | [.s (.sl (.cons .bool (.cons (.slice (.int .i64)) .nil)) l _)] => ∀ x ∈ l, okB x
 | _ => False), fun args => match args with
 | [.s (.sl (.cons .bool (.cons (.slice (.int .i64)) .nil)) l _)] => .tup []
 | _ => .v (.s .any)⟩
theorem conChk_eq (l : List (Ty.T tBig)) (exl : Bool) : conChk.pre [.s (.sl tBig l exl)] = (∀ x ∈ l, okB x) ∧ conChk.val [.s (.sl tBig l exl)] = .tup [] := ⟨rfl, rfl⟩
noncomputable def nr15Γ : List (FuncId × Con) := (144, conNCheck) :: nr14Γ
theorem nr15Γ_ok : ∀ p ∈ nr15Γ, (∀ (args : Array Value) (w : World), (callFunc p.1 args).run Tryz.prog w = .ok (.enter p.1 args) w) ∧ PureOk Tryz.prog p.1 p.2 := by
 simp only [nr15Γ, List.forall_mem_cons]
 exact ⟨⟨enters_of Tryz.func144 (by kernel_rfl) rfl, ncheck_ok⟩, nr14Γ_ok⟩
noncomputable def nr15E : List (FuncId × ECon) := nr14E
theorem nr15E_ok : ∀ p ∈ nr15E, (∀ (args : Array Value) (w : World), (callFunc p.1 args).run Tryz.prog w = .ok (.enter p.1 args) w) ∧ EffOk Tryz.prog p.1 p.2 := by
 simp only [nr15E]
 exact nr14E_ok
noncomputable def nr15P : List (FuncId × PCon) := nr14P
theorem nr15P_ok : ∀ p ∈ nr15P, (∀ (args : Array Value) (w : World), (callFunc p.1 args).run Tryz.prog w = .ok (.enter p.1 args) w) ∧ PanOk Tryz.prog p.1 p.2 := by
 simp only [nr15P]
 exact nr14P_ok
noncomputable def nr15 : G := { τ := nrT, Γ := nr15Γ, E := nr15E, Pn := nr15P }
theorem nr15_good : nr15.good Tryz.prog := good_of_all (nrT_ok _ rfl) nr15Γ_ok nr15E_ok nr15P_ok
theorem nr15_all : (∀ t, nr15.td t = (look nrT t).getD .other) ∧ nr15.y = false ∧ nr15.Γ = nr15Γ ∧ nr15.E = nr15E ∧ nr15.Pn = nr15P ∧ nr15.fz = [] := ⟨fun _ => rfl, rfl, rfl, rfl, rfl, rfl⟩
theorem nchk_ok : PureOk Tryz.prog 176 conChk := by
 refine pureOkD (L := { live := [0, 3, 4, 5, 6, 7, 8, 14], fin := [(5, [])] }) nr15_good rfl nr_mixed Tryz.func176 rfl conChk 1 (by decide) (by kernel_rfl) ?_
 intro args hpre hlens
 simp only [conChk] at hpre
 split at hpre
 case h_2 => exact hpre.elim
 rename_i l el
 simp only [allLen, AV.lenOk, SV.lenOk, Ty.lenOk, maxLen, and_true, implies_true, true_and, List.forall_mem_cons, List.not_mem_nil, false_implies] at hlens
 refine ⟨rfl, ?_⟩
 simp -dsimp -implicitDefEqProofs [Tryz.f176, conChk_eq, nr15_all, nrT, nr15Γ, nr15E, nr15P, nr14Γ, nr14E, nr14P, nr13Γ, nr13E, nr13P, nr9Γ, nr9E, nr9P, nr8Γ, nr8E, nr8P, nr7Γ, nr7E, nr7P, nr6Γ, nr6E, nr6P, nr5Γ, nr5E, nr5P, nr4Γ, nr4E, nr4P, nr3Γ, nr3E, nr3P, nr0Γ, nr0E, nr0P, conNCheck_eq, conLong_eq, conLead64_eq, conShort_eq, conMovE, conTrim_eq, conAt_eq, conNCmp_eq, conBack_eq, conOf9_eq, conDivide_eq, conTimes_eq, conLess9_eq, conTwo_eq, conRCheck_eq, conRCmpD_eq, inI64]
 refine WpD.loop (L := { live := [0, 3, 4, 5, 6, 7, 8, 14], fin := [(5, [])] }) nr15_good X0_ok nr_mixed (by kernel_rfl)
  (fun i : Nat => ⟨[(5, vS tBig l el), (6, vI l.length), (7, vI i)], []⟩)
  (fun i => i ≤ l.length) (fun i => l.length - i) 0 (Nat.zero_le _) (Turn.le (by simp -dsimp -implicitDefEqProofs)) ?_
 intro i hi
 rcases Nat.lt_or_ge i l.length with hil | hge
 ·
  have h0 : natErr l[i].1 l[i].2.1 = 0 := natErr_0.2 (hpre _ (List.getElem_mem hil))
  simp -dsimp -implicitDefEqProofs [conChk_eq, hil, h0, nr15_all, nrT, nr15Γ, nr15E, nr15P, nr14Γ, nr14E, nr14P, nr13Γ, nr13E, nr13P, nr9Γ, nr9E, nr9P, nr8Γ, nr8E, nr8P, nr7Γ, nr7E, nr7P, nr6Γ, nr6E, nr6P, nr5Γ, nr5E, nr5P, nr4Γ, nr4E, nr4P, nr3Γ, nr3E, nr3P, nr0Γ, nr0E, nr0P, conNCheck_eq, conLong_eq, conLead64_eq, conShort_eq, conMovE, conTrim_eq, conAt_eq, conNCmp_eq, conBack_eq, conOf9_eq, conDivide_eq, conTimes_eq, conLess9_eq, conTwo_eq, conRCheck_eq, conRCmpD_eq, inI64]
  exact ⟨⟨by omega, by omega⟩, i + 1, by omega, by omega, TurnT.trunc X0_ok (hp := []) (junk := [_]) (by simp) (by simp only [List.length_cons, List.length_nil, List.all_cons, List.all_nil, arr_below, Bool.and_true] <;> simp [Blk.below, SV.below]) (by simp -dsimp -implicitDefEqProofs []) (by simp [envBelow, RV.below, AV.below, SV.below])⟩
 ·
  have hn : ¬ i < l.length := by omega
  simp -dsimp -implicitDefEqProofs [conChk_eq, hn, nr15_all, nrT, nr15Γ, nr15E, nr15P, nr14Γ, nr14E, nr14P, nr13Γ, nr13E, nr13P, nr9Γ, nr9E, nr9P, nr8Γ, nr8E, nr8P, nr7Γ, nr7E, nr7P, nr6Γ, nr6E, nr6P, nr5Γ, nr5E, nr5P, nr4Γ, nr4E, nr4P, nr3Γ, nr3E, nr3P, nr0Γ, nr0E, nr0P, conNCheck_eq, conLong_eq, conLead64_eq, conShort_eq, conMovE, conTrim_eq, conAt_eq, conNCmp_eq, conBack_eq, conOf9_eq, conDivide_eq, conTimes_eq, conLess9_eq, conTwo_eq, conRCheck_eq, conRCmpD_eq, inI64]
end Go.Am
namespace Go.Am
set_option maxHeartbeats 4000000
set_option maxRecDepth 20000
open Go.RowKit Go.Proofs
theorem natCaught : CaughtRaw Tryz.prog 175 27 := by
 constructor
 ·
  intro n p w
  refine callsDIn_of_wpSIn Tryz.func175 rfl trivial fun c₀ cs hu => ?_
  apply wpSIn_seq
  apply wpSIn_region
  simp [wpOpsSIn, go_sem, recoverD, hu, Tryz.ntmps175, Exit.thenS]
  apply wpSIn_seq
  apply wpSIn_region
  simp [wpOpsSIn, go_sem, Exit.thenS, eqGuard, Op.equal, Op.equalIn, Op.maxDepth, run_underlying Tryz.underlying20]
  refine wpSIn_cond (t := false) (by simp [Act.eval, Array.replicate]) ?_
  simp only [Bool.false_eq_true, if_false]
  refine wpSIn_of_wpIn rfl (wpIn_skip ?_)
  cases c₀
  simp_all [bodyPostS, results, Tryz.results175]
 ·
  intro n p x m w hc hf
  refine callsDIn_of_wpSIn Tryz.func175 rfl trivial fun c₀ cs hu => ?_
  apply wpSIn_seq
  apply wpSIn_region
  simp [wpOpsSIn, go_sem, recoverD, hu, Tryz.ntmps175, Exit.thenS]
  apply wpSIn_seq
  apply wpSIn_region
  simp [wpOpsSIn, go_sem, Exit.thenS, eqGuard, Op.equal, Op.equalIn, Op.maxDepth, run_underlying Tryz.underlying20]
  refine wpSIn_cond (t := true) (by simp [Act.eval, Array.replicate]) ?_
  simp only [if_true]
  apply wpSIn_seq
  apply wpSIn_region
  simp [wpOpsSIn, go_sem, Exit.thenS, Instr.typeAssert, run_underlying Tryz.underlying20, run_underlying Tryz.underlying27]
  apply wpSIn_seq
  apply wpSIn_seq
  apply wpSIn_region
  simp [wpOpsSIn, go_sem, Exit.thenS]
  refine wpSIn_cond (t := false) (by simp [Act.eval, Array.replicate]) ?_
  simp only [Bool.false_eq_true, if_false]
  refine wpSIn_of_wpIn rfl (wpIn_skip ?_)
  show Code.wpSIn _ _ _ _ _ _ _ _
  apply wpSIn_region
  simp [wpOpsSIn, go_sem, hc, hf, bodyPostS, results, Tryz.results175]
theorem ratioCaught : CaughtRaw Tryz.prog 139 27 := by
 constructor
 ·
  intro n p w
  refine callsDIn_of_wpSIn Tryz.func139 rfl trivial fun c₀ cs hu => ?_
  apply wpSIn_seq
  apply wpSIn_region
  simp [wpOpsSIn, go_sem, recoverD, hu, Tryz.ntmps139, Exit.thenS]
  refine wpSIn_of_wpIn rfl (wpIn_block (wpIn_seq (wpIn_region_list ?_)))
  simp [wpListIn, Region.wanted, go_sem, Oper.wpIn, Oper.uponIn, Oper.semAt_none, FW, eqGuard, Op.equal, Op.equalIn, Op.maxDepth, Instr.typeAssert, run_underlying Tryz.underlying20, run_underlying Tryz.underlying27]
  refine wpIn_cond (t := true) (by simp [Act.eval, Array.replicate]) ?_
  simp only [if_true]
  refine wpIn_region_list ?_
  cases c₀
  simp [wpListIn, Region.wanted, go_sem, Oper.wpIn, Oper.uponIn, Oper.semAt_none, FW, eqGuard, Op.equal, Op.equalIn, Op.maxDepth, Instr.typeAssert, run_underlying Tryz.underlying20, run_underlying Tryz.underlying27, bodyPostS, results, Tryz.results139, Exit.inBlock]
  simp_all
 ·
  intro n p x m w hc hf
  refine callsDIn_of_wpSIn Tryz.func139 rfl trivial fun c₀ cs hu => ?_
  apply wpSIn_seq
  apply wpSIn_region
  simp [wpOpsSIn, go_sem, recoverD, hu, Tryz.ntmps139, Exit.thenS]
  refine wpSIn_of_wpIn rfl (wpIn_block (wpIn_seq (wpIn_region_list ?_)))
  simp [wpListIn, Region.wanted, go_sem, Oper.wpIn, Oper.uponIn, Oper.semAt_none, FW, eqGuard, Op.equal, Op.equalIn, Op.maxDepth, Instr.typeAssert, run_underlying Tryz.underlying20, run_underlying Tryz.underlying27]
  refine wpIn_cond (t := false) (by simp [Act.eval, Array.replicate]) ?_
  simp only [Bool.false_eq_true, if_false]
  refine wpIn_seq (wpIn_region_list ?_)
  simp [wpListIn, Region.wanted, go_sem, Oper.wpIn, Oper.uponIn, Oper.semAt_none, FW, eqGuard, Op.equal, Op.equalIn, Op.maxDepth, Instr.typeAssert, run_underlying Tryz.underlying20, run_underlying Tryz.underlying27]
  refine wpIn_cond (t := true) (by simp [Act.eval, Array.replicate]) ?_
  simp only [if_true]
  refine wpIn_seq (wpIn_region_list ?_)
  simp [wpListIn, Region.wanted, go_sem, Oper.wpIn, Oper.uponIn, Oper.semAt_none, FW, eqGuard, Op.equal, Op.equalIn, Op.maxDepth, Instr.typeAssert, run_underlying Tryz.underlying20, run_underlying Tryz.underlying27]
  refine wpIn_region_list ?_
  simp [wpListIn, Region.wanted, go_sem, Oper.wpIn, Oper.uponIn, Oper.semAt_none, FW, eqGuard, Op.equal, Op.equalIn, Op.maxDepth, Instr.typeAssert, run_underlying Tryz.underlying20, run_underlying Tryz.underlying27, hc, hf, bodyPostS, results, Tryz.results139, Exit.inBlock]
end Go.Am
