/- The last part of the proof's base. -/
import Derived.Test.YtnekjoocbfbmaaaGreatK11
set_option linter.all false
namespace Go.Am
set_option maxHeartbeats 4000000
set_option maxRecDepth 20000
open Go.RowKit Go.Proofs
attribute [local simp] thenKD_normal thenKD_exit thenKD_goto thenKD_ret inBlockKD_normal inBlockKD_exit inBlockKD_goto inBlockKD_ret noGotoKD_normal noGotoKD_exit noGotoKD_goto noGotoKD_ret roundKD_normal roundKD_exit roundKD_goto roundKD_ret frzSlotsD_nil frzSlotsD_cons frzSlotD_eq yieldVCD_trace opVCD_eq vcOpsD_nil vcOpsD_cons vcAllD_zero vcAllD_succ allAtD_nil allAtD_cons readyAux edgA vcD_skip vcD_label vcD_exit vcD_goto vcD_ret vcD_region vcD_seq vcD_seqC vcD_cond vcCondD_bool vcD_block vcD_scope vcD_loop vcD_rangeFunc yieldOf isMem isMem0 keepE envLe St.le psE yieldAV round_td round_y round_Γ vI vB vS aI aB aS look getE oper opRV putE allOk okOps Op.operands Call.operands pEv qEv mEv constRV coe RV.av loadEv loadCs takeAt indexAddrEv fieldAddrEv binEv intEv arith unEv gcond pickEv argsEv callVal callEv capAV_mk lenArgs lenEv minEv extractEv convEv funcEv allBox bound sliceEv lookupEv TD.isBool allocEv boxEv storeEv spl plainTD appendEv appendArgs makeMapEv mapUpdateEv buildEv buildSliceEv fillSV zsvOf sizeTD Ty.parses parses_flats' coeA flats_length AV.good AV.cells AV.pure SV.pure av_int av_bool av_str av_slice av_cons av_fld0 av_fld1 av_fld2 av_fld3 av_fld4 Ty.of Ty.dflt Ty.parse Ty.flat Ty.zsv Ty.fld Ty.get Ty.off Ty.nfld Ty.size coeTy junk Blk.look argEnv resEv resOk resVs oneRV retOk frzAs frzAV frzL frzSV boxCaps boxCap SV.sig sigs RV.scalar AV.scalar SV.scalar nope effVCD_eq effOf SV.ids AV.ids dedup SV.ren AV.ren RV.ren idx outId mergeB Blk.pureB flats_pure flat_pure epsSlotsD_nil epsSlotsD_cons epsSlotD_eq allEp D.parts_fnOf fvParts retEff round_E av_fn G.ye isCutD_nil isCutD_cons firstReg_region firstReg_seq firstReg_skip firstReg_ret firstReg_label firstReg_exit firstReg_goto firstReg_cond firstReg_block firstReg_scope firstReg_loop firstReg_rf eptrOf_mk flOfD_nil flOfD_cons vcFlD_cons vcFlD_nil flPairs_nil flPairs_cons vcFrD_nil vcFrD_cons makeSliceEv vcCondD_ib fzEv unfl_flats isFz round_fz panVCD_eq panOf isShift strIdxEv ifaceEv nilChkEv sliceAnyEv sliceOwnEv sliceSufEv appendEv0 appendEv1 Ty.beq Ty.isAgg round_Pn vcDefD_seqR vcDefD_seqS vcDefD_seqC vcDefD_seqB vcDefD_seqL vcDefD_seqF vcDefD_seqSc vcDefD_region vcDefD_ret vcDefD_cond vcDefD_block vcDefD_loop thenKD_panic inBlockKD_panic noGotoKD_panic exitOk_normal exitOk_ret exitOk_panic exitOk_exit runDefs_none runDefs_some runDefs_cons defRegD isDefer defOf caughtCon unfl_cons D.bpart_bndOf D.parts_bndOf AV.sig
attribute [local simp ←] flats_append
def rightPM (f : FuncId) (caps : List (Sigma Ty.T)) (p : List tPlc.T) (l : List tKd.T) : Prop := ∃ (ord : List (List Int)) (ks : List tKey.T), f = 24 ∧ caps = [⟨.slice tRow, ord⟩, ⟨.slice tKd, l⟩, ⟨.slice tKey, ks⟩] ∧ (ks.length ≤ 10000 ∧ chkS ks l = 0 ∧ Pl.checkErr ord = 0 ∧ ¬ rowsE ord l) ∧ l.length ≤ 19 ∧ RightF true (l, ks, ord, ()) p
noncomputable def conRightM : Con := ⟨fun args => (match args with
 | [.s (.sl (.cons (.int .i64) (.cons (.int .i64) (.cons (.int .i64) .nil))) p _), .s (.sl (.cons (.int .i64) (.cons (.cons (.cons .bool (.cons (.slice (.int .i64)) .nil)) (.cons (.cons .bool (.cons (.slice (.int .i64)) .nil)) .nil)) (.cons (.slice (.cons (.cons .bool (.cons (.slice (.int .i64)) .nil)) (.cons (.cons .bool (.cons (.slice (.int .i64)) .nil)) .nil))) (.cons (.slice (.cons (.cons .bool (.cons (.slice (.int .i64)) .nil)) (.cons (.cons .bool (.cons (.slice (.int .i64)) .nil)) .nil))) (.cons (.int .i64) (.cons (.int .i64) (.cons (.int .i64) .nil))))))) l _), .s (.fnp f caps)] => rightPM f caps p l
 | _ => False), fun args => match args with
 | [.s (.sl (.cons (.int .i64) (.cons (.int .i64) (.cons (.int .i64) .nil))) p _), .s (.sl (.cons (.int .i64) (.cons (.cons (.cons .bool (.cons (.slice (.int .i64)) .nil)) (.cons (.cons .bool (.cons (.slice (.int .i64)) .nil)) .nil)) (.cons (.slice (.cons (.cons .bool (.cons (.slice (.int .i64)) .nil)) (.cons (.cons .bool (.cons (.slice (.int .i64)) .nil)) .nil))) (.cons (.slice (.cons (.cons .bool (.cons (.slice (.int .i64)) .nil)) (.cons (.cons .bool (.cons (.slice (.int .i64)) .nil)) .nil))) (.cons (.int .i64) (.cons (.int .i64) (.cons (.int .i64) .nil))))))) l _), .s (.fnp f caps)] => .v (aB true)
 | _ => .v (.s .any)⟩
theorem conRightM_pre (p : List (Ty.T tPlc)) (exp : Bool) (l : List (Ty.T tKd)) (exl : Bool) (f : FuncId) (caps : List (Sigma Ty.T)) : conRightM.pre [.s (.sl tPlc p exp), .s (.sl tKd l exl), .s (.fnp f caps)] = (rightPM f caps p l) := rfl
theorem conRightM_val (p : List (Ty.T tPlc)) (exp : Bool) (l : List (Ty.T tKd)) (exl : Bool) (f : FuncId) (caps : List (Sigma Ty.T)) : conRightM.val [.s (.sl tPlc p exp), .s (.sl tKd l exl), .s (.fnp f caps)] = .v (aB true) := rfl
theorem rightM_ok : PureOk Tryz.prog 21 conRightM := by
 refine pureOkD (L := { live := [0, 1, 2, 6, 7, 8, 9, 10, 11, 12, 13, 15, 17, 18, 28, 35, 44, 57, 66, 70, 76, 126, 128, 137, 153, 179] }) lwR_good rfl nr_mixed Tryz.func21 rfl conRightM 3 (by decide) (by kernel_rfl) ?_
 intro args hpre hlens
 simp only [conRightM] at hpre
 split at hpre
 case h_2 => exact hpre.elim
 rename_i p ep l el f caps
 simp only [allLen, AV.lenOk, SV.lenOk, Ty.lenOk, maxLen, and_true, implies_true, true_and, List.forall_mem_cons, List.not_mem_nil, false_implies] at hlens
 obtain ⟨ord, ks, rfl, rfl, hcl, hl19, hR⟩ := hpre
 refine ⟨rfl, ?_⟩
 simp -dsimp -implicitDefEqProofs [Tryz.f21, -Prod.forall, -Bool.forall_bool, -Prod.exists, -Bool.exists_bool, lwR_all, lwT, lwRΓ, lwRE, lwRP, lwsΓ, lwsE, lwsP, lwfΓ, lwfE, lwfP, lw1Γ, lw1E, lw1P, lw0Γ, lw0E, lw0P, conS1_eq, conM1_eq, conTCmp_eq, Pl.conCompare_eq, conFew21_eq, conFewO_eq, conRank_eq, conFewR_eq, conSane23_pre, conSane23_val, conScored_eq, conSameP_eq, conRInt_eq, conByScore_eq, conByPlaces_eq, conCheck_eq, inI64]
 obtain ⟨hpl, hchk, hol, hin, hat, hlt, hsm, hby⟩ := hR
 have hl19' : List.length l ≤ 19 := hl19
 have hpl' : List.length p = List.length l := hpl
 obtain ⟨o, ho⟩ : ∃ o, o = ordO true (l, ks, ord, ()) := ⟨_, rfl⟩
 have hol' : o.length = p.length := by rw [ho, hol]; exact hpl.symm
 have hin' : ∀ t, t < p.length → inLn l (o[t]?.getD 0) := fun t ht => by rw [ho]; exact hin t (by show t < l.length; omega)
 have hat' : ∀ i (hi : i < p.length) k (hk : k < l.length), l[k].1 = p[i].1 ↔ (k : Int) = o[i]?.getD 0 := fun i hi k hk => by rw [ho]; exact hat i hi k hk
 rw [← ho] at hlt hsm hby
 have hok := (chkErr_0.1 hchk).2
 refine ⟨fun h => ?_, fun h1 h2 => ⟨⟨by omega, by omega⟩, ?_⟩⟩
 ·
  rcases h with h | h
  ·
   exact absurd hpl' (by omega)
  ·
   exact absurd hchk h
 refine WpD.loop (L := { live := [0, 1, 2, 6, 7, 8, 9, 10, 11, 12, 13, 15, 17, 18, 28, 35, 44, 57, 66, 70, 76, 126, 128, 137, 153, 179] }) lwR_good X0_ok nr_mixed (by kernel_rfl)
  (fun i : Nat => ⟨[(0, vS tPlc p ep), (1, vS tKd l el), (2, ⟨true, .v (.s (.fnp 24 [⟨.slice tRow, ord⟩, ⟨.slice tKd, l⟩, ⟨.slice tKey, ks⟩]))⟩), (6, vB false), (7, ⟨true, .v (.s (.own tI 0 p.length))⟩), (8, vI i)], [.arr true (tI.flats (atL o p.length i))]⟩)
  (fun i => i ≤ p.length) (fun i => p.length - i) 0 (Nat.zero_le _) (Turn.le (by simp -dsimp -implicitDefEqProofs [atL])) ?_
 intro i hi
 have hal := atL_len (o := o) (n := p.length) (i := i) hi (by omega)
 rcases Nat.lt_or_ge i p.length with hil | hge
 ·
  simp -dsimp -implicitDefEqProofs [hil, hal, -Prod.forall, -Bool.forall_bool, -Prod.exists, -Bool.exists_bool, lwR_all, lwT, lwRΓ, lwRE, lwRP, lwsΓ, lwsE, lwsP, lwfΓ, lwfE, lwfP, lw1Γ, lw1E, lw1P, lw0Γ, lw0E, lw0P, conS1_eq, conM1_eq, conTCmp_eq, Pl.conCompare_eq, conFew21_eq, conFewO_eq, conRank_eq, conFewR_eq, conSane23_pre, conSane23_val, conScored_eq, conSameP_eq, conRInt_eq, conByScore_eq, conByPlaces_eq, conCheck_eq, inI64]
  have hoi := hin' i hil
  rw [fl_set (xs := atL o p.length i) (j := i) (by omega)]
  refine ⟨by omega, ?_⟩
  refine WpD.loop (L := { live := [0, 1, 2, 6, 7, 8, 9, 10, 11, 12, 13, 15, 17, 18, 28, 35, 44, 57, 66, 70, 76, 126, 128, 137, 153, 179] }) lwR_good X0_ok nr_mixed (by kernel_rfl)
   (fun k : Nat => ⟨[(0, vS tPlc p ep), (1, vS tKd l el), (2, ⟨true, .v (.s (.fnp 24 [⟨.slice tRow, ord⟩, ⟨.slice tKd, l⟩, ⟨.slice tKey, ks⟩]))⟩), (6, vB false), (7, ⟨true, .v (.s (.own tI 0 p.length))⟩), (8, vI i), (9, vI k)], [.arr true (tI.flats ((atL o p.length i).set i (if o[i]?.getD 0 < (k : Int) then o[i]?.getD 0 else -1)))]⟩)
   (fun k => k ≤ l.length) (fun k => l.length - k) 0 (Nat.zero_le _) (Turn.le (by rw [if_neg (by have := hoi.1; omega)]; simp -dsimp -implicitDefEqProofs)) ?_
  intro k hk
  obtain ⟨A, hA⟩ : ∃ A, A = (atL o p.length i).set i (if o[i]?.getD 0 < (k : Int) then o[i]?.getD 0 else -1) := ⟨_, rfl⟩
  have hAl : A.length = p.length := by rw [hA, List.length_set, hal]
  dsimp only
  rw [← hA]
  rcases Nat.lt_or_ge k l.length with hkl | hkg
  ·
   have heq := hat' i hil k hkl
   simp -dsimp -implicitDefEqProofs [hil, hkl, hAl, heq, -Prod.forall, -Bool.forall_bool, -Prod.exists, -Bool.exists_bool, lwR_all, lwT, lwRΓ, lwRE, lwRP, lwsΓ, lwsE, lwsP, lwfΓ, lwfE, lwfP, lw1Γ, lw1E, lw1P, lw0Γ, lw0E, lw0P, conS1_eq, conM1_eq, conTCmp_eq, Pl.conCompare_eq, conFew21_eq, conFewO_eq, conRank_eq, conFewR_eq, conSane23_pre, conSane23_val, conScored_eq, conSameP_eq, conRInt_eq, conByScore_eq, conByPlaces_eq, conCheck_eq, inI64]
   have hAe : k + 1 ≤ l.length → A.set i (k : Int) = (atL o p.length i).set i (k : Int) := fun _ => by rw [hA, List.set_set]
   refine ⟨fun h => ⟨by omega, ⟨by omega, by omega⟩, k + 1, by omega, by omega, ?_⟩, fun h => ⟨⟨by omega, by omega⟩, k + 1, by omega, by omega, ?_⟩⟩
   ·
    rw [fl_set (xs := A) (j := i) (by omega), hAe (by omega), if_pos (by omega), ← h]
    exact TurnT.le (by simp -dsimp -implicitDefEqProofs)
   ·
    have e : (atL o p.length i).set i (if o[i]?.getD 0 < ((k + 1 : Nat) : Int) then o[i]?.getD 0 else -1) = A := by
     rw [hA]
     congr 1
     split <;> split <;> omega
    rw [e]
    exact TurnT.le (by simp -dsimp -implicitDefEqProofs)
  ·
   have hkn : ¬ k < l.length := by omega
   have hi2 : i < A.length := by omega
   have f1 := fl_atI hi2
   have hv : A[i] = o[i]?.getD 0 := by
    have : A = (atL o p.length i).set i (o[i]?.getD 0) := by rw [hA, if_pos (by have := hoi.2; omega)]
    simp only [this, List.getElem_set_self]
   simp -dsimp -implicitDefEqProofs [conRightM_val, hil, hkn, hAl, f1, hv, -Prod.forall, -Bool.forall_bool, -Prod.exists, -Bool.exists_bool, lwR_all, lwT, lwRΓ, lwRE, lwRP, lwsΓ, lwsE, lwsP, lwfΓ, lwfE, lwfP, lw1Γ, lw1E, lw1P, lw0Γ, lw0E, lw0P, conS1_eq, conM1_eq, conTCmp_eq, Pl.conCompare_eq, conFew21_eq, conFewO_eq, conRank_eq, conFewR_eq, conSane23_pre, conSane23_val, conScored_eq, conSameP_eq, conRInt_eq, conByScore_eq, conByPlaces_eq, conCheck_eq, inI64]
   have e : atL o p.length (i + 1) = A := by rw [← atL_succ hil (by omega), hA, if_pos (by have := hoi.2; omega)]
   refine ⟨hoi.1, fun _ => ⟨⟨by omega, by omega⟩, i + 1, by omega, by omega, ?_⟩⟩
   rw [e]
   exact TurnT.le (by simp -dsimp -implicitDefEqProofs)
 have hn : ¬ i < p.length := by omega
 simp -dsimp -implicitDefEqProofs [hn, hal, -Prod.forall, -Bool.forall_bool, -Prod.exists, -Bool.exists_bool, lwR_all, lwT, lwRΓ, lwRE, lwRP, lwsΓ, lwsE, lwsP, lwfΓ, lwfE, lwfP, lw1Γ, lw1E, lw1P, lw0Γ, lw0E, lw0P, conS1_eq, conM1_eq, conTCmp_eq, Pl.conCompare_eq, conFew21_eq, conFewO_eq, conRank_eq, conFewR_eq, conSane23_pre, conSane23_val, conScored_eq, conSameP_eq, conRInt_eq, conByScore_eq, conByPlaces_eq, conCheck_eq, inI64]
 obtain rfl : i = p.length := by omega
 rw [atL_all hol']
 refine WpD.loop (L := { live := [0, 1, 2, 6, 7, 8, 9, 10, 11, 12, 13, 15, 17, 18, 28, 35, 44, 57, 66, 70, 76, 126, 128, 137, 153, 179] }) lwR_good X0_ok nr_mixed (by kernel_rfl)
  (fun i : Nat => ⟨[(0, vS tPlc p ep), (1, vS tKd l el), (2, ⟨true, .v (.s (.fnp 24 [⟨.slice tRow, ord⟩, ⟨.slice tKd, l⟩, ⟨.slice tKey, ks⟩]))⟩), (6, vB false), (7, ⟨true, .v (.s (.own tI 0 p.length))⟩), (10, vI i)], [.arr true (tI.flats o)]⟩)
  (fun i => i ≤ p.length) (fun i => p.length - i) 0 (Nat.zero_le _) (Turn.le (by simp -dsimp -implicitDefEqProofs)) ?_
 intro n hn0
 rcases Nat.lt_or_ge n p.length with hnl | hng
 ·
  have hbi := rk_le hok n hnl
  simp -dsimp -implicitDefEqProofs [hnl, hol', -Prod.forall, -Bool.forall_bool, -Prod.exists, -Bool.exists_bool, lwR_all, lwT, lwRΓ, lwRE, lwRP, lwsΓ, lwsE, lwsP, lwfΓ, lwfE, lwfP, lw1Γ, lw1E, lw1P, lw0Γ, lw0E, lw0P, conS1_eq, conM1_eq, conTCmp_eq, Pl.conCompare_eq, conFew21_eq, conFewO_eq, conRank_eq, conFewR_eq, conSane23_pre, conSane23_val, conScored_eq, conSameP_eq, conRInt_eq, conByScore_eq, conByPlaces_eq, conCheck_eq, inI64]
  refine WpD.loop (L := { live := [0, 1, 2, 6, 7, 8, 9, 10, 11, 12, 13, 15, 17, 18, 28, 35, 44, 57, 66, 70, 76, 126, 128, 137, 153, 179] }) lwR_good X0_ok nr_mixed (by kernel_rfl)
   (fun q : Nat => ⟨[(0, vS tPlc p ep), (1, vS tKd l el), (2, ⟨true, .v (.s (.fnp 24 [⟨.slice tRow, ord⟩, ⟨.slice tKd, l⟩, ⟨.slice tKey, ks⟩]))⟩), (6, vB false), (7, ⟨true, .v (.s (.own tI 0 p.length))⟩), (10, vI n), (11, vI (rkUp p n q)), (12, vI q)], [.arr true (tI.flats o)]⟩)
   (fun q => q ≤ p.length) (fun q => p.length - q) 0 (Nat.zero_le _) (Turn.le (by simp -dsimp -implicitDefEqProofs [rkUp]; intro h; have := hbi.1; omega)) ?_
  intro q hq
  rcases Nat.lt_or_ge q p.length with hql | hqg
  ·
   have hqo : q < o.length := by omega
   have hno : n < o.length := by omega
   have f1 := fl_atI hqo
   have f2 := fl_atI hno
   have i1 := hin' q hql
   have i2 := hin' n hnl
   have c1 := hlt q hql n hnl
   have c2 := hsm q hql n hnl
   rw [getD_lt hqo] at i1 c1 c2
   rw [getD_lt hno] at i2 c1 c2
   have hu0 : rkUp p n q = if (q : Int) + 1 ≤ rkAt p n then (q : Int) + 1 else rkAt p n := rfl
   have hu1 : rkUp p n (q + 1) = if ((q + 1 : Nat) : Int) + 1 ≤ rkAt p n then ((q + 1 : Nat) : Int) + 1 else rkAt p n := rfl
   have hb0 : 0 ≤ rkUp p n q ∧ rkUp p n q ≤ 10000 := by rw [hu0]; split <;> omega
   have hlt2 := rk_lt hok hnl hql
   have epk : (p[q]'hql).2.1 = rkAt p q := by unfold rkAt plc; rw [List.getElem?_eq_getElem hql]; rfl
   have epi : (p[n]'hnl).2.1 = rkAt p n := by unfold rkAt plc; rw [List.getElem?_eq_getElem hnl]; rfl
   have c3 : (firC true (l, ks, ord, ()) o[q] o[n] == 0) = (p[q].2.1 == p[n].2.1) := by rw [Bool.eq_iff_iff, beq_iff_eq, beq_iff_eq]; exact c2
   simp -dsimp -implicitDefEqProofs [hnl, hql, hol', f1, f2, c1, c3, -Prod.forall, -Bool.forall_bool, -Prod.exists, -Bool.exists_bool, lwR_all, lwT, lwRΓ, lwRE, lwRP, lwsΓ, lwsE, lwsP, lwfΓ, lwfE, lwfP, lw1Γ, lw1E, lw1P, lw0Γ, lw0E, lw0P, conS1_eq, conM1_eq, conTCmp_eq, Pl.conCompare_eq, conFew21_eq, conFewO_eq, conRank_eq, conFewR_eq, conSane23_pre, conSane23_val, conScored_eq, conSameP_eq, conRInt_eq, conByScore_eq, conByPlaces_eq, conCheck_eq, inI64]
   have hup : rkAt p q < rkAt p n → rkUp p n (q + 1) = rkUp p n q + 1 := fun h => by
    have := hlt2.1 h
    rw [hu0, hu1, if_pos (by omega)]
    split <;> omega
   have hsm2 : rkAt p n ≤ rkAt p q → rkUp p n (q + 1) = rkUp p n q := fun h => by
    have : ¬ (q : Int) + 1 < rkAt p n := fun q => by have := hlt2.2 q; omega
    rw [hu0, hu1, if_neg (by omega)]
    split <;> omega
   rw [epk, epi]
   refine ⟨⟨⟨i1, i2⟩, hcl⟩, fun h => ⟨⟨by omega, by omega⟩, ⟨by omega, by omega⟩, q + 1, by omega, by omega, ?_⟩, fun h => ⟨⟨by omega, by omega⟩, q + 1, by omega, by omega, ?_⟩⟩
   ·
    rw [hup h]; exact TurnT.le (by simp -dsimp -implicitDefEqProofs)
   ·
    rw [hsm2 h]; exact TurnT.le (by simp -dsimp -implicitDefEqProofs)
  ·
   obtain rfl : q = p.length := by omega
   have hqn : ¬ p.length < p.length := by omega
   have hno : n < o.length := by omega
   have f2 := fl_atI hno
   have epi : (p[n]'hnl).2.1 = rkAt p n := by unfold rkAt plc; rw [List.getElem?_eq_getElem hnl]; rfl
   have hlast : rkUp p n p.length = p[n].2.1 := by rw [epi]; unfold rkUp; rw [if_neg (by omega)]
   rcases n with _ | j
   ·
    simp -dsimp -implicitDefEqProofs [hnl, hqn, hlast, hol', -Prod.forall, -Bool.forall_bool, -Prod.exists, -Bool.exists_bool, lwR_all, lwT, lwRΓ, lwRE, lwRP, lwsΓ, lwsE, lwsP, lwfΓ, lwfE, lwfP, lw1Γ, lw1E, lw1P, lw0Γ, lw0E, lw0P, conS1_eq, conM1_eq, conTCmp_eq, Pl.conCompare_eq, conFew21_eq, conFewO_eq, conRank_eq, conFewR_eq, conSane23_pre, conSane23_val, conScored_eq, conSameP_eq, conRInt_eq, conByScore_eq, conByPlaces_eq, conCheck_eq, inI64]
    exact ⟨1, by omega, by omega, TurnT.le (by simp -dsimp -implicitDefEqProofs)⟩
   ·
    have e1 : ((j + 1 : Nat) : Int) - 1 = j := by omega
    have hjo : j < o.length := by omega
    have hjl : j < p.length := by omega
    have f1 := fl_atI hjo
    have i1 := hin' j hjl
    have i2 := hin' (j + 1) hnl
    have b1 := hby j hnl
    rw [getD_lt hjo] at i1 b1
    rw [getD_lt hno] at i2 b1
    simp -dsimp -implicitDefEqProofs [hnl, hqn, hjl, hlast, hol', e1, f1, f2, -Prod.forall, -Bool.forall_bool, -Prod.exists, -Bool.exists_bool, lwR_all, lwT, lwRΓ, lwRE, lwRP, lwsΓ, lwsE, lwsP, lwfΓ, lwfE, lwfP, lw1Γ, lw1E, lw1P, lw0Γ, lw0E, lw0P, conS1_eq, conM1_eq, conTCmp_eq, Pl.conCompare_eq, conFew21_eq, conFewO_eq, conRank_eq, conFewR_eq, conSane23_pre, conSane23_val, conScored_eq, conSameP_eq, conRInt_eq, conByScore_eq, conByPlaces_eq, conCheck_eq, inI64]
    refine ⟨⟨by omega, by omega⟩, by omega, fun hne => ⟨by omega, ⟨by omega, by omega⟩, ⟨⟨i1, i2⟩, hcl⟩, ⟨by omega, by omega⟩, fun h => absurd (b1 hne) h, fun _ => ⟨⟨by omega, by omega⟩, j + 1 + 1, by omega, by omega, TurnT.le (by simp -dsimp -implicitDefEqProofs)⟩⟩, fun _ => ⟨⟨by omega, by omega⟩, j + 1 + 1, by omega, by omega, TurnT.le (by simp -dsimp -implicitDefEqProofs)⟩⟩
 ·
  have hnn : ¬ n < p.length := by omega
  simp -dsimp -implicitDefEqProofs [conRightM_val, hnn, hol', -Prod.forall, -Bool.forall_bool, -Prod.exists, -Bool.exists_bool, lwR_all, lwT, lwRΓ, lwRE, lwRP, lwsΓ, lwsE, lwsP, lwfΓ, lwfE, lwfP, lw1Γ, lw1E, lw1P, lw0Γ, lw0E, lw0P, conS1_eq, conM1_eq, conTCmp_eq, Pl.conCompare_eq, conFew21_eq, conFewO_eq, conRank_eq, conFewR_eq, conSane23_pre, conSane23_val, conScored_eq, conSameP_eq, conRInt_eq, conByScore_eq, conByPlaces_eq, conCheck_eq, inI64]
noncomputable def lwMΓ : List (FuncId × Con) := (21, conRightM) :: lwRΓ
theorem lwMΓ_ok : ∀ p ∈ lwMΓ, (∀ (args : Array Value) (w : World), (callFunc p.1 args).run Tryz.prog w = .ok (.enter p.1 args) w) ∧ PureOk Tryz.prog p.1 p.2 := by
 simp only [lwMΓ, List.forall_mem_cons]
 exact ⟨⟨enters_of Tryz.func21 (by kernel_rfl) rfl, rightM_ok⟩, lwRΓ_ok⟩
noncomputable def lwME : List (FuncId × ECon) := lwRE
theorem lwME_ok : ∀ p ∈ lwME, (∀ (args : Array Value) (w : World), (callFunc p.1 args).run Tryz.prog w = .ok (.enter p.1 args) w) ∧ EffOk Tryz.prog p.1 p.2 := by
 simp only [lwME]
 exact lwRE_ok
noncomputable def lwMP : List (FuncId × PCon) := lwRP
theorem lwMP_ok : ∀ p ∈ lwMP, (∀ (args : Array Value) (w : World), (callFunc p.1 args).run Tryz.prog w = .ok (.enter p.1 args) w) ∧ PanOk Tryz.prog p.1 p.2 := by
 simp only [lwMP]
 exact lwRP_ok
noncomputable def lwM : G := { τ := lwT, Γ := lwMΓ, E := lwME, Pn := lwMP }
theorem lwM_good : lwM.good Tryz.prog := good_of_all (lwT_ok _ rfl) lwMΓ_ok lwME_ok lwMP_ok
theorem lwM_all : (∀ t, lwM.td t = (look lwT t).getD .other) ∧ lwM.y = false ∧ lwM.Γ = lwMΓ ∧ lwM.E = lwME ∧ lwM.Pn = lwMP ∧ lwM.fz = [] := ⟨fun _ => rfl, rfl, rfl, rfl, rfl, rfl⟩
noncomputable def conSMaj : Con := ⟨fun args => (match args with
 | [.s (.sl (.slice (.int .i64)) ord _), .s (.sl (.cons (.int .i64) (.cons .str (.cons (.int .i64) .nil))) ks _), .s (.sl (.cons (.int .i64) (.cons (.cons (.cons .bool (.cons (.slice (.int .i64)) .nil)) (.cons (.cons .bool (.cons (.slice (.int .i64)) .nil)) .nil)) (.cons (.slice (.cons (.cons .bool (.cons (.slice (.int .i64)) .nil)) (.cons (.cons .bool (.cons (.slice (.int .i64)) .nil)) .nil))) (.cons (.slice (.cons (.cons .bool (.cons (.slice (.int .i64)) .nil)) (.cons (.cons .bool (.cons (.slice (.int .i64)) .nil)) .nil))) (.cons (.int .i64) (.cons (.int .i64) (.cons (.int .i64) .nil))))))) l _)] => True
 | _ => False), fun args => match args with
 | [.s (.sl (.slice (.int .i64)) ord _), .s (.sl (.cons (.int .i64) (.cons .str (.cons (.int .i64) .nil))) ks _), .s (.sl (.cons (.int .i64) (.cons (.cons (.cons .bool (.cons (.slice (.int .i64)) .nil)) (.cons (.cons .bool (.cons (.slice (.int .i64)) .nil)) .nil)) (.cons (.slice (.cons (.cons .bool (.cons (.slice (.int .i64)) .nil)) (.cons (.cons .bool (.cons (.slice (.int .i64)) .nil)) .nil))) (.cons (.slice (.cons (.cons .bool (.cons (.slice (.int .i64)) .nil)) (.cons (.cons .bool (.cons (.slice (.int .i64)) .nil)) .nil))) (.cons (.int .i64) (.cons (.int .i64) (.cons (.int .i64) .nil))))))) l _)] => .v (aB true)
 | _ => .v (.s .any)⟩
theorem conSMaj_eq (ord : List (Ty.T (.slice tI))) (exord : Bool) (ks : List (Ty.T tKey)) (exks : Bool) (l : List (Ty.T tKd)) (exl : Bool) : conSMaj.pre [.s (.sl (.slice tI) ord exord), .s (.sl tKey ks exks), .s (.sl tKd l exl)] = (True) ∧ conSMaj.val [.s (.sl (.slice tI) ord exord), .s (.sl tKey ks exks), .s (.sl tKd l exl)] = .v (aB true) := ⟨rfl, rfl⟩
theorem smaj_ok : PureOk Tryz.prog 6 conSMaj := by
 refine pureOkD (L := { live := [0, 1, 2, 3, 4, 5, 6, 7, 8, 10, 19, 28], eps := [(8, [3, 4, 5])] }) lwM_good rfl nr_mixed Tryz.func6 rfl conSMaj 3 (by decide) (by kernel_rfl) ?_
 intro args hpre hlens
 simp only [conSMaj] at hpre
 split at hpre
 case h_2 => exact hpre.elim
 rename_i ord eo ks ek l el
 simp only [allLen, AV.lenOk, SV.lenOk, Ty.lenOk, maxLen, and_true, implies_true, true_and, List.forall_mem_cons, List.not_mem_nil, false_implies] at hlens
 refine ⟨rfl, ?_⟩
 simp -dsimp -implicitDefEqProofs [Tryz.f6, conSMaj_eq, conRightM_pre, conRightM_val, -Prod.forall, -Bool.forall_bool, -Prod.exists, -Bool.exists_bool, lwM_all, lwT, lwMΓ, lwME, lwMP, lwRΓ, lwRE, lwRP, lwsΓ, lwsE, lwsP, lwfΓ, lwfE, lwfP, lw1Γ, lw1E, lw1P, lw0Γ, lw0E, lw0P, conS1_eq, conM1_eq, conTCmp_eq, Pl.conCompare_eq, conFew21_eq, conFewO_eq, conRank_eq, conFewR_eq, conSane23_pre, conSane23_val, conScored_eq, conSameP_eq, conRInt_eq, conByScore_eq, conByPlaces_eq, conCheck_eq, inI64]
 intro hf ho
 obtain ⟨k40, l12⟩ := few_len hf
 refine ⟨⟨by omega, by omega⟩, fun h => pL0 h, fun h => ?_⟩
 obtain ⟨h1, h2, h3⟩ := place_0 h
 have hv := ord_places (show ks.length ≤ 10000 by omega) h2 h1 h3
 rw [show placeL ord ks l = standL true (l, ks, ord, ()) from if_pos h]
 exact ⟨ord, ks, rfl, rfl, ⟨by omega, h2, h1, h3⟩, by omega, hv.right (by show l.length ≤ 4096; omega)⟩
noncomputable def conSMajW : Con := ⟨fun args => ∃ (ord : List (List Int)) (ks : List tKey.T) (l : List tKd.T), args = [.s (.sl (.slice tI) ord false), .s (.sl tKey ks false), .s (.sl tKd l false)], fun _ => .v (aB true)⟩
theorem smaj_okW : PureOk Tryz.prog 6 conSMajW := by
 refine PureOk.of fun args hpre => ?_
 obtain ⟨ord, ks, l, rfl⟩ := hpre
 exact ⟨conSMaj, smaj_ok, trivial, rfl⟩
end Go.Am
