/- The last part of the proof's base. -/
import Derived.Test.YtnekjoocbfbmaaaGreatK11
set_option linter.all false
namespace Go.Am
set_option maxHeartbeats 4000000
set_option maxRecDepth 20000
open Go.RowKit Go.Proofs
attribute [local simp] thenKD_normal thenKD_exit thenKD_goto thenKD_ret inBlockKD_normal inBlockKD_exit inBlockKD_goto inBlockKD_ret noGotoKD_normal noGotoKD_exit noGotoKD_goto noGotoKD_ret roundKD_normal roundKD_exit roundKD_goto roundKD_ret frzSlotsD_nil frzSlotsD_cons frzSlotD_eq yieldVCD_trace opVCD_eq vcOpsD_nil vcOpsD_cons vcAllD_zero vcAllD_succ allAtD_nil allAtD_cons readyAux edgA vcD_skip vcD_label vcD_exit vcD_goto vcD_ret vcD_region vcD_seq vcD_seqC vcD_cond vcCondD_bool vcD_block vcD_scope vcD_loop vcD_rangeFunc yieldOf isMem isMem0 keepE envLe St.le psE yieldAV round_td round_y round_Γ vI vB vS aI aB aS look getE oper opRV putE allOk okOps Op.operands Call.operands pEv qEv mEv constRV coe RV.av loadEv loadCs takeAt indexAddrEv fieldAddrEv binEv intEv arith unEv gcond pickEv argsEv callVal callEv capAV_mk lenArgs lenEv minEv extractEv convEv funcEv allBox bound sliceEv lookupEv TD.isBool allocEv boxEv storeEv spl plainTD appendEv appendArgs makeMapEv mapUpdateEv buildEv buildSliceEv fillSV zsvOf sizeTD Ty.parses parses_flats' coeA flats_length AV.good AV.cells AV.pure SV.pure av_int av_bool av_str av_slice av_cons av_fld0 av_fld1 av_fld2 av_fld3 av_fld4 Ty.of Ty.dflt Ty.parse Ty.flat Ty.zsv Ty.fld Ty.get Ty.off Ty.nfld Ty.size coeTy junk Blk.look argEnv resEv resOk resVs oneRV retOk frzAs frzAV frzL frzSV boxCaps boxCap SV.sig sigs RV.scalar AV.scalar SV.scalar nope effVCD_eq effOf SV.ids AV.ids dedup SV.ren AV.ren RV.ren idx outId mergeB Blk.pureB flats_pure flat_pure epsSlotsD_nil epsSlotsD_cons epsSlotD_eq allEp D.parts_fnOf fvParts retEff round_E av_fn G.ye isCutD_nil isCutD_cons firstReg_region firstReg_seq firstReg_skip firstReg_ret firstReg_label firstReg_exit firstReg_goto firstReg_cond firstReg_block firstReg_scope firstReg_loop firstReg_rf eptrOf_mk flOfD_nil flOfD_cons vcFlD_cons vcFlD_nil flPairs_nil flPairs_cons vcFrD_nil vcFrD_cons makeSliceEv vcCondD_ib fzEv unfl_flats isFz round_fz panVCD_eq panOf isShift strIdxEv ifaceEv nilChkEv sliceAnyEv sliceOwnEv sliceSufEv appendEv0 appendEv1 Ty.beq Ty.isAgg round_Pn vcDefD_seqR vcDefD_seqS vcDefD_seqC vcDefD_seqB vcDefD_seqL vcDefD_seqF vcDefD_seqSc vcDefD_region vcDefD_ret vcDefD_cond vcDefD_block vcDefD_loop thenKD_panic inBlockKD_panic noGotoKD_panic exitOk_normal exitOk_ret exitOk_panic exitOk_exit runDefs_none runDefs_some runDefs_cons defRegD isDefer defOf caughtCon unfl_cons D.bpart_bndOf D.parts_bndOf AV.sig
attribute [local simp ←] flats_append
theorem flats_drop' {t : Ty} : ∀ (j : Nat) (xs : List t.T), (t.flats xs).drop (j * t.size) = t.flats (xs.drop j)
 | 0, xs => by rw [Nat.zero_mul]; rfl
 | j + 1, [] => by simp only [Ty.flats, List.drop_nil]
 | j + 1, x :: xs => by
  rw [show (j + 1) * t.size = (t.flat x).length + j * t.size by rw [flat_length, Nat.succ_mul]; omega]
  show (t.flat x ++ t.flats xs).drop _ = t.flats (xs.drop j)
  rw [List.drop_length_add_append, flats_drop' j xs]
theorem flats_take' {t : Ty} : ∀ (j : Nat) (xs : List t.T), (t.flats xs).take (j * t.size) = t.flats (xs.take j)
 | 0, xs => by rw [Nat.zero_mul]; rfl
 | j + 1, [] => by simp only [Ty.flats, List.take_nil]
 | j + 1, x :: xs => by
  rw [show (j + 1) * t.size = (t.flat x).length + j * t.size by rw [flat_length, Nat.succ_mul]; omega]
  show (t.flat x ++ t.flats xs).take _ = t.flat x ++ t.flats (xs.take j)
  rw [List.take_length_add_append, flats_take' j xs]
theorem fK_at {xs : List tKd.T} {j : Nat} (h : j < xs.length) : List.take 10 (List.drop (j * 10) (tKd.flats xs)) = tKd.flat (xs[j]) := by
 have h1 := flats_drop' (t := tKd) j xs
 rw [show tKd.size = 10 from rfl] at h1
 rw [h1, List.drop_eq_getElem_cons h]
 show List.take 10 (tKd.flat xs[j] ++ tKd.flats (xs.drop (j + 1))) = _
 exact List.take_left' (flat_length tKd _)
theorem fK_set {xs : List tKd.T} {j : Nat} (h : j < xs.length) (v : tKd.T) : List.take (j * 10) (tKd.flats xs) ++ (tKd.flat v ++ List.drop (j * 10 + 10) (tKd.flats xs)) = tKd.flats (xs.set j v) := by
 have h1 := flats_drop' (t := tKd) (j + 1) xs
 have h2 := flats_take' (t := tKd) j xs
 rw [show tKd.size = 10 from rfl] at h1 h2
 rw [show j * 10 + 10 = (j + 1) * 10 by omega, h1, h2, List.set_eq_take_append_cons_drop, if_pos h, flats_append]
 rfl
theorem fK_put {xs : List tKd.T} {j : Nat} (h : j < xs.length) (v : tKd.T) : List.take (j * 10) (tKd.flats xs) ++ SV.int .i64 v.1 :: SV.bool v.2.1.1.1 :: SV.sl tI v.2.1.1.2.1 false :: SV.bool v.2.1.2.1.1 :: SV.sl tI v.2.1.2.1.2.1 false :: SV.sl tRat v.2.2.1 false :: SV.sl tRat v.2.2.2.1 false :: SV.int .i64 v.2.2.2.2.1 :: SV.int .i64 v.2.2.2.2.2.1 :: SV.int .i64 v.2.2.2.2.2.2.1 :: List.drop (j * 10 + 10) (tKd.flats xs) = tKd.flats (xs.set j v) := fK_set h v
noncomputable def conSOrder : Con := ⟨fun args => (match args with
 | [.s (.sl (.cons (.int .i64) (.cons .str (.cons (.int .i64) .nil))) ks _), .s (.sl (.cons (.int .i64) (.cons (.cons (.cons .bool (.cons (.slice (.int .i64)) .nil)) (.cons (.cons .bool (.cons (.slice (.int .i64)) .nil)) .nil)) (.cons (.slice (.cons (.cons .bool (.cons (.slice (.int .i64)) .nil)) (.cons (.cons .bool (.cons (.slice (.int .i64)) .nil)) .nil))) (.cons (.slice (.cons (.cons .bool (.cons (.slice (.int .i64)) .nil)) (.cons (.cons .bool (.cons (.slice (.int .i64)) .nil)) .nil))) (.cons (.int .i64) (.cons (.int .i64) (.cons (.int .i64) .nil))))))) l _), .s (.sl (.int .u8) ord _)] => ∀ x ∈ ord, 0 ≤ x ∧ x ≤ 255
 | _ => False), fun args => match args with
 | [.s (.sl (.cons (.int .i64) (.cons .str (.cons (.int .i64) .nil))) ks _), .s (.sl (.cons (.int .i64) (.cons (.cons (.cons .bool (.cons (.slice (.int .i64)) .nil)) (.cons (.cons .bool (.cons (.slice (.int .i64)) .nil)) .nil)) (.cons (.slice (.cons (.cons .bool (.cons (.slice (.int .i64)) .nil)) (.cons (.cons .bool (.cons (.slice (.int .i64)) .nil)) .nil))) (.cons (.slice (.cons (.cons .bool (.cons (.slice (.int .i64)) .nil)) (.cons (.cons .bool (.cons (.slice (.int .i64)) .nil)) .nil))) (.cons (.int .i64) (.cons (.int .i64) (.cons (.int .i64) .nil))))))) l _), .s (.sl (.int .u8) ord _)] => .v (aB true)
 | _ => .v (.s .any)⟩
theorem conSOrder_eq (ks : List (Ty.T tKey)) (exks : Bool) (l : List (Ty.T tKd)) (exl : Bool) (ord : List (Ty.T (.int .u8))) (exord : Bool) : conSOrder.pre [.s (.sl tKey ks exks), .s (.sl tKd l exl), .s (.sl (.int .u8) ord exord)] = (∀ x ∈ ord, 0 ≤ x ∧ x ≤ 255) ∧ conSOrder.val [.s (.sl tKey ks exks), .s (.sl tKd l exl), .s (.sl (.int .u8) ord exord)] = .v (aB true) := ⟨rfl, rfl⟩
theorem sorder_ok : PureOk Tryz.prog 7 conSOrder := by
 refine pureOkD (L := { live := [0, 1, 2, 6, 7, 8, 9, 10, 11, 12, 13, 15, 24, 37], frz := [(11, [7])], fl := [(10, [(6, 0), (7, 0), (10, 0), (11, 0), (12, 0), (14, 14)])] }) lws_good rfl nr_mixed Tryz.func7 rfl conSOrder 3 (by decide) (by kernel_rfl) ?_
 intro args hpre hlens
 simp only [conSOrder] at hpre
 split at hpre
 case h_2 => exact hpre.elim
 rename_i ks ek l el ord eo
 simp only [allLen, AV.lenOk, SV.lenOk, Ty.lenOk, maxLen, and_true, implies_true, true_and, List.forall_mem_cons, List.not_mem_nil, false_implies] at hlens
 refine ⟨rfl, ?_⟩
 simp -dsimp -implicitDefEqProofs [Tryz.f7, conSOrder_eq, -Prod.forall, -Bool.forall_bool, -Prod.exists, -Bool.exists_bool, lws_all, lwT, lwsΓ, lwsE, lwsP, lwfΓ, lwfE, lwfP, lw1Γ, lw1E, lw1P, lw0Γ, lw0E, lw0P, conTCmp_eq, Pl.conCompare_eq, conFew21_eq, conFewO_eq, conRank_eq, conFewR_eq, conSane23_pre, conSane23_val, conScored_eq, conSameP_eq, conRInt_eq, conByScore_eq, conByPlaces_eq, conCheck_eq, inI64]
 intro hf h20
 obtain ⟨k40, l12⟩ := few_len hf
 have hmx : 10000 ≤ maxLen := by simp only [maxLen]; omega
 refine ⟨⟨by omega, by omega⟩, ?_⟩
 refine WpD.loop (L := { live := [0, 1, 2, 6, 7, 8, 9, 10, 11, 12, 13, 15, 24, 37], frz := [(11, [7])], fl := [(10, [(6, 0), (7, 0), (10, 0), (11, 0), (12, 0), (14, 14)])] }) lws_good X0_ok nr_mixed (by kernel_rfl)
  (fun p : Nat × List tKd.T => ⟨[(0, vS tKey ks ek), (1, vS tKd l el), (2, vS (.int .u8) ord eo), (6, vB false), (7, ⟨true, .v (.s (.own tKd 0 l.length))⟩), (8, vI p.1)], [.arr (!l.isEmpty) (tKd.flats p.2)]⟩)
  (fun p => p.1 ≤ 1000 ∧ p.2.Perm l) (fun p => ord.length - p.1) (0, l) ⟨by omega, .refl _⟩ (Turn.le (by simp -dsimp -implicitDefEqProofs)) ?_
 rintro ⟨i, xs⟩ ⟨hi, hp⟩
 simp only at hi hp
 have hxl := hp.length_eq
 by_cases hin : i < ord.length ∧ i < l.length
 ·
  obtain ⟨hio, hil⟩ := hin
  have hne : l.isEmpty = false := by cases l with | nil => simp at hil | cons x r => rfl
  have hb := hpre _ (List.getElem_mem hio)
  have hw := wrap_u8s hb.1 hb.2
  have hsb : (l.length : Int) - i = ((l.length - i : Nat) : Int) := by omega
  obtain ⟨r, hr⟩ : ∃ r : Nat, (ord[i] : Int).tmod ((l.length : Int) - i) = r := ⟨((ord[i] : Int).tmod ((l.length : Int) - i)).toNat, by have := Int.tmod_nonneg ((l.length : Int) - i) hb.1; omega⟩
  have hrl : i + r < l.length := by have := Int.tmod_lt_of_pos (ord[i] : Int) (show 0 < (l.length : Int) - i by omega); omega
  have e1 : ((i : Int) + (r : Int)).toNat = i + r := by omega
  have f1 := fK_at (xs := xs) (j := i) (by omega)
  have f2 := fK_at (xs := xs) (j := i + r) (by omega)
  simp -dsimp -implicitDefEqProofs [hio, hil, hne, hw, hr, e1, f1, f2, -Prod.forall, -Bool.forall_bool, -Prod.exists, -Bool.exists_bool, lws_all, lwT, lwsΓ, lwsE, lwsP, lwfΓ, lwfE, lwfP, lw1Γ, lw1E, lw1P, lw0Γ, lw0E, lw0P, conTCmp_eq, Pl.conCompare_eq, conFew21_eq, conFewO_eq, conRank_eq, conFewR_eq, conSane23_pre, conSane23_val, conScored_eq, conSameP_eq, conRInt_eq, conByScore_eq, conByPlaces_eq, conCheck_eq, inI64]
  have hxi : i < xs.length := by omega
  have hxr : i + r < xs.length := by omega
  have hsl : (xs.set i xs[i + r]).length = xs.length := List.length_set
  refine ⟨by omega, ⟨by omega, by omega⟩, by omega, ⟨by omega, by omega⟩, ⟨⟨by omega, by omega, by omega⟩, ⟨by omega, by omega⟩, by omega, ⟨by omega, by omega⟩, by omega, ⟨by omega, by omega⟩, ⟨by omega, by omega, by omega⟩, ⟨by omega, by omega⟩, ⟨by omega, by omega⟩, (i + 1, (xs.set i xs[i + r]).set (i + r) xs[i]), ⟨by show i + 1 ≤ 1000; omega, ?_⟩, by show ord.length - (i + 1) < ord.length - i; omega, ?_⟩, ⟨by omega, by omega, by omega⟩, ⟨by omega, by omega⟩, by omega, ⟨by omega, by omega⟩, by omega, by omega, by omega, by omega⟩
  ·
   exact (List.set_set_perm hxi hxr).trans hp
  ·
   rw [fK_put hxi, fK_put (xs := xs.set i xs[i + r]) (j := i + r) (by omega)]
   simp only [hne, Bool.not_false]
   exact TurnT.le (by simp -dsimp -implicitDefEqProofs)
 ·
  have hend : ∃ xs_1, tKd.flats xs = tKd.flats xs_1 ∧ l.length = xs_1.length ∧ (ks.length ≤ 10000 ∧ l.length ≤ 19) ∧ (ks.length ≤ 10000 ∧ xs_1.length ≤ 19) ∧ chkS ks l = chkS ks xs_1 ∧ scoreL ks l = scoreL ks xs_1 :=
   ⟨xs, rfl, hxl.symm, ⟨by omega, by omega⟩, ⟨by omega, by omega⟩, chkS_perm hp.symm, score_perm (show ks.length ≤ 10000 by omega) hp.symm⟩
  by_cases hio : i < ord.length
  ·
   have hil : ¬ i < l.length := fun h => hin ⟨hio, h⟩
   simp -dsimp -implicitDefEqProofs [hio, hil, conSOrder_eq, -Prod.forall, -Bool.forall_bool, -Prod.exists, -Bool.exists_bool, lws_all, lwT, lwsΓ, lwsE, lwsP, lwfΓ, lwfE, lwfP, lw1Γ, lw1E, lw1P, lw0Γ, lw0E, lw0P, conTCmp_eq, Pl.conCompare_eq, conFew21_eq, conFewO_eq, conRank_eq, conFewR_eq, conSane23_pre, conSane23_val, conScored_eq, conSameP_eq, conRInt_eq, conByScore_eq, conByPlaces_eq, conCheck_eq, inI64]
   exact ⟨by omega, hend⟩
  ·
   simp -dsimp -implicitDefEqProofs [hio, conSOrder_eq, -Prod.forall, -Bool.forall_bool, -Prod.exists, -Bool.exists_bool, lws_all, lwT, lwsΓ, lwsE, lwsP, lwfΓ, lwfE, lwfP, lw1Γ, lw1E, lw1P, lw0Γ, lw0E, lw0P, conTCmp_eq, Pl.conCompare_eq, conFew21_eq, conFewO_eq, conRank_eq, conFewR_eq, conSane23_pre, conSane23_val, conScored_eq, conSameP_eq, conRInt_eq, conByScore_eq, conByPlaces_eq, conCheck_eq, inI64]
   exact hend
noncomputable def conSOrderW : Con := ⟨fun args => ∃ (ks : List tKey.T) (l : List tKd.T) (ord : List Int), (∀ x ∈ ord, 0 ≤ x ∧ x ≤ 255) ∧ args = [.s (.sl tKey ks false), .s (.sl tKd l false), .s (.sl (.int .u8) ord false)], fun _ => .v (aB true)⟩
theorem sorder_okW : PureOk Tryz.prog 7 conSOrderW := by
 refine PureOk.of fun args hpre => ?_
 obtain ⟨ks, l, ord, h, rfl⟩ := hpre
 exact ⟨conSOrder, sorder_ok, h, rfl⟩
end Go.Am
