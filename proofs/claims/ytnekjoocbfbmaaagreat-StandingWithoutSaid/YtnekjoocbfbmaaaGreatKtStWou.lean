/- The last part of the proof's base. -/
import Derived.Test.YtnekjoocbfbmaaaGreatK11
set_option linter.all false
namespace Go.Am
set_option maxHeartbeats 4000000
set_option maxRecDepth 20000
open Go.RowKit Go.Proofs
attribute [local simp] thenKD_normal thenKD_exit thenKD_goto thenKD_ret inBlockKD_normal inBlockKD_exit inBlockKD_goto inBlockKD_ret noGotoKD_normal noGotoKD_exit noGotoKD_goto noGotoKD_ret roundKD_normal roundKD_exit roundKD_goto roundKD_ret frzSlotsD_nil frzSlotsD_cons frzSlotD_eq yieldVCD_trace opVCD_eq vcOpsD_nil vcOpsD_cons vcAllD_zero vcAllD_succ allAtD_nil allAtD_cons readyAux edgA vcD_skip vcD_label vcD_exit vcD_goto vcD_ret vcD_region vcD_seq vcD_seqC vcD_cond vcCondD_bool vcD_block vcD_scope vcD_loop vcD_rangeFunc yieldOf isMem isMem0 keepE envLe St.le psE yieldAV round_td round_y round_Γ vI vB vS aI aB aS look getE oper opRV putE allOk okOps Op.operands Call.operands pEv qEv mEv constRV coe RV.av loadEv loadCs takeAt indexAddrEv fieldAddrEv binEv intEv arith unEv gcond pickEv argsEv callVal callEv capAV_mk lenArgs lenEv minEv extractEv convEv funcEv allBox bound sliceEv lookupEv TD.isBool allocEv boxEv storeEv spl plainTD appendEv appendArgs makeMapEv mapUpdateEv buildEv buildSliceEv fillSV zsvOf sizeTD Ty.parses parses_flats' coeA flats_length AV.good AV.cells AV.pure SV.pure av_int av_bool av_str av_slice av_cons av_fld0 av_fld1 av_fld2 av_fld3 av_fld4 Ty.of Ty.dflt Ty.parse Ty.flat Ty.zsv Ty.fld Ty.get Ty.off Ty.nfld Ty.size coeTy junk Blk.look argEnv resEv resOk resVs oneRV retOk frzAs frzAV frzL frzSV boxCaps boxCap SV.sig sigs RV.scalar AV.scalar SV.scalar nope effVCD_eq effOf SV.ids AV.ids dedup SV.ren AV.ren RV.ren idx outId mergeB Blk.pureB flats_pure flat_pure epsSlotsD_nil epsSlotsD_cons epsSlotD_eq allEp D.parts_fnOf fvParts retEff round_E av_fn G.ye isCutD_nil isCutD_cons firstReg_region firstReg_seq firstReg_skip firstReg_ret firstReg_label firstReg_exit firstReg_goto firstReg_cond firstReg_block firstReg_scope firstReg_loop firstReg_rf eptrOf_mk flOfD_nil flOfD_cons vcFlD_cons vcFlD_nil flPairs_nil flPairs_cons vcFrD_nil vcFrD_cons makeSliceEv vcCondD_ib fzEv unfl_flats isFz round_fz panVCD_eq panOf isShift strIdxEv ifaceEv nilChkEv sliceAnyEv sliceOwnEv sliceSufEv appendEv0 appendEv1 Ty.beq Ty.isAgg round_Pn vcDefD_seqR vcDefD_seqS vcDefD_seqC vcDefD_seqB vcDefD_seqL vcDefD_seqF vcDefD_seqSc vcDefD_region vcDefD_ret vcDefD_cond vcDefD_block vcDefD_loop thenKD_panic inBlockKD_panic noGotoKD_panic exitOk_normal exitOk_ret exitOk_panic exitOk_exit runDefs_none runDefs_some runDefs_cons defRegD isDefer defOf caughtCon unfl_cons D.bpart_bndOf D.parts_bndOf AV.sig
attribute [local simp ←] flats_append
def nOf (c i : Nat) : Nat := if i ≤ c then i else i - 1
theorem nOf_succ {c i : Nat} (h : i ≠ c) : nOf c (i + 1) = nOf c i + 1 := by unfold nOf; split <;> split <;> omega
theorem nOf_at (c : Nat) : nOf c (c + 1) = nOf c c := by unfold nOf; split <;> split <;> omega
theorem wout {ks : List tKey.T} {l es es' : List tKd.T} {k c : Nat} (h : chkS ks l = 0) (h1 : SrtE ks l es) (h2 : SrtE ks (outAt l k) es') (hc : c < es.length) (he : es' = outAt es c) {i : Nat} (hi : i < es.length) (hic : i ≠ c) :
  nOf c i < es'.length ∧ es'[nOf c i]?.getD dK = es[i]?.getD dK ∧ (0 < nOf c i → (rkE (tC ks) dK es' (nOf c i) = rkE (tC ks) dK es' (nOf c i - 1) ↔ rankOf (plE ks es) (es'[nOf c i - 1]?.getD dK).1 = rkE (tC ks) dK es i)) := by
 have hl : es'.length = es.length - 1 := by rw [he, outAt_len hc]
 have hn : nOf c i < es'.length := by unfold nOf; split <;> omega
 have g1 : es'[nOf c i]?.getD dK = es[i]?.getD dK := by
  rw [he, outAt_get hc]
  congr 1
  unfold nOf
  split
  ·
   rw [if_pos (by omega)]
  ·
   rw [if_neg (by omega)]; congr 1; omega
 refine ⟨hn, g1, fun h0 => ?_⟩
 obtain ⟨j, hj, gj⟩ : ∃ j, j < es.length ∧ es'[nOf c i - 1]?.getD dK = es[j]?.getD dK := by
  by_cases q : nOf c i - 1 < c
  ·
   exact ⟨nOf c i - 1, by omega, by rw [he, outAt_get hc, if_pos q]⟩
  ·
   exact ⟨nOf c i - 1 + 1, by omega, by rw [he, outAt_get hc, if_neg q]⟩
 have hnd : (ens es).Nodup := (ens_perm h1.perm).nodup_iff.2 (chk_ordr h).2
 have hs := h2.same (chkS_sub h (outAt_sub l k)) hn (show nOf c i - 1 < es'.length by omega)
 rw [hs, gj, g1, rankOf_plE hnd hj, h1.same h hj hi]
 have ha := (chk_ordr h).1.anti _ _ (h1.perm.mem_iff.1 (getD_mem (d := dK) hi)) (h1.perm.mem_iff.1 (getD_mem (d := dK) hj))
 omega
structure WoutF (p q : List tPlc.T) (e : Int) (c : Nat) : Prop where
 c' : c < p.length
 len : q.length = p.length - 1
 at' : ∀ i (h : i < p.length), p[i].1 = e ↔ i = c
 lt : ∀ i, i < p.length → i ≠ c → nOf c i < q.length
 en : ∀ i (h : i < p.length) (hn : nOf c i < q.length), i ≠ c → q[nOf c i].1 = p[i].1
 rk : ∀ i (h : i < p.length) (hn : nOf c i < q.length) (hm : nOf c i - 1 < q.length), i ≠ c → 0 < nOf c i → (q[nOf c i].2.1 == q[nOf c i - 1].2.1) = (rankOf p q[nOf c i - 1].1 == p[i].2.1)
theorem woutF {ks : List tKey.T} {l : List tKd.T} {k : Nat} (hk : ks.length ≤ 40) (h : chkS ks l = 0) (hkl : k < l.length) : chkS ks (outAt l k) = 0 ∧ ∃ c, WoutF (scoreL ks l) (scoreL ks (outAt l k)) l[k].1 c := by
 have h' := chkS_sub h (outAt_sub l k)
 refine ⟨h', ?_⟩
 obtain ⟨es, e1, e2⟩ := score_srt (show ks.length ≤ 10000 by omega) h
 obtain ⟨es', f1, f2⟩ := score_srt (show ks.length ≤ 10000 by omega) h'
 obtain ⟨c, hc, g1, g2⟩ := srt_out h hkl e1 f1
 have hl : es'.length = es.length - 1 := by rw [g2, outAt_len hc]
 rw [e2, f2]
 have hw := fun {i : Nat} (hi : i < es.length) (hic : i ≠ c) => wout h e1 f1 hc g2 hi hic
 have hnd : (ens es).Nodup := (ens_perm e1.perm).nodup_iff.2 (chk_ordr h).2
 refine ⟨c, by rw [plE_len]; exact hc, by rw [plE_len, plE_len]; exact hl, fun i hi => ?_, fun i hi hic => ?_, fun i hi hn hic => ?_, fun i hi hn hm hic h0 => ?_⟩
 ·
  rw [plE_at hi, ← g1]
  rw [plE_len] at hi
  show (es[i]?.getD dK).1 = es[c].1 ↔ i = c
  rw [getD_lt hi]
  constructor
  ·
   intro q
   have := (List.getElem_inj (h₀ := by simpa [ens] using hi) (h₁ := by simpa [ens] using hc) hnd).1 (by simpa [ens] using q)
   exact this
  ·
   rintro rfl; rfl
 ·
  rw [plE_len] at hi ⊢
  exact (hw hi hic).1
 ·
  rw [plE_at hn, plE_at hi]
  rw [plE_len] at hi
  show (es'[nOf c i]?.getD dK).1 = (es[i]?.getD dK).1
  rw [(hw hi hic).2.1]
 ·
  rw [plE_at hn, plE_at hi, plE_at hm]
  rw [plE_len] at hi
  rw [Bool.eq_iff_iff, beq_iff_eq, beq_iff_eq]
  exact (hw hi hic).2.2 h0
noncomputable def lwWΓ : List (FuncId × Con) := lwsΓ
theorem lwWΓ_ok : ∀ p ∈ lwWΓ, (∀ (args : Array Value) (w : World), (callFunc p.1 args).run Tryz.prog w = .ok (.enter p.1 args) w) ∧ PureOk Tryz.prog p.1 p.2 := by
 simp only [lwWΓ]
 exact lwsΓ_ok
noncomputable def lwWE : List (FuncId × ECon) := lwsE
theorem lwWE_ok : ∀ p ∈ lwWE, (∀ (args : Array Value) (w : World), (callFunc p.1 args).run Tryz.prog w = .ok (.enter p.1 args) w) ∧ EffOk Tryz.prog p.1 p.2 := by
 simp only [lwWE]
 exact lwsE_ok
noncomputable def lwWP : List (FuncId × PCon) := lwsP
theorem lwWP_ok : ∀ p ∈ lwWP, (∀ (args : Array Value) (w : World), (callFunc p.1 args).run Tryz.prog w = .ok (.enter p.1 args) w) ∧ PanOk Tryz.prog p.1 p.2 := by
 simp only [lwWP]
 exact lwsP_ok
noncomputable def lwW : G := { τ := lwT, Γ := lwWΓ, E := lwWE, Pn := lwWP, fz := [42] }
theorem lwW_good : lwW.good Tryz.prog := good_of_all (lwT_ok _ rfl) lwWΓ_ok lwWE_ok lwWP_ok
theorem lwW_all : (∀ t, lwW.td t = (look lwT t).getD .other) ∧ lwW.y = false ∧ lwW.Γ = lwWΓ ∧ lwW.E = lwWE ∧ lwW.Pn = lwWP ∧ lwW.fz = [42] := ⟨fun _ => rfl, rfl, rfl, rfl, rfl, rfl⟩
noncomputable def conSWout : Con := ⟨fun args => (match args with
 | [.s (.sl (.cons (.int .i64) (.cons .str (.cons (.int .i64) .nil))) ks _), .s (.sl (.cons (.int .i64) (.cons (.cons (.cons .bool (.cons (.slice (.int .i64)) .nil)) (.cons (.cons .bool (.cons (.slice (.int .i64)) .nil)) .nil)) (.cons (.slice (.cons (.cons .bool (.cons (.slice (.int .i64)) .nil)) (.cons (.cons .bool (.cons (.slice (.int .i64)) .nil)) .nil))) (.cons (.slice (.cons (.cons .bool (.cons (.slice (.int .i64)) .nil)) (.cons (.cons .bool (.cons (.slice (.int .i64)) .nil)) .nil))) (.cons (.int .i64) (.cons (.int .i64) (.cons (.int .i64) .nil))))))) l _), .s (.int .u8 a)] => 0 ≤ a ∧ a ≤ 255
 | _ => False), fun args => match args with
 | [.s (.sl (.cons (.int .i64) (.cons .str (.cons (.int .i64) .nil))) ks _), .s (.sl (.cons (.int .i64) (.cons (.cons (.cons .bool (.cons (.slice (.int .i64)) .nil)) (.cons (.cons .bool (.cons (.slice (.int .i64)) .nil)) .nil)) (.cons (.slice (.cons (.cons .bool (.cons (.slice (.int .i64)) .nil)) (.cons (.cons .bool (.cons (.slice (.int .i64)) .nil)) .nil))) (.cons (.slice (.cons (.cons .bool (.cons (.slice (.int .i64)) .nil)) (.cons (.cons .bool (.cons (.slice (.int .i64)) .nil)) .nil))) (.cons (.int .i64) (.cons (.int .i64) (.cons (.int .i64) .nil))))))) l _), .s (.int _ a)] => .v (aB true)
 | _ => .v (.s .any)⟩
theorem conSWout_eq (ks : List (Ty.T tKey)) (exks : Bool) (l : List (Ty.T tKd)) (exl : Bool) (a : Int) : conSWout.pre [.s (.sl tKey ks exks), .s (.sl tKd l exl), .s (.int .u8 a)] = (0 ≤ a ∧ a ≤ 255) ∧ conSWout.val [.s (.sl tKey ks exks), .s (.sl tKd l exl), .s (.int .u8 a)] = .v (aB true) := ⟨rfl, rfl⟩
theorem swout_ok : PureOk Tryz.prog 8 conSWout := by
 refine pureOkD (L := { live := [0, 1, 2, 6, 7, 8, 9, 10, 11, 12, 13, 15, 24, 52, 69, 73, 86, 103, 134], fl := [(7, [(4, 0), (9, 0), (9, 6)])] }) lwW_good rfl nr_mixed Tryz.func8 rfl conSWout 3 (by decide) (by kernel_rfl) ?_
 intro args hpre hlens
 simp only [conSWout] at hpre
 split at hpre
 case h_2 => exact hpre.elim
 rename_i ks ek l el a
 simp only [allLen, AV.lenOk, SV.lenOk, Ty.lenOk, maxLen, and_true, implies_true, true_and, List.forall_mem_cons, List.not_mem_nil, false_implies] at hlens
 have hw := wrap_u8s hpre.1 hpre.2; obtain ⟨k, hk⟩ : ∃ k : Nat, a.tmod (List.length l : Int) = k := ⟨(a.tmod (List.length l : Int)).toNat, by have := Int.tmod_nonneg (List.length l : Int) hpre.1; omega⟩; have e1 : ((k : Int) + 1).toNat = k + 1 := by omega
 refine ⟨rfl, ?_⟩
 simp -dsimp -implicitDefEqProofs [Tryz.f8, conSWout_eq, hw, hk, e1, -Prod.forall, -Bool.forall_bool, -Prod.exists, -Bool.exists_bool, lwW_all, lwT, lwWΓ, lwWE, lwWP, lwsΓ, lwsE, lwsP, lwfΓ, lwfE, lwfP, lw1Γ, lw1E, lw1P, lw0Γ, lw0E, lw0P, conTCmp_eq, Pl.conCompare_eq, conFew21_eq, conFewO_eq, conRank_eq, conFewR_eq, conSane23_pre, conSane23_val, conScored_eq, conSameP_eq, conRInt_eq, conByScore_eq, conByPlaces_eq, conCheck_eq, inI64]
 intro hf hl
 obtain ⟨k40, l12⟩ := few_len hf
 have hl0 : 0 < l.length := List.length_pos_iff.2 hl
 have hkl : k < l.length := by have := Int.tmod_lt_of_pos a (show 0 < (List.length l : Int) by omega); omega
 have hmx : 10000 ≤ maxLen := by simp only [maxLen]; omega
 refine ⟨hl, ⟨by omega, by omega⟩, ⟨by omega, ⟨by omega, by omega⟩, ⟨by omega, by omega⟩, ⟨by omega, by omega⟩, ⟨by omega, by omega⟩, ⟨by omega, by omega⟩, fun h => ?_⟩, by omega, by omega, by omega⟩
 have hou : List.take k l ++ List.drop (k + 1) l = outAt l k := rfl
 rw [hou]
 obtain ⟨h', c, hW⟩ := woutF k40 h hkl
 have lp := scoreL_len h
 have lq := scoreL_len h'
 rw [outAt_len hkl] at lq
 refine ⟨fun _ => ⟨h', by omega, by omega⟩, ⟨⟨h', by omega⟩, by omega⟩, fun _ _ _ => ?_⟩
 generalize scoreL ks l = p at *
 generalize scoreL ks (outAt l k) = q at *
 obtain ⟨w1, w2, w3, w4, w5, w6⟩ := hW
 refine WpD.loop (L := { live := [0, 1, 2, 6, 7, 8, 9, 10, 11, 12, 13, 15, 24, 52, 69, 73, 86, 103, 134], fl := [(7, [(4, 0), (9, 0), (9, 6)])] }) lwW_good X0_ok nr_mixed (by kernel_rfl)
  (fun i : Nat => ⟨[(1, vS tKd l el), (6, vB false), (7, vI k), (8, vS tPlc p false), (10, vS tPlc q false), (12, vI (nOf c i)), (13, vI i)], [.dead]⟩)
  (fun i => i ≤ p.length) (fun i => p.length - i) 0 (Nat.zero_le _) (Turn.le (by simp -dsimp -implicitDefEqProofs [nOf])) ?_
 intro i hi
 rcases Nat.lt_or_ge i p.length with hil | hge
 ·
  have hat := w3 i hil
  by_cases hic : i = c
  ·
   have e2 := nOf_at c
   subst hic
   have he : p[i].1 = l[k].1 := hat.2 rfl
   simp -dsimp -implicitDefEqProofs [hil, hkl, he, -Prod.forall, -Bool.forall_bool, -Prod.exists, -Bool.exists_bool, lwW_all, lwT, lwWΓ, lwWE, lwWP, lwsΓ, lwsE, lwsP, lwfΓ, lwfE, lwfP, lw1Γ, lw1E, lw1P, lw0Γ, lw0E, lw0P, conTCmp_eq, Pl.conCompare_eq, conFew21_eq, conFewO_eq, conRank_eq, conFewR_eq, conSane23_pre, conSane23_val, conScored_eq, conSameP_eq, conRInt_eq, conByScore_eq, conByPlaces_eq, conCheck_eq, inI64]
   refine ⟨⟨by omega, by omega⟩, i + 1, by omega, by omega, ?_⟩
   rw [e2]
   exact TurnT.le (by simp -dsimp -implicitDefEqProofs)
  ·
   have hne : ¬ p[i].1 = l[k].1 := fun q => hic (hat.1 q)
   have hn := w4 i hil hic
   have e3 := w5 i hil hn hic
   have e2 := nOf_succ hic
   have hnb : nOf c i ≤ 100 := by omega
   rcases Nat.eq_zero_or_pos (nOf c i) with hz | hp
   ·
    simp only [hz] at e3 e2 hn ⊢
    simp -dsimp -implicitDefEqProofs [hil, hkl, hne, hn, e3, -Prod.forall, -Bool.forall_bool, -Prod.exists, -Bool.exists_bool, lwW_all, lwT, lwWΓ, lwWE, lwWP, lwsΓ, lwsE, lwsP, lwfΓ, lwfE, lwfP, lw1Γ, lw1E, lw1P, lw0Γ, lw0E, lw0P, conTCmp_eq, Pl.conCompare_eq, conFew21_eq, conFewO_eq, conRank_eq, conFewR_eq, conSane23_pre, conSane23_val, conScored_eq, conSameP_eq, conRInt_eq, conByScore_eq, conByPlaces_eq, conCheck_eq, inI64]
    refine ⟨fun h => by subst h; simp at hn, fun _ => ⟨⟨by omega, by omega⟩, i + 1, by omega, by omega, ?_⟩⟩
    rw [e2]
    exact TurnT.le (by simp -dsimp -implicitDefEqProofs)
   ·
    obtain ⟨j, hj⟩ : ∃ j, nOf c i = j + 1 := ⟨nOf c i - 1, by omega⟩
    have e4 := w6 i hil hn (by omega) hic hp
    simp only [hj, Nat.add_sub_cancel] at e2 e3 e4 hn hnb ⊢
    have hjq : j < q.length := by omega
    have e5 : ((j + 1 : Nat) : Int) - 1 = j := by omega
    simp -dsimp -implicitDefEqProofs [hil, hkl, hne, hn, hjq, e3, e4, e5, -Prod.forall, -Bool.forall_bool, -Prod.exists, -Bool.exists_bool, lwW_all, lwT, lwWΓ, lwWE, lwWP, lwsΓ, lwsE, lwsP, lwfΓ, lwfE, lwfP, lw1Γ, lw1E, lw1P, lw0Γ, lw0E, lw0P, conTCmp_eq, Pl.conCompare_eq, conFew21_eq, conFewO_eq, conRank_eq, conFewR_eq, conSane23_pre, conSane23_val, conScored_eq, conSameP_eq, conRInt_eq, conByScore_eq, conByPlaces_eq, conCheck_eq, inI64]
    refine ⟨fun h => ⟨h, by omega, h⟩, fun h => absurd h (by omega), fun _ => ⟨⟨by omega, by omega⟩, by omega, ⟨by omega, by omega⟩, ⟨by omega, by omega⟩, i + 1, by omega, by omega, ?_⟩⟩
    rw [e2]
    exact TurnT.le (by simp -dsimp -implicitDefEqProofs)
 ·
  obtain rfl : i = p.length := by omega
  have hn : ¬ p.length < p.length := by omega
  have e2 : nOf c p.length = q.length := by unfold nOf; rw [if_neg (by omega)]; omega
  rw [e2]
  simp -dsimp -implicitDefEqProofs [hn, conSWout_eq, -Prod.forall, -Bool.forall_bool, -Prod.exists, -Bool.exists_bool, lwW_all, lwT, lwWΓ, lwWE, lwWP, lwsΓ, lwsE, lwsP, lwfΓ, lwfE, lwfP, lw1Γ, lw1E, lw1P, lw0Γ, lw0E, lw0P, conTCmp_eq, Pl.conCompare_eq, conFew21_eq, conFewO_eq, conRank_eq, conFewR_eq, conSane23_pre, conSane23_val, conScored_eq, conSameP_eq, conRInt_eq, conByScore_eq, conByPlaces_eq, conCheck_eq, inI64]
noncomputable def conSWoutW : Con := ⟨fun args => ∃ (ks : List tKey.T) (l : List tKd.T) (a : Int), (0 ≤ a ∧ a ≤ 255) ∧ args = [.s (.sl tKey ks false), .s (.sl tKd l false), .s (.int .u8 a)], fun _ => .v (aB true)⟩
theorem swout_okW : PureOk Tryz.prog 8 conSWoutW := by
 refine PureOk.of fun args hpre => ?_
 obtain ⟨ks, l, a, h, rfl⟩ := hpre
 exact ⟨conSWout, swout_ok, h, rfl⟩
end Go.Am
