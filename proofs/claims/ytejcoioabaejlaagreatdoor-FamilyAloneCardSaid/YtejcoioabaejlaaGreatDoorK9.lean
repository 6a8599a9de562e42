/- Part 9 of the proof's base. -/
import Derived.Test.YtejcoioabaejlaaGreatDoorK8
set_option linter.all false
noncomputable section
namespace Go.Am
set_option maxHeartbeats 4000000
set_option maxRecDepth 20000
open Go.RowKit Go.Proofs
attribute [local simp] thenKD_normal thenKD_exit thenKD_goto thenKD_ret inBlockKD_normal inBlockKD_exit inBlockKD_goto inBlockKD_ret noGotoKD_normal noGotoKD_exit noGotoKD_goto noGotoKD_ret roundKD_normal roundKD_exit roundKD_goto roundKD_ret frzSlotsD_nil frzSlotsD_cons frzSlotD_eq yieldVCD_trace opVCD_eq vcOpsD_nil vcOpsD_cons vcAllD_zero vcAllD_succ allAtD_nil allAtD_cons readyAux edgA vcD_skip vcD_label vcD_exit vcD_goto vcD_ret vcD_region vcD_seq vcD_seqC vcD_cond vcCondD_bool vcD_block vcD_scope vcD_loop vcD_rangeFunc yieldOf isMem isMem0 keepE envLe St.le psE yieldAV round_td round_y round_Γ vI vB vS aI aB aS look getE oper opRV putE allOk okOps Op.operands Call.operands pEv qEv mEv constRV coe RV.av loadEv loadCs takeAt indexAddrEv fieldAddrEv binEv intEv arith unEv gcond pickEv argsEv callVal callEv capAV_mk lenArgs lenEv minEv extractEv convEv funcEv allBox bound sliceEv lookupEv TD.isBool allocEv boxEv storeEv spl plainTD appendEv appendArgs makeMapEv mapUpdateEv buildEv buildSliceEv fillSV zsvOf sizeTD Ty.parses parses_flats' coeA flats_length AV.good AV.cells AV.pure SV.pure av_int av_bool av_str av_slice av_cons av_fld0 av_fld1 av_fld2 av_fld3 av_fld4 Ty.of Ty.dflt Ty.parse Ty.flat Ty.zsv Ty.fld Ty.get Ty.off Ty.nfld Ty.size coeTy junk Blk.look argEnv resEv resOk resVs oneRV retOk frzAs frzAV frzL frzSV boxCaps boxCap SV.sig sigs RV.scalar AV.scalar SV.scalar nope effVCD_eq effOf SV.ids AV.ids dedup SV.ren AV.ren RV.ren idx outId mergeB Blk.pureB flats_pure flat_pure epsSlotsD_nil epsSlotsD_cons epsSlotD_eq allEp D.parts_fnOf fvParts retEff round_E av_fn G.ye isCutD_nil isCutD_cons firstReg_region firstReg_seq firstReg_skip firstReg_ret firstReg_label firstReg_exit firstReg_goto firstReg_cond firstReg_block firstReg_scope firstReg_loop firstReg_rf eptrOf_mk flOfD_nil flOfD_cons vcFlD_cons vcFlD_nil flPairs_nil flPairs_cons vcFrD_nil vcFrD_cons makeSliceEv vcCondD_ib fzEv unfl_flats isFz round_fz panVCD_eq panOf isShift strIdxEv ifaceEv nilChkEv sliceAnyEv sliceOwnEv sliceSufEv appendEv0 appendEv1 Ty.beq Ty.isAgg round_Pn vcDefD_seqR vcDefD_seqS vcDefD_seqC vcDefD_seqB vcDefD_seqL vcDefD_seqF vcDefD_seqSc vcDefD_region vcDefD_ret vcDefD_cond vcDefD_block vcDefD_loop thenKD_panic inBlockKD_panic noGotoKD_panic exitOk_normal exitOk_ret exitOk_panic exitOk_exit runDefs_none runDefs_some runDefs_cons defRegD defReg2D isDefer defOf caughtCon unfl_cons D.bpart_bndOf D.parts_bndOf AV.sig zapEv capArgs capEv
attribute [local simp ←] flats_append
theorem flb_get:∀ (xs:List Bool) (j:Nat),(Ty.bool.flats xs)[j]?=(xs[j]?).map SV.bool
 | [],j=>by simp [Ty.flats]
 | x::xs,0=>by simp [Ty.flats,Ty.flat]
 | x::xs,j+1=>by simp [Ty.flats,Ty.flat,flb_get xs j]
theorem flb_atI {xs:List Bool} {j:Nat} (h:j<xs.length):(Ty.bool.flats xs)[j]'(by rw [flats_length]; simpa using h)=.bool (xs[j]?.getD false):=by
 have:=flb_get xs j
 rw [List.getElem?_eq_getElem (by rw [flats_length]; simpa using h),List.getElem?_eq_getElem h] at this
 injection this with this
 rw [this,List.getElem?_eq_getElem h]; rfl
theorem flb_set {xs:List Bool} {j:Nat} (h:j<xs.length) {v:Bool}:List.take j (Ty.bool.flats xs)++SV.bool v::List.drop (j+1) (Ty.bool.flats xs)=Ty.bool.flats (xs.set j v):=by
 have e:∀ l:List Bool,Ty.bool.flats l=l.map SV.bool:=fun l=>by
  induction l with
  | nil=>rfl
  | cons x l ih=>simp [Ty.flats,Ty.flat,ih]
 rw [e,e,List.map_set,List.set_eq_take_append_cons_drop,if_pos (by simpa using h)]
def conLeast:ECon:={ wp:=fun args hp K=>match args,hp with
 | [.s (.sl (.cons (.int .i64) (.cons (.cons (.cons .bool (.cons (.slice (.int .i64)) .nil)) (.cons (.cons .bool (.cons (.slice (.int .i64)) .nil)) .nil)) .nil)) l _),.s (.own .bool 0 n)],[.arr al cs]=>∃ done:List Bool,(cs=Ty.bool.flats done∧done.length=n∧done.length=l.length∧(al=true∨l=[])∧l.length≤1000∧∀ x∈l,okT x)∧K (.v (aI (leastL l done l.length))) [.arr al (Ty.bool.flats done)]
 | _,_=>False }
theorem least_ok:EffOk Tryz.prog 30 conLeast:=by
 refine effOkD (L:={ live:=[0,1,4,5,6,10,35] }) fa23_good rfl nr_mixed Tryz.func30 rfl conLeast 2 (by decide) (by kernel_rfl) ?_
 intro args hp K hpre hlens
 simp only [conLeast] at hpre
 split at hpre
 case h_2=>exact hpre.elim
 rename_i l el n al cs
 obtain ⟨done,⟨rfl,rfl,hdl,hal,hl,hok⟩,hK⟩:=hpre
 refine ⟨rfl,?_⟩
 simp -dsimp -implicitDefEqProofs [Tryz.f30,fa23_all,faT,fa23Γ,fa23E,fa23P,fa22Γ,fa22E,fa22P,fa21Γ,fa21E,fa21P,fa20Γ,fa20E,fa20P,fa19Γ,fa19E,fa19P,fa18Γ,fa18E,fa18P,fa17Γ,fa17E,fa17P,fa16Γ,fa16E,fa16P,fa15Γ,fa15E,fa15P,fa14Γ,fa14E,fa14P,fa13Γ,fa13E,fa13P,fa12Γ,fa12E,fa12P,fa11Γ,fa11E,fa11P,fa10Γ,fa10E,fa10P,fa9Γ,fa9E,fa9P,fa8Γ,fa8E,fa8P,fa7Γ,fa7E,fa7P,fa3Γ,fa3E,fa3P,fa2Γ,fa2E,fa2P,fa1Γ,fa1E,fa1P,nr20Γ,nr20E,nr20P,nr19Γ,nr19E,nr19P,nr18Γ,nr18E,nr18P,nr17Γ,nr17E,nr17P,nr16Γ,nr16E,nr16P,nr15Γ,nr15E,nr15P,nr14Γ,nr14E,nr14P,nr13Γ,nr13E,nr13P,nr9Γ,nr9E,nr9P,nr8Γ,nr8E,nr8P,nr7Γ,nr7E,nr7P,nr6Γ,nr6E,nr6P,nr5Γ,nr5E,nr5P,nr4Γ,nr4E,nr4P,nr3Γ,nr3E,nr3P,nr0Γ,nr0E,nr0P,conIdxTI_pre,conIdxTI_val,conCT_pre,conCT_val,conSorted,conFindI_eq,conColF,conSort,conSrtd_eq,conValT_pre,conValT_val,conSofT,conSrtT,conColT,conPdqT,conInsT,conOrI_eq,conCmpI_eq,conLen_eq,conLen64_eq,conChkF_eq,conNumE_eq,conRisI_eq,conRisT_eq,conLvl_eq,conKeyI_eq,conKeyT_eq,conShrtF_eq,conMost_eq,conTimesR_eq,conFits_eq,conWhole_eq,conOrdR_eq,conMkR_eq,conMulR_eq,conCmpR_eq,conRatC_eq,conRInt_eq,conOf_eq,conLow_eq,conDivX_eq,conMakeN_eq,conProd_eq,conDidB_eq,conDidI_eq,conValid_eq,panValid_when,panValid_what,conNeed_eq,panNeed_when,panNeed_what,conGcdN_eq,conMulN_eq,conCmpN2_eq,conPosi_eq,conChk_eq,conBigN_eq,conDiv_eq,conTimes_eq,conNCheck_eq,conLong_eq,conLead64_eq,conShort_eq,conMovE,conTrim_eq,conAt_eq,conNCmp_eq,conBack_eq,conOf9_eq,conDivide_eq,conLess9_eq,conTwo_eq,conRCheck_eq,conRCmpD_eq,inI64]
 refine WpD.loop (L:={ live:=[0,1,4,5,6,10,35] }) fa23_good X0_ok nr_mixed (by kernel_rfl)
  (fun i:Nat=>⟨[(0,vS tTst l el),(1,⟨true,.v (.s (.own .bool 0 done.length))⟩),(5,vI (leastL l done i)),(6,vI i)],[.arr al (Ty.bool.flats done)]⟩)
  (fun i=>i≤l.length) (fun i=>l.length - i) 0 (Nat.zero_le _) (Turn.le (by simp -dsimp -implicitDefEqProofs [leastL])) ?_
 intro i hi
 rcases Nat.lt_or_ge i l.length with hil | hge
 ·
  obtain rfl:al=true:=by
   rcases hal with h | h
   ·
    exact h
   ·
    rw [h] at hil; simp at hil
  have f1:=flb_atI (xs:=done) (j:=i) (by omega)
  obtain ⟨b1,b2⟩:=leastL_lt l done i
  obtain ⟨p,hp⟩:∃ p,l[(leastL l done i).toNat]?.getD (0,((false,[],()),(false,[],()),()),())=p:=⟨_,rfl⟩
  have hpk:0≤leastL l done i→okT p:=fun h=>by
   rw [← hp,List.getElem?_eq_getElem (by omega)]
   exact hok _ (List.getElem_mem _)
  have hoi:=hok _ (List.getElem_mem hil)
  have hlS:leastL l done (i+1)=if done[i]'(by omega)=false∧(leastL l done i<0∨0<ratCmp p.2.1.1.1 p.2.1.1.2.1 p.2.1.2.1.2.1 l[i].2.1.1.1 l[i].2.1.1.2.1 l[i].2.1.2.1.2.1) then (i:Int) else leastL l done i:=by
   have e1:done[i]?.getD false=done[i]'(by omega):=by rw [List.getElem?_eq_getElem (by omega)]; rfl
   rw [leastL,e1,pAt_get hil]
   have e2:pAt l (leastL l done i)=p:=hp
   rw [e2]
   rfl
  simp -dsimp -implicitDefEqProofs [hil,f1,hdl,hp,fa23_all,faT,fa23Γ,fa23E,fa23P,fa22Γ,fa22E,fa22P,fa21Γ,fa21E,fa21P,fa20Γ,fa20E,fa20P,fa19Γ,fa19E,fa19P,fa18Γ,fa18E,fa18P,fa17Γ,fa17E,fa17P,fa16Γ,fa16E,fa16P,fa15Γ,fa15E,fa15P,fa14Γ,fa14E,fa14P,fa13Γ,fa13E,fa13P,fa12Γ,fa12E,fa12P,fa11Γ,fa11E,fa11P,fa10Γ,fa10E,fa10P,fa9Γ,fa9E,fa9P,fa8Γ,fa8E,fa8P,fa7Γ,fa7E,fa7P,fa3Γ,fa3E,fa3P,fa2Γ,fa2E,fa2P,fa1Γ,fa1E,fa1P,nr20Γ,nr20E,nr20P,nr19Γ,nr19E,nr19P,nr18Γ,nr18E,nr18P,nr17Γ,nr17E,nr17P,nr16Γ,nr16E,nr16P,nr15Γ,nr15E,nr15P,nr14Γ,nr14E,nr14P,nr13Γ,nr13E,nr13P,nr9Γ,nr9E,nr9P,nr8Γ,nr8E,nr8P,nr7Γ,nr7E,nr7P,nr6Γ,nr6E,nr6P,nr5Γ,nr5E,nr5P,nr4Γ,nr4E,nr4P,nr3Γ,nr3E,nr3P,nr0Γ,nr0E,nr0P,conIdxTI_pre,conIdxTI_val,conCT_pre,conCT_val,conSorted,conFindI_eq,conColF,conSort,conSrtd_eq,conValT_pre,conValT_val,conSofT,conSrtT,conColT,conPdqT,conInsT,conOrI_eq,conCmpI_eq,conLen_eq,conLen64_eq,conChkF_eq,conNumE_eq,conRisI_eq,conRisT_eq,conLvl_eq,conKeyI_eq,conKeyT_eq,conShrtF_eq,conMost_eq,conTimesR_eq,conFits_eq,conWhole_eq,conOrdR_eq,conMkR_eq,conMulR_eq,conCmpR_eq,conRatC_eq,conRInt_eq,conOf_eq,conLow_eq,conDivX_eq,conMakeN_eq,conProd_eq,conDidB_eq,conDidI_eq,conValid_eq,panValid_when,panValid_what,conNeed_eq,panNeed_when,panNeed_what,conGcdN_eq,conMulN_eq,conCmpN2_eq,conPosi_eq,conChk_eq,conBigN_eq,conDiv_eq,conTimes_eq,conNCheck_eq,conLong_eq,conLead64_eq,conShort_eq,conMovE,conTrim_eq,conAt_eq,conNCmp_eq,conBack_eq,conOf9_eq,conDivide_eq,conLess9_eq,conTwo_eq,conRCheck_eq,conRCmpD_eq,inI64]
  refine ⟨fun h1 h2=>⟨⟨h1,h2⟩,h2,by omega⟩,fun h1 h2=>⟨⟨h1,h2⟩,⟨(hpk h2).1,hoi.1⟩,by have:=(hpk h2).2; have:=hoi.2; omega,by have:=(hpk h2).2; have:=hoi.2; omega⟩,fun h1=>⟨h1,fun h2=>⟨h1,h2⟩⟩,fun h1 h2=>⟨⟨by omega,by omega⟩,i+1,by omega,by omega,?_⟩,fun h=>⟨⟨by omega,by omega⟩,i+1,by omega,by omega,?_⟩⟩
  ·
   have e:leastL l done (i+1)=i:=by rw [hlS,if_pos ⟨h1,h2⟩]
   rw [e]
   exact TurnT.le (by simp -dsimp -implicitDefEqProofs)
  ·
   have e:leastL l done (i+1)=leastL l done i:=by
    rw [hlS,if_neg]
    rintro ⟨q1,q2⟩
    have:=h q1
    omega
   rw [e]
   exact TurnT.le (by simp -dsimp -implicitDefEqProofs)
 ·
  have hn:¬ i<l.length:=by omega
  obtain rfl:i=l.length:=by omega
  simp -dsimp -implicitDefEqProofs [hn,fa23_all,faT,fa23Γ,fa23E,fa23P,fa22Γ,fa22E,fa22P,fa21Γ,fa21E,fa21P,fa20Γ,fa20E,fa20P,fa19Γ,fa19E,fa19P,fa18Γ,fa18E,fa18P,fa17Γ,fa17E,fa17P,fa16Γ,fa16E,fa16P,fa15Γ,fa15E,fa15P,fa14Γ,fa14E,fa14P,fa13Γ,fa13E,fa13P,fa12Γ,fa12E,fa12P,fa11Γ,fa11E,fa11P,fa10Γ,fa10E,fa10P,fa9Γ,fa9E,fa9P,fa8Γ,fa8E,fa8P,fa7Γ,fa7E,fa7P,fa3Γ,fa3E,fa3P,fa2Γ,fa2E,fa2P,fa1Γ,fa1E,fa1P,nr20Γ,nr20E,nr20P,nr19Γ,nr19E,nr19P,nr18Γ,nr18E,nr18P,nr17Γ,nr17E,nr17P,nr16Γ,nr16E,nr16P,nr15Γ,nr15E,nr15P,nr14Γ,nr14E,nr14P,nr13Γ,nr13E,nr13P,nr9Γ,nr9E,nr9P,nr8Γ,nr8E,nr8P,nr7Γ,nr7E,nr7P,nr6Γ,nr6E,nr6P,nr5Γ,nr5E,nr5P,nr4Γ,nr4E,nr4P,nr3Γ,nr3E,nr3P,nr0Γ,nr0E,nr0P,conIdxTI_pre,conIdxTI_val,conCT_pre,conCT_val,conSorted,conFindI_eq,conColF,conSort,conSrtd_eq,conValT_pre,conValT_val,conSofT,conSrtT,conColT,conPdqT,conInsT,conOrI_eq,conCmpI_eq,conLen_eq,conLen64_eq,conChkF_eq,conNumE_eq,conRisI_eq,conRisT_eq,conLvl_eq,conKeyI_eq,conKeyT_eq,conShrtF_eq,conMost_eq,conTimesR_eq,conFits_eq,conWhole_eq,conOrdR_eq,conMkR_eq,conMulR_eq,conCmpR_eq,conRatC_eq,conRInt_eq,conOf_eq,conLow_eq,conDivX_eq,conMakeN_eq,conProd_eq,conDidB_eq,conDidI_eq,conValid_eq,panValid_when,panValid_what,conNeed_eq,panNeed_when,panNeed_what,conGcdN_eq,conMulN_eq,conCmpN2_eq,conPosi_eq,conChk_eq,conBigN_eq,conDiv_eq,conTimes_eq,conNCheck_eq,conLong_eq,conLead64_eq,conShort_eq,conMovE,conTrim_eq,conAt_eq,conNCmp_eq,conBack_eq,conOf9_eq,conDivide_eq,conLess9_eq,conTwo_eq,conRCheck_eq,conRCmpD_eq,inI64]
  exact hK
def fa24Γ:List (FuncId×Con):=(29,conWrongF)::fa23Γ
theorem fa24Γ_ok:∀ p∈fa24Γ,(∀ (args:Array Value) (w:World),(callFunc p.1 args).run Tryz.prog w=.ok (.enter p.1 args) w)∧PureOk Tryz.prog p.1 p.2:=by
 simp only [fa24Γ,List.forall_mem_cons]
 exact ⟨⟨enters_of Tryz.func29 (by kernel_rfl) rfl,wrongf_ok⟩,fa23Γ_ok⟩
def fa24E:List (FuncId×ECon):=(30,conLeast)::fa23E
theorem fa24E_ok:∀ p∈fa24E,(∀ (args:Array Value) (w:World),(callFunc p.1 args).run Tryz.prog w=.ok (.enter p.1 args) w)∧EffOk Tryz.prog p.1 p.2:=by
 simp only [fa24E,List.forall_mem_cons]
 exact ⟨⟨enters_of Tryz.func30 (by kernel_rfl) rfl,least_ok⟩,fa23E_ok⟩
def fa24P:List (FuncId×PCon):=fa23P
theorem fa24P_ok:∀ p∈fa24P,(∀ (args:Array Value) (w:World),(callFunc p.1 args).run Tryz.prog w=.ok (.enter p.1 args) w)∧PanOk Tryz.prog p.1 p.2:=by
 simp only [fa24P]
 exact fa23P_ok
def fa24:G:={ τ:=faT,Γ:=fa24Γ,E:=fa24E,Pn:=fa24P }
theorem fa24_good:fa24.good Tryz.prog:=good_of_all (faT_ok _ rfl) fa24Γ_ok fa24E_ok fa24P_ok
theorem fa24_all:(∀ t,fa24.td t=(look faT t).getD .other)∧fa24.y=false∧fa24.Γ=fa24Γ∧fa24.E=fa24E∧fa24.Pn=fa24P∧fa24.fz=[]:=⟨fun _=>rfl,rfl,rfl,rfl,rfl,rfl⟩
structure FndS where
 i:Nat
 done:List Bool
def FndS.ok (l s:List tTst.T) (a:tRat.T) (p:FndS):Prop:=p.i≤l.length∧p.done.length=l.length∧(∀ j (h:j<l.length),p.done[j]?.getD false=true↔l[j]∈s.take p.i)∧∀ j (h:j<s.length),j<p.i→fitF ((s.length - j:Nat):Int) s[j] a=true
def conFoundR:Con:=⟨fun args=>(match args with
 | [.s (.sl (.cons (.int .i64) (.cons (.cons (.cons .bool (.cons (.slice (.int .i64)) .nil)) (.cons (.cons .bool (.cons (.slice (.int .i64)) .nil)) .nil)) .nil)) l _),.agg [.bool k1,.sl (.int .i64) l1 _,.bool k2,.sl (.int .i64) l2 _]]=>l.length≤1000∧(chkF l k1 l1 k2 l2=0→l.length≤12)
 | _=>False),fun args=>match args with
 | [.s (.sl (.cons (.int .i64) (.cons (.cons (.cons .bool (.cons (.slice (.int .i64)) .nil)) (.cons (.cons .bool (.cons (.slice (.int .i64)) .nil)) .nil)) .nil)) l _),.agg [.bool k1,.sl (.int .i64) l1 _,.bool k2,.sl (.int .i64) l2 _]]=>.tup [aS tI (foundV l k1 l1 k2 l2) false,aI (chkF l k1 l1 k2 l2)]
 | _=>.v (.s .any)⟩
theorem conFoundR_eq (l:List (Ty.T tTst)) (exl:Bool) (k1:Bool) (l1:List (Ty.T tI)) (exl1:Bool) (k2:Bool) (l2:List (Ty.T tI)) (exl2:Bool):conFoundR.pre [.s (.sl tTst l exl),.agg [.bool k1,.sl tI l1 exl1,.bool k2,.sl tI l2 exl2]]=(l.length≤1000∧(chkF l k1 l1 k2 l2=0→l.length≤12))∧conFoundR.val [.s (.sl tTst l exl),.agg [.bool k1,.sl tI l1 exl1,.bool k2,.sl tI l2 exl2]]=.tup [aS tI (foundV l k1 l1 k2 l2) false,aI (chkF l k1 l1 k2 l2)]:=⟨rfl,rfl⟩
theorem foundr_ok:PureOk Tryz.prog 12 conFoundR:=by
 refine pureOkD (L:={ live:=[0,1,3,4,5,6,7,8,9,10,11,16,24,42,49,55],frz:=[(17,[10])],fl:=[(9,[(1,0),(6,0),(7,0),(8,0),(10,0)])] }) fa24_good rfl nr_mixed Tryz.func12 rfl conFoundR 2 (by decide) (by kernel_rfl) ?_
 intro args hpre hlens
 simp only [conFoundR] at hpre
 split at hpre
 case h_2=>exact hpre.elim
 rename_i l el k1 l1 f1 k2 l2 f2
 simp only [allLen,AV.lenOk,SV.lenOk,Ty.lenOk,maxLen,and_true,implies_true,true_and,List.forall_mem_cons,List.not_mem_nil,false_implies] at hlens
 refine ⟨rfl,?_⟩
 simp -dsimp -implicitDefEqProofs [Tryz.f12,conFoundR_eq,fa24_all,faT,fa24Γ,fa24E,fa24P,fa23Γ,fa23E,fa23P,fa22Γ,fa22E,fa22P,fa21Γ,fa21E,fa21P,fa20Γ,fa20E,fa20P,fa19Γ,fa19E,fa19P,fa18Γ,fa18E,fa18P,fa17Γ,fa17E,fa17P,fa16Γ,fa16E,fa16P,fa15Γ,fa15E,fa15P,fa14Γ,fa14E,fa14P,fa13Γ,fa13E,fa13P,fa12Γ,fa12E,fa12P,fa11Γ,fa11E,fa11P,fa10Γ,fa10E,fa10P,fa9Γ,fa9E,fa9P,fa8Γ,fa8E,fa8P,fa7Γ,fa7E,fa7P,fa3Γ,fa3E,fa3P,fa2Γ,fa2E,fa2P,fa1Γ,fa1E,fa1P,nr20Γ,nr20E,nr20P,nr19Γ,nr19E,nr19P,nr18Γ,nr18E,nr18P,nr17Γ,nr17E,nr17P,nr16Γ,nr16E,nr16P,nr15Γ,nr15E,nr15P,nr14Γ,nr14E,nr14P,nr13Γ,nr13E,nr13P,nr9Γ,nr9E,nr9P,nr8Γ,nr8E,nr8P,nr7Γ,nr7E,nr7P,nr6Γ,nr6E,nr6P,nr5Γ,nr5E,nr5P,nr4Γ,nr4E,nr4P,nr3Γ,nr3E,nr3P,nr0Γ,nr0E,nr0P,conWrongF_eq,conLeast,conIdxTI_pre,conIdxTI_val,conCT_pre,conCT_val,conSorted,conFindI_eq,conColF,conSort,conSrtd_eq,conValT_pre,conValT_val,conSofT,conSrtT,conColT,conPdqT,conInsT,conOrI_eq,conCmpI_eq,conLen_eq,conLen64_eq,conChkF_eq,conNumE_eq,conRisI_eq,conRisT_eq,conLvl_eq,conKeyI_eq,conKeyT_eq,conShrtF_eq,conMost_eq,conTimesR_eq,conFits_eq,conWhole_eq,conOrdR_eq,conMkR_eq,conMulR_eq,conCmpR_eq,conRatC_eq,conRInt_eq,conOf_eq,conLow_eq,conDivX_eq,conMakeN_eq,conProd_eq,conDidB_eq,conDidI_eq,conValid_eq,panValid_when,panValid_what,conNeed_eq,panNeed_when,panNeed_what,conGcdN_eq,conMulN_eq,conCmpN2_eq,conPosi_eq,conChk_eq,conBigN_eq,conDiv_eq,conTimes_eq,conNCheck_eq,conLong_eq,conLead64_eq,conShort_eq,conMovE,conTrim_eq,conAt_eq,conNCmp_eq,conBack_eq,conOf9_eq,conDivide_eq,conLess9_eq,conTwo_eq,conRCheck_eq,conRCmpD_eq,inI64]
 obtain ⟨l1,rfl⟩:∃ y:List Int,y=l1:=⟨l1,rfl⟩; obtain ⟨l2,rfl⟩:∃ y:List Int,y=l2:=⟨l2,rfl⟩
 obtain ⟨hl1000,h12⟩:=hpre
 refine ⟨hl1000,fun h=>foundV_e h,fun h=>⟨by omega,?_⟩⟩
 obtain ⟨_,hf,hl⟩:=chkF_0.1 h
 obtain ⟨hok,hnd⟩:=fam_ok hf
 have hpw:=nos_pair hf.1
 have hl12:l.length≤12:=h12 h
 obtain ⟨s,hs⟩:∃ s,s=sortT l:=⟨_,rfl⟩
 obtain ⟨hsp,_⟩:=sortT_spec hok
 rw [← hs] at hsp
 have hsl:s.length=l.length:=hsp.length_eq
 have hsn:(nosL s).Nodup:=(hsp.map _).nodup_iff.2 hnd
 have hfv:∀ i,i≤s.length→leadF (mkA k1 l1 k2 l2) s.length s=s.take i→∀ done:List Bool,(∀ j (h:j<l.length),done[j]?.getD false=true↔l[j]∈s.take i)→selL l done l.length=foundV l k1 l1 k2 l2:=fun i hi hld done hd=>by
  rw [foundV_0 h,found_same hok hpw hs hd]
  unfold findL
  rw [← hs,← hsl,hld]
 have hz:Ty.bool.flats (List.replicate l.length false)=Ty.bool.flats (List.replicate l.length false):=rfl
 refine WpD.loop (L:={ live:=[0,1,3,4,5,6,7,8,9,10,11,16,24,42,49,55],frz:=[(17,[10])],fl:=[(9,[(1,0),(6,0),(7,0),(8,0),(10,0)])] }) fa24_good X0_ok nr_mixed (by kernel_rfl)
  (fun p:FndS=>⟨[(0,vS tTst l el),(3,⟨true,.v (.s (.box 0 0))⟩),(7,⟨true,.v (.s (.own .bool 1 l.length))⟩),(8,vI p.i)],[.cells [.bool k1,.sl tI l1 f1,.bool k2,.sl tI l2 f2],.arr true (Ty.bool.flats p.done)]⟩)
  (FndS.ok l s (mkA k1 l1 k2 l2)) (fun p=>l.length - p.i) ⟨0,List.replicate l.length false⟩ ⟨Nat.zero_le _,by simp,fun j hj=>by simp [hj],fun j _ h=>absurd h (by simp)⟩ (Turn.le (by simp -dsimp -implicitDefEqProofs)) ?_
 rintro ⟨i,done⟩ ⟨hi,hdl,hdone,hfit⟩
 simp only at hi hdl hdone hfit
 rcases Nat.lt_or_ge i l.length with hil | hge
 ·
  obtain ⟨k,hk,hkl,hke⟩:=least_next hok hpw hs (i:=i) (by omega) hdl hdone
  have hoi:=hok _ (List.getElem_mem hkl)
  have e1:(l.length:Int) - (i:Int)=((s.length - i:Nat):Int):=by omega
  have hfb:fitB ((l.length:Int) - (i:Int)) l[k].2.1.1.1 l[k].2.1.1.2.1 l[k].2.1.2.1.2.1 k1 l1 l2=fitF ((s.length - i:Nat):Int) s[i] (mkA k1 l1 k2 l2):=by
   rw [e1,← hke]; rfl
  have htp:=times_pre (n:=(l.length:Int) - i) (by omega) (by omega) hoi (lvl_ok0 hl)
  have htf:=times_fit (n:=(l.length:Int) - i) (k1:=k1) (l1:=l1) (l2:=l2) (by omega) hoi
  rw [hfb] at htf
  cases hft:fitF ((s.length - i:Nat):Int) s[i] (mkA k1 l1 k2 l2) with
  | true =>
   rw [hft,decide_eq_true_eq] at htf
   simp -dsimp -implicitDefEqProofs [hil,-Prod.exists,-Prod.forall,-Bool.forall_bool,-Bool.exists_bool,fa24_all,faT,fa24Γ,fa24E,fa24P,fa23Γ,fa23E,fa23P,fa22Γ,fa22E,fa22P,fa21Γ,fa21E,fa21P,fa20Γ,fa20E,fa20P,fa19Γ,fa19E,fa19P,fa18Γ,fa18E,fa18P,fa17Γ,fa17E,fa17P,fa16Γ,fa16E,fa16P,fa15Γ,fa15E,fa15P,fa14Γ,fa14E,fa14P,fa13Γ,fa13E,fa13P,fa12Γ,fa12E,fa12P,fa11Γ,fa11E,fa11P,fa10Γ,fa10E,fa10P,fa9Γ,fa9E,fa9P,fa8Γ,fa8E,fa8P,fa7Γ,fa7E,fa7P,fa3Γ,fa3E,fa3P,fa2Γ,fa2E,fa2P,fa1Γ,fa1E,fa1P,nr20Γ,nr20E,nr20P,nr19Γ,nr19E,nr19P,nr18Γ,nr18E,nr18P,nr17Γ,nr17E,nr17P,nr16Γ,nr16E,nr16P,nr15Γ,nr15E,nr15P,nr14Γ,nr14E,nr14P,nr13Γ,nr13E,nr13P,nr9Γ,nr9E,nr9P,nr8Γ,nr8E,nr8P,nr7Γ,nr7E,nr7P,nr6Γ,nr6E,nr6P,nr5Γ,nr5E,nr5P,nr4Γ,nr4E,nr4P,nr3Γ,nr3E,nr3P,nr0Γ,nr0E,nr0P,conWrongF_eq,conLeast,conIdxTI_pre,conIdxTI_val,conCT_pre,conCT_val,conSorted,conFindI_eq,conColF,conSort,conSrtd_eq,conValT_pre,conValT_val,conSofT,conSrtT,conColT,conPdqT,conInsT,conOrI_eq,conCmpI_eq,conLen_eq,conLen64_eq,conChkF_eq,conNumE_eq,conRisI_eq,conRisT_eq,conLvl_eq,conKeyI_eq,conKeyT_eq,conShrtF_eq,conMost_eq,conTimesR_eq,conFits_eq,conWhole_eq,conOrdR_eq,conMkR_eq,conMulR_eq,conCmpR_eq,conRatC_eq,conRInt_eq,conOf_eq,conLow_eq,conDivX_eq,conMakeN_eq,conProd_eq,conDidB_eq,conDidI_eq,conValid_eq,panValid_when,panValid_what,conNeed_eq,panNeed_when,panNeed_what,conGcdN_eq,conMulN_eq,conCmpN2_eq,conPosi_eq,conChk_eq,conBigN_eq,conDiv_eq,conTimes_eq,conNCheck_eq,conLong_eq,conLead64_eq,conShort_eq,conMovE,conTrim_eq,conAt_eq,conNCmp_eq,conBack_eq,conOf9_eq,conDivide_eq,conLess9_eq,conTwo_eq,conRCheck_eq,conRCmpD_eq,inI64]
   refine ⟨done,⟨rfl,hdl,by omega,hok⟩,?_⟩
   simp only [hk,Int.toNat_natCast,List.getElem?_eq_getElem hkl,Option.getD_some]
   generalize lowN ((↑l.length - ↑i:Int).natAbs*vl l[k].snd.fst.fst.snd.fst) (vl l[k].snd.fst.snd.fst.snd.fst)=LN at *
   generalize lowD ((↑l.length - ↑i:Int).natAbs*vl l[k].snd.fst.fst.snd.fst) (vl l[k].snd.fst.snd.fst.snd.fst)=LD at *
   refine ⟨⟨⟨by omega,by omega⟩,⟨by omega,by omega⟩,⟨⟨by omega,by omega⟩,hoi⟩,htp,fun hc=>absurd htf (by omega),fun _=>⟨⟨hdl,by omega,by omega⟩,⟨hdl,by omega⟩,⟨by omega,by omega⟩,⟨i+1,done.set k true⟩,⟨hil,by rw [List.length_set]; exact hdl,fun j hj => ?_,fun j hj hji => ?_⟩,by show l.length - (i+1)<_; omega,?_⟩⟩,by omega,by omega⟩
   ·
    show (done.set k true)[j]?.getD false=true↔l[j]∈s.take (i+1)
    rw [List.take_add_one,List.getElem?_eq_getElem (show i<s.length by omega),List.mem_append,← hdone j hj]
    by_cases hjk:k=j
    ·
     subst hjk
     rw [List.getElem?_set_self (by omega)]
     simp [hke]
    ·
     rw [List.getElem?_set_ne hjk]
     have:l[j]≠s[i]:=fun e=>by
      rw [← hke] at e
      have hx:=List.pairwise_iff_getElem.1 hpw
      rcases Nat.lt_trichotomy j k with h' | h' | h'
      ·
       have:=hx j k (by rw [nosL_len]; omega) (by rw [nosL_len]; omega) h'
       simp only [nosL,List.getElem_map,e] at this
       omega
      ·
       exact hjk h'.symm
      ·
       have:=hx k j (by rw [nosL_len]; omega) (by rw [nosL_len]; omega) h'
       simp only [nosL,List.getElem_map,e] at this
       omega
     simp [this]
   ·
    rcases Nat.lt_succ_iff_lt_or_eq.1 hji with h' | rfl
    ·
     exact hfit j hj h'
    ·
     exact hft
   ·
    rw [flb_set (by omega)]
    exact TurnT.le (by simp -dsimp -implicitDefEqProofs)
  | false =>
   rw [hft,decide_eq_false_iff_not] at htf
   simp -dsimp -implicitDefEqProofs [hil,-Prod.exists,-Prod.forall,-Bool.forall_bool,-Bool.exists_bool,fa24_all,faT,fa24Γ,fa24E,fa24P,fa23Γ,fa23E,fa23P,fa22Γ,fa22E,fa22P,fa21Γ,fa21E,fa21P,fa20Γ,fa20E,fa20P,fa19Γ,fa19E,fa19P,fa18Γ,fa18E,fa18P,fa17Γ,fa17E,fa17P,fa16Γ,fa16E,fa16P,fa15Γ,fa15E,fa15P,fa14Γ,fa14E,fa14P,fa13Γ,fa13E,fa13P,fa12Γ,fa12E,fa12P,fa11Γ,fa11E,fa11P,fa10Γ,fa10E,fa10P,fa9Γ,fa9E,fa9P,fa8Γ,fa8E,fa8P,fa7Γ,fa7E,fa7P,fa3Γ,fa3E,fa3P,fa2Γ,fa2E,fa2P,fa1Γ,fa1E,fa1P,nr20Γ,nr20E,nr20P,nr19Γ,nr19E,nr19P,nr18Γ,nr18E,nr18P,nr17Γ,nr17E,nr17P,nr16Γ,nr16E,nr16P,nr15Γ,nr15E,nr15P,nr14Γ,nr14E,nr14P,nr13Γ,nr13E,nr13P,nr9Γ,nr9E,nr9P,nr8Γ,nr8E,nr8P,nr7Γ,nr7E,nr7P,nr6Γ,nr6E,nr6P,nr5Γ,nr5E,nr5P,nr4Γ,nr4E,nr4P,nr3Γ,nr3E,nr3P,nr0Γ,nr0E,nr0P,conWrongF_eq,conLeast,conIdxTI_pre,conIdxTI_val,conCT_pre,conCT_val,conSorted,conFindI_eq,conColF,conSort,conSrtd_eq,conValT_pre,conValT_val,conSofT,conSrtT,conColT,conPdqT,conInsT,conOrI_eq,conCmpI_eq,conLen_eq,conLen64_eq,conChkF_eq,conNumE_eq,conRisI_eq,conRisT_eq,conLvl_eq,conKeyI_eq,conKeyT_eq,conShrtF_eq,conMost_eq,conTimesR_eq,conFits_eq,conWhole_eq,conOrdR_eq,conMkR_eq,conMulR_eq,conCmpR_eq,conRatC_eq,conRInt_eq,conOf_eq,conLow_eq,conDivX_eq,conMakeN_eq,conProd_eq,conDidB_eq,conDidI_eq,conValid_eq,panValid_when,panValid_what,conNeed_eq,panNeed_when,panNeed_what,conGcdN_eq,conMulN_eq,conCmpN2_eq,conPosi_eq,conChk_eq,conBigN_eq,conDiv_eq,conTimes_eq,conNCheck_eq,conLong_eq,conLead64_eq,conShort_eq,conMovE,conTrim_eq,conAt_eq,conNCmp_eq,conBack_eq,conOf9_eq,conDivide_eq,conLess9_eq,conTwo_eq,conRCheck_eq,conRCmpD_eq,inI64]
   refine ⟨done,⟨rfl,hdl,by omega,hok⟩,?_⟩
   simp only [hk,Int.toNat_natCast,List.getElem?_eq_getElem hkl,Option.getD_some]
   generalize lowN ((↑l.length - ↑i:Int).natAbs*vl l[k].snd.fst.fst.snd.fst) (vl l[k].snd.fst.snd.fst.snd.fst)=LN at *
   generalize lowD ((↑l.length - ↑i:Int).natAbs*vl l[k].snd.fst.fst.snd.fst) (vl l[k].snd.fst.snd.fst.snd.fst)=LD at *
   refine ⟨⟨⟨by omega,by omega⟩,⟨by omega,by omega⟩,⟨⟨by omega,by omega⟩,hoi⟩,htp,fun _ => ?_,fun hc=>absurd hc htf⟩,by omega,by omega⟩
   have hld:leadF (mkA k1 l1 k2 l2) s.length s=s.take i:=by
    rw [lead_split i s.length s (by omega) fun j hj hji=>hfit j hj hji,List.drop_eq_getElem_cons (by omega),leadF,if_neg (by rw [hft]; decide),List.append_nil]
   have hfin:=hfv i (by omega) hld done hdone
   refine WpD.turn _ (Turn.virt (k:=10) (t:=tI) (xs:=[]) (by simp [look])) ?_
   refine WpD.loop (L:={ live:=[0,1,3,4,5,6,7,8,9,10,11,16,24,42,49,55],frz:=[(17,[10])],fl:=[(9,[(1,0),(6,0),(7,0),(8,0),(10,0)])] }) fa24_good X0_ok nr_mixed (by kernel_rfl)
    (fun m:Nat=>⟨[(0,vS tTst l el),(7,⟨true,.v (.s (.own .bool 1 l.length))⟩),(10,⟨true,.v (.s (.own tI 2 (selL l done m).length))⟩),(11,vI m)],[.cells [.bool k1,.sl tI l1 f1,.bool k2,.sl tI l2 f2],.arr true (Ty.bool.flats done),.arr (decide (0<(selL l done m).length)) (tI.flats (selL l done m))]⟩)
    (fun m=>m≤l.length) (fun m=>l.length - m) 0 (Nat.zero_le _) (Turn.le (by simp -dsimp -implicitDefEqProofs [selL])) ?_
   intro m hm
   have hsl1:=sel_len l done m
   rcases Nat.lt_or_ge m l.length with hml | hge
   ·
    have f1:=flb_atI (xs:=done) (j:=m) (by omega)
    have e1:done[m]?.getD false=done[m]'(by omega):=by rw [List.getElem?_eq_getElem (by omega)]; rfl
    have e2:=pAt_get hml
    have e3:selL l done (m+1)=if done[m]'(by omega)=true then selL l done m++[l[m].1] else selL l done m:=by rw [selL,e1,e2]
    simp -dsimp -implicitDefEqProofs [hml,f1,hdl,fa24_all,faT,fa24Γ,fa24E,fa24P,fa23Γ,fa23E,fa23P,fa22Γ,fa22E,fa22P,fa21Γ,fa21E,fa21P,fa20Γ,fa20E,fa20P,fa19Γ,fa19E,fa19P,fa18Γ,fa18E,fa18P,fa17Γ,fa17E,fa17P,fa16Γ,fa16E,fa16P,fa15Γ,fa15E,fa15P,fa14Γ,fa14E,fa14P,fa13Γ,fa13E,fa13P,fa12Γ,fa12E,fa12P,fa11Γ,fa11E,fa11P,fa10Γ,fa10E,fa10P,fa9Γ,fa9E,fa9P,fa8Γ,fa8E,fa8P,fa7Γ,fa7E,fa7P,fa3Γ,fa3E,fa3P,fa2Γ,fa2E,fa2P,fa1Γ,fa1E,fa1P,nr20Γ,nr20E,nr20P,nr19Γ,nr19E,nr19P,nr18Γ,nr18E,nr18P,nr17Γ,nr17E,nr17P,nr16Γ,nr16E,nr16P,nr15Γ,nr15E,nr15P,nr14Γ,nr14E,nr14P,nr13Γ,nr13E,nr13P,nr9Γ,nr9E,nr9P,nr8Γ,nr8E,nr8P,nr7Γ,nr7E,nr7P,nr6Γ,nr6E,nr6P,nr5Γ,nr5E,nr5P,nr4Γ,nr4E,nr4P,nr3Γ,nr3E,nr3P,nr0Γ,nr0E,nr0P,conWrongF_eq,conLeast,conIdxTI_pre,conIdxTI_val,conCT_pre,conCT_val,conSorted,conFindI_eq,conColF,conSort,conSrtd_eq,conValT_pre,conValT_val,conSofT,conSrtT,conColT,conPdqT,conInsT,conOrI_eq,conCmpI_eq,conLen_eq,conLen64_eq,conChkF_eq,conNumE_eq,conRisI_eq,conRisT_eq,conLvl_eq,conKeyI_eq,conKeyT_eq,conShrtF_eq,conMost_eq,conTimesR_eq,conFits_eq,conWhole_eq,conOrdR_eq,conMkR_eq,conMulR_eq,conCmpR_eq,conRatC_eq,conRInt_eq,conOf_eq,conLow_eq,conDivX_eq,conMakeN_eq,conProd_eq,conDidB_eq,conDidI_eq,conValid_eq,panValid_when,panValid_what,conNeed_eq,panNeed_when,panNeed_what,conGcdN_eq,conMulN_eq,conCmpN2_eq,conPosi_eq,conChk_eq,conBigN_eq,conDiv_eq,conTimes_eq,conNCheck_eq,conLong_eq,conLead64_eq,conShort_eq,conMovE,conTrim_eq,conAt_eq,conNCmp_eq,conBack_eq,conOf9_eq,conDivide_eq,conLess9_eq,conTwo_eq,conRCheck_eq,conRCmpD_eq,inI64]
    refine ⟨fun hc=>⟨⟨by omega,by simp only [maxLen]; omega⟩,⟨by omega,by omega⟩,m+1,by omega,by omega,?_⟩,fun hc=>⟨⟨by omega,by omega⟩,m+1,by omega,by omega,?_⟩⟩
    ·
     rw [e3,if_pos hc]
     exact TurnT.le (by simp -dsimp -implicitDefEqProofs)
    ·
     rw [e3,if_neg (by rw [hc]; decide)]
     exact TurnT.le (by simp -dsimp -implicitDefEqProofs)
   ·
    have hn:¬ m<l.length:=by omega
    obtain rfl:m=l.length:=by omega
    simp -dsimp -implicitDefEqProofs [conFoundR_eq,hn,fa24_all,faT,fa24Γ,fa24E,fa24P,fa23Γ,fa23E,fa23P,fa22Γ,fa22E,fa22P,fa21Γ,fa21E,fa21P,fa20Γ,fa20E,fa20P,fa19Γ,fa19E,fa19P,fa18Γ,fa18E,fa18P,fa17Γ,fa17E,fa17P,fa16Γ,fa16E,fa16P,fa15Γ,fa15E,fa15P,fa14Γ,fa14E,fa14P,fa13Γ,fa13E,fa13P,fa12Γ,fa12E,fa12P,fa11Γ,fa11E,fa11P,fa10Γ,fa10E,fa10P,fa9Γ,fa9E,fa9P,fa8Γ,fa8E,fa8P,fa7Γ,fa7E,fa7P,fa3Γ,fa3E,fa3P,fa2Γ,fa2E,fa2P,fa1Γ,fa1E,fa1P,nr20Γ,nr20E,nr20P,nr19Γ,nr19E,nr19P,nr18Γ,nr18E,nr18P,nr17Γ,nr17E,nr17P,nr16Γ,nr16E,nr16P,nr15Γ,nr15E,nr15P,nr14Γ,nr14E,nr14P,nr13Γ,nr13E,nr13P,nr9Γ,nr9E,nr9P,nr8Γ,nr8E,nr8P,nr7Γ,nr7E,nr7P,nr6Γ,nr6E,nr6P,nr5Γ,nr5E,nr5P,nr4Γ,nr4E,nr4P,nr3Γ,nr3E,nr3P,nr0Γ,nr0E,nr0P,conWrongF_eq,conLeast,conIdxTI_pre,conIdxTI_val,conCT_pre,conCT_val,conSorted,conFindI_eq,conColF,conSort,conSrtd_eq,conValT_pre,conValT_val,conSofT,conSrtT,conColT,conPdqT,conInsT,conOrI_eq,conCmpI_eq,conLen_eq,conLen64_eq,conChkF_eq,conNumE_eq,conRisI_eq,conRisT_eq,conLvl_eq,conKeyI_eq,conKeyT_eq,conShrtF_eq,conMost_eq,conTimesR_eq,conFits_eq,conWhole_eq,conOrdR_eq,conMkR_eq,conMulR_eq,conCmpR_eq,conRatC_eq,conRInt_eq,conOf_eq,conLow_eq,conDivX_eq,conMakeN_eq,conProd_eq,conDidB_eq,conDidI_eq,conValid_eq,panValid_when,panValid_what,conNeed_eq,panNeed_when,panNeed_what,conGcdN_eq,conMulN_eq,conCmpN2_eq,conPosi_eq,conChk_eq,conBigN_eq,conDiv_eq,conTimes_eq,conNCheck_eq,conLong_eq,conLead64_eq,conShort_eq,conMovE,conTrim_eq,conAt_eq,conNCmp_eq,conBack_eq,conOf9_eq,conDivide_eq,conLess9_eq,conTwo_eq,conRCheck_eq,conRCmpD_eq,inI64]
    exact ⟨selL l done l.length,rfl,rfl,hfin,h.symm⟩
 ·
  have hn:¬ i<l.length:=by omega
  have hld:leadF (mkA k1 l1 k2 l2) s.length s=s.take i:=by
   rw [lead_split s.length s.length s (Nat.le_refl _) fun j hj _=>hfit j hj (by omega),List.drop_length,leadF,List.append_nil,List.take_length,List.take_of_length_le (by omega)]
  have hfin:=hfv i (by omega) hld done hdone
  simp -dsimp -implicitDefEqProofs [hn,-Prod.exists,-Prod.forall,-Bool.forall_bool,-Bool.exists_bool,fa24_all,faT,fa24Γ,fa24E,fa24P,fa23Γ,fa23E,fa23P,fa22Γ,fa22E,fa22P,fa21Γ,fa21E,fa21P,fa20Γ,fa20E,fa20P,fa19Γ,fa19E,fa19P,fa18Γ,fa18E,fa18P,fa17Γ,fa17E,fa17P,fa16Γ,fa16E,fa16P,fa15Γ,fa15E,fa15P,fa14Γ,fa14E,fa14P,fa13Γ,fa13E,fa13P,fa12Γ,fa12E,fa12P,fa11Γ,fa11E,fa11P,fa10Γ,fa10E,fa10P,fa9Γ,fa9E,fa9P,fa8Γ,fa8E,fa8P,fa7Γ,fa7E,fa7P,fa3Γ,fa3E,fa3P,fa2Γ,fa2E,fa2P,fa1Γ,fa1E,fa1P,nr20Γ,nr20E,nr20P,nr19Γ,nr19E,nr19P,nr18Γ,nr18E,nr18P,nr17Γ,nr17E,nr17P,nr16Γ,nr16E,nr16P,nr15Γ,nr15E,nr15P,nr14Γ,nr14E,nr14P,nr13Γ,nr13E,nr13P,nr9Γ,nr9E,nr9P,nr8Γ,nr8E,nr8P,nr7Γ,nr7E,nr7P,nr6Γ,nr6E,nr6P,nr5Γ,nr5E,nr5P,nr4Γ,nr4E,nr4P,nr3Γ,nr3E,nr3P,nr0Γ,nr0E,nr0P,conWrongF_eq,conLeast,conIdxTI_pre,conIdxTI_val,conCT_pre,conCT_val,conSorted,conFindI_eq,conColF,conSort,conSrtd_eq,conValT_pre,conValT_val,conSofT,conSrtT,conColT,conPdqT,conInsT,conOrI_eq,conCmpI_eq,conLen_eq,conLen64_eq,conChkF_eq,conNumE_eq,conRisI_eq,conRisT_eq,conLvl_eq,conKeyI_eq,conKeyT_eq,conShrtF_eq,conMost_eq,conTimesR_eq,conFits_eq,conWhole_eq,conOrdR_eq,conMkR_eq,conMulR_eq,conCmpR_eq,conRatC_eq,conRInt_eq,conOf_eq,conLow_eq,conDivX_eq,conMakeN_eq,conProd_eq,conDidB_eq,conDidI_eq,conValid_eq,panValid_when,panValid_what,conNeed_eq,panNeed_when,panNeed_what,conGcdN_eq,conMulN_eq,conCmpN2_eq,conPosi_eq,conChk_eq,conBigN_eq,conDiv_eq,conTimes_eq,conNCheck_eq,conLong_eq,conLead64_eq,conShort_eq,conMovE,conTrim_eq,conAt_eq,conNCmp_eq,conBack_eq,conOf9_eq,conDivide_eq,conLess9_eq,conTwo_eq,conRCheck_eq,conRCmpD_eq,inI64]
  ·
   refine WpD.turn _ (Turn.virt (k:=10) (t:=tI) (xs:=[]) (by simp [look])) ?_
   refine WpD.loop (L:={ live:=[0,1,3,4,5,6,7,8,9,10,11,16,24,42,49,55],frz:=[(17,[10])],fl:=[(9,[(1,0),(6,0),(7,0),(8,0),(10,0)])] }) fa24_good X0_ok nr_mixed (by kernel_rfl)
    (fun m:Nat=>⟨[(0,vS tTst l el),(7,⟨true,.v (.s (.own .bool 1 l.length))⟩),(10,⟨true,.v (.s (.own tI 2 (selL l done m).length))⟩),(11,vI m)],[.cells [.bool k1,.sl tI l1 f1,.bool k2,.sl tI l2 f2],.arr true (Ty.bool.flats done),.arr (decide (0<(selL l done m).length)) (tI.flats (selL l done m))]⟩)
    (fun m=>m≤l.length) (fun m=>l.length - m) 0 (Nat.zero_le _) (Turn.le (by simp -dsimp -implicitDefEqProofs [selL])) ?_
   intro m hm
   have hsl1:=sel_len l done m
   rcases Nat.lt_or_ge m l.length with hml | hge
   ·
    have f1:=flb_atI (xs:=done) (j:=m) (by omega)
    have e1:done[m]?.getD false=done[m]'(by omega):=by rw [List.getElem?_eq_getElem (by omega)]; rfl
    have e2:=pAt_get hml
    have e3:selL l done (m+1)=if done[m]'(by omega)=true then selL l done m++[l[m].1] else selL l done m:=by rw [selL,e1,e2]
    simp -dsimp -implicitDefEqProofs [hml,f1,hdl,fa24_all,faT,fa24Γ,fa24E,fa24P,fa23Γ,fa23E,fa23P,fa22Γ,fa22E,fa22P,fa21Γ,fa21E,fa21P,fa20Γ,fa20E,fa20P,fa19Γ,fa19E,fa19P,fa18Γ,fa18E,fa18P,fa17Γ,fa17E,fa17P,fa16Γ,fa16E,fa16P,fa15Γ,fa15E,fa15P,fa14Γ,fa14E,fa14P,fa13Γ,fa13E,fa13P,fa12Γ,fa12E,fa12P,fa11Γ,fa11E,fa11P,fa10Γ,fa10E,fa10P,fa9Γ,fa9E,fa9P,fa8Γ,fa8E,fa8P,fa7Γ,fa7E,fa7P,fa3Γ,fa3E,fa3P,fa2Γ,fa2E,fa2P,fa1Γ,fa1E,fa1P,nr20Γ,nr20E,nr20P,nr19Γ,nr19E,nr19P,nr18Γ,nr18E,nr18P,nr17Γ,nr17E,nr17P,nr16Γ,nr16E,nr16P,nr15Γ,nr15E,nr15P,nr14Γ,nr14E,nr14P,nr13Γ,nr13E,nr13P,nr9Γ,nr9E,nr9P,nr8Γ,nr8E,nr8P,nr7Γ,nr7E,nr7P,nr6Γ,nr6E,nr6P,nr5Γ,nr5E,nr5P,nr4Γ,nr4E,nr4P,nr3Γ,nr3E,nr3P,nr0Γ,nr0E,nr0P,conWrongF_eq,conLeast,conIdxTI_pre,conIdxTI_val,conCT_pre,conCT_val,conSorted,conFindI_eq,conColF,conSort,conSrtd_eq,conValT_pre,conValT_val,conSofT,conSrtT,conColT,conPdqT,conInsT,conOrI_eq,conCmpI_eq,conLen_eq,conLen64_eq,conChkF_eq,conNumE_eq,conRisI_eq,conRisT_eq,conLvl_eq,conKeyI_eq,conKeyT_eq,conShrtF_eq,conMost_eq,conTimesR_eq,conFits_eq,conWhole_eq,conOrdR_eq,conMkR_eq,conMulR_eq,conCmpR_eq,conRatC_eq,conRInt_eq,conOf_eq,conLow_eq,conDivX_eq,conMakeN_eq,conProd_eq,conDidB_eq,conDidI_eq,conValid_eq,panValid_when,panValid_what,conNeed_eq,panNeed_when,panNeed_what,conGcdN_eq,conMulN_eq,conCmpN2_eq,conPosi_eq,conChk_eq,conBigN_eq,conDiv_eq,conTimes_eq,conNCheck_eq,conLong_eq,conLead64_eq,conShort_eq,conMovE,conTrim_eq,conAt_eq,conNCmp_eq,conBack_eq,conOf9_eq,conDivide_eq,conLess9_eq,conTwo_eq,conRCheck_eq,conRCmpD_eq,inI64]
    refine ⟨fun hc=>⟨⟨by omega,by simp only [maxLen]; omega⟩,⟨by omega,by omega⟩,m+1,by omega,by omega,?_⟩,fun hc=>⟨⟨by omega,by omega⟩,m+1,by omega,by omega,?_⟩⟩
    ·
     rw [e3,if_pos hc]
     exact TurnT.le (by simp -dsimp -implicitDefEqProofs)
    ·
     rw [e3,if_neg (by rw [hc]; decide)]
     exact TurnT.le (by simp -dsimp -implicitDefEqProofs)
   ·
    have hn:¬ m<l.length:=by omega
    obtain rfl:m=l.length:=by omega
    simp -dsimp -implicitDefEqProofs [conFoundR_eq,hn,fa24_all,faT,fa24Γ,fa24E,fa24P,fa23Γ,fa23E,fa23P,fa22Γ,fa22E,fa22P,fa21Γ,fa21E,fa21P,fa20Γ,fa20E,fa20P,fa19Γ,fa19E,fa19P,fa18Γ,fa18E,fa18P,fa17Γ,fa17E,fa17P,fa16Γ,fa16E,fa16P,fa15Γ,fa15E,fa15P,fa14Γ,fa14E,fa14P,fa13Γ,fa13E,fa13P,fa12Γ,fa12E,fa12P,fa11Γ,fa11E,fa11P,fa10Γ,fa10E,fa10P,fa9Γ,fa9E,fa9P,fa8Γ,fa8E,fa8P,fa7Γ,fa7E,fa7P,fa3Γ,fa3E,fa3P,fa2Γ,fa2E,fa2P,fa1Γ,fa1E,fa1P,nr20Γ,nr20E,nr20P,nr19Γ,nr19E,nr19P,nr18Γ,nr18E,nr18P,nr17Γ,nr17E,nr17P,nr16Γ,nr16E,nr16P,nr15Γ,nr15E,nr15P,nr14Γ,nr14E,nr14P,nr13Γ,nr13E,nr13P,nr9Γ,nr9E,nr9P,nr8Γ,nr8E,nr8P,nr7Γ,nr7E,nr7P,nr6Γ,nr6E,nr6P,nr5Γ,nr5E,nr5P,nr4Γ,nr4E,nr4P,nr3Γ,nr3E,nr3P,nr0Γ,nr0E,nr0P,conWrongF_eq,conLeast,conIdxTI_pre,conIdxTI_val,conCT_pre,conCT_val,conSorted,conFindI_eq,conColF,conSort,conSrtd_eq,conValT_pre,conValT_val,conSofT,conSrtT,conColT,conPdqT,conInsT,conOrI_eq,conCmpI_eq,conLen_eq,conLen64_eq,conChkF_eq,conNumE_eq,conRisI_eq,conRisT_eq,conLvl_eq,conKeyI_eq,conKeyT_eq,conShrtF_eq,conMost_eq,conTimesR_eq,conFits_eq,conWhole_eq,conOrdR_eq,conMkR_eq,conMulR_eq,conCmpR_eq,conRatC_eq,conRInt_eq,conOf_eq,conLow_eq,conDivX_eq,conMakeN_eq,conProd_eq,conDidB_eq,conDidI_eq,conValid_eq,panValid_when,panValid_what,conNeed_eq,panNeed_when,panNeed_what,conGcdN_eq,conMulN_eq,conCmpN2_eq,conPosi_eq,conChk_eq,conBigN_eq,conDiv_eq,conTimes_eq,conNCheck_eq,conLong_eq,conLead64_eq,conShort_eq,conMovE,conTrim_eq,conAt_eq,conNCmp_eq,conBack_eq,conOf9_eq,conDivide_eq,conLess9_eq,conTwo_eq,conRCheck_eq,conRCmpD_eq,inI64]
    exact ⟨selL l done l.length,rfl,rfl,hfin,h.symm⟩
def refB (a:tRat.T):List tTst.T→List tTst.T→Bool
 | sm,[]=>sm.any fun x=>fitF (sm.length:Int) x a
 | sm,z::os=>refB a sm os&&refB a (sm++[z]) os
def allT (l:List tTst.T):Prop:=∀ x∈l,okT x
def conRefd (n:Nat):Con:=⟨fun args=>(match args with
 | [.s (.sl (.cons (.int .i64) (.cons (.cons (.cons .bool (.cons (.slice (.int .i64)) .nil)) (.cons (.cons .bool (.cons (.slice (.int .i64)) .nil)) .nil)) .nil)) sm _),.s (.sl (.cons (.int .i64) (.cons (.cons (.cons .bool (.cons (.slice (.int .i64)) .nil)) (.cons (.cons .bool (.cons (.slice (.int .i64)) .nil)) .nil)) .nil)) os _),.agg [.bool k1,.sl (.int .i64) l1 _,.bool k2,.sl (.int .i64) l2 _]]=>os.length≤n∧sm.length+os.length≤1000∧okS k1 l1 k2 l2∧allT sm∧allT os
 | _=>False),fun args=>match args with
 | [.s (.sl (.cons (.int .i64) (.cons (.cons (.cons .bool (.cons (.slice (.int .i64)) .nil)) (.cons (.cons .bool (.cons (.slice (.int .i64)) .nil)) .nil)) .nil)) sm _),.s (.sl (.cons (.int .i64) (.cons (.cons (.cons .bool (.cons (.slice (.int .i64)) .nil)) (.cons (.cons .bool (.cons (.slice (.int .i64)) .nil)) .nil)) .nil)) os _),.agg [.bool k1,.sl (.int .i64) l1 _,.bool k2,.sl (.int .i64) l2 _]]=>.v (aB (refB (mkA k1 l1 k2 l2) sm os))
 | _=>.v (.s .any)⟩
theorem conRefd_eq (n:Nat) (sm os:List tTst.T) (es eo:Bool) (k1:Bool) (l1:List Int) (f1 k2:Bool) (l2:List Int) (f2:Bool) :
  (conRefd n).pre [.s (.sl tTst sm es),.s (.sl tTst os eo),.agg [.bool k1,.sl tI l1 f1,.bool k2,.sl tI l2 f2]]=(os.length≤n∧sm.length+os.length≤1000∧okS k1 l1 k2 l2∧allT sm∧allT os) ∧
  (conRefd n).val [.s (.sl tTst sm es),.s (.sl tTst os eo),.agg [.bool k1,.sl tI l1 f1,.bool k2,.sl tI l2 f2]]=.v (aB (refB (mkA k1 l1 k2 l2) sm os)):=⟨rfl,rfl⟩
def gR (c:List (FuncId×Con)):G:={ τ:=faT,Γ:=c,E:=fa24E,Pn:=fa24P }
theorem gR_all (c:List (FuncId×Con)):(∀ t,(gR c).td t=(look faT t).getD .other)∧(gR c).y=false∧(gR c).Γ=c∧(gR c).E=fa24E∧(gR c).Pn=fa24P∧(gR c).fz=[]:=⟨fun _=>rfl,rfl,rfl,rfl,rfl,rfl⟩
theorem gR_good {n:Nat} (h:PureOk Tryz.prog 39 (conRefd n)):(gR ((39,conRefd n)::fa24Γ)).good Tryz.prog:=good_of_all (faT_ok _ rfl) (fun p hp=>by
 rcases List.mem_cons.1 hp with rfl | hp
 ·
  exact ⟨enters_of Tryz.func39 (by kernel_rfl) rfl,h⟩
 ·
  exact fa24Γ_ok p hp) fa24E_ok fa24P_ok
theorem gR_good0:(gR fa24Γ).good Tryz.prog:=good_of_all (faT_ok _ rfl) fa24Γ_ok fa24E_ok fa24P_ok
theorem refd_of (c:List (FuncId×Con)) (n:Nat) (hg:(gR c).good Tryz.prog) (hΓ:c=fa24Γ∧n=0∨∃ m,n=m+1∧c=(39,conRefd m)::fa24Γ):PureOk Tryz.prog 39 (conRefd n):=by
 refine pureOkD (L:={ live:=[0,1,2,5,6,7,8,11,35,47],frz:=[(3,[7])],fl:=[(2,[(4,0),(4,3),(5,0),(5,3),(6,0),(6,3)])] }) hg rfl nr_mixed Tryz.func39 rfl (conRefd n) 3 (by decide) (by kernel_rfl) ?_
 intro args hpre hlens
 simp only [conRefd] at hpre
 split at hpre
 case h_2=>exact hpre.elim
 rename_i sm es os eo k1 l1 f1 k2 l2 f2
 obtain ⟨hn,hl,ha,hsm,hos⟩:=hpre
 refine ⟨rfl,?_⟩
 cases os with
 | cons z os =>
  rcases hΓ with ⟨_,rfl⟩ | ⟨m,rfl,rfl⟩
  ·
   simp at hn
  ·
   simp at hn hl
   have ho2:allT os:=fun x hx=>hos x (List.mem_cons_of_mem _ hx)
   simp -dsimp -implicitDefEqProofs [Tryz.f39,gR_all,conRefd_eq,fa24_all,faT,fa24Γ,fa24E,fa24P,fa23Γ,fa23E,fa23P,fa22Γ,fa22E,fa22P,fa21Γ,fa21E,fa21P,fa20Γ,fa20E,fa20P,fa19Γ,fa19E,fa19P,fa18Γ,fa18E,fa18P,fa17Γ,fa17E,fa17P,fa16Γ,fa16E,fa16P,fa15Γ,fa15E,fa15P,fa14Γ,fa14E,fa14P,fa13Γ,fa13E,fa13P,fa12Γ,fa12E,fa12P,fa11Γ,fa11E,fa11P,fa10Γ,fa10E,fa10P,fa9Γ,fa9E,fa9P,fa8Γ,fa8E,fa8P,fa7Γ,fa7E,fa7P,fa3Γ,fa3E,fa3P,fa2Γ,fa2E,fa2P,fa1Γ,fa1E,fa1P,nr20Γ,nr20E,nr20P,nr19Γ,nr19E,nr19P,nr18Γ,nr18E,nr18P,nr17Γ,nr17E,nr17P,nr16Γ,nr16E,nr16P,nr15Γ,nr15E,nr15P,nr14Γ,nr14E,nr14P,nr13Γ,nr13E,nr13P,nr9Γ,nr9E,nr9P,nr8Γ,nr8E,nr8P,nr7Γ,nr7E,nr7P,nr6Γ,nr6E,nr6P,nr5Γ,nr5E,nr5P,nr4Γ,nr4E,nr4P,nr3Γ,nr3E,nr3P,nr0Γ,nr0E,nr0P,conWrongF_eq,conLeast,conIdxTI_pre,conIdxTI_val,conCT_pre,conCT_val,conSorted,conFindI_eq,conColF,conSort,conSrtd_eq,conValT_pre,conValT_val,conSofT,conSrtT,conColT,conPdqT,conInsT,conOrI_eq,conCmpI_eq,conLen_eq,conLen64_eq,conChkF_eq,conNumE_eq,conRisI_eq,conRisT_eq,conLvl_eq,conKeyI_eq,conKeyT_eq,conShrtF_eq,conMost_eq,conTimesR_eq,conFits_eq,conWhole_eq,conOrdR_eq,conMkR_eq,conMulR_eq,conCmpR_eq,conRatC_eq,conRInt_eq,conOf_eq,conLow_eq,conDivX_eq,conMakeN_eq,conProd_eq,conDidB_eq,conDidI_eq,conValid_eq,panValid_when,panValid_what,conNeed_eq,panNeed_when,panNeed_what,conGcdN_eq,conMulN_eq,conCmpN2_eq,conPosi_eq,conChk_eq,conBigN_eq,conDiv_eq,conTimes_eq,conNCheck_eq,conLong_eq,conLead64_eq,conShort_eq,conMovE,conTrim_eq,conAt_eq,conNCmp_eq,conBack_eq,conOf9_eq,conDivide_eq,conLess9_eq,conTwo_eq,conRCheck_eq,conRCmpD_eq,inI64]
   refine ⟨⟨by omega,by simp only [maxLen]; omega⟩,⟨by omega,by simp only [maxLen]; omega⟩,sm++[z],rfl,by simp,by omega,⟨by omega,by omega,ha,hsm,ho2⟩,fun h=>⟨h,by omega⟩,fun h=>⟨h,by omega,by simp; omega,ha,fun x hx => ?_,ho2⟩,rfl⟩
   rcases List.mem_append.1 hx with hx | hx
   ·
    exact hsm x hx
   ·
    obtain rfl:=List.mem_singleton.1 hx
    exact hos _ (by simp)
 | nil =>
  simp -dsimp -implicitDefEqProofs [Tryz.f39,gR_all,conRefd_eq,fa24_all,faT,fa24Γ,fa24E,fa24P,fa23Γ,fa23E,fa23P,fa22Γ,fa22E,fa22P,fa21Γ,fa21E,fa21P,fa20Γ,fa20E,fa20P,fa19Γ,fa19E,fa19P,fa18Γ,fa18E,fa18P,fa17Γ,fa17E,fa17P,fa16Γ,fa16E,fa16P,fa15Γ,fa15E,fa15P,fa14Γ,fa14E,fa14P,fa13Γ,fa13E,fa13P,fa12Γ,fa12E,fa12P,fa11Γ,fa11E,fa11P,fa10Γ,fa10E,fa10P,fa9Γ,fa9E,fa9P,fa8Γ,fa8E,fa8P,fa7Γ,fa7E,fa7P,fa3Γ,fa3E,fa3P,fa2Γ,fa2E,fa2P,fa1Γ,fa1E,fa1P,nr20Γ,nr20E,nr20P,nr19Γ,nr19E,nr19P,nr18Γ,nr18E,nr18P,nr17Γ,nr17E,nr17P,nr16Γ,nr16E,nr16P,nr15Γ,nr15E,nr15P,nr14Γ,nr14E,nr14P,nr13Γ,nr13E,nr13P,nr9Γ,nr9E,nr9P,nr8Γ,nr8E,nr8P,nr7Γ,nr7E,nr7P,nr6Γ,nr6E,nr6P,nr5Γ,nr5E,nr5P,nr4Γ,nr4E,nr4P,nr3Γ,nr3E,nr3P,nr0Γ,nr0E,nr0P,conWrongF_eq,conLeast,conIdxTI_pre,conIdxTI_val,conCT_pre,conCT_val,conSorted,conFindI_eq,conColF,conSort,conSrtd_eq,conValT_pre,conValT_val,conSofT,conSrtT,conColT,conPdqT,conInsT,conOrI_eq,conCmpI_eq,conLen_eq,conLen64_eq,conChkF_eq,conNumE_eq,conRisI_eq,conRisT_eq,conLvl_eq,conKeyI_eq,conKeyT_eq,conShrtF_eq,conMost_eq,conTimesR_eq,conFits_eq,conWhole_eq,conOrdR_eq,conMkR_eq,conMulR_eq,conCmpR_eq,conRatC_eq,conRInt_eq,conOf_eq,conLow_eq,conDivX_eq,conMakeN_eq,conProd_eq,conDidB_eq,conDidI_eq,conValid_eq,panValid_when,panValid_what,conNeed_eq,panNeed_when,panNeed_what,conGcdN_eq,conMulN_eq,conCmpN2_eq,conPosi_eq,conChk_eq,conBigN_eq,conDiv_eq,conTimes_eq,conNCheck_eq,conLong_eq,conLead64_eq,conShort_eq,conMovE,conTrim_eq,conAt_eq,conNCmp_eq,conBack_eq,conOf9_eq,conDivide_eq,conLess9_eq,conTwo_eq,conRCheck_eq,conRCmpD_eq,inI64]
  refine WpD.loop (L:={ live:=[0,1,2,5,6,7,8,11,35,47],frz:=[(3,[7])],fl:=[(2,[(4,0),(4,3),(5,0),(5,3),(6,0),(6,3)])] }) hg X0_ok nr_mixed (by kernel_rfl)
   (fun i:Nat=>⟨[(0,vS tTst sm es),(5,⟨true,.v (.s (.box 0 0))⟩),(6,vB false),(8,vI i)],[.cells [.bool k1,.sl tI l1 f1,.bool k2,.sl tI l2 f2]]⟩)
   (fun i=>i≤sm.length∧∀ j (h:j<sm.length),j<i→fitF (sm.length:Int) sm[j] (mkA k1 l1 k2 l2)=false) (fun i=>sm.length - i) 0 ⟨Nat.zero_le _,fun j _ h=>absurd h (by omega)⟩ (Turn.le (by simp -dsimp -implicitDefEqProofs)) ?_
  rintro i ⟨hi,hj⟩
  rcases Nat.lt_or_ge i sm.length with hil | hge
  ·
   have hoi:=hsm _ (List.getElem_mem hil)
   have htp:=times_pre (n:=(sm.length:Int)) (by omega) (by simp at hl; omega) hoi ha
   have htf:=times_fit (n:=(sm.length:Int)) (k1:=k1) (l1:=l1) (l2:=l2) (by omega) hoi
   have hk1:look c 31=look fa24Γ 31:=by
    rcases hΓ with ⟨rfl,_⟩ | ⟨m,_,rfl⟩ <;> rfl
   have hk2:look c 32=look fa24Γ 32:=by
    rcases hΓ with ⟨rfl,_⟩ | ⟨m,_,rfl⟩ <;> rfl
   rw [Int.natAbs_natCast] at htp htf
   simp -dsimp -implicitDefEqProofs [hil,gR_all,conRefd_eq,hk1,hk2,fa24_all,faT,fa24Γ,fa24E,fa24P,fa23Γ,fa23E,fa23P,fa22Γ,fa22E,fa22P,fa21Γ,fa21E,fa21P,fa20Γ,fa20E,fa20P,fa19Γ,fa19E,fa19P,fa18Γ,fa18E,fa18P,fa17Γ,fa17E,fa17P,fa16Γ,fa16E,fa16P,fa15Γ,fa15E,fa15P,fa14Γ,fa14E,fa14P,fa13Γ,fa13E,fa13P,fa12Γ,fa12E,fa12P,fa11Γ,fa11E,fa11P,fa10Γ,fa10E,fa10P,fa9Γ,fa9E,fa9P,fa8Γ,fa8E,fa8P,fa7Γ,fa7E,fa7P,fa3Γ,fa3E,fa3P,fa2Γ,fa2E,fa2P,fa1Γ,fa1E,fa1P,nr20Γ,nr20E,nr20P,nr19Γ,nr19E,nr19P,nr18Γ,nr18E,nr18P,nr17Γ,nr17E,nr17P,nr16Γ,nr16E,nr16P,nr15Γ,nr15E,nr15P,nr14Γ,nr14E,nr14P,nr13Γ,nr13E,nr13P,nr9Γ,nr9E,nr9P,nr8Γ,nr8E,nr8P,nr7Γ,nr7E,nr7P,nr6Γ,nr6E,nr6P,nr5Γ,nr5E,nr5P,nr4Γ,nr4E,nr4P,nr3Γ,nr3E,nr3P,nr0Γ,nr0E,nr0P,conWrongF_eq,conLeast,conIdxTI_pre,conIdxTI_val,conCT_pre,conCT_val,conSorted,conFindI_eq,conColF,conSort,conSrtd_eq,conValT_pre,conValT_val,conSofT,conSrtT,conColT,conPdqT,conInsT,conOrI_eq,conCmpI_eq,conLen_eq,conLen64_eq,conChkF_eq,conNumE_eq,conRisI_eq,conRisT_eq,conLvl_eq,conKeyI_eq,conKeyT_eq,conShrtF_eq,conMost_eq,conTimesR_eq,conFits_eq,conWhole_eq,conOrdR_eq,conMkR_eq,conMulR_eq,conCmpR_eq,conRatC_eq,conRInt_eq,conOf_eq,conLow_eq,conDivX_eq,conMakeN_eq,conProd_eq,conDidB_eq,conDidI_eq,conValid_eq,panValid_when,panValid_what,conNeed_eq,panNeed_when,panNeed_what,conGcdN_eq,conMulN_eq,conCmpN2_eq,conPosi_eq,conChk_eq,conBigN_eq,conDiv_eq,conTimes_eq,conNCheck_eq,conLong_eq,conLead64_eq,conShort_eq,conMovE,conTrim_eq,conAt_eq,conNCmp_eq,conBack_eq,conOf9_eq,conDivide_eq,conLess9_eq,conTwo_eq,conRCheck_eq,conRCmpD_eq,inI64]
   refine ⟨⟨by simp at hl; omega,hoi⟩,htp,fun h => ?_,fun h=>⟨⟨by omega,by omega⟩,i+1,⟨by omega,fun j q1 q2 => ?_⟩,by omega,TurnT.le (by simp -dsimp -implicitDefEqProofs)⟩⟩
   ·
    rw [decide_eq_true h] at htf
    unfold refB
    rw [List.any_eq_true]
    exact ⟨sm[i],List.getElem_mem hil,htf.symm⟩
   ·
    rcases Nat.lt_succ_iff_lt_or_eq.1 q2 with h' | rfl
    ·
     exact hj j q1 h'
    ·
     rw [decide_eq_false (by omega)] at htf
     exact htf.symm
  ·
   have hn':¬ i<sm.length:=by omega
   have hf:refB (mkA k1 l1 k2 l2) sm []=false:=by
    unfold refB
    rw [List.any_eq_false]
    intro x hx
    obtain ⟨j,hjl,rfl⟩:=List.mem_iff_getElem.1 hx
    rw [hj j hjl (by omega)]
    decide
   simp -dsimp -implicitDefEqProofs [hn',gR_all,conRefd_eq,hf,fa24_all,faT,fa24Γ,fa24E,fa24P,fa23Γ,fa23E,fa23P,fa22Γ,fa22E,fa22P,fa21Γ,fa21E,fa21P,fa20Γ,fa20E,fa20P,fa19Γ,fa19E,fa19P,fa18Γ,fa18E,fa18P,fa17Γ,fa17E,fa17P,fa16Γ,fa16E,fa16P,fa15Γ,fa15E,fa15P,fa14Γ,fa14E,fa14P,fa13Γ,fa13E,fa13P,fa12Γ,fa12E,fa12P,fa11Γ,fa11E,fa11P,fa10Γ,fa10E,fa10P,fa9Γ,fa9E,fa9P,fa8Γ,fa8E,fa8P,fa7Γ,fa7E,fa7P,fa3Γ,fa3E,fa3P,fa2Γ,fa2E,fa2P,fa1Γ,fa1E,fa1P,nr20Γ,nr20E,nr20P,nr19Γ,nr19E,nr19P,nr18Γ,nr18E,nr18P,nr17Γ,nr17E,nr17P,nr16Γ,nr16E,nr16P,nr15Γ,nr15E,nr15P,nr14Γ,nr14E,nr14P,nr13Γ,nr13E,nr13P,nr9Γ,nr9E,nr9P,nr8Γ,nr8E,nr8P,nr7Γ,nr7E,nr7P,nr6Γ,nr6E,nr6P,nr5Γ,nr5E,nr5P,nr4Γ,nr4E,nr4P,nr3Γ,nr3E,nr3P,nr0Γ,nr0E,nr0P,conWrongF_eq,conLeast,conIdxTI_pre,conIdxTI_val,conCT_pre,conCT_val,conSorted,conFindI_eq,conColF,conSort,conSrtd_eq,conValT_pre,conValT_val,conSofT,conSrtT,conColT,conPdqT,conInsT,conOrI_eq,conCmpI_eq,conLen_eq,conLen64_eq,conChkF_eq,conNumE_eq,conRisI_eq,conRisT_eq,conLvl_eq,conKeyI_eq,conKeyT_eq,conShrtF_eq,conMost_eq,conTimesR_eq,conFits_eq,conWhole_eq,conOrdR_eq,conMkR_eq,conMulR_eq,conCmpR_eq,conRatC_eq,conRInt_eq,conOf_eq,conLow_eq,conDivX_eq,conMakeN_eq,conProd_eq,conDidB_eq,conDidI_eq,conValid_eq,panValid_when,panValid_what,conNeed_eq,panNeed_when,panNeed_what,conGcdN_eq,conMulN_eq,conCmpN2_eq,conPosi_eq,conChk_eq,conBigN_eq,conDiv_eq,conTimes_eq,conNCheck_eq,conLong_eq,conLead64_eq,conShort_eq,conMovE,conTrim_eq,conAt_eq,conNCmp_eq,conBack_eq,conOf9_eq,conDivide_eq,conLess9_eq,conTwo_eq,conRCheck_eq,conRCmpD_eq,inI64]
theorem refd_ok:∀ n,PureOk Tryz.prog 39 (conRefd n)
 | 0=>refd_of _ 0 gR_good0 (.inl ⟨rfl,rfl⟩)
 | n+1=>refd_of _ (n+1) (gR_good (refd_ok n)) (.inr ⟨n,rfl,rfl⟩)
def fa25Γ:List (FuncId×Con):=(39,(conRefd 1000))::fa24Γ
theorem fa25Γ_ok:∀ p∈fa25Γ,(∀ (args:Array Value) (w:World),(callFunc p.1 args).run Tryz.prog w=.ok (.enter p.1 args) w)∧PureOk Tryz.prog p.1 p.2:=by
 simp only [fa25Γ,List.forall_mem_cons]
 exact ⟨⟨enters_of Tryz.func39 (by kernel_rfl) rfl,(refd_ok 1000)⟩,fa24Γ_ok⟩
def fa25E:List (FuncId×ECon):=fa24E
theorem fa25E_ok:∀ p∈fa25E,(∀ (args:Array Value) (w:World),(callFunc p.1 args).run Tryz.prog w=.ok (.enter p.1 args) w)∧EffOk Tryz.prog p.1 p.2:=by
 simp only [fa25E]
 exact fa24E_ok
def fa25P:List (FuncId×PCon):=fa24P
theorem fa25P_ok:∀ p∈fa25P,(∀ (args:Array Value) (w:World),(callFunc p.1 args).run Tryz.prog w=.ok (.enter p.1 args) w)∧PanOk Tryz.prog p.1 p.2:=by
 simp only [fa25P]
 exact fa24P_ok
def fa25:G:={ τ:=faT,Γ:=fa25Γ,E:=fa25E,Pn:=fa25P }
theorem fa25_good:fa25.good Tryz.prog:=good_of_all (faT_ok _ rfl) fa25Γ_ok fa25E_ok fa25P_ok
theorem fa25_all:(∀ t,fa25.td t=(look faT t).getD .other)∧fa25.y=false∧fa25.Γ=fa25Γ∧fa25.E=fa25E∧fa25.Pn=fa25P∧fa25.fz=[]:=⟨fun _=>rfl,rfl,rfl,rfl,rfl,rfl⟩
def refV (l:List tTst.T) (k1:Bool) (l1:List Int) (k2:Bool) (l2:List Int) (no:Int):Bool:=decide (chkF l k1 l1 k2 l2=0)&&(decide (0≤idxOf (isNo no) l)&&refB (mkA k1 l1 k2 l2) [l[(idxOf (isNo no) l).toNat]?.getD dT] (l.take (idxOf (isNo no) l).toNat++l.drop ((idxOf (isNo no) l).toNat+1)))
theorem refV_e {l:List tTst.T} {k1:Bool} {l1:List Int} {k2:Bool} {l2:List Int} {no:Int} (h:¬ chkF l k1 l1 k2 l2=0):refV l k1 l1 k2 l2 no=false∧closE l k1 l1 k2 l2 no=chkF l k1 l1 k2 l2:=⟨by unfold refV; rw [decide_eq_false h,Bool.false_and],if_neg h⟩
theorem refV_n {l:List tTst.T} {k1:Bool} {l1:List Int} {k2:Bool} {l2:List Int} {no:Int} (h:chkF l k1 l1 k2 l2=0) (h2:idxOf (isNo no) l<0):refV l k1 l1 k2 l2 no=false∧closE l k1 l1 k2 l2 no=1:=⟨by unfold refV; rw [decide_eq_false (show ¬ 0≤idxOf (isNo no) l by omega),Bool.false_and,Bool.and_false],by unfold closE; rw [if_pos h,if_pos h2]⟩
theorem refV_y {l:List tTst.T} {k1:Bool} {l1:List Int} {k2:Bool} {l2:List Int} {no:Int} (h:chkF l k1 l1 k2 l2=0) {i:Nat} (h2:idxOf (isNo no) l=i):refV l k1 l1 k2 l2 no=refB (mkA k1 l1 k2 l2) [l[i]?.getD dT] (l.take i++l.drop (i+1))∧closE l k1 l1 k2 l2 no=0:=⟨by unfold refV; rw [decide_eq_true h,h2,decide_eq_true (by omega),Int.toNat_natCast,Bool.true_and,Bool.true_and],by unfold closE; rw [if_pos h,if_neg (by omega)]⟩
def conClosedR:Con:=⟨fun args=>(match args with
 | [.s (.sl (.cons (.int .i64) (.cons (.cons (.cons .bool (.cons (.slice (.int .i64)) .nil)) (.cons (.cons .bool (.cons (.slice (.int .i64)) .nil)) .nil)) .nil)) l _),.agg [.bool k1,.sl (.int .i64) l1 _,.bool k2,.sl (.int .i64) l2 _],.s (.int .i64 no)]=>l.length≤900
 | _=>False),fun args=>match args with
 | [.s (.sl (.cons (.int .i64) (.cons (.cons (.cons .bool (.cons (.slice (.int .i64)) .nil)) (.cons (.cons .bool (.cons (.slice (.int .i64)) .nil)) .nil)) .nil)) l _),.agg [.bool k1,.sl (.int .i64) l1 _,.bool k2,.sl (.int .i64) l2 _],.s (.int _ no)]=>.tup [aB (refV l k1 l1 k2 l2 no),aI (closE l k1 l1 k2 l2 no)]
 | _=>.v (.s .any)⟩
theorem conClosedR_eq (l:List (Ty.T tTst)) (exl:Bool) (k1:Bool) (l1:List (Ty.T tI)) (exl1:Bool) (k2:Bool) (l2:List (Ty.T tI)) (exl2:Bool) (no:Int):conClosedR.pre [.s (.sl tTst l exl),.agg [.bool k1,.sl tI l1 exl1,.bool k2,.sl tI l2 exl2],.s (.int .i64 no)]=(l.length≤900)∧conClosedR.val [.s (.sl tTst l exl),.agg [.bool k1,.sl tI l1 exl1,.bool k2,.sl tI l2 exl2],.s (.int .i64 no)]=.tup [aB (refV l k1 l1 k2 l2 no),aI (closE l k1 l1 k2 l2 no)]:=⟨rfl,rfl⟩
theorem closedr_ok:PureOk Tryz.prog 14 conClosedR:=by
 refine pureOkD (L:={ live:=[0,1,2,4,6,7,8,9,10,15,20,29],frz:=[(9,[10])],fl:=[(8,[(3,0),(8,0),(8,5)])] }) fa25_good rfl nr_mixed Tryz.func14 rfl conClosedR 3 (by decide) (by kernel_rfl) ?_
 intro args hpre hlens
 simp only [conClosedR] at hpre
 split at hpre
 case h_2=>exact hpre.elim
 rename_i l el k1 l1 f1 k2 l2 f2 no
 simp only [allLen,AV.lenOk,SV.lenOk,Ty.lenOk,maxLen,and_true,implies_true,true_and,List.forall_mem_cons,List.not_mem_nil,false_implies] at hlens
 refine ⟨rfl,?_⟩
 simp -dsimp -implicitDefEqProofs [Tryz.f14,conClosedR_eq,conRefd_eq,fa25_all,faT,fa25Γ,fa25E,fa25P,fa24Γ,fa24E,fa24P,fa23Γ,fa23E,fa23P,fa22Γ,fa22E,fa22P,fa21Γ,fa21E,fa21P,fa20Γ,fa20E,fa20P,fa19Γ,fa19E,fa19P,fa18Γ,fa18E,fa18P,fa17Γ,fa17E,fa17P,fa16Γ,fa16E,fa16P,fa15Γ,fa15E,fa15P,fa14Γ,fa14E,fa14P,fa13Γ,fa13E,fa13P,fa12Γ,fa12E,fa12P,fa11Γ,fa11E,fa11P,fa10Γ,fa10E,fa10P,fa9Γ,fa9E,fa9P,fa8Γ,fa8E,fa8P,fa7Γ,fa7E,fa7P,fa3Γ,fa3E,fa3P,fa2Γ,fa2E,fa2P,fa1Γ,fa1E,fa1P,nr20Γ,nr20E,nr20P,nr19Γ,nr19E,nr19P,nr18Γ,nr18E,nr18P,nr17Γ,nr17E,nr17P,nr16Γ,nr16E,nr16P,nr15Γ,nr15E,nr15P,nr14Γ,nr14E,nr14P,nr13Γ,nr13E,nr13P,nr9Γ,nr9E,nr9P,nr8Γ,nr8E,nr8P,nr7Γ,nr7E,nr7P,nr6Γ,nr6E,nr6P,nr5Γ,nr5E,nr5P,nr4Γ,nr4E,nr4P,nr3Γ,nr3E,nr3P,nr0Γ,nr0E,nr0P,conWrongF_eq,conLeast,conIdxTI_pre,conIdxTI_val,conCT_pre,conCT_val,conSorted,conFindI_eq,conColF,conSort,conSrtd_eq,conValT_pre,conValT_val,conSofT,conSrtT,conColT,conPdqT,conInsT,conOrI_eq,conCmpI_eq,conLen_eq,conLen64_eq,conChkF_eq,conNumE_eq,conRisI_eq,conRisT_eq,conLvl_eq,conKeyI_eq,conKeyT_eq,conShrtF_eq,conMost_eq,conTimesR_eq,conFits_eq,conWhole_eq,conOrdR_eq,conMkR_eq,conMulR_eq,conCmpR_eq,conRatC_eq,conRInt_eq,conOf_eq,conLow_eq,conDivX_eq,conMakeN_eq,conProd_eq,conDidB_eq,conDidI_eq,conValid_eq,panValid_when,panValid_what,conNeed_eq,panNeed_when,panNeed_what,conGcdN_eq,conMulN_eq,conCmpN2_eq,conPosi_eq,conChk_eq,conBigN_eq,conDiv_eq,conTimes_eq,conNCheck_eq,conLong_eq,conLead64_eq,conShort_eq,conMovE,conTrim_eq,conAt_eq,conNCmp_eq,conBack_eq,conOf9_eq,conDivide_eq,conLess9_eq,conTwo_eq,conRCheck_eq,conRCmpD_eq,inI64]
 obtain ⟨l1,rfl⟩:∃ y:List Int,y=l1:=⟨l1,rfl⟩; obtain ⟨l2,rfl⟩:∃ y:List Int,y=l2:=⟨l2,rfl⟩
 have hpre:l.length≤900:=hpre
 refine ⟨by omega,fun h=>⟨(refV_e h).1,(refV_e h).2.symm⟩,fun h => ?_⟩
 obtain ⟨_,hf,hl⟩:=chkF_0.1 h
 obtain ⟨hok,hnd⟩:=fam_ok hf
 refine WpD.loop (L:={ live:=[0,1,2,4,6,7,8,9,10,15,20,29],frz:=[(9,[10])],fl:=[(8,[(3,0),(8,0),(8,5)])] }) fa25_good X0_ok nr_mixed (by kernel_rfl)
  (fun i:Nat=>⟨[(0,vS tTst l el),(2,vI no),(4,⟨true,.v (.s (.box 0 0))⟩),(9,vI i)],[.cells [.bool k1,.sl tI l1 f1,.bool k2,.sl tI l2 f2]]⟩)
  (fun i=>i≤l.length∧∀ j,j<i→isNo no (l[j]?.getD dT)=false) (fun i=>l.length - i) 0 ⟨Nat.zero_le _,fun j h=>absurd h (by omega)⟩ (Turn.le (by simp -dsimp -implicitDefEqProofs)) ?_
 rintro i ⟨hi,hj⟩
 rcases Nat.lt_or_ge i l.length with hil | hge
 ·
  have hone:List.drop i (List.take (i+1) l)=[l[i]]:=by
   rw [List.drop_take,show i+1 - i=1 by omega,List.drop_eq_getElem_cons hil]; rfl
  have hlen:(l.take i++l.drop (i+1)).length=min i l.length+(l.length - (i+1)):=by rw [List.length_append,List.length_take,List.length_drop]
  have hgd:l[i]?.getD dT=l[i]:=by rw [List.getElem?_eq_getElem hil]; rfl
  simp -dsimp -implicitDefEqProofs [conClosedR_eq,conRefd_eq,hil,fa25_all,faT,fa25Γ,fa25E,fa25P,fa24Γ,fa24E,fa24P,fa23Γ,fa23E,fa23P,fa22Γ,fa22E,fa22P,fa21Γ,fa21E,fa21P,fa20Γ,fa20E,fa20P,fa19Γ,fa19E,fa19P,fa18Γ,fa18E,fa18P,fa17Γ,fa17E,fa17P,fa16Γ,fa16E,fa16P,fa15Γ,fa15E,fa15P,fa14Γ,fa14E,fa14P,fa13Γ,fa13E,fa13P,fa12Γ,fa12E,fa12P,fa11Γ,fa11E,fa11P,fa10Γ,fa10E,fa10P,fa9Γ,fa9E,fa9P,fa8Γ,fa8E,fa8P,fa7Γ,fa7E,fa7P,fa3Γ,fa3E,fa3P,fa2Γ,fa2E,fa2P,fa1Γ,fa1E,fa1P,nr20Γ,nr20E,nr20P,nr19Γ,nr19E,nr19P,nr18Γ,nr18E,nr18P,nr17Γ,nr17E,nr17P,nr16Γ,nr16E,nr16P,nr15Γ,nr15E,nr15P,nr14Γ,nr14E,nr14P,nr13Γ,nr13E,nr13P,nr9Γ,nr9E,nr9P,nr8Γ,nr8E,nr8P,nr7Γ,nr7E,nr7P,nr6Γ,nr6E,nr6P,nr5Γ,nr5E,nr5P,nr4Γ,nr4E,nr4P,nr3Γ,nr3E,nr3P,nr0Γ,nr0E,nr0P,conWrongF_eq,conLeast,conIdxTI_pre,conIdxTI_val,conCT_pre,conCT_val,conSorted,conFindI_eq,conColF,conSort,conSrtd_eq,conValT_pre,conValT_val,conSofT,conSrtT,conColT,conPdqT,conInsT,conOrI_eq,conCmpI_eq,conLen_eq,conLen64_eq,conChkF_eq,conNumE_eq,conRisI_eq,conRisT_eq,conLvl_eq,conKeyI_eq,conKeyT_eq,conShrtF_eq,conMost_eq,conTimesR_eq,conFits_eq,conWhole_eq,conOrdR_eq,conMkR_eq,conMulR_eq,conCmpR_eq,conRatC_eq,conRInt_eq,conOf_eq,conLow_eq,conDivX_eq,conMakeN_eq,conProd_eq,conDidB_eq,conDidI_eq,conValid_eq,panValid_when,panValid_what,conNeed_eq,panNeed_when,panNeed_what,conGcdN_eq,conMulN_eq,conCmpN2_eq,conPosi_eq,conChk_eq,conBigN_eq,conDiv_eq,conTimes_eq,conNCheck_eq,conLong_eq,conLead64_eq,conShort_eq,conMovE,conTrim_eq,conAt_eq,conNCmp_eq,conBack_eq,conOf9_eq,conDivide_eq,conLess9_eq,conTwo_eq,conRCheck_eq,conRCmpD_eq,inI64]
  refine ⟨fun he=>⟨⟨by omega,⟨by omega,by simp only [maxLen]; omega⟩,⟨by omega,by omega⟩,⟨by omega,by omega⟩,⟨by omega,by simp only [maxLen]; omega⟩,l.take i++l.drop (i+1),rfl,hlen.symm,⟨by omega,by omega⟩,⟨by omega,by omega⟩,⟨by omega,by omega,lvl_ok0 hl,?_,?_⟩,?_⟩,by omega,by omega,by omega⟩,fun he=>⟨⟨by omega,by omega⟩,i+1,⟨by omega,fun j q => ?_⟩,by omega,TurnT.le (by simp -dsimp -implicitDefEqProofs)⟩⟩
  ·
   rw [hone]
   intro x hx
   obtain rfl:=List.mem_singleton.1 hx
   exact hok _ (List.getElem_mem hil)
  ·
   intro x hx
   rcases List.mem_append.1 hx with hx | hx
   ·
    exact hok _ (List.mem_of_mem_take hx)
   ·
    exact hok _ (List.mem_of_mem_drop hx)
  ·
   have hix:idxOf (isNo no) l=i:=idxOf_at hil dT (by rw [hgd]; exact decide_eq_true he) hj
   obtain ⟨r1,r2⟩:=refV_y h hix
   rw [r1,hgd,hone,r2]
   exact ⟨rfl,rfl⟩
  ·
   rcases Nat.lt_succ_iff_lt_or_eq.1 q with h' | rfl
   ·
    exact hj j h'
   ·
    rw [hgd]; exact decide_eq_false he
 ·
  have hn:¬ i<l.length:=by omega
  have hix:idxOf (isNo no) l<0:=by rw [idxOf_none dT fun j hjl=>hj j (by omega)]; decide
  simp -dsimp -implicitDefEqProofs [conClosedR_eq,hn,fa25_all,faT,fa25Γ,fa25E,fa25P,fa24Γ,fa24E,fa24P,fa23Γ,fa23E,fa23P,fa22Γ,fa22E,fa22P,fa21Γ,fa21E,fa21P,fa20Γ,fa20E,fa20P,fa19Γ,fa19E,fa19P,fa18Γ,fa18E,fa18P,fa17Γ,fa17E,fa17P,fa16Γ,fa16E,fa16P,fa15Γ,fa15E,fa15P,fa14Γ,fa14E,fa14P,fa13Γ,fa13E,fa13P,fa12Γ,fa12E,fa12P,fa11Γ,fa11E,fa11P,fa10Γ,fa10E,fa10P,fa9Γ,fa9E,fa9P,fa8Γ,fa8E,fa8P,fa7Γ,fa7E,fa7P,fa3Γ,fa3E,fa3P,fa2Γ,fa2E,fa2P,fa1Γ,fa1E,fa1P,nr20Γ,nr20E,nr20P,nr19Γ,nr19E,nr19P,nr18Γ,nr18E,nr18P,nr17Γ,nr17E,nr17P,nr16Γ,nr16E,nr16P,nr15Γ,nr15E,nr15P,nr14Γ,nr14E,nr14P,nr13Γ,nr13E,nr13P,nr9Γ,nr9E,nr9P,nr8Γ,nr8E,nr8P,nr7Γ,nr7E,nr7P,nr6Γ,nr6E,nr6P,nr5Γ,nr5E,nr5P,nr4Γ,nr4E,nr4P,nr3Γ,nr3E,nr3P,nr0Γ,nr0E,nr0P,conWrongF_eq,conLeast,conIdxTI_pre,conIdxTI_val,conCT_pre,conCT_val,conSorted,conFindI_eq,conColF,conSort,conSrtd_eq,conValT_pre,conValT_val,conSofT,conSrtT,conColT,conPdqT,conInsT,conOrI_eq,conCmpI_eq,conLen_eq,conLen64_eq,conChkF_eq,conNumE_eq,conRisI_eq,conRisT_eq,conLvl_eq,conKeyI_eq,conKeyT_eq,conShrtF_eq,conMost_eq,conTimesR_eq,conFits_eq,conWhole_eq,conOrdR_eq,conMkR_eq,conMulR_eq,conCmpR_eq,conRatC_eq,conRInt_eq,conOf_eq,conLow_eq,conDivX_eq,conMakeN_eq,conProd_eq,conDidB_eq,conDidI_eq,conValid_eq,panValid_when,panValid_what,conNeed_eq,panNeed_when,panNeed_what,conGcdN_eq,conMulN_eq,conCmpN2_eq,conPosi_eq,conChk_eq,conBigN_eq,conDiv_eq,conTimes_eq,conNCheck_eq,conLong_eq,conLead64_eq,conShort_eq,conMovE,conTrim_eq,conAt_eq,conNCmp_eq,conBack_eq,conOf9_eq,conDivide_eq,conLess9_eq,conTwo_eq,conRCheck_eq,conRCmpD_eq,inI64]
  exact ⟨(refV_n h hix).1,(refV_n h hix).2.symm⟩
def flT:List (TypeId×TD):=[(1,.func),(2,.sc tI),(3,.sc tI),(4,.sc .bool),(5,.sc (.int .u8)),(9,.sc .str),(22,.slice 52 tTst 72),(23,.slice 3 tI 8),(25,.struct tBig),(27,.struct tRat),(30,.sc tI),(34,.func),(38,.arr 32 5 (.int .u8)),(46,.slice 5 (.int .u8) 1),(52,.struct tTst),(54,.slice 4 .bool 1),(65,.func),(71,.func),(78,.func),(119,.slice 22 (.slice tTst) 24)]
theorem flT_ok (g:G) (hg:g.τ=flT):G.ok Tryz.prog g:=by
 refine ok_of_all ?_
 rw [hg]
 simp only [flT,List.forall_mem_cons]
 refine ⟨?_,?_,?_,?_,?_,?_,?_,?_,?_,?_,?_,?_,?_,?_,?_,?_,?_,?_,?_,?_,by simp⟩
 ·
  exact ⟨⟨_,_,_,Tryz.underlying1⟩,by kernel_rfl⟩
 ·
  exact ⟨by kernel_rfl,rfl,by kernel_rfl,rfl⟩
 ·
  exact ⟨by kernel_rfl,rfl,by kernel_rfl,rfl⟩
 ·
  exact ⟨by kernel_rfl,rfl,by kernel_rfl,rfl⟩
 ·
  exact ⟨by kernel_rfl,rfl,by kernel_rfl,rfl⟩
 ·
  exact ⟨by kernel_rfl,rfl,by kernel_rfl,rfl⟩
 ·
  exact ⟨by kernel_rfl,by decide,by kernel_rfl,⟨cellsV (Ty.zcells tTst),by kernel_rfl,by kernel_rfl,by kernel_rfl⟩,by kernel_rfl⟩
 ·
  exact ⟨by kernel_rfl,by decide,by kernel_rfl,⟨cellsV (Ty.zcells tI),by kernel_rfl,by kernel_rfl,by kernel_rfl⟩,by kernel_rfl⟩
 ·
  exact ⟨fieldsOf Tryz.prog 25,by kernel_rfl,by kernel_rfl,by kernel_rfl,by decide,by kernel_rfl⟩
 ·
  exact ⟨fieldsOf Tryz.prog 27,by kernel_rfl,by kernel_rfl,by kernel_rfl,by decide,by kernel_rfl⟩
 ·
  exact ⟨by kernel_rfl,rfl,by kernel_rfl,rfl⟩
 ·
  exact ⟨⟨_,_,_,Tryz.underlying34⟩,by kernel_rfl⟩
 ·
  exact ⟨by kernel_rfl,by kernel_rfl,by kernel_rfl⟩
 ·
  exact ⟨by kernel_rfl,by decide,by kernel_rfl,⟨cellsV (Ty.zcells (.int .u8)),by kernel_rfl,by kernel_rfl,by kernel_rfl⟩,by kernel_rfl⟩
 ·
  exact ⟨fieldsOf Tryz.prog 52,by kernel_rfl,by kernel_rfl,by kernel_rfl,by decide,by kernel_rfl⟩
 ·
  exact ⟨by kernel_rfl,by decide,by kernel_rfl,⟨cellsV (Ty.zcells .bool),by kernel_rfl,by kernel_rfl,by kernel_rfl⟩,by kernel_rfl⟩
 ·
  exact ⟨⟨_,_,_,Tryz.underlying65⟩,by kernel_rfl⟩
 ·
  exact ⟨⟨_,_,_,Tryz.underlying71⟩,by kernel_rfl⟩
 ·
  exact ⟨⟨_,_,_,Tryz.underlying78⟩,by kernel_rfl⟩
 ·
  exact ⟨by kernel_rfl,by decide,by kernel_rfl,⟨cellsV (Ty.zcells (.slice tTst)),by kernel_rfl,by kernel_rfl,by kernel_rfl⟩,by kernel_rfl⟩
def fl0Γ:List (FuncId×Con):=(11,conFound)::(13,conClosed)::(12,conFoundR)::(14,conClosedR)::(25,conFewR)::fa25Γ
theorem fl0Γ_ok:∀ p∈fl0Γ,(∀ (args:Array Value) (w:World),(callFunc p.1 args).run Tryz.prog w=.ok (.enter p.1 args) w)∧PureOk Tryz.prog p.1 p.2:=by
 simp only [fl0Γ,List.forall_mem_cons]
 exact ⟨⟨enters_of Tryz.func11 (by kernel_rfl) rfl,found_ok⟩,⟨enters_of Tryz.func13 (by kernel_rfl) rfl,closed_ok⟩,⟨enters_of Tryz.func12 (by kernel_rfl) rfl,foundr_ok⟩,⟨enters_of Tryz.func14 (by kernel_rfl) rfl,closedr_ok⟩,⟨enters_of Tryz.func25 (by kernel_rfl) rfl,fewr_ok⟩,fa25Γ_ok⟩
def fl0E:List (FuncId×ECon):=fa25E
theorem fl0E_ok:∀ p∈fl0E,(∀ (args:Array Value) (w:World),(callFunc p.1 args).run Tryz.prog w=.ok (.enter p.1 args) w)∧EffOk Tryz.prog p.1 p.2:=by
 simp only [fl0E]
 exact fa25E_ok
def fl0P:List (FuncId×PCon):=fa25P
theorem fl0P_ok:∀ p∈fl0P,(∀ (args:Array Value) (w:World),(callFunc p.1 args).run Tryz.prog w=.ok (.enter p.1 args) w)∧PanOk Tryz.prog p.1 p.2:=by
 simp only [fl0P]
 exact fa25P_ok
def fl0:G:={ τ:=flT,Γ:=fl0Γ,E:=fl0E,Pn:=fl0P }
theorem fl0_good:fl0.good Tryz.prog:=good_of_all (flT_ok _ rfl) fl0Γ_ok fl0E_ok fl0P_ok
theorem fl0_all:(∀ t,fl0.td t=(look flT t).getD .other)∧fl0.y=false∧fl0.Γ=fl0Γ∧fl0.E=fl0E∧fl0.Pn=fl0P∧fl0.fz=[]:=⟨fun _=>rfl,rfl,rfl,rfl,rfl,rfl⟩
def conSameI:Con:=⟨fun args=>(match args with
 | [.s (.sl (.int .i64) a _),.s (.sl (.int .i64) b _)]=>True
 | _=>False),fun args=>match args with
 | [.s (.sl (.int .i64) a _),.s (.sl (.int .i64) b _)]=>.v (aB (decide (a=b)))
 | _=>.v (.s .any)⟩
theorem conSameI_eq (a:List (Ty.T tI)) (exa:Bool) (b:List (Ty.T tI)) (exb:Bool):conSameI.pre [.s (.sl tI a exa),.s (.sl tI b exb)]=(True)∧conSameI.val [.s (.sl tI a exa),.s (.sl tI b exb)]=.v (aB (decide (a=b))):=⟨rfl,rfl⟩
theorem samei_ok:PureOk Tryz.prog 15 conSameI:=by
 refine pureOkD (L:={ live:=[0,1,4,5,10,14,25] }) fl0_good rfl nr_mixed Tryz.func15 rfl conSameI 2 (by decide) (by kernel_rfl) ?_
 intro args hpre hlens
 simp only [conSameI] at hpre
 split at hpre
 case h_2=>exact hpre.elim
 rename_i a ea b eb
 simp only [allLen,AV.lenOk,SV.lenOk,Ty.lenOk,maxLen,and_true,implies_true,true_and,List.forall_mem_cons,List.not_mem_nil,false_implies] at hlens
 refine ⟨rfl,?_⟩
 simp -dsimp -implicitDefEqProofs [Tryz.f15,conSameI_eq,fl0_all,flT,fl0Γ,fl0E,fl0P,fa25Γ,fa25E,fa25P,fa24Γ,fa24E,fa24P,fa23Γ,fa23E,fa23P,fa22Γ,fa22E,fa22P,fa21Γ,fa21E,fa21P,fa20Γ,fa20E,fa20P,fa19Γ,fa19E,fa19P,fa18Γ,fa18E,fa18P,fa17Γ,fa17E,fa17P,fa16Γ,fa16E,fa16P,fa15Γ,fa15E,fa15P,fa14Γ,fa14E,fa14P,fa13Γ,fa13E,fa13P,fa12Γ,fa12E,fa12P,fa11Γ,fa11E,fa11P,fa10Γ,fa10E,fa10P,fa9Γ,fa9E,fa9P,fa8Γ,fa8E,fa8P,fa7Γ,fa7E,fa7P,fa3Γ,fa3E,fa3P,fa2Γ,fa2E,fa2P,fa1Γ,fa1E,fa1P,nr20Γ,nr20E,nr20P,nr19Γ,nr19E,nr19P,nr18Γ,nr18E,nr18P,nr17Γ,nr17E,nr17P,nr16Γ,nr16E,nr16P,nr15Γ,nr15E,nr15P,nr14Γ,nr14E,nr14P,nr13Γ,nr13E,nr13P,nr9Γ,nr9E,nr9P,nr8Γ,nr8E,nr8P,nr7Γ,nr7E,nr7P,nr6Γ,nr6E,nr6P,nr5Γ,nr5E,nr5P,nr4Γ,nr4E,nr4P,nr3Γ,nr3E,nr3P,nr0Γ,nr0E,nr0P,conFound_eq,conClosed_eq,conFoundR_eq,conClosedR_eq,conFewR_eq,conWrongF_eq,conLeast,conIdxTI_pre,conIdxTI_val,conCT_pre,conCT_val,conSorted,conFindI_eq,conColF,conSort,conSrtd_eq,conValT_pre,conValT_val,conSofT,conSrtT,conColT,conPdqT,conInsT,conOrI_eq,conCmpI_eq,conLen_eq,conLen64_eq,conChkF_eq,conNumE_eq,conRisI_eq,conRisT_eq,conLvl_eq,conKeyI_eq,conKeyT_eq,conShrtF_eq,conMost_eq,conTimesR_eq,conFits_eq,conWhole_eq,conOrdR_eq,conMkR_eq,conMulR_eq,conCmpR_eq,conRatC_eq,conRInt_eq,conOf_eq,conLow_eq,conDivX_eq,conMakeN_eq,conProd_eq,conDidB_eq,conDidI_eq,conValid_eq,panValid_when,panValid_what,conNeed_eq,panNeed_when,panNeed_what,conGcdN_eq,conMulN_eq,conCmpN2_eq,conPosi_eq,conChk_eq,conBigN_eq,conDiv_eq,conTimes_eq,conNCheck_eq,conLong_eq,conLead64_eq,conShort_eq,conMovE,conTrim_eq,conAt_eq,conNCmp_eq,conBack_eq,conOf9_eq,conDivide_eq,conLess9_eq,conTwo_eq,conRCheck_eq,conRCmpD_eq,inI64]
 obtain ⟨a,rfl⟩:∃ y:List Int,y=a:=⟨a,rfl⟩; obtain ⟨b,rfl⟩:∃ y:List Int,y=b:=⟨b,rfl⟩
 refine ⟨fun h e=>h (by rw [e]),fun hlen => ?_⟩
 have hlen':a.length=b.length:=by omega
 refine WpD.loop (L:={ live:=[0,1,4,5,10,14,25] }) fl0_good X0_ok nr_mixed (by kernel_rfl)
  (fun i:Nat=>⟨[(0,vS tI a ea),(1,vS tI b eb),(5,vI i)],[]⟩)
  (fun i=>i≤a.length∧a.take i=b.take i) (fun i=>a.length - i) 0 ⟨Nat.zero_le _,by simp⟩ (Turn.le (by simp -dsimp -implicitDefEqProofs)) ?_
 rintro i ⟨hi,hpre⟩
 rcases Nat.lt_or_ge i a.length with hil | hge
 ·
  have hib:i<b.length:=by omega
  simp -dsimp -implicitDefEqProofs [conSameI_eq,hil,hib,fl0_all,flT,fl0Γ,fl0E,fl0P,fa25Γ,fa25E,fa25P,fa24Γ,fa24E,fa24P,fa23Γ,fa23E,fa23P,fa22Γ,fa22E,fa22P,fa21Γ,fa21E,fa21P,fa20Γ,fa20E,fa20P,fa19Γ,fa19E,fa19P,fa18Γ,fa18E,fa18P,fa17Γ,fa17E,fa17P,fa16Γ,fa16E,fa16P,fa15Γ,fa15E,fa15P,fa14Γ,fa14E,fa14P,fa13Γ,fa13E,fa13P,fa12Γ,fa12E,fa12P,fa11Γ,fa11E,fa11P,fa10Γ,fa10E,fa10P,fa9Γ,fa9E,fa9P,fa8Γ,fa8E,fa8P,fa7Γ,fa7E,fa7P,fa3Γ,fa3E,fa3P,fa2Γ,fa2E,fa2P,fa1Γ,fa1E,fa1P,nr20Γ,nr20E,nr20P,nr19Γ,nr19E,nr19P,nr18Γ,nr18E,nr18P,nr17Γ,nr17E,nr17P,nr16Γ,nr16E,nr16P,nr15Γ,nr15E,nr15P,nr14Γ,nr14E,nr14P,nr13Γ,nr13E,nr13P,nr9Γ,nr9E,nr9P,nr8Γ,nr8E,nr8P,nr7Γ,nr7E,nr7P,nr6Γ,nr6E,nr6P,nr5Γ,nr5E,nr5P,nr4Γ,nr4E,nr4P,nr3Γ,nr3E,nr3P,nr0Γ,nr0E,nr0P,conFound_eq,conClosed_eq,conFoundR_eq,conClosedR_eq,conFewR_eq,conWrongF_eq,conLeast,conIdxTI_pre,conIdxTI_val,conCT_pre,conCT_val,conSorted,conFindI_eq,conColF,conSort,conSrtd_eq,conValT_pre,conValT_val,conSofT,conSrtT,conColT,conPdqT,conInsT,conOrI_eq,conCmpI_eq,conLen_eq,conLen64_eq,conChkF_eq,conNumE_eq,conRisI_eq,conRisT_eq,conLvl_eq,conKeyI_eq,conKeyT_eq,conShrtF_eq,conMost_eq,conTimesR_eq,conFits_eq,conWhole_eq,conOrdR_eq,conMkR_eq,conMulR_eq,conCmpR_eq,conRatC_eq,conRInt_eq,conOf_eq,conLow_eq,conDivX_eq,conMakeN_eq,conProd_eq,conDidB_eq,conDidI_eq,conValid_eq,panValid_when,panValid_what,conNeed_eq,panNeed_when,panNeed_what,conGcdN_eq,conMulN_eq,conCmpN2_eq,conPosi_eq,conChk_eq,conBigN_eq,conDiv_eq,conTimes_eq,conNCheck_eq,conLong_eq,conLead64_eq,conShort_eq,conMovE,conTrim_eq,conAt_eq,conNCmp_eq,conBack_eq,conOf9_eq,conDivide_eq,conLess9_eq,conTwo_eq,conRCheck_eq,conRCmpD_eq,inI64]
  refine ⟨fun h e => ?_,fun h=>⟨⟨by omega,by omega⟩,i+1,⟨by omega,?_⟩,by omega,TurnT.le (by simp -dsimp -implicitDefEqProofs)⟩⟩
  ·
   subst e; exact h rfl
  ·
   rw [List.take_add_one,List.take_add_one,hpre,List.getElem?_eq_getElem hil,List.getElem?_eq_getElem hib,h]
 ·
  obtain rfl:i=a.length:=by omega
  have hn:¬ a.length<a.length:=by omega
  have heq:a=b:=by rwa [List.take_length,hlen',List.take_length] at hpre
  simp -dsimp -implicitDefEqProofs [conSameI_eq,hn,fl0_all,flT,fl0Γ,fl0E,fl0P,fa25Γ,fa25E,fa25P,fa24Γ,fa24E,fa24P,fa23Γ,fa23E,fa23P,fa22Γ,fa22E,fa22P,fa21Γ,fa21E,fa21P,fa20Γ,fa20E,fa20P,fa19Γ,fa19E,fa19P,fa18Γ,fa18E,fa18P,fa17Γ,fa17E,fa17P,fa16Γ,fa16E,fa16P,fa15Γ,fa15E,fa15P,fa14Γ,fa14E,fa14P,fa13Γ,fa13E,fa13P,fa12Γ,fa12E,fa12P,fa11Γ,fa11E,fa11P,fa10Γ,fa10E,fa10P,fa9Γ,fa9E,fa9P,fa8Γ,fa8E,fa8P,fa7Γ,fa7E,fa7P,fa3Γ,fa3E,fa3P,fa2Γ,fa2E,fa2P,fa1Γ,fa1E,fa1P,nr20Γ,nr20E,nr20P,nr19Γ,nr19E,nr19P,nr18Γ,nr18E,nr18P,nr17Γ,nr17E,nr17P,nr16Γ,nr16E,nr16P,nr15Γ,nr15E,nr15P,nr14Γ,nr14E,nr14P,nr13Γ,nr13E,nr13P,nr9Γ,nr9E,nr9P,nr8Γ,nr8E,nr8P,nr7Γ,nr7E,nr7P,nr6Γ,nr6E,nr6P,nr5Γ,nr5E,nr5P,nr4Γ,nr4E,nr4P,nr3Γ,nr3E,nr3P,nr0Γ,nr0E,nr0P,conFound_eq,conClosed_eq,conFoundR_eq,conClosedR_eq,conFewR_eq,conWrongF_eq,conLeast,conIdxTI_pre,conIdxTI_val,conCT_pre,conCT_val,conSorted,conFindI_eq,conColF,conSort,conSrtd_eq,conValT_pre,conValT_val,conSofT,conSrtT,conColT,conPdqT,conInsT,conOrI_eq,conCmpI_eq,conLen_eq,conLen64_eq,conChkF_eq,conNumE_eq,conRisI_eq,conRisT_eq,conLvl_eq,conKeyI_eq,conKeyT_eq,conShrtF_eq,conMost_eq,conTimesR_eq,conFits_eq,conWhole_eq,conOrdR_eq,conMkR_eq,conMulR_eq,conCmpR_eq,conRatC_eq,conRInt_eq,conOf_eq,conLow_eq,conDivX_eq,conMakeN_eq,conProd_eq,conDidB_eq,conDidI_eq,conValid_eq,panValid_when,panValid_what,conNeed_eq,panNeed_when,panNeed_what,conGcdN_eq,conMulN_eq,conCmpN2_eq,conPosi_eq,conChk_eq,conBigN_eq,conDiv_eq,conTimes_eq,conNCheck_eq,conLong_eq,conLead64_eq,conShort_eq,conMovE,conTrim_eq,conAt_eq,conNCmp_eq,conBack_eq,conOf9_eq,conDivide_eq,conLess9_eq,conTwo_eq,conRCheck_eq,conRCmpD_eq,inI64]
  exact heq
def fewT (x:tTst.T):Bool:=fewB x.2.1.1.2.1 20&&fewB x.2.1.2.1.2.1 20
def fewF (l:List tTst.T) (l1 l2:List Int):Bool:=decide (l.length≤8∨64<l.length∧l.length≤70)&&(l.all fewT&&(fewB l1 20&&fewB l2 20))
theorem fewF_not {l:List tTst.T} {l1 l2:List Int} {i:Nat} (h:i<l.length) (hf:fewT l[i]=false):fewF l l1 l2=false:=by
 unfold fewF
 rw [List.all_eq_false.2 ⟨l[i],List.getElem_mem h,by rw [hf]; decide⟩,Bool.false_and,Bool.and_false]
theorem few_dec (n:Nat):(decide ((n:Int)≤8)||decide (64<(n:Int))&&decide ((n:Int)≤70))=decide (n≤8∨64<n∧n≤70):=by
 rw [Bool.eq_iff_iff]
 simp
 omega
def conFewF:Con:=⟨fun args=>(match args with
 | [.s (.sl (.cons (.int .i64) (.cons (.cons (.cons .bool (.cons (.slice (.int .i64)) .nil)) (.cons (.cons .bool (.cons (.slice (.int .i64)) .nil)) .nil)) .nil)) l _),.agg [.bool k1,.sl (.int .i64) l1 _,.bool k2,.sl (.int .i64) l2 _]]=>True
 | _=>False),fun args=>match args with
 | [.s (.sl (.cons (.int .i64) (.cons (.cons (.cons .bool (.cons (.slice (.int .i64)) .nil)) (.cons (.cons .bool (.cons (.slice (.int .i64)) .nil)) .nil)) .nil)) l _),.agg [.bool k1,.sl (.int .i64) l1 _,.bool k2,.sl (.int .i64) l2 _]]=>.v (aB (fewF l l1 l2))
 | _=>.v (.s .any)⟩
theorem conFewF_eq (l:List (Ty.T tTst)) (exl:Bool) (k1:Bool) (l1:List (Ty.T tI)) (exl1:Bool) (k2:Bool) (l2:List (Ty.T tI)) (exl2:Bool):conFewF.pre [.s (.sl tTst l exl),.agg [.bool k1,.sl tI l1 exl1,.bool k2,.sl tI l2 exl2]]=(True)∧conFewF.val [.s (.sl tTst l exl),.agg [.bool k1,.sl tI l1 exl1,.bool k2,.sl tI l2 exl2]]=.v (aB (fewF l l1 l2)):=⟨rfl,rfl⟩
theorem fewf_ok:PureOk Tryz.prog 10 conFewF:=by
 refine pureOkD (L:={ live:=[0,1,3,4,5,13,22] }) fl0_good rfl nr_mixed Tryz.func10 rfl conFewF 2 (by decide) (by kernel_rfl) ?_
 intro args hpre hlens
 simp only [conFewF] at hpre
 split at hpre
 case h_2=>exact hpre.elim
 rename_i l el k1 l1 f1 k2 l2 f2
 simp only [allLen,AV.lenOk,SV.lenOk,Ty.lenOk,maxLen,and_true,implies_true,true_and,List.forall_mem_cons,List.not_mem_nil,false_implies] at hlens
 refine ⟨rfl,?_⟩
 simp -dsimp -implicitDefEqProofs [Tryz.f10,conFewF_eq,fl0_all,flT,fl0Γ,fl0E,fl0P,fa25Γ,fa25E,fa25P,fa24Γ,fa24E,fa24P,fa23Γ,fa23E,fa23P,fa22Γ,fa22E,fa22P,fa21Γ,fa21E,fa21P,fa20Γ,fa20E,fa20P,fa19Γ,fa19E,fa19P,fa18Γ,fa18E,fa18P,fa17Γ,fa17E,fa17P,fa16Γ,fa16E,fa16P,fa15Γ,fa15E,fa15P,fa14Γ,fa14E,fa14P,fa13Γ,fa13E,fa13P,fa12Γ,fa12E,fa12P,fa11Γ,fa11E,fa11P,fa10Γ,fa10E,fa10P,fa9Γ,fa9E,fa9P,fa8Γ,fa8E,fa8P,fa7Γ,fa7E,fa7P,fa3Γ,fa3E,fa3P,fa2Γ,fa2E,fa2P,fa1Γ,fa1E,fa1P,nr20Γ,nr20E,nr20P,nr19Γ,nr19E,nr19P,nr18Γ,nr18E,nr18P,nr17Γ,nr17E,nr17P,nr16Γ,nr16E,nr16P,nr15Γ,nr15E,nr15P,nr14Γ,nr14E,nr14P,nr13Γ,nr13E,nr13P,nr9Γ,nr9E,nr9P,nr8Γ,nr8E,nr8P,nr7Γ,nr7E,nr7P,nr6Γ,nr6E,nr6P,nr5Γ,nr5E,nr5P,nr4Γ,nr4E,nr4P,nr3Γ,nr3E,nr3P,nr0Γ,nr0E,nr0P,conFound_eq,conClosed_eq,conFoundR_eq,conClosedR_eq,conFewR_eq,conWrongF_eq,conLeast,conIdxTI_pre,conIdxTI_val,conCT_pre,conCT_val,conSorted,conFindI_eq,conColF,conSort,conSrtd_eq,conValT_pre,conValT_val,conSofT,conSrtT,conColT,conPdqT,conInsT,conOrI_eq,conCmpI_eq,conLen_eq,conLen64_eq,conChkF_eq,conNumE_eq,conRisI_eq,conRisT_eq,conLvl_eq,conKeyI_eq,conKeyT_eq,conShrtF_eq,conMost_eq,conTimesR_eq,conFits_eq,conWhole_eq,conOrdR_eq,conMkR_eq,conMulR_eq,conCmpR_eq,conRatC_eq,conRInt_eq,conOf_eq,conLow_eq,conDivX_eq,conMakeN_eq,conProd_eq,conDidB_eq,conDidI_eq,conValid_eq,panValid_when,panValid_what,conNeed_eq,panNeed_when,panNeed_what,conGcdN_eq,conMulN_eq,conCmpN2_eq,conPosi_eq,conChk_eq,conBigN_eq,conDiv_eq,conTimes_eq,conNCheck_eq,conLong_eq,conLead64_eq,conShort_eq,conMovE,conTrim_eq,conAt_eq,conNCmp_eq,conBack_eq,conOf9_eq,conDivide_eq,conLess9_eq,conTwo_eq,conRCheck_eq,conRCmpD_eq,inI64]
 obtain ⟨l1,rfl⟩:∃ y:List Int,y=l1:=⟨l1,rfl⟩; obtain ⟨l2,rfl⟩:∃ y:List Int,y=l2:=⟨l2,rfl⟩
 refine WpD.loop (L:={ live:=[0,1,3,4,5,13,22] }) fl0_good X0_ok nr_mixed (by kernel_rfl)
  (fun i:Nat=>⟨[(0,vS tTst l el),(3,⟨true,.v (.s (.box 0 0))⟩),(5,vI i)],[.cells [.bool k1,.sl tI l1 f1,.bool k2,.sl tI l2 f2]]⟩)
  (fun i=>i≤l.length∧i≤80∧∀ j (h:j<l.length),j<i→fewT l[j]=true) (fun i=>l.length - i) 0 ⟨Nat.zero_le _,Nat.zero_le _,fun j _ h=>absurd h (by omega)⟩ (Turn.le (by simp -dsimp -implicitDefEqProofs)) ?_
 rintro i ⟨hi,hi80,hj⟩
 rcases Nat.lt_or_ge i l.length with hil | hge
 ·
  have hft:fewT l[i]=(fewB l[i].2.1.1.2.1 20&&fewB l[i].2.1.2.1.2.1 20):=rfl
  simp -dsimp -implicitDefEqProofs [conFewF_eq,hil,fl0_all,flT,fl0Γ,fl0E,fl0P,fa25Γ,fa25E,fa25P,fa24Γ,fa24E,fa24P,fa23Γ,fa23E,fa23P,fa22Γ,fa22E,fa22P,fa21Γ,fa21E,fa21P,fa20Γ,fa20E,fa20P,fa19Γ,fa19E,fa19P,fa18Γ,fa18E,fa18P,fa17Γ,fa17E,fa17P,fa16Γ,fa16E,fa16P,fa15Γ,fa15E,fa15P,fa14Γ,fa14E,fa14P,fa13Γ,fa13E,fa13P,fa12Γ,fa12E,fa12P,fa11Γ,fa11E,fa11P,fa10Γ,fa10E,fa10P,fa9Γ,fa9E,fa9P,fa8Γ,fa8E,fa8P,fa7Γ,fa7E,fa7P,fa3Γ,fa3E,fa3P,fa2Γ,fa2E,fa2P,fa1Γ,fa1E,fa1P,nr20Γ,nr20E,nr20P,nr19Γ,nr19E,nr19P,nr18Γ,nr18E,nr18P,nr17Γ,nr17E,nr17P,nr16Γ,nr16E,nr16P,nr15Γ,nr15E,nr15P,nr14Γ,nr14E,nr14P,nr13Γ,nr13E,nr13P,nr9Γ,nr9E,nr9P,nr8Γ,nr8E,nr8P,nr7Γ,nr7E,nr7P,nr6Γ,nr6E,nr6P,nr5Γ,nr5E,nr5P,nr4Γ,nr4E,nr4P,nr3Γ,nr3E,nr3P,nr0Γ,nr0E,nr0P,conFound_eq,conClosed_eq,conFoundR_eq,conClosedR_eq,conFewR_eq,conWrongF_eq,conLeast,conIdxTI_pre,conIdxTI_val,conCT_pre,conCT_val,conSorted,conFindI_eq,conColF,conSort,conSrtd_eq,conValT_pre,conValT_val,conSofT,conSrtT,conColT,conPdqT,conInsT,conOrI_eq,conCmpI_eq,conLen_eq,conLen64_eq,conChkF_eq,conNumE_eq,conRisI_eq,conRisT_eq,conLvl_eq,conKeyI_eq,conKeyT_eq,conShrtF_eq,conMost_eq,conTimesR_eq,conFits_eq,conWhole_eq,conOrdR_eq,conMkR_eq,conMulR_eq,conCmpR_eq,conRatC_eq,conRInt_eq,conOf_eq,conLow_eq,conDivX_eq,conMakeN_eq,conProd_eq,conDidB_eq,conDidI_eq,conValid_eq,panValid_when,panValid_what,conNeed_eq,panNeed_when,panNeed_what,conGcdN_eq,conMulN_eq,conCmpN2_eq,conPosi_eq,conChk_eq,conBigN_eq,conDiv_eq,conTimes_eq,conNCheck_eq,conLong_eq,conLead64_eq,conShort_eq,conMovE,conTrim_eq,conAt_eq,conNCmp_eq,conBack_eq,conOf9_eq,conDivide_eq,conLess9_eq,conTwo_eq,conRCheck_eq,conRCmpD_eq,inI64]
  refine ⟨fun h80=>⟨fun h=>(fewF_not hil (by rw [hft]; rcases h with h | h <;> rw [h] <;> simp)).symm▸rfl,fun h1 h2=>⟨⟨by omega,by omega⟩,i+1,⟨by omega,by omega,fun j q1 q2 => ?_⟩,by omega,TurnT.le (by simp -dsimp -implicitDefEqProofs)⟩⟩,fun h80=>⟨fun h8=>⟨h8,fun h64=>⟨h8,h64⟩⟩,?_⟩⟩
  ·
   rcases Nat.lt_succ_iff_lt_or_eq.1 q2 with h' | rfl
   ·
    exact hj j q1 h'
   ·
    rw [hft,h1,h2]; rfl
  ·
   rw [few_dec]
   unfold fewF
   rw [decide_eq_false (by omega),Bool.false_and,Bool.false_and]
 ·
  have hn:¬ i<l.length:=by omega
  simp -dsimp -implicitDefEqProofs [conFewF_eq,hn,fl0_all,flT,fl0Γ,fl0E,fl0P,fa25Γ,fa25E,fa25P,fa24Γ,fa24E,fa24P,fa23Γ,fa23E,fa23P,fa22Γ,fa22E,fa22P,fa21Γ,fa21E,fa21P,fa20Γ,fa20E,fa20P,fa19Γ,fa19E,fa19P,fa18Γ,fa18E,fa18P,fa17Γ,fa17E,fa17P,fa16Γ,fa16E,fa16P,fa15Γ,fa15E,fa15P,fa14Γ,fa14E,fa14P,fa13Γ,fa13E,fa13P,fa12Γ,fa12E,fa12P,fa11Γ,fa11E,fa11P,fa10Γ,fa10E,fa10P,fa9Γ,fa9E,fa9P,fa8Γ,fa8E,fa8P,fa7Γ,fa7E,fa7P,fa3Γ,fa3E,fa3P,fa2Γ,fa2E,fa2P,fa1Γ,fa1E,fa1P,nr20Γ,nr20E,nr20P,nr19Γ,nr19E,nr19P,nr18Γ,nr18E,nr18P,nr17Γ,nr17E,nr17P,nr16Γ,nr16E,nr16P,nr15Γ,nr15E,nr15P,nr14Γ,nr14E,nr14P,nr13Γ,nr13E,nr13P,nr9Γ,nr9E,nr9P,nr8Γ,nr8E,nr8P,nr7Γ,nr7E,nr7P,nr6Γ,nr6E,nr6P,nr5Γ,nr5E,nr5P,nr4Γ,nr4E,nr4P,nr3Γ,nr3E,nr3P,nr0Γ,nr0E,nr0P,conFound_eq,conClosed_eq,conFoundR_eq,conClosedR_eq,conFewR_eq,conWrongF_eq,conLeast,conIdxTI_pre,conIdxTI_val,conCT_pre,conCT_val,conSorted,conFindI_eq,conColF,conSort,conSrtd_eq,conValT_pre,conValT_val,conSofT,conSrtT,conColT,conPdqT,conInsT,conOrI_eq,conCmpI_eq,conLen_eq,conLen64_eq,conChkF_eq,conNumE_eq,conRisI_eq,conRisT_eq,conLvl_eq,conKeyI_eq,conKeyT_eq,conShrtF_eq,conMost_eq,conTimesR_eq,conFits_eq,conWhole_eq,conOrdR_eq,conMkR_eq,conMulR_eq,conCmpR_eq,conRatC_eq,conRInt_eq,conOf_eq,conLow_eq,conDivX_eq,conMakeN_eq,conProd_eq,conDidB_eq,conDidI_eq,conValid_eq,panValid_when,panValid_what,conNeed_eq,panNeed_when,panNeed_what,conGcdN_eq,conMulN_eq,conCmpN2_eq,conPosi_eq,conChk_eq,conBigN_eq,conDiv_eq,conTimes_eq,conNCheck_eq,conLong_eq,conLead64_eq,conShort_eq,conMovE,conTrim_eq,conAt_eq,conNCmp_eq,conBack_eq,conOf9_eq,conDivide_eq,conLess9_eq,conTwo_eq,conRCheck_eq,conRCmpD_eq,inI64]
  refine ⟨fun h8=>⟨h8,fun h64=>⟨h8,h64⟩⟩,?_⟩
  rw [few_dec]
  unfold fewF
  rw [List.all_eq_true.2 fun x hx => ?_,Bool.true_and]
  obtain ⟨j,hjl,rfl⟩:=List.mem_iff_getElem.1 hx
  exact hj j hjl (by omega)
def conHas:Con:=⟨fun args=>(match args with
 | [.s (.sl (.int .i64) l _),.s (.int .i64 n)]=>True
 | _=>False),fun args=>match args with
 | [.s (.sl (.int .i64) l _),.s (.int _ n)]=>.v (aB (decide (n∈l)))
 | _=>.v (.s .any)⟩
theorem conHas_eq (l:List (Ty.T tI)) (exl:Bool) (n:Int):conHas.pre [.s (.sl tI l exl),.s (.int .i64 n)]=(True)∧conHas.val [.s (.sl tI l exl),.s (.int .i64 n)]=.v (aB (decide (n∈l))):=⟨rfl,rfl⟩
theorem has_ok:PureOk Tryz.prog 21 conHas:=by
 refine pureOkD (L:={ live:=[0,1,4,5,9,17] }) fl0_good rfl nr_mixed Tryz.func21 rfl conHas 2 (by decide) (by kernel_rfl) ?_
 intro args hpre hlens
 simp only [conHas] at hpre
 split at hpre
 case h_2=>exact hpre.elim
 rename_i l el n
 simp only [allLen,AV.lenOk,SV.lenOk,Ty.lenOk,maxLen,and_true,implies_true,true_and,List.forall_mem_cons,List.not_mem_nil,false_implies] at hlens
 refine ⟨rfl,?_⟩
 simp -dsimp -implicitDefEqProofs [Tryz.f21,conHas_eq,fl0_all,flT,fl0Γ,fl0E,fl0P,fa25Γ,fa25E,fa25P,fa24Γ,fa24E,fa24P,fa23Γ,fa23E,fa23P,fa22Γ,fa22E,fa22P,fa21Γ,fa21E,fa21P,fa20Γ,fa20E,fa20P,fa19Γ,fa19E,fa19P,fa18Γ,fa18E,fa18P,fa17Γ,fa17E,fa17P,fa16Γ,fa16E,fa16P,fa15Γ,fa15E,fa15P,fa14Γ,fa14E,fa14P,fa13Γ,fa13E,fa13P,fa12Γ,fa12E,fa12P,fa11Γ,fa11E,fa11P,fa10Γ,fa10E,fa10P,fa9Γ,fa9E,fa9P,fa8Γ,fa8E,fa8P,fa7Γ,fa7E,fa7P,fa3Γ,fa3E,fa3P,fa2Γ,fa2E,fa2P,fa1Γ,fa1E,fa1P,nr20Γ,nr20E,nr20P,nr19Γ,nr19E,nr19P,nr18Γ,nr18E,nr18P,nr17Γ,nr17E,nr17P,nr16Γ,nr16E,nr16P,nr15Γ,nr15E,nr15P,nr14Γ,nr14E,nr14P,nr13Γ,nr13E,nr13P,nr9Γ,nr9E,nr9P,nr8Γ,nr8E,nr8P,nr7Γ,nr7E,nr7P,nr6Γ,nr6E,nr6P,nr5Γ,nr5E,nr5P,nr4Γ,nr4E,nr4P,nr3Γ,nr3E,nr3P,nr0Γ,nr0E,nr0P,conFound_eq,conClosed_eq,conFoundR_eq,conClosedR_eq,conFewR_eq,conWrongF_eq,conLeast,conIdxTI_pre,conIdxTI_val,conCT_pre,conCT_val,conSorted,conFindI_eq,conColF,conSort,conSrtd_eq,conValT_pre,conValT_val,conSofT,conSrtT,conColT,conPdqT,conInsT,conOrI_eq,conCmpI_eq,conLen_eq,conLen64_eq,conChkF_eq,conNumE_eq,conRisI_eq,conRisT_eq,conLvl_eq,conKeyI_eq,conKeyT_eq,conShrtF_eq,conMost_eq,conTimesR_eq,conFits_eq,conWhole_eq,conOrdR_eq,conMkR_eq,conMulR_eq,conCmpR_eq,conRatC_eq,conRInt_eq,conOf_eq,conLow_eq,conDivX_eq,conMakeN_eq,conProd_eq,conDidB_eq,conDidI_eq,conValid_eq,panValid_when,panValid_what,conNeed_eq,panNeed_when,panNeed_what,conGcdN_eq,conMulN_eq,conCmpN2_eq,conPosi_eq,conChk_eq,conBigN_eq,conDiv_eq,conTimes_eq,conNCheck_eq,conLong_eq,conLead64_eq,conShort_eq,conMovE,conTrim_eq,conAt_eq,conNCmp_eq,conBack_eq,conOf9_eq,conDivide_eq,conLess9_eq,conTwo_eq,conRCheck_eq,conRCmpD_eq,inI64]
 obtain ⟨l,rfl⟩:∃ y:List Int,y=l:=⟨l,rfl⟩
 refine WpD.loop (L:={ live:=[0,1,4,5,9,17] }) fl0_good X0_ok nr_mixed (by kernel_rfl)
  (fun i:Nat=>⟨[(0,vS tI l el),(1,vI n),(5,vI i)],[]⟩)
  (fun i=>i≤l.length∧∀ j (h:j<l.length),j<i→l[j]≠n) (fun i=>l.length - i) 0 ⟨Nat.zero_le _,fun j _ h=>absurd h (by omega)⟩ (Turn.le (by simp -dsimp -implicitDefEqProofs)) ?_
 rintro i ⟨hi,hj⟩
 rcases Nat.lt_or_ge i l.length with hil | hge
 ·
  simp -dsimp -implicitDefEqProofs [conHas_eq,hil,fl0_all,flT,fl0Γ,fl0E,fl0P,fa25Γ,fa25E,fa25P,fa24Γ,fa24E,fa24P,fa23Γ,fa23E,fa23P,fa22Γ,fa22E,fa22P,fa21Γ,fa21E,fa21P,fa20Γ,fa20E,fa20P,fa19Γ,fa19E,fa19P,fa18Γ,fa18E,fa18P,fa17Γ,fa17E,fa17P,fa16Γ,fa16E,fa16P,fa15Γ,fa15E,fa15P,fa14Γ,fa14E,fa14P,fa13Γ,fa13E,fa13P,fa12Γ,fa12E,fa12P,fa11Γ,fa11E,fa11P,fa10Γ,fa10E,fa10P,fa9Γ,fa9E,fa9P,fa8Γ,fa8E,fa8P,fa7Γ,fa7E,fa7P,fa3Γ,fa3E,fa3P,fa2Γ,fa2E,fa2P,fa1Γ,fa1E,fa1P,nr20Γ,nr20E,nr20P,nr19Γ,nr19E,nr19P,nr18Γ,nr18E,nr18P,nr17Γ,nr17E,nr17P,nr16Γ,nr16E,nr16P,nr15Γ,nr15E,nr15P,nr14Γ,nr14E,nr14P,nr13Γ,nr13E,nr13P,nr9Γ,nr9E,nr9P,nr8Γ,nr8E,nr8P,nr7Γ,nr7E,nr7P,nr6Γ,nr6E,nr6P,nr5Γ,nr5E,nr5P,nr4Γ,nr4E,nr4P,nr3Γ,nr3E,nr3P,nr0Γ,nr0E,nr0P,conFound_eq,conClosed_eq,conFoundR_eq,conClosedR_eq,conFewR_eq,conWrongF_eq,conLeast,conIdxTI_pre,conIdxTI_val,conCT_pre,conCT_val,conSorted,conFindI_eq,conColF,conSort,conSrtd_eq,conValT_pre,conValT_val,conSofT,conSrtT,conColT,conPdqT,conInsT,conOrI_eq,conCmpI_eq,conLen_eq,conLen64_eq,conChkF_eq,conNumE_eq,conRisI_eq,conRisT_eq,conLvl_eq,conKeyI_eq,conKeyT_eq,conShrtF_eq,conMost_eq,conTimesR_eq,conFits_eq,conWhole_eq,conOrdR_eq,conMkR_eq,conMulR_eq,conCmpR_eq,conRatC_eq,conRInt_eq,conOf_eq,conLow_eq,conDivX_eq,conMakeN_eq,conProd_eq,conDidB_eq,conDidI_eq,conValid_eq,panValid_when,panValid_what,conNeed_eq,panNeed_when,panNeed_what,conGcdN_eq,conMulN_eq,conCmpN2_eq,conPosi_eq,conChk_eq,conBigN_eq,conDiv_eq,conTimes_eq,conNCheck_eq,conLong_eq,conLead64_eq,conShort_eq,conMovE,conTrim_eq,conAt_eq,conNCmp_eq,conBack_eq,conOf9_eq,conDivide_eq,conLess9_eq,conTwo_eq,conRCheck_eq,conRCmpD_eq,inI64]
  refine ⟨fun h=>by rw [← h]; exact List.getElem_mem hil,fun h=>⟨⟨by omega,by omega⟩,i+1,⟨by omega,fun j q1 q2 => ?_⟩,by omega,TurnT.le (by simp -dsimp -implicitDefEqProofs)⟩⟩
  rcases Nat.lt_succ_iff_lt_or_eq.1 q2 with h' | rfl
  ·
   exact hj j q1 h'
  ·
   exact h
 ·
  have hn:¬ i<l.length:=by omega
  simp -dsimp -implicitDefEqProofs [conHas_eq,hn,fl0_all,flT,fl0Γ,fl0E,fl0P,fa25Γ,fa25E,fa25P,fa24Γ,fa24E,fa24P,fa23Γ,fa23E,fa23P,fa22Γ,fa22E,fa22P,fa21Γ,fa21E,fa21P,fa20Γ,fa20E,fa20P,fa19Γ,fa19E,fa19P,fa18Γ,fa18E,fa18P,fa17Γ,fa17E,fa17P,fa16Γ,fa16E,fa16P,fa15Γ,fa15E,fa15P,fa14Γ,fa14E,fa14P,fa13Γ,fa13E,fa13P,fa12Γ,fa12E,fa12P,fa11Γ,fa11E,fa11P,fa10Γ,fa10E,fa10P,fa9Γ,fa9E,fa9P,fa8Γ,fa8E,fa8P,fa7Γ,fa7E,fa7P,fa3Γ,fa3E,fa3P,fa2Γ,fa2E,fa2P,fa1Γ,fa1E,fa1P,nr20Γ,nr20E,nr20P,nr19Γ,nr19E,nr19P,nr18Γ,nr18E,nr18P,nr17Γ,nr17E,nr17P,nr16Γ,nr16E,nr16P,nr15Γ,nr15E,nr15P,nr14Γ,nr14E,nr14P,nr13Γ,nr13E,nr13P,nr9Γ,nr9E,nr9P,nr8Γ,nr8E,nr8P,nr7Γ,nr7E,nr7P,nr6Γ,nr6E,nr6P,nr5Γ,nr5E,nr5P,nr4Γ,nr4E,nr4P,nr3Γ,nr3E,nr3P,nr0Γ,nr0E,nr0P,conFound_eq,conClosed_eq,conFoundR_eq,conClosedR_eq,conFewR_eq,conWrongF_eq,conLeast,conIdxTI_pre,conIdxTI_val,conCT_pre,conCT_val,conSorted,conFindI_eq,conColF,conSort,conSrtd_eq,conValT_pre,conValT_val,conSofT,conSrtT,conColT,conPdqT,conInsT,conOrI_eq,conCmpI_eq,conLen_eq,conLen64_eq,conChkF_eq,conNumE_eq,conRisI_eq,conRisT_eq,conLvl_eq,conKeyI_eq,conKeyT_eq,conShrtF_eq,conMost_eq,conTimesR_eq,conFits_eq,conWhole_eq,conOrdR_eq,conMkR_eq,conMulR_eq,conCmpR_eq,conRatC_eq,conRInt_eq,conOf_eq,conLow_eq,conDivX_eq,conMakeN_eq,conProd_eq,conDidB_eq,conDidI_eq,conValid_eq,panValid_when,panValid_what,conNeed_eq,panNeed_when,panNeed_what,conGcdN_eq,conMulN_eq,conCmpN2_eq,conPosi_eq,conChk_eq,conBigN_eq,conDiv_eq,conTimes_eq,conNCheck_eq,conLong_eq,conLead64_eq,conShort_eq,conMovE,conTrim_eq,conAt_eq,conNCmp_eq,conBack_eq,conOf9_eq,conDivide_eq,conLess9_eq,conTwo_eq,conRCheck_eq,conRCmpD_eq,inI64]
  intro hm
  obtain ⟨j,hjl,rfl⟩:=List.mem_iff_getElem.1 hm
  exact hj j hjl (by omega) rfl
def conNum:Con:=⟨fun args=>(match args with
 | [.s (.int .i64 n),.s (.int .i64 d)]=>(0≤n∧n<9223372036854775808)∧0<d∧d<9223372036854775808
 | _=>False),fun args=>match args with
 | [.s (.int _ n),.s (.int _ d)]=>.v (.agg [.bool false,.sl tI (lowN n.natAbs d.natAbs) false,.bool false,.sl tI (lowD n.natAbs d.natAbs) false])
 | _=>.v (.s .any)⟩
theorem conNum_eq (n:Int) (d:Int):conNum.pre [.s (.int .i64 n),.s (.int .i64 d)]=((0≤n∧n<9223372036854775808)∧0<d∧d<9223372036854775808)∧conNum.val [.s (.int .i64 n),.s (.int .i64 d)]=.v (.agg [.bool false,.sl tI (lowN n.natAbs d.natAbs) false,.bool false,.sl tI (lowD n.natAbs d.natAbs) false]):=⟨rfl,rfl⟩
theorem num_ok:PureOk Tryz.prog 23 conNum:=by
 refine pureOkD (L:={ live:=[0,1,4,5] }) fl0_good rfl nr_mixed Tryz.func23 rfl conNum 2 (by decide) (by kernel_rfl) ?_
 intro args hpre hlens
 simp only [conNum] at hpre
 split at hpre
 case h_2=>exact hpre.elim
 rename_i n d
 simp only [allLen,AV.lenOk,SV.lenOk,Ty.lenOk,maxLen,and_true,implies_true,true_and,List.forall_mem_cons,List.not_mem_nil,false_implies] at hlens
 refine ⟨rfl,?_⟩
 simp -dsimp -implicitDefEqProofs [Tryz.f23,conNum_eq,fl0_all,flT,fl0Γ,fl0E,fl0P,fa25Γ,fa25E,fa25P,fa24Γ,fa24E,fa24P,fa23Γ,fa23E,fa23P,fa22Γ,fa22E,fa22P,fa21Γ,fa21E,fa21P,fa20Γ,fa20E,fa20P,fa19Γ,fa19E,fa19P,fa18Γ,fa18E,fa18P,fa17Γ,fa17E,fa17P,fa16Γ,fa16E,fa16P,fa15Γ,fa15E,fa15P,fa14Γ,fa14E,fa14P,fa13Γ,fa13E,fa13P,fa12Γ,fa12E,fa12P,fa11Γ,fa11E,fa11P,fa10Γ,fa10E,fa10P,fa9Γ,fa9E,fa9P,fa8Γ,fa8E,fa8P,fa7Γ,fa7E,fa7P,fa3Γ,fa3E,fa3P,fa2Γ,fa2E,fa2P,fa1Γ,fa1E,fa1P,nr20Γ,nr20E,nr20P,nr19Γ,nr19E,nr19P,nr18Γ,nr18E,nr18P,nr17Γ,nr17E,nr17P,nr16Γ,nr16E,nr16P,nr15Γ,nr15E,nr15P,nr14Γ,nr14E,nr14P,nr13Γ,nr13E,nr13P,nr9Γ,nr9E,nr9P,nr8Γ,nr8E,nr8P,nr7Γ,nr7E,nr7P,nr6Γ,nr6E,nr6P,nr5Γ,nr5E,nr5P,nr4Γ,nr4E,nr4P,nr3Γ,nr3E,nr3P,nr0Γ,nr0E,nr0P,conFound_eq,conClosed_eq,conFoundR_eq,conClosedR_eq,conFewR_eq,conWrongF_eq,conLeast,conIdxTI_pre,conIdxTI_val,conCT_pre,conCT_val,conSorted,conFindI_eq,conColF,conSort,conSrtd_eq,conValT_pre,conValT_val,conSofT,conSrtT,conColT,conPdqT,conInsT,conOrI_eq,conCmpI_eq,conLen_eq,conLen64_eq,conChkF_eq,conNumE_eq,conRisI_eq,conRisT_eq,conLvl_eq,conKeyI_eq,conKeyT_eq,conShrtF_eq,conMost_eq,conTimesR_eq,conFits_eq,conWhole_eq,conOrdR_eq,conMkR_eq,conMulR_eq,conCmpR_eq,conRatC_eq,conRInt_eq,conOf_eq,conLow_eq,conDivX_eq,conMakeN_eq,conProd_eq,conDidB_eq,conDidI_eq,conValid_eq,panValid_when,panValid_what,conNeed_eq,panNeed_when,panNeed_what,conGcdN_eq,conMulN_eq,conCmpN2_eq,conPosi_eq,conChk_eq,conBigN_eq,conDiv_eq,conTimes_eq,conNCheck_eq,conLong_eq,conLead64_eq,conShort_eq,conMovE,conTrim_eq,conAt_eq,conNCmp_eq,conBack_eq,conOf9_eq,conDivide_eq,conLess9_eq,conTwo_eq,conRCheck_eq,conRCmpD_eq,inI64]
 exact hpre
def conComE:Con:=⟨fun args=>(match args with
 | [.s (.sl (.int .i64) nos _),.agg [.bool k1,.sl (.int .i64) l1 _,.bool k2,.sl (.int .i64) l2 _]]=>nos.length≤64∧(¬ okNos nos∨okNos nos∧lvlE k1 l1 k2 l2≠0)
 | _=>False),fun args=>match args with
 | [.s (.sl (.int .i64) nos _),.agg [.bool k1,.sl (.int .i64) l1 _,.bool k2,.sl (.int .i64) l2 _]]=>.tup [.agg (List.replicate 32 (.int .u8 0)),aI (if okNos nos then lvlE k1 l1 k2 l2 else 430)]
 | _=>.v (.s .any)⟩
theorem conComE_eq (nos:List (Ty.T tI)) (exnos:Bool) (k1:Bool) (l1:List (Ty.T tI)) (exl1:Bool) (k2:Bool) (l2:List (Ty.T tI)) (exl2:Bool):conComE.pre [.s (.sl tI nos exnos),.agg [.bool k1,.sl tI l1 exl1,.bool k2,.sl tI l2 exl2]]=(nos.length≤64∧(¬ okNos nos∨okNos nos∧lvlE k1 l1 k2 l2≠0))∧conComE.val [.s (.sl tI nos exnos),.agg [.bool k1,.sl tI l1 exl1,.bool k2,.sl tI l2 exl2]]=.tup [.agg (List.replicate 32 (.int .u8 0)),aI (if okNos nos then lvlE k1 l1 k2 l2 else 430)]:=⟨rfl,rfl⟩
theorem come_ok:PureOk Tryz.prog 16 conComE:=by
 refine pureOkD (L:={ live:=[0,1,3,4,5,6,8,9,10,14,18,23,27,28,29,30,47] }) fl0_good rfl nr_mixed Tryz.func16 rfl conComE 2 (by decide) (by kernel_rfl) ?_
 intro args hpre hlens
 simp only [conComE] at hpre
 split at hpre
 case h_2=>exact hpre.elim
 rename_i nos en k1 l1 f1 k2 l2 f2
 simp only [allLen,AV.lenOk,SV.lenOk,Ty.lenOk,maxLen,and_true,implies_true,true_and,List.forall_mem_cons,List.not_mem_nil,false_implies] at hlens
 refine ⟨rfl,?_⟩
 simp -dsimp -implicitDefEqProofs [Tryz.f16,conComE_eq,fl0_all,flT,fl0Γ,fl0E,fl0P,fa25Γ,fa25E,fa25P,fa24Γ,fa24E,fa24P,fa23Γ,fa23E,fa23P,fa22Γ,fa22E,fa22P,fa21Γ,fa21E,fa21P,fa20Γ,fa20E,fa20P,fa19Γ,fa19E,fa19P,fa18Γ,fa18E,fa18P,fa17Γ,fa17E,fa17P,fa16Γ,fa16E,fa16P,fa15Γ,fa15E,fa15P,fa14Γ,fa14E,fa14P,fa13Γ,fa13E,fa13P,fa12Γ,fa12E,fa12P,fa11Γ,fa11E,fa11P,fa10Γ,fa10E,fa10P,fa9Γ,fa9E,fa9P,fa8Γ,fa8E,fa8P,fa7Γ,fa7E,fa7P,fa3Γ,fa3E,fa3P,fa2Γ,fa2E,fa2P,fa1Γ,fa1E,fa1P,nr20Γ,nr20E,nr20P,nr19Γ,nr19E,nr19P,nr18Γ,nr18E,nr18P,nr17Γ,nr17E,nr17P,nr16Γ,nr16E,nr16P,nr15Γ,nr15E,nr15P,nr14Γ,nr14E,nr14P,nr13Γ,nr13E,nr13P,nr9Γ,nr9E,nr9P,nr8Γ,nr8E,nr8P,nr7Γ,nr7E,nr7P,nr6Γ,nr6E,nr6P,nr5Γ,nr5E,nr5P,nr4Γ,nr4E,nr4P,nr3Γ,nr3E,nr3P,nr0Γ,nr0E,nr0P,conFound_eq,conClosed_eq,conFoundR_eq,conClosedR_eq,conFewR_eq,conWrongF_eq,conLeast,conIdxTI_pre,conIdxTI_val,conCT_pre,conCT_val,conSorted,conFindI_eq,conColF,conSort,conSrtd_eq,conValT_pre,conValT_val,conSofT,conSrtT,conColT,conPdqT,conInsT,conOrI_eq,conCmpI_eq,conLen_eq,conLen64_eq,conChkF_eq,conNumE_eq,conRisI_eq,conRisT_eq,conLvl_eq,conKeyI_eq,conKeyT_eq,conShrtF_eq,conMost_eq,conTimesR_eq,conFits_eq,conWhole_eq,conOrdR_eq,conMkR_eq,conMulR_eq,conCmpR_eq,conRatC_eq,conRInt_eq,conOf_eq,conLow_eq,conDivX_eq,conMakeN_eq,conProd_eq,conDidB_eq,conDidI_eq,conValid_eq,panValid_when,panValid_what,conNeed_eq,panNeed_when,panNeed_what,conGcdN_eq,conMulN_eq,conCmpN2_eq,conPosi_eq,conChk_eq,conBigN_eq,conDiv_eq,conTimes_eq,conNCheck_eq,conLong_eq,conLead64_eq,conShort_eq,conMovE,conTrim_eq,conAt_eq,conNCmp_eq,conBack_eq,conOf9_eq,conDivide_eq,conLess9_eq,conTwo_eq,conRCheck_eq,conRCmpD_eq,inI64]
 obtain ⟨h1,h2⟩:=hpre
 refine ⟨fun h=>by omega,fun _=>⟨fun h h'=>absurd h' h,fun h=>⟨fun _ h'=>absurd h h',?_⟩⟩⟩
 rcases h2 with h2 | h2
 ·
  exact absurd h h2
 ·
  exact h2.2
end Go.Am
namespace Go.Am
set_option maxHeartbeats 8000000
set_option maxRecDepth 20000
open Go.RowKit Go.Proofs
attribute [local simp] thenKD_normal thenKD_exit thenKD_goto thenKD_ret inBlockKD_normal inBlockKD_exit inBlockKD_goto inBlockKD_ret noGotoKD_normal noGotoKD_exit noGotoKD_goto noGotoKD_ret roundKD_normal roundKD_exit roundKD_goto roundKD_ret frzSlotsD_nil frzSlotsD_cons frzSlotD_eq yieldVCD_trace opVCD_eq vcOpsD_nil vcOpsD_cons vcAllD_zero vcAllD_succ allAtD_nil allAtD_cons readyAux edgA vcD_skip vcD_label vcD_exit vcD_goto vcD_ret vcD_region vcD_seq vcD_seqC vcD_cond vcCondD_bool vcD_block vcD_scope vcD_loop vcD_rangeFunc yieldOf isMem isMem0 keepE envLe St.le psE yieldAV round_td round_y round_Γ vI vB vS aI aB aS look getE oper opRV putE allOk okOps Op.operands Call.operands pEv qEv mEv constRV coe RV.av loadEv loadCs takeAt indexAddrEv fieldAddrEv binEv intEv arith unEv gcond pickEv argsEv callVal callEv capAV_mk lenArgs lenEv minEv extractEv convEv funcEv allBox bound sliceEv lookupEv TD.isBool allocEv boxEv storeEv spl plainTD appendEv appendArgs makeMapEv mapUpdateEv buildEv buildSliceEv fillSV zsvOf sizeTD Ty.parses parses_flats' coeA flats_length AV.good AV.cells AV.pure SV.pure av_int av_bool av_str av_slice av_cons av_fld0 av_fld1 av_fld2 av_fld3 av_fld4 Ty.of Ty.dflt Ty.parse Ty.flat Ty.zsv Ty.fld Ty.get Ty.off Ty.nfld Ty.size coeTy junk Blk.look argEnv resEv resOk resVs oneRV retOk frzAs frzAV frzL frzSV boxCaps boxCap SV.sig sigs RV.scalar AV.scalar SV.scalar nope effVCD_eq effOf SV.ids AV.ids dedup SV.ren AV.ren RV.ren idx outId mergeB Blk.pureB flats_pure flat_pure epsSlotsD_nil epsSlotsD_cons epsSlotD_eq allEp D.parts_fnOf fvParts retEff round_E av_fn G.ye isCutD_nil isCutD_cons firstReg_region firstReg_seq firstReg_skip firstReg_ret firstReg_label firstReg_exit firstReg_goto firstReg_cond firstReg_block firstReg_scope firstReg_loop firstReg_rf eptrOf_mk flOfD_nil flOfD_cons vcFlD_cons vcFlD_nil flPairs_nil flPairs_cons vcFrD_nil vcFrD_cons makeSliceEv vcCondD_ib fzEv unfl_flats isFz round_fz panVCD_eq panOf isShift strIdxEv ifaceEv nilChkEv sliceAnyEv sliceOwnEv sliceSufEv appendEv0 appendEv1 Ty.beq Ty.isAgg round_Pn vcDefD_seqR vcDefD_seqS vcDefD_seqC vcDefD_seqB vcDefD_seqL vcDefD_seqF vcDefD_seqSc vcDefD_region vcDefD_ret vcDefD_cond vcDefD_block vcDefD_loop thenKD_panic inBlockKD_panic noGotoKD_panic exitOk_normal exitOk_ret exitOk_panic exitOk_exit runDefs_none runDefs_some runDefs_cons defRegD defReg2D isDefer defOf caughtCon unfl_cons D.bpart_bndOf D.parts_bndOf AV.sig zapEv capArgs capEv
attribute [local simp ←] flats_append
theorem dig_small {n:Nat} (h0:0<n) (h:n<1073741824):dig n=[(n:Int)]:=by
 rw [dig_pos (by omega),Nat.mod_eq_of_lt h,Nat.div_eq_of_lt h,dig_zero]
theorem lowN_1 (d:Nat):lowN 1 d=[1]:=by unfold lowN; rw [Nat.gcd_one_left,Nat.div_one,dig_one]
theorem lowD_1 {d:Nat} (h0:0<d) (h:d<1073741824):lowD 1 d=[(d:Int)]:=by unfold lowD; rw [Nat.gcd_one_left,Nat.div_one,dig_small h0 h]
theorem lowN_0:lowN 0 1=[]:=by rw [lowN_one,dig_zero]
theorem lowD_0:lowD 0 1=[1]:=lowD_one 0
theorem okBig_small {n:Nat} (h0:0<n) (h:n<1073741824):okBig false [(n:Int)]:=by
 rw [← dig_small h0 h]
 exact okBig_dig (k:=1) (by omega) (by decide)
theorem vl_small (n:Nat):vl [(n:Int)]=n:=by rw [vl_one]; rfl
theorem okS_q {d:Nat} (h0:0<d) (h:d<1073741824):okS false [1] false [(d:Int)] :=
 ⟨⟨okBig_one,okBig_small h0 h,rfl,by simp,by rw [vl_one1,Nat.gcd_one_left]⟩,by simp,by simp⟩
theorem okS_z:okS false [] false [1]:=by
 have:=okRat_whole (n:=0) (by omega)
 rw [dig_zero] at this
 exact ⟨this,by simp,by simp⟩
abbrev tq (no d:Int):tTst.T:=(no,((false,[1],()),(false,[d],()),()),())
theorem tq_ok (no:Int) {d:Nat} (h0:0<d) (h:d<1073741824):tstOk (tq no d):=by
 refine ⟨okS_q h0 h,?_,?_⟩
 ·
  show 0≤sgn false [1]
  rw [sgn_false,vl_one1]; decide
 ·
  show sgn false [1]≤(vl [(d:Int)]:Int)
  rw [sgn_false,vl_one1,vl_small]; omega
theorem fitB_q (n:Int) (d e:Nat):fitB n false [1] [(d:Int)] false [1] [(e:Int)]=decide (n*(e:Int)≤d):=by
 unfold fitB
 rw [sgn_false,vl_one1,vl_small,vl_small]
 simp
theorem lvl_q {d:Nat} (h0:0<d) (h:d<1073741824):lvlE false [1] false [(d:Int)]=0:=by
 rw [lvlE_0]
 refine ⟨okS_q h0 h,?_,?_⟩
 ·
  rw [sgn_false,vl_one1]; decide
 ·
  rw [sgn_false,vl_one1,vl_small]; omega
theorem lvl_z:lvlE false [] false [1]=1:=lvlE_1 okS_z (by rw [sgn_false]; simp [vl])
theorem cmp_q (no d no' d':Int) (h:0≤d) (h':0≤d'):cmpR (tq no d).2.1 (tq no' d').2.1=cmpZ d' d:=by
 show cmpZ (sgn false [1]*(vl [d']:Int)) (sgn false [1]*(vl [d]:Int))=_
 rw [sgn_false,vl_one1,vl_one,vl_one]
 congr 1 <;> omega
theorem fam3:famP [tq 1 100,tq 2 40,tq 3 30]:=by
 refine ⟨fun j hj => ?_,fun x hx => ?_⟩
 ·
  have:j=0∨j=1∨j=2:=by simp [nosL] at hj; omega
  rcases this with rfl | rfl | rfl <;> simp [nosAt,nosL]
 ·
  simp only [List.mem_cons,List.not_mem_nil,or_false] at hx
  rcases hx with rfl | rfl | rfl
  ·
   exact tq_ok 1 (d:=100) (by decide) (by decide)
  ·
   exact tq_ok 2 (d:=40) (by decide) (by decide)
  ·
   exact tq_ok 3 (d:=30) (by decide) (by decide)
theorem fam2:famP [tq 4 30,tq 5 30]:=by
 refine ⟨fun j hj => ?_,fun x hx => ?_⟩
 ·
  have:j=0∨j=1:=by simp [nosL] at hj; omega
  rcases this with rfl | rfl <;> simp [nosAt,nosL]
 ·
  simp only [List.mem_cons,List.not_mem_nil,or_false] at hx
  rcases hx with rfl | rfl
  ·
   exact tq_ok 4 (d:=30) (by decide) (by decide)
  ·
   exact tq_ok 5 (d:=30) (by decide) (by decide)
theorem fam1:famP [tq 7 20]:=by
 refine ⟨fun j hj => ?_,fun x hx => ?_⟩
 ·
  have:j=0:=by simp [nosL] at hj; omega
  subst this
  simp [nosAt,nosL]
 ·
  simp only [List.mem_cons,List.not_mem_nil,or_false] at hx
  subst hx
  exact tq_ok 7 (d:=20) (by decide) (by decide)
theorem fam0:famP []:=⟨fun j hj=>by simp [nosL] at hj,fun x hx=>by cases hx⟩
theorem famz:famP [(0,((false,[],()),(false,[1],()),()),())]:=by
 refine ⟨fun j hj => ?_,fun x hx => ?_⟩
 ·
  have:j=0:=by simp [nosL] at hj; omega
  subst this
  simp [nosAt,nosL]
 ·
  simp only [List.mem_cons,List.not_mem_nil,or_false] at hx
  subst hx
  refine ⟨okS_z,?_,?_⟩
  ·
   show 0≤sgn false []
   rw [sgn_false]; simp [vl]
  ·
   show sgn false []≤(vl [1]:Int)
   rw [sgn_false,vl_one1]; simp [vl]
theorem lvl20:lvlE false [1] false [20]=0:=lvl_q (d:=20) (by decide) (by decide)
theorem c3:chkF [tq 1 100,tq 2 40,tq 3 30] false [1] false [20]=0:=chkF_0.2 ⟨by decide,fam3,lvl20⟩
theorem c2:chkF [tq 4 30,tq 5 30] false [1] false [20]=0:=chkF_0.2 ⟨by decide,fam2,lvl20⟩
theorem c1:chkF [tq 7 20] false [1] false [20]=0:=chkF_0.2 ⟨by decide,fam1,lvl20⟩
theorem c0:chkF [] false [1] false [20]=0:=chkF_0.2 ⟨by decide,fam0,lvl20⟩
theorem cz:chkF [(0,((false,[],()),(false,[1],()),()),())] false [] false [1]=1:=by rw [chkF_l (by decide) famz,lvl_z]
theorem sort_q {l:List tTst.T} (hf:famP l) (h:l.Pairwise fun x y=>befT x y≤0):sortT l=l:=(sortT_eq (fam_ok hf).1 (fam_ok hf).2 (List.Perm.refl _) h).symm
theorem bef_q (no d no' d':Int) (h0:0≤d) (h0':0≤d') (h:d'<d):befT (tq no d) (tq no' d')≤0:=by
 rw [befT_eq,cmp_q _ _ _ _ h0 h0',cmpZ_lt h,if_neg (by decide)]; decide
theorem bef_q' (no d no':Int) (h0:0≤d) (h:no<no'):befT (tq no d) (tq no' d)≤0:=by
 rw [befT_eq,cmp_q _ _ _ _ h0 h0,cmpZ_zero.2 rfl,if_pos rfl]
 show cmpZ no no'≤0
 rw [cmpZ_lt h]; decide
theorem isort_id {l:List Int} (h:l.Pairwise (· < ·)):isort l=l :=
 sorted_ext (((isort_sorted l).and ((isort_perm l).nodup_iff.2 (h.imp fun {a b} hab e=>by omega))).imp fun {a b} q=>by have:=q.1; have:=q.2; omega) h fun x=>(isort_perm l).mem_iff
theorem s3:sortT [tq 1 100,tq 2 40,tq 3 30]=[tq 1 100,tq 2 40,tq 3 30]:=sort_q fam3 (by
 simp only [List.pairwise_cons,List.mem_cons,List.not_mem_nil,or_false,forall_eq_or_imp,forall_eq,false_implies,implies_true,List.Pairwise.nil,and_true]
 exact ⟨⟨bef_q _ _ _ _ (by decide) (by decide) (by decide),bef_q _ _ _ _ (by decide) (by decide) (by decide)⟩,bef_q _ _ _ _ (by decide) (by decide) (by decide)⟩)
theorem s2:sortT [tq 4 30,tq 5 30]=[tq 4 30,tq 5 30]:=sort_q fam2 (by
 simp only [List.pairwise_cons,List.mem_cons,List.not_mem_nil,or_false,forall_eq,false_implies,implies_true,List.Pairwise.nil,and_true]
 exact bef_q' _ _ _ (by decide) (by decide))
theorem fitF_q (n:Int) (no:Int) (d:Nat):fitF n (tq no d) (mkA false [1] false [20])=decide (n*20≤(d:Int)):=fitB_q n d 20
theorem f3:foundV [tq 1 100,tq 2 40,tq 3 30] false [1] false [20]=[1,2,3]:=by
 rw [foundV_0 c3]
 unfold findL
 rw [s3]
 have e1:fitF ((3:Nat):Int) (tq 1 100) (mkA false [1] false [20])=true:=(fitF_q (3:Nat) 1 100).trans (by decide)
 have e2:fitF ((2:Nat):Int) (tq 2 40) (mkA false [1] false [20])=true:=(fitF_q (2:Nat) 2 40).trans (by decide)
 have e3:fitF ((1:Nat):Int) (tq 3 30) (mkA false [1] false [20])=true:=(fitF_q (1:Nat) 3 30).trans (by decide)
 have hl:leadF (mkA false [1] false [20]) 3 [tq 1 100,tq 2 40,tq 3 30]=[tq 1 100,tq 2 40,tq 3 30]:=by
  rw [leadF,if_pos e1,leadF,if_pos e2,leadF,if_pos e3,leadF]
 show isort (nosL (leadF _ 3 _))=_
 rw [hl]
 exact isort_id (l:=[1,2,3]) (by simp)
theorem f2:foundV [tq 4 30,tq 5 30] false [1] false [20]=[]:=by
 rw [foundV_0 c2]
 unfold findL
 rw [s2]
 have e1:fitF ((2:Nat):Int) (tq 4 30) (mkA false [1] false [20])=false:=(fitF_q (2:Nat) 4 30).trans (by decide)
 show isort (nosL (leadF _ 2 _))=_
 rw [leadF,if_neg (by rw [e1]; decide)]
 exact isort_id (l:=[]) (by simp)
theorem f1:foundV [tq 7 20] false [1] false [20]=[7]:=by
 rw [foundV_0 c1]
 unfold findL
 rw [sort_q fam1 (by simp)]
 have e1:fitF ((1:Nat):Int) (tq 7 20) (mkA false [1] false [20])=true:=(fitF_q (1:Nat) 7 20).trans (by decide)
 show isort (nosL (leadF _ 1 _))=_
 rw [leadF,if_pos e1,leadF]
 exact isort_id (l:=[7]) (by simp)
theorem f0:foundV [] false [1] false [20]=[]:=by
 rw [foundV_0 c0]
 unfold findL
 rw [sort_q fam0 (by simp),leadF]
 exact isort_id (l:=[]) (by simp)
theorem v2:closV [tq 4 30,tq 5 30] false [1] false [20] 4=false∧closE [tq 4 30,tq 5 30] false [1] false [20] 4=0:=by
 have hi:idxOf (isNo 4) [tq 4 30,tq 5 30]=0:=rfl
 refine clos_f c2 (by rw [hi]; decide) fun h => ?_
 rw [hi] at h
 have h1:=h 1 (by decide)
 have hr:restT [tq 4 30,tq 5 30] 0=[tq 5 30]:=by
  show sortT [tq 5 30]=_
  refine (sortT_eq (fun x hx => ?_) (by simp [nosL]) (List.Perm.refl _) (by simp)).symm
  obtain rfl:=List.mem_singleton.1 hx
  exact okS_q (d:=30) (by decide) (by decide)
 have hl:leastP [tq 4 30,tq 5 30] (0:Int).toNat 1=(tq 4 30).2.1:=by
  show leastP [tq 4 30,tq 5 30] 0 1=_
  unfold leastP
  rw [hr,if_neg]
  ·
   rfl
  ·
   rintro ⟨_,q⟩
   have:cmpR (tq 5 30).2.1 (tq 4 30).2.1<0:=q
   rw [cmp_q _ _ _ _ (by decide) (by decide),cmpZ_zero.2 rfl] at this
   exact absurd this (by decide)
 rw [hl] at h1
 have:=(fitF_q (2:Nat) 4 30).symm.trans h1
 exact absurd this (by decide)
theorem v3:closV [tq 1 100,tq 2 40,tq 3 30] false [1] false [20] 3=true∧closE [tq 1 100,tq 2 40,tq 3 30] false [1] false [20] 3=0:=by
 have hi:idxOf (isNo 3) [tq 1 100,tq 2 40,tq 3 30]=2:=rfl
 refine clos_t c3 (by rw [hi]; decide) ?_
 rw [hi]
 show closB _ _ 2
 have hr:restT [tq 1 100,tq 2 40,tq 3 30] 2=[tq 1 100,tq 2 40]:=by
  show sortT [tq 1 100,tq 2 40]=_
  refine (sortT_eq (fun x hx => ?_) (by simp [nosL]) (List.Perm.refl _) ?_).symm
  ·
   simp only [List.mem_cons,List.not_mem_nil,or_false] at hx
   rcases hx with rfl | rfl
   ·
    exact okS_q (d:=100) (by decide) (by decide)
   ·
    exact okS_q (d:=40) (by decide) (by decide)
  ·
   simp only [List.pairwise_cons,List.mem_cons,List.not_mem_nil,or_false,forall_eq,false_implies,implies_true,List.Pairwise.nil,and_true]
   exact bef_q _ _ _ _ (by decide) (by decide) (by decide)
 intro m hm
 have:m=0∨m=1∨m=2:=by simp at hm; omega
 rcases this with rfl | rfl | rfl
 ·
  have hl:leastP [tq 1 100,tq 2 40,tq 3 30] 2 0=(tq 3 30).2.1:=by
   unfold leastP
   rw [if_neg (by rintro ⟨q,_⟩; omega)]
   rfl
  rw [hl]
  exact (fitF_q (1:Nat) 3 30).trans (by decide)
 ·
  have hl:leastP [tq 1 100,tq 2 40,tq 3 30] 2 1=(tq 2 40).2.1:=by
   unfold leastP
   rw [hr,if_pos]
   ·
    rfl
   ·
    refine ⟨by decide,?_⟩
    show cmpR (tq 2 40).2.1 (tq 3 30).2.1<0
    rw [cmp_q _ _ _ _ (by decide) (by decide),cmpZ_lt (by decide)]; decide
  rw [hl]
  exact (fitF_q (2:Nat) 2 40).trans (by decide)
 ·
  have hl:leastP [tq 1 100,tq 2 40,tq 3 30] 2 2=(tq 1 100).2.1:=by
   unfold leastP
   rw [hr,if_pos]
   ·
    rfl
   ·
    refine ⟨by decide,?_⟩
    show cmpR (tq 1 100).2.1 (tq 3 30).2.1<0
    rw [cmp_q _ _ _ _ (by decide) (by decide),cmpZ_lt (by decide)]; decide
  rw [hl]
  exact (fitF_q (3:Nat) 1 100).trans (by decide)
theorem v0:closV [] false [1] false [20] 3=false∧closE [] false [1] false [20] 3=1:=clos_n c0 (by decide)
theorem n21:¬ okNos [2,1]:=fun h=>by
 have:=(h 1 (by decide)).2 (by decide)
 simp at this
theorem n0:okNos []:=fun j h=>by simp at h
theorem lvlz2:lvlE false [] false []=100:=lvlE_100 fun h=>h.1.2.2.2.1 rfl
end Go.Am
namespace Go.Am
set_option maxHeartbeats 4000000
def okA (a:tRat.T) (m:Nat) (x:tTst.T):Prop:=tstOk x∧fitF (m:Int) x a=true
theorem fitF_iff {n:Int} {x:tTst.T} {a:tRat.T}:fitF n x a=true↔n*sgn x.2.1.1.1 x.2.1.1.2.1*(vl a.2.1.2.1:Int)≤sgn a.1.1 a.1.2.1*(vl x.2.1.2.1.2.1:Int):=by
 unfold fitF fitB
 exact decide_eq_true_iff
theorem okA_mono (a:tRat.T):∀ m m' y,m'≤m→okA a m y→okA a m' y:=by
 rintro m m' y hm ⟨h1,h2⟩
 refine ⟨h1,?_⟩
 rw [fitF_iff] at h2 ⊢
 have hN:0≤sgn y.2.1.1.1 y.2.1.1.2.1:=h1.2.1
 have e1:(m':Int)*sgn y.2.1.1.1 y.2.1.1.2.1≤(m:Int)*sgn y.2.1.1.1 y.2.1.1.2.1:=Int.mul_le_mul_of_nonneg_right (by omega) hN
 exact Int.le_trans (Int.mul_le_mul_of_nonneg_right e1 (by omega)) h2
def leT (x y:tTst.T):Prop:=cmpR x.2.1 y.2.1≤0
theorem leT_iff {x y:tTst.T}:leT x y↔sgn x.2.1.1.1 x.2.1.1.2.1*(vl y.2.1.2.1.2.1:Int)≤sgn y.2.1.1.1 y.2.1.1.2.1*(vl x.2.1.2.1.2.1:Int):=cmpZ_le
theorem tst_den {x:tTst.T} (h:tstOk x):(0:Int)<(vl x.2.1.2.1.2.1:Int):=by
 have:=okRat_pos h.1.1
 omega
theorem okA_le (a:tRat.T) (m:Nat) {x y:tTst.T} (hx:tstOk x) (h:leT x y) (h2:okA a m y):okA a m x:=by
 refine ⟨hx,?_⟩
 obtain ⟨hy,h2⟩:=h2
 rw [fitF_iff] at h2 ⊢
 rw [leT_iff] at h
 have dy:=tst_den hy
 have dx:=tst_den hx
 generalize sgn x.2.1.1.1 x.2.1.1.2.1=Nx at *
 generalize sgn y.2.1.1.1 y.2.1.1.2.1=Ny at *
 generalize sgn a.1.1 a.1.2.1=Na at *
 generalize (vl x.2.1.2.1.2.1:Int)=Dx at *
 generalize (vl y.2.1.2.1.2.1:Int)=Dy at *
 have hda:(0:Int)≤(vl a.2.1.2.1:Int):=by omega
 generalize (vl a.2.1.2.1:Int)=Da at *
 have hm:(0:Int)≤(m:Int)*Da:=Int.mul_nonneg (by omega) hda
 have s1:(m:Int)*Da*(Nx*Dy)≤(m:Int)*Da*(Ny*Dx):=Int.mul_le_mul_of_nonneg_left h hm
 have s2:(m:Int)*Ny*Da*Dx≤Na*Dy*Dx:=Int.mul_le_mul_of_nonneg_right h2 (by omega)
 have e1:(m:Int)*Da*(Nx*Dy)=(m:Int)*Nx*Da*Dy:=by
  rw [Int.mul_assoc (m:Int) Da,← Int.mul_assoc Da Nx,Int.mul_comm Da Nx,← Int.mul_assoc,← Int.mul_assoc]
 have e2:(m:Int)*Da*(Ny*Dx)=(m:Int)*Ny*Da*Dx:=by
  rw [Int.mul_assoc (m:Int) Da,← Int.mul_assoc Da Ny,Int.mul_comm Da Ny,← Int.mul_assoc,← Int.mul_assoc]
 have e3:Na*Dy*Dx=Na*Dx*Dy:=by rw [Int.mul_assoc,Int.mul_comm Dy,← Int.mul_assoc]
 rw [e1,e2] at s1
 rw [e3] at s2
 exact Int.le_of_mul_le_mul_right (Int.le_trans s1 s2) dy
theorem nodup_of_nos {l:List tTst.T} (h:(nosL l).Nodup):l.Nodup:=by
 have:l.Pairwise fun x y=>x.1≠y.1:=by
  have:=h
  unfold nosL List.Nodup at this
  exact List.pairwise_map.1 this
 exact this.imp fun {a b} hab e=>hab (by rw [e])
section
variable {l:List tTst.T} {a:tRat.T}
theorem lead_mem {s:List tTst.T} {x:tTst.T}:∀ {n:Nat},x∈leadF a n s→∃ k,∃ h:k<s.length,s[k]=x∧∀ j (hj:j<s.length),j≤k→fitF ((n - j:Nat):Int) s[j] a=true:=by
 induction s with
 | nil=>intro n h; simp [leadF] at h
 | cons y s ih =>
  intro n h
  rw [leadF] at h
  split at h
  ·
   rename_i hf
   rcases List.mem_cons.1 h with rfl | h
   ·
    refine ⟨0,by simp,rfl,fun j hj hjk => ?_⟩
    obtain rfl:j=0:=by omega
    simpa using hf
   ·
    obtain ⟨k,hk,he,hh⟩:=ih h
    refine ⟨k+1,by simpa using hk,by simpa using he,fun j hj hjk => ?_⟩
    rcases j with _ | j
    ·
     simpa using hf
    ·
     have:=hh j (by simpa using hj) (by omega)
     rw [show n - (j+1)=n - 1 - j by omega]
     simpa using this
  ·
   cases h
theorem mem_lead {s:List tTst.T} {k n:Nat} (hk:k<s.length) (h:∀ j (hj:j<s.length),j≤k→fitF ((n - j:Nat):Int) s[j] a=true):s[k]∈leadF a n s:=by
 have h1:=lead_get (n:=n) hk (fun j hj hji=>h j hj (by omega)) (h k hk (Nat.le_refl _))
 exact List.mem_of_getElem? h1
variable (hf:famP l)
include hf
theorem sort_facts:(sortT l).Perm l∧(sortT l).Pairwise leT∧(sortT l).Nodup∧∀ x∈sortT l,tstOk x:=by
 obtain ⟨h1,h2⟩:=sortT_spec (fam_ok hf).1
 exact ⟨h1,h2.imp fun {a b} h=>befT_le h,h1.nodup_iff.2 (nodup_of_nos (fam_ok hf).2),fun x hx=>hf.2 x (h1.mem_iff.1 hx)⟩
theorem lead_closed {x:tTst.T} (hx:x∈l):x∈leadF a l.length (sortT l)↔closedP (okA a) l x:=by
 obtain ⟨hp,hs,hn,ho⟩:=sort_facts hf
 have hl:=hp.length_eq
 have hcong:closedP (okA a) l x↔closedP (okA a) (sortT l) x:=⟨closedP_congr fun y hy=>hp.mem_iff.1 hy,closedP_congr fun y hy=>hp.mem_iff.2 hy⟩
 rw [hcong]
 obtain ⟨k,hk,rfl⟩:=List.mem_iff_getElem.1 (hp.mem_iff.2 hx)
 rw [holm (ok:=okA a) (le:=leT) (okA_mono a) (fun m x hx y hy h h2=>okA_le a m (ho x hx) h h2) (fun x hx=>by
  have:=ordr_rat.self (x:=x.2.1) (ho x hx).1.1
  unfold leT; omega) hn hs hk]
 constructor
 ·
  intro h j hj hjk
  obtain ⟨k',hk',he,hh⟩:=lead_mem h
  have:k'=k:=by
   rcases Nat.lt_trichotomy k' k with h' | h' | h'
   ·
    exact absurd he (List.pairwise_iff_getElem.1 hn k' k hk' hk h')
   ·
    exact h'
   ·
    exact absurd he.symm (List.pairwise_iff_getElem.1 hn k k' hk hk' h')
  subst this
  exact ⟨ho _ (List.getElem_mem hj),by rw [hl]; exact hh j hj hjk⟩
 ·
  intro h
  exact mem_lead hk fun j hj hjk=>by rw [← hl]; exact (h j hj hjk).2
omit hf
theorem perm_at {k:Nat} (hk:k<l.length):(l[k]::(l.take k++l.drop (k+1))).Perm l:=by
 have e:l=l.take k++l[k]::l.drop (k+1):=by
  conv=>lhs; rw [← List.take_append_drop k l,List.drop_eq_getElem_cons hk]
 conv=>rhs; rw [e]
 exact List.perm_middle.symm
include hf
theorem closB_closed {k:Nat} (hk:k<l.length):closB l a k↔closedP (okA a) l l[k]:=by
 have hsub:∀ x∈l.take k++l.drop (k+1),x∈l:=fun x hx=>by
  rcases List.mem_append.1 hx with hx | hx
  ·
   exact List.mem_of_mem_take hx
  ·
   exact List.mem_of_mem_drop hx
 obtain ⟨q1,q2⟩:=sortT_spec (l:=l.take k++l.drop (k+1)) fun x hx=>(fam_ok hf).1 x (hsub x hx)
 obtain ⟨o,ho⟩:∃ o,o=restT l k:=⟨_,rfl⟩
 have ho':sortT (l.take k++l.drop (k+1))=o:=ho.symm
 rw [ho'] at q1 q2
 have hpl:(l[k]::o).Perm l:=(List.Perm.cons _ q1).trans (perm_at hk)
 have hol:o.length+1=l.length:=by have:=hpl.length_eq; simpa using this
 have hok:∀ x∈o,tstOk x:=fun x hx=>hf.2 x (hpl.mem_iff.1 (List.mem_cons_of_mem _ hx))
 have hxk:=hf.2 _ (List.getElem_mem hk)
 have hnd:(l[k]::o).Nodup:=hpl.nodup_iff.2 (nodup_of_nos (fam_ok hf).2)
 have hcong:closedP (okA a) l l[k]↔closedP (okA a) (l[k]::o) l[k]:=⟨closedP_congr fun y hy=>hpl.mem_iff.1 hy,closedP_congr fun y hy=>hpl.mem_iff.2 hy⟩
 rw [hcong,closed_by (ok:=okA a) (le:=leT) (fun m x hx y hy h h2=>okA_le a m (hok x hx) h h2) (fun x hx=>by
  have:=ordr_rat.self (x:=x.2.1) (hok x hx).1.1
  unfold leT; omega) hnd (q2.imp fun {a b} h=>befT_le h)]
 have hgk:l[k]?.getD dT=l[k]:=by rw [List.getElem?_eq_getElem hk]; rfl
 have h0:leastP l k 0=l[k].2.1:=by
  unfold leastP
  rw [if_neg (by rintro ⟨q,_⟩; omega),hgk]
 have hm:∀ m (h1:0<m) (h2:m≤o.length),fitR ((m+1:Nat):Int) (leastP l k m) a=true↔okA a (m+1) l[k]∨okA a (m+1) (o[o.length - m]'(by omega)):=by
  intro m h1 h2
  have hg:o[o.length - m]?.getD dT=o[o.length - m]'(by omega):=by rw [List.getElem?_eq_getElem (by omega)]; rfl
  have hoo:=hok _ (List.getElem_mem (show o.length - m<o.length by omega))
  unfold leastP
  rw [← ho,hg,hgk]
  by_cases hc:cmpR (o[o.length - m]'(by omega)).2.1 l[k].2.1<0
  ·
   rw [if_pos ⟨h1,hc⟩]
   constructor
   ·
    intro h
    exact .inr ⟨hoo,h⟩
   ·
    rintro (h | h)
    ·
     exact (okA_le a _ hoo (show cmpR _ _≤0 by omega) h).2
    ·
     exact h.2
  ·
   rw [if_neg fun q=>hc q.2]
   constructor
   ·
    intro h
    exact .inl ⟨hxk,h⟩
   ·
    rintro (h | h)
    ·
     exact h.2
    ·
     have:=ordr_rat.anti _ _ hxk.1.1 hoo.1.1
     exact (okA_le a _ hxk (show cmpR _ _≤0 by omega) h).2
 constructor
 ·
  intro h
  refine ⟨⟨hxk,?_⟩,fun m hmo => ?_⟩
  ·
   have:=h 0 (by omega)
   rw [h0] at this
   exact this
  ·
   have:=(hm (o.length - m) (by omega) (by omega)).1 (h (o.length - m) (by omega))
   simp only [show o.length - (o.length - m)=m by omega] at this
   exact this
 ·
  rintro ⟨h1,h2⟩ m hml
  rcases Nat.eq_zero_or_pos m with rfl | hpos
  ·
   rw [h0]; exact h1.2
  ·
   refine (hm m hpos (by omega)).2 ?_
   have:=h2 (o.length - m) (by omega)
   rw [show o.length - (o.length - m)+1=m+1 by omega] at this
   exact this
omit hf
theorem refB_P:∀ (os sm:List tTst.T),(∀ x∈sm,tstOk x)→(∀ x∈os,tstOk x)→(refB a sm os=true↔refusedP (okA a) sm os)
 | [],sm,h1,_=>by
  unfold refB refusedP
  rw [List.any_eq_true]
  exact ⟨fun ⟨x,hx,h⟩=>⟨x,hx,h1 x hx,h⟩,fun ⟨x,hx,h⟩=>⟨x,hx,h.2⟩⟩
 | z::os,sm,h1,h2=>by
  have hos:∀ x∈os,tstOk x:=fun x hx=>h2 x (by simp [hx])
  unfold refB refusedP
  rw [Bool.and_eq_true,refB_P os sm h1 hos,refB_P os (sm++[z]) (fun x hx=>by
   rcases List.mem_append.1 hx with hx | hx
   ·
    exact h1 x hx
   ·
    obtain rfl:=List.mem_singleton.1 hx
    exact h2 _ (by simp)) hos]
include hf
theorem refB_closed {k:Nat} (hk:k<l.length):refB a [l[k]] (l.take k++l.drop (k+1))=true↔closedP (okA a) l l[k]:=by
 have hp:=perm_at hk
 have hnd:(l[k]::(l.take k++l.drop (k+1))).Nodup:=hp.nodup_iff.2 (nodup_of_nos (fam_ok hf).2)
 rw [refB_P _ _ (fun x hx=>by obtain rfl:=List.mem_singleton.1 hx; exact hf.2 _ (List.getElem_mem hk)) (fun x hx=>hf.2 x (hp.mem_iff.1 (List.mem_cons_of_mem _ hx))),← closed_refused hnd]
 exact ⟨closedP_congr fun y hy=>hp.mem_iff.2 hy,closedP_congr fun y hy=>hp.mem_iff.1 hy⟩
end
theorem clos_same {l:List tTst.T} {k1:Bool} {l1:List Int} {k2:Bool} {l2:List Int} {no:Int}:closV l k1 l1 k2 l2 no=refV l k1 l1 k2 l2 no:=by
 by_cases h:chkF l k1 l1 k2 l2=0
 ·
  rcases Int.lt_or_le (idxOf (isNo no) l) 0 with h2 | h2
  ·
   rw [(clos_n h h2).1,(refV_n h h2).1]
  ·
   obtain ⟨i,hi⟩:∃ i:Nat,idxOf (isNo no) l=i:=⟨_,(Int.toNat_of_nonneg h2).symm⟩
   have hlt:i<l.length:=by have:=idxOf_lt (p:=isNo no) (xs:=l); omega
   obtain ⟨_,hf,_⟩:=chkF_0.1 h
   rw [(refV_y h hi).1]
   have hgd:l[i]?.getD dT=l[i]:=by rw [List.getElem?_eq_getElem hlt]; rfl
   rw [hgd]
   by_cases hc:closedP (okA (mkA k1 l1 k2 l2)) l l[i]
   ·
    rw [(clos_t h h2 (by rw [hi]; exact (closB_closed hf hlt).2 hc)).1,(refB_closed hf hlt).2 hc]
   ·
    rw [(clos_f h h2 (by rw [hi]; exact fun q=>hc ((closB_closed hf hlt).1 q))).1]
    cases hr:refB (mkA k1 l1 k2 l2) [l[i]] (l.take i++l.drop (i+1)) with
    | false=>rfl
    | true=>exact absurd ((refB_closed hf hlt).1 hr) hc
 ·
  rw [(clos_e h).1,(refV_e h).1]
theorem found_mem {l:List tTst.T} {k1:Bool} {l1:List Int} {k2:Bool} {l2:List Int} (h:chkF l k1 l1 k2 l2=0) {x:tTst.T} (hx:x∈l):x.1∈foundV l k1 l1 k2 l2↔closedP (okA (mkA k1 l1 k2 l2)) l x:=by
 obtain ⟨_,hf,_⟩:=chkF_0.1 h
 rw [foundV_0 h,(isort_perm _).mem_iff,← lead_closed hf hx]
 unfold findL
 constructor
 ·
  intro hm
  obtain ⟨y,hy,he⟩:=List.mem_map.1 hm
  obtain ⟨k,hk,rfl,_⟩:=lead_mem hy
  have hyl:(sortT l)[k]∈l:=(sort_facts hf).1.mem_iff.1 (List.getElem_mem hk)
  rw [← nos_inj (fam_ok hf).2 hyl hx he]
  exact hy
 ·
  intro hm
  exact List.mem_map.2 ⟨x,hm,rfl⟩
theorem found_of {l:List tTst.T} {k1:Bool} {l1:List Int} {k2:Bool} {l2:List Int} {n:Int} (h:n∈foundV l k1 l1 k2 l2):∃ x∈l,x.1=n:=by
 by_cases hc:chkF l k1 l1 k2 l2=0
 ·
  obtain ⟨_,hf,_⟩:=chkF_0.1 hc
  rw [foundV_0 hc,(isort_perm _).mem_iff] at h
  obtain ⟨y,hy,rfl⟩:=List.mem_map.1 h
  obtain ⟨k,hk,rfl,_⟩:=lead_mem hy
  exact ⟨_,(sort_facts hf).1.mem_iff.1 (List.getElem_mem hk),rfl⟩
 ·
  rw [foundV_e hc] at h; cases h
theorem found_pair {l:List tTst.T} {k1:Bool} {l1:List Int} {k2:Bool} {l2:List Int}:(foundV l k1 l1 k2 l2).Pairwise (· < ·):=by
 by_cases hc:chkF l k1 l1 k2 l2=0
 ·
  obtain ⟨_,hf,_⟩:=chkF_0.1 hc
  rw [foundV_0 hc]
  obtain ⟨hp,_,_,_⟩:=sort_facts hf
  have hsn:(nosL (sortT l)).Nodup:=(hp.map _).nodup_iff.2 (fam_ok hf).2
  have hsub:∀ (n:Nat) (s:List tTst.T),(leadF (mkA k1 l1 k2 l2) n s).Sublist s:=by
   intro n s
   induction s generalizing n with
   | nil=>simp [leadF]
   | cons x s ih =>
    rw [leadF]
    split
    ·
     exact (ih _).cons_cons x
    ·
     exact List.nil_sublist _
  have h1:(isort (findL l (mkA k1 l1 k2 l2))).Nodup:=(isort_perm _).nodup_iff.2 (hsn.sublist ((hsub _ _).map _))
  exact ((isort_sorted _).and h1).imp fun {a b} h=>by have:=h.1; have:=h.2; omega
 ·
  rw [foundV_e hc]; simp
end Go.Am
namespace Go.Am
set_option maxHeartbeats 8000000
set_option maxRecDepth 20000
open Go.RowKit Go.Proofs
attribute [local simp] thenKD_normal thenKD_exit thenKD_goto thenKD_ret inBlockKD_normal inBlockKD_exit inBlockKD_goto inBlockKD_ret noGotoKD_normal noGotoKD_exit noGotoKD_goto noGotoKD_ret roundKD_normal roundKD_exit roundKD_goto roundKD_ret frzSlotsD_nil frzSlotsD_cons frzSlotD_eq yieldVCD_trace opVCD_eq vcOpsD_nil vcOpsD_cons vcAllD_zero vcAllD_succ allAtD_nil allAtD_cons readyAux edgA vcD_skip vcD_label vcD_exit vcD_goto vcD_ret vcD_region vcD_seq vcD_seqC vcD_cond vcCondD_bool vcD_block vcD_scope vcD_loop vcD_rangeFunc yieldOf isMem isMem0 keepE envLe St.le psE yieldAV round_td round_y round_Γ vI vB vS aI aB aS look getE oper opRV putE allOk okOps Op.operands Call.operands pEv qEv mEv constRV coe RV.av loadEv loadCs takeAt indexAddrEv fieldAddrEv binEv intEv arith unEv gcond pickEv argsEv callVal callEv capAV_mk lenArgs lenEv minEv extractEv convEv funcEv allBox bound sliceEv lookupEv TD.isBool allocEv boxEv storeEv spl plainTD appendEv appendArgs makeMapEv mapUpdateEv buildEv buildSliceEv fillSV zsvOf sizeTD Ty.parses parses_flats' coeA flats_length AV.good AV.cells AV.pure SV.pure av_int av_bool av_str av_slice av_cons av_fld0 av_fld1 av_fld2 av_fld3 av_fld4 Ty.of Ty.dflt Ty.parse Ty.flat Ty.zsv Ty.fld Ty.get Ty.off Ty.nfld Ty.size coeTy junk Blk.look argEnv resEv resOk resVs oneRV retOk frzAs frzAV frzL frzSV boxCaps boxCap SV.sig sigs RV.scalar AV.scalar SV.scalar nope effVCD_eq effOf SV.ids AV.ids dedup SV.ren AV.ren RV.ren idx outId mergeB Blk.pureB flats_pure flat_pure epsSlotsD_nil epsSlotsD_cons epsSlotD_eq allEp D.parts_fnOf fvParts retEff round_E av_fn G.ye isCutD_nil isCutD_cons firstReg_region firstReg_seq firstReg_skip firstReg_ret firstReg_label firstReg_exit firstReg_goto firstReg_cond firstReg_block firstReg_scope firstReg_loop firstReg_rf eptrOf_mk flOfD_nil flOfD_cons vcFlD_cons vcFlD_nil flPairs_nil flPairs_cons vcFrD_nil vcFrD_cons makeSliceEv vcCondD_ib fzEv unfl_flats isFz round_fz panVCD_eq panOf isShift strIdxEv ifaceEv nilChkEv sliceAnyEv sliceOwnEv sliceSufEv appendEv0 appendEv1 Ty.beq Ty.isAgg round_Pn vcDefD_seqR vcDefD_seqS vcDefD_seqC vcDefD_seqB vcDefD_seqL vcDefD_seqF vcDefD_seqSc vcDefD_region vcDefD_ret vcDefD_cond vcDefD_block vcDefD_loop thenKD_panic inBlockKD_panic noGotoKD_panic exitOk_normal exitOk_ret exitOk_panic exitOk_exit runDefs_none runDefs_some runDefs_cons defRegD defReg2D isDefer defOf caughtCon unfl_cons D.bpart_bndOf D.parts_bndOf AV.sig zapEv capArgs capEv
attribute [local simp ←] flats_append
def fl1Γ:List (FuncId×Con):=(15,conSameI)::(10,conFewF)::(21,conHas)::(23,conNum)::(16,conComE)::fl0Γ
theorem fl1Γ_ok:∀ p∈fl1Γ,(∀ (args:Array Value) (w:World),(callFunc p.1 args).run Tryz.prog w=.ok (.enter p.1 args) w)∧PureOk Tryz.prog p.1 p.2:=by
 simp only [fl1Γ,List.forall_mem_cons]
 exact ⟨⟨enters_of Tryz.func15 (by kernel_rfl) rfl,samei_ok⟩,⟨enters_of Tryz.func10 (by kernel_rfl) rfl,fewf_ok⟩,⟨enters_of Tryz.func21 (by kernel_rfl) rfl,has_ok⟩,⟨enters_of Tryz.func23 (by kernel_rfl) rfl,num_ok⟩,⟨enters_of Tryz.func16 (by kernel_rfl) rfl,come_ok⟩,fl0Γ_ok⟩
def fl1E:List (FuncId×ECon):=fl0E
theorem fl1E_ok:∀ p∈fl1E,(∀ (args:Array Value) (w:World),(callFunc p.1 args).run Tryz.prog w=.ok (.enter p.1 args) w)∧EffOk Tryz.prog p.1 p.2:=by
 simp only [fl1E]
 exact fl0E_ok
def fl1P:List (FuncId×PCon):=fl0P
theorem fl1P_ok:∀ p∈fl1P,(∀ (args:Array Value) (w:World),(callFunc p.1 args).run Tryz.prog w=.ok (.enter p.1 args) w)∧PanOk Tryz.prog p.1 p.2:=by
 simp only [fl1P]
 exact fl0P_ok
def fl1:G:={ τ:=flT,Γ:=fl1Γ,E:=fl1E,Pn:=fl1P }
theorem fl1_good:fl1.good Tryz.prog:=good_of_all (flT_ok _ rfl) fl1Γ_ok fl1E_ok fl1P_ok
theorem fl1_all:(∀ t,fl1.td t=(look flT t).getD .other)∧fl1.y=false∧fl1.Γ=fl1Γ∧fl1.E=fl1E∧fl1.Pn=fl1P∧fl1.fz=[]:=⟨fun _=>rfl,rfl,rfl,rfl,rfl,rfl⟩
def conSane43:Con:=⟨fun args=>args=[],fun _=>.v (aB true)⟩
theorem conSane43_pre:conSane43.pre []=True:=by simp [conSane43]
theorem conSane43_val:conSane43.val []=.v (aB true):=rfl
theorem sane43_ok:PureOk Tryz.prog 9 conSane43:=by
 refine pureOkD (L:={ live:=[0,1,2,3,4,5,6,7,9,10,11,12,13,14,16,18,20,21,22,133] }) fl1_good rfl nr_mixed Tryz.func9 rfl conSane43 0 (by decide) (by kernel_rfl) ?_
 rintro args rfl hlens
 refine ⟨rfl,?_⟩
 have d100:lowD 1 100=[100]:=lowD_1 (by decide) (by decide)
 have d40:lowD 1 40=[40]:=lowD_1 (by decide) (by decide)
 have d30:lowD 1 30=[30]:=lowD_1 (by decide) (by decide)
 have d20:lowD 1 20=[20]:=lowD_1 (by decide) (by decide)
 have n21':okNos [2,1]=False:=eq_false n21
 have n0':okNos []=True:=eq_true n0
 simp (config:={ maxSteps:=3000000 }) -dsimp -implicitDefEqProofs [Tryz.f9,fl1_all,flT,fl1Γ,fl1E,fl1P,fl0Γ,fl0E,fl0P,fa25Γ,fa25E,fa25P,fa24Γ,fa24E,fa24P,fa23Γ,fa23E,fa23P,fa22Γ,fa22E,fa22P,fa21Γ,fa21E,fa21P,fa20Γ,fa20E,fa20P,fa19Γ,fa19E,fa19P,fa18Γ,fa18E,fa18P,fa17Γ,fa17E,fa17P,fa16Γ,fa16E,fa16P,fa15Γ,fa15E,fa15P,fa14Γ,fa14E,fa14P,fa13Γ,fa13E,fa13P,fa12Γ,fa12E,fa12P,fa11Γ,fa11E,fa11P,fa10Γ,fa10E,fa10P,fa9Γ,fa9E,fa9P,fa8Γ,fa8E,fa8P,fa7Γ,fa7E,fa7P,fa3Γ,fa3E,fa3P,fa2Γ,fa2E,fa2P,fa1Γ,fa1E,fa1P,nr20Γ,nr20E,nr20P,nr19Γ,nr19E,nr19P,nr18Γ,nr18E,nr18P,nr17Γ,nr17E,nr17P,nr16Γ,nr16E,nr16P,nr15Γ,nr15E,nr15P,nr14Γ,nr14E,nr14P,nr13Γ,nr13E,nr13P,nr9Γ,nr9E,nr9P,nr8Γ,nr8E,nr8P,nr7Γ,nr7E,nr7P,nr6Γ,nr6E,nr6P,nr5Γ,nr5E,nr5P,nr4Γ,nr4E,nr4P,nr3Γ,nr3E,nr3P,nr0Γ,nr0E,nr0P,conSameI_eq,conFewF_eq,conHas_eq,conNum_eq,conComE_eq,conFound_eq,conClosed_eq,conFoundR_eq,conClosedR_eq,conFewR_eq,conWrongF_eq,conLeast,conIdxTI_pre,conIdxTI_val,conCT_pre,conCT_val,conSorted,conFindI_eq,conColF,conSort,conSrtd_eq,conValT_pre,conValT_val,conSofT,conSrtT,conColT,conPdqT,conInsT,conOrI_eq,conCmpI_eq,conLen_eq,conLen64_eq,conChkF_eq,conNumE_eq,conRisI_eq,conRisT_eq,conLvl_eq,conKeyI_eq,conKeyT_eq,conShrtF_eq,conMost_eq,conTimesR_eq,conFits_eq,conWhole_eq,conOrdR_eq,conMkR_eq,conMulR_eq,conCmpR_eq,conRatC_eq,conRInt_eq,conOf_eq,conLow_eq,conDivX_eq,conMakeN_eq,conProd_eq,conDidB_eq,conDidI_eq,conValid_eq,panValid_when,panValid_what,conNeed_eq,panNeed_when,panNeed_what,conGcdN_eq,conMulN_eq,conCmpN2_eq,conPosi_eq,conChk_eq,conBigN_eq,conDiv_eq,conTimes_eq,conNCheck_eq,conLong_eq,conLead64_eq,conShort_eq,conMovE,conTrim_eq,conAt_eq,conNCmp_eq,conBack_eq,conOf9_eq,conDivide_eq,conLess9_eq,conTwo_eq,conRCheck_eq,conRCmpD_eq,inI64,lowN_1,lowN_0,lowD_0,d100,d40,d30,d20,c3,c2,c1,c0,cz,f3,f2,f1,f0,v2.1,v2.2,v3.1,v3.2,v0.1,v0.2,n21',n0',lvlz2,conSane43_val]
 exact ⟨⟨⟨⟨⟨c3,c0⟩,c1⟩,cz⟩,c2⟩,fun _ _ _ _ _=>⟨⟨⟨f3,f0⟩,f1⟩,f2⟩⟩
def fl2Γ:List (FuncId×Con):=(9,conSane43)::fl1Γ
theorem fl2Γ_ok:∀ p∈fl2Γ,(∀ (args:Array Value) (w:World),(callFunc p.1 args).run Tryz.prog w=.ok (.enter p.1 args) w)∧PureOk Tryz.prog p.1 p.2:=by
 simp only [fl2Γ,List.forall_mem_cons]
 exact ⟨⟨enters_of Tryz.func9 (by kernel_rfl) rfl,sane43_ok⟩,fl1Γ_ok⟩
def fl2E:List (FuncId×ECon):=fl1E
theorem fl2E_ok:∀ p∈fl2E,(∀ (args:Array Value) (w:World),(callFunc p.1 args).run Tryz.prog w=.ok (.enter p.1 args) w)∧EffOk Tryz.prog p.1 p.2:=by
 simp only [fl2E]
 exact fl1E_ok
def fl2P:List (FuncId×PCon):=fl1P
theorem fl2P_ok:∀ p∈fl2P,(∀ (args:Array Value) (w:World),(callFunc p.1 args).run Tryz.prog w=.ok (.enter p.1 args) w)∧PanOk Tryz.prog p.1 p.2:=by
 simp only [fl2P]
 exact fl1P_ok
def fl2:G:={ τ:=flT,Γ:=fl2Γ,E:=fl2E,Pn:=fl2P }
theorem fl2_good:fl2.good Tryz.prog:=good_of_all (flT_ok _ rfl) fl2Γ_ok fl2E_ok fl2P_ok
theorem fl2_all:(∀ t,fl2.td t=(look flT t).getD .other)∧fl2.y=false∧fl2.Γ=fl2Γ∧fl2.E=fl2E∧fl2.Pn=fl2P∧fl2.fz=[]:=⟨fun _=>rfl,rfl,rfl,rfl,rfl,rfl⟩
theorem few_len {l:List tTst.T} {l1 l2:List Int} (h:fewF l l1 l2=true):(l.length≤8∨64<l.length∧l.length≤70)∧(∀ x∈l,fewT x=true)∧fewB l1 20=true∧fewB l2 20=true:=by
 unfold fewF at h
 simp only [Bool.and_eq_true,decide_eq_true_eq,List.all_eq_true] at h
 exact ⟨h.1,h.2.1,h.2.2.1,h.2.2.2⟩
theorem few_12 {l:List tTst.T} {k1:Bool} {l1:List Int} {k2:Bool} {l2:List Int} (h:fewF l l1 l2=true) (hc:chkF l k1 l1 k2 l2=0):l.length≤12:=by
 have h1:=(few_len h).1
 have h2:=(chkF_0.1 hc).1
 omega
def conFSpec:Con:=⟨fun args=>(match args with
 | [.s (.sl (.cons (.int .i64) (.cons (.cons (.cons .bool (.cons (.slice (.int .i64)) .nil)) (.cons (.cons .bool (.cons (.slice (.int .i64)) .nil)) .nil)) .nil)) l _),.agg [.bool k1,.sl (.int .i64) l1 _,.bool k2,.sl (.int .i64) l2 _],.s (.int .i64 no)]=>True
 | _=>False),fun args=>match args with
 | [.s (.sl (.cons (.int .i64) (.cons (.cons (.cons .bool (.cons (.slice (.int .i64)) .nil)) (.cons (.cons .bool (.cons (.slice (.int .i64)) .nil)) .nil)) .nil)) l _),.agg [.bool k1,.sl (.int .i64) l1 _,.bool k2,.sl (.int .i64) l2 _],.s (.int _ no)]=>.v (aB true)
 | _=>.v (.s .any)⟩
theorem conFSpec_eq (l:List (Ty.T tTst)) (exl:Bool) (k1:Bool) (l1:List (Ty.T tI)) (exl1:Bool) (k2:Bool) (l2:List (Ty.T tI)) (exl2:Bool) (no:Int):conFSpec.pre [.s (.sl tTst l exl),.agg [.bool k1,.sl tI l1 exl1,.bool k2,.sl tI l2 exl2],.s (.int .i64 no)]=(True)∧conFSpec.val [.s (.sl tTst l exl),.agg [.bool k1,.sl tI l1 exl1,.bool k2,.sl tI l2 exl2],.s (.int .i64 no)]=.v (aB true):=⟨rfl,rfl⟩
theorem fspec_ok:PureOk Tryz.prog 3 conFSpec:=by
 refine pureOkD (L:={ live:=[0,1,2,4,6,7,8,9,10,11,12,13,14,16,20] }) fl2_good rfl nr_mixed Tryz.func3 rfl conFSpec 3 (by decide) (by kernel_rfl) ?_
 intro args hpre hlens
 simp only [conFSpec] at hpre
 split at hpre
 case h_2=>exact hpre.elim
 rename_i l el k1 l1 f1 k2 l2 f2 no
 simp only [allLen,AV.lenOk,SV.lenOk,Ty.lenOk,maxLen,and_true,implies_true,true_and,List.forall_mem_cons,List.not_mem_nil,false_implies] at hlens
 refine ⟨rfl,?_⟩
 simp -dsimp -implicitDefEqProofs [Tryz.f3,conFSpec_eq,fl2_all,flT,fl2Γ,fl2E,fl2P,fl1Γ,fl1E,fl1P,fl0Γ,fl0E,fl0P,fa25Γ,fa25E,fa25P,fa24Γ,fa24E,fa24P,fa23Γ,fa23E,fa23P,fa22Γ,fa22E,fa22P,fa21Γ,fa21E,fa21P,fa20Γ,fa20E,fa20P,fa19Γ,fa19E,fa19P,fa18Γ,fa18E,fa18P,fa17Γ,fa17E,fa17P,fa16Γ,fa16E,fa16P,fa15Γ,fa15E,fa15P,fa14Γ,fa14E,fa14P,fa13Γ,fa13E,fa13P,fa12Γ,fa12E,fa12P,fa11Γ,fa11E,fa11P,fa10Γ,fa10E,fa10P,fa9Γ,fa9E,fa9P,fa8Γ,fa8E,fa8P,fa7Γ,fa7E,fa7P,fa3Γ,fa3E,fa3P,fa2Γ,fa2E,fa2P,fa1Γ,fa1E,fa1P,nr20Γ,nr20E,nr20P,nr19Γ,nr19E,nr19P,nr18Γ,nr18E,nr18P,nr17Γ,nr17E,nr17P,nr16Γ,nr16E,nr16P,nr15Γ,nr15E,nr15P,nr14Γ,nr14E,nr14P,nr13Γ,nr13E,nr13P,nr9Γ,nr9E,nr9P,nr8Γ,nr8E,nr8P,nr7Γ,nr7E,nr7P,nr6Γ,nr6E,nr6P,nr5Γ,nr5E,nr5P,nr4Γ,nr4E,nr4P,nr3Γ,nr3E,nr3P,nr0Γ,nr0E,nr0P,conSane43_pre,conSane43_val,conSameI_eq,conFewF_eq,conHas_eq,conNum_eq,conComE_eq,conFound_eq,conClosed_eq,conFoundR_eq,conClosedR_eq,conFewR_eq,conWrongF_eq,conLeast,conIdxTI_pre,conIdxTI_val,conCT_pre,conCT_val,conSorted,conFindI_eq,conColF,conSort,conSrtd_eq,conValT_pre,conValT_val,conSofT,conSrtT,conColT,conPdqT,conInsT,conOrI_eq,conCmpI_eq,conLen_eq,conLen64_eq,conChkF_eq,conNumE_eq,conRisI_eq,conRisT_eq,conLvl_eq,conKeyI_eq,conKeyT_eq,conShrtF_eq,conMost_eq,conTimesR_eq,conFits_eq,conWhole_eq,conOrdR_eq,conMkR_eq,conMulR_eq,conCmpR_eq,conRatC_eq,conRInt_eq,conOf_eq,conLow_eq,conDivX_eq,conMakeN_eq,conProd_eq,conDidB_eq,conDidI_eq,conValid_eq,panValid_when,panValid_what,conNeed_eq,panNeed_when,panNeed_what,conGcdN_eq,conMulN_eq,conCmpN2_eq,conPosi_eq,conChk_eq,conBigN_eq,conDiv_eq,conTimes_eq,conNCheck_eq,conLong_eq,conLead64_eq,conShort_eq,conMovE,conTrim_eq,conAt_eq,conNCmp_eq,conBack_eq,conOf9_eq,conDivide_eq,conLess9_eq,conTwo_eq,conRCheck_eq,conRCmpD_eq,inI64]
 obtain ⟨l1,rfl⟩:∃ y:List Int,y=l1:=⟨l1,rfl⟩; obtain ⟨l2,rfl⟩:∃ y:List Int,y=l2:=⟨l2,rfl⟩
 intro h
 have h1:=(few_len h).1
 exact ⟨fun hc=>few_12 h hc,⟨by omega,fun hc=>few_12 h hc⟩,fun hc=>few_12 h hc,by omega,clos_same⟩
theorem sel_pre {l:List tTst.T} {done:List Bool} {i:Nat}:∀ m,i≤m→∃ r,selL l done m=selL l done i++r
 | 0,h=>by
  obtain rfl:i=0:=by omega
  exact ⟨[],by simp⟩
 | m+1,h=>by
  rcases Nat.lt_or_eq_of_le h with h' | rfl
  ·
   obtain ⟨r,hr⟩:=sel_pre (l:=l) (done:=done) (i:=i) m (by omega)
   rw [selL]
   split
   ·
    exact ⟨r++[(pAt l m).1],by rw [hr,List.append_assoc]⟩
   ·
    exact ⟨r,hr⟩
  ·
   exact ⟨[],by simp⟩
theorem clos_at {l:List tTst.T} {k1:Bool} {l1:List Int} {k2:Bool} {l2:List Int} (h:chkF l k1 l1 k2 l2=0) {i:Nat} (hi:i<l.length):(closV l k1 l1 k2 l2 l[i].1=true↔closedP (okA (mkA k1 l1 k2 l2)) l l[i])∧closE l k1 l1 k2 l2 l[i].1=0:=by
 obtain ⟨_,hf,_⟩:=chkF_0.1 h
 have hgd:∀ j,(hj:j<l.length)→l[j]?.getD dT=l[j]:=fun j hj=>by rw [List.getElem?_eq_getElem hj]; rfl
 have hix:idxOf (isNo l[i].1) l=i:=idxOf_at hi dT (by rw [hgd i hi]; exact decide_eq_true rfl) fun j hj=>by
  rw [hgd j (by omega)]
  refine decide_eq_false fun e => ?_
  have:=List.pairwise_iff_getElem.1 (nos_pair hf.1) j i (by rw [nosL_len]; omega) (by rw [nosL_len]; omega) hj
  simp only [nosL,List.getElem_map,e] at this
  omega
 have h2:0≤idxOf (isNo l[i].1) l:=by omega
 by_cases hc:closedP (okA (mkA k1 l1 k2 l2)) l l[i]
 ·
  obtain ⟨a,b⟩:=clos_t h h2 (by rw [hix]; exact (closB_closed hf hi).2 hc)
  exact ⟨⟨fun _=>hc,fun _=>a⟩,b⟩
 ·
  obtain ⟨a,b⟩:=clos_f h h2 (by rw [hix]; exact fun q=>hc ((closB_closed hf hi).1 q))
  exact ⟨⟨fun q=>(by rw [a] at q; cases q),fun q=>absurd q hc⟩,b⟩
theorem found_sel {l:List tTst.T} {k1:Bool} {l1:List Int} {k2:Bool} {l2:List Int} (h:chkF l k1 l1 k2 l2=0) {done:List Bool} (hd:∀ j (hj:j<l.length),done[j]?.getD false=true↔closedP (okA (mkA k1 l1 k2 l2)) l l[j]):foundV l k1 l1 k2 l2=selL l done l.length:=by
 obtain ⟨_,hf,_⟩:=chkF_0.1 h
 refine sorted_ext found_pair (sel_pair (nos_pair hf.1) _ (Nat.le_refl _)) fun x => ?_
 rw [sel_mem]
 constructor
 ·
  intro hx
  obtain ⟨y,hy,rfl⟩:=found_of hx
  obtain ⟨j,hj,rfl⟩:=List.mem_iff_getElem.1 hy
  exact ⟨j,hj,(hd j hj).2 ((found_mem h hy).1 hx),by rw [pAt_get hj]⟩
 ·
  rintro ⟨j,hj,hdj,rfl⟩
  rw [pAt_get hj]
  exact (found_mem h (List.getElem_mem hj)).2 ((hd j hj).1 hdj)
def conFSame:Con:=⟨fun args=>(match args with
 | [.s (.sl (.cons (.int .i64) (.cons (.cons (.cons .bool (.cons (.slice (.int .i64)) .nil)) (.cons (.cons .bool (.cons (.slice (.int .i64)) .nil)) .nil)) .nil)) l _),.agg [.bool k1,.sl (.int .i64) l1 _,.bool k2,.sl (.int .i64) l2 _]]=>True
 | _=>False),fun args=>match args with
 | [.s (.sl (.cons (.int .i64) (.cons (.cons (.cons .bool (.cons (.slice (.int .i64)) .nil)) (.cons (.cons .bool (.cons (.slice (.int .i64)) .nil)) .nil)) .nil)) l _),.agg [.bool k1,.sl (.int .i64) l1 _,.bool k2,.sl (.int .i64) l2 _]]=>.v (aB true)
 | _=>.v (.s .any)⟩
theorem conFSame_eq (l:List (Ty.T tTst)) (exl:Bool) (k1:Bool) (l1:List (Ty.T tI)) (exl1:Bool) (k2:Bool) (l2:List (Ty.T tI)) (exl2:Bool):conFSame.pre [.s (.sl tTst l exl),.agg [.bool k1,.sl tI l1 exl1,.bool k2,.sl tI l2 exl2]]=(True)∧conFSame.val [.s (.sl tTst l exl),.agg [.bool k1,.sl tI l1 exl1,.bool k2,.sl tI l2 exl2]]=.v (aB true):=⟨rfl,rfl⟩
theorem fsame_ok:PureOk Tryz.prog 5 conFSame:=by
 refine pureOkD (L:={ live:=[0,1,3,4,5,6,7,8,9,10,12,16,24,31,57,58,74] }) fl2_good rfl nr_mixed Tryz.func5 rfl conFSame 2 (by decide) (by kernel_rfl) ?_
 intro args hpre hlens
 simp only [conFSame] at hpre
 split at hpre
 case h_2=>exact hpre.elim
 rename_i l el k1 l1 f1 k2 l2 f2
 simp only [allLen,AV.lenOk,SV.lenOk,Ty.lenOk,maxLen,and_true,implies_true,true_and,List.forall_mem_cons,List.not_mem_nil,false_implies] at hlens
 refine ⟨rfl,?_⟩
 simp -dsimp -implicitDefEqProofs [Tryz.f5,conFSame_eq,fl2_all,flT,fl2Γ,fl2E,fl2P,fl1Γ,fl1E,fl1P,fl0Γ,fl0E,fl0P,fa25Γ,fa25E,fa25P,fa24Γ,fa24E,fa24P,fa23Γ,fa23E,fa23P,fa22Γ,fa22E,fa22P,fa21Γ,fa21E,fa21P,fa20Γ,fa20E,fa20P,fa19Γ,fa19E,fa19P,fa18Γ,fa18E,fa18P,fa17Γ,fa17E,fa17P,fa16Γ,fa16E,fa16P,fa15Γ,fa15E,fa15P,fa14Γ,fa14E,fa14P,fa13Γ,fa13E,fa13P,fa12Γ,fa12E,fa12P,fa11Γ,fa11E,fa11P,fa10Γ,fa10E,fa10P,fa9Γ,fa9E,fa9P,fa8Γ,fa8E,fa8P,fa7Γ,fa7E,fa7P,fa3Γ,fa3E,fa3P,fa2Γ,fa2E,fa2P,fa1Γ,fa1E,fa1P,nr20Γ,nr20E,nr20P,nr19Γ,nr19E,nr19P,nr18Γ,nr18E,nr18P,nr17Γ,nr17E,nr17P,nr16Γ,nr16E,nr16P,nr15Γ,nr15E,nr15P,nr14Γ,nr14E,nr14P,nr13Γ,nr13E,nr13P,nr9Γ,nr9E,nr9P,nr8Γ,nr8E,nr8P,nr7Γ,nr7E,nr7P,nr6Γ,nr6E,nr6P,nr5Γ,nr5E,nr5P,nr4Γ,nr4E,nr4P,nr3Γ,nr3E,nr3P,nr0Γ,nr0E,nr0P,conSane43_pre,conSane43_val,conSameI_eq,conFewF_eq,conHas_eq,conNum_eq,conComE_eq,conFound_eq,conClosed_eq,conFoundR_eq,conClosedR_eq,conFewR_eq,conWrongF_eq,conLeast,conIdxTI_pre,conIdxTI_val,conCT_pre,conCT_val,conSorted,conFindI_eq,conColF,conSort,conSrtd_eq,conValT_pre,conValT_val,conSofT,conSrtT,conColT,conPdqT,conInsT,conOrI_eq,conCmpI_eq,conLen_eq,conLen64_eq,conChkF_eq,conNumE_eq,conRisI_eq,conRisT_eq,conLvl_eq,conKeyI_eq,conKeyT_eq,conShrtF_eq,conMost_eq,conTimesR_eq,conFits_eq,conWhole_eq,conOrdR_eq,conMkR_eq,conMulR_eq,conCmpR_eq,conRatC_eq,conRInt_eq,conOf_eq,conLow_eq,conDivX_eq,conMakeN_eq,conProd_eq,conDidB_eq,conDidI_eq,conValid_eq,panValid_when,panValid_what,conNeed_eq,panNeed_when,panNeed_what,conGcdN_eq,conMulN_eq,conCmpN2_eq,conPosi_eq,conChk_eq,conBigN_eq,conDiv_eq,conTimes_eq,conNCheck_eq,conLong_eq,conLead64_eq,conShort_eq,conMovE,conTrim_eq,conAt_eq,conNCmp_eq,conBack_eq,conOf9_eq,conDivide_eq,conLess9_eq,conTwo_eq,conRCheck_eq,conRCmpD_eq,inI64]
 obtain ⟨l1,rfl⟩:∃ y:List Int,y=l1:=⟨l1,rfl⟩; obtain ⟨l2,rfl⟩:∃ y:List Int,y=l2:=⟨l2,rfl⟩
 intro hfew
 have h12:=fun hc=>few_12 (k1:=k1) (k2:=k2) hfew hc
 refine ⟨h12,fun hc=>foundV_e hc,fun hc => ?_⟩
 classical
 obtain ⟨done,hdl,hdd⟩:∃ done:List Bool,done.length=l.length∧∀ j (hj:j<l.length),done[j]?.getD false=true↔closedP (okA (mkA k1 l1 k2 l2)) l l[j]:=⟨l.map fun x=>decide (closedP (okA (mkA k1 l1 k2 l2)) l x),by simp,fun j hj=>by
  rw [List.getElem?_map,List.getElem?_eq_getElem hj]
  simp⟩
 obtain ⟨F,hF⟩:∃ F,F=foundV l k1 l1 k2 l2:=⟨_,rfl⟩
 have hsel:F=selL l done l.length:=by rw [hF]; exact found_sel hc hdd
 rw [← hF]
 refine WpD.loop (L:={ live:=[0,1,3,4,5,6,7,8,9,10,12,16,24,31,57,58,74] }) fl2_good X0_ok nr_mixed (by kernel_rfl)
  (fun i:Nat=>⟨[(0,vS tTst l el),(3,⟨true,.v (.s (.box 0 0))⟩),(5,vS tI F false),(7,vI (selL l done i).length),(8,vI i)],[.cells [.bool k1,.sl tI l1 f1,.bool k2,.sl tI l2 f2]]⟩)
  (fun i=>i≤l.length) (fun i=>l.length - i) 0 (Nat.zero_le _) (Turn.le (by simp -dsimp -implicitDefEqProofs [selL])) ?_
 intro i hi
 have hl12:=h12 hc
 rcases Nat.lt_or_ge i l.length with hil | hge
 ·
  obtain ⟨hcv,hce⟩:=clos_at hc hil
  have hfm:=found_mem hc (List.getElem_mem hil)
  rw [← hF] at hfm
  have hdi:=hdd i hil
  have hslen:=sel_len l done i
  have hce':¬ (closE l k1 l1 k2 l2 l[i].1≠0):=fun h=>h hce
  cases hb:closV l k1 l1 k2 l2 l[i].1 with
  | true =>
   have hcl:=hcv.1 hb
   have hmem:=hfm.2 hcl
   have hs1:selL l done (i+1)=selL l done i++[l[i].1]:=by rw [selL,if_pos (hdi.2 hcl),pAt_get hil]
   obtain ⟨r,hr⟩:=sel_pre (l:=l) (done:=done) (i:=i+1) l.length hil
   rw [← hsel,hs1] at hr
   have hFl:(selL l done i).length<F.length:=by rw [hr]; simp
   have hFg:F[(selL l done i).length]'hFl=l[i].1:=by
    have:F[(selL l done i).length]?=some l[i].1:=by rw [hr]; simp
    rw [List.getElem?_eq_getElem hFl] at this
    injection this
   simp -dsimp -implicitDefEqProofs [hil,hb,hce,hmem,hFl,hFg,fl2_all,flT,fl2Γ,fl2E,fl2P,fl1Γ,fl1E,fl1P,fl0Γ,fl0E,fl0P,fa25Γ,fa25E,fa25P,fa24Γ,fa24E,fa24P,fa23Γ,fa23E,fa23P,fa22Γ,fa22E,fa22P,fa21Γ,fa21E,fa21P,fa20Γ,fa20E,fa20P,fa19Γ,fa19E,fa19P,fa18Γ,fa18E,fa18P,fa17Γ,fa17E,fa17P,fa16Γ,fa16E,fa16P,fa15Γ,fa15E,fa15P,fa14Γ,fa14E,fa14P,fa13Γ,fa13E,fa13P,fa12Γ,fa12E,fa12P,fa11Γ,fa11E,fa11P,fa10Γ,fa10E,fa10P,fa9Γ,fa9E,fa9P,fa8Γ,fa8E,fa8P,fa7Γ,fa7E,fa7P,fa3Γ,fa3E,fa3P,fa2Γ,fa2E,fa2P,fa1Γ,fa1E,fa1P,nr20Γ,nr20E,nr20P,nr19Γ,nr19E,nr19P,nr18Γ,nr18E,nr18P,nr17Γ,nr17E,nr17P,nr16Γ,nr16E,nr16P,nr15Γ,nr15E,nr15P,nr14Γ,nr14E,nr14P,nr13Γ,nr13E,nr13P,nr9Γ,nr9E,nr9P,nr8Γ,nr8E,nr8P,nr7Γ,nr7E,nr7P,nr6Γ,nr6E,nr6P,nr5Γ,nr5E,nr5P,nr4Γ,nr4E,nr4P,nr3Γ,nr3E,nr3P,nr0Γ,nr0E,nr0P,conSane43_pre,conSane43_val,conSameI_eq,conFewF_eq,conHas_eq,conNum_eq,conComE_eq,conFound_eq,conClosed_eq,conFoundR_eq,conClosedR_eq,conFewR_eq,conWrongF_eq,conLeast,conIdxTI_pre,conIdxTI_val,conCT_pre,conCT_val,conSorted,conFindI_eq,conColF,conSort,conSrtd_eq,conValT_pre,conValT_val,conSofT,conSrtT,conColT,conPdqT,conInsT,conOrI_eq,conCmpI_eq,conLen_eq,conLen64_eq,conChkF_eq,conNumE_eq,conRisI_eq,conRisT_eq,conLvl_eq,conKeyI_eq,conKeyT_eq,conShrtF_eq,conMost_eq,conTimesR_eq,conFits_eq,conWhole_eq,conOrdR_eq,conMkR_eq,conMulR_eq,conCmpR_eq,conRatC_eq,conRInt_eq,conOf_eq,conLow_eq,conDivX_eq,conMakeN_eq,conProd_eq,conDidB_eq,conDidI_eq,conValid_eq,panValid_when,panValid_what,conNeed_eq,panNeed_when,panNeed_what,conGcdN_eq,conMulN_eq,conCmpN2_eq,conPosi_eq,conChk_eq,conBigN_eq,conDiv_eq,conTimes_eq,conNCheck_eq,conLong_eq,conLead64_eq,conShort_eq,conMovE,conTrim_eq,conAt_eq,conNCmp_eq,conBack_eq,conOf9_eq,conDivide_eq,conLess9_eq,conTwo_eq,conRCheck_eq,conRCmpD_eq,inI64]
   refine ⟨fun _=>hl12,fun h=>absurd hFl (by omega),⟨by omega,by omega⟩,⟨by omega,by omega⟩,i+1,by omega,by omega,?_⟩
   rw [hs1]
   exact TurnT.le (by simp -dsimp -implicitDefEqProofs)
  | false =>
   have hcl:¬ closedP (okA (mkA k1 l1 k2 l2)) l l[i]:=fun q=>by rw [hcv.2 q] at hb; cases hb
   have hmem:¬ l[i].1∈F:=fun q=>hcl (hfm.1 q)
   have hs1:selL l done (i+1)=selL l done i:=by rw [selL,if_neg fun q=>hcl (hdi.1 q)]
   simp -dsimp -implicitDefEqProofs [hil,hb,hce,hmem,fl2_all,flT,fl2Γ,fl2E,fl2P,fl1Γ,fl1E,fl1P,fl0Γ,fl0E,fl0P,fa25Γ,fa25E,fa25P,fa24Γ,fa24E,fa24P,fa23Γ,fa23E,fa23P,fa22Γ,fa22E,fa22P,fa21Γ,fa21E,fa21P,fa20Γ,fa20E,fa20P,fa19Γ,fa19E,fa19P,fa18Γ,fa18E,fa18P,fa17Γ,fa17E,fa17P,fa16Γ,fa16E,fa16P,fa15Γ,fa15E,fa15P,fa14Γ,fa14E,fa14P,fa13Γ,fa13E,fa13P,fa12Γ,fa12E,fa12P,fa11Γ,fa11E,fa11P,fa10Γ,fa10E,fa10P,fa9Γ,fa9E,fa9P,fa8Γ,fa8E,fa8P,fa7Γ,fa7E,fa7P,fa3Γ,fa3E,fa3P,fa2Γ,fa2E,fa2P,fa1Γ,fa1E,fa1P,nr20Γ,nr20E,nr20P,nr19Γ,nr19E,nr19P,nr18Γ,nr18E,nr18P,nr17Γ,nr17E,nr17P,nr16Γ,nr16E,nr16P,nr15Γ,nr15E,nr15P,nr14Γ,nr14E,nr14P,nr13Γ,nr13E,nr13P,nr9Γ,nr9E,nr9P,nr8Γ,nr8E,nr8P,nr7Γ,nr7E,nr7P,nr6Γ,nr6E,nr6P,nr5Γ,nr5E,nr5P,nr4Γ,nr4E,nr4P,nr3Γ,nr3E,nr3P,nr0Γ,nr0E,nr0P,conSane43_pre,conSane43_val,conSameI_eq,conFewF_eq,conHas_eq,conNum_eq,conComE_eq,conFound_eq,conClosed_eq,conFoundR_eq,conClosedR_eq,conFewR_eq,conWrongF_eq,conLeast,conIdxTI_pre,conIdxTI_val,conCT_pre,conCT_val,conSorted,conFindI_eq,conColF,conSort,conSrtd_eq,conValT_pre,conValT_val,conSofT,conSrtT,conColT,conPdqT,conInsT,conOrI_eq,conCmpI_eq,conLen_eq,conLen64_eq,conChkF_eq,conNumE_eq,conRisI_eq,conRisT_eq,conLvl_eq,conKeyI_eq,conKeyT_eq,conShrtF_eq,conMost_eq,conTimesR_eq,conFits_eq,conWhole_eq,conOrdR_eq,conMkR_eq,conMulR_eq,conCmpR_eq,conRatC_eq,conRInt_eq,conOf_eq,conLow_eq,conDivX_eq,conMakeN_eq,conProd_eq,conDidB_eq,conDidI_eq,conValid_eq,panValid_when,panValid_what,conNeed_eq,panNeed_when,panNeed_what,conGcdN_eq,conMulN_eq,conCmpN2_eq,conPosi_eq,conChk_eq,conBigN_eq,conDiv_eq,conTimes_eq,conNCheck_eq,conLong_eq,conLead64_eq,conShort_eq,conMovE,conTrim_eq,conAt_eq,conNCmp_eq,conBack_eq,conOf9_eq,conDivide_eq,conLess9_eq,conTwo_eq,conRCheck_eq,conRCmpD_eq,inI64]
   refine ⟨fun _=>hl12,⟨by omega,by omega⟩,i+1,by omega,by omega,?_⟩
   rw [hs1]
   exact TurnT.le (by simp -dsimp -implicitDefEqProofs)
 ·
  have hn:¬ i<l.length:=by omega
  obtain rfl:i=l.length:=by omega
  simp -dsimp -implicitDefEqProofs [conFSame_eq,hn,hsel,fl2_all,flT,fl2Γ,fl2E,fl2P,fl1Γ,fl1E,fl1P,fl0Γ,fl0E,fl0P,fa25Γ,fa25E,fa25P,fa24Γ,fa24E,fa24P,fa23Γ,fa23E,fa23P,fa22Γ,fa22E,fa22P,fa21Γ,fa21E,fa21P,fa20Γ,fa20E,fa20P,fa19Γ,fa19E,fa19P,fa18Γ,fa18E,fa18P,fa17Γ,fa17E,fa17P,fa16Γ,fa16E,fa16P,fa15Γ,fa15E,fa15P,fa14Γ,fa14E,fa14P,fa13Γ,fa13E,fa13P,fa12Γ,fa12E,fa12P,fa11Γ,fa11E,fa11P,fa10Γ,fa10E,fa10P,fa9Γ,fa9E,fa9P,fa8Γ,fa8E,fa8P,fa7Γ,fa7E,fa7P,fa3Γ,fa3E,fa3P,fa2Γ,fa2E,fa2P,fa1Γ,fa1E,fa1P,nr20Γ,nr20E,nr20P,nr19Γ,nr19E,nr19P,nr18Γ,nr18E,nr18P,nr17Γ,nr17E,nr17P,nr16Γ,nr16E,nr16P,nr15Γ,nr15E,nr15P,nr14Γ,nr14E,nr14P,nr13Γ,nr13E,nr13P,nr9Γ,nr9E,nr9P,nr8Γ,nr8E,nr8P,nr7Γ,nr7E,nr7P,nr6Γ,nr6E,nr6P,nr5Γ,nr5E,nr5P,nr4Γ,nr4E,nr4P,nr3Γ,nr3E,nr3P,nr0Γ,nr0E,nr0P,conSane43_pre,conSane43_val,conSameI_eq,conFewF_eq,conHas_eq,conNum_eq,conComE_eq,conFound_eq,conClosed_eq,conFoundR_eq,conClosedR_eq,conFewR_eq,conWrongF_eq,conLeast,conIdxTI_pre,conIdxTI_val,conCT_pre,conCT_val,conSorted,conFindI_eq,conColF,conSort,conSrtd_eq,conValT_pre,conValT_val,conSofT,conSrtT,conColT,conPdqT,conInsT,conOrI_eq,conCmpI_eq,conLen_eq,conLen64_eq,conChkF_eq,conNumE_eq,conRisI_eq,conRisT_eq,conLvl_eq,conKeyI_eq,conKeyT_eq,conShrtF_eq,conMost_eq,conTimesR_eq,conFits_eq,conWhole_eq,conOrdR_eq,conMkR_eq,conMulR_eq,conCmpR_eq,conRatC_eq,conRInt_eq,conOf_eq,conLow_eq,conDivX_eq,conMakeN_eq,conProd_eq,conDidB_eq,conDidI_eq,conValid_eq,panValid_when,panValid_what,conNeed_eq,panNeed_when,panNeed_what,conGcdN_eq,conMulN_eq,conCmpN2_eq,conPosi_eq,conChk_eq,conBigN_eq,conDiv_eq,conTimes_eq,conNCheck_eq,conLong_eq,conLead64_eq,conShort_eq,conMovE,conTrim_eq,conAt_eq,conNCmp_eq,conBack_eq,conOf9_eq,conDivide_eq,conLess9_eq,conTwo_eq,conRCheck_eq,conRCmpD_eq,inI64]
end Go.Am
