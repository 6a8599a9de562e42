/- Part 8 of the proof's base. -/
import Derived.Test.YtejcoioabaejlaaGreatDoorK7
set_option linter.all false
noncomputable section
namespace Go.Am
set_option maxHeartbeats 4000000
set_option maxRecDepth 20000
open Go.RowKit Go.Proofs
attribute [local simp] thenKD_normal thenKD_exit thenKD_goto thenKD_ret inBlockKD_normal inBlockKD_exit inBlockKD_goto inBlockKD_ret noGotoKD_normal noGotoKD_exit noGotoKD_goto noGotoKD_ret roundKD_normal roundKD_exit roundKD_goto roundKD_ret frzSlotsD_nil frzSlotsD_cons frzSlotD_eq yieldVCD_trace opVCD_eq vcOpsD_nil vcOpsD_cons vcAllD_zero vcAllD_succ allAtD_nil allAtD_cons readyAux edgA vcD_skip vcD_label vcD_exit vcD_goto vcD_ret vcD_region vcD_seq vcD_seqC vcD_cond vcCondD_bool vcD_block vcD_scope vcD_loop vcD_rangeFunc yieldOf isMem isMem0 keepE envLe St.le psE yieldAV round_td round_y round_Γ vI vB vS aI aB aS look getE oper opRV putE allOk okOps Op.operands Call.operands pEv qEv mEv constRV coe RV.av loadEv loadCs takeAt indexAddrEv fieldAddrEv binEv intEv arith unEv gcond pickEv argsEv callVal callEv capAV_mk lenArgs lenEv minEv extractEv convEv funcEv allBox bound sliceEv lookupEv TD.isBool allocEv boxEv storeEv spl plainTD appendEv appendArgs makeMapEv mapUpdateEv buildEv buildSliceEv fillSV zsvOf sizeTD Ty.parses parses_flats' coeA flats_length AV.good AV.cells AV.pure SV.pure av_int av_bool av_str av_slice av_cons av_fld0 av_fld1 av_fld2 av_fld3 av_fld4 Ty.of Ty.dflt Ty.parse Ty.flat Ty.zsv Ty.fld Ty.get Ty.off Ty.nfld Ty.size coeTy junk Blk.look argEnv resEv resOk resVs oneRV retOk frzAs frzAV frzL frzSV boxCaps boxCap SV.sig sigs RV.scalar AV.scalar SV.scalar nope effVCD_eq effOf SV.ids AV.ids dedup SV.ren AV.ren RV.ren idx outId mergeB Blk.pureB flats_pure flat_pure epsSlotsD_nil epsSlotsD_cons epsSlotD_eq allEp D.parts_fnOf fvParts retEff round_E av_fn G.ye isCutD_nil isCutD_cons firstReg_region firstReg_seq firstReg_skip firstReg_ret firstReg_label firstReg_exit firstReg_goto firstReg_cond firstReg_block firstReg_scope firstReg_loop firstReg_rf eptrOf_mk flOfD_nil flOfD_cons vcFlD_cons vcFlD_nil flPairs_nil flPairs_cons vcFrD_nil vcFrD_cons makeSliceEv vcCondD_ib fzEv unfl_flats isFz round_fz panVCD_eq panOf isShift strIdxEv ifaceEv nilChkEv sliceAnyEv sliceOwnEv sliceSufEv appendEv0 appendEv1 Ty.beq Ty.isAgg round_Pn vcDefD_seqR vcDefD_seqS vcDefD_seqC vcDefD_seqB vcDefD_seqL vcDefD_seqF vcDefD_seqSc vcDefD_region vcDefD_ret vcDefD_cond vcDefD_block vcDefD_loop thenKD_panic inBlockKD_panic noGotoKD_panic exitOk_normal exitOk_ret exitOk_panic exitOk_exit runDefs_none runDefs_some runDefs_cons defRegD defReg2D isDefer defOf caughtCon unfl_cons D.bpart_bndOf D.parts_bndOf AV.sig zapEv capArgs capEv
attribute [local simp ←] flats_append
def conInsT (Γ:List (FuncId×Con)):ECon:={ wp:=fun args hp K=>match args,hp with
 | [.s (.own (.cons (.int .i64) (.cons (.cons (.cons .bool (.cons (.slice (.int .i64)) .nil)) (.cons (.cons .bool (.cons (.slice (.int .i64)) .nil)) .nil)) .nil)) 0 n),.s (.int .i64 a),.s (.int .i64 b),.s (.fnp f caps)],[.arr al cs]=>∃ (xs:List (Ty.T tTst)) (cmp:Ty.T tTst→Ty.T tTst→Int),(cs=Ty.flats tTst xs∧xs.length=n∧n≤100000∧(al=true∨xs=[])∧a=0∧b=n∧cmpTo Γ tTst f caps cmp (·∈xs)∧Ordr (·∈xs) cmp) ∧
   ∀ ys:List (Ty.T tTst),ys.Perm xs→ys.Pairwise (fun x y=>cmp x y≤0)→K (.tup []) [.arr al (Ty.flats tTst ys)]
 | _,_=>False }
theorem conInsT_one (f:FuncId) (caps:List (Sigma Ty.T)) (c:Con) (he:∀ (args:Array Value) (w:World),(callFunc f args).run Tryz.prog w=.ok (.enter f args) w) (hc:PureOk Tryz.prog f c) (cmp:Ty.T tTst→Ty.T tTst→Int) (xs0:List (Ty.T tTst))
  (hv:∀ x y,x∈xs0→y∈xs0→c.pre (Ty.av tTst x::Ty.av tTst y::caps.map capAV)∧c.val (Ty.av tTst x::Ty.av tTst y::caps.map capAV)=.v (.s (.int .i64 (cmp x y)))) (ho:Ordr (·∈xs0) cmp) :
  EffOk Tryz.prog 195 { wp:=fun args hp K=>∃ al,args=[.s (.own tTst 0 xs0.length),.s (.int .i64 0),.s (.int .i64 xs0.length),.s (.fnp f caps)]∧hp=[.arr al (Ty.flats tTst xs0)]∧xs0.length≤100000∧(al=true∨xs0=[])∧∀ ys:List (Ty.T tTst),ys.Perm xs0→ys.Pairwise (fun x y=>cmp x y≤0)→K (.tup []) [.arr al (Ty.flats tTst ys)] }:=by
 refine effOkD (L:={ live:=[0,1,2,3,8,9,14,34],fl:=[(6,[(8,0),(9,0),(12,0),(13,0),(14,0),(16,16)])] }) (g1_good faT_ok he hc) rfl nr_mixed Tryz.func195 rfl _ 4 (by decide) (by kernel_rfl) ?_
 rintro _ _ K ⟨al,rfl,rfl,hn,hal,hK⟩ _
 refine ⟨rfl,?_⟩
 have hv:∀ x y,x∈xs0→y∈xs0→c.pre (.agg (Ty.flat tTst x)::.agg (Ty.flat tTst y)::caps.map capAV)∧c.val (.agg (Ty.flat tTst x)::.agg (Ty.flat tTst y)::caps.map capAV)=.v (.s (.int .i64 (cmp x y))):=hv
 simp -dsimp -implicitDefEqProofs [Tryz.f195,g1_td,g1_y,g1_Γ,g1_E,g1_Pn,g1_fz,faT,inI64]
 refine WpD.loop (L:={ live:=[0,1,2,3,8,9,14,34],fl:=[(6,[(8,0),(9,0),(12,0),(13,0),(14,0),(16,16)])] }) (g1_good faT_ok he hc) X0_ok nr_mixed (by kernel_rfl)
  (fun p:Nat×List (Ty.T tTst)=>⟨[(0,⟨true,.v (.s (.own tTst 0 xs0.length))⟩),(1,vI 0),(2,vI xs0.length),(3,⟨true,.v (.s (.fnp f caps))⟩),(8,vI p.1)],[.arr al (Ty.flats tTst p.2)]⟩)
  (fun p=>(1≤p.1∧p.1≤xs0.length+1)∧p.2.Perm xs0∧srtTo cmp (Ty.dflt tTst) p.2 p.1) (fun p=>xs0.length+1 - p.1) (1,xs0) ⟨⟨by omega,by omega⟩,List.Perm.refl _,fun p q h1 h2=>by omega⟩ (Turn.le (by simp -dsimp -implicitDefEqProofs)) ?_
 rintro ⟨i,xs⟩ ⟨⟨hi1,hi2⟩,hxp,hxs⟩
 simp only at hi1 hi2 hxp hxs
 have hxl:=hxp.length_eq
 rcases Nat.lt_or_ge i xs0.length with hil | hge
 ·
  obtain rfl:al=true:=by
   rcases hal with h | h
   ·
    exact h
   ·
    rw [h] at hil; simp at hil
  simp -dsimp -implicitDefEqProofs [hil,g1_td,g1_y,g1_Γ,g1_E,g1_Pn,g1_fz,faT,inI64]
  refine WpD.loop (L:={ live:=[0,1,2,3,8,9,14,34],fl:=[(6,[(8,0),(9,0),(12,0),(13,0),(14,0),(16,16)])] }) (g1_good faT_ok he hc) X0_ok nr_mixed (by kernel_rfl)
   (fun p:Nat×List (Ty.T tTst)=>⟨[(0,⟨true,.v (.s (.own tTst 0 xs0.length))⟩),(1,vI 0),(2,vI xs0.length),(3,⟨true,.v (.s (.fnp f caps))⟩),(8,vI i),(9,vI p.1)],[.arr true (Ty.flats tTst p.2)]⟩)
   (fun p=>p.1≤i∧p.2.Perm xs0∧insP cmp (Ty.dflt tTst) p.2 i p.1) (fun p=>p.1) (i,xs) ⟨Nat.le_refl _,hxp,ins_start hxs⟩ (Turn.le (by simp -dsimp -implicitDefEqProofs)) ?_
  rintro ⟨j,ys⟩ ⟨hj,hyp,hys⟩
  simp only at hj hyp hys
  have hyl:=hyp.length_eq
  have hym:∀ x∈ys,x∈xs0:=fun x hx=>hyp.mem_iff.1 hx
  rcases Nat.eq_zero_or_pos j with rfl | hj0
  ·
   have f0:(Ty.flats tTst ys).take 5=Ty.flat tTst (ys[0]'(by omega)):=by
    have:=flats_at tTst (xs:=ys) (j:=0) (by omega)
    simpa using this
   have v0:=hv _ _ (hym _ (List.getElem_mem (show 0<ys.length by omega))) (hym _ (List.getElem_mem (show 0<ys.length by omega)))
   simp -dsimp -implicitDefEqProofs [f0,v0,g1_td,g1_y,g1_Γ,g1_E,g1_Pn,g1_fz,faT,inI64,-Ty.flat]
   exact ⟨⟨by omega,by omega⟩,i+1,ys,⟨⟨by omega,by omega⟩,hyp,ins_done ho hym (by omega) (by omega) hys (.inl rfl)⟩,by omega,TurnT.le (by simp -dsimp -implicitDefEqProofs)⟩
  ·
   obtain ⟨k,rfl⟩:∃ k,j=k+1:=⟨j - 1,by omega⟩
   have e1:((k+1:Nat):Int) - 1=k:=by omega
   have f1:((Ty.flats tTst ys).drop ((k+1)*5)).take 5=Ty.flat tTst (ys[k+1]'(by omega)):=flats_at tTst (xs:=ys) (j:=k+1) (by omega)
   have f2:((Ty.flats tTst ys).drop (k*5)).take 5=Ty.flat tTst (ys[k]'(by omega)):=flats_at tTst (xs:=ys) (j:=k) (by omega)
   have v1:=hv _ _ (hym _ (List.getElem_mem (show k+1<ys.length by omega))) (hym _ (List.getElem_mem (show k<ys.length by omega)))
   have q1:(Ty.flat tTst (ys[k]'(by omega))).length=5:=flat_length tTst _
   have q2:(Ty.flat tTst (ys[k+1]'(by omega))).length=5:=flat_length tTst _
   have hmn:min (k+1) ys.length=k+1:=by omega
   have g1':ys[k]?.getD (Ty.dflt tTst)=ys[k]'(by omega):=by rw [List.getElem?_eq_getElem (by omega)]; rfl
   have g2':ys[k+1]?.getD (Ty.dflt tTst)=ys[k+1]'(by omega):=by rw [List.getElem?_eq_getElem (by omega)]; rfl
   have fs1:(Ty.flats tTst ys).take ((k+1)*5)++(Ty.flat tTst (ys[k]'(by omega))++(Ty.flats tTst ys).drop ((k+1)*5+5))=Ty.flats tTst (ys.set (k+1) (ys[k]'(by omega))):=flats_set tTst (by omega) _
   have fs2:(Ty.flats tTst (ys.set (k+1) (ys[k]'(by omega)))).take (k*5)++(Ty.flat tTst (ys[k+1]'(by omega))++(Ty.flats tTst (ys.set (k+1) (ys[k]'(by omega)))).drop (k*5+5))=Ty.flats tTst ((ys.set (k+1) (ys[k]'(by omega))).set k (ys[k+1]'(by omega))):=flats_set tTst (by rw [List.length_set]; omega) _
   simp -dsimp -implicitDefEqProofs [e1,f1,f2,v1,q1,q2,hmn,caps_all,caps_all',g1_td,g1_y,g1_Γ,g1_E,g1_Pn,g1_fz,faT,inI64,-Ty.flat]
   refine ⟨⟨by omega,by omega,by omega⟩,⟨by omega,by omega⟩,by omega,⟨by omega,by omega⟩,⟨by omega,by omega⟩,fun hlt=>⟨⟨by omega,⟨by omega,by omega⟩,⟨by omega,by omega⟩,⟨by omega,by omega,by omega⟩,⟨by omega,by omega⟩,⟨by omega,by omega,by omega⟩,⟨by omega,by omega⟩,⟨by omega,by omega⟩,⟨by omega,by omega⟩,by omega,
    k,(ys.set (k+1) (ys[k]'(by omega))).set k (ys[k+1]'(by omega)),⟨by omega,?_,?_⟩,by omega,?_⟩,⟨by omega,by omega⟩,⟨by omega,by omega⟩,⟨by omega,by omega,by omega⟩,⟨by omega,by omega⟩,⟨by omega,by omega,by omega⟩,by omega,by omega⟩,fun hge=>⟨⟨by omega,by omega⟩,i+1,ys,⟨⟨by omega,by omega⟩,hyp,ins_done ho hym (by omega) (by omega) hys (.inr (by rw [Nat.add_sub_cancel,g1',g2']; exact hge))⟩,by omega,TurnT.le (by simp -dsimp -implicitDefEqProofs)⟩⟩
   ·
    have:=swap_perm (d:=Ty.dflt tTst) (ys:=ys) (j:=k) (by omega)
    rw [g1',g2'] at this
    exact this.trans hyp
   ·
    have:=ins_swap (c:=cmp) (d:=Ty.dflt tTst) (ys:=ys) (i:=i) (j:=k) (by omega) hj hys (by rw [g1',g2']; exact hlt)
    rw [g1',g2'] at this
    exact this
   ·
    rw [fs1,fs2]
    exact TurnT.le (by simp -dsimp -implicitDefEqProofs)
 ·
  have hn:¬ i<xs0.length:=by omega
  simp -dsimp -implicitDefEqProofs [hn,g1_td,g1_y,g1_Γ,g1_E,g1_Pn,g1_fz,faT,inI64]
  exact hK _ hxp (srt_all fun p q h1 h2=>hxs p q h1 (by omega))
theorem conInsT_known (Γ:List (FuncId×Con)) (hΓ:Known Tryz.prog Γ):EffOk Tryz.prog 195 (conInsT Γ):=by
 refine EffOk.of fun args hp K hpre => ?_
 simp only [conInsT] at hpre
 split at hpre
 ·
  obtain ⟨xs,cmp,⟨rfl,rfl,hn,hal,rfl,rfl,⟨c,hc,hv⟩,ho⟩,hK⟩:=hpre
  exact ⟨_,conInsT_one _ _ c (hΓ _ c hc).1 (hΓ _ c hc).2 cmp xs (fun x y hx hy=>hv x y hx hy) ho,_,rfl,rfl,hn,hal,hK⟩
 ·
  exact hpre.elim
def conValT:Con:=⟨fun args=>(match args with
 | [.s (.sl (.cons (.int .i64) (.cons (.cons (.cons .bool (.cons (.slice (.int .i64)) .nil)) (.cons (.cons .bool (.cons (.slice (.int .i64)) .nil)) .nil)) .nil)) _ _)]=>True
 | _=>False),fun args=>match args with
 | [.s (.sl (.cons (.int .i64) (.cons (.cons (.cons .bool (.cons (.slice (.int .i64)) .nil)) (.cons (.cons .bool (.cons (.slice (.int .i64)) .nil)) .nil)) .nil)) xs _)]=>.v (.s (.fnp 123 [⟨.slice tTst,xs⟩]))
 | _=>.v (.s .any)⟩
theorem conValT_pre (xs:List (Ty.T tTst)) (ex:Bool):conValT.pre [.s (.sl tTst xs ex)]=True:=rfl
theorem conValT_val (xs:List (Ty.T tTst)) (ex:Bool):conValT.val [.s (.sl tTst xs ex)]=.v (.s (.fnp 123 [⟨.slice tTst,xs⟩])):=rfl
theorem conValT_ok:PureOk Tryz.prog 77 conValT:=by
 refine pureOkD (L:={ live:=[0,1,2] }) fa13_good rfl nr_mixed Tryz.func77 rfl conValT 1 (by decide) (by kernel_rfl) ?_
 intro args hpre hlens
 simp only [conValT] at hpre
 split at hpre
 case h_2=>exact hpre.elim
 rename_i xs ex
 simp only [allLen,AV.lenOk,SV.lenOk,Ty.lenOk,maxLen,and_true,implies_true,true_and,List.forall_mem_cons,List.not_mem_nil,false_implies] at hlens
 refine ⟨rfl,?_⟩
 simp -dsimp -implicitDefEqProofs [Tryz.f77,conValT_val,conValT_val,fa13_all,faT,fa13Γ,fa13E,fa13P,fa12Γ,fa12E,fa12P,fa11Γ,fa11E,fa11P,fa10Γ,fa10E,fa10P,fa9Γ,fa9E,fa9P,fa8Γ,fa8E,fa8P,fa7Γ,fa7E,fa7P,fa3Γ,fa3E,fa3P,fa2Γ,fa2E,fa2P,fa1Γ,fa1E,fa1P,nr20Γ,nr20E,nr20P,nr19Γ,nr19E,nr19P,nr18Γ,nr18E,nr18P,nr17Γ,nr17E,nr17P,nr16Γ,nr16E,nr16P,nr15Γ,nr15E,nr15P,nr14Γ,nr14E,nr14P,nr13Γ,nr13E,nr13P,nr9Γ,nr9E,nr9P,nr8Γ,nr8E,nr8P,nr7Γ,nr7E,nr7P,nr6Γ,nr6E,nr6P,nr5Γ,nr5E,nr5P,nr4Γ,nr4E,nr4P,nr3Γ,nr3E,nr3P,nr0Γ,nr0E,nr0P,conChkF_eq,conNumE_eq,conRisI_eq,conRisT_eq,conLvl_eq,conKeyI_eq,conKeyT_eq,conShrtF_eq,conMost_eq,conTimesR_eq,conFits_eq,conWhole_eq,conOrdR_eq,conMkR_eq,conMulR_eq,conCmpR_eq,conRatC_eq,conRInt_eq,conOf_eq,conLow_eq,conDivX_eq,conMakeN_eq,conProd_eq,conDidB_eq,conDidI_eq,conValid_eq,panValid_when,panValid_what,conNeed_eq,panNeed_when,panNeed_what,conGcdN_eq,conMulN_eq,conCmpN2_eq,conPosi_eq,conChk_eq,conBigN_eq,conDiv_eq,conTimes_eq,conNCheck_eq,conLong_eq,conLead64_eq,conShort_eq,conMovE,conTrim_eq,conAt_eq,conNCmp_eq,conBack_eq,conOf9_eq,conDivide_eq,conLess9_eq,conTwo_eq,conRCheck_eq,conRCmpD_eq,inI64]
def itValT:ItCon:=⟨fun caps=>(match caps with
 | [.s (.eptr (.slice (.cons (.int .i64) (.cons (.cons (.cons .bool (.cons (.slice (.int .i64)) .nil)) (.cons (.cons .bool (.cons (.slice (.int .i64)) .nil)) .nil)) .nil))) _)]=>True
 | _=>False),fun caps=>match caps with
 | [.s (.eptr (.slice (.cons (.int .i64) (.cons (.cons (.cons .bool (.cons (.slice (.int .i64)) .nil)) (.cons (.cons .bool (.cons (.slice (.int .i64)) .nil)) .nil)) .nil))) xs)]=>xs.map fun x=>[Ty.av tTst x]
 | _=>[]⟩
theorem itValT_xs (xs:List (Ty.T tTst)):itValT.xs [.s (.eptr (.slice tTst) xs)]=xs.map fun x=>[Ty.av tTst x]:=rfl
theorem itValT_ok:ItOk Tryz.prog 123 itValT:=by
 refine itOkD (L:={ live:=[0,1,4,5,6,7,8,14] }) fa13y_good rfl nr_mixed Tryz.func123 (enters_of Tryz.func123 (by kernel_rfl) rfl) rfl rfl itValT 1 (by decide) (by kernel_rfl) ?_
 intro caps l hpre hlens
 simp only [itValT] at hpre
 split at hpre
 ·
  rename_i xs
  obtain ⟨⟨hl,_⟩,_⟩:=hlens
  refine ⟨rfl,fun X hX => ?_⟩
  rw [itValT_xs]
  simp only [maxLen] at hl
  simp -dsimp -implicitDefEqProofs [Tryz.f123,fa13y_q,fa13_all,fa13y_all,faT,fa13Γ,fa13E,fa13P,fa12Γ,fa12E,fa12P,fa11Γ,fa11E,fa11P,fa10Γ,fa10E,fa10P,fa9Γ,fa9E,fa9P,fa8Γ,fa8E,fa8P,fa7Γ,fa7E,fa7P,fa3Γ,fa3E,fa3P,fa2Γ,fa2E,fa2P,fa1Γ,fa1E,fa1P,nr20Γ,nr20E,nr20P,nr19Γ,nr19E,nr19P,nr18Γ,nr18E,nr18P,nr17Γ,nr17E,nr17P,nr16Γ,nr16E,nr16P,nr15Γ,nr15E,nr15P,nr14Γ,nr14E,nr14P,nr13Γ,nr13E,nr13P,nr9Γ,nr9E,nr9P,nr8Γ,nr8E,nr8P,nr7Γ,nr7E,nr7P,nr6Γ,nr6E,nr6P,nr5Γ,nr5E,nr5P,nr4Γ,nr4E,nr4P,nr3Γ,nr3E,nr3P,nr0Γ,nr0E,nr0P,conChkF_eq,conNumE_eq,conRisI_eq,conRisT_eq,conLvl_eq,conKeyI_eq,conKeyT_eq,conShrtF_eq,conMost_eq,conTimesR_eq,conFits_eq,conWhole_eq,conOrdR_eq,conMkR_eq,conMulR_eq,conCmpR_eq,conRatC_eq,conRInt_eq,conOf_eq,conLow_eq,conDivX_eq,conMakeN_eq,conProd_eq,conDidB_eq,conDidI_eq,conValid_eq,panValid_when,panValid_what,conNeed_eq,panNeed_when,panNeed_what,conGcdN_eq,conMulN_eq,conCmpN2_eq,conPosi_eq,conChk_eq,conBigN_eq,conDiv_eq,conTimes_eq,conNCheck_eq,conLong_eq,conLead64_eq,conShort_eq,conMovE,conTrim_eq,conAt_eq,conNCmp_eq,conBack_eq,conOf9_eq,conDivide_eq,conLess9_eq,conTwo_eq,conRCheck_eq,conRCmpD_eq,inI64]
  refine WpD.loop (L:={ live:=[0,1,4,5,6,7,8,14] }) fa13y_good hX nr_mixed (by kernel_rfl)
   (fun i:Nat=>⟨[(0,⟨true,.v (.s (.val (.func (.yield l) #[] #[])))⟩),(5,vS tTst xs false),(6,vI xs.length),(7,vI i)],[.trace l (xs.map fun x=>[Ty.av tTst x]) i false]⟩)
   (fun i=>i≤xs.length) (fun i=>xs.length - i) 0 (by simp) (Turn.le (by simp -dsimp -implicitDefEqProofs)) ?_
  intro i hi
  rcases Nat.lt_or_ge i xs.length with hil | hge
  ·
   simp -dsimp -implicitDefEqProofs [hil,fa13y_q,fa13_all,fa13y_all,faT,fa13Γ,fa13E,fa13P,fa12Γ,fa12E,fa12P,fa11Γ,fa11E,fa11P,fa10Γ,fa10E,fa10P,fa9Γ,fa9E,fa9P,fa8Γ,fa8E,fa8P,fa7Γ,fa7E,fa7P,fa3Γ,fa3E,fa3P,fa2Γ,fa2E,fa2P,fa1Γ,fa1E,fa1P,nr20Γ,nr20E,nr20P,nr19Γ,nr19E,nr19P,nr18Γ,nr18E,nr18P,nr17Γ,nr17E,nr17P,nr16Γ,nr16E,nr16P,nr15Γ,nr15E,nr15P,nr14Γ,nr14E,nr14P,nr13Γ,nr13E,nr13P,nr9Γ,nr9E,nr9P,nr8Γ,nr8E,nr8P,nr7Γ,nr7E,nr7P,nr6Γ,nr6E,nr6P,nr5Γ,nr5E,nr5P,nr4Γ,nr4E,nr4P,nr3Γ,nr3E,nr3P,nr0Γ,nr0E,nr0P,conChkF_eq,conNumE_eq,conRisI_eq,conRisT_eq,conLvl_eq,conKeyI_eq,conKeyT_eq,conShrtF_eq,conMost_eq,conTimesR_eq,conFits_eq,conWhole_eq,conOrdR_eq,conMkR_eq,conMulR_eq,conCmpR_eq,conRatC_eq,conRInt_eq,conOf_eq,conLow_eq,conDivX_eq,conMakeN_eq,conProd_eq,conDidB_eq,conDidI_eq,conValid_eq,panValid_when,panValid_what,conNeed_eq,panNeed_when,panNeed_what,conGcdN_eq,conMulN_eq,conCmpN2_eq,conPosi_eq,conChk_eq,conBigN_eq,conDiv_eq,conTimes_eq,conNCheck_eq,conLong_eq,conLead64_eq,conShort_eq,conMovE,conTrim_eq,conAt_eq,conNCmp_eq,conBack_eq,conOf9_eq,conDivide_eq,conLess9_eq,conTwo_eq,conRCheck_eq,conRCmpD_eq,inI64]
   first
    | exact ⟨⟨by omega,by omega⟩,i+1,by omega,by omega,TurnT.trunc hX (hp:=[_]) (junk:=[_]) (by simp) (by simp only [List.length_cons,List.length_nil,List.all_cons,List.all_nil,arr_below,Bool.and_true] <;> simp [Blk.below,SV.below]) (by simp -dsimp -implicitDefEqProofs) (by simp [envBelow,RV.below,AV.below,SV.below])⟩
    | exact ⟨⟨by omega,by omega⟩,i+1,by omega,by omega,TurnT.le (by simp -dsimp -implicitDefEqProofs)⟩
  ·
   have hn:¬ i<xs.length:=by omega
   simp -dsimp -implicitDefEqProofs [hn,fa13y_q,fa13_all,fa13y_all,faT,fa13Γ,fa13E,fa13P,fa12Γ,fa12E,fa12P,fa11Γ,fa11E,fa11P,fa10Γ,fa10E,fa10P,fa9Γ,fa9E,fa9P,fa8Γ,fa8E,fa8P,fa7Γ,fa7E,fa7P,fa3Γ,fa3E,fa3P,fa2Γ,fa2E,fa2P,fa1Γ,fa1E,fa1P,nr20Γ,nr20E,nr20P,nr19Γ,nr19E,nr19P,nr18Γ,nr18E,nr18P,nr17Γ,nr17E,nr17P,nr16Γ,nr16E,nr16P,nr15Γ,nr15E,nr15P,nr14Γ,nr14E,nr14P,nr13Γ,nr13E,nr13P,nr9Γ,nr9E,nr9P,nr8Γ,nr8E,nr8P,nr7Γ,nr7E,nr7P,nr6Γ,nr6E,nr6P,nr5Γ,nr5E,nr5P,nr4Γ,nr4E,nr4P,nr3Γ,nr3E,nr3P,nr0Γ,nr0E,nr0P,conChkF_eq,conNumE_eq,conRisI_eq,conRisT_eq,conLvl_eq,conKeyI_eq,conKeyT_eq,conShrtF_eq,conMost_eq,conTimesR_eq,conFits_eq,conWhole_eq,conOrdR_eq,conMkR_eq,conMulR_eq,conCmpR_eq,conRatC_eq,conRInt_eq,conOf_eq,conLow_eq,conDivX_eq,conMakeN_eq,conProd_eq,conDidB_eq,conDidI_eq,conValid_eq,panValid_when,panValid_what,conNeed_eq,panNeed_when,panNeed_what,conGcdN_eq,conMulN_eq,conCmpN2_eq,conPosi_eq,conChk_eq,conBigN_eq,conDiv_eq,conTimes_eq,conNCheck_eq,conLong_eq,conLead64_eq,conShort_eq,conMovE,conTrim_eq,conAt_eq,conNCmp_eq,conBack_eq,conOf9_eq,conDivide_eq,conLess9_eq,conTwo_eq,conRCheck_eq,conRCmpD_eq,inI64]
   omega
 ·
  exact hpre.elim
def itsValT:List (FuncId×ItCon):=[(123,itValT)]
theorem itsValT_known:KnownIt Tryz.prog itsValT:=.cons itValT_ok .nil
theorem seqValT (xs:List (Ty.T tTst)):seqOf itsValT 123 [⟨.slice tTst,xs⟩] tTst xs:=⟨itValT,rfl,trivial,rfl⟩
def conLen:Con:=⟨fun args=>(match args with
 | [.s (.int .u64 x)]=>0≤x∧x≤1073741823
 | _=>False),fun args=>match args with
 | [.s (.int _ x)]=>.v (aI (lenN x.toNat))
 | _=>.v (.s .any)⟩
theorem conLen_eq (x:Int):conLen.pre [.s (.int .u64 x)]=(0≤x∧x≤1073741823)∧conLen.val [.s (.int .u64 x)]=.v (aI (lenN x.toNat)):=⟨rfl,rfl⟩
def fa14Γ:List (FuncId×Con):=(167,conLen64)::fa13Γ
theorem fa14Γ_ok:∀ p∈fa14Γ,(∀ (args:Array Value) (w:World),(callFunc p.1 args).run Tryz.prog w=.ok (.enter p.1 args) w)∧PureOk Tryz.prog p.1 p.2:=by
 simp only [fa14Γ,List.forall_mem_cons]
 exact ⟨⟨enters_of Tryz.func167 (by kernel_rfl) rfl,len64_ok⟩,fa13Γ_ok⟩
def fa14E:List (FuncId×ECon):=fa13E
theorem fa14E_ok:∀ p∈fa14E,(∀ (args:Array Value) (w:World),(callFunc p.1 args).run Tryz.prog w=.ok (.enter p.1 args) w)∧EffOk Tryz.prog p.1 p.2:=by
 simp only [fa14E]
 exact fa13E_ok
def fa14P:List (FuncId×PCon):=fa13P
theorem fa14P_ok:∀ p∈fa14P,(∀ (args:Array Value) (w:World),(callFunc p.1 args).run Tryz.prog w=.ok (.enter p.1 args) w)∧PanOk Tryz.prog p.1 p.2:=by
 simp only [fa14P]
 exact fa13P_ok
def fa14:G:={ τ:=faT,Γ:=fa14Γ,E:=fa14E,Pn:=fa14P }
theorem fa14_good:fa14.good Tryz.prog:=good_of_all (faT_ok _ rfl) fa14Γ_ok fa14E_ok fa14P_ok
theorem fa14_all:(∀ t,fa14.td t=(look faT t).getD .other)∧fa14.y=false∧fa14.Γ=fa14Γ∧fa14.E=fa14E∧fa14.Pn=fa14P∧fa14.fz=[]:=⟨fun _=>rfl,rfl,rfl,rfl,rfl,rfl⟩
theorem len_ok:PureOk Tryz.prog 115 conLen:=by
 refine pureOkD (L:={ live:=[0,2] }) fa14_good rfl nr_mixed Tryz.func115 rfl conLen 1 (by decide) (by kernel_rfl) ?_
 intro args hpre hlens
 simp only [conLen] at hpre
 split at hpre
 case h_2=>exact hpre.elim
 rename_i x
 simp only [allLen,AV.lenOk,SV.lenOk,Ty.lenOk,maxLen,and_true,implies_true,true_and,List.forall_mem_cons,List.not_mem_nil,false_implies] at hlens
 refine ⟨rfl,?_⟩
 simp -dsimp -implicitDefEqProofs [Tryz.f115,conLen_eq,fa14_all,faT,fa14Γ,fa14E,fa14P,fa13Γ,fa13E,fa13P,fa12Γ,fa12E,fa12P,fa11Γ,fa11E,fa11P,fa10Γ,fa10E,fa10P,fa9Γ,fa9E,fa9P,fa8Γ,fa8E,fa8P,fa7Γ,fa7E,fa7P,fa3Γ,fa3E,fa3P,fa2Γ,fa2E,fa2P,fa1Γ,fa1E,fa1P,nr20Γ,nr20E,nr20P,nr19Γ,nr19E,nr19P,nr18Γ,nr18E,nr18P,nr17Γ,nr17E,nr17P,nr16Γ,nr16E,nr16P,nr15Γ,nr15E,nr15P,nr14Γ,nr14E,nr14P,nr13Γ,nr13E,nr13P,nr9Γ,nr9E,nr9P,nr8Γ,nr8E,nr8P,nr7Γ,nr7E,nr7P,nr6Γ,nr6E,nr6P,nr5Γ,nr5E,nr5P,nr4Γ,nr4E,nr4P,nr3Γ,nr3E,nr3P,nr0Γ,nr0E,nr0P,conLen64_eq,conChkF_eq,conNumE_eq,conRisI_eq,conRisT_eq,conLvl_eq,conKeyI_eq,conKeyT_eq,conShrtF_eq,conMost_eq,conTimesR_eq,conFits_eq,conWhole_eq,conOrdR_eq,conMkR_eq,conMulR_eq,conCmpR_eq,conRatC_eq,conRInt_eq,conOf_eq,conLow_eq,conDivX_eq,conMakeN_eq,conProd_eq,conDidB_eq,conDidI_eq,conValid_eq,panValid_when,panValid_what,conNeed_eq,panNeed_when,panNeed_what,conGcdN_eq,conMulN_eq,conCmpN2_eq,conPosi_eq,conChk_eq,conBigN_eq,conDiv_eq,conTimes_eq,conNCheck_eq,conLong_eq,conLead64_eq,conShort_eq,conMovE,conTrim_eq,conAt_eq,conNCmp_eq,conBack_eq,conOf9_eq,conDivide_eq,conLess9_eq,conTwo_eq,conRCheck_eq,conRCmpD_eq,inI64]
 exact hpre
def befT (x y:tTst.T):Int:=orI [cmpR x.2.1 y.2.1,cmpZ x.1 y.1]
def okT (x:tTst.T):Prop:=okS x.2.1.1.1 x.2.1.1.2.1 x.2.1.2.1.1 x.2.1.2.1.2.1
theorem okT_R {x:tTst.T} (h:okT x):okR x.2.1:=h.1
theorem befT_eq (x y:tTst.T):befT x y=if cmpR x.2.1 y.2.1=0 then cmpZ x.1 y.1 else cmpR x.2.1 y.2.1:=orI_two _ _
theorem ordr_befT:Ordr okT befT:=((ordr_rat.pull (fun x:tTst.T=>x.2.1) (fun x hx=>okT_R hx)).lex (ordr_int okT (fun x:tTst.T=>x.1))).congr fun x y _ _=>befT_eq x y
theorem befT_zero {x y:tTst.T} (h:befT x y=0):x.1=y.1:=by
 rw [befT_eq] at h
 split at h
 ·
  exact cmpZ_zero.1 h
 ·
  rename_i h1; exact absurd h h1
theorem befT_le {x y:tTst.T} (h:befT x y≤0):cmpR x.2.1 y.2.1≤0:=by
 rw [befT_eq] at h
 split at h
 ·
  omega
 ·
  exact h
def fa15Γ:List (FuncId×Con):=(79,conOrI)::(80,conCmpI)::(115,conLen)::fa14Γ
theorem fa15Γ_ok:∀ p∈fa15Γ,(∀ (args:Array Value) (w:World),(callFunc p.1 args).run Tryz.prog w=.ok (.enter p.1 args) w)∧PureOk Tryz.prog p.1 p.2:=by
 simp only [fa15Γ,List.forall_mem_cons]
 exact ⟨⟨enters_of Tryz.func79 (by kernel_rfl) rfl,ori_ok⟩,⟨enters_of Tryz.func80 (by kernel_rfl) rfl,cmpi_ok⟩,⟨enters_of Tryz.func115 (by kernel_rfl) rfl,len_ok⟩,fa14Γ_ok⟩
def fa15E:List (FuncId×ECon):=fa14E
theorem fa15E_ok:∀ p∈fa15E,(∀ (args:Array Value) (w:World),(callFunc p.1 args).run Tryz.prog w=.ok (.enter p.1 args) w)∧EffOk Tryz.prog p.1 p.2:=by
 simp only [fa15E]
 exact fa14E_ok
def fa15P:List (FuncId×PCon):=fa14P
theorem fa15P_ok:∀ p∈fa15P,(∀ (args:Array Value) (w:World),(callFunc p.1 args).run Tryz.prog w=.ok (.enter p.1 args) w)∧PanOk Tryz.prog p.1 p.2:=by
 simp only [fa15P]
 exact fa14P_ok
def fa15:G:={ τ:=faT,Γ:=fa15Γ,E:=fa15E,Pn:=fa15P }
theorem fa15_good:fa15.good Tryz.prog:=good_of_all (faT_ok _ rfl) fa15Γ_ok fa15E_ok fa15P_ok
theorem fa15_all:(∀ t,fa15.td t=(look faT t).getD .other)∧fa15.y=false∧fa15.Γ=fa15Γ∧fa15.E=fa15E∧fa15.Pn=fa15P∧fa15.fz=[]:=⟨fun _=>rfl,rfl,rfl,rfl,rfl,rfl⟩
def conBefT:Con:=⟨fun args=>(match args with
 | [.agg [.int .i64 no,.bool n1,.sl (.int .i64) m1 _,.bool n2,.sl (.int .i64) m2 _],.agg [.int .i64 ko,.bool k1,.sl (.int .i64) l1 _,.bool k2,.sl (.int .i64) l2 _]]=>okS n1 m1 n2 m2∧okS k1 l1 k2 l2
 | _=>False),fun args=>match args with
 | [.agg [.int _ no,.bool n1,.sl (.int .i64) m1 _,.bool n2,.sl (.int .i64) m2 _],.agg [.int _ ko,.bool k1,.sl (.int .i64) l1 _,.bool k2,.sl (.int .i64) l2 _]]=>.v (aI (orI [ratCmp n1 m1 m2 k1 l1 l2,cmpZ no ko]))
 | _=>.v (.s .any)⟩
theorem conBefT_eq (no:Int) (n1:Bool) (m1:List (Ty.T tI)) (exm1:Bool) (n2:Bool) (m2:List (Ty.T tI)) (exm2:Bool) (ko:Int) (k1:Bool) (l1:List (Ty.T tI)) (exl1:Bool) (k2:Bool) (l2:List (Ty.T tI)) (exl2:Bool):conBefT.pre [.agg [.int .i64 no,.bool n1,.sl tI m1 exm1,.bool n2,.sl tI m2 exm2],.agg [.int .i64 ko,.bool k1,.sl tI l1 exl1,.bool k2,.sl tI l2 exl2]]=(okS n1 m1 n2 m2∧okS k1 l1 k2 l2)∧conBefT.val [.agg [.int .i64 no,.bool n1,.sl tI m1 exm1,.bool n2,.sl tI m2 exm2],.agg [.int .i64 ko,.bool k1,.sl tI l1 exl1,.bool k2,.sl tI l2 exl2]]=.v (aI (orI [ratCmp n1 m1 m2 k1 l1 l2,cmpZ no ko])):=⟨rfl,rfl⟩
theorem beft_ok:PureOk Tryz.prog 78 conBefT:=by
 refine pureOkD (L:={ live:=[0,1,2,3,4] }) fa15_good rfl nr_mixed Tryz.func78 rfl conBefT 2 (by decide) (by kernel_rfl) ?_
 intro args hpre hlens
 simp only [conBefT] at hpre
 split at hpre
 case h_2=>exact hpre.elim
 rename_i no n1 m1 e1 n2 m2 e2 ko k1 l1 f1 k2 l2 f2
 simp only [allLen,AV.lenOk,SV.lenOk,Ty.lenOk,maxLen,and_true,implies_true,true_and,List.forall_mem_cons,List.not_mem_nil,false_implies] at hlens
 refine ⟨rfl,?_⟩
 simp -dsimp -implicitDefEqProofs [Tryz.f78,conBefT_eq,fa15_all,faT,fa15Γ,fa15E,fa15P,fa14Γ,fa14E,fa14P,fa13Γ,fa13E,fa13P,fa12Γ,fa12E,fa12P,fa11Γ,fa11E,fa11P,fa10Γ,fa10E,fa10P,fa9Γ,fa9E,fa9P,fa8Γ,fa8E,fa8P,fa7Γ,fa7E,fa7P,fa3Γ,fa3E,fa3P,fa2Γ,fa2E,fa2P,fa1Γ,fa1E,fa1P,nr20Γ,nr20E,nr20P,nr19Γ,nr19E,nr19P,nr18Γ,nr18E,nr18P,nr17Γ,nr17E,nr17P,nr16Γ,nr16E,nr16P,nr15Γ,nr15E,nr15P,nr14Γ,nr14E,nr14P,nr13Γ,nr13E,nr13P,nr9Γ,nr9E,nr9P,nr8Γ,nr8E,nr8P,nr7Γ,nr7E,nr7P,nr6Γ,nr6E,nr6P,nr5Γ,nr5E,nr5P,nr4Γ,nr4E,nr4P,nr3Γ,nr3E,nr3P,nr0Γ,nr0E,nr0P,conOrI_eq,conCmpI_eq,conLen_eq,conLen64_eq,conChkF_eq,conNumE_eq,conRisI_eq,conRisT_eq,conLvl_eq,conKeyI_eq,conKeyT_eq,conShrtF_eq,conMost_eq,conTimesR_eq,conFits_eq,conWhole_eq,conOrdR_eq,conMkR_eq,conMulR_eq,conCmpR_eq,conRatC_eq,conRInt_eq,conOf_eq,conLow_eq,conDivX_eq,conMakeN_eq,conProd_eq,conDidB_eq,conDidI_eq,conValid_eq,panValid_when,panValid_what,conNeed_eq,panNeed_when,panNeed_what,conGcdN_eq,conMulN_eq,conCmpN2_eq,conPosi_eq,conChk_eq,conBigN_eq,conDiv_eq,conTimes_eq,conNCheck_eq,conLong_eq,conLead64_eq,conShort_eq,conMovE,conTrim_eq,conAt_eq,conNCmp_eq,conBack_eq,conOf9_eq,conDivide_eq,conLess9_eq,conTwo_eq,conRCheck_eq,conRCmpD_eq,inI64]
 obtain ⟨m1,rfl⟩:∃ y:List Int,y=m1:=⟨m1,rfl⟩; obtain ⟨m2,rfl⟩:∃ y:List Int,y=m2:=⟨m2,rfl⟩; obtain ⟨l1,rfl⟩:∃ y:List Int,y=l1:=⟨l1,rfl⟩; obtain ⟨l2,rfl⟩:∃ y:List Int,y=l2:=⟨l2,rfl⟩
 obtain ⟨⟨a1,a2,a3⟩,b1,b2,b3⟩:=hpre
 exact ⟨⟨a1,b1⟩,by omega,by omega⟩
def gBef:List (FuncId×Con):=[(78,conBefT)]
theorem gBef_known:Known Tryz.prog gBef:=.cons (enters_of Tryz.func78 (by kernel_rfl) rfl) beft_ok .nil
theorem bef_cmpTo {xs:List tTst.T} (h:∀ x∈xs,okT x):cmpTo gBef tTst 78 [] befT (·∈xs):=⟨conBefT,rfl,fun x y hx hy=>⟨⟨h x hx,h y hy⟩,rfl⟩⟩
def fa16Γ:List (FuncId×Con):=fa15Γ
theorem fa16Γ_ok:∀ p∈fa16Γ,(∀ (args:Array Value) (w:World),(callFunc p.1 args).run Tryz.prog w=.ok (.enter p.1 args) w)∧PureOk Tryz.prog p.1 p.2:=by
 simp only [fa16Γ]
 exact fa15Γ_ok
def fa16E:List (FuncId×ECon):=(195,(conInsT gBef))::fa15E
theorem fa16E_ok:∀ p∈fa16E,(∀ (args:Array Value) (w:World),(callFunc p.1 args).run Tryz.prog w=.ok (.enter p.1 args) w)∧EffOk Tryz.prog p.1 p.2:=by
 simp only [fa16E,List.forall_mem_cons]
 exact ⟨⟨enters_of Tryz.func195 (by kernel_rfl) rfl,(conInsT_known gBef gBef_known)⟩,fa15E_ok⟩
def fa16P:List (FuncId×PCon):=fa15P
theorem fa16P_ok:∀ p∈fa16P,(∀ (args:Array Value) (w:World),(callFunc p.1 args).run Tryz.prog w=.ok (.enter p.1 args) w)∧PanOk Tryz.prog p.1 p.2:=by
 simp only [fa16P]
 exact fa15P_ok
def fa16:G:={ τ:=faT,Γ:=fa16Γ,E:=fa16E,Pn:=fa16P }
theorem fa16_good:fa16.good Tryz.prog:=good_of_all (faT_ok _ rfl) fa16Γ_ok fa16E_ok fa16P_ok
theorem fa16_all:(∀ t,fa16.td t=(look faT t).getD .other)∧fa16.y=false∧fa16.Γ=fa16Γ∧fa16.E=fa16E∧fa16.Pn=fa16P∧fa16.fz=[]:=⟨fun _=>rfl,rfl,rfl,rfl,rfl,rfl⟩
def conPdqT_s (Γ:List (FuncId×Con)) (n:Nat) (f:FuncId) (caps:List (Sigma Ty.T)) (al:Bool) (cs:List SV) (K:RV→List Blk→Prop):Prop:=∃ (xs:List (Ty.T tTst)) (cmp:Ty.T tTst→Ty.T tTst→Int),(cs=Ty.flats tTst xs∧xs.length=n∧n≤12∧(al=true∨xs=[])∧cmpTo Γ tTst f caps cmp (·∈xs)∧Ordr (·∈xs) cmp) ∧
   ∀ ys:List (Ty.T tTst),ys.Perm xs→ys.Pairwise (fun x y=>cmp x y≤0)→K (.tup []) [.arr al (Ty.flats tTst ys)]
def conPdqT (Γ:List (FuncId×Con)):ECon:={ wp:=fun args hp K=>match args,hp with
 | [.s (.own (.cons (.int .i64) (.cons (.cons (.cons .bool (.cons (.slice (.int .i64)) .nil)) (.cons (.cons .bool (.cons (.slice (.int .i64)) .nil)) .nil)) .nil)) 0 n),.s (.int .i64 a),.s (.int .i64 b),.s (.int .i64 _),.s (.fnp f caps)],[.arr al cs]=>(a=0∧b=n)∧conPdqT_s Γ n f caps al cs K
 | _,_=>False }
theorem conPdqT_known:EffOk Tryz.prog 173 (conPdqT gBef):=by
 refine effOkD (L:={ live:=[0,1,2,3,4,10,11,12,13,14,15,16,17,18,19,20,25,32,39,56,75,80,97,125] }) fa16_good rfl nr_mixed Tryz.func173 rfl _ 5 (by decide) (by kernel_rfl) ?_
 intro args hp K hpre hlens
 simp only [conPdqT] at hpre
 split at hpre
 case h_2=>exact hpre.elim
 rename_i n a b lim f caps al cs
 obtain ⟨⟨rfl,rfl⟩,xs,cmp,⟨rfl,rfl,hn,hal,hc,ho⟩,hK⟩:=hpre
 refine ⟨rfl,?_⟩
 simp (maxSteps:=3000000) -dsimp -implicitDefEqProofs [Tryz.f173,fa16_all,faT,fa16Γ,fa16E,fa16P,fa15Γ,fa15E,fa15P,fa14Γ,fa14E,fa14P,fa13Γ,fa13E,fa13P,fa12Γ,fa12E,fa12P,fa11Γ,fa11E,fa11P,fa10Γ,fa10E,fa10P,fa9Γ,fa9E,fa9P,fa8Γ,fa8E,fa8P,fa7Γ,fa7E,fa7P,fa3Γ,fa3E,fa3P,fa2Γ,fa2E,fa2P,fa1Γ,fa1E,fa1P,nr20Γ,nr20E,nr20P,nr19Γ,nr19E,nr19P,nr18Γ,nr18E,nr18P,nr17Γ,nr17E,nr17P,nr16Γ,nr16E,nr16P,nr15Γ,nr15E,nr15P,nr14Γ,nr14E,nr14P,nr13Γ,nr13E,nr13P,nr9Γ,nr9E,nr9P,nr8Γ,nr8E,nr8P,nr7Γ,nr7E,nr7P,nr6Γ,nr6E,nr6P,nr5Γ,nr5E,nr5P,nr4Γ,nr4E,nr4P,nr3Γ,nr3E,nr3P,nr0Γ,nr0E,nr0P,inI64]
 refine WpD.loop (L:={ live:=[0,1,2,3,4,10,11,12,13,14,15,16,17,18,19,20,25,32,39,56,75,80,97,125] }) fa16_good X0_ok nr_mixed (by kernel_rfl)
  (fun _:Nat=>⟨[(0,⟨true,.v (.s (.own tTst 0 xs.length))⟩),(1,vI 0),(2,vI xs.length),(3,vI lim),(4,⟨true,.v (.s (.fnp f caps))⟩),(10,vB true),(11,vB true)],[.arr al (Ty.flats tTst xs)]⟩)
  (fun _=>True) (fun n=>n) 0 trivial (Turn.le (by simp -dsimp -implicitDefEqProofs)) ?_
 rintro _ -
 have h12:(xs.length:Int)≤12:=by omega
 simp (maxSteps:=3000000) -dsimp -implicitDefEqProofs [h12,conInsT,fa16_all,faT,fa16Γ,fa16E,fa16P,fa15Γ,fa15E,fa15P,fa14Γ,fa14E,fa14P,fa13Γ,fa13E,fa13P,fa12Γ,fa12E,fa12P,fa11Γ,fa11E,fa11P,fa10Γ,fa10E,fa10P,fa9Γ,fa9E,fa9P,fa8Γ,fa8E,fa8P,fa7Γ,fa7E,fa7P,fa3Γ,fa3E,fa3P,fa2Γ,fa2E,fa2P,fa1Γ,fa1E,fa1P,nr20Γ,nr20E,nr20P,nr19Γ,nr19E,nr19P,nr18Γ,nr18E,nr18P,nr17Γ,nr17E,nr17P,nr16Γ,nr16E,nr16P,nr15Γ,nr15E,nr15P,nr14Γ,nr14E,nr14P,nr13Γ,nr13E,nr13P,nr9Γ,nr9E,nr9P,nr8Γ,nr8E,nr8P,nr7Γ,nr7E,nr7P,nr6Γ,nr6E,nr6P,nr5Γ,nr5E,nr5P,nr4Γ,nr4E,nr4P,nr3Γ,nr3E,nr3P,nr0Γ,nr0E,nr0P,inI64,-Prod.exists]
 exact ⟨by omega,xs,cmp,⟨rfl,rfl,by omega,hal,hc,ho⟩,hK⟩
def fa17Γ:List (FuncId×Con):=fa16Γ
theorem fa17Γ_ok:∀ p∈fa17Γ,(∀ (args:Array Value) (w:World),(callFunc p.1 args).run Tryz.prog w=.ok (.enter p.1 args) w)∧PureOk Tryz.prog p.1 p.2:=by
 simp only [fa17Γ]
 exact fa16Γ_ok
def fa17E:List (FuncId×ECon):=(173,(conPdqT gBef))::fa16E
theorem fa17E_ok:∀ p∈fa17E,(∀ (args:Array Value) (w:World),(callFunc p.1 args).run Tryz.prog w=.ok (.enter p.1 args) w)∧EffOk Tryz.prog p.1 p.2:=by
 simp only [fa17E,List.forall_mem_cons]
 exact ⟨⟨enters_of Tryz.func173 (by kernel_rfl) rfl,conPdqT_known⟩,fa16E_ok⟩
def fa17P:List (FuncId×PCon):=fa16P
theorem fa17P_ok:∀ p∈fa17P,(∀ (args:Array Value) (w:World),(callFunc p.1 args).run Tryz.prog w=.ok (.enter p.1 args) w)∧PanOk Tryz.prog p.1 p.2:=by
 simp only [fa17P]
 exact fa16P_ok
def fa17:G:={ τ:=faT,Γ:=fa17Γ,E:=fa17E,Pn:=fa17P }
theorem fa17_good:fa17.good Tryz.prog:=good_of_all (faT_ok _ rfl) fa17Γ_ok fa17E_ok fa17P_ok
theorem fa17_all:(∀ t,fa17.td t=(look faT t).getD .other)∧fa17.y=false∧fa17.Γ=fa17Γ∧fa17.E=fa17E∧fa17.Pn=fa17P∧fa17.fz=[]:=⟨fun _=>rfl,rfl,rfl,rfl,rfl,rfl⟩
def conSrtT (Γ:List (FuncId×Con)):ECon:={ wp:=fun args hp K=>match args,hp with
 | [.s (.own (.cons (.int .i64) (.cons (.cons (.cons .bool (.cons (.slice (.int .i64)) .nil)) (.cons (.cons .bool (.cons (.slice (.int .i64)) .nil)) .nil)) .nil)) 0 n),.s (.fnp f caps)],[.arr al cs]=>True∧conPdqT_s Γ n f caps al cs K
 | _,_=>False }
theorem conSrtT_known:EffOk Tryz.prog 122 (conSrtT gBef):=by
 refine effOkD (L:={ live:=[0,1,4] }) fa17_good rfl nr_mixed Tryz.func122 rfl _ 2 (by decide) (by kernel_rfl) ?_
 intro args hp K hpre hlens
 simp only [conSrtT] at hpre
 split at hpre
 case h_2=>exact hpre.elim
 rename_i n f caps al cs
 obtain ⟨-,xs,cmp,⟨rfl,rfl,hn,hal,hc,ho⟩,hK⟩:=hpre
 refine ⟨rfl,?_⟩
 simp -dsimp -implicitDefEqProofs [Tryz.f122,conPdqT,conPdqT_s,conLen_eq,fa17_all,faT,fa17Γ,fa17E,fa17P,fa16Γ,fa16E,fa16P,fa15Γ,fa15E,fa15P,fa14Γ,fa14E,fa14P,fa13Γ,fa13E,fa13P,fa12Γ,fa12E,fa12P,fa11Γ,fa11E,fa11P,fa10Γ,fa10E,fa10P,fa9Γ,fa9E,fa9P,fa8Γ,fa8E,fa8P,fa7Γ,fa7E,fa7P,fa3Γ,fa3E,fa3P,fa2Γ,fa2E,fa2P,fa1Γ,fa1E,fa1P,nr20Γ,nr20E,nr20P,nr19Γ,nr19E,nr19P,nr18Γ,nr18E,nr18P,nr17Γ,nr17E,nr17P,nr16Γ,nr16E,nr16P,nr15Γ,nr15E,nr15P,nr14Γ,nr14E,nr14P,nr13Γ,nr13E,nr13P,nr9Γ,nr9E,nr9P,nr8Γ,nr8E,nr8P,nr7Γ,nr7E,nr7P,nr6Γ,nr6E,nr6P,nr5Γ,nr5E,nr5P,nr4Γ,nr4E,nr4P,nr3Γ,nr3E,nr3P,nr0Γ,nr0E,nr0P,inI64,-Prod.exists]
 have hw:IntKind.u64.wrap (xs.length:Int)=xs.length:=by rw [IntKind.wrap_u64]; omega
 exact ⟨by rw [hw]; exact ⟨by omega,by omega⟩,xs,cmp,⟨rfl,rfl,hn,hal,hc,ho⟩,hK⟩
def conColTQ (It:List (FuncId×ItCon)):ECon:={ wp:=fun args hp K=>match args,hp with
 | [.s (.sl (.cons (.int .i64) (.cons (.cons (.cons .bool (.cons (.slice (.int .i64)) .nil)) (.cons (.cons .bool (.cons (.slice (.int .i64)) .nil)) .nil)) .nil)) [] true),.s (.fnp f caps)],[]=>∃ xs:List (Ty.T tTst),seqOf It f caps tTst xs∧xs.length≤1000000000∧K (.v (.s (.own tTst 0 xs.length))) [.arr (decide (0<xs.length)) (Ty.flats tTst xs)]
 | _,_=>False }
def conColT (It:List (FuncId×ItCon)):ECon:={ wp:=fun args hp K=>match args,hp with
 | [.s (.fnp f caps)],[]=>∃ xs:List (Ty.T tTst),seqOf It f caps tTst xs∧xs.length≤1000000000∧K (.v (.s (.own tTst 0 xs.length))) [.arr (decide (0<xs.length)) (Ty.flats tTst xs)]
 | _,_=>False }
theorem conColTQ_known (It:List (FuncId×ItCon)) (hIt:KnownIt Tryz.prog It):EffOk Tryz.prog 172 (conColTQ It):=by
 refine effOkD (L:={ live:=[0,1,2,4,5,6,7] }) fa13_good rfl nr_mixed Tryz.func172 rfl _ 2 (by decide) (by kernel_rfl) ?_
 intro args hp K hpre hlens
 simp only [conColTQ] at hpre
 split at hpre
 ·
  rename_i f caps
  obtain ⟨xs,⟨ic,hic,hip,hix⟩,hlen,hK⟩:=hpre
  refine ⟨rfl,?_⟩
  simp -dsimp -implicitDefEqProofs [Tryz.f172,fa13_all,faT,fa13Γ,fa13E,fa13P,fa12Γ,fa12E,fa12P,fa11Γ,fa11E,fa11P,fa10Γ,fa10E,fa10P,fa9Γ,fa9E,fa9P,fa8Γ,fa8E,fa8P,fa7Γ,fa7E,fa7P,fa3Γ,fa3E,fa3P,fa2Γ,fa2E,fa2P,fa1Γ,fa1E,fa1P,nr20Γ,nr20E,nr20P,nr19Γ,nr19E,nr19P,nr18Γ,nr18E,nr18P,nr17Γ,nr17E,nr17P,nr16Γ,nr16E,nr16P,nr15Γ,nr15E,nr15P,nr14Γ,nr14E,nr14P,nr13Γ,nr13E,nr13P,nr9Γ,nr9E,nr9P,nr8Γ,nr8E,nr8P,nr7Γ,nr7E,nr7P,nr6Γ,nr6E,nr6P,nr5Γ,nr5E,nr5P,nr4Γ,nr4E,nr4P,nr3Γ,nr3E,nr3P,nr0Γ,nr0E,nr0P,inI64]
  refine Wp.turn (Turn.virtBox (b:=0) (off:=0) (bc:=[.sl tTst [] true]) (t:=tTst) (xs:=[]) (by simp -dsimp -implicitDefEqProofs) (by simp)) ?_
  refine WpD.rangeFunc (L:={ live:=[0,1,2,4,5,6,7] }) (d:=⟨⟩) fa13_good nr_mixed rfl rfl f caps (by simp -dsimp -implicitDefEqProofs) ic (hIt f ic hic) hip (by decide) (by kernel_rfl) (by kernel_rfl) (by intro a b c d; simp -dsimp -implicitDefEqProofs)
   (fun t hp=>hp=[.cells [.own tTst 1 t],.arr (decide (0<t)) (Ty.flats tTst (xs.take t))]) (by simp) ?_ ?_
  ·
   intro t args hp hx hR
   subst hR
   rw [hix] at hx
   obtain ⟨hlt,rfl⟩:=take_map_av xs t hx
   have hmin:min t xs.length=t:=by omega
   have htk:=take_succ_get xs hlt (Ty.dflt tTst)
   rw [getD_lt hlt] at htk
   simp -dsimp -implicitDefEqProofs [hmin,fa13_all,faT,fa13Γ,fa13E,fa13P,fa12Γ,fa12E,fa12P,fa11Γ,fa11E,fa11P,fa10Γ,fa10E,fa10P,fa9Γ,fa9E,fa9P,fa8Γ,fa8E,fa8P,fa7Γ,fa7E,fa7P,fa3Γ,fa3E,fa3P,fa2Γ,fa2E,fa2P,fa1Γ,fa1E,fa1P,nr20Γ,nr20E,nr20P,nr19Γ,nr19E,nr19P,nr18Γ,nr18E,nr18P,nr17Γ,nr17E,nr17P,nr16Γ,nr16E,nr16P,nr15Γ,nr15E,nr15P,nr14Γ,nr14E,nr14P,nr13Γ,nr13E,nr13P,nr9Γ,nr9E,nr9P,nr8Γ,nr8E,nr8P,nr7Γ,nr7E,nr7P,nr6Γ,nr6E,nr6P,nr5Γ,nr5E,nr5P,nr4Γ,nr4E,nr4P,nr3Γ,nr3E,nr3P,nr0Γ,nr0E,nr0P,inI64]
   have hmin':min (t+1) xs.length=t+1:=by omega
   refine ⟨⟨by omega,by simp only [maxLen]; omega⟩,?_⟩
   first
    | exact ⟨hmin',TrT.refl _ _⟩
    | exact TrT.refl _ _
    | (rw [htk]; exact TrT.drop (hp:=[_,_]) (junk:=[_]) (by simp) (by simp only [List.length_cons,List.length_nil,List.all_cons,List.all_nil,arr_below,Bool.and_true]; simp [Blk.below,SV.below]))
  ·
   intro hp hR
   subst hR
   rw [hix,List.length_map]
   simp -dsimp -implicitDefEqProofs [fa13_all,faT,fa13Γ,fa13E,fa13P,fa12Γ,fa12E,fa12P,fa11Γ,fa11E,fa11P,fa10Γ,fa10E,fa10P,fa9Γ,fa9E,fa9P,fa8Γ,fa8E,fa8P,fa7Γ,fa7E,fa7P,fa3Γ,fa3E,fa3P,fa2Γ,fa2E,fa2P,fa1Γ,fa1E,fa1P,nr20Γ,nr20E,nr20P,nr19Γ,nr19E,nr19P,nr18Γ,nr18E,nr18P,nr17Γ,nr17E,nr17P,nr16Γ,nr16E,nr16P,nr15Γ,nr15E,nr15P,nr14Γ,nr14E,nr14P,nr13Γ,nr13E,nr13P,nr9Γ,nr9E,nr9P,nr8Γ,nr8E,nr8P,nr7Γ,nr7E,nr7P,nr6Γ,nr6E,nr6P,nr5Γ,nr5E,nr5P,nr4Γ,nr4E,nr4P,nr3Γ,nr3E,nr3P,nr0Γ,nr0E,nr0P,inI64]
   exact hK
 ·
  exact hpre.elim
theorem conColT_known (It:List (FuncId×ItCon)) (hIt:KnownIt Tryz.prog It):EffOk Tryz.prog 121 (conColT It):=by
 have hg:G.good Tryz.prog { τ:=faT,Γ:=[],E:=[(172,conColTQ It)] }:=good_of_all (faT_ok _ rfl) (fun p hp=>by cases hp) (fun p hp=>by simp only [List.mem_singleton] at hp; subst hp; exact ⟨enters_of Tryz.func172 (by kernel_rfl) rfl,conColTQ_known It hIt⟩) (fun p hp=>by cases hp)
 refine effOkD (L:={ live:=[0,2] }) hg rfl nr_mixed Tryz.func121 rfl _ 1 (by decide) (by kernel_rfl) ?_
 intro args hp K hpre hlens
 simp only [conColT] at hpre
 split at hpre
 ·
  rename_i f caps
  refine ⟨rfl,?_⟩
  simp -dsimp -implicitDefEqProofs [Tryz.f121,conColTQ,faT,G.td,inI64]
  exact hpre
 ·
  exact hpre.elim
def fa18Γ:List (FuncId×Con):=fa17Γ
theorem fa18Γ_ok:∀ p∈fa18Γ,(∀ (args:Array Value) (w:World),(callFunc p.1 args).run Tryz.prog w=.ok (.enter p.1 args) w)∧PureOk Tryz.prog p.1 p.2:=by
 simp only [fa18Γ]
 exact fa17Γ_ok
def fa18E:List (FuncId×ECon):=(122,(conSrtT gBef))::(121,(conColT itsValT))::fa17E
theorem fa18E_ok:∀ p∈fa18E,(∀ (args:Array Value) (w:World),(callFunc p.1 args).run Tryz.prog w=.ok (.enter p.1 args) w)∧EffOk Tryz.prog p.1 p.2:=by
 simp only [fa18E,List.forall_mem_cons]
 exact ⟨⟨enters_of Tryz.func122 (by kernel_rfl) rfl,conSrtT_known⟩,⟨enters_of Tryz.func121 (by kernel_rfl) rfl,(conColT_known itsValT itsValT_known)⟩,fa17E_ok⟩
def fa18P:List (FuncId×PCon):=fa17P
theorem fa18P_ok:∀ p∈fa18P,(∀ (args:Array Value) (w:World),(callFunc p.1 args).run Tryz.prog w=.ok (.enter p.1 args) w)∧PanOk Tryz.prog p.1 p.2:=by
 simp only [fa18P]
 exact fa17P_ok
def fa18:G:={ τ:=faT,Γ:=fa18Γ,E:=fa18E,Pn:=fa18P }
theorem fa18_good:fa18.good Tryz.prog:=good_of_all (faT_ok _ rfl) fa18Γ_ok fa18E_ok fa18P_ok
theorem fa18_all:(∀ t,fa18.td t=(look faT t).getD .other)∧fa18.y=false∧fa18.Γ=fa18Γ∧fa18.E=fa18E∧fa18.Pn=fa18P∧fa18.fz=[]:=⟨fun _=>rfl,rfl,rfl,rfl,rfl,rfl⟩
def conSofT (It:List (FuncId×ItCon)) (Γ:List (FuncId×Con)):ECon:={ wp:=fun args hp K=>match args,hp with
 | [.s (.fnp f1 caps1),.s (.fnp f2 caps2)],[]=>∃ (xs:List (Ty.T tTst)) (cmp:Ty.T tTst→Ty.T tTst→Int),(seqOf It f1 caps1 tTst xs∧xs.length≤12∧cmpTo Γ tTst f2 caps2 cmp (·∈xs)∧Ordr (·∈xs) cmp) ∧
   ∀ ys:List (Ty.T tTst),ys.Perm xs→ys.Pairwise (fun x y=>cmp x y≤0)→K (.v (.s (.own tTst 0 xs.length))) [.arr (decide (0<xs.length)) (Ty.flats tTst ys)]
 | _,_=>False }
theorem conSofT_known:EffOk Tryz.prog 76 (conSofT itsValT gBef):=by
 refine effOkD (L:={ live:=[0,1,4,5] }) fa18_good rfl nr_mixed Tryz.func76 rfl _ 2 (by decide) (by kernel_rfl) ?_
 intro args hp K hpre hlens
 simp only [conSofT] at hpre
 split at hpre
 case h_2=>exact hpre.elim
 rename_i f1 caps1 f2 caps2
 obtain ⟨xs,cmp,⟨hs,hn,hc,ho⟩,hK⟩:=hpre
 refine ⟨rfl,?_⟩
 simp -dsimp -implicitDefEqProofs [Tryz.f76,conSrtT,conPdqT_s,conColT,fa18_all,faT,fa18Γ,fa18E,fa18P,fa17Γ,fa17E,fa17P,fa16Γ,fa16E,fa16P,fa15Γ,fa15E,fa15P,fa14Γ,fa14E,fa14P,fa13Γ,fa13E,fa13P,fa12Γ,fa12E,fa12P,fa11Γ,fa11E,fa11P,fa10Γ,fa10E,fa10P,fa9Γ,fa9E,fa9P,fa8Γ,fa8E,fa8P,fa7Γ,fa7E,fa7P,fa3Γ,fa3E,fa3P,fa2Γ,fa2E,fa2P,fa1Γ,fa1E,fa1P,nr20Γ,nr20E,nr20P,nr19Γ,nr19E,nr19P,nr18Γ,nr18E,nr18P,nr17Γ,nr17E,nr17P,nr16Γ,nr16E,nr16P,nr15Γ,nr15E,nr15P,nr14Γ,nr14E,nr14P,nr13Γ,nr13E,nr13P,nr9Γ,nr9E,nr9P,nr8Γ,nr8E,nr8P,nr7Γ,nr7E,nr7P,nr6Γ,nr6E,nr6P,nr5Γ,nr5E,nr5P,nr4Γ,nr4E,nr4P,nr3Γ,nr3E,nr3P,nr0Γ,nr0E,nr0P,inI64,-Prod.exists]
 refine ⟨xs,hs,by omega,xs,cmp,⟨rfl,rfl,hn,?_,hc,ho⟩,hK⟩
 cases xs <;> simp
def fa19Γ:List (FuncId×Con):=(77,conValT)::fa18Γ
theorem fa19Γ_ok:∀ p∈fa19Γ,(∀ (args:Array Value) (w:World),(callFunc p.1 args).run Tryz.prog w=.ok (.enter p.1 args) w)∧PureOk Tryz.prog p.1 p.2:=by
 simp only [fa19Γ,List.forall_mem_cons]
 exact ⟨⟨enters_of Tryz.func77 (by kernel_rfl) rfl,conValT_ok⟩,fa18Γ_ok⟩
def fa19E:List (FuncId×ECon):=(76,(conSofT itsValT gBef))::fa18E
theorem fa19E_ok:∀ p∈fa19E,(∀ (args:Array Value) (w:World),(callFunc p.1 args).run Tryz.prog w=.ok (.enter p.1 args) w)∧EffOk Tryz.prog p.1 p.2:=by
 simp only [fa19E,List.forall_mem_cons]
 exact ⟨⟨enters_of Tryz.func76 (by kernel_rfl) rfl,conSofT_known⟩,fa18E_ok⟩
def fa19P:List (FuncId×PCon):=fa18P
theorem fa19P_ok:∀ p∈fa19P,(∀ (args:Array Value) (w:World),(callFunc p.1 args).run Tryz.prog w=.ok (.enter p.1 args) w)∧PanOk Tryz.prog p.1 p.2:=by
 simp only [fa19P]
 exact fa18P_ok
def fa19:G:={ τ:=faT,Γ:=fa19Γ,E:=fa19E,Pn:=fa19P }
theorem fa19_good:fa19.good Tryz.prog:=good_of_all (faT_ok _ rfl) fa19Γ_ok fa19E_ok fa19P_ok
theorem fa19_all:(∀ t,fa19.td t=(look faT t).getD .other)∧fa19.y=false∧fa19.Γ=fa19Γ∧fa19.E=fa19E∧fa19.Pn=fa19P∧fa19.fz=[]:=⟨fun _=>rfl,rfl,rfl,rfl,rfl,rfl⟩
theorem nos_inj {l:List tTst.T} (h:(nosL l).Nodup) {a b:tTst.T} (ha:a∈l) (hb:b∈l) (e:a.1=b.1):a=b:=by
 obtain ⟨i,hi,rfl⟩:=List.mem_iff_getElem.1 ha
 obtain ⟨j,hj,rfl⟩:=List.mem_iff_getElem.1 hb
 have hl:=nosL_len l
 have key:∀ k (hk:k<l.length),(nosL l)[k]'(by omega)=l[k].1:=fun k hk=>by simp [nosL]
 have e2:(nosL l)[i]'(by omega)=(nosL l)[j]'(by omega):=by rw [key i hi,key j hj]; exact e
 rcases Nat.lt_trichotomy i j with hij | hij | hij
 ·
  exact absurd e2 (List.pairwise_iff_getElem.1 h i j (by omega) (by omega) hij)
 ·
  subst hij; rfl
 ·
  exact absurd e2.symm (List.pairwise_iff_getElem.1 h j i (by omega) (by omega) hij)
def sortT (l:List tTst.T):List tTst.T:=@dite _ (∃ ys:List tTst.T,ys.Perm l∧ys.Pairwise (fun x y=>befT x y≤0)) (Classical.propDecidable _) (fun h=>Classical.choose h) (fun _=>[])
theorem sortT_eq {l ys:List tTst.T} (hd:∀ x∈l,okT x) (hn:(nosL l).Nodup) (hp:ys.Perm l) (hs:ys.Pairwise (fun x y=>befT x y≤0)):ys=sortT l:=by
 have h:∃ ys:List tTst.T,ys.Perm l∧ys.Pairwise (fun x y=>befT x y≤0):=⟨ys,hp,hs⟩
 unfold sortT
 rw [dif_pos h]
 obtain ⟨q1,q2⟩:=Classical.choose_spec h
 refine List.Perm.eq_of_pairwise (fun a b ha hb h1 h2 => ?_) hs q2 (hp.trans q1.symm)
 have ia:=hp.mem_iff.1 ha
 have ib:=q1.mem_iff.1 hb
 have:=ordr_befT.anti a b (hd a ia) (hd b ib)
 exact nos_inj hn ia ib (befT_zero (by omega))
def conSrtd:Con:=⟨fun args=>(match args with
 | [.s (.sl (.cons (.int .i64) (.cons (.cons (.cons .bool (.cons (.slice (.int .i64)) .nil)) (.cons (.cons .bool (.cons (.slice (.int .i64)) .nil)) .nil)) .nil)) l _)]=>l.length≤12∧(∀ x∈l,okT x)∧(nosL l).Nodup
 | _=>False),fun args=>match args with
 | [.s (.sl (.cons (.int .i64) (.cons (.cons (.cons .bool (.cons (.slice (.int .i64)) .nil)) (.cons (.cons .bool (.cons (.slice (.int .i64)) .nil)) .nil)) .nil)) l _)]=>.v (aS tTst (sortT l) false)
 | _=>.v (.s .any)⟩
theorem conSrtd_eq (l:List (Ty.T tTst)) (exl:Bool):conSrtd.pre [.s (.sl tTst l exl)]=(l.length≤12∧(∀ x∈l,okT x)∧(nosL l).Nodup)∧conSrtd.val [.s (.sl tTst l exl)]=.v (aS tTst (sortT l) false):=⟨rfl,rfl⟩
theorem srtd_ok:PureOk Tryz.prog 35 conSrtd:=by
 refine pureOkD (L:={ live:=[0,2] }) fa19_good rfl nr_mixed Tryz.func35 rfl conSrtd 1 (by decide) (by kernel_rfl) ?_
 intro args hpre hlens
 simp only [conSrtd] at hpre
 split at hpre
 case h_2=>exact hpre.elim
 rename_i l el
 simp only [allLen,AV.lenOk,SV.lenOk,Ty.lenOk,maxLen,and_true,implies_true,true_and,List.forall_mem_cons,List.not_mem_nil,false_implies] at hlens
 refine ⟨rfl,?_⟩
 simp -dsimp -implicitDefEqProofs [Tryz.f35,conSrtd_eq,conSofT,-Prod.exists,-Prod.forall,-Bool.forall_bool,-Bool.exists_bool,fa19_all,faT,fa19Γ,fa19E,fa19P,fa18Γ,fa18E,fa18P,fa17Γ,fa17E,fa17P,fa16Γ,fa16E,fa16P,fa15Γ,fa15E,fa15P,fa14Γ,fa14E,fa14P,fa13Γ,fa13E,fa13P,fa12Γ,fa12E,fa12P,fa11Γ,fa11E,fa11P,fa10Γ,fa10E,fa10P,fa9Γ,fa9E,fa9P,fa8Γ,fa8E,fa8P,fa7Γ,fa7E,fa7P,fa3Γ,fa3E,fa3P,fa2Γ,fa2E,fa2P,fa1Γ,fa1E,fa1P,nr20Γ,nr20E,nr20P,nr19Γ,nr19E,nr19P,nr18Γ,nr18E,nr18P,nr17Γ,nr17E,nr17P,nr16Γ,nr16E,nr16P,nr15Γ,nr15E,nr15P,nr14Γ,nr14E,nr14P,nr13Γ,nr13E,nr13P,nr9Γ,nr9E,nr9P,nr8Γ,nr8E,nr8P,nr7Γ,nr7E,nr7P,nr6Γ,nr6E,nr6P,nr5Γ,nr5E,nr5P,nr4Γ,nr4E,nr4P,nr3Γ,nr3E,nr3P,nr0Γ,nr0E,nr0P,conValT_pre,conValT_val,conSofT,conSrtT,conColT,conPdqT,conInsT,conOrI_eq,conCmpI_eq,conLen_eq,conLen64_eq,conChkF_eq,conNumE_eq,conRisI_eq,conRisT_eq,conLvl_eq,conKeyI_eq,conKeyT_eq,conShrtF_eq,conMost_eq,conTimesR_eq,conFits_eq,conWhole_eq,conOrdR_eq,conMkR_eq,conMulR_eq,conCmpR_eq,conRatC_eq,conRInt_eq,conOf_eq,conLow_eq,conDivX_eq,conMakeN_eq,conProd_eq,conDidB_eq,conDidI_eq,conValid_eq,panValid_when,panValid_what,conNeed_eq,panNeed_when,panNeed_what,conGcdN_eq,conMulN_eq,conCmpN2_eq,conPosi_eq,conChk_eq,conBigN_eq,conDiv_eq,conTimes_eq,conNCheck_eq,conLong_eq,conLead64_eq,conShort_eq,conMovE,conTrim_eq,conAt_eq,conNCmp_eq,conBack_eq,conOf9_eq,conDivide_eq,conLess9_eq,conTwo_eq,conRCheck_eq,conRCmpD_eq,inI64]
 obtain ⟨h1,h2,h3⟩:=hpre
 refine ⟨l,befT,⟨seqValT l,h1,bef_cmpTo h2,ordr_befT.mono h2⟩,fun ys hp hs => ?_⟩
 have hl:=hp.length_eq
 have hpa:Ty.parses tTst l.length (Ty.flats tTst ys)=some ys:=parses_flats' hl
 rw [← sortT_eq h2 h3 hp hs]
 refine ⟨[aS tTst ys false],?_,rfl⟩
 rw [if_pos (by rw [hl]),hpa]
 rfl
theorem sortT_spec {l:List tTst.T} (hd:∀ x∈l,okT x):(sortT l).Perm l∧(sortT l).Pairwise (fun x y=>befT x y≤0):=by
 have h:=exists_sorted ordr_befT l hd
 unfold sortT
 rw [dif_pos h]
 exact Classical.choose_spec h
def fcT:List (TypeId×TD):=[(3,.sc tI),(4,.sc .bool),(9,.sc .str),(22,.slice 52 tTst 72),(52,.struct tTst),(119,.slice 22 (.slice tTst) 24)]
theorem fcT_ok (g:G) (hg:g.τ=fcT):G.ok Tryz.prog g:=by
 refine ok_of_all ?_
 rw [hg]
 simp only [fcT,List.forall_mem_cons]
 refine ⟨?_,?_,?_,?_,?_,?_,by simp⟩
 ·
  exact ⟨by kernel_rfl,rfl,by kernel_rfl,rfl⟩
 ·
  exact ⟨by kernel_rfl,rfl,by kernel_rfl,rfl⟩
 ·
  exact ⟨by kernel_rfl,rfl,by kernel_rfl,rfl⟩
 ·
  exact ⟨by kernel_rfl,by decide,by kernel_rfl,⟨cellsV (Ty.zcells tTst),by kernel_rfl,by kernel_rfl,by kernel_rfl⟩,by kernel_rfl⟩
 ·
  exact ⟨fieldsOf Tryz.prog 52,by kernel_rfl,by kernel_rfl,by kernel_rfl,by decide,by kernel_rfl⟩
 ·
  exact ⟨by kernel_rfl,by decide,by kernel_rfl,⟨cellsV (Ty.zcells (.slice tTst)),by kernel_rfl,by kernel_rfl,by kernel_rfl⟩,by kernel_rfl⟩
theorem fc_mixed:Tryz.prog.follows .mixedOrders=true:=by kernel_rfl
def fc0Γ:List (FuncId×Con):=[]
theorem fc0Γ_ok:∀ p∈fc0Γ,(∀ (args:Array Value) (w:World),(callFunc p.1 args).run Tryz.prog w=.ok (.enter p.1 args) w)∧PureOk Tryz.prog p.1 p.2:=by simp [fc0Γ]
def fc0E:List (FuncId×ECon):=[]
theorem fc0E_ok:∀ p∈fc0E,(∀ (args:Array Value) (w:World),(callFunc p.1 args).run Tryz.prog w=.ok (.enter p.1 args) w)∧EffOk Tryz.prog p.1 p.2:=by simp [fc0E]
def fc0P:List (FuncId×PCon):=[]
theorem fc0P_ok:∀ p∈fc0P,(∀ (args:Array Value) (w:World),(callFunc p.1 args).run Tryz.prog w=.ok (.enter p.1 args) w)∧PanOk Tryz.prog p.1 p.2:=by simp [fc0P]
def fc0:G:={ τ:=fcT,Γ:=fc0Γ,E:=fc0E,Pn:=fc0P }
theorem fc0_good:fc0.good Tryz.prog:=good_of_all (fcT_ok _ rfl) fc0Γ_ok fc0E_ok fc0P_ok
theorem fc0_all:(∀ t,fc0.td t=(look fcT t).getD .other)∧fc0.y=false∧fc0.Γ=fc0Γ∧fc0.E=fc0E∧fc0.Pn=fc0P∧fc0.fz=[]:=⟨fun _=>rfl,rfl,rfl,rfl,rfl,rfl⟩
def conGrT:ECon:={ wp:=fun args hp K=>match args,hp with
 | [.s (.sl (.cons (.int .i64) (.cons (.cons (.cons .bool (.cons (.slice (.int .i64)) .nil)) (.cons (.cons .bool (.cons (.slice (.int .i64)) .nil)) .nil)) .nil)) [] true),.s (.int .i64 n)],[]=>(0≤n∧n≤100000)∧(n=0→K (.v (.s (.sl tTst [] true))) [])∧(0<n→K (.v (.s (.pre tTst 0 n.toNat 0))) [.arr true (Ty.flats tTst (List.replicate n.toNat (Ty.dflt tTst)))])
 | _,_=>False }
theorem conGrT_ok:EffOk Tryz.prog 81 conGrT:=by
 refine effOkD (L:={ live:=[0,1,4,6,16] }) fc0_good rfl fc_mixed Tryz.func81 rfl conGrT 2 (by decide) (by kernel_rfl) ?_
 intro args hp K hpre hlens
 simp only [conGrT] at hpre
 split at hpre
 case h_2=>exact hpre.elim
 rename_i n
 obtain ⟨⟨h0,h1⟩,hK0,hK1⟩:=hpre
 refine ⟨rfl,?_⟩
 simp -dsimp -implicitDefEqProofs [Tryz.f81,fc0_all,fcT,fc0Γ,fc0E,fc0P,inI64]
 exact ⟨h0,fun _=>⟨⟨by omega,by omega⟩,fun hn=>⟨⟨hn,by omega,by simp only [maxLen]; omega⟩,by omega,hK1 hn⟩,fun hn=>hK0 (by omega)⟩⟩
def fc1Γ:List (FuncId×Con):=fc0Γ
theorem fc1Γ_ok:∀ p∈fc1Γ,(∀ (args:Array Value) (w:World),(callFunc p.1 args).run Tryz.prog w=.ok (.enter p.1 args) w)∧PureOk Tryz.prog p.1 p.2:=by
 simp only [fc1Γ]
 exact fc0Γ_ok
def fc1E:List (FuncId×ECon):=(81,conGrT)::fc0E
theorem fc1E_ok:∀ p∈fc1E,(∀ (args:Array Value) (w:World),(callFunc p.1 args).run Tryz.prog w=.ok (.enter p.1 args) w)∧EffOk Tryz.prog p.1 p.2:=by
 simp only [fc1E,List.forall_mem_cons]
 exact ⟨⟨enters_of Tryz.func81 (by kernel_rfl) rfl,conGrT_ok⟩,fc0E_ok⟩
def fc1P:List (FuncId×PCon):=fc0P
theorem fc1P_ok:∀ p∈fc1P,(∀ (args:Array Value) (w:World),(callFunc p.1 args).run Tryz.prog w=.ok (.enter p.1 args) w)∧PanOk Tryz.prog p.1 p.2:=by
 simp only [fc1P]
 exact fc0P_ok
def fc1:G:={ τ:=fcT,Γ:=fc1Γ,E:=fc1E,Pn:=fc1P }
theorem fc1_good:fc1.good Tryz.prog:=good_of_all (fcT_ok _ rfl) fc1Γ_ok fc1E_ok fc1P_ok
theorem fc1_all:(∀ t,fc1.td t=(look fcT t).getD .other)∧fc1.y=false∧fc1.Γ=fc1Γ∧fc1.E=fc1E∧fc1.Pn=fc1P∧fc1.fz=[]:=⟨fun _=>rfl,rfl,rfl,rfl,rfl,rfl⟩
def conCT_len (xs:List (List (Ty.T tTst))) (i:Nat):Nat:=(xs.take i).flatten.length
theorem conCT_take {xs:List (List (Ty.T tTst))} {i:Nat} (h:i<xs.length):(xs.take (i+1)).flatten=(xs.take i).flatten++xs[i]:=by
 rw [List.take_add_one,List.flatten_append,List.getElem?_eq_getElem h]
 simp
theorem conCT_succ {xs:List (List (Ty.T tTst))} {i:Nat} (h:i<xs.length):conCT_len xs (i+1)=conCT_len xs i+xs[i].length:=by
 unfold conCT_len
 rw [conCT_take h,List.length_append]
theorem conCT_le {xs:List (List (Ty.T tTst))} (i:Nat):conCT_len xs i≤xs.flatten.length:=by
 unfold conCT_len
 conv=>rhs; rw [← List.take_append_drop i xs,List.flatten_append,List.length_append]
 omega
def conCT:Con:=⟨fun args=>(match args with
 | [.s (.sl (.slice (.cons (.int .i64) (.cons (.cons (.cons .bool (.cons (.slice (.int .i64)) .nil)) (.cons (.cons .bool (.cons (.slice (.int .i64)) .nil)) .nil)) .nil))) xs _)]=>xs.length≤1000∧xs.flatten.length≤100000
 | _=>False),fun args=>match args with
 | [.s (.sl (.slice (.cons (.int .i64) (.cons (.cons (.cons .bool (.cons (.slice (.int .i64)) .nil)) (.cons (.cons .bool (.cons (.slice (.int .i64)) .nil)) .nil)) .nil))) xs _)]=>.v (.s (.sl tTst xs.flatten false))
 | _=>.v (.s .any)⟩
theorem conCT_pre (xs:List (List (Ty.T tTst))) (ex:Bool):conCT.pre [.s (.sl (.slice tTst) xs ex)]=(xs.length≤1000∧xs.flatten.length≤100000):=rfl
theorem conCT_val (xs:List (List (Ty.T tTst))) (ex:Bool):conCT.val [.s (.sl (.slice tTst) xs ex)]=.v (.s (.sl tTst xs.flatten false)):=rfl
theorem conCT_ok:PureOk Tryz.prog 36 conCT:=by
 refine pureOkD (L:={ live:=[0,2,3,5,6,8,9,10,11,12,20,25,26,27,28] }) fc1_good rfl fc_mixed Tryz.func36 rfl conCT 1 (by decide) (by kernel_rfl) ?_
 intro args hpre hlens
 simp only [conCT] at hpre
 split at hpre
 case h_2=>exact hpre.elim
 rename_i xs ex
 simp only [allLen,AV.lenOk,SV.lenOk,Ty.lenOk,maxLen,and_true,implies_true,true_and,List.forall_mem_cons,List.not_mem_nil,false_implies] at hlens
 refine ⟨rfl,?_⟩
 simp -dsimp -implicitDefEqProofs [Tryz.f36,conCT_val,conCT_val,fc1_all,fcT,fc1Γ,fc1E,fc1P,fc0Γ,fc0E,fc0P,conGrT,inI64]
 obtain ⟨hxl,hfl⟩:=hpre
 obtain ⟨xs,rfl⟩:∃ ys:List (List (Ty.T tTst)),ys=xs:=⟨xs,rfl⟩
 refine WpD.loop (L:={ live:=[0,2,3,5,6,8,9,10,11,12,20,25,26,27,28] }) fc1_good X0_ok fc_mixed (by kernel_rfl)
  (fun i:Nat=>⟨[(0,vS (.slice tTst) xs ex),(3,vI (conCT_len xs i)),(9,vS (.slice tTst) xs ex),(10,vI xs.length),(11,vI i)],[]⟩)
  (fun i=>i≤xs.length) (fun i=>xs.length - i) 0 (Nat.zero_le _) (Turn.le (by simp -dsimp -implicitDefEqProofs [conCT_len])) ?_
 intro i hi
 have hle:=conCT_le (xs:=xs) i
 rcases Nat.lt_or_ge i xs.length with hil | hge
 ·
  have e2:=conCT_succ hil
  have hle1:=conCT_le (xs:=xs) (i+1)
  have e3:((conCT_len xs i:Nat):Int)+(List.length xs[i]:Int)=((conCT_len xs (i+1):Nat):Int):=by rw [e2]; omega
  simp -dsimp -implicitDefEqProofs [hil,e3,fc1_all,fcT,fc1Γ,fc1E,fc1P,fc0Γ,fc0E,fc0P,conGrT,inI64]
  exact ⟨by omega,⟨by omega,by omega⟩,i+1,by omega,by omega,TurnT.le (by simp -dsimp -implicitDefEqProofs)⟩
 ·
  have hn:¬ i<xs.length:=by omega
  obtain rfl:i=xs.length:=by omega
  obtain ⟨N,hN⟩:∃ N,N=xs.flatten.length:=⟨_,rfl⟩
  have hall:conCT_len xs xs.length=N:=by unfold conCT_len; rw [List.take_length,hN]
  simp -dsimp -implicitDefEqProofs [hn,hall,fc1_all,fcT,fc1Γ,fc1E,fc1P,fc0Γ,fc0E,fc0P,conGrT,inI64]
  refine ⟨by omega,fun h0 => ?_,fun h0 => ?_⟩
  ·
   refine WpD.loop (L:={ live:=[0,2,3,5,6,8,9,10,11,12,20,25,26,27,28] }) fc1_good X0_ok fc_mixed (by kernel_rfl)
    (fun i:Nat=>if i=0 then ⟨[(0,vS (.slice tTst) xs ex),(6,vS tTst [] true),(25,vS (.slice tTst) xs ex),(26,vI xs.length),(27,vI 0)],[]⟩ else ⟨[(0,vS (.slice tTst) xs ex),(6,⟨true,.v (.s (.own tTst 0 0))⟩),(25,vS (.slice tTst) xs ex),(26,vI xs.length),(27,vI i)],[.arr false (Ty.flats tTst [])]⟩)
    (fun i=>i≤xs.length) (fun i=>xs.length - i) 0 (Nat.zero_le _) (Turn.le (by simp -dsimp -implicitDefEqProofs)) ?_
   intro i hi
   have hz:∀ l∈xs,l=[]:=by
    intro l hl
    have:l.length≤xs.flatten.length:=(List.sublist_flatten_of_mem hl).length_le
    exact List.length_eq_zero_iff.1 (by omega)
   rcases Nat.lt_or_ge i xs.length with hil | hge
   ·
    have e1:=hz _ (List.getElem_mem hil)
    rcases Nat.eq_zero_or_pos i with rfl | hp
    ·
     simp -dsimp -implicitDefEqProofs [hil,e1,fc1_all,fcT,fc1Γ,fc1E,fc1P,fc0Γ,fc0E,fc0P,conGrT,inI64]
     exact ⟨1,by omega,by omega,TurnT.le (by simp -dsimp -implicitDefEqProofs)⟩
    ·
     have hp0:¬ i=0:=by omega
     simp -dsimp -implicitDefEqProofs [hil,e1,hp0,fc1_all,fcT,fc1Γ,fc1E,fc1P,fc0Γ,fc0E,fc0P,conGrT,inI64]
     refine ⟨⟨by omega,by omega⟩,i+1,by omega,by omega,?_⟩
     rw [if_neg (by omega)]
     exact TurnT.le (by simp -dsimp -implicitDefEqProofs)
   ·
    have hn:¬ i<xs.length:=by omega
    have hfe:xs.flatten=[]:=List.eq_nil_of_length_eq_zero (by omega)
    rcases Nat.eq_zero_or_pos i with rfl | hp
    ·
     simp -dsimp -implicitDefEqProofs [hn,fc1_all,fcT,fc1Γ,fc1E,fc1P,fc0Γ,fc0E,fc0P,conGrT,inI64]
     rw [conCT_val,hfe]
    ·
     have hp0:¬ i=0:=by omega
     simp -dsimp -implicitDefEqProofs [hn,hp0,fc1_all,fcT,fc1Γ,fc1E,fc1P,fc0Γ,fc0E,fc0P,conGrT,inI64]
     rw [conCT_val,hfe]
  ·
   refine WpD.loop (L:={ live:=[0,2,3,5,6,8,9,10,11,12,20,25,26,27,28] }) fc1_good X0_ok fc_mixed (by kernel_rfl)
    (fun i:Nat=>if i=0 then ⟨[(0,vS (.slice tTst) xs ex),(6,⟨true,.v (.s (.pre tTst 0 N 0))⟩),(25,vS (.slice tTst) xs ex),(26,vI xs.length),(27,vI 0)],[.arr true (Ty.flats tTst (List.replicate N (Ty.dflt tTst)))]⟩ else ⟨[(0,vS (.slice tTst) xs ex),(6,⟨true,.v (.s (.own tTst 1 (conCT_len xs i)))⟩),(25,vS (.slice tTst) xs ex),(26,vI xs.length),(27,vI i)],[.dead,.arr true (Ty.flats tTst (xs.take i).flatten)]⟩)
    (fun i=>i≤xs.length) (fun i=>xs.length - i) 0 (Nat.zero_le _) (Turn.le (by simp -dsimp -implicitDefEqProofs)) ?_
   intro i hi
   rcases Nat.lt_or_ge i xs.length with hil | hge
   ·
    have e2:=conCT_succ hil
    have hle1:=conCT_le (xs:=xs) (i+1)
    have hle0:=conCT_le (xs:=xs) i
    have hl:(xs.take i).flatten.length=conCT_len xs i:=rfl
    rcases Nat.eq_zero_or_pos i with rfl | hp
    ·
     simp -dsimp -implicitDefEqProofs [hil,hl,-List.length_flatten,fc1_all,fcT,fc1Γ,fc1E,fc1P,fc0Γ,fc0E,fc0P,conGrT,inI64]
     have z0:conCT_len xs 0=0:=rfl
     have z1:conCT_len xs 1=xs[0].length:=by rw [e2,z0,Nat.zero_add]
     have z2:(xs.take 1).flatten=xs[0]:=by have:=conCT_take hil; simpa using this
     refine ⟨⟨by omega,by simp only [maxLen]; omega⟩,1,by omega,by omega,?_⟩
     rw [if_neg (by omega),z1,z2]
     exact TurnT.le (by simp -dsimp -implicitDefEqProofs)
    ·
     have hp0:¬ i=0:=by omega
     simp -dsimp -implicitDefEqProofs [hil,hp0,hl,-List.length_flatten,fc1_all,fcT,fc1Γ,fc1E,fc1P,fc0Γ,fc0E,fc0P,conGrT,inI64]
     refine ⟨⟨by omega,by simp only [maxLen]; omega⟩,⟨by omega,by omega⟩,i+1,by omega,by omega,?_⟩
     rw [if_neg (by omega),e2,conCT_take hil]
     exact TurnT.le (by simp -dsimp -implicitDefEqProofs)
   ·
    have hn:¬ i<xs.length:=by omega
    have hp0:¬ i=0:=by
     intro e
     obtain rfl:=List.eq_nil_of_length_eq_zero (show xs.length=0 by omega)
     simp at hN
     omega
    obtain rfl:i=xs.length:=by omega
    have hta:xs.take xs.length=xs:=List.take_length
    have hpa:Ty.parses tTst N (Ty.flats tTst xs.flatten)=some xs.flatten:=parses_flats' hN.symm
    simp -dsimp -implicitDefEqProofs [hn,hp0,hall,hta,hpa,hN.symm,conCT_val,-List.length_flatten,fc1_all,fcT,fc1Γ,fc1E,fc1P,fc0Γ,fc0E,fc0P,conGrT,inI64]
end Go.Am
namespace Go.Am
open Go.RowKit
section
variable {P:Program} {w:World} {M0:Nat→Prop} {bs:Bs} {α:Type} [Inhabited α]
theorem heap_putRow {enc:α→Value} {b:Nat} {d:Array α} {m:Nat} {os:Array Obj} {cur:Array Value} {e:TypeId} {fr:Nat×Nat} (hb:w.heap[b]?=some (.cells cur e fr)) :
  (Sort.grow (Sort.putRow enc (Sort.ahead w m) b 0 d) os).heap[b]?=some (.cells (Sort.putCells enc 0 d cur) e fr):=by
 have hlt:=(Array.getElem?_eq_some_iff.1 hb).1
 simp only [Sort.grow,Sort.putRow,Sort.mapBlock,Sort.ahead]
 rw [Array.getElem?_append_left (by simpa using hlt),Array.getElem?_modify]
 simp only [if_true,hb,Option.map_some,Sort.onCells]
theorem heap_putRow_other {enc:α→Value} {b c:Nat} {d:Array α} {m:Nat} {os:Array Obj} (hne:c≠b) (hc:c<w.heap.size) :
  (Sort.grow (Sort.putRow enc (Sort.ahead w m) b 0 d) os).heap[c]?=w.heap[c]?:=by
 simp only [Sort.grow,Sort.putRow,Sort.mapBlock,Sort.ahead]
 rw [Array.getElem?_append_left (by simpa using hc),Array.getElem?_modify,if_neg (fun e=>hne e.symm)]
theorem row_anew {enc:α→Value} {b cap:Nat} {d:Array α} {m:Nat} {os:Array Obj} {al:Bool} {cs cs':List SV} (hr:HR w M0 bs [.arr al cs]) (hb:bs.at 0=some b) (ho:OwnAt w b cap 1) (hlen:cs'.length=cs.length) (hd:d.size=cs.length) (hcap:cs.length≤cap)
  (hrel:∀ (j:Nat) (x:SV),cs'[j]?=some x→(enc d[j]!).oneCell'=true∧relSV w (Mof M0 bs) bs [.arr al cs] x (enc d[j]!)) :
  HR (Sort.grow (Sort.putRow enc (Sort.ahead w m) b 0 d) os) M0 bs [.arr al cs'] ∧
   Step false w (Mof M0 bs) bs [.arr al cs] (Sort.grow (Sort.putRow enc (Sort.ahead w m) b 0 d) os) (Mof M0 bs) bs [.arr al cs']:=by
 obtain ⟨cur,e,h1,h2,h3⟩:=ho
 have hnew:=heap_putRow (enc:=enc) (d:=d) (m:=m) (os:=os) h1
 have hoth:=fun c hne hc=>heap_putRow_other (w:=w) (enc:=enc) (b:=b) (c:=c) (d:=d) (m:=m) (os:=os) hne hc
 have hcs:(Sort.putCells enc 0 d cur).size=cur.size:=by simp [Sort.putCells]
 have hev:Evo (Mof M0 bs) (Mof M0 bs) w (Sort.grow (Sort.putRow enc (Sort.ahead w m) b 0 d) os) :=
  ⟨rfl,rfl,rfl,by simp [Sort.grow,Sort.putRow,Sort.mapBlock,Sort.ahead],by simp [Sort.grow,Sort.putRow,Sort.mapBlock,Sort.ahead],fun c hc hn=>hoth c (fun e=>hn (e▸.inr ⟨0,hb⟩)) hc,fun _ _ h=>h⟩
 refine hr.rewrite (id:=0) hb hev hoth hnew (.arr al cs') ⟨_,e,rfl,fun j x hj => ?_⟩ ?_
 ·
  have hjl:=(List.getElem?_eq_some_iff.1 hj).1
  obtain ⟨k1,k2⟩:=hrel j x hj
  refine ⟨enc d[j]!,?_,k1,k2⟩
  have hjc:j<cur.size:=by omega
  simp [Sort.putCells,hjc]
  intro hge
  omega
 ·
  refine .inr ⟨hlen.symm,fun cap' size ⟨cur',e',g1,g2,g3⟩ => ?_⟩
  rw [h1] at g1
  injection g1 with g1; injection g1 with g1 g1'
  subst g1; subst g1'
  exact ⟨_,e,hnew,by rw [hcs]; exact g2,g3⟩
theorem own_cases {t:Ty} {al:Bool} {n:Nat} {cs:List SV} {v:Value} (hr:HR w M0 bs [.arr al cs]) (hlen:cs.length=n*t.size) (h:relSV w (Mof M0 bs) bs [.arr al cs] (.own t 0 n) v) :
  (∃ b cap cur e,bs.at 0=some b∧v=.slice (some ⟨b,0,none⟩) n cap∧n≤cap∧OwnAt w b cap t.size∧w.heap[b]?=some (.cells cur e (0,0))∧cur.size=cap*t.size∧cap≤maxLen∧b<w.heap.size ∧
   ∀ (j:Nat) (x:SV),cs[j]?=some x→∃ u,cur[j]?=some u∧u.oneCell'=true∧relSV w (Mof M0 bs) bs [.arr al cs] x u) ∨
  (al=false∧∃ a:Option Addr,v=.slice a n n∧n≤maxLen):=by
 obtain ⟨_,h⟩:=h
 rcases (h al cs rfl).2 hlen with ⟨b,cap,h1,h2,h3,h4⟩ | ⟨h1,xs,a,h2,h3,h4,h5,h6⟩
 ·
  left
  obtain ⟨cur,e,g1,g2⟩:=hr.arr 0 al cs b rfl h1
  obtain ⟨cur',e',g3,g4,g5⟩:=h4
  rw [g1] at g3
  injection g3 with g3; injection g3 with g3 g3'
  subst g3; subst g3'
  exact ⟨b,cap,cur,e,h1,h2,h3,⟨cur,e,g1,g4,g5⟩,g1,g4,g5,hr.lt 0 b h1,g2⟩
 ·
  right
  refine ⟨?_,a,h5,h3⟩
  cases al with
  | false=>rfl
  | true =>
   obtain ⟨b,hb⟩:=hr.al 0 cs rfl
   rw [h1] at hb; cases hb
def isort (xs:List Int):List Int:=xs.mergeSort fun x y=>decide (x≤y)
theorem isort_length (xs:List Int):(isort xs).length=xs.length:=by simp [isort]
def conSort:ECon:={ wp:=fun args hp K=>match args,hp with
 | [.s (.own (.int .i64) 0 n)],[.arr al cs]=>∃ xs:List Int,cs=(Ty.int .i64).flats xs∧xs.length=n∧xs.length<4611686018427387904∧(al=true∨xs=[])∧K (.tup []) [.arr al ((Ty.int .i64).flats (isort xs))]
 | _,_=>False }
theorem sort_eff {ρ:Shelf.Ren} (L:Proofs.SlLaysM.n5 P ρ):EffOk P (ρ.f 5) conSort:=by
 intro w M0 bs hp args vs K hpre hr hpure hargs
 simp only [conSort] at hpre
 split at hpre
 ·
  rename_i n al cs
  obtain ⟨xs,rfl,rfl,hsz,hal,hK⟩:=hpre
  obtain ⟨v,rfl,hv⟩:∃ v,vs=[v]∧relAV w (Mof M0 bs) bs [.arr al ((Ty.int .i64).flats xs)] (.s (.own tI 0 xs.length)) v:=by
   cases hargs with
   | cons h1 h2=>cases h2; exact ⟨_,rfl,h1⟩
  rcases own_cases hr (by rw [flats_length]) hv with ⟨b,cap,cur,e,h1,rfl,h3,h4,h5,h6,h7,h8,h9⟩ | ⟨hfal,a,rfl,hn⟩
  ·
   have hH:Sort.Holds (Value.int .i64) w b 0 xs.toArray:=by
    intro j hj
    have hj':j<xs.length:=by simpa using hj
    obtain ⟨u,k1,k2,k3⟩:=h9 j (.int .i64 xs[j]) (by rw [flats_int_get]; simp [hj'])
    obtain rfl:u=_:=k3
    refine ⟨?_,?_⟩
    ·
     simp only [Nat.zero_add,World.cell?,h5,Option.isSome_none,Bool.false_eq_true,if_false,k1]
     simp [hj']
    ·
     simp [World.frozen?,h5]
   refine (Proofs.AnyM.slices_Sort_int L b 0 cap xs w hH h8 hsz).mono ?_
   rintro o w' ⟨rfl,m,os,rfl⟩
   obtain ⟨k1,k2⟩:=row_anew (enc:=Value.int .i64) (d:=(isort xs).toArray) (m:=m) (os:=os) (cs':=(Ty.int .i64).flats (isort xs)) hr h1 h4 (by rw [flats_length,flats_length,isort_length]) (by rw [flats_length]; simp [isort_length]) (by rw [flats_length]; simpa using h3) (fun j x hj=>by
    rw [flats_int_get] at hj
    cases hi:(isort xs)[j]? with
    | none=>rw [hi] at hj; cases hj
    | some y =>
     rw [hi] at hj
     simp at hj; subst hj
     have hlt:=(List.getElem?_eq_some_iff.1 hi).1
     have hy:(isort xs).toArray[j]! = y:=by
      rw [getElem!_pos _ _ (by simpa using hlt)]
      simp only [List.getElem_toArray]
      rw [List.getElem?_eq_getElem hlt] at hi
      injection hi
     rw [hy]
     exact ⟨rfl,rfl⟩)
   exact ⟨_,.tup [],[.arr al ((Ty.int .i64).flats (isort xs))],bs,rfl,hK,⟨[],rfl,.nil⟩,by simp [Blk.pureB,flats_pure],k1,k2⟩
  ·
   have hx:xs=[]:=by
    rcases hal with hal | hal
    ·
     rw [hfal] at hal; cases hal
    ·
     exact hal
   subst hx
   refine (Proofs.AnyM.slices_Sort_int_none L a 0 w).mono ?_
   rintro o w' ⟨rfl,rfl⟩
   have h0:isort []=[]:=by simp [isort]
   rw [h0] at hK
   exact ⟨_,.tup [],_,bs,rfl,hK,⟨[],rfl,.nil⟩,hpure,hr,Step.refl _ _ _ _⟩
 ·
  exact hpre.elim
end
end Go.Am
namespace Go.Am
open Go.RowKit
section
variable {P:Program} {w:World} {M0:Nat→Prop} {bs:Bs}
theorem isort_perm (xs:List Int):(isort xs).Perm xs:=List.mergeSort_perm ..
theorem isort_sorted (xs:List Int):(isort xs).Pairwise (fun x y=>x≤y):=by
 have:=List.pairwise_mergeSort (le:=fun x y:Int=>decide (x≤y)) (by intro a b c; simp; omega) (by intro a b; simp; omega) xs
 exact this.imp (by simp)
end
end Go.Am
namespace Go.Proofs
set_option maxRecDepth 20000
def Tryz.laySort_ren:Go.Shelf.Ren:=⟨fun | 5=>70 | 8=>115 | 7=>114 | 19=>166 | 20=>167 | 10=>157 | 11=>158 | 12=>159 | 13=>160 | 14=>161 | 15=>162 | 16=>163 | 17=>164 | 18=>165 | 30=>190 | 31=>191 | 32=>192 | 33=>193 | 34=>194 | 35=>124 | 40=>208 | n=>n,fun | 23=>23 | 25=>3 | 3=>3 | 32=>156 | 22=>23 | 0=>0 | 44=>138 | 46=>136 | 4=>4 | 36=>196 | 35=>195 | 41=>131 | 5=>5 | 9=>9 | 53=>219 | 57=>223 | 63=>232 | 64=>233 | n=>n,fun | n=>n⟩
theorem Tryz.laySort:Go.Proofs.SlLaysM.n5 Tryz.prog Tryz.laySort_ren:={
 mixed:=by kernel_rfl,
 f5:=⟨Tryz.f70.name,by decide,Tryz.func70.trans (congrArg some (by kernel_rfl))⟩,
 f7:=⟨Tryz.f114.name,by decide,Tryz.func114.trans (congrArg some (by kernel_rfl))⟩,
 f8:=Tryz.func115.trans (congrArg some (by kernel_rfl)),
 f10:=⟨Tryz.f157.name,by decide,Tryz.func157.trans (congrArg some (by kernel_rfl))⟩,
 f11:=⟨Tryz.f158.name,by decide,Tryz.func158.trans (congrArg some (by kernel_rfl))⟩,
 f12:=⟨Tryz.f159.name,by decide,Tryz.func159.trans (congrArg some (by kernel_rfl))⟩,
 f13:=⟨Tryz.f160.name,by decide,Tryz.func160.trans (congrArg some (by kernel_rfl))⟩,
 f14:=⟨Tryz.f161.name,by decide,Tryz.func161.trans (congrArg some (by kernel_rfl))⟩,
 f15:=⟨Tryz.f162.name,by decide,Tryz.func162.trans (congrArg some (by kernel_rfl))⟩,
 f16:=⟨Tryz.f163.name,by decide,Tryz.func163.trans (congrArg some (by kernel_rfl))⟩,
 f17:=⟨Tryz.f164.name,by decide,Tryz.func164.trans (congrArg some (by kernel_rfl))⟩,
 f18:=⟨Tryz.f165.name,by decide,Tryz.func165.trans (congrArg some (by kernel_rfl))⟩,
 f19:=Tryz.func166.trans (congrArg some (by kernel_rfl)),
 f20:=Tryz.func167.trans (congrArg some (by kernel_rfl)),
 f30:=⟨Tryz.f190.name,by decide,Tryz.func190.trans (congrArg some (by kernel_rfl))⟩,
 f31:=Tryz.func191.trans (congrArg some (by kernel_rfl)),
 f32:=Tryz.func192.trans (congrArg some (by kernel_rfl)),
 f33:=⟨Tryz.f193.name,by decide,Tryz.func193.trans (congrArg some (by kernel_rfl))⟩,
 f34:=⟨Tryz.f194.name,by decide,Tryz.func194.trans (congrArg some (by kernel_rfl))⟩,
 f35:=⟨Tryz.f124.name,by decide,Tryz.func124.trans (congrArg some (by kernel_rfl))⟩,
 f40:=⟨Tryz.f208.name,by decide,Tryz.func208.trans (congrArg some (by kernel_rfl))⟩,
 t0:=Tryz.underlying0,
 a0:=Tryz.isAgg0,
 z0:=Tryz.sizeOf0,
 v0:=Tryz.zeroValue0,
 t3:=Tryz.underlying3,
 a3:=Tryz.isAgg3,
 z3:=Tryz.sizeOf3,
 v3:=Tryz.zeroValue3,
 t4:=Tryz.underlying4,
 a4:=Tryz.isAgg4,
 z4:=Tryz.sizeOf4,
 v4:=Tryz.zeroValue4,
 t5:=Tryz.underlying5,
 a5:=Tryz.isAgg5,
 z5:=Tryz.sizeOf5,
 v5:=Tryz.zeroValue5,
 t9:=Tryz.underlying9,
 a9:=Tryz.isAgg9,
 z9:=Tryz.sizeOf9,
 v9:=Tryz.zeroValue9,
 t22:=Tryz.underlying23,
 a22:=Tryz.isAgg23,
 z22:=Tryz.sizeOf23,
 v22:=Tryz.zeroValue23,
 t23:=Tryz.underlying23,
 a23:=Tryz.isAgg23,
 z23:=Tryz.sizeOf23,
 v23:=Tryz.zeroValue23,
 t25:=Tryz.underlying3,
 a25:=Tryz.isAgg3,
 z25:=Tryz.sizeOf3,
 v25:=Tryz.zeroValue3,
 t32:=Tryz.underlying156,
 a32:=Tryz.isAgg156,
 z32:=Tryz.sizeOf156,
 v32:=Tryz.zeroValue156,
 t35:=Tryz.underlying195,
 a35:=Tryz.isAgg195,
 z35:=Tryz.sizeOf195,
 v35:=Tryz.zeroValue195,
 t36:=Tryz.underlying196,
 a36:=Tryz.isAgg196,
 z36:=Tryz.sizeOf196,
 v36:=Tryz.zeroValue196,
 t41:=Tryz.underlying131,
 a41:=Tryz.isAgg131,
 z41:=Tryz.sizeOf131,
 v41:=Tryz.zeroValue131,
 t44:=Tryz.underlying138,
 a44:=Tryz.isAgg138,
 z44:=Tryz.sizeOf138,
 v44:=Tryz.zeroValue138,
 t46:=Tryz.underlying136,
 a46:=Tryz.isAgg136,
 z46:=Tryz.sizeOf136,
 v46:=Tryz.zeroValue136,
 t53:=Tryz.underlying219,
 a53:=Tryz.isAgg219,
 z53:=Tryz.sizeOf219,
 v53:=Tryz.zeroValue219,
 t57:=Tryz.underlying223,
 a57:=Tryz.isAgg223,
 z57:=Tryz.sizeOf223,
 v57:=Tryz.zeroValue223,
 t63:=Tryz.underlying232,
 a63:=Tryz.isAgg232,
 z63:=Tryz.sizeOf232,
 v63:=Tryz.zeroValue232,
 t64:=Tryz.underlying233,
 a64:=Tryz.isAgg233,
 z64:=Tryz.sizeOf233,
 v64:=Tryz.zeroValue233 }
end Go.Proofs
namespace Go.Am
set_option maxHeartbeats 4000000
set_option maxRecDepth 20000
open Go.RowKit Go.Proofs
attribute [local simp] thenKD_normal thenKD_exit thenKD_goto thenKD_ret inBlockKD_normal inBlockKD_exit inBlockKD_goto inBlockKD_ret noGotoKD_normal noGotoKD_exit noGotoKD_goto noGotoKD_ret roundKD_normal roundKD_exit roundKD_goto roundKD_ret frzSlotsD_nil frzSlotsD_cons frzSlotD_eq yieldVCD_trace opVCD_eq vcOpsD_nil vcOpsD_cons vcAllD_zero vcAllD_succ allAtD_nil allAtD_cons readyAux edgA vcD_skip vcD_label vcD_exit vcD_goto vcD_ret vcD_region vcD_seq vcD_seqC vcD_cond vcCondD_bool vcD_block vcD_scope vcD_loop vcD_rangeFunc yieldOf isMem isMem0 keepE envLe St.le psE yieldAV round_td round_y round_Γ vI vB vS aI aB aS look getE oper opRV putE allOk okOps Op.operands Call.operands pEv qEv mEv constRV coe RV.av loadEv loadCs takeAt indexAddrEv fieldAddrEv binEv intEv arith unEv gcond pickEv argsEv callVal callEv capAV_mk lenArgs lenEv minEv extractEv convEv funcEv allBox bound sliceEv lookupEv TD.isBool allocEv boxEv storeEv spl plainTD appendEv appendArgs makeMapEv mapUpdateEv buildEv buildSliceEv fillSV zsvOf sizeTD Ty.parses parses_flats' coeA flats_length AV.good AV.cells AV.pure SV.pure av_int av_bool av_str av_slice av_cons av_fld0 av_fld1 av_fld2 av_fld3 av_fld4 Ty.of Ty.dflt Ty.parse Ty.flat Ty.zsv Ty.fld Ty.get Ty.off Ty.nfld Ty.size coeTy junk Blk.look argEnv resEv resOk resVs oneRV retOk frzAs frzAV frzL frzSV boxCaps boxCap SV.sig sigs RV.scalar AV.scalar SV.scalar nope effVCD_eq effOf SV.ids AV.ids dedup SV.ren AV.ren RV.ren idx outId mergeB Blk.pureB flats_pure flat_pure epsSlotsD_nil epsSlotsD_cons epsSlotD_eq allEp D.parts_fnOf fvParts retEff round_E av_fn G.ye isCutD_nil isCutD_cons firstReg_region firstReg_seq firstReg_skip firstReg_ret firstReg_label firstReg_exit firstReg_goto firstReg_cond firstReg_block firstReg_scope firstReg_loop firstReg_rf eptrOf_mk flOfD_nil flOfD_cons vcFlD_cons vcFlD_nil flPairs_nil flPairs_cons vcFrD_nil vcFrD_cons makeSliceEv vcCondD_ib fzEv unfl_flats isFz round_fz panVCD_eq panOf isShift strIdxEv ifaceEv nilChkEv sliceAnyEv sliceOwnEv sliceSufEv appendEv0 appendEv1 Ty.beq Ty.isAgg round_Pn vcDefD_seqR vcDefD_seqS vcDefD_seqC vcDefD_seqB vcDefD_seqL vcDefD_seqF vcDefD_seqSc vcDefD_region vcDefD_ret vcDefD_cond vcDefD_block vcDefD_loop thenKD_panic inBlockKD_panic noGotoKD_panic exitOk_normal exitOk_ret exitOk_panic exitOk_exit runDefs_none runDefs_some runDefs_cons defRegD defReg2D isDefer defOf caughtCon unfl_cons D.bpart_bndOf D.parts_bndOf AV.sig zapEv capArgs capEv
attribute [local simp ←] flats_append
def fitF (n:Int) (x:tTst.T) (a:tRat.T):Bool:=fitB n x.2.1.1.1 x.2.1.1.2.1 x.2.1.2.1.2.1 a.1.1 a.1.2.1 a.2.1.2.1
def leadF (a:tRat.T):Nat→List tTst.T→List tTst.T
 | _,[]=>[]
 | n,x::r=>if fitF n x a=true then x::leadF a (n - 1) r else []
theorem lead_split {a:tRat.T}:∀ (i n:Nat) (s:List tTst.T),i≤s.length→(∀ j (h:j<s.length),j<i→fitF ((n - j:Nat):Int) s[j] a=true)→leadF a n s=s.take i++leadF a (n - i) (s.drop i)
 | 0,n,s,_,_=>by simp
 | i+1,n,[],h,_=>by simp at h
 | i+1,n,x::s,h,hf=>by
  have h0:fitF (n:Int) x a=true:=by have:=hf 0 (by simp) (by omega); simpa using this
  rw [leadF,if_pos h0,List.take_succ_cons,List.drop_succ_cons,List.cons_append,lead_split i (n - 1) s (by simpa using h) (fun j hj hji=>by
   have:=hf (j+1) (by simpa using hj) (by omega)
   rw [show n - (j+1)=n - 1 - j by omega] at this
   simpa using this)]
  congr 3
  omega
theorem lead_get {a:tRat.T} {i n:Nat} {s:List tTst.T} (hi:i<s.length) (h:∀ j (h:j<s.length),j<i→fitF ((n - j:Nat):Int) s[j] a=true) (hf:fitF ((n - i:Nat):Int) s[i] a=true):(leadF a n s)[i]?=some s[i]:=by
 rw [lead_split i n s (by omega) h,List.getElem?_append_right (by rw [List.length_take]; omega),List.length_take,Nat.min_eq_left (by omega),Nat.sub_self,List.drop_eq_getElem_cons hi,leadF,if_pos hf]
 rfl
theorem lead_end {a:tRat.T} {i n:Nat} {s:List tTst.T} (hi:i<s.length) (h:∀ j (h:j<s.length),j<i→fitF ((n - j:Nat):Int) s[j] a=true) (hf:fitF ((n - i:Nat):Int) s[i] a=false):(leadF a n s).length=i:=by
 rw [lead_split i n s (by omega) h,List.drop_eq_getElem_cons hi,leadF,if_neg (by rw [hf]; decide),List.append_nil,List.length_take]
 omega
theorem lead_all {a:tRat.T} {n:Nat} {s:List tTst.T} (h:∀ j (h:j<s.length),j<s.length→fitF ((n - j:Nat):Int) s[j] a=true):(leadF a n s).length=s.length:=by
 rw [lead_split s.length n s (by omega) h]
 simp [leadF]
def findL (l:List tTst.T) (a:tRat.T):List Int:=nosL (leadF a l.length (sortT l))
def aokR (a:tRat.T):Prop:=okS a.1.1 a.1.2.1 a.2.1.1 a.2.1.2.1
abbrev tRf:Ty:=.cons .bool (.cons (.slice (.int .i64)) (.cons .bool (.cons (.slice (.int .i64)) .nil)))
def ratOf (a:tRf.T):tRat.T:=((a.1,a.2.1,()),(a.2.2.1,a.2.2.2.1,()),())
def itFind:ItCon:=⟨fun caps=>(match caps with
 | [.s (.eptr (.slice (.cons (.int .i64) (.cons (.cons (.cons .bool (.cons (.slice (.int .i64)) .nil)) (.cons (.cons .bool (.cons (.slice (.int .i64)) .nil)) .nil)) .nil))) l),.s (.eptr (.cons .bool (.cons (.slice (.int .i64)) (.cons .bool (.cons (.slice (.int .i64)) .nil)))) a)]=>l.length≤12∧(∀ x∈l,okT x)∧(nosL l).Nodup∧aokR (ratOf a)
 | _=>False),fun caps=>match caps with
 | [.s (.eptr (.slice (.cons (.int .i64) (.cons (.cons (.cons .bool (.cons (.slice (.int .i64)) .nil)) (.cons (.cons .bool (.cons (.slice (.int .i64)) .nil)) .nil)) .nil))) l),.s (.eptr (.cons .bool (.cons (.slice (.int .i64)) (.cons .bool (.cons (.slice (.int .i64)) .nil)))) a)]=>(findL l (ratOf a)).map fun x=>[aI x]
 | _=>[]⟩
theorem itFind_xs (l:List tTst.T) (a:tRf.T):itFind.xs [.s (.eptr (.slice tTst) l),.s (.eptr tRf a)]=(findL l (ratOf a)).map fun x=>[aI x]:=rfl
def fa20Γ:List (FuncId×Con):=(35,conSrtd)::fa19Γ
theorem fa20Γ_ok:∀ p∈fa20Γ,(∀ (args:Array Value) (w:World),(callFunc p.1 args).run Tryz.prog w=.ok (.enter p.1 args) w)∧PureOk Tryz.prog p.1 p.2:=by
 simp only [fa20Γ,List.forall_mem_cons]
 exact ⟨⟨enters_of Tryz.func35 (by kernel_rfl) rfl,srtd_ok⟩,fa19Γ_ok⟩
def fa20E:List (FuncId×ECon):=fa19E
theorem fa20E_ok:∀ p∈fa20E,(∀ (args:Array Value) (w:World),(callFunc p.1 args).run Tryz.prog w=.ok (.enter p.1 args) w)∧EffOk Tryz.prog p.1 p.2:=by
 simp only [fa20E]
 exact fa19E_ok
def fa20P:List (FuncId×PCon):=fa19P
theorem fa20P_ok:∀ p∈fa20P,(∀ (args:Array Value) (w:World),(callFunc p.1 args).run Tryz.prog w=.ok (.enter p.1 args) w)∧PanOk Tryz.prog p.1 p.2:=by
 simp only [fa20P]
 exact fa19P_ok
def fa20:G:={ τ:=faT,Γ:=fa20Γ,E:=fa20E,Pn:=fa20P }
theorem fa20_good:fa20.good Tryz.prog:=good_of_all (faT_ok _ rfl) fa20Γ_ok fa20E_ok fa20P_ok
theorem fa20_all:(∀ t,fa20.td t=(look faT t).getD .other)∧fa20.y=false∧fa20.Γ=fa20Γ∧fa20.E=fa20E∧fa20.Pn=fa20P∧fa20.fz=[]:=⟨fun _=>rfl,rfl,rfl,rfl,rfl,rfl⟩
def fa20y:G:={ τ:=faT,Γ:=fa20Γ,E:=fa20E,Pn:=fa20P,y:=true }
theorem fa20y_good:fa20y.good Tryz.prog:=good_of_all (faT_ok _ rfl) fa20Γ_ok fa20E_ok fa20P_ok
theorem fa20y_all:(∀ t,fa20y.td t=(look faT t).getD .other)∧fa20y.y=true∧fa20y.Γ=fa20Γ∧fa20y.E=fa20E∧fa20y.Pn=fa20P∧fa20y.fz=[]:=⟨fun _=>rfl,rfl,rfl,rfl,rfl,rfl⟩
theorem fa20y_q:fa20y.quiet=fa20:=rfl
theorem find1_ok:ItOk Tryz.prog 71 itFind:=by
 refine itOkD (L:={ live:=[0,1,2,4,5,7,8,9,10,29] }) fa20y_good rfl nr_mixed Tryz.func71 (enters_of Tryz.func71 (by kernel_rfl) rfl) rfl rfl itFind 2 (by decide) (by kernel_rfl) ?_
 intro caps l hpre hlens
 simp only [itFind] at hpre
 split at hpre
 case h_2=>exact hpre.elim
 rename_i xs a
 obtain ⟨h1,h2,h3,h4⟩:=hpre
 refine ⟨rfl,fun X hX => ?_⟩
 rw [itFind_xs]
 obtain ⟨an,am,bn,bm,⟨⟩⟩:=a
 have hra:ratOf (an,am,bn,bm,())=((an,am,()),(bn,bm,()),()):=rfl
 rw [hra] at h4 ⊢
 obtain ⟨s,hs⟩:∃ s,s=sortT xs:=⟨_,rfl⟩
 obtain ⟨hsp,_⟩:=sortT_spec h2
 rw [← hs] at hsp
 have hsl:s.length=List.length xs:=hsp.length_eq
 have hfd:findL xs ((an,am,()),(bn,bm,()),())=nosL (leadF ((an,am,()),(bn,bm,()),()) s.length s):=by unfold findL; rw [← hs,hsl]
 simp -dsimp -implicitDefEqProofs [Tryz.f71,-Prod.forall,-Bool.forall_bool,-Prod.exists,-Bool.exists_bool,fa20y_q,fa20_all,fa20y_all,faT,fa20Γ,fa20E,fa20P,fa19Γ,fa19E,fa19P,fa18Γ,fa18E,fa18P,fa17Γ,fa17E,fa17P,fa16Γ,fa16E,fa16P,fa15Γ,fa15E,fa15P,fa14Γ,fa14E,fa14P,fa13Γ,fa13E,fa13P,fa12Γ,fa12E,fa12P,fa11Γ,fa11E,fa11P,fa10Γ,fa10E,fa10P,fa9Γ,fa9E,fa9P,fa8Γ,fa8E,fa8P,fa7Γ,fa7E,fa7P,fa3Γ,fa3E,fa3P,fa2Γ,fa2E,fa2P,fa1Γ,fa1E,fa1P,nr20Γ,nr20E,nr20P,nr19Γ,nr19E,nr19P,nr18Γ,nr18E,nr18P,nr17Γ,nr17E,nr17P,nr16Γ,nr16E,nr16P,nr15Γ,nr15E,nr15P,nr14Γ,nr14E,nr14P,nr13Γ,nr13E,nr13P,nr9Γ,nr9E,nr9P,nr8Γ,nr8E,nr8P,nr7Γ,nr7E,nr7P,nr6Γ,nr6E,nr6P,nr5Γ,nr5E,nr5P,nr4Γ,nr4E,nr4P,nr3Γ,nr3E,nr3P,nr0Γ,nr0E,nr0P,conSrtd_eq,conValT_pre,conValT_val,conSofT,conSrtT,conColT,conPdqT,conInsT,conOrI_eq,conCmpI_eq,conLen_eq,conLen64_eq,conChkF_eq,conNumE_eq,conRisI_eq,conRisT_eq,conLvl_eq,conKeyI_eq,conKeyT_eq,conShrtF_eq,conMost_eq,conTimesR_eq,conFits_eq,conWhole_eq,conOrdR_eq,conMkR_eq,conMulR_eq,conCmpR_eq,conRatC_eq,conRInt_eq,conOf_eq,conLow_eq,conDivX_eq,conMakeN_eq,conProd_eq,conDidB_eq,conDidI_eq,conValid_eq,panValid_when,panValid_what,conNeed_eq,panNeed_when,panNeed_what,conGcdN_eq,conMulN_eq,conCmpN2_eq,conPosi_eq,conChk_eq,conBigN_eq,conDiv_eq,conTimes_eq,conNCheck_eq,conLong_eq,conLead64_eq,conShort_eq,conMovE,conTrim_eq,conAt_eq,conNCmp_eq,conBack_eq,conOf9_eq,conDivide_eq,conLess9_eq,conTwo_eq,conRCheck_eq,conRCmpD_eq,inI64]
 refine ⟨⟨h1,h2,h3⟩,?_⟩
 refine WpD.loop (L:={ live:=[0,1,2,4,5,7,8,9,10,29] }) fa20y_good hX nr_mixed (by kernel_rfl)
  (fun i:Nat=>⟨[(0,⟨true,.v (.s (.val (.func (.yield l) #[] #[])))⟩),(1,⟨true,.v (.s (.eptr (.slice tTst) xs))⟩),(2,⟨true,.v (.s (.eptr tRf (an,am,bn,bm,())))⟩),(7,vS tTst s false),(8,vI s.length),(9,vI i)],[.trace l ((findL xs ((an,am,()),(bn,bm,()),())).map fun x=>[aI x]) i false]⟩)
  (fun i=>i≤s.length∧∀ j (h:j<s.length),j<i→fitF ((s.length - j:Nat):Int) s[j] ((an,am,()),(bn,bm,()),())=true) (fun i=>s.length - i) 0 ⟨Nat.zero_le _,fun j _ h=>absurd h (by omega)⟩ (Turn.le (by simp -dsimp -implicitDefEqProofs [hs])) ?_
 rintro i ⟨hi,hj⟩
 rcases Nat.lt_or_ge i s.length with hil | hge
 ·
  have e1:(List.length xs:Int) - (i:Int)=((s.length - i:Nat):Int):=by omega
  have hfit:fitB ((List.length xs:Int) - (i:Int)) s[i].2.1.1.1 s[i].2.1.1.2.1 s[i].2.1.2.1.2.1 an am bm=fitF ((s.length - i:Nat):Int) s[i] ((an,am,()),(bn,bm,()),()):=by unfold fitF; rw [e1]
  have hok:=h2 _ (hsp.mem_iff.1 (List.getElem_mem hil))
  simp -dsimp -implicitDefEqProofs [hil,-Prod.forall,-Bool.forall_bool,-Prod.exists,-Bool.exists_bool,fa20y_q,fa20_all,fa20y_all,faT,fa20Γ,fa20E,fa20P,fa19Γ,fa19E,fa19P,fa18Γ,fa18E,fa18P,fa17Γ,fa17E,fa17P,fa16Γ,fa16E,fa16P,fa15Γ,fa15E,fa15P,fa14Γ,fa14E,fa14P,fa13Γ,fa13E,fa13P,fa12Γ,fa12E,fa12P,fa11Γ,fa11E,fa11P,fa10Γ,fa10E,fa10P,fa9Γ,fa9E,fa9P,fa8Γ,fa8E,fa8P,fa7Γ,fa7E,fa7P,fa3Γ,fa3E,fa3P,fa2Γ,fa2E,fa2P,fa1Γ,fa1E,fa1P,nr20Γ,nr20E,nr20P,nr19Γ,nr19E,nr19P,nr18Γ,nr18E,nr18P,nr17Γ,nr17E,nr17P,nr16Γ,nr16E,nr16P,nr15Γ,nr15E,nr15P,nr14Γ,nr14E,nr14P,nr13Γ,nr13E,nr13P,nr9Γ,nr9E,nr9P,nr8Γ,nr8E,nr8P,nr7Γ,nr7E,nr7P,nr6Γ,nr6E,nr6P,nr5Γ,nr5E,nr5P,nr4Γ,nr4E,nr4P,nr3Γ,nr3E,nr3P,nr0Γ,nr0E,nr0P,conSrtd_eq,conValT_pre,conValT_val,conSofT,conSrtT,conColT,conPdqT,conInsT,conOrI_eq,conCmpI_eq,conLen_eq,conLen64_eq,conChkF_eq,conNumE_eq,conRisI_eq,conRisT_eq,conLvl_eq,conKeyI_eq,conKeyT_eq,conShrtF_eq,conMost_eq,conTimesR_eq,conFits_eq,conWhole_eq,conOrdR_eq,conMkR_eq,conMulR_eq,conCmpR_eq,conRatC_eq,conRInt_eq,conOf_eq,conLow_eq,conDivX_eq,conMakeN_eq,conProd_eq,conDidB_eq,conDidI_eq,conValid_eq,panValid_when,panValid_what,conNeed_eq,panNeed_when,panNeed_what,conGcdN_eq,conMulN_eq,conCmpN2_eq,conPosi_eq,conChk_eq,conBigN_eq,conDiv_eq,conTimes_eq,conNCheck_eq,conLong_eq,conLead64_eq,conShort_eq,conMovE,conTrim_eq,conAt_eq,conNCmp_eq,conBack_eq,conOf9_eq,conDivide_eq,conLess9_eq,conTwo_eq,conRCheck_eq,conRCmpD_eq,inI64]
  refine ⟨⟨by omega,by omega⟩,⟨⟨by omega,by omega⟩,hok,h4⟩,fun hf=>⟨hf,?_,fun b=>⟨fun hb=>⟨i+1,!b,⟨rfl,by simp⟩,fun h => ?_⟩,fun _ hb=>⟨⟨by omega,by omega⟩,i+1,⟨by omega,fun j q1 q2 => ?_⟩,by omega,?_⟩⟩⟩,fun hf=>⟨hf,i,false,⟨rfl,rfl⟩,fun _ => ?_⟩⟩
  ·
   rw [hfit] at hf
   rw [hfd,nosL,List.getElem?_map,lead_get hil hj hf]; rfl
  ·
   rcases hb with hb | hb
   ·
    rw [hf] at hb; cases hb
   ·
    rw [hb] at h; cases h
  ·
   rcases Nat.lt_succ_iff_lt_or_eq.1 q2 with h' | rfl
   ·
    exact hj j q1 h'
   ·
    rw [← hfit]; exact hf
  ·
   subst hb
   exact TurnT.trunc hX (hp:=[_]) (junk:=[_]) (by simp) (by simp only [List.length_cons,List.length_nil,List.all_cons,List.all_nil,arr_below,Bool.and_true] <;> simp [Blk.below,SV.below]) (by simp -dsimp -implicitDefEqProofs) (by simp [envBelow,RV.below,AV.below,SV.below])
  ·
   rw [hfit] at hf
   rw [hfd,nosL_len,lead_end hil hj hf]
 ·
  have hn:¬ i<s.length:=by omega
  obtain rfl:i=s.length:=by omega
  simp -dsimp -implicitDefEqProofs [hn,-Prod.forall,-Bool.forall_bool,-Prod.exists,-Bool.exists_bool,fa20y_q,fa20_all,fa20y_all,faT,fa20Γ,fa20E,fa20P,fa19Γ,fa19E,fa19P,fa18Γ,fa18E,fa18P,fa17Γ,fa17E,fa17P,fa16Γ,fa16E,fa16P,fa15Γ,fa15E,fa15P,fa14Γ,fa14E,fa14P,fa13Γ,fa13E,fa13P,fa12Γ,fa12E,fa12P,fa11Γ,fa11E,fa11P,fa10Γ,fa10E,fa10P,fa9Γ,fa9E,fa9P,fa8Γ,fa8E,fa8P,fa7Γ,fa7E,fa7P,fa3Γ,fa3E,fa3P,fa2Γ,fa2E,fa2P,fa1Γ,fa1E,fa1P,nr20Γ,nr20E,nr20P,nr19Γ,nr19E,nr19P,nr18Γ,nr18E,nr18P,nr17Γ,nr17E,nr17P,nr16Γ,nr16E,nr16P,nr15Γ,nr15E,nr15P,nr14Γ,nr14E,nr14P,nr13Γ,nr13E,nr13P,nr9Γ,nr9E,nr9P,nr8Γ,nr8E,nr8P,nr7Γ,nr7E,nr7P,nr6Γ,nr6E,nr6P,nr5Γ,nr5E,nr5P,nr4Γ,nr4E,nr4P,nr3Γ,nr3E,nr3P,nr0Γ,nr0E,nr0P,conSrtd_eq,conValT_pre,conValT_val,conSofT,conSrtT,conColT,conPdqT,conInsT,conOrI_eq,conCmpI_eq,conLen_eq,conLen64_eq,conChkF_eq,conNumE_eq,conRisI_eq,conRisT_eq,conLvl_eq,conKeyI_eq,conKeyT_eq,conShrtF_eq,conMost_eq,conTimesR_eq,conFits_eq,conWhole_eq,conOrdR_eq,conMkR_eq,conMulR_eq,conCmpR_eq,conRatC_eq,conRInt_eq,conOf_eq,conLow_eq,conDivX_eq,conMakeN_eq,conProd_eq,conDidB_eq,conDidI_eq,conValid_eq,panValid_when,panValid_what,conNeed_eq,panNeed_when,panNeed_what,conGcdN_eq,conMulN_eq,conCmpN2_eq,conPosi_eq,conChk_eq,conBigN_eq,conDiv_eq,conTimes_eq,conNCheck_eq,conLong_eq,conLead64_eq,conShort_eq,conMovE,conTrim_eq,conAt_eq,conNCmp_eq,conBack_eq,conOf9_eq,conDivide_eq,conLess9_eq,conTwo_eq,conRCheck_eq,conRCmpD_eq,inI64]
  exact ⟨s.length,false,⟨rfl,rfl⟩,fun _=>by rw [hfd,nosL_len,lead_all hj]⟩
def itsF:List (FuncId×ItCon):=[(71,itFind)]
theorem itsF_known:KnownIt Tryz.prog itsF:=.cons find1_ok .nil
def conFindI:Con:=⟨fun args=>(match args with
 | [.s (.sl (.cons (.int .i64) (.cons (.cons (.cons .bool (.cons (.slice (.int .i64)) .nil)) (.cons (.cons .bool (.cons (.slice (.int .i64)) .nil)) .nil)) .nil)) l _),.agg [.bool k1,.sl (.int .i64) l1 _,.bool k2,.sl (.int .i64) l2 _]]=>True
 | _=>False),fun args=>match args with
 | [.s (.sl (.cons (.int .i64) (.cons (.cons (.cons .bool (.cons (.slice (.int .i64)) .nil)) (.cons (.cons .bool (.cons (.slice (.int .i64)) .nil)) .nil)) .nil)) l _),.agg [.bool k1,.sl (.int .i64) l1 _,.bool k2,.sl (.int .i64) l2 _]]=>.v (.s (.fnp 71 [⟨.slice tTst,l⟩,⟨.cons .bool (.cons (.slice tI) tBig),(k1,l1,k2,l2,())⟩]))
 | _=>.v (.s .any)⟩
theorem conFindI_eq (l:List (Ty.T tTst)) (exl:Bool) (k1:Bool) (l1:List (Ty.T tI)) (exl1:Bool) (k2:Bool) (l2:List (Ty.T tI)) (exl2:Bool):conFindI.pre [.s (.sl tTst l exl),.agg [.bool k1,.sl tI l1 exl1,.bool k2,.sl tI l2 exl2]]=(True)∧conFindI.val [.s (.sl tTst l exl),.agg [.bool k1,.sl tI l1 exl1,.bool k2,.sl tI l2 exl2]]=.v (.s (.fnp 71 [⟨.slice tTst,l⟩,⟨.cons .bool (.cons (.slice tI) tBig),(k1,l1,k2,l2,())⟩])):=⟨rfl,rfl⟩
theorem findi_ok:PureOk Tryz.prog 28 conFindI:=by
 refine pureOkD (L:={ live:=[0,1,2,3,4],eps:=[(1,[2,3])] }) fa20_good rfl nr_mixed Tryz.func28 rfl conFindI 2 (by decide) (by kernel_rfl) ?_
 intro args hpre hlens
 simp only [conFindI] at hpre
 split at hpre
 case h_2=>exact hpre.elim
 rename_i l el k1 l1 f1 k2 l2 f2
 simp only [allLen,AV.lenOk,SV.lenOk,Ty.lenOk,maxLen,and_true,implies_true,true_and,List.forall_mem_cons,List.not_mem_nil,false_implies] at hlens
 refine ⟨rfl,?_⟩
 simp -dsimp -implicitDefEqProofs [Tryz.f28,conFindI_eq,fa20_all,faT,fa20Γ,fa20E,fa20P,fa19Γ,fa19E,fa19P,fa18Γ,fa18E,fa18P,fa17Γ,fa17E,fa17P,fa16Γ,fa16E,fa16P,fa15Γ,fa15E,fa15P,fa14Γ,fa14E,fa14P,fa13Γ,fa13E,fa13P,fa12Γ,fa12E,fa12P,fa11Γ,fa11E,fa11P,fa10Γ,fa10E,fa10P,fa9Γ,fa9E,fa9P,fa8Γ,fa8E,fa8P,fa7Γ,fa7E,fa7P,fa3Γ,fa3E,fa3P,fa2Γ,fa2E,fa2P,fa1Γ,fa1E,fa1P,nr20Γ,nr20E,nr20P,nr19Γ,nr19E,nr19P,nr18Γ,nr18E,nr18P,nr17Γ,nr17E,nr17P,nr16Γ,nr16E,nr16P,nr15Γ,nr15E,nr15P,nr14Γ,nr14E,nr14P,nr13Γ,nr13E,nr13P,nr9Γ,nr9E,nr9P,nr8Γ,nr8E,nr8P,nr7Γ,nr7E,nr7P,nr6Γ,nr6E,nr6P,nr5Γ,nr5E,nr5P,nr4Γ,nr4E,nr4P,nr3Γ,nr3E,nr3P,nr0Γ,nr0E,nr0P,conSrtd_eq,conValT_pre,conValT_val,conSofT,conSrtT,conColT,conPdqT,conInsT,conOrI_eq,conCmpI_eq,conLen_eq,conLen64_eq,conChkF_eq,conNumE_eq,conRisI_eq,conRisT_eq,conLvl_eq,conKeyI_eq,conKeyT_eq,conShrtF_eq,conMost_eq,conTimesR_eq,conFits_eq,conWhole_eq,conOrdR_eq,conMkR_eq,conMulR_eq,conCmpR_eq,conRatC_eq,conRInt_eq,conOf_eq,conLow_eq,conDivX_eq,conMakeN_eq,conProd_eq,conDidB_eq,conDidI_eq,conValid_eq,panValid_when,panValid_what,conNeed_eq,panNeed_when,panNeed_what,conGcdN_eq,conMulN_eq,conCmpN2_eq,conPosi_eq,conChk_eq,conBigN_eq,conDiv_eq,conTimes_eq,conNCheck_eq,conLong_eq,conLead64_eq,conShort_eq,conMovE,conTrim_eq,conAt_eq,conNCmp_eq,conBack_eq,conOf9_eq,conDivide_eq,conLess9_eq,conTwo_eq,conRCheck_eq,conRCmpD_eq,inI64]
def conColFQ (It:List (FuncId×ItCon)):ECon:={ wp:=fun args hp K=>match args,hp with
 | [.s (.sl (.int .i64) [] true),.s (.fnp f caps)],[]=>∃ xs:List (Ty.T tI),seqOf It f caps tI xs∧xs.length≤1000000000∧K (.v (.s (.own tI 0 xs.length))) [.arr (decide (0<xs.length)) (Ty.flats tI xs)]
 | _,_=>False }
def conColF (It:List (FuncId×ItCon)):ECon:={ wp:=fun args hp K=>match args,hp with
 | [.s (.fnp f caps)],[]=>∃ xs:List (Ty.T tI),seqOf It f caps tI xs∧xs.length≤1000000000∧K (.v (.s (.own tI 0 xs.length))) [.arr (decide (0<xs.length)) (Ty.flats tI xs)]
 | _,_=>False }
theorem conColFQ_known (It:List (FuncId×ItCon)) (hIt:KnownIt Tryz.prog It):EffOk Tryz.prog 113 (conColFQ It):=by
 refine effOkD (L:={ live:=[0,1,2,4,5,6,7] }) fa13_good rfl nr_mixed Tryz.func113 rfl _ 2 (by decide) (by kernel_rfl) ?_
 intro args hp K hpre hlens
 simp only [conColFQ] at hpre
 split at hpre
 ·
  rename_i f caps
  obtain ⟨xs,⟨ic,hic,hip,hix⟩,hlen,hK⟩:=hpre
  refine ⟨rfl,?_⟩
  simp -dsimp -implicitDefEqProofs [Tryz.f113,fa13_all,faT,fa13Γ,fa13E,fa13P,fa12Γ,fa12E,fa12P,fa11Γ,fa11E,fa11P,fa10Γ,fa10E,fa10P,fa9Γ,fa9E,fa9P,fa8Γ,fa8E,fa8P,fa7Γ,fa7E,fa7P,fa3Γ,fa3E,fa3P,fa2Γ,fa2E,fa2P,fa1Γ,fa1E,fa1P,nr20Γ,nr20E,nr20P,nr19Γ,nr19E,nr19P,nr18Γ,nr18E,nr18P,nr17Γ,nr17E,nr17P,nr16Γ,nr16E,nr16P,nr15Γ,nr15E,nr15P,nr14Γ,nr14E,nr14P,nr13Γ,nr13E,nr13P,nr9Γ,nr9E,nr9P,nr8Γ,nr8E,nr8P,nr7Γ,nr7E,nr7P,nr6Γ,nr6E,nr6P,nr5Γ,nr5E,nr5P,nr4Γ,nr4E,nr4P,nr3Γ,nr3E,nr3P,nr0Γ,nr0E,nr0P,inI64]
  refine Wp.turn (Turn.virtBox (b:=0) (off:=0) (bc:=[.sl tI [] true]) (t:=tI) (xs:=[]) (by simp -dsimp -implicitDefEqProofs) (by simp)) ?_
  refine WpD.rangeFunc (L:={ live:=[0,1,2,4,5,6,7] }) (d:=⟨⟩) fa13_good nr_mixed rfl rfl f caps (by simp -dsimp -implicitDefEqProofs) ic (hIt f ic hic) hip (by decide) (by kernel_rfl) (by kernel_rfl) (by intro a b c d; simp -dsimp -implicitDefEqProofs)
   (fun t hp=>hp=[.cells [.own tI 1 t],.arr (decide (0<t)) (Ty.flats tI (xs.take t))]) (by simp) ?_ ?_
  ·
   intro t args hp hx hR
   subst hR
   rw [hix] at hx
   obtain ⟨hlt,rfl⟩:=take_map_av xs t hx
   have hmin:min t xs.length=t:=by omega
   have htk:=take_succ_get xs hlt (Ty.dflt tI)
   rw [getD_lt hlt] at htk
   simp -dsimp -implicitDefEqProofs [hmin,fa13_all,faT,fa13Γ,fa13E,fa13P,fa12Γ,fa12E,fa12P,fa11Γ,fa11E,fa11P,fa10Γ,fa10E,fa10P,fa9Γ,fa9E,fa9P,fa8Γ,fa8E,fa8P,fa7Γ,fa7E,fa7P,fa3Γ,fa3E,fa3P,fa2Γ,fa2E,fa2P,fa1Γ,fa1E,fa1P,nr20Γ,nr20E,nr20P,nr19Γ,nr19E,nr19P,nr18Γ,nr18E,nr18P,nr17Γ,nr17E,nr17P,nr16Γ,nr16E,nr16P,nr15Γ,nr15E,nr15P,nr14Γ,nr14E,nr14P,nr13Γ,nr13E,nr13P,nr9Γ,nr9E,nr9P,nr8Γ,nr8E,nr8P,nr7Γ,nr7E,nr7P,nr6Γ,nr6E,nr6P,nr5Γ,nr5E,nr5P,nr4Γ,nr4E,nr4P,nr3Γ,nr3E,nr3P,nr0Γ,nr0E,nr0P,inI64]
   have hmin':min (t+1) xs.length=t+1:=by omega
   refine ⟨⟨by omega,by simp only [maxLen]; omega⟩,?_⟩
   first
    | exact ⟨hmin',TrT.refl _ _⟩
    | exact TrT.refl _ _
    | (rw [htk]; exact TrT.drop (hp:=[_,_]) (junk:=[_]) (by simp) (by simp only [List.length_cons,List.length_nil,List.all_cons,List.all_nil,arr_below,Bool.and_true]; simp [Blk.below,SV.below]))
  ·
   intro hp hR
   subst hR
   rw [hix,List.length_map]
   simp -dsimp -implicitDefEqProofs [fa13_all,faT,fa13Γ,fa13E,fa13P,fa12Γ,fa12E,fa12P,fa11Γ,fa11E,fa11P,fa10Γ,fa10E,fa10P,fa9Γ,fa9E,fa9P,fa8Γ,fa8E,fa8P,fa7Γ,fa7E,fa7P,fa3Γ,fa3E,fa3P,fa2Γ,fa2E,fa2P,fa1Γ,fa1E,fa1P,nr20Γ,nr20E,nr20P,nr19Γ,nr19E,nr19P,nr18Γ,nr18E,nr18P,nr17Γ,nr17E,nr17P,nr16Γ,nr16E,nr16P,nr15Γ,nr15E,nr15P,nr14Γ,nr14E,nr14P,nr13Γ,nr13E,nr13P,nr9Γ,nr9E,nr9P,nr8Γ,nr8E,nr8P,nr7Γ,nr7E,nr7P,nr6Γ,nr6E,nr6P,nr5Γ,nr5E,nr5P,nr4Γ,nr4E,nr4P,nr3Γ,nr3E,nr3P,nr0Γ,nr0E,nr0P,inI64]
   exact hK
 ·
  exact hpre.elim
theorem conColF_known (It:List (FuncId×ItCon)) (hIt:KnownIt Tryz.prog It):EffOk Tryz.prog 69 (conColF It):=by
 have hg:G.good Tryz.prog { τ:=faT,Γ:=[],E:=[(113,conColFQ It)] }:=good_of_all (faT_ok _ rfl) (fun p hp=>by cases hp) (fun p hp=>by simp only [List.mem_singleton] at hp; subst hp; exact ⟨enters_of Tryz.func113 (by kernel_rfl) rfl,conColFQ_known It hIt⟩) (fun p hp=>by cases hp)
 refine effOkD (L:={ live:=[0,2] }) hg rfl nr_mixed Tryz.func69 rfl _ 1 (by decide) (by kernel_rfl) ?_
 intro args hp K hpre hlens
 simp only [conColF] at hpre
 split at hpre
 ·
  rename_i f caps
  refine ⟨rfl,?_⟩
  simp -dsimp -implicitDefEqProofs [Tryz.f69,conColFQ,faT,G.td,inI64]
  exact hpre
 ·
  exact hpre.elim
def fa21Γ:List (FuncId×Con):=(28,conFindI)::fa20Γ
theorem fa21Γ_ok:∀ p∈fa21Γ,(∀ (args:Array Value) (w:World),(callFunc p.1 args).run Tryz.prog w=.ok (.enter p.1 args) w)∧PureOk Tryz.prog p.1 p.2:=by
 simp only [fa21Γ,List.forall_mem_cons]
 exact ⟨⟨enters_of Tryz.func28 (by kernel_rfl) rfl,findi_ok⟩,fa20Γ_ok⟩
def fa21E:List (FuncId×ECon):=(69,(conColF itsF))::(70,conSort)::fa20E
theorem fa21E_ok:∀ p∈fa21E,(∀ (args:Array Value) (w:World),(callFunc p.1 args).run Tryz.prog w=.ok (.enter p.1 args) w)∧EffOk Tryz.prog p.1 p.2:=by
 simp only [fa21E,List.forall_mem_cons]
 exact ⟨⟨enters_of Tryz.func69 (by kernel_rfl) rfl,(conColF_known itsF itsF_known)⟩,⟨enters_of Tryz.func70 (by kernel_rfl) rfl,(sort_eff Tryz.laySort)⟩,fa20E_ok⟩
def fa21P:List (FuncId×PCon):=fa20P
theorem fa21P_ok:∀ p∈fa21P,(∀ (args:Array Value) (w:World),(callFunc p.1 args).run Tryz.prog w=.ok (.enter p.1 args) w)∧PanOk Tryz.prog p.1 p.2:=by
 simp only [fa21P]
 exact fa20P_ok
def fa21:G:={ τ:=faT,Γ:=fa21Γ,E:=fa21E,Pn:=fa21P }
theorem fa21_good:fa21.good Tryz.prog:=good_of_all (faT_ok _ rfl) fa21Γ_ok fa21E_ok fa21P_ok
theorem fa21_all:(∀ t,fa21.td t=(look faT t).getD .other)∧fa21.y=false∧fa21.Γ=fa21Γ∧fa21.E=fa21E∧fa21.Pn=fa21P∧fa21.fz=[]:=⟨fun _=>rfl,rfl,rfl,rfl,rfl,rfl⟩
def conSorted:ECon:={ wp:=fun args hp K=>match args,hp with
 | [.s (.fnp f caps)],[]=>∃ xs:List Int,seqOf itsF f caps tI xs∧xs.length≤1000000000∧K (.v (.s (.own tI 0 xs.length))) [.arr (decide (0<xs.length)) (tI.flats (isort xs))]
 | _,_=>False }
theorem sorted_ok:EffOk Tryz.prog 27 conSorted:=by
 refine effOkD (L:={ live:=[0,2,3] }) fa21_good rfl nr_mixed Tryz.func27 rfl conSorted 1 (by decide) (by kernel_rfl) ?_
 intro args hp K hpre hlens
 simp only [conSorted] at hpre
 split at hpre
 ·
  rename_i f caps
  obtain ⟨xs,hs,hlen,hK⟩:=hpre
  refine ⟨rfl,?_⟩
  simp -dsimp -implicitDefEqProofs [Tryz.f27,fa21_all,faT,fa21Γ,fa21E,fa21P,fa20Γ,fa20E,fa20P,fa19Γ,fa19E,fa19P,fa18Γ,fa18E,fa18P,fa17Γ,fa17E,fa17P,fa16Γ,fa16E,fa16P,fa15Γ,fa15E,fa15P,fa14Γ,fa14E,fa14P,fa13Γ,fa13E,fa13P,fa12Γ,fa12E,fa12P,fa11Γ,fa11E,fa11P,fa10Γ,fa10E,fa10P,fa9Γ,fa9E,fa9P,fa8Γ,fa8E,fa8P,fa7Γ,fa7E,fa7P,fa3Γ,fa3E,fa3P,fa2Γ,fa2E,fa2P,fa1Γ,fa1E,fa1P,nr20Γ,nr20E,nr20P,nr19Γ,nr19E,nr19P,nr18Γ,nr18E,nr18P,nr17Γ,nr17E,nr17P,nr16Γ,nr16E,nr16P,nr15Γ,nr15E,nr15P,nr14Γ,nr14E,nr14P,nr13Γ,nr13E,nr13P,nr9Γ,nr9E,nr9P,nr8Γ,nr8E,nr8P,nr7Γ,nr7E,nr7P,nr6Γ,nr6E,nr6P,nr5Γ,nr5E,nr5P,nr4Γ,nr4E,nr4P,nr3Γ,nr3E,nr3P,nr0Γ,nr0E,nr0P,conFindI_eq,conColF,conSort,conSrtd_eq,conValT_pre,conValT_val,conSofT,conSrtT,conColT,conPdqT,conInsT,conOrI_eq,conCmpI_eq,conLen_eq,conLen64_eq,conChkF_eq,conNumE_eq,conRisI_eq,conRisT_eq,conLvl_eq,conKeyI_eq,conKeyT_eq,conShrtF_eq,conMost_eq,conTimesR_eq,conFits_eq,conWhole_eq,conOrdR_eq,conMkR_eq,conMulR_eq,conCmpR_eq,conRatC_eq,conRInt_eq,conOf_eq,conLow_eq,conDivX_eq,conMakeN_eq,conProd_eq,conDidB_eq,conDidI_eq,conValid_eq,panValid_when,panValid_what,conNeed_eq,panNeed_when,panNeed_what,conGcdN_eq,conMulN_eq,conCmpN2_eq,conPosi_eq,conChk_eq,conBigN_eq,conDiv_eq,conTimes_eq,conNCheck_eq,conLong_eq,conLead64_eq,conShort_eq,conMovE,conTrim_eq,conAt_eq,conNCmp_eq,conBack_eq,conOf9_eq,conDivide_eq,conLess9_eq,conTwo_eq,conRCheck_eq,conRCmpD_eq,inI64]
  refine ⟨xs,hs,hlen,xs,rfl,rfl,by omega,?_,?_⟩
  ·
   cases xs <;> simp
  ·
   exact hK
 ·
  exact hpre.elim
theorem tstOk_okT {x:tTst.T} (h:tstOk x):okT x:=h.1
theorem nos_pair {l:List tTst.T} (h:okNos (nosL l)):(nosL l).Pairwise (· < ·):=by
 have:∀ q,q<(nosL l).length→∀ p,p<q→(nosL l)[p]?.getD 0<(nosL l)[q]?.getD 0:=by
  intro q
  induction q with
  | zero=>intro _ p hp; omega
  | succ q ih =>
   intro hq p hp
   have h1:=(h (q+1) hq).2 (by omega)
   rw [Nat.add_sub_cancel] at h1
   rcases Nat.lt_succ_iff_lt_or_eq.1 hp with h' | rfl
   ·
    exact Int.lt_trans (ih (by omega) p h') h1
   ·
    exact h1
 rw [List.pairwise_iff_getElem]
 intro p q hp hq hpq
 have:=this q hq p hpq
 rw [List.getElem?_eq_getElem hp,List.getElem?_eq_getElem hq] at this
 exact this
theorem nos_nodup {l:List tTst.T} (h:okNos (nosL l)):(nosL l).Nodup:=(nos_pair h).imp fun {a b} h e=>by omega
theorem fam_ok {l:List tTst.T} (h:famP l):(∀ x∈l,okT x)∧(nosL l).Nodup:=⟨fun x hx=>tstOk_okT (h.2 x hx),nos_nodup h.1⟩
theorem lvl_ok0 {k1:Bool} {l1:List Int} {k2:Bool} {l2:List Int} (h:lvlE k1 l1 k2 l2=0):okS k1 l1 k2 l2:=(lvlE_0.1 h).1
theorem seqF {l:List tTst.T} {a:tRf.T} (h1:l.length≤12) (h2:∀ x∈l,okT x) (h3:(nosL l).Nodup) (h4:aokR (ratOf a)):seqOf itsF 71 [⟨.slice tTst,l⟩,⟨tRf,a⟩] tI (findL l (ratOf a)) :=
 ⟨itFind,rfl,⟨h1,h2,h3,h4⟩,rfl⟩
theorem lead_le (a:tRat.T):∀ (s:List tTst.T) (n:Nat),(leadF a n s).length≤s.length
 | [],n=>by simp [leadF]
 | x::s,n=>by
  rw [leadF]
  split
  ·
   simpa using lead_le a s (n - 1)
  ·
   simp
abbrev mkA (k1:Bool) (l1:List Int) (k2:Bool) (l2:List Int):tRat.T:=((k1,l1,()),(k2,l2,()),())
def foundV (l:List tTst.T) (k1:Bool) (l1:List Int) (k2:Bool) (l2:List Int):List Int:=if chkF l k1 l1 k2 l2=0 then isort (findL l (mkA k1 l1 k2 l2)) else []
theorem foundV_0 {l:List tTst.T} {k1:Bool} {l1:List Int} {k2:Bool} {l2:List Int} (h:chkF l k1 l1 k2 l2=0):foundV l k1 l1 k2 l2=isort (findL l (mkA k1 l1 k2 l2)):=if_pos h
theorem foundV_e {l:List tTst.T} {k1:Bool} {l1:List Int} {k2:Bool} {l2:List Int} (h:¬ chkF l k1 l1 k2 l2=0):foundV l k1 l1 k2 l2=[]:=if_neg h
def fa22Γ:List (FuncId×Con):=fa21Γ
theorem fa22Γ_ok:∀ p∈fa22Γ,(∀ (args:Array Value) (w:World),(callFunc p.1 args).run Tryz.prog w=.ok (.enter p.1 args) w)∧PureOk Tryz.prog p.1 p.2:=by
 simp only [fa22Γ]
 exact fa21Γ_ok
def fa22E:List (FuncId×ECon):=(27,conSorted)::fa21E
theorem fa22E_ok:∀ p∈fa22E,(∀ (args:Array Value) (w:World),(callFunc p.1 args).run Tryz.prog w=.ok (.enter p.1 args) w)∧EffOk Tryz.prog p.1 p.2:=by
 simp only [fa22E,List.forall_mem_cons]
 exact ⟨⟨enters_of Tryz.func27 (by kernel_rfl) rfl,sorted_ok⟩,fa21E_ok⟩
def fa22P:List (FuncId×PCon):=fa21P
theorem fa22P_ok:∀ p∈fa22P,(∀ (args:Array Value) (w:World),(callFunc p.1 args).run Tryz.prog w=.ok (.enter p.1 args) w)∧PanOk Tryz.prog p.1 p.2:=by
 simp only [fa22P]
 exact fa21P_ok
def fa22:G:={ τ:=faT,Γ:=fa22Γ,E:=fa22E,Pn:=fa22P }
theorem fa22_good:fa22.good Tryz.prog:=good_of_all (faT_ok _ rfl) fa22Γ_ok fa22E_ok fa22P_ok
theorem fa22_all:(∀ t,fa22.td t=(look faT t).getD .other)∧fa22.y=false∧fa22.Γ=fa22Γ∧fa22.E=fa22E∧fa22.Pn=fa22P∧fa22.fz=[]:=⟨fun _=>rfl,rfl,rfl,rfl,rfl,rfl⟩
def conFound:Con:=⟨fun args=>(match args with
 | [.s (.sl (.cons (.int .i64) (.cons (.cons (.cons .bool (.cons (.slice (.int .i64)) .nil)) (.cons (.cons .bool (.cons (.slice (.int .i64)) .nil)) .nil)) .nil)) l _),.agg [.bool k1,.sl (.int .i64) l1 _,.bool k2,.sl (.int .i64) l2 _]]=>chkF l k1 l1 k2 l2=0→l.length≤12
 | _=>False),fun args=>match args with
 | [.s (.sl (.cons (.int .i64) (.cons (.cons (.cons .bool (.cons (.slice (.int .i64)) .nil)) (.cons (.cons .bool (.cons (.slice (.int .i64)) .nil)) .nil)) .nil)) l _),.agg [.bool k1,.sl (.int .i64) l1 _,.bool k2,.sl (.int .i64) l2 _]]=>.tup [aS tI (foundV l k1 l1 k2 l2) false,aI (chkF l k1 l1 k2 l2)]
 | _=>.v (.s .any)⟩
theorem conFound_eq (l:List (Ty.T tTst)) (exl:Bool) (k1:Bool) (l1:List (Ty.T tI)) (exl1:Bool) (k2:Bool) (l2:List (Ty.T tI)) (exl2:Bool):conFound.pre [.s (.sl tTst l exl),.agg [.bool k1,.sl tI l1 exl1,.bool k2,.sl tI l2 exl2]]=(chkF l k1 l1 k2 l2=0→l.length≤12)∧conFound.val [.s (.sl tTst l exl),.agg [.bool k1,.sl tI l1 exl1,.bool k2,.sl tI l2 exl2]]=.tup [aS tI (foundV l k1 l1 k2 l2) false,aI (chkF l k1 l1 k2 l2)]:=⟨rfl,rfl⟩
theorem found_ok:PureOk Tryz.prog 11 conFound:=by
 refine pureOkD (L:={ live:=[0,1,3,4,5,10] }) fa22_good rfl nr_mixed Tryz.func11 rfl conFound 2 (by decide) (by kernel_rfl) ?_
 intro args hpre hlens
 simp only [conFound] at hpre
 split at hpre
 case h_2=>exact hpre.elim
 rename_i l el k1 l1 f1 k2 l2 f2
 simp only [allLen,AV.lenOk,SV.lenOk,Ty.lenOk,maxLen,and_true,implies_true,true_and,List.forall_mem_cons,List.not_mem_nil,false_implies] at hlens
 refine ⟨rfl,?_⟩
 simp -dsimp -implicitDefEqProofs [Tryz.f11,conFound_eq,conSorted,-Prod.exists,-Prod.forall,-Bool.forall_bool,-Bool.exists_bool,fa22_all,faT,fa22Γ,fa22E,fa22P,fa21Γ,fa21E,fa21P,fa20Γ,fa20E,fa20P,fa19Γ,fa19E,fa19P,fa18Γ,fa18E,fa18P,fa17Γ,fa17E,fa17P,fa16Γ,fa16E,fa16P,fa15Γ,fa15E,fa15P,fa14Γ,fa14E,fa14P,fa13Γ,fa13E,fa13P,fa12Γ,fa12E,fa12P,fa11Γ,fa11E,fa11P,fa10Γ,fa10E,fa10P,fa9Γ,fa9E,fa9P,fa8Γ,fa8E,fa8P,fa7Γ,fa7E,fa7P,fa3Γ,fa3E,fa3P,fa2Γ,fa2E,fa2P,fa1Γ,fa1E,fa1P,nr20Γ,nr20E,nr20P,nr19Γ,nr19E,nr19P,nr18Γ,nr18E,nr18P,nr17Γ,nr17E,nr17P,nr16Γ,nr16E,nr16P,nr15Γ,nr15E,nr15P,nr14Γ,nr14E,nr14P,nr13Γ,nr13E,nr13P,nr9Γ,nr9E,nr9P,nr8Γ,nr8E,nr8P,nr7Γ,nr7E,nr7P,nr6Γ,nr6E,nr6P,nr5Γ,nr5E,nr5P,nr4Γ,nr4E,nr4P,nr3Γ,nr3E,nr3P,nr0Γ,nr0E,nr0P,conSorted,conFindI_eq,conColF,conSort,conSrtd_eq,conValT_pre,conValT_val,conSofT,conSrtT,conColT,conPdqT,conInsT,conOrI_eq,conCmpI_eq,conLen_eq,conLen64_eq,conChkF_eq,conNumE_eq,conRisI_eq,conRisT_eq,conLvl_eq,conKeyI_eq,conKeyT_eq,conShrtF_eq,conMost_eq,conTimesR_eq,conFits_eq,conWhole_eq,conOrdR_eq,conMkR_eq,conMulR_eq,conCmpR_eq,conRatC_eq,conRInt_eq,conOf_eq,conLow_eq,conDivX_eq,conMakeN_eq,conProd_eq,conDidB_eq,conDidI_eq,conValid_eq,panValid_when,panValid_what,conNeed_eq,panNeed_when,panNeed_what,conGcdN_eq,conMulN_eq,conCmpN2_eq,conPosi_eq,conChk_eq,conBigN_eq,conDiv_eq,conTimes_eq,conNCheck_eq,conLong_eq,conLead64_eq,conShort_eq,conMovE,conTrim_eq,conAt_eq,conNCmp_eq,conBack_eq,conOf9_eq,conDivide_eq,conLess9_eq,conTwo_eq,conRCheck_eq,conRCmpD_eq,inI64]
 obtain ⟨l1,rfl⟩:∃ y:List Int,y=l1:=⟨l1,rfl⟩; obtain ⟨l2,rfl⟩:∃ y:List Int,y=l2:=⟨l2,rfl⟩
 refine ⟨fun h=>foundV_e h,fun h => ?_⟩
 obtain ⟨h1,hf,hl⟩:=chkF_0.1 h
 obtain ⟨h2,h3⟩:=fam_ok hf
 have h12:l.length≤12:=hpre h
 have hle:(findL l (mkA k1 l1 k2 l2)).length≤12:=by
  unfold findL
  rw [nosL_len]
  have:=lead_le (mkA k1 l1 k2 l2) (sortT l) l.length
  have:=(sortT_spec h2).1.length_eq
  omega
 refine ⟨findL l (mkA k1 l1 k2 l2),seqF (a:=(k1,l1,k2,l2,())) h12 h2 h3 (lvl_ok0 hl),by omega,[aS tI (isort (findL l (mkA k1 l1 k2 l2))) false,aI 0],?_,?_⟩
 ·
  rw [if_pos (isort_length _),parses_flats' (isort_length _)]; rfl
 ·
  rw [foundV_0 h,h]
def fitR (n:Int) (p a:tRat.T):Bool:=fitB n p.1.1 p.1.2.1 p.2.1.2.1 a.1.1 a.1.2.1 a.2.1.2.1
def restT (l:List tTst.T) (k:Nat):List tTst.T:=sortT (l.take k++l.drop (k+1))
def leastP (l:List tTst.T) (k m:Nat):tRat.T:=if 0<m∧cmpR ((restT l k)[(restT l k).length - m]?.getD dT).2.1 (l[k]?.getD dT).2.1<0 then ((restT l k)[(restT l k).length - m]?.getD dT).2.1 else (l[k]?.getD dT).2.1
def closB (l:List tTst.T) (a:tRat.T) (k:Nat):Prop:=∀ m,m<l.length→fitR ((m+1:Nat):Int) (leastP l k m) a=true
def isNo (no:Int) (x:tTst.T):Bool:=decide (x.1=no)
noncomputable instance (l:List tTst.T) (a:tRat.T) (k:Nat):Decidable (closB l a k):=Classical.propDecidable _
def closE (l:List tTst.T) (k1:Bool) (l1:List Int) (k2:Bool) (l2:List Int) (no:Int):Int:=if chkF l k1 l1 k2 l2=0 then (if idxOf (isNo no) l<0 then 1 else 0) else chkF l k1 l1 k2 l2
def closV (l:List tTst.T) (k1:Bool) (l1:List Int) (k2:Bool) (l2:List Int) (no:Int):Bool:=decide (chkF l k1 l1 k2 l2=0∧0≤idxOf (isNo no) l∧closB l (mkA k1 l1 k2 l2) (idxOf (isNo no) l).toNat)
section
variable {l:List tTst.T} {k1:Bool} {l1:List Int} {k2:Bool} {l2:List Int} {no:Int}
theorem clos_e (h:¬ chkF l k1 l1 k2 l2=0):closV l k1 l1 k2 l2 no=false∧closE l k1 l1 k2 l2 no=chkF l k1 l1 k2 l2:=⟨by unfold closV; rw [decide_eq_false]; rintro ⟨q,_⟩; exact h q,if_neg h⟩
theorem clos_n (h:chkF l k1 l1 k2 l2=0) (h2:idxOf (isNo no) l<0):closV l k1 l1 k2 l2 no=false∧closE l k1 l1 k2 l2 no=1:=⟨by unfold closV; rw [decide_eq_false]; rintro ⟨_,q,_⟩; omega,by unfold closE; rw [if_pos h,if_pos h2]⟩
theorem clos_f (h:chkF l k1 l1 k2 l2=0) (h2:0≤idxOf (isNo no) l) (h3:¬ closB l (mkA k1 l1 k2 l2) (idxOf (isNo no) l).toNat):closV l k1 l1 k2 l2 no=false∧closE l k1 l1 k2 l2 no=0:=⟨by unfold closV; rw [decide_eq_false]; rintro ⟨_,_,q⟩; exact h3 q,by unfold closE; rw [if_pos h,if_neg (by omega)]⟩
theorem clos_t (h:chkF l k1 l1 k2 l2=0) (h2:0≤idxOf (isNo no) l) (h3:closB l (mkA k1 l1 k2 l2) (idxOf (isNo no) l).toNat):closV l k1 l1 k2 l2 no=true∧closE l k1 l1 k2 l2 no=0:=⟨by unfold closV; exact decide_eq_true ⟨h,h2,h3⟩,by unfold closE; rw [if_pos h,if_neg (by omega)]⟩
end
theorem idxOf_lt {α:Type} {p:α→Bool} {xs:List α}:idxOf p xs<xs.length:=by
 unfold idxOf
 cases h:xs.findIdx? p with
 | none=>simp; omega
 | some i =>
  obtain ⟨hi,_⟩:=List.findIdx?_eq_some_iff_getElem.1 h
  simp; exact hi
def conEqNo:Con:=⟨fun args=>(match args with
 | [.agg [.int .i64 no,.bool n1,.sl (.int .i64) m1 _,.bool n2,.sl (.int .i64) m2 _],.s (.eptr (.int .i64) k)]=>True
 | _=>False),fun args=>match args with
 | [.agg [.int _ no,.bool n1,.sl (.int .i64) m1 _,.bool n2,.sl (.int .i64) m2 _],.s (.eptr (.int .i64) k)]=>.v (aB (decide (no=k)))
 | _=>.v (.s .any)⟩
theorem conEqNo_eq (no:Int) (n1:Bool) (m1:List (Ty.T tI)) (exm1:Bool) (n2:Bool) (m2:List (Ty.T tI)) (exm2:Bool) (k:Ty.T tI):conEqNo.pre [.agg [.int .i64 no,.bool n1,.sl tI m1 exm1,.bool n2,.sl tI m2 exm2],.s (.eptr tI k)]=(True)∧conEqNo.val [.agg [.int .i64 no,.bool n1,.sl tI m1 exm1,.bool n2,.sl tI m2 exm2],.s (.eptr tI k)]=.v (aB (decide (no=k))):=⟨rfl,rfl⟩
theorem eqno_ok:PureOk Tryz.prog 34 conEqNo:=by
 refine pureOkD (L:={ live:=[0,1,2,3] }) fa22_good rfl nr_mixed Tryz.func34 rfl conEqNo 2 (by decide) (by kernel_rfl) ?_
 intro args hpre hlens
 simp only [conEqNo] at hpre
 split at hpre
 case h_2=>exact hpre.elim
 rename_i no n1 m1 e1 n2 m2 e2 k
 simp only [allLen,AV.lenOk,SV.lenOk,Ty.lenOk,maxLen,and_true,implies_true,true_and,List.forall_mem_cons,List.not_mem_nil,false_implies] at hlens
 refine ⟨rfl,?_⟩
 simp -dsimp -implicitDefEqProofs [Tryz.f34,conEqNo_eq,fa22_all,faT,fa22Γ,fa22E,fa22P,fa21Γ,fa21E,fa21P,fa20Γ,fa20E,fa20P,fa19Γ,fa19E,fa19P,fa18Γ,fa18E,fa18P,fa17Γ,fa17E,fa17P,fa16Γ,fa16E,fa16P,fa15Γ,fa15E,fa15P,fa14Γ,fa14E,fa14P,fa13Γ,fa13E,fa13P,fa12Γ,fa12E,fa12P,fa11Γ,fa11E,fa11P,fa10Γ,fa10E,fa10P,fa9Γ,fa9E,fa9P,fa8Γ,fa8E,fa8P,fa7Γ,fa7E,fa7P,fa3Γ,fa3E,fa3P,fa2Γ,fa2E,fa2P,fa1Γ,fa1E,fa1P,nr20Γ,nr20E,nr20P,nr19Γ,nr19E,nr19P,nr18Γ,nr18E,nr18P,nr17Γ,nr17E,nr17P,nr16Γ,nr16E,nr16P,nr15Γ,nr15E,nr15P,nr14Γ,nr14E,nr14P,nr13Γ,nr13E,nr13P,nr9Γ,nr9E,nr9P,nr8Γ,nr8E,nr8P,nr7Γ,nr7E,nr7P,nr6Γ,nr6E,nr6P,nr5Γ,nr5E,nr5P,nr4Γ,nr4E,nr4P,nr3Γ,nr3E,nr3P,nr0Γ,nr0E,nr0P,conSorted,conFindI_eq,conColF,conSort,conSrtd_eq,conValT_pre,conValT_val,conSofT,conSrtT,conColT,conPdqT,conInsT,conOrI_eq,conCmpI_eq,conLen_eq,conLen64_eq,conChkF_eq,conNumE_eq,conRisI_eq,conRisT_eq,conLvl_eq,conKeyI_eq,conKeyT_eq,conShrtF_eq,conMost_eq,conTimesR_eq,conFits_eq,conWhole_eq,conOrdR_eq,conMkR_eq,conMulR_eq,conCmpR_eq,conRatC_eq,conRInt_eq,conOf_eq,conLow_eq,conDivX_eq,conMakeN_eq,conProd_eq,conDidB_eq,conDidI_eq,conValid_eq,panValid_when,panValid_what,conNeed_eq,panNeed_when,panNeed_what,conGcdN_eq,conMulN_eq,conCmpN2_eq,conPosi_eq,conChk_eq,conBigN_eq,conDiv_eq,conTimes_eq,conNCheck_eq,conLong_eq,conLead64_eq,conShort_eq,conMovE,conTrim_eq,conAt_eq,conNCmp_eq,conBack_eq,conOf9_eq,conDivide_eq,conLess9_eq,conTwo_eq,conRCheck_eq,conRCmpD_eq,inI64]
 rw [Bool.eq_iff_iff]
 simp
def gNo:List (FuncId×Con):=[(34,conEqNo)]
theorem gNo_known:Known Tryz.prog gNo:=.cons (enters_of Tryz.func34 (by kernel_rfl) rfl) eqno_ok .nil
theorem fn_no (no:Int) (D:tTst.T→Prop):fnTo gNo tTst .bool 34 [⟨.int .i64,no⟩] (isNo no) D:=⟨conEqNo,rfl,fun x=>rfl,fun x _=>trivial⟩
def conIdxTI (Γ:List (FuncId×Con)):Con:=⟨fun args=>(match args with
 | [.s (.sl (.cons (.int .i64) (.cons (.cons (.cons .bool (.cons (.slice (.int .i64)) .nil)) (.cons (.cons .bool (.cons (.slice (.int .i64)) .nil)) .nil)) .nil)) xs _),.s (.fnp f caps)]=>∃ h,fnTo Γ tTst .bool f caps h (·∈xs)
 | _=>False),fun args=>match args with
 | [.s (.sl (.cons (.int .i64) (.cons (.cons (.cons .bool (.cons (.slice (.int .i64)) .nil)) (.cons (.cons .bool (.cons (.slice (.int .i64)) .nil)) .nil)) .nil)) xs _),.s (.fnp f caps)]=>.v (.s (.int .i64 (idxOf (apB Γ tTst f caps) xs)))
 | _=>.v (.s .any)⟩
theorem conIdxTI_one (f:FuncId) (caps:List (Sigma Ty.T)) (c:Con) (he:∀ (args:Array Value) (w:World),(callFunc f args).run Tryz.prog w=.ok (.enter f args) w) (hc:PureOk Tryz.prog f c) (h:Ty.T tTst→Bool)
  (hv:∀ x,c.val (Ty.av tTst x::caps.map capAV)=.v (.s (.bool (h x)))) :
  PureOk Tryz.prog 33 ⟨fun args=>∃ xs ex,args=[.s (.sl tTst xs ex),.s (.fnp f caps)]∧∀ x∈xs,c.pre (Ty.av tTst x::caps.map capAV),fun args=>match args with
   | [.s (.sl (.cons (.int .i64) (.cons (.cons (.cons .bool (.cons (.slice (.int .i64)) .nil)) (.cons (.cons .bool (.cons (.slice (.int .i64)) .nil)) .nil)) .nil)) xs _),_]=>.v (.s (.int .i64 (idxOf h xs)))
   | _=>.v (.s .any)⟩:=by
 refine pureOkD (L:={ live:=[0,1,4,5,7,8,9,16] }) (g1_good faT_ok he hc) rfl nr_mixed Tryz.func33 rfl _ 2 (by decide) (by kernel_rfl) ?_
 rintro _ ⟨xs,ex,rfl,hp⟩ hlens
 obtain ⟨⟨hl,_⟩,_⟩:=hlens
 simp only [maxLen] at hl
 refine ⟨rfl,?_⟩
 first | simp only [av_int,av_slice,av_bool] at hv hp | simp only [av_cons,av_bool,Ty.flat,List.cons_append,List.nil_append] at hv hp
 simp -dsimp -implicitDefEqProofs [Tryz.f33,g1_td,g1_y,g1_Γ,g1_E,g1_Pn,g1_fz,faT,inI64]
 refine WpD.loop (L:={ live:=[0,1,4,5,7,8,9,16] }) (g1_good faT_ok he hc) X0_ok nr_mixed (by kernel_rfl) (ι:=Nat)
  (fun i=>⟨[(0,vS tTst xs ex),(1,⟨true,.v (.s (.fnp f caps))⟩),(7,vI xs.length),(8,vI i)],[]⟩)
  (fun i=>i≤xs.length∧∀ j,j<i→h (xs[j]?.getD (Ty.dflt tTst))=false) (fun i=>xs.length - i) 0 (by simp) (Turn.le (by simp -dsimp -implicitDefEqProofs)) ?_
 rintro i ⟨hi,hno⟩
 simp only [Ty.dflt] at hno
 simp -dsimp -implicitDefEqProofs [hv,caps_all,caps_all',g1_td,g1_y,g1_Γ,g1_E,g1_Pn,g1_fz,faT,inI64]
 refine ⟨fun hlt=>⟨hlt,hp _ (by rw [getD_lt hlt]; exact List.getElem_mem hlt),fun he => ?_,fun hne=>⟨⟨by omega,by omega⟩,i+1,⟨by omega,fun j hj => ?_⟩,by omega,TurnT.le (by simp -dsimp -implicitDefEqProofs)⟩⟩,fun hge => ?_⟩
 ·
  exact (idxOf_at hlt _ he hno).symm
 ·
  rcases Nat.lt_succ_iff_lt_or_eq.1 hj with h' | rfl
  ·
   exact hno j h'
  ·
   exact hne
 ·
  exact (idxOf_none _ fun j hj=>hno j (by omega)).symm
theorem conIdxTI_known (Γ:List (FuncId×Con)) (hΓ:Known Tryz.prog Γ):PureOk Tryz.prog 33 (conIdxTI Γ):=by
 refine PureOk.of fun args hpre => ?_
 simp only [conIdxTI] at hpre
 split at hpre
 ·
  rename_i xs ex f caps
  obtain ⟨h,hf⟩:=hpre
  have hm:apB Γ tTst f caps=h:=funext (apB_eq hf)
  obtain ⟨c,h1,h2,h3⟩:=hf
  refine ⟨_,conIdxTI_one f caps c (hΓ f c h1).1 (hΓ f c h1).2 h h2,⟨xs,ex,rfl,h3⟩,?_⟩
  simp only [conIdxTI,hm]
 ·
  exact hpre.elim
theorem conIdxTI_pre {Γ:List (FuncId×Con)} {f:FuncId} {caps:List (Sigma Ty.T)} (xs:List (Ty.T tTst)) (ex:Bool):(conIdxTI Γ).pre [.s (.sl tTst xs ex),.s (.fnp f caps)]=∃ h,fnTo Γ tTst .bool f caps h (·∈xs):=rfl
theorem conIdxTI_val {Γ:List (FuncId×Con)} {f:FuncId} {caps:List (Sigma Ty.T)} (xs:List (Ty.T tTst)) (ex:Bool):(conIdxTI Γ).val [.s (.sl tTst xs ex),.s (.fnp f caps)]=.v (.s (.int .i64 (idxOf (apB Γ tTst f caps) xs))):=rfl
def fa23Γ:List (FuncId×Con):=(33,(conIdxTI gNo))::(36,conCT)::fa22Γ
theorem fa23Γ_ok:∀ p∈fa23Γ,(∀ (args:Array Value) (w:World),(callFunc p.1 args).run Tryz.prog w=.ok (.enter p.1 args) w)∧PureOk Tryz.prog p.1 p.2:=by
 simp only [fa23Γ,List.forall_mem_cons]
 exact ⟨⟨enters_of Tryz.func33 (by kernel_rfl) rfl,(conIdxTI_known gNo gNo_known)⟩,⟨enters_of Tryz.func36 (by kernel_rfl) rfl,conCT_ok⟩,fa22Γ_ok⟩
def fa23E:List (FuncId×ECon):=fa22E
theorem fa23E_ok:∀ p∈fa23E,(∀ (args:Array Value) (w:World),(callFunc p.1 args).run Tryz.prog w=.ok (.enter p.1 args) w)∧EffOk Tryz.prog p.1 p.2:=by
 simp only [fa23E]
 exact fa22E_ok
def fa23P:List (FuncId×PCon):=fa22P
theorem fa23P_ok:∀ p∈fa23P,(∀ (args:Array Value) (w:World),(callFunc p.1 args).run Tryz.prog w=.ok (.enter p.1 args) w)∧PanOk Tryz.prog p.1 p.2:=by
 simp only [fa23P]
 exact fa22P_ok
def fa23:G:={ τ:=faT,Γ:=fa23Γ,E:=fa23E,Pn:=fa23P }
theorem fa23_good:fa23.good Tryz.prog:=good_of_all (faT_ok _ rfl) fa23Γ_ok fa23E_ok fa23P_ok
theorem fa23_all:(∀ t,fa23.td t=(look faT t).getD .other)∧fa23.y=false∧fa23.Γ=fa23Γ∧fa23.E=fa23E∧fa23.Pn=fa23P∧fa23.fz=[]:=⟨fun _=>rfl,rfl,rfl,rfl,rfl,rfl⟩
def conClosed:Con:=⟨fun args=>(match args with
 | [.s (.sl (.cons (.int .i64) (.cons (.cons (.cons .bool (.cons (.slice (.int .i64)) .nil)) (.cons (.cons .bool (.cons (.slice (.int .i64)) .nil)) .nil)) .nil)) l _),.agg [.bool k1,.sl (.int .i64) l1 _,.bool k2,.sl (.int .i64) l2 _],.s (.int .i64 no)]=>chkF l k1 l1 k2 l2=0→l.length≤12
 | _=>False),fun args=>match args with
 | [.s (.sl (.cons (.int .i64) (.cons (.cons (.cons .bool (.cons (.slice (.int .i64)) .nil)) (.cons (.cons .bool (.cons (.slice (.int .i64)) .nil)) .nil)) .nil)) l _),.agg [.bool k1,.sl (.int .i64) l1 _,.bool k2,.sl (.int .i64) l2 _],.s (.int _ no)]=>.tup [aB (closV l k1 l1 k2 l2 no),aI (closE l k1 l1 k2 l2 no)]
 | _=>.v (.s .any)⟩
theorem conClosed_eq (l:List (Ty.T tTst)) (exl:Bool) (k1:Bool) (l1:List (Ty.T tI)) (exl1:Bool) (k2:Bool) (l2:List (Ty.T tI)) (exl2:Bool) (no:Int):conClosed.pre [.s (.sl tTst l exl),.agg [.bool k1,.sl tI l1 exl1,.bool k2,.sl tI l2 exl2],.s (.int .i64 no)]=(chkF l k1 l1 k2 l2=0→l.length≤12)∧conClosed.val [.s (.sl tTst l exl),.agg [.bool k1,.sl tI l1 exl1,.bool k2,.sl tI l2 exl2],.s (.int .i64 no)]=.tup [aB (closV l k1 l1 k2 l2 no),aI (closE l k1 l1 k2 l2 no)]:=⟨rfl,rfl⟩
theorem closed_ok:PureOk Tryz.prog 13 conClosed:=by
 refine pureOkD (L:={ live:=[0,1,2,4,5,6,7,8,9,10,11,12,17,23,35,36,37,45,57,64],eps:=[(4,[5])] }) fa23_good rfl nr_mixed Tryz.func13 rfl conClosed 3 (by decide) (by kernel_rfl) ?_
 intro args hpre hlens
 simp only [conClosed] at hpre
 split at hpre
 case h_2=>exact hpre.elim
 rename_i l el k1 l1 f1 k2 l2 f2 no
 simp only [allLen,AV.lenOk,SV.lenOk,Ty.lenOk,maxLen,and_true,implies_true,true_and,List.forall_mem_cons,List.not_mem_nil,false_implies] at hlens
 have hap:apB gNo tTst 34 [⟨.int .i64,no⟩]=isNo no:=funext (apB_eq (fn_no no (fun _=>True)))
 refine ⟨rfl,?_⟩
 simp -dsimp -implicitDefEqProofs [Tryz.f13,conClosed_eq,hap,-Prod.exists,-Prod.forall,-Bool.forall_bool,-Bool.exists_bool,fa23_all,faT,fa23Γ,fa23E,fa23P,fa22Γ,fa22E,fa22P,fa21Γ,fa21E,fa21P,fa20Γ,fa20E,fa20P,fa19Γ,fa19E,fa19P,fa18Γ,fa18E,fa18P,fa17Γ,fa17E,fa17P,fa16Γ,fa16E,fa16P,fa15Γ,fa15E,fa15P,fa14Γ,fa14E,fa14P,fa13Γ,fa13E,fa13P,fa12Γ,fa12E,fa12P,fa11Γ,fa11E,fa11P,fa10Γ,fa10E,fa10P,fa9Γ,fa9E,fa9P,fa8Γ,fa8E,fa8P,fa7Γ,fa7E,fa7P,fa3Γ,fa3E,fa3P,fa2Γ,fa2E,fa2P,fa1Γ,fa1E,fa1P,nr20Γ,nr20E,nr20P,nr19Γ,nr19E,nr19P,nr18Γ,nr18E,nr18P,nr17Γ,nr17E,nr17P,nr16Γ,nr16E,nr16P,nr15Γ,nr15E,nr15P,nr14Γ,nr14E,nr14P,nr13Γ,nr13E,nr13P,nr9Γ,nr9E,nr9P,nr8Γ,nr8E,nr8P,nr7Γ,nr7E,nr7P,nr6Γ,nr6E,nr6P,nr5Γ,nr5E,nr5P,nr4Γ,nr4E,nr4P,nr3Γ,nr3E,nr3P,nr0Γ,nr0E,nr0P,conIdxTI_pre,conIdxTI_val,conCT_pre,conCT_val,conSorted,conFindI_eq,conColF,conSort,conSrtd_eq,conValT_pre,conValT_val,conSofT,conSrtT,conColT,conPdqT,conInsT,conOrI_eq,conCmpI_eq,conLen_eq,conLen64_eq,conChkF_eq,conNumE_eq,conRisI_eq,conRisT_eq,conLvl_eq,conKeyI_eq,conKeyT_eq,conShrtF_eq,conMost_eq,conTimesR_eq,conFits_eq,conWhole_eq,conOrdR_eq,conMkR_eq,conMulR_eq,conCmpR_eq,conRatC_eq,conRInt_eq,conOf_eq,conLow_eq,conDivX_eq,conMakeN_eq,conProd_eq,conDidB_eq,conDidI_eq,conValid_eq,panValid_when,panValid_what,conNeed_eq,panNeed_when,panNeed_what,conGcdN_eq,conMulN_eq,conCmpN2_eq,conPosi_eq,conChk_eq,conBigN_eq,conDiv_eq,conTimes_eq,conNCheck_eq,conLong_eq,conLead64_eq,conShort_eq,conMovE,conTrim_eq,conAt_eq,conNCmp_eq,conBack_eq,conOf9_eq,conDivide_eq,conLess9_eq,conTwo_eq,conRCheck_eq,conRCmpD_eq,inI64]
 obtain ⟨l1,rfl⟩:∃ y:List Int,y=l1:=⟨l1,rfl⟩; obtain ⟨l2,rfl⟩:∃ y:List Int,y=l2:=⟨l2,rfl⟩
 refine ⟨fun h=>⟨(clos_e h).1,(clos_e h).2.symm⟩,fun h=>⟨⟨_,fn_no no _⟩,fun h2=>⟨(clos_n h h2).1,(clos_n h h2).2.symm⟩,fun h2 => ?_⟩⟩
 obtain ⟨_,hf,hl⟩:=chkF_0.1 h
 obtain ⟨hok,hnd⟩:=fam_ok hf
 have h12:l.length≤12:=hpre h
 have hlt:=idxOf_lt (p:=isNo no) (xs:=l)
 have hcf:=clos_f (no:=no) h h2
 have hct:=clos_t (no:=no) h h2
 obtain ⟨I,hI⟩:∃ I:Nat,idxOf (isNo no) l=I:=⟨_,(Int.toNat_of_nonneg h2).symm⟩
 rw [hI] at hlt hcf hct ⊢
 rw [Int.toNat_natCast] at hcf hct ⊢
 have e1:((I:Int)+1).toNat=I+1:=by omega
 rw [e1]
 have hIl:I<l.length:=by omega
 have hsub:∀ x,x∈l.take I∨x∈l.drop (I+1)→okT x:=fun x hx=>by
  rcases hx with hx | hx
  ·
   exact hok x (List.mem_of_mem_take hx)
  ·
   exact hok x (List.mem_of_mem_drop hx)
 have hcat:(l.take I++l.drop (I+1)).Sublist l:=by
  conv=>rhs; rw [← List.take_append_drop I l]
  refine List.Sublist.append (List.Sublist.refl _) ?_
  rw [List.drop_eq_getElem_cons hIl]
  exact List.sublist_cons_self _ _
 have hnd2:(nosL (l.take I++l.drop (I+1))).Nodup:=hnd.sublist (hcat.map _)
 refine ⟨⟨by omega,by omega⟩,⟨by omega,by omega⟩,⟨by omega,by omega⟩,by omega,⟨by omega,hsub,hnd2⟩,?_⟩
 obtain ⟨o,ho⟩:∃ o,o=restT l I:=⟨_,rfl⟩
 have ho':sortT (l.take I++l.drop (I+1))=o:=ho.symm
 have hop:=(sortT_spec (l:=l.take I++l.drop (I+1)) fun x hx=>hsub x (List.mem_append.1 hx)).1
 rw [ho'] at hop
 rw [ho']
 have hol:o.length=l.length - 1:=by
  rw [hop.length_eq,List.length_append,List.length_take,List.length_drop]; omega
 have hoo:∀ x∈o,okT x:=fun x hx=>hsub x (List.mem_append.1 (hop.mem_iff.1 hx))
 have hokI:okT l[I]:=hok _ (List.getElem_mem hIl)
 refine WpD.loop (L:={ live:=[0,1,2,4,5,6,7,8,9,10,11,12,17,23,35,36,37,45,57,64],eps:=[(4,[5])] }) fa23_good X0_ok nr_mixed (by kernel_rfl)
  (fun m:Nat=>⟨[(0,vS tTst l el),(4,⟨true,.v (.s (.box 0 0))⟩),(8,vI I),(9,vS tTst o false),(35,vI l.length),(36,vI m)],[.cells [.bool k1,.sl tI l1 f1,.bool k2,.sl tI l2 f2],.dead]⟩)
  (fun m=>m≤l.length∧∀ j,j<m→fitR ((j+1:Nat):Int) (leastP l I j) (mkA k1 l1 k2 l2)=true) (fun m=>l.length - m) 0 ⟨Nat.zero_le _,fun j h=>absurd h (by omega)⟩ (Turn.le (by simp -dsimp -implicitDefEqProofs)) ?_
 rintro m ⟨hm,hj⟩
 have hl0:leastP l I 0=l[I].2.1:=by
  unfold leastP
  rw [if_neg (by rintro ⟨h,_⟩; omega),List.getElem?_eq_getElem hIl]; rfl
 rcases Nat.lt_or_ge m l.length with hml | hge
 ·
  have hstep:fitR ((m:Int)+1) (leastP l I m) (mkA k1 l1 k2 l2)=true→∀ j,j<m+1→fitR ((j+1:Nat):Int) (leastP l I j) (mkA k1 l1 k2 l2)=true:=fun h j hjm=>by
   rcases Nat.lt_succ_iff_lt_or_eq.1 hjm with h' | rfl
   ·
    exact hj j h'
   ·
    exact h
  have hno:fitR ((m:Int)+1) (leastP l I m) (mkA k1 l1 k2 l2)=false→closV l k1 l1 k2 l2 no=false∧0=closE l k1 l1 k2 l2 no:=fun h=>by
   have:=hcf fun q=>by
    have:=q m hml
    rw [show (((m+1:Nat)):Int)=(m:Int)+1 by omega,h] at this
    cases this
   exact ⟨this.1,this.2.symm⟩
  rcases Nat.eq_zero_or_pos m with rfl | hm0
  ·
   rw [hl0] at hstep hno
   simp -dsimp -implicitDefEqProofs [conClosed_eq,hml,hIl,-Prod.exists,-Prod.forall,-Bool.forall_bool,-Bool.exists_bool,fa23_all,faT,fa23Γ,fa23E,fa23P,fa22Γ,fa22E,fa22P,fa21Γ,fa21E,fa21P,fa20Γ,fa20E,fa20P,fa19Γ,fa19E,fa19P,fa18Γ,fa18E,fa18P,fa17Γ,fa17E,fa17P,fa16Γ,fa16E,fa16P,fa15Γ,fa15E,fa15P,fa14Γ,fa14E,fa14P,fa13Γ,fa13E,fa13P,fa12Γ,fa12E,fa12P,fa11Γ,fa11E,fa11P,fa10Γ,fa10E,fa10P,fa9Γ,fa9E,fa9P,fa8Γ,fa8E,fa8P,fa7Γ,fa7E,fa7P,fa3Γ,fa3E,fa3P,fa2Γ,fa2E,fa2P,fa1Γ,fa1E,fa1P,nr20Γ,nr20E,nr20P,nr19Γ,nr19E,nr19P,nr18Γ,nr18E,nr18P,nr17Γ,nr17E,nr17P,nr16Γ,nr16E,nr16P,nr15Γ,nr15E,nr15P,nr14Γ,nr14E,nr14P,nr13Γ,nr13E,nr13P,nr9Γ,nr9E,nr9P,nr8Γ,nr8E,nr8P,nr7Γ,nr7E,nr7P,nr6Γ,nr6E,nr6P,nr5Γ,nr5E,nr5P,nr4Γ,nr4E,nr4P,nr3Γ,nr3E,nr3P,nr0Γ,nr0E,nr0P,conIdxTI_pre,conIdxTI_val,conCT_pre,conCT_val,conSorted,conFindI_eq,conColF,conSort,conSrtd_eq,conValT_pre,conValT_val,conSofT,conSrtT,conColT,conPdqT,conInsT,conOrI_eq,conCmpI_eq,conLen_eq,conLen64_eq,conChkF_eq,conNumE_eq,conRisI_eq,conRisT_eq,conLvl_eq,conKeyI_eq,conKeyT_eq,conShrtF_eq,conMost_eq,conTimesR_eq,conFits_eq,conWhole_eq,conOrdR_eq,conMkR_eq,conMulR_eq,conCmpR_eq,conRatC_eq,conRInt_eq,conOf_eq,conLow_eq,conDivX_eq,conMakeN_eq,conProd_eq,conDidB_eq,conDidI_eq,conValid_eq,panValid_when,panValid_what,conNeed_eq,panNeed_when,panNeed_what,conGcdN_eq,conMulN_eq,conCmpN2_eq,conPosi_eq,conChk_eq,conBigN_eq,conDiv_eq,conTimes_eq,conNCheck_eq,conLong_eq,conLead64_eq,conShort_eq,conMovE,conTrim_eq,conAt_eq,conNCmp_eq,conBack_eq,conOf9_eq,conDivide_eq,conLess9_eq,conTwo_eq,conRCheck_eq,conRCmpD_eq,inI64]
   refine ⟨⟨hokI,lvl_ok0 hl⟩,fun h=>hno h,fun h=>⟨1,⟨by omega,?_⟩,by omega,TurnT.trunc X0_ok (hp:=[_,_]) (junk:=[_]) (by simp) (by simp only [List.length_cons,List.length_nil,List.all_cons,List.all_nil,arr_below,Bool.and_true] <;> simp [Blk.below,SV.below]) (by simp -dsimp -implicitDefEqProofs []) (by simp [envBelow,RV.below,AV.below,SV.below])⟩⟩
   exact hstep h
  ·
   obtain ⟨p,hp⟩:∃ p,o[l.length - 1 - m]?.getD (0,((false,[],()),(false,[],()),()),())=p:=⟨_,rfl⟩
   have hpo:okT p:=by
    rw [← hp,List.getElem?_eq_getElem (by omega)]
    exact hoo _ (List.getElem_mem _)
   have hlm:leastP l I m=if ratCmp p.2.1.1.1 p.2.1.1.2.1 p.2.1.2.1.2.1 l[I].2.1.1.1 l[I].2.1.1.2.1 l[I].2.1.2.1.2.1<0 then p.2.1 else l[I].2.1:=by
    unfold leastP
    rw [← ho,hol,List.getElem?_eq_getElem hIl,show o[l.length - 1 - m]?.getD dT=p from hp]
    by_cases hc:cmpR p.2.1 l[I].2.1<0
    ·
     rw [if_pos ⟨hm0,hc⟩,if_pos (show ratCmp _ _ _ _ _ _<0 from hc)]
    ·
     rw [if_neg (fun q=>hc q.2),if_neg (show ¬ ratCmp _ _ _ _ _ _<0 from hc)]; rfl
   simp -dsimp -implicitDefEqProofs [conClosed_eq,hml,hm0,hIl,hol,hp,-Prod.exists,-Prod.forall,-Bool.forall_bool,-Bool.exists_bool,fa23_all,faT,fa23Γ,fa23E,fa23P,fa22Γ,fa22E,fa22P,fa21Γ,fa21E,fa21P,fa20Γ,fa20E,fa20P,fa19Γ,fa19E,fa19P,fa18Γ,fa18E,fa18P,fa17Γ,fa17E,fa17P,fa16Γ,fa16E,fa16P,fa15Γ,fa15E,fa15P,fa14Γ,fa14E,fa14P,fa13Γ,fa13E,fa13P,fa12Γ,fa12E,fa12P,fa11Γ,fa11E,fa11P,fa10Γ,fa10E,fa10P,fa9Γ,fa9E,fa9P,fa8Γ,fa8E,fa8P,fa7Γ,fa7E,fa7P,fa3Γ,fa3E,fa3P,fa2Γ,fa2E,fa2P,fa1Γ,fa1E,fa1P,nr20Γ,nr20E,nr20P,nr19Γ,nr19E,nr19P,nr18Γ,nr18E,nr18P,nr17Γ,nr17E,nr17P,nr16Γ,nr16E,nr16P,nr15Γ,nr15E,nr15P,nr14Γ,nr14E,nr14P,nr13Γ,nr13E,nr13P,nr9Γ,nr9E,nr9P,nr8Γ,nr8E,nr8P,nr7Γ,nr7E,nr7P,nr6Γ,nr6E,nr6P,nr5Γ,nr5E,nr5P,nr4Γ,nr4E,nr4P,nr3Γ,nr3E,nr3P,nr0Γ,nr0E,nr0P,conIdxTI_pre,conIdxTI_val,conCT_pre,conCT_val,conSorted,conFindI_eq,conColF,conSort,conSrtd_eq,conValT_pre,conValT_val,conSofT,conSrtT,conColT,conPdqT,conInsT,conOrI_eq,conCmpI_eq,conLen_eq,conLen64_eq,conChkF_eq,conNumE_eq,conRisI_eq,conRisT_eq,conLvl_eq,conKeyI_eq,conKeyT_eq,conShrtF_eq,conMost_eq,conTimesR_eq,conFits_eq,conWhole_eq,conOrdR_eq,conMkR_eq,conMulR_eq,conCmpR_eq,conRatC_eq,conRInt_eq,conOf_eq,conLow_eq,conDivX_eq,conMakeN_eq,conProd_eq,conDidB_eq,conDidI_eq,conValid_eq,panValid_when,panValid_what,conNeed_eq,panNeed_when,panNeed_what,conGcdN_eq,conMulN_eq,conCmpN2_eq,conPosi_eq,conChk_eq,conBigN_eq,conDiv_eq,conTimes_eq,conNCheck_eq,conLong_eq,conLead64_eq,conShort_eq,conMovE,conTrim_eq,conAt_eq,conNCmp_eq,conBack_eq,conOf9_eq,conDivide_eq,conLess9_eq,conTwo_eq,conRCheck_eq,conRCmpD_eq,inI64]
   refine ⟨⟨by omega,by omega⟩,⟨by omega,by omega⟩,⟨⟨hpo.1,hokI.1⟩,by have:=hpo.2; have:=hokI.2; omega,by have:=hpo.2; have:=hokI.2; omega⟩,fun hc => ?_,fun hc => ?_⟩
   ·
    rw [if_pos hc] at hlm
    rw [hlm] at hstep hno
    refine ⟨⟨by omega,by omega⟩,⟨⟨by omega,by omega⟩,hpo,lvl_ok0 hl⟩,fun h=>hno h,fun h=>⟨⟨by omega,by omega⟩,m+1,⟨by omega,?_⟩,by omega,?_⟩⟩
    ·
     exact hstep h
    ·
     exact TurnT.trunc X0_ok (hp:=[_,_]) (junk:=[_,_]) (by simp) (by simp only [List.length_cons,List.length_nil,List.all_cons,List.all_nil,arr_below,Bool.and_true] <;> simp [Blk.below,SV.below]) (by simp -dsimp -implicitDefEqProofs) (by simp [envBelow,RV.below,AV.below,SV.below])
   ·
    rw [if_neg (by omega)] at hlm
    rw [hlm] at hstep hno
    refine ⟨⟨by omega,by omega⟩,⟨⟨by omega,by omega⟩,hokI,lvl_ok0 hl⟩,fun h=>hno h,fun h=>⟨⟨by omega,by omega⟩,m+1,⟨by omega,?_⟩,by omega,?_⟩⟩
    ·
     exact hstep h
    ·
     exact TurnT.trunc X0_ok (hp:=[_,_]) (junk:=[_,_]) (by simp) (by simp only [List.length_cons,List.length_nil,List.all_cons,List.all_nil,arr_below,Bool.and_true] <;> simp [Blk.below,SV.below]) (by simp -dsimp -implicitDefEqProofs) (by simp [envBelow,RV.below,AV.below,SV.below])
 ·
  have hn:¬ m<l.length:=by omega
  simp -dsimp -implicitDefEqProofs [conClosed_eq,hn,-Prod.exists,-Prod.forall,-Bool.forall_bool,-Bool.exists_bool,fa23_all,faT,fa23Γ,fa23E,fa23P,fa22Γ,fa22E,fa22P,fa21Γ,fa21E,fa21P,fa20Γ,fa20E,fa20P,fa19Γ,fa19E,fa19P,fa18Γ,fa18E,fa18P,fa17Γ,fa17E,fa17P,fa16Γ,fa16E,fa16P,fa15Γ,fa15E,fa15P,fa14Γ,fa14E,fa14P,fa13Γ,fa13E,fa13P,fa12Γ,fa12E,fa12P,fa11Γ,fa11E,fa11P,fa10Γ,fa10E,fa10P,fa9Γ,fa9E,fa9P,fa8Γ,fa8E,fa8P,fa7Γ,fa7E,fa7P,fa3Γ,fa3E,fa3P,fa2Γ,fa2E,fa2P,fa1Γ,fa1E,fa1P,nr20Γ,nr20E,nr20P,nr19Γ,nr19E,nr19P,nr18Γ,nr18E,nr18P,nr17Γ,nr17E,nr17P,nr16Γ,nr16E,nr16P,nr15Γ,nr15E,nr15P,nr14Γ,nr14E,nr14P,nr13Γ,nr13E,nr13P,nr9Γ,nr9E,nr9P,nr8Γ,nr8E,nr8P,nr7Γ,nr7E,nr7P,nr6Γ,nr6E,nr6P,nr5Γ,nr5E,nr5P,nr4Γ,nr4E,nr4P,nr3Γ,nr3E,nr3P,nr0Γ,nr0E,nr0P,conIdxTI_pre,conIdxTI_val,conCT_pre,conCT_val,conSorted,conFindI_eq,conColF,conSort,conSrtd_eq,conValT_pre,conValT_val,conSofT,conSrtT,conColT,conPdqT,conInsT,conOrI_eq,conCmpI_eq,conLen_eq,conLen64_eq,conChkF_eq,conNumE_eq,conRisI_eq,conRisT_eq,conLvl_eq,conKeyI_eq,conKeyT_eq,conShrtF_eq,conMost_eq,conTimesR_eq,conFits_eq,conWhole_eq,conOrdR_eq,conMkR_eq,conMulR_eq,conCmpR_eq,conRatC_eq,conRInt_eq,conOf_eq,conLow_eq,conDivX_eq,conMakeN_eq,conProd_eq,conDidB_eq,conDidI_eq,conValid_eq,panValid_when,panValid_what,conNeed_eq,panNeed_when,panNeed_what,conGcdN_eq,conMulN_eq,conCmpN2_eq,conPosi_eq,conChk_eq,conBigN_eq,conDiv_eq,conTimes_eq,conNCheck_eq,conLong_eq,conLead64_eq,conShort_eq,conMovE,conTrim_eq,conAt_eq,conNCmp_eq,conBack_eq,conOf9_eq,conDivide_eq,conLess9_eq,conTwo_eq,conRCheck_eq,conRCmpD_eq,inI64]
  have:=hct fun j hjl=>hj j (by omega)
  exact ⟨this.1,this.2.symm⟩
def pAt (l:List tTst.T) (k:Int):tTst.T:=l[k.toNat]?.getD dT
def leastL (l:List tTst.T) (done:List Bool):Nat→Int
 | 0 => -1
 | i+1=>if done[i]?.getD false=false∧(leastL l done i<0∨0<cmpR (pAt l (leastL l done i)).2.1 (pAt l i).2.1) then (i:Int) else leastL l done i
theorem leastL_lt (l:List tTst.T) (done:List Bool):∀ i,-1≤leastL l done i∧leastL l done i<i
 | 0=>by simp [leastL]
 | i+1=>by
  have:=leastL_lt l done i
  rw [leastL]
  split <;> omega
theorem leastL_is {l:List tTst.T} {done:List Bool} (hd:∀ x∈l,okT x) (hp:(nosL l).Pairwise (· < ·)):∀ m,m≤l.length →
  (leastL l done m<0→∀ j,j<m→done[j]?.getD false=true)∧(0≤leastL l done m→done[(leastL l done m).toNat]?.getD false=false∧∀ j,j<m→done[j]?.getD false=false→befT (pAt l (leastL l done m)) (pAt l j)≤0)
 | 0,_=>⟨fun _ j h=>by omega,fun h=>by simp [leastL] at h⟩
 | m+1,hm=>by
  obtain ⟨h1,h2⟩:=leastL_is hd hp m (by omega)
  obtain ⟨b1,b2⟩:=leastL_lt l done m
  have hmem:∀ k:Nat,k<l.length→okT (pAt l k):=fun k hk=>by
   unfold pAt
   rw [Int.toNat_natCast,List.getElem?_eq_getElem hk]
   exact hd _ (List.getElem_mem hk)
  rw [leastL]
  split
  ·
   rename_i hc
   refine ⟨fun h=>by omega,fun _=>⟨by rw [Int.toNat_natCast]; exact hc.1,fun j hj hdj => ?_⟩⟩
   rcases Nat.lt_succ_iff_lt_or_eq.1 hj with h' | rfl
   ·
    rcases hc.2 with hc2 | hc2
    ·
     have:=h1 hc2 j h'
     rw [this] at hdj; cases hdj
    ·
     rcases Int.lt_or_le (leastL l done m) 0 with hneg | hpos
     ·
      have:=h1 hneg j h'
      rw [this] at hdj; cases hdj
     ·
      obtain ⟨k,hk⟩:∃ k:Nat,leastL l done m=k:=⟨_,(Int.toNat_of_nonneg hpos).symm⟩
      have t1:=(h2 hpos).2 j h' hdj
      rw [hk] at t1 hc2 b2
      have a1:=ordr_befT.anti _ _ (hmem k (by omega)) (hmem m (by omega))
      have t2:befT (pAt l m) (pAt l k)≤0:=by
       rw [a1,befT_eq,if_neg (by omega)]
       omega
      exact ordr_befT.trans _ _ _ (hmem m (by omega)) (hmem k (by omega)) (hmem j (by omega)) t2 t1
   ·
    rw [ordr_befT.self (hmem j (by omega))]; exact Int.le_refl _
  ·
   rename_i hc
   refine ⟨fun h j hj => ?_,fun h=>⟨(h2 h).1,fun j hj hdj => ?_⟩⟩
   ·
    rcases Nat.lt_succ_iff_lt_or_eq.1 hj with h' | rfl
    ·
     exact h1 h j h'
    ·
     cases hdj:done[j]?.getD false with
     | true=>rfl
     | false=>exact absurd ⟨hdj,.inl h⟩ hc
   ·
    rcases Nat.lt_succ_iff_lt_or_eq.1 hj with h' | rfl
    ·
     exact (h2 h).2 j h' hdj
    ·
     obtain ⟨k,hk⟩:∃ k:Nat,leastL l done j=k:=⟨_,(Int.toNat_of_nonneg h).symm⟩
     have hc3:¬ 0<cmpR (pAt l (leastL l done j)).2.1 (pAt l j).2.1:=fun q=>hc ⟨hdj,.inr q⟩
     rw [hk] at hc3 b2 ⊢
     rw [befT_eq]
     split
     ·
      have hkj:k<j:=by omega
      have:=List.pairwise_iff_getElem.1 hp k j (by rw [nosL_len]; omega) (by rw [nosL_len]; omega) hkj
      have e:∀ q:Nat,(hq:q<l.length)→(pAt l q).1=(nosL l)[q]'(by rw [nosL_len]; exact hq):=fun q hq=>by
       unfold pAt
       rw [Int.toNat_natCast,List.getElem?_eq_getElem hq]
       simp [nosL]
      rw [e k (by omega),e j (by omega)]
      exact cmpZ_le.2 (by omega)
     ·
      omega
theorem least_next {l s:List tTst.T} {done:List Bool} {i:Nat} (hd:∀ x∈l,okT x) (hp:(nosL l).Pairwise (· < ·)) (hs:s=sortT l) (hi:i<s.length) (hdl:done.length=l.length) (hdone:∀ j (h:j<l.length),done[j]?.getD false=true↔l[j]∈s.take i) :
  ∃ k:Nat,leastL l done l.length=k∧∃ h:k<l.length,l[k]=s[i]:=by
 obtain ⟨q1,q2⟩:=sortT_spec hd
 rw [← hs] at q1 q2
 have hnd:(nosL l).Nodup:=hp.imp fun {a b} h e=>by omega
 have hsn:(nosL s).Nodup:=(q1.map _).nodup_iff.2 hnd
 obtain ⟨b1,b2⟩:=leastL_lt l done l.length
 obtain ⟨h1,h2⟩:=leastL_is (done:=done) hd hp l.length (Nat.le_refl _)
 have hnot:s[i]∉s.take i:=fun h=>by
  obtain ⟨j,hj,e⟩:=List.mem_take_iff_getElem.1 h
  have:=List.pairwise_iff_getElem.1 hsn j i (by rw [nosL_len]; omega) (by rw [nosL_len]; omega) (by omega)
  apply this
  simp only [nosL,List.getElem_map]
  rw [e]
 obtain ⟨m,hm,hme⟩:=List.mem_iff_getElem.1 (q1.mem_iff.1 (List.getElem_mem hi))
 have hmd:done[m]?.getD false=false:=by
  cases h:done[m]?.getD false with
  | false=>rfl
  | true=>rw [hdone m hm,hme] at h; exact absurd h hnot
 have hpos:0≤leastL l done l.length:=by
  rcases Int.lt_or_le (leastL l done l.length) 0 with hneg | hpos
  ·
   have:=h1 hneg m hm
   rw [hmd] at this; cases this
  ·
   exact hpos
 obtain ⟨k,hk⟩:∃ k:Nat,leastL l done l.length=k:=⟨_,(Int.toNat_of_nonneg hpos).symm⟩
 obtain ⟨h3,h4⟩:=h2 hpos
 rw [hk] at h3 h4 b2
 have hkl:k<l.length:=by omega
 refine ⟨k,hk,hkl,?_⟩
 have e:∀ q:Nat,(hq:q<l.length)→pAt l q=l[q]:=fun q hq=>by
  unfold pAt
  rw [Int.toNat_natCast,List.getElem?_eq_getElem hq]; rfl
 have t1:=h4 m hm hmd
 rw [e k hkl,e m hm,hme] at t1
 obtain ⟨j,hj,hje⟩:=List.mem_iff_getElem.1 (q1.mem_iff.2 (List.getElem_mem hkl))
 have hij:i≤j:=by
  apply Classical.byContradiction
  intro hc
  have:l[k]∈s.take i:=List.mem_take_iff_getElem.2 ⟨j,by omega,hje⟩
  have:=(hdone k hkl).2 this
  rw [Int.toNat_natCast] at h3
  rw [h3] at this; cases this
 have t2:befT s[i] l[k]≤0:=by
  rcases Nat.lt_or_eq_of_le hij with h | h
  ·
   rw [← hje]; exact List.pairwise_iff_getElem.1 q2 i j hi hj h
  ·
   subst h
   rw [hje,ordr_befT.self (hd _ (List.getElem_mem hkl))]; exact Int.le_refl _
 have a1:=ordr_befT.anti _ _ (hd _ (List.getElem_mem hkl)) (hd _ (q1.mem_iff.1 (List.getElem_mem hi)))
 exact nos_inj hnd (List.getElem_mem hkl) (q1.mem_iff.1 (List.getElem_mem hi)) (befT_zero (by omega))
theorem sorted_ext:∀ {a b:List Int},a.Pairwise (· < ·)→b.Pairwise (· < ·)→(∀ x,x∈a↔x∈b)→a=b
 | [],[],_,_,_=>rfl
 | [],y::b,_,_,h=>by have:=(h y).2 (by simp); cases this
 | x::a,[],_,_,h=>by have:=(h x).1 (by simp); cases this
 | x::a,y::b,ha,hb,h=>by
  obtain ⟨a1,a2⟩:=List.pairwise_cons.1 ha
  obtain ⟨b1,b2⟩:=List.pairwise_cons.1 hb
  have e:x=y:=by
   rcases List.mem_cons.1 ((h x).1 (by simp)) with e | e
   ·
    exact e
   ·
    rcases List.mem_cons.1 ((h y).2 (by simp)) with e' | e'
    ·
     exact e'.symm
    ·
     have:=b1 x e
     have:=a1 y e'
     omega
  subst e
  rw [sorted_ext a2 b2 fun z => ?_]
  constructor
  ·
   intro hz
   rcases List.mem_cons.1 ((h z).1 (by simp [hz])) with e | e
   ·
    have:=a1 z hz; omega
   ·
    exact e
  ·
   intro hz
   rcases List.mem_cons.1 ((h z).2 (by simp [hz])) with e | e
   ·
    have:=b1 z hz; omega
   ·
    exact e
def selL (l:List tTst.T) (done:List Bool):Nat→List Int
 | 0=>[]
 | i+1=>if done[i]?.getD false=true then selL l done i++[(pAt l i).1] else selL l done i
theorem pAt_get {l:List tTst.T} {q:Nat} (hq:q<l.length):pAt l q=l[q]:=by
 unfold pAt
 rw [Int.toNat_natCast,List.getElem?_eq_getElem hq]; rfl
theorem sel_mem {l:List tTst.T} {done:List Bool} {x:Int}:∀ m,x∈selL l done m↔∃ j,j<m∧done[j]?.getD false=true∧(pAt l j).1=x
 | 0=>by simp [selL]
 | m+1=>by
  rw [selL]
  split
  ·
   rename_i h
   rw [List.mem_append,sel_mem m,List.mem_singleton]
   constructor
   ·
    rintro (⟨j,h1,h2,h3⟩ | rfl)
    ·
     exact ⟨j,by omega,h2,h3⟩
    ·
     exact ⟨m,by omega,h,rfl⟩
   ·
    rintro ⟨j,h1,h2,h3⟩
    rcases Nat.lt_succ_iff_lt_or_eq.1 h1 with h' | rfl
    ·
     exact .inl ⟨j,h',h2,h3⟩
    ·
     exact .inr h3.symm
  ·
   rename_i h
   rw [sel_mem m]
   constructor
   ·
    rintro ⟨j,h1,h2,h3⟩
    exact ⟨j,by omega,h2,h3⟩
   ·
    rintro ⟨j,h1,h2,h3⟩
    rcases Nat.lt_succ_iff_lt_or_eq.1 h1 with h' | rfl
    ·
     exact ⟨j,h',h2,h3⟩
    ·
     exact absurd h2 h
theorem sel_len (l:List tTst.T) (done:List Bool):∀ m,(selL l done m).length≤m
 | 0=>by simp [selL]
 | m+1=>by
  have:=sel_len l done m
  rw [selL]
  split
  ·
   simp; omega
  ·
   omega
theorem sel_pair {l:List tTst.T} {done:List Bool} (hp:(nosL l).Pairwise (· < ·)):∀ m,m≤l.length→(selL l done m).Pairwise (· < ·)
 | 0,_=>by simp [selL]
 | m+1,hm=>by
  have ih:=sel_pair (done:=done) hp m (by omega)
  rw [selL]
  split
  ·
   rw [List.pairwise_append]
   refine ⟨ih,by simp,fun a ha b hb => ?_⟩
   obtain rfl:=List.mem_singleton.1 hb
   obtain ⟨j,h1,_,rfl⟩:=(sel_mem m).1 ha
   rw [pAt_get (by omega),pAt_get (by omega)]
   have:=List.pairwise_iff_getElem.1 hp j m (by rw [nosL_len]; omega) (by rw [nosL_len]; omega) h1
   simpa [nosL] using this
  ·
   exact ih
theorem found_same {l s:List tTst.T} {done:List Bool} {i:Nat} (hd:∀ x∈l,okT x) (hp:(nosL l).Pairwise (· < ·)) (hs:s=sortT l) (hdone:∀ j (h:j<l.length),done[j]?.getD false=true↔l[j]∈s.take i) :
  selL l done l.length=isort (nosL (s.take i)):=by
 obtain ⟨q1,q2⟩:=sortT_spec hd
 rw [← hs] at q1 q2
 have hnd:(nosL l).Nodup:=hp.imp fun {a b} h e=>by omega
 have hsn:(nosL s).Nodup:=(q1.map _).nodup_iff.2 hnd
 refine sorted_ext (sel_pair hp _ (Nat.le_refl _)) ?_ fun x => ?_
 ·
  have h1:(isort (nosL (s.take i))).Nodup:=(isort_perm _).nodup_iff.2 (hsn.sublist ((List.take_sublist i s).map _))
  exact ((isort_sorted _).and h1).imp fun {a b} h=>by have:=h.1; have:=h.2; omega
 ·
  rw [sel_mem,(isort_perm _).mem_iff]
  constructor
  ·
   rintro ⟨j,h1,h2,rfl⟩
   have:=(hdone j h1).1 h2
   rw [pAt_get h1]
   exact List.mem_map.2 ⟨_,this,rfl⟩
  ·
   intro hx
   obtain ⟨y,hy,rfl⟩:=List.mem_map.1 hx
   obtain ⟨j,hj,hje⟩:=List.mem_iff_getElem.1 (q1.mem_iff.1 (List.mem_of_mem_take hy))
   refine ⟨j,hj,(hdone j hj).2 (by rw [hje]; exact hy),by rw [pAt_get hj,hje]⟩
end Go.Am
