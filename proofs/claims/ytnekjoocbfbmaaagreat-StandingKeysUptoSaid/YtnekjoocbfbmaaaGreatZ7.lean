/- Part 7 of the proof's base. -/
import Derived.Test.YtnekjoocbfbmaaaGreatZ6
set_option linter.all false
noncomputable section
namespace Go.Am
set_option maxHeartbeats 4000000
set_option maxRecDepth 20000
open Go.RowKit Go.Proofs
attribute [local simp] thenKD_normal thenKD_exit thenKD_goto thenKD_ret inBlockKD_normal inBlockKD_exit inBlockKD_goto inBlockKD_ret noGotoKD_normal noGotoKD_exit noGotoKD_goto noGotoKD_ret roundKD_normal roundKD_exit roundKD_goto roundKD_ret frzSlotsD_nil frzSlotsD_cons frzSlotD_eq yieldVCD_trace opVCD_eq vcOpsD_nil vcOpsD_cons vcAllD_zero vcAllD_succ allAtD_nil allAtD_cons readyAux edgA vcD_skip vcD_label vcD_exit vcD_goto vcD_ret vcD_region vcD_seq vcD_seqC vcD_cond vcCondD_bool vcD_block vcD_scope vcD_loop vcD_rangeFunc yieldOf isMem isMem0 keepE envLe St.le psE yieldAV round_td round_y round_Γ vI vB vS aI aB aS look getE oper opRV putE allOk okOps Op.operands Call.operands pEv qEv mEv constRV coe RV.av loadEv loadCs takeAt indexAddrEv fieldAddrEv binEv intEv arith unEv gcond pickEv argsEv callVal callEv capAV_mk lenArgs lenEv minEv extractEv convEv funcEv allBox bound sliceEv lookupEv TD.isBool allocEv boxEv storeEv spl plainTD appendEv appendArgs makeMapEv mapUpdateEv buildEv buildSliceEv fillSV zsvOf sizeTD Ty.parses parses_flats' coeA flats_length AV.good AV.cells AV.pure SV.pure av_int av_bool av_str av_slice av_cons av_fld0 av_fld1 av_fld2 av_fld3 av_fld4 Ty.of Ty.dflt Ty.parse Ty.flat Ty.zsv Ty.fld Ty.get Ty.off Ty.nfld Ty.size coeTy junk Blk.look argEnv resEv resOk resVs oneRV retOk frzAs frzAV frzL frzSV boxCaps boxCap SV.sig sigs RV.scalar AV.scalar SV.scalar nope effVCD_eq effOf SV.ids AV.ids dedup SV.ren AV.ren RV.ren idx outId mergeB Blk.pureB flats_pure flat_pure epsSlotsD_nil epsSlotsD_cons epsSlotD_eq allEp D.parts_fnOf fvParts retEff round_E av_fn G.ye isCutD_nil isCutD_cons firstReg_region firstReg_seq firstReg_skip firstReg_ret firstReg_label firstReg_exit firstReg_goto firstReg_cond firstReg_block firstReg_scope firstReg_loop firstReg_rf eptrOf_mk flOfD_nil flOfD_cons vcFlD_cons vcFlD_nil flPairs_nil flPairs_cons vcFrD_nil vcFrD_cons makeSliceEv vcCondD_ib fzEv unfl_flats isFz round_fz panVCD_eq panOf isShift strIdxEv ifaceEv nilChkEv sliceAnyEv sliceOwnEv sliceSufEv appendEv0 appendEv1 Ty.beq Ty.isAgg round_Pn vcDefD_seqR vcDefD_seqS vcDefD_seqC vcDefD_seqB vcDefD_seqL vcDefD_seqF vcDefD_seqSc vcDefD_region vcDefD_ret vcDefD_cond vcDefD_block vcDefD_loop thenKD_panic inBlockKD_panic noGotoKD_panic exitOk_normal exitOk_ret exitOk_panic exitOk_exit runDefs_none runDefs_some runDefs_cons defRegD isDefer defOf caughtCon unfl_cons D.bpart_bndOf D.parts_bndOf AV.sig
attribute [local simp ←] flats_append
def totF:D .fn:=D.fnOf 107 []
def prvF:D .fn:=D.fnOf 108 []
def listOf (f:D .fn) (x:tKd.T):List tRat.T:=match f.parts with
 | some (i,_)=>if i=108 then x.2.2.2.1 else x.2.2.1
 | none=>[]
theorem listOf_tot (x:tKd.T):listOf totF x=x.2.2.1:=by simp [listOf,totF,D.parts_fnOf]
theorem listOf_prv (x:tKd.T):listOf prvF x=x.2.2.2.1:=by simp [listOf,prvF,D.parts_fnOf]
theorem listOf_tot' (x:tKd.T):listOf (D.fnOf 107 []) x=x.2.2.1:=listOf_tot x
theorem listOf_prv' (x:tKd.T):listOf (D.fnOf 108 []) x=x.2.2.2.1:=listOf_prv x
def dR:tRat.T:=((false,[],()),(false,[],()),())
theorem mem_getD {α:Type} {l:List α} {n:Int} {d:α} (h0:0≤n) (h:n<(l.length:Int)):l[n.toNat]?.getD d∈l:=by
 rw [List.getElem?_eq_getElem (by omega),Option.getD_some]
 exact List.getElem_mem _
def ti4Γ:List (FuncId×Con):=(68,conGreat)::(107,conTot)::(108,conPrv)::ti3Γ
theorem ti4Γ_ok:∀ p∈ti4Γ,(∀ (args:Array Value) (w:World),(callFunc p.1 args).run Tryz.prog w=.ok (.enter p.1 args) w)∧PureOk Tryz.prog p.1 p.2:=by
 simp only [ti4Γ,List.forall_mem_cons]
 exact ⟨⟨enters_of Tryz.func68 (by kernel_rfl) rfl,great_ok⟩,⟨enters_of Tryz.func107 (by kernel_rfl) rfl,tot_ok⟩,⟨enters_of Tryz.func108 (by kernel_rfl) rfl,prv_ok⟩,ti3Γ_ok⟩
def ti4E:List (FuncId×ECon):=ti3E
theorem ti4E_ok:∀ p∈ti4E,(∀ (args:Array Value) (w:World),(callFunc p.1 args).run Tryz.prog w=.ok (.enter p.1 args) w)∧EffOk Tryz.prog p.1 p.2:=by
 simp only [ti4E]
 exact ti3E_ok
def ti4P:List (FuncId×PCon):=ti3P
theorem ti4P_ok:∀ p∈ti4P,(∀ (args:Array Value) (w:World),(callFunc p.1 args).run Tryz.prog w=.ok (.enter p.1 args) w)∧PanOk Tryz.prog p.1 p.2:=by
 simp only [ti4P]
 exact ti3P_ok
def ti4:G:={ τ:=tiT,Γ:=ti4Γ,E:=ti4E,Pn:=ti4P }
theorem ti4_good:ti4.good Tryz.prog:=good_of_all (tiT_ok _ rfl) ti4Γ_ok ti4E_ok ti4P_ok
theorem ti4_all:(∀ t,ti4.td t=(look tiT t).getD .other)∧ti4.y=false∧ti4.Γ=ti4Γ∧ti4.E=ti4E∧ti4.Pn=ti4P∧ti4.fz=[]:=⟨fun _=>rfl,rfl,rfl,rfl,rfl,rfl⟩
def conHasL:Con:=⟨fun args=>(match args with
 | [.agg [.int .i64 kd,.str s,.int .i64 n],.agg [.int .i64 en,.bool n1,.sl (.int .i64) m1 _,.bool n2,.sl (.int .i64) m2 _,.sl (.cons (.cons .bool (.cons (.slice (.int .i64)) .nil)) (.cons (.cons .bool (.cons (.slice (.int .i64)) .nil)) .nil)) tot _,.sl (.cons (.cons .bool (.cons (.slice (.int .i64)) .nil)) (.cons (.cons .bool (.cons (.slice (.int .i64)) .nil)) .nil)) prv _,.int .i64 hi,.int .i64 bo,.int .i64 lo],.s (.eptr .fn f)]=>f=totF∨f=prvF
 | _=>False),fun args=>match args with
 | [.agg [.int _ kd,.str s,.int _ n],.agg [.int _ en,.bool n1,.sl (.int .i64) m1 _,.bool n2,.sl (.int .i64) m2 _,.sl (.cons (.cons .bool (.cons (.slice (.int .i64)) .nil)) (.cons (.cons .bool (.cons (.slice (.int .i64)) .nil)) .nil)) tot _,.sl (.cons (.cons .bool (.cons (.slice (.int .i64)) .nil)) (.cons (.cons .bool (.cons (.slice (.int .i64)) .nil)) .nil)) prv _,.int _ hi,.int _ bo,.int _ lo],.s (.eptr .fn f)]=>.v (aB (decide (0≤n)&&decide (n<((listOf f (mkK en n1 m1 n2 m2 tot prv hi bo lo)).length:Int))))
 | _=>.v (.s .any)⟩
theorem conHasL_eq (kd:Int) (s:ByteArray) (n:Int) (en:Int) (n1:Bool) (m1:List (Ty.T tI)) (exm1:Bool) (n2:Bool) (m2:List (Ty.T tI)) (exm2:Bool) (tot:List (Ty.T tRat)) (extot:Bool) (prv:List (Ty.T tRat)) (exprv:Bool) (hi:Int) (bo:Int) (lo:Int) (f:Ty.T .fn):conHasL.pre [.agg [.int .i64 kd,.str s,.int .i64 n],.agg [.int .i64 en,.bool n1,.sl tI m1 exm1,.bool n2,.sl tI m2 exm2,.sl tRat tot extot,.sl tRat prv exprv,.int .i64 hi,.int .i64 bo,.int .i64 lo],.s (.eptr .fn f)]=(f=totF∨f=prvF)∧conHasL.val [.agg [.int .i64 kd,.str s,.int .i64 n],.agg [.int .i64 en,.bool n1,.sl tI m1 exm1,.bool n2,.sl tI m2 exm2,.sl tRat tot extot,.sl tRat prv exprv,.int .i64 hi,.int .i64 bo,.int .i64 lo],.s (.eptr .fn f)]=.v (aB (decide (0≤n)&&decide (n<((listOf f (mkK en n1 m1 n2 m2 tot prv hi bo lo)).length:Int)))):=⟨rfl,rfl⟩
theorem hasl_ok:PureOk Tryz.prog 105 conHasL:=by
 refine pureOkD (L:={ live:=[0,1,2,3,4,5] }) ti4_good rfl nr_mixed Tryz.func105 rfl conHasL 3 (by decide) (by kernel_rfl) ?_
 intro args hpre hlens
 simp only [conHasL] at hpre
 split at hpre
 case h_2=>exact hpre.elim
 rename_i kd s n en n1 m1 e1 n2 m2 e2 tot et prv ep hi bo lo f
 simp only [allLen,AV.lenOk,SV.lenOk,Ty.lenOk,maxLen,and_true,implies_true,true_and,List.forall_mem_cons,List.not_mem_nil,false_implies] at hlens
 rcases hpre with rfl | rfl <;> simp only [totF,prvF]
 all_goals refine ⟨rfl,?_⟩
 all_goals simp -dsimp -implicitDefEqProofs [Tryz.f105,conHasL_eq,listOf_tot',listOf_prv',ti4_all,tiT,ti4Γ,ti4E,ti4P,ti3Γ,ti3E,ti3P,ti1Γ,ti1E,ti1P,ti0Γ,ti0E,ti0P,conGreat_eq,conTot_eq,conPrv_eq,conCmpI_eq,conNaT_eq,inI64]
def conFstL:Con:=⟨fun args=>(match args with
 | [.agg [.int .i64 kd,.str s,.int .i64 n],.agg [.int .i64 en,.bool n1,.sl (.int .i64) m1 _,.bool n2,.sl (.int .i64) m2 _,.sl (.cons (.cons .bool (.cons (.slice (.int .i64)) .nil)) (.cons (.cons .bool (.cons (.slice (.int .i64)) .nil)) .nil)) tot _,.sl (.cons (.cons .bool (.cons (.slice (.int .i64)) .nil)) (.cons (.cons .bool (.cons (.slice (.int .i64)) .nil)) .nil)) prv _,.int .i64 hi,.int .i64 bo,.int .i64 lo],.agg [.int .i64 en',.bool n1',.sl (.int .i64) m1' _,.bool n2',.sl (.int .i64) m2' _,.sl (.cons (.cons .bool (.cons (.slice (.int .i64)) .nil)) (.cons (.cons .bool (.cons (.slice (.int .i64)) .nil)) .nil)) tot' _,.sl (.cons (.cons .bool (.cons (.slice (.int .i64)) .nil)) (.cons (.cons .bool (.cons (.slice (.int .i64)) .nil)) .nil)) prv' _,.int .i64 hi',.int .i64 bo',.int .i64 lo'],.s (.eptr .fn f)]=>(f=totF∨f=prvF)∧0≤n∧n<((listOf f (mkK en n1 m1 n2 m2 tot prv hi bo lo)).length:Int)∧n<((listOf f (mkK en' n1' m1' n2' m2' tot' prv' hi' bo' lo')).length:Int)∧allShort (listOf f (mkK en n1 m1 n2 m2 tot prv hi bo lo))∧allShort (listOf f (mkK en' n1' m1' n2' m2' tot' prv' hi' bo' lo'))
 | _=>False),fun args=>match args with
 | [.agg [.int _ kd,.str s,.int _ n],.agg [.int _ en,.bool n1,.sl (.int .i64) m1 _,.bool n2,.sl (.int .i64) m2 _,.sl (.cons (.cons .bool (.cons (.slice (.int .i64)) .nil)) (.cons (.cons .bool (.cons (.slice (.int .i64)) .nil)) .nil)) tot _,.sl (.cons (.cons .bool (.cons (.slice (.int .i64)) .nil)) (.cons (.cons .bool (.cons (.slice (.int .i64)) .nil)) .nil)) prv _,.int _ hi,.int _ bo,.int _ lo],.agg [.int _ en',.bool n1',.sl (.int .i64) m1' _,.bool n2',.sl (.int .i64) m2' _,.sl (.cons (.cons .bool (.cons (.slice (.int .i64)) .nil)) (.cons (.cons .bool (.cons (.slice (.int .i64)) .nil)) .nil)) tot' _,.sl (.cons (.cons .bool (.cons (.slice (.int .i64)) .nil)) (.cons (.cons .bool (.cons (.slice (.int .i64)) .nil)) .nil)) prv' _,.int _ hi',.int _ bo',.int _ lo'],.s (.eptr .fn f)]=>.v (aI (greatR ((listOf f (mkK en n1 m1 n2 m2 tot prv hi bo lo))[n.toNat]?.getD dR) ((listOf f (mkK en' n1' m1' n2' m2' tot' prv' hi' bo' lo'))[n.toNat]?.getD dR)))
 | _=>.v (.s .any)⟩
theorem conFstL_eq (kd:Int) (s:ByteArray) (n:Int) (en:Int) (n1:Bool) (m1:List (Ty.T tI)) (exm1:Bool) (n2:Bool) (m2:List (Ty.T tI)) (exm2:Bool) (tot:List (Ty.T tRat)) (extot:Bool) (prv:List (Ty.T tRat)) (exprv:Bool) (hi:Int) (bo:Int) (lo:Int) (en':Int) (n1':Bool) (m1':List (Ty.T tI)) (exm1':Bool) (n2':Bool) (m2':List (Ty.T tI)) (exm2':Bool) (tot':List (Ty.T tRat)) (extot':Bool) (prv':List (Ty.T tRat)) (exprv':Bool) (hi':Int) (bo':Int) (lo':Int) (f:Ty.T .fn):conFstL.pre [.agg [.int .i64 kd,.str s,.int .i64 n],.agg [.int .i64 en,.bool n1,.sl tI m1 exm1,.bool n2,.sl tI m2 exm2,.sl tRat tot extot,.sl tRat prv exprv,.int .i64 hi,.int .i64 bo,.int .i64 lo],.agg [.int .i64 en',.bool n1',.sl tI m1' exm1',.bool n2',.sl tI m2' exm2',.sl tRat tot' extot',.sl tRat prv' exprv',.int .i64 hi',.int .i64 bo',.int .i64 lo'],.s (.eptr .fn f)]=((f=totF∨f=prvF)∧0≤n∧n<((listOf f (mkK en n1 m1 n2 m2 tot prv hi bo lo)).length:Int)∧n<((listOf f (mkK en' n1' m1' n2' m2' tot' prv' hi' bo' lo')).length:Int)∧allShort (listOf f (mkK en n1 m1 n2 m2 tot prv hi bo lo))∧allShort (listOf f (mkK en' n1' m1' n2' m2' tot' prv' hi' bo' lo')))∧conFstL.val [.agg [.int .i64 kd,.str s,.int .i64 n],.agg [.int .i64 en,.bool n1,.sl tI m1 exm1,.bool n2,.sl tI m2 exm2,.sl tRat tot extot,.sl tRat prv exprv,.int .i64 hi,.int .i64 bo,.int .i64 lo],.agg [.int .i64 en',.bool n1',.sl tI m1' exm1',.bool n2',.sl tI m2' exm2',.sl tRat tot' extot',.sl tRat prv' exprv',.int .i64 hi',.int .i64 bo',.int .i64 lo'],.s (.eptr .fn f)]=.v (aI (greatR ((listOf f (mkK en n1 m1 n2 m2 tot prv hi bo lo))[n.toNat]?.getD dR) ((listOf f (mkK en' n1' m1' n2' m2' tot' prv' hi' bo' lo'))[n.toNat]?.getD dR))):=⟨rfl,rfl⟩
theorem fstl_ok:PureOk Tryz.prog 106 conFstL:=by
 refine pureOkD (L:={ live:=[0,1,2,3,4,5,6,7] }) ti4_good rfl nr_mixed Tryz.func106 rfl conFstL 4 (by decide) (by kernel_rfl) ?_
 intro args hpre hlens
 simp only [conFstL] at hpre
 split at hpre
 case h_2=>exact hpre.elim
 rename_i kd s n en n1 m1 e1 n2 m2 e2 tot et prv ep hi bo lo en' n1' m1' e1' n2' m2' e2' tot' et' prv' ep' hi' bo' lo' f
 simp only [allLen,AV.lenOk,SV.lenOk,Ty.lenOk,maxLen,and_true,implies_true,true_and,List.forall_mem_cons,List.not_mem_nil,false_implies] at hlens
 obtain ⟨hf,hn0,hx,hy,hsx,hsy⟩:=hpre; rcases hf with rfl | rfl <;> simp only [listOf_tot,listOf_prv] at hx hy hsx hsy ⊢ <;> simp only [totF,prvF]
 all_goals refine ⟨rfl,?_⟩
 all_goals simp -dsimp -implicitDefEqProofs [Tryz.f106,conFstL_eq,listOf_tot',listOf_prv',ti4_all,tiT,ti4Γ,ti4E,ti4P,ti3Γ,ti3E,ti3P,ti1Γ,ti1E,ti1P,ti0Γ,ti0E,ti0P,conGreat_eq,conTot_eq,conPrv_eq,conCmpI_eq,conNaT_eq,inI64]
 ·
  exact ⟨⟨hn0,hx⟩,⟨hn0,hy⟩,⟨hsx _ (mem_getD hn0 hx),hsy _ (mem_getD hn0 hy)⟩,rfl⟩
 ·
  exact ⟨⟨hn0,hx⟩,⟨hn0,hy⟩,⟨hsx _ (mem_getD hn0 hx),hsy _ (mem_getD hn0 hy)⟩,rfl⟩
def conListK:Con:=⟨fun args=>(match args with
 | [.s (.fnp f [])]=>True
 | _=>False),fun args=>match args with
 | [.s (.fnp f [])]=>.v (.agg [.fnp 105 [⟨.fn,D.fnOf f []⟩],.fnp 106 [⟨.fn,D.fnOf f []⟩]])
 | _=>.v (.s .any)⟩
theorem conListK_eq (f:FuncId):conListK.pre [.s (.fnp f [])]=(True)∧conListK.val [.s (.fnp f [])]=.v (.agg [.fnp 105 [⟨.fn,D.fnOf f []⟩],.fnp 106 [⟨.fn,D.fnOf f []⟩]]):=⟨rfl,rfl⟩
theorem listk_ok:PureOk Tryz.prog 104 conListK:=by
 refine pureOkD (L:={ live:=[0,1,2],eps:=[(1,[1])] }) ti0_good rfl nr_mixed Tryz.func104 rfl conListK 1 (by decide) (by kernel_rfl) ?_
 intro args hpre hlens
 simp only [conListK] at hpre
 split at hpre
 case h_2=>exact hpre.elim
 rename_i f
 simp only [allLen,AV.lenOk,SV.lenOk,Ty.lenOk,maxLen,and_true,implies_true,true_and,List.forall_mem_cons,List.not_mem_nil,false_implies] at hlens
 refine ⟨rfl,?_⟩
 simp -dsimp -implicitDefEqProofs [Tryz.f104,conListK_eq,ti0_all,tiT,ti0Γ,ti0E,ti0P,inI64]
 done
def kd1:tKind.T:=(D.fnOf 105 [⟨.fn,totF⟩],D.fnOf 106 [⟨.fn,totF⟩],())
def kd2:tKind.T:=(D.fnOf 105 [⟨.fn,prvF⟩],D.fnOf 106 [⟨.fn,prvF⟩],())
def kd3:tKind.T:=(D.fnOf 103 [],D.fnOf 109 [],())
def kd4:tKind.T:=(D.fnOf 103 [],D.fnOf 110 [],())
def kd6:tKind.T:=(D.fnOf 103 [],D.fnOf 111 [],())
def kdMap:List (Int×tKind.T):=[(1,kd1),(2,kd2),(3,kd3),(4,kd4),(6,kd6)]
def kindOf (k:Int):Option tKind.T:=mget (fun x y=>x==y) k kdMap
def ti5Γ:List (FuncId×Con):=(104,conListK)::ti4Γ
theorem ti5Γ_ok:∀ p∈ti5Γ,(∀ (args:Array Value) (w:World),(callFunc p.1 args).run Tryz.prog w=.ok (.enter p.1 args) w)∧PureOk Tryz.prog p.1 p.2:=by
 simp only [ti5Γ,List.forall_mem_cons]
 exact ⟨⟨enters_of Tryz.func104 (by kernel_rfl) rfl,listk_ok⟩,ti4Γ_ok⟩
def ti5E:List (FuncId×ECon):=ti4E
theorem ti5E_ok:∀ p∈ti5E,(∀ (args:Array Value) (w:World),(callFunc p.1 args).run Tryz.prog w=.ok (.enter p.1 args) w)∧EffOk Tryz.prog p.1 p.2:=by
 simp only [ti5E]
 exact ti4E_ok
def ti5P:List (FuncId×PCon):=ti4P
theorem ti5P_ok:∀ p∈ti5P,(∀ (args:Array Value) (w:World),(callFunc p.1 args).run Tryz.prog w=.ok (.enter p.1 args) w)∧PanOk Tryz.prog p.1 p.2:=by
 simp only [ti5P]
 exact ti4P_ok
def ti5:G:={ τ:=tiT,Γ:=ti5Γ,E:=ti5E,Pn:=ti5P }
theorem ti5_good:ti5.good Tryz.prog:=good_of_all (tiT_ok _ rfl) ti5Γ_ok ti5E_ok ti5P_ok
theorem ti5_all:(∀ t,ti5.td t=(look tiT t).getD .other)∧ti5.y=false∧ti5.Γ=ti5Γ∧ti5.E=ti5E∧ti5.Pn=ti5P∧ti5.fz=[]:=⟨fun _=>rfl,rfl,rfl,rfl,rfl,rfl⟩
def conKinds:ECon:={ wp:=fun args hp K=>match args,hp with
 | [],[]=>True∧K (.v (.s (.mp 0))) [.map tI tKind kdMap]
 | _,_=>False }
theorem kinds_ok:EffOk Tryz.prog 69 conKinds:=by
 refine effOkD (L:={ live:=[0,1,2] }) ti5_good rfl nr_mixed Tryz.func69 rfl conKinds 0 (by decide) (by kernel_rfl) ?_
 intro args hp K hpre hlens
 simp only [conKinds] at hpre
 split at hpre
 case h_2=>exact hpre.elim
 skip
 obtain ⟨_,hK⟩:=hpre
 refine ⟨rfl,?_⟩
 simp -dsimp -implicitDefEqProofs [Tryz.f69,ti5_all,tiT,ti5Γ,ti5E,ti5P,ti4Γ,ti4E,ti4P,ti3Γ,ti3E,ti3P,ti1Γ,ti1E,ti1P,ti0Γ,ti0E,ti0P,conListK_eq,conGreat_eq,conTot_eq,conPrv_eq,conCmpI_eq,conNaT_eq,inI64]
 exact hK
theorem kindOf_cases {n:Int} {kd:tKind.T} (h:kindOf n=some kd):(n=1∧kd=kd1)∨(n=2∧kd=kd2)∨(n=3∧kd=kd3)∨(n=4∧kd=kd4)∨(n=6∧kd=kd6):=by
 simp only [kindOf,kdMap,mget,beq_iff_eq] at h
 split at h
 ·
  injection h with h; exact .inl ⟨by assumption,h.symm⟩
 ·
  split at h
  ·
   injection h with h; exact .inr (.inl ⟨by assumption,h.symm⟩)
  ·
   split at h
   ·
    injection h with h; exact .inr (.inr (.inl ⟨by assumption,h.symm⟩))
   ·
    split at h
    ·
     injection h with h; exact .inr (.inr (.inr (.inl ⟨by assumption,h.symm⟩)))
    ·
     split at h
     ·
      injection h with h; exact .inr (.inr (.inr (.inr ⟨by assumption,h.symm⟩)))
     ·
      cases h
def inL (n:Int) (l:List tRat.T):Bool:=decide (0≤n)&&decide (n<(l.length:Int))
def hasK (k:tKey.T) (x:tKd.T):Bool:=if k.1=1 then inL k.2.2.1 x.2.2.1 else if k.1=2 then inL k.2.2.1 x.2.2.2.1 else true
def firstK (k:tKey.T) (x y:tKd.T):Int :=
 if k.1=1 then greatR (x.2.2.1[k.2.2.1.toNat]?.getD dR) (y.2.2.1[k.2.2.1.toNat]?.getD dR)
 else if k.1=2 then greatR (x.2.2.2.1[k.2.2.1.toNat]?.getD dR) (y.2.2.2.1[k.2.2.1.toNat]?.getD dR)
 else if k.1=3 then cmpZ y.2.2.2.2.1 x.2.2.2.2.1
 else if k.1=4 then cmpZ y.2.2.2.2.2.1 x.2.2.2.2.2.1
 else cmpZ x.2.2.2.2.2.2.1 y.2.2.2.2.2.2.1
def tame (x:tKd.T):Prop:=shortR x.2.1∧allShort x.2.2.1∧allShort x.2.2.2.1
def conP1:Con:=⟨fun args=>(match args with
 | [.agg [.int .i64 en,.bool n1,.sl (.int .i64) m1 _,.bool n2,.sl (.int .i64) m2 _,.sl (.cons (.cons .bool (.cons (.slice (.int .i64)) .nil)) (.cons (.cons .bool (.cons (.slice (.int .i64)) .nil)) .nil)) tot _,.sl (.cons (.cons .bool (.cons (.slice (.int .i64)) .nil)) (.cons (.cons .bool (.cons (.slice (.int .i64)) .nil)) .nil)) prv _,.int .i64 hi,.int .i64 bo,.int .i64 lo],.agg [.int .i64 en',.bool n1',.sl (.int .i64) m1' _,.bool n2',.sl (.int .i64) m2' _,.sl (.cons (.cons .bool (.cons (.slice (.int .i64)) .nil)) (.cons (.cons .bool (.cons (.slice (.int .i64)) .nil)) .nil)) tot' _,.sl (.cons (.cons .bool (.cons (.slice (.int .i64)) .nil)) (.cons (.cons .bool (.cons (.slice (.int .i64)) .nil)) .nil)) prv' _,.int .i64 hi',.int .i64 bo',.int .i64 lo']]=>shortR (mkR n1 m1 n2 m2)∧shortR (mkR n1' m1' n2' m2')
 | _=>False),fun args=>match args with
 | [.agg [.int _ en,.bool n1,.sl (.int .i64) m1 _,.bool n2,.sl (.int .i64) m2 _,.sl (.cons (.cons .bool (.cons (.slice (.int .i64)) .nil)) (.cons (.cons .bool (.cons (.slice (.int .i64)) .nil)) .nil)) tot _,.sl (.cons (.cons .bool (.cons (.slice (.int .i64)) .nil)) (.cons (.cons .bool (.cons (.slice (.int .i64)) .nil)) .nil)) prv _,.int _ hi,.int _ bo,.int _ lo],.agg [.int _ en',.bool n1',.sl (.int .i64) m1' _,.bool n2',.sl (.int .i64) m2' _,.sl (.cons (.cons .bool (.cons (.slice (.int .i64)) .nil)) (.cons (.cons .bool (.cons (.slice (.int .i64)) .nil)) .nil)) tot' _,.sl (.cons (.cons .bool (.cons (.slice (.int .i64)) .nil)) (.cons (.cons .bool (.cons (.slice (.int .i64)) .nil)) .nil)) prv' _,.int _ hi',.int _ bo',.int _ lo']]=>.v (aI (greatR (mkR n1 m1 n2 m2) (mkR n1' m1' n2' m2')))
 | _=>.v (.s .any)⟩
theorem conP1_eq (en:Int) (n1:Bool) (m1:List (Ty.T tI)) (exm1:Bool) (n2:Bool) (m2:List (Ty.T tI)) (exm2:Bool) (tot:List (Ty.T tRat)) (extot:Bool) (prv:List (Ty.T tRat)) (exprv:Bool) (hi:Int) (bo:Int) (lo:Int) (en':Int) (n1':Bool) (m1':List (Ty.T tI)) (exm1':Bool) (n2':Bool) (m2':List (Ty.T tI)) (exm2':Bool) (tot':List (Ty.T tRat)) (extot':Bool) (prv':List (Ty.T tRat)) (exprv':Bool) (hi':Int) (bo':Int) (lo':Int):conP1.pre [.agg [.int .i64 en,.bool n1,.sl tI m1 exm1,.bool n2,.sl tI m2 exm2,.sl tRat tot extot,.sl tRat prv exprv,.int .i64 hi,.int .i64 bo,.int .i64 lo],.agg [.int .i64 en',.bool n1',.sl tI m1' exm1',.bool n2',.sl tI m2' exm2',.sl tRat tot' extot',.sl tRat prv' exprv',.int .i64 hi',.int .i64 bo',.int .i64 lo']]=(shortR (mkR n1 m1 n2 m2)∧shortR (mkR n1' m1' n2' m2'))∧conP1.val [.agg [.int .i64 en,.bool n1,.sl tI m1 exm1,.bool n2,.sl tI m2 exm2,.sl tRat tot extot,.sl tRat prv exprv,.int .i64 hi,.int .i64 bo,.int .i64 lo],.agg [.int .i64 en',.bool n1',.sl tI m1' exm1',.bool n2',.sl tI m2' exm2',.sl tRat tot' extot',.sl tRat prv' exprv',.int .i64 hi',.int .i64 bo',.int .i64 lo']]=.v (aI (greatR (mkR n1 m1 n2 m2) (mkR n1' m1' n2' m2'))):=⟨rfl,rfl⟩
theorem p1_ok:PureOk Tryz.prog 67 conP1:=by
 refine pureOkD (L:={ live:=[0,1,2,3,4] }) ti4_good rfl nr_mixed Tryz.func67 rfl conP1 2 (by decide) (by kernel_rfl) ?_
 intro args hpre hlens
 simp only [conP1] at hpre
 split at hpre
 case h_2=>exact hpre.elim
 rename_i en n1 m1 e1 n2 m2 e2 tot et prv ep hi bo lo en' n1' m1' e1' n2' m2' e2' tot' et' prv' ep' hi' bo' lo'
 simp only [allLen,AV.lenOk,SV.lenOk,Ty.lenOk,maxLen,and_true,implies_true,true_and,List.forall_mem_cons,List.not_mem_nil,false_implies] at hlens
 refine ⟨rfl,?_⟩
 simp -dsimp -implicitDefEqProofs [Tryz.f67,conP1_eq,ti4_all,tiT,ti4Γ,ti4E,ti4P,ti3Γ,ti3E,ti3P,ti1Γ,ti1E,ti1P,ti0Γ,ti0E,ti0P,conGreat_eq,conTot_eq,conPrv_eq,conCmpI_eq,conNaT_eq,inI64]
 exact hpre
def ti6Γ:List (FuncId×Con):=(105,conHasL)::(106,conFstL)::(103,conAlw)::(109,conHig)::(110,conBon)::(111,conLot)::ti4Γ
theorem ti6Γ_ok:∀ p∈ti6Γ,(∀ (args:Array Value) (w:World),(callFunc p.1 args).run Tryz.prog w=.ok (.enter p.1 args) w)∧PureOk Tryz.prog p.1 p.2:=by
 simp only [ti6Γ,List.forall_mem_cons]
 exact ⟨⟨enters_of Tryz.func105 (by kernel_rfl) rfl,hasl_ok⟩,⟨enters_of Tryz.func106 (by kernel_rfl) rfl,fstl_ok⟩,⟨enters_of Tryz.func103 (by kernel_rfl) rfl,alw_ok⟩,⟨enters_of Tryz.func109 (by kernel_rfl) rfl,hig_ok⟩,⟨enters_of Tryz.func110 (by kernel_rfl) rfl,bon_ok⟩,⟨enters_of Tryz.func111 (by kernel_rfl) rfl,lot_ok⟩,ti4Γ_ok⟩
def ti6E:List (FuncId×ECon):=ti4E
theorem ti6E_ok:∀ p∈ti6E,(∀ (args:Array Value) (w:World),(callFunc p.1 args).run Tryz.prog w=.ok (.enter p.1 args) w)∧EffOk Tryz.prog p.1 p.2:=by
 simp only [ti6E]
 exact ti4E_ok
def ti6P:List (FuncId×PCon):=ti4P
theorem ti6P_ok:∀ p∈ti6P,(∀ (args:Array Value) (w:World),(callFunc p.1 args).run Tryz.prog w=.ok (.enter p.1 args) w)∧PanOk Tryz.prog p.1 p.2:=by
 simp only [ti6P]
 exact ti4P_ok
def ti6:G:={ τ:=tiT,Γ:=ti6Γ,E:=ti6E,Pn:=ti6P }
theorem ti6_good:ti6.good Tryz.prog:=good_of_all (tiT_ok _ rfl) ti6Γ_ok ti6E_ok ti6P_ok
theorem ti6_all:(∀ t,ti6.td t=(look tiT t).getD .other)∧ti6.y=false∧ti6.Γ=ti6Γ∧ti6.E=ti6E∧ti6.Pn=ti6P∧ti6.fz=[]:=⟨fun _=>rfl,rfl,rfl,rfl,rfl,rfl⟩
def conP2:Con:=⟨fun args=>(match args with
 | [.agg [.int .i64 en,.bool n1,.sl (.int .i64) m1 _,.bool n2,.sl (.int .i64) m2 _,.sl (.cons (.cons .bool (.cons (.slice (.int .i64)) .nil)) (.cons (.cons .bool (.cons (.slice (.int .i64)) .nil)) .nil)) tot _,.sl (.cons (.cons .bool (.cons (.slice (.int .i64)) .nil)) (.cons (.cons .bool (.cons (.slice (.int .i64)) .nil)) .nil)) prv _,.int .i64 hi,.int .i64 bo,.int .i64 lo],.s (.eptr (.cons .fn (.cons .fn .nil)) kd),.s (.eptr (.cons (.int .i64) (.cons .str (.cons (.int .i64) .nil))) k)]=>kindOf k.1=some kd
 | _=>False),fun args=>match args with
 | [.agg [.int _ en,.bool n1,.sl (.int .i64) m1 _,.bool n2,.sl (.int .i64) m2 _,.sl (.cons (.cons .bool (.cons (.slice (.int .i64)) .nil)) (.cons (.cons .bool (.cons (.slice (.int .i64)) .nil)) .nil)) tot _,.sl (.cons (.cons .bool (.cons (.slice (.int .i64)) .nil)) (.cons (.cons .bool (.cons (.slice (.int .i64)) .nil)) .nil)) prv _,.int _ hi,.int _ bo,.int _ lo],.s (.eptr (.cons .fn (.cons .fn .nil)) kd),.s (.eptr (.cons (.int .i64) (.cons .str (.cons (.int .i64) .nil))) k)]=>.v (aB (hasK k (mkK en n1 m1 n2 m2 tot prv hi bo lo)))
 | _=>.v (.s .any)⟩
theorem conP2_eq (en:Int) (n1:Bool) (m1:List (Ty.T tI)) (exm1:Bool) (n2:Bool) (m2:List (Ty.T tI)) (exm2:Bool) (tot:List (Ty.T tRat)) (extot:Bool) (prv:List (Ty.T tRat)) (exprv:Bool) (hi:Int) (bo:Int) (lo:Int) (kd:Ty.T (.cons .fn (.cons .fn .nil))) (k:Ty.T tKey):conP2.pre [.agg [.int .i64 en,.bool n1,.sl tI m1 exm1,.bool n2,.sl tI m2 exm2,.sl tRat tot extot,.sl tRat prv exprv,.int .i64 hi,.int .i64 bo,.int .i64 lo],.s (.eptr (.cons .fn (.cons .fn .nil)) kd),.s (.eptr tKey k)]=(kindOf k.1=some kd)∧conP2.val [.agg [.int .i64 en,.bool n1,.sl tI m1 exm1,.bool n2,.sl tI m2 exm2,.sl tRat tot extot,.sl tRat prv exprv,.int .i64 hi,.int .i64 bo,.int .i64 lo],.s (.eptr (.cons .fn (.cons .fn .nil)) kd),.s (.eptr tKey k)]=.v (aB (hasK k (mkK en n1 m1 n2 m2 tot prv hi bo lo))):=⟨rfl,rfl⟩
theorem p2_ok:PureOk Tryz.prog 70 conP2:=by
 refine pureOkD (L:={ live:=[0,1,2,3,4] }) ti6_good rfl nr_mixed Tryz.func70 rfl conP2 3 (by decide) (by kernel_rfl) ?_
 intro args hpre hlens
 simp only [conP2] at hpre
 split at hpre
 case h_2=>exact hpre.elim
 rename_i en n1 m1 e1 n2 m2 e2 tot et prv ep hi bo lo kd k
 simp only [allLen,AV.lenOk,SV.lenOk,Ty.lenOk,maxLen,and_true,implies_true,true_and,List.forall_mem_cons,List.not_mem_nil,false_implies] at hlens
 obtain ⟨k0,ks,kn,⟨⟩⟩:=k; rcases kindOf_cases hpre with ⟨hk,rfl⟩ | ⟨hk,rfl⟩ | ⟨hk,rfl⟩ | ⟨hk,rfl⟩ | ⟨hk,rfl⟩ <;> simp only at hk <;> subst hk <;> simp only [kd1,kd2,kd3,kd4,kd6]
 all_goals refine ⟨rfl,?_⟩
 all_goals simp -dsimp -implicitDefEqProofs [Tryz.f70,conP2_eq,ti6_all,tiT,ti6Γ,ti6E,ti6P,ti4Γ,ti4E,ti4P,ti3Γ,ti3E,ti3P,ti1Γ,ti1E,ti1P,ti0Γ,ti0E,ti0P,conHasL_eq,conFstL_eq,conAlw_eq,conHig_eq,conBon_eq,conLot_eq,conGreat_eq,conTot_eq,conPrv_eq,conCmpI_eq,conNaT_eq,inI64]
 ·
  rw [listOf_tot]; rfl
 ·
  rw [listOf_prv]; rfl
 ·
  rfl
 ·
  rfl
 ·
  rfl
def conP3:Con:=⟨fun args=>(match args with
 | [.agg [.int .i64 en,.bool n1,.sl (.int .i64) m1 _,.bool n2,.sl (.int .i64) m2 _,.sl (.cons (.cons .bool (.cons (.slice (.int .i64)) .nil)) (.cons (.cons .bool (.cons (.slice (.int .i64)) .nil)) .nil)) tot _,.sl (.cons (.cons .bool (.cons (.slice (.int .i64)) .nil)) (.cons (.cons .bool (.cons (.slice (.int .i64)) .nil)) .nil)) prv _,.int .i64 hi,.int .i64 bo,.int .i64 lo],.agg [.int .i64 en',.bool n1',.sl (.int .i64) m1' _,.bool n2',.sl (.int .i64) m2' _,.sl (.cons (.cons .bool (.cons (.slice (.int .i64)) .nil)) (.cons (.cons .bool (.cons (.slice (.int .i64)) .nil)) .nil)) tot' _,.sl (.cons (.cons .bool (.cons (.slice (.int .i64)) .nil)) (.cons (.cons .bool (.cons (.slice (.int .i64)) .nil)) .nil)) prv' _,.int .i64 hi',.int .i64 bo',.int .i64 lo'],.s (.eptr (.cons .fn (.cons .fn .nil)) kd),.s (.eptr (.cons (.int .i64) (.cons .str (.cons (.int .i64) .nil))) k)]=>kindOf k.1=some kd∧hasK k (mkK en n1 m1 n2 m2 tot prv hi bo lo)=true∧hasK k (mkK en' n1' m1' n2' m2' tot' prv' hi' bo' lo')=true∧tame (mkK en n1 m1 n2 m2 tot prv hi bo lo)∧tame (mkK en' n1' m1' n2' m2' tot' prv' hi' bo' lo')
 | _=>False),fun args=>match args with
 | [.agg [.int _ en,.bool n1,.sl (.int .i64) m1 _,.bool n2,.sl (.int .i64) m2 _,.sl (.cons (.cons .bool (.cons (.slice (.int .i64)) .nil)) (.cons (.cons .bool (.cons (.slice (.int .i64)) .nil)) .nil)) tot _,.sl (.cons (.cons .bool (.cons (.slice (.int .i64)) .nil)) (.cons (.cons .bool (.cons (.slice (.int .i64)) .nil)) .nil)) prv _,.int _ hi,.int _ bo,.int _ lo],.agg [.int _ en',.bool n1',.sl (.int .i64) m1' _,.bool n2',.sl (.int .i64) m2' _,.sl (.cons (.cons .bool (.cons (.slice (.int .i64)) .nil)) (.cons (.cons .bool (.cons (.slice (.int .i64)) .nil)) .nil)) tot' _,.sl (.cons (.cons .bool (.cons (.slice (.int .i64)) .nil)) (.cons (.cons .bool (.cons (.slice (.int .i64)) .nil)) .nil)) prv' _,.int _ hi',.int _ bo',.int _ lo'],.s (.eptr (.cons .fn (.cons .fn .nil)) kd),.s (.eptr (.cons (.int .i64) (.cons .str (.cons (.int .i64) .nil))) k)]=>.v (aI (firstK k (mkK en n1 m1 n2 m2 tot prv hi bo lo) (mkK en' n1' m1' n2' m2' tot' prv' hi' bo' lo')))
 | _=>.v (.s .any)⟩
theorem conP3_eq (en:Int) (n1:Bool) (m1:List (Ty.T tI)) (exm1:Bool) (n2:Bool) (m2:List (Ty.T tI)) (exm2:Bool) (tot:List (Ty.T tRat)) (extot:Bool) (prv:List (Ty.T tRat)) (exprv:Bool) (hi:Int) (bo:Int) (lo:Int) (en':Int) (n1':Bool) (m1':List (Ty.T tI)) (exm1':Bool) (n2':Bool) (m2':List (Ty.T tI)) (exm2':Bool) (tot':List (Ty.T tRat)) (extot':Bool) (prv':List (Ty.T tRat)) (exprv':Bool) (hi':Int) (bo':Int) (lo':Int) (kd:Ty.T (.cons .fn (.cons .fn .nil))) (k:Ty.T tKey):conP3.pre [.agg [.int .i64 en,.bool n1,.sl tI m1 exm1,.bool n2,.sl tI m2 exm2,.sl tRat tot extot,.sl tRat prv exprv,.int .i64 hi,.int .i64 bo,.int .i64 lo],.agg [.int .i64 en',.bool n1',.sl tI m1' exm1',.bool n2',.sl tI m2' exm2',.sl tRat tot' extot',.sl tRat prv' exprv',.int .i64 hi',.int .i64 bo',.int .i64 lo'],.s (.eptr (.cons .fn (.cons .fn .nil)) kd),.s (.eptr tKey k)]=(kindOf k.1=some kd∧hasK k (mkK en n1 m1 n2 m2 tot prv hi bo lo)=true∧hasK k (mkK en' n1' m1' n2' m2' tot' prv' hi' bo' lo')=true∧tame (mkK en n1 m1 n2 m2 tot prv hi bo lo)∧tame (mkK en' n1' m1' n2' m2' tot' prv' hi' bo' lo'))∧conP3.val [.agg [.int .i64 en,.bool n1,.sl tI m1 exm1,.bool n2,.sl tI m2 exm2,.sl tRat tot extot,.sl tRat prv exprv,.int .i64 hi,.int .i64 bo,.int .i64 lo],.agg [.int .i64 en',.bool n1',.sl tI m1' exm1',.bool n2',.sl tI m2' exm2',.sl tRat tot' extot',.sl tRat prv' exprv',.int .i64 hi',.int .i64 bo',.int .i64 lo'],.s (.eptr (.cons .fn (.cons .fn .nil)) kd),.s (.eptr tKey k)]=.v (aI (firstK k (mkK en n1 m1 n2 m2 tot prv hi bo lo) (mkK en' n1' m1' n2' m2' tot' prv' hi' bo' lo'))):=⟨rfl,rfl⟩
theorem p3_ok:PureOk Tryz.prog 71 conP3:=by
 refine pureOkD (L:={ live:=[0,1,2,3,4,5,6] }) ti6_good rfl nr_mixed Tryz.func71 rfl conP3 4 (by decide) (by kernel_rfl) ?_
 intro args hpre hlens
 simp only [conP3] at hpre
 split at hpre
 case h_2=>exact hpre.elim
 rename_i en n1 m1 e1 n2 m2 e2 tot et prv ep hi bo lo en' n1' m1' e1' n2' m2' e2' tot' et' prv' ep' hi' bo' lo' kd k
 simp only [allLen,AV.lenOk,SV.lenOk,Ty.lenOk,maxLen,and_true,implies_true,true_and,List.forall_mem_cons,List.not_mem_nil,false_implies] at hlens
 obtain ⟨k0,ks,kn,⟨⟩⟩:=k; obtain ⟨hkd,hx,hy,htx,hty⟩:=hpre; rcases kindOf_cases hkd with ⟨hk,rfl⟩ | ⟨hk,rfl⟩ | ⟨hk,rfl⟩ | ⟨hk,rfl⟩ | ⟨hk,rfl⟩ <;> simp only at hk <;> subst hk <;> simp only [kd1,kd2,kd3,kd4,kd6]
 all_goals refine ⟨rfl,?_⟩
 all_goals simp -dsimp -implicitDefEqProofs [Tryz.f71,conP3_eq,ti6_all,tiT,ti6Γ,ti6E,ti6P,ti4Γ,ti4E,ti4P,ti3Γ,ti3E,ti3P,ti1Γ,ti1E,ti1P,ti0Γ,ti0E,ti0P,conHasL_eq,conFstL_eq,conAlw_eq,conHig_eq,conBon_eq,conLot_eq,conGreat_eq,conTot_eq,conPrv_eq,conCmpI_eq,conNaT_eq,inI64]
 ·
  rw [listOf_tot,listOf_tot]
  have hx':inL kn tot=true:=hx
  have hy':inL kn tot'=true:=hy
  simp only [inL,Bool.and_eq_true,decide_eq_true_eq] at hx' hy'
  exact ⟨⟨hx'.1,hx'.2,hy'.2,htx.2.1,hty.2.1⟩,rfl⟩
 ·
  rw [listOf_prv,listOf_prv]
  have hx':inL kn prv=true:=hx
  have hy':inL kn prv'=true:=hy
  simp only [inL,Bool.and_eq_true,decide_eq_true_eq] at hx' hy'
  exact ⟨⟨hx'.1,hx'.2,hy'.2,htx.2.2,hty.2.2⟩,rfl⟩
 ·
  rfl
 ·
  rfl
 ·
  rfl
def kdOf (k:tKey.T):tKind.T:=(kindOf k.1).getD (.nofn,.nofn,())
def known (k:tKey.T):Bool:=(kindOf k.1).isSome
def hasF (k:tKey.T):D .fn:=D.fnOf 70 [⟨tKind,kdOf k⟩,⟨tKey,k⟩]
def fstF (k:tKey.T):D .fn:=D.fnOf 71 [⟨tKind,kdOf k⟩,⟨tKey,k⟩]
def headF:D .fn:=D.fnOf 67 []
def hasLs (ks:List tKey.T):List (D .fn):=(ks.takeWhile known).map hasF
def fstLs (ks:List tKey.T):List (D .fn):=headF::(ks.takeWhile known).map fstF
def hasT (ks:List tKey.T) (i:Nat):List (D .fn):=(ks.take i).map hasF
def fstT (ks:List tKey.T) (i:Nat):List (D .fn):=headF::(ks.take i).map fstF
theorem hasT_len {ks:List tKey.T} {i:Nat} (h:i≤ks.length):(hasT ks i).length=i:=by simp [hasT]; omega
theorem fstT_len {ks:List tKey.T} {i:Nat} (h:i≤ks.length):(fstT ks i).length=i+1:=by simp [fstT]; omega
theorem hasT_zero (ks:List tKey.T):hasT ks 0=[]:=rfl
theorem fstT_zero (ks:List tKey.T):fstT ks 0=[D.fnOf 67 []]:=rfl
theorem hasT_succ {ks:List tKey.T} {i:Nat} (h:i<ks.length) {kd:tKind.T} (hk:kindOf ks[i].1=some kd):hasT ks (i+1)=hasT ks i++[D.fnOf 70 [⟨tKind,kd⟩,⟨tKey,ks[i]⟩]]:=by
 simp only [hasT,List.take_add_one,List.getElem?_eq_getElem h,Option.toList,List.map_append,List.map_cons,List.map_nil,hasF,kdOf,hk,Option.getD_some]
theorem fstT_succ {ks:List tKey.T} {i:Nat} (h:i<ks.length) {kd:tKind.T} (hk:kindOf ks[i].1=some kd):fstT ks (i+1)=fstT ks i++[D.fnOf 71 [⟨tKind,kd⟩,⟨tKey,ks[i]⟩]]:=by
 simp only [fstT,List.take_add_one,List.getElem?_eq_getElem h,Option.toList,List.map_append,List.map_cons,List.map_nil,fstF,kdOf,hk,Option.getD_some,List.cons_append]
theorem take_known {ks:List tKey.T}:∀ {i:Nat},i≤ks.length→(∀ j (h:j<ks.length),j<i→known ks[j]=true)→(∀ h:i<ks.length,known ks[i]=false)→ks.takeWhile known=ks.take i:=by
 induction ks with
 | nil=>intro i _ _ _; simp
 | cons x r ih =>
  intro i hi h1 h2
  cases i with
  | zero=>have:=h2 (by simp); simp at this; simp [this]
  | succ i =>
   have h0:=h1 0 (by simp) (by omega)
   simp only [List.getElem_cons_zero] at h0
   simp only [List.takeWhile_cons,h0,if_true,List.take_succ_cons,List.cons.injEq,true_and]
   exact ih (by simpa using hi) (fun j h hj=>by have:=h1 (j+1) (by simpa using h) (by omega); simpa using this) (fun h=>by have:=h2 (by simpa using h); simpa using this)
theorem hasLs_at {ks:List tKey.T} {i:Nat} (hi:i≤ks.length) (h1:∀ j (h:j<ks.length),j<i→known ks[j]=true) (h2:∀ h:i<ks.length,known ks[i]=false):hasT ks i=hasLs ks∧fstT ks i=fstLs ks:=by
 simp [hasT,fstT,hasLs,fstLs,take_known hi h1 h2]
def plainB (ks:List tKey.T):Bool:=ks.all known&&decide (ks.length≤32)
def ti7Γ:List (FuncId×Con):=ti0Γ
theorem ti7Γ_ok:∀ p∈ti7Γ,(∀ (args:Array Value) (w:World),(callFunc p.1 args).run Tryz.prog w=.ok (.enter p.1 args) w)∧PureOk Tryz.prog p.1 p.2:=by
 simp only [ti7Γ]
 exact ti0Γ_ok
def ti7E:List (FuncId×ECon):=(69,conKinds)::ti0E
theorem ti7E_ok:∀ p∈ti7E,(∀ (args:Array Value) (w:World),(callFunc p.1 args).run Tryz.prog w=.ok (.enter p.1 args) w)∧EffOk Tryz.prog p.1 p.2:=by
 simp only [ti7E,List.forall_mem_cons]
 exact ⟨⟨enters_of Tryz.func69 (by kernel_rfl) rfl,kinds_ok⟩,ti0E_ok⟩
def ti7P:List (FuncId×PCon):=ti0P
theorem ti7P_ok:∀ p∈ti7P,(∀ (args:Array Value) (w:World),(callFunc p.1 args).run Tryz.prog w=.ok (.enter p.1 args) w)∧PanOk Tryz.prog p.1 p.2:=by
 simp only [ti7P]
 exact ti0P_ok
def ti7:G:={ τ:=tiT,Γ:=ti7Γ,E:=ti7E,Pn:=ti7P }
theorem ti7_good:ti7.good Tryz.prog:=good_of_all (tiT_ok _ rfl) ti7Γ_ok ti7E_ok ti7P_ok
theorem ti7_all:(∀ t,ti7.td t=(look tiT t).getD .other)∧ti7.y=false∧ti7.Γ=ti7Γ∧ti7.E=ti7E∧ti7.Pn=ti7P∧ti7.fz=[]:=⟨fun _=>rfl,rfl,rfl,rfl,rfl,rfl⟩
def conPlain:Con:=⟨fun args=>(match args with
 | [.s (.sl (.cons (.int .i64) (.cons .str (.cons (.int .i64) .nil))) ks _)]=>ks.length≤100000
 | _=>False),fun args=>match args with
 | [.s (.sl (.cons (.int .i64) (.cons .str (.cons (.int .i64) .nil))) ks _)]=>.tup [.agg [.sl .fn (hasLs ks) false,.sl .fn (fstLs ks) false],aB (plainB ks)]
 | _=>.v (.s .any)⟩
theorem conPlain_eq (ks:List (Ty.T tKey)) (exks:Bool):conPlain.pre [.s (.sl tKey ks exks)]=(ks.length≤100000)∧conPlain.val [.s (.sl tKey ks exks)]=.tup [.agg [.sl .fn (hasLs ks) false,.sl .fn (fstLs ks) false],aB (plainB ks)]:=⟨rfl,rfl⟩
theorem plain_ok:PureOk Tryz.prog 40 conPlain:=by
 refine pureOkD (L:={ live:=[0,2,3,4,6,7,8,15,16,17,18,29],eps:=[(9,[7,6]),(10,[7,6])],frz:=[(8,[2]),(12,[2])] }) ti7_good rfl nr_mixed Tryz.func40 rfl conPlain 1 (by decide) (by kernel_rfl) ?_
 intro args hpre hlens
 simp only [conPlain] at hpre
 split at hpre
 case h_2=>exact hpre.elim
 rename_i ks ek
 simp only [allLen,AV.lenOk,SV.lenOk,Ty.lenOk,maxLen,and_true,implies_true,true_and,List.forall_mem_cons,List.not_mem_nil,false_implies] at hlens
 refine ⟨rfl,?_⟩
 simp -dsimp -implicitDefEqProofs [Tryz.f40,conPlain_eq,ti7_all,tiT,ti7Γ,ti7E,ti7P,ti0Γ,ti0E,ti0P,conKinds,inI64]
 have hmx:200000≤maxLen:=by simp only [maxLen]; omega
 refine ⟨by omega,?_⟩
 refine WpD.turn _ (Turn.virtBox (b:=0) (off:=0) (t:=.fn) (xs:=[]) rfl rfl) ?_
 refine WpD.loop (L:={ live:=[0,2,3,4,6,7,8,15,16,17,18,29],eps:=[(9,[7,6]),(10,[7,6])],frz:=[(8,[2]),(12,[2])] }) ti7_good X0_ok nr_mixed (by kernel_rfl)
  (fun i:Nat=>⟨[(0,vS tKey ks ek),(2,⟨true,.v (.s (.box 0 0))⟩),(3,vB false),(4,⟨true,.v (.s (.mp 2))⟩),(15,vS tKey ks ek),(16,vI ks.length),(17,vI i)],[.cells [.own .fn 3 (hasT ks i).length,.own .fn 1 (fstT ks i).length],.arr true (Ty.fn.flats (fstT ks i)),.map tI tKind kdMap,.arr (decide (0<i)) (Ty.fn.flats (hasT ks i))]⟩)
  (fun i=>i≤ks.length∧∀ j (h:j<ks.length),j<i→known ks[j]=true) (fun i=>ks.length - i) 0 ⟨Nat.zero_le _,fun j _ h=>absurd h (by omega)⟩ (Turn.le (by simp -dsimp -implicitDefEqProofs [hasT_zero,fstT_zero])) ?_
 rintro i ⟨hi,hk⟩
 have l1:=hasT_len hi
 have l2:=fstT_len hi
 have hm:∀ n:Int,mget (fun x x_1=>x==x_1) n kdMap=kindOf n:=fun n=>rfl
 rcases Nat.lt_or_ge i ks.length with hil | hge
 ·
  rcases hkn:kindOf ks[i].1 with _ | kd
  ·
   obtain ⟨q1,q2⟩:=hasLs_at hi hk (fun h=>by simp [known,hkn])
   rw [q1,q2] at *
   simp -dsimp -implicitDefEqProofs [conPlain_eq,hil,hm,hkn,ti7_all,tiT,ti7Γ,ti7E,ti7P,ti0Γ,ti0E,ti0P,conKinds,inI64]
   refine ⟨_,rfl,rfl,rfl,?_⟩
   rw [plainB,Bool.and_eq_false_iff]
   left
   rw [List.all_eq_false]
   exact ⟨ks[i],List.getElem_mem hil,by simp [known,hkn]⟩
  ·
   have s1:=hasT_succ hil hkn
   have s2:=fstT_succ hil hkn
   simp -dsimp -implicitDefEqProofs [conPlain_eq,hil,hm,hkn,ti7_all,tiT,ti7Γ,ti7E,ti7P,ti0Γ,ti0E,ti0P,conKinds,inI64]
   rw [l1,l2]
   refine ⟨⟨by omega,by omega⟩,⟨by omega,by omega⟩,⟨by omega,by omega⟩,i+1,⟨by omega,fun j h hj => ?_⟩,by omega,?_⟩
   ·
    rcases Nat.lt_or_ge j i with h3 | h3
    ·
     exact hk j h h3
    ·
     obtain rfl:j=i:=by omega
     simp [known,hkn]
   have l3:=hasT_len (show i+1≤ks.length by omega)
   have l4:=fstT_len (show i+1≤ks.length by omega)
   rw [l3,l4,s1,s2]
   have hp0:decide (0<i+1)=true:=by simp
   rw [hp0]
   generalize fstT ks i=F at *
   generalize hasT ks i=H at *
   generalize ks[i]=kk at *
   obtain ⟨k0,k1,k2,⟨⟩⟩:=kk
   obtain ⟨d0,d1,⟨⟩⟩:=kd
   dsimp only
   exact TurnT.trunc X0_ok (hp:=[.cells [.own .fn 3 (i+1),.own .fn 1 (i+1+1)],.arr true _,.map tI tKind kdMap,.arr true _]) (junk:=[_,_]) (by simp) (by simp only [List.length_cons,List.length_nil,List.all_cons,List.all_nil,arr_below,Bool.and_true] <;> simp [Blk.below,SV.below]) (by simp -dsimp -implicitDefEqProofs) (by simp [envBelow,RV.below,AV.below,SV.below])
 ·
  obtain rfl:i=ks.length:=by omega
  have hn:¬ ks.length<ks.length:=by omega
  obtain ⟨q1,q2⟩:=hasLs_at (i:=ks.length) (Nat.le_refl _) hk (fun h=>absurd h hn)
  rw [q1,q2] at *
  simp -dsimp -implicitDefEqProofs [conPlain_eq,hn,ti7_all,tiT,ti7Γ,ti7E,ti7P,ti0Γ,ti0E,ti0P,conKinds,inI64]
  refine ⟨_,rfl,rfl,rfl,?_⟩
  have ha:ks.all known=true:=by
   rw [List.all_eq_true]
   intro k hk2
   obtain ⟨j,hj,rfl⟩:=List.mem_iff_getElem.1 hk2
   exact hk j hj hj
  rw [plainB,ha,Bool.true_and]
  rw [decide_eq_decide]
  omega
def keyOf (h:D .fn):tKey.T:=match h.parts with
 | some (_,[_,c])=>if e:c.1=tKey then e▸c.2 else (0,ByteArray.empty,0,())
 | _=>(0,ByteArray.empty,0,())
theorem keyOf_has (k:tKey.T):keyOf (hasF k)=k:=by simp [keyOf,hasF,D.parts_fnOf]
theorem keyOf_fst (k:tKey.T):keyOf (fstF k)=k:=by simp [keyOf,fstF,D.parts_fnOf]
def goodH (h:D .fn):Prop:=∃ k,known k=true∧h=hasF k
theorem goodH_hasLs {ks:List tKey.T}:∀ h∈hasLs ks,goodH h:=by
 intro h hh
 obtain ⟨k,hk,rfl⟩:=List.mem_map.1 hh
 exact ⟨k,List.all_takeWhile (p:=known) (l:=ks) |> List.all_eq_true.1 |> (· k hk),rfl⟩
theorem known_kd {k:tKey.T} (h:known k=true):kindOf k.1=some (kdOf k):=by
 unfold known kdOf at *
 cases hk:kindOf k.1 with
 | none=>rw [hk] at h; cases h
 | some d=>rfl
def wrongV (hs:List (D .fn)) (x:tKd.T):Bool:=hs.any (fun h => !hasK (keyOf h) x)||(oddR x.2.1||(x.2.2.1.any oddR||x.2.2.2.1.any oddR))
def ti8Γ:List (FuncId×Con):=(72,conOddR)::ti0Γ
theorem ti8Γ_ok:∀ p∈ti8Γ,(∀ (args:Array Value) (w:World),(callFunc p.1 args).run Tryz.prog w=.ok (.enter p.1 args) w)∧PureOk Tryz.prog p.1 p.2:=by
 simp only [ti8Γ,List.forall_mem_cons]
 exact ⟨⟨enters_of Tryz.func72 (by kernel_rfl) rfl,oddr_ok⟩,ti0Γ_ok⟩
def ti8E:List (FuncId×ECon):=ti0E
theorem ti8E_ok:∀ p∈ti8E,(∀ (args:Array Value) (w:World),(callFunc p.1 args).run Tryz.prog w=.ok (.enter p.1 args) w)∧EffOk Tryz.prog p.1 p.2:=by
 simp only [ti8E]
 exact ti0E_ok
def ti8P:List (FuncId×PCon):=ti0P
theorem ti8P_ok:∀ p∈ti8P,(∀ (args:Array Value) (w:World),(callFunc p.1 args).run Tryz.prog w=.ok (.enter p.1 args) w)∧PanOk Tryz.prog p.1 p.2:=by
 simp only [ti8P]
 exact ti0P_ok
theorem ti8_known:Known Tryz.prog ti8Γ:=Known.cons (enters_of Tryz.func72 (by kernel_rfl) rfl) oddr_ok .nil
def conCoRI (Γ:List (FuncId×Con)):Con:=⟨fun args=>(match args with
 | [.s (.sl (.cons (.cons .bool (.cons (.slice (.int .i64)) .nil)) (.cons (.cons .bool (.cons (.slice (.int .i64)) .nil)) .nil)) xs _),.s (.fnp f caps)]=>∃ h,fnTo Γ tRat .bool f caps h (·∈xs)
 | _=>False),fun args=>match args with
 | [.s (.sl (.cons (.cons .bool (.cons (.slice (.int .i64)) .nil)) (.cons (.cons .bool (.cons (.slice (.int .i64)) .nil)) .nil)) xs _),.s (.fnp f caps)]=>.v (.s (.int .i64 (idxOf (apB Γ tRat f caps) xs)))
 | _=>.v (.s .any)⟩
theorem conCoRI_one (f:FuncId) (caps:List (Sigma Ty.T)) (c:Con) (he:∀ (args:Array Value) (w:World),(callFunc f args).run Tryz.prog w=.ok (.enter f args) w) (hc:PureOk Tryz.prog f c) (h:Ty.T tRat→Bool)
  (hv:∀ x,c.val (Ty.av tRat x::caps.map capAV)=.v (.s (.bool (h x)))) :
  PureOk Tryz.prog 113 ⟨fun args=>∃ xs ex,args=[.s (.sl tRat xs ex),.s (.fnp f caps)]∧∀ x∈xs,c.pre (Ty.av tRat x::caps.map capAV),fun args=>match args with
   | [.s (.sl (.cons (.cons .bool (.cons (.slice (.int .i64)) .nil)) (.cons (.cons .bool (.cons (.slice (.int .i64)) .nil)) .nil)) xs _),_]=>.v (.s (.int .i64 (idxOf h xs)))
   | _=>.v (.s .any)⟩:=by
 refine pureOkD (L:={ live:=[0,1,4,5,7,8,9,16] }) (g1_good tiT_ok he hc) rfl nr_mixed Tryz.func113 rfl _ 2 (by decide) (by kernel_rfl) ?_
 rintro _ ⟨xs,ex,rfl,hp⟩ hlens
 obtain ⟨⟨hl,_⟩,_⟩:=hlens
 simp only [maxLen] at hl
 refine ⟨rfl,?_⟩
 first | simp only [av_int,av_slice,av_bool] at hv hp | simp only [av_cons,av_bool,Ty.flat,List.cons_append,List.nil_append] at hv hp
 simp -dsimp -implicitDefEqProofs [Tryz.f113,g1_td,g1_y,g1_Γ,g1_E,g1_Pn,g1_fz,tiT,inI64]
 refine WpD.loop (L:={ live:=[0,1,4,5,7,8,9,16] }) (g1_good tiT_ok he hc) X0_ok nr_mixed (by kernel_rfl) (ι:=Nat)
  (fun i=>⟨[(0,vS tRat xs ex),(1,⟨true,.v (.s (.fnp f caps))⟩),(7,vI xs.length),(8,vI i)],[]⟩)
  (fun i=>i≤xs.length∧∀ j,j<i→h (xs[j]?.getD (Ty.dflt tRat))=false) (fun i=>xs.length - i) 0 (by simp) (Turn.le (by simp -dsimp -implicitDefEqProofs)) ?_
 rintro i ⟨hi,hno⟩
 simp only [Ty.dflt] at hno
 simp -dsimp -implicitDefEqProofs [hv,caps_all,caps_all',g1_td,g1_y,g1_Γ,g1_E,g1_Pn,g1_fz,tiT,inI64]
 refine ⟨fun hlt=>⟨hlt,hp _ (by rw [getD_lt hlt]; exact List.getElem_mem hlt),fun he => ?_,fun hne=>⟨⟨by omega,by omega⟩,i+1,⟨by omega,fun j hj => ?_⟩,by omega,TurnT.le (by simp -dsimp -implicitDefEqProofs)⟩⟩,fun hge => ?_⟩
 ·
  exact (idxOf_at hlt _ he hno).symm
 ·
  rcases Nat.lt_succ_iff_lt_or_eq.1 hj with h' | rfl
  ·
   exact hno j h'
  ·
   exact hne
 ·
  exact (idxOf_none _ fun j hj=>hno j (by omega)).symm
theorem conCoRI_known (Γ:List (FuncId×Con)) (hΓ:Known Tryz.prog Γ):PureOk Tryz.prog 113 (conCoRI Γ):=by
 refine PureOk.of fun args hpre => ?_
 simp only [conCoRI] at hpre
 split at hpre
 ·
  rename_i xs ex f caps
  obtain ⟨h,hf⟩:=hpre
  have hm:apB Γ tRat f caps=h:=funext (apB_eq hf)
  obtain ⟨c,h1,h2,h3⟩:=hf
  refine ⟨_,conCoRI_one f caps c (hΓ f c h1).1 (hΓ f c h1).2 h h2,⟨xs,ex,rfl,h3⟩,?_⟩
  simp only [conCoRI,hm]
 ·
  exact hpre.elim
theorem conCoRI_pre {Γ:List (FuncId×Con)} {f:FuncId} {caps:List (Sigma Ty.T)} (xs:List (Ty.T tRat)) (ex:Bool):(conCoRI Γ).pre [.s (.sl tRat xs ex),.s (.fnp f caps)]=∃ h,fnTo Γ tRat .bool f caps h (·∈xs):=rfl
theorem conCoRI_val {Γ:List (FuncId×Con)} {f:FuncId} {caps:List (Sigma Ty.T)} (xs:List (Ty.T tRat)) (ex:Bool):(conCoRI Γ).val [.s (.sl tRat xs ex),.s (.fnp f caps)]=.v (.s (.int .i64 (idxOf (apB Γ tRat f caps) xs))):=rfl
def conCoR (Γ:List (FuncId×Con)):Con:=⟨fun args=>(match args with
 | [.s (.sl (.cons (.cons .bool (.cons (.slice (.int .i64)) .nil)) (.cons (.cons .bool (.cons (.slice (.int .i64)) .nil)) .nil)) xs _),.s (.fnp f caps)]=>∃ h,fnTo Γ tRat .bool f caps h (·∈xs)
 | _=>False),fun args=>match args with
 | [.s (.sl (.cons (.cons .bool (.cons (.slice (.int .i64)) .nil)) (.cons (.cons .bool (.cons (.slice (.int .i64)) .nil)) .nil)) xs _),.s (.fnp f caps)]=>.v (.s (.bool (xs.any (apB Γ tRat f caps))))
 | _=>.v (.s .any)⟩
theorem conCoR_pre {Γ:List (FuncId×Con)} {f:FuncId} {caps:List (Sigma Ty.T)} (xs:List (Ty.T tRat)) (ex:Bool):(conCoR Γ).pre [.s (.sl tRat xs ex),.s (.fnp f caps)]=∃ h,fnTo Γ tRat .bool f caps h (·∈xs):=rfl
theorem conCoR_val {Γ:List (FuncId×Con)} {f:FuncId} {caps:List (Sigma Ty.T)} (xs:List (Ty.T tRat)) (ex:Bool):(conCoR Γ).val [.s (.sl tRat xs ex),.s (.fnp f caps)]=.v (.s (.bool (xs.any (apB Γ tRat f caps)))):=rfl
theorem conCoR_known (Γ:List (FuncId×Con)) (hΓ:Known Tryz.prog Γ):PureOk Tryz.prog 73 (conCoR Γ):=by
 have hg:=g1_good tiT_ok (enters_of Tryz.func113 (by kernel_rfl) rfl) (conCoRI_known Γ hΓ)
 refine pureOkD (L:={ live:=[0,1,4] }) hg rfl nr_mixed Tryz.func73 rfl _ 2 (by decide) (by kernel_rfl) ?_
 intro args hpre hlens
 simp only [conCoR] at hpre
 split at hpre
 ·
  rename_i xs ex f caps
  refine ⟨rfl,?_⟩
  simp -dsimp -implicitDefEqProofs [Tryz.f73,conCoRI_pre,conCoRI_val,conCoR_val,idxOf_any,g1_td,g1_y,g1_Γ,g1_E,g1_Pn,g1_fz,tiT,inI64]
  exact hpre
 ·
  exact hpre.elim
def ti9Γ:List (FuncId×Con):=(113,(conCoRI ti8Γ))::(73,(conCoR ti8Γ))::(70,conP2)::ti8Γ
theorem ti9Γ_ok:∀ p∈ti9Γ,(∀ (args:Array Value) (w:World),(callFunc p.1 args).run Tryz.prog w=.ok (.enter p.1 args) w)∧PureOk Tryz.prog p.1 p.2:=by
 simp only [ti9Γ,List.forall_mem_cons]
 exact ⟨⟨enters_of Tryz.func113 (by kernel_rfl) rfl,(conCoRI_known ti8Γ ti8_known)⟩,⟨enters_of Tryz.func73 (by kernel_rfl) rfl,(conCoR_known ti8Γ ti8_known)⟩,⟨enters_of Tryz.func70 (by kernel_rfl) rfl,p2_ok⟩,ti8Γ_ok⟩
def ti9E:List (FuncId×ECon):=ti8E
theorem ti9E_ok:∀ p∈ti9E,(∀ (args:Array Value) (w:World),(callFunc p.1 args).run Tryz.prog w=.ok (.enter p.1 args) w)∧EffOk Tryz.prog p.1 p.2:=by
 simp only [ti9E]
 exact ti8E_ok
def ti9P:List (FuncId×PCon):=ti8P
theorem ti9P_ok:∀ p∈ti9P,(∀ (args:Array Value) (w:World),(callFunc p.1 args).run Tryz.prog w=.ok (.enter p.1 args) w)∧PanOk Tryz.prog p.1 p.2:=by
 simp only [ti9P]
 exact ti8P_ok
def ti9:G:={ τ:=tiT,Γ:=ti9Γ,E:=ti9E,Pn:=ti9P }
theorem ti9_good:ti9.good Tryz.prog:=good_of_all (tiT_ok _ rfl) ti9Γ_ok ti9E_ok ti9P_ok
theorem ti9_all:(∀ t,ti9.td t=(look tiT t).getD .other)∧ti9.y=false∧ti9.Γ=ti9Γ∧ti9.E=ti9E∧ti9.Pn=ti9P∧ti9.fz=[]:=⟨fun _=>rfl,rfl,rfl,rfl,rfl,rfl⟩
def conWrong:Con:=⟨fun args=>(match args with
 | [.agg [.sl .fn hs _,.sl .fn fs _],.agg [.int .i64 en,.bool n1,.sl (.int .i64) m1 _,.bool n2,.sl (.int .i64) m2 _,.sl (.cons (.cons .bool (.cons (.slice (.int .i64)) .nil)) (.cons (.cons .bool (.cons (.slice (.int .i64)) .nil)) .nil)) tot _,.sl (.cons (.cons .bool (.cons (.slice (.int .i64)) .nil)) (.cons (.cons .bool (.cons (.slice (.int .i64)) .nil)) .nil)) prv _,.int .i64 hi,.int .i64 bo,.int .i64 lo]]=>∀ h∈hs,goodH h
 | _=>False),fun args=>match args with
 | [.agg [.sl .fn hs _,.sl .fn fs _],.agg [.int _ en,.bool n1,.sl (.int .i64) m1 _,.bool n2,.sl (.int .i64) m2 _,.sl (.cons (.cons .bool (.cons (.slice (.int .i64)) .nil)) (.cons (.cons .bool (.cons (.slice (.int .i64)) .nil)) .nil)) tot _,.sl (.cons (.cons .bool (.cons (.slice (.int .i64)) .nil)) (.cons (.cons .bool (.cons (.slice (.int .i64)) .nil)) .nil)) prv _,.int _ hi,.int _ bo,.int _ lo]]=>.v (aB (wrongV hs (mkK en n1 m1 n2 m2 tot prv hi bo lo)))
 | _=>.v (.s .any)⟩
theorem conWrong_eq (hs:List (Ty.T .fn)) (exhs:Bool) (fs:List (Ty.T .fn)) (exfs:Bool) (en:Int) (n1:Bool) (m1:List (Ty.T tI)) (exm1:Bool) (n2:Bool) (m2:List (Ty.T tI)) (exm2:Bool) (tot:List (Ty.T tRat)) (extot:Bool) (prv:List (Ty.T tRat)) (exprv:Bool) (hi:Int) (bo:Int) (lo:Int):conWrong.pre [.agg [.sl .fn hs exhs,.sl .fn fs exfs],.agg [.int .i64 en,.bool n1,.sl tI m1 exm1,.bool n2,.sl tI m2 exm2,.sl tRat tot extot,.sl tRat prv exprv,.int .i64 hi,.int .i64 bo,.int .i64 lo]]=(∀ h∈hs,goodH h)∧conWrong.val [.agg [.sl .fn hs exhs,.sl .fn fs exfs],.agg [.int .i64 en,.bool n1,.sl tI m1 exm1,.bool n2,.sl tI m2 exm2,.sl tRat tot extot,.sl tRat prv exprv,.int .i64 hi,.int .i64 bo,.int .i64 lo]]=.v (aB (wrongV hs (mkK en n1 m1 n2 m2 tot prv hi bo lo))):=⟨rfl,rfl⟩
theorem wrong_ok:PureOk Tryz.prog 41 conWrong:=by
 refine pureOkD (L:={ live:=[0,1,2,3,4,6,8,9,10,11,17] }) ti9_good rfl nr_mixed Tryz.func41 rfl conWrong 2 (by decide) (by kernel_rfl) ?_
 intro args hpre hlens
 simp only [conWrong] at hpre
 split at hpre
 case h_2=>exact hpre.elim
 rename_i hs eh fs ef en n1 m1 e1 n2 m2 e2 tot et prv ep hi bo lo
 simp only [allLen,AV.lenOk,SV.lenOk,Ty.lenOk,maxLen,and_true,implies_true,true_and,List.forall_mem_cons,List.not_mem_nil,false_implies] at hlens
 refine ⟨rfl,?_⟩
 simp -dsimp -implicitDefEqProofs [Tryz.f41,conWrong_eq,ti9_all,tiT,ti9Γ,ti9E,ti9P,ti8Γ,ti8E,ti8P,ti0Γ,ti0E,ti0P,conCoRI_pre,conCoRI_val,conCoR_pre,conCoR_val,conP2_eq,conOddR_eq,inI64]
 have hfn:fnTo [(72,conOddR)] tRat .bool 72 [] oddR (fun _=>True):=⟨conOddR,rfl,fun x=>rfl,fun x _=>trivial⟩
 have hap:apB [(72,conOddR)] tRat 72 []=oddR:=funext fun x=>apB_eq hfn x
 refine WpD.loop (L:={ live:=[0,1,2,3,4,6,8,9,10,11,17] }) ti9_good X0_ok nr_mixed (by kernel_rfl)
  (fun i:Nat=>⟨[(2,⟨true,.v (.s (.box 0 0))⟩),(3,⟨true,.v (.s (.box 1 0))⟩),(4,vB false),(8,vS .fn hs eh),(9,vI hs.length),(10,vI i)],[.cells [.sl .fn hs eh,.sl .fn fs ef],.cells [.int .i64 en,.bool n1,.sl tI m1 e1,.bool n2,.sl tI m2 e2,.sl tRat tot et,.sl tRat prv ep,.int .i64 hi,.int .i64 bo,.int .i64 lo]]⟩)
  (fun i=>i≤hs.length∧∀ j (h:j<hs.length),j<i→hasK (keyOf hs[j]) (mkK en n1 m1 n2 m2 tot prv hi bo lo)=true) (fun i=>hs.length - i) 0 ⟨Nat.zero_le _,fun j _ h=>absurd h (by omega)⟩ (Turn.le (by simp -dsimp -implicitDefEqProofs)) ?_
 rintro i ⟨hii,hk⟩
 rcases Nat.lt_or_ge i hs.length with hil | hge
 ·
  obtain ⟨k,hkn,hke⟩:=hpre _ (List.getElem_mem hil)
  have hkd:=known_kd hkn
  have hko:keyOf hs[i]=k:=by rw [hke,keyOf_has]
  have hke':hs[i]=D.fnOf 70 [⟨tKind,kdOf k⟩,⟨tKey,k⟩]:=hke
  simp -dsimp -implicitDefEqProofs [conWrong_eq,hil,hke',hkd,ti9_all,tiT,ti9Γ,ti9E,ti9P,ti8Γ,ti8E,ti8P,ti0Γ,ti0E,ti0P,conCoRI_pre,conCoRI_val,conCoR_pre,conCoR_val,conP2_eq,conOddR_eq,inI64]
  refine ⟨fun h => ?_,fun h=>⟨⟨by omega,by omega⟩,i+1,⟨by omega,fun j h1 h2 => ?_⟩,by omega,TurnT.le (by simp -dsimp -implicitDefEqProofs)⟩⟩
  ·
   rw [wrongV,Bool.or_eq_true]
   left
   rw [List.any_eq_true]
   exact ⟨hs[i],List.getElem_mem hil,by rw [hko,h]; rfl⟩
  ·
   rcases Nat.lt_or_ge j i with h3 | h3
   ·
    exact hk j h1 h3
   ·
    obtain rfl:j=i:=by omega
    rw [hko]; exact h
 ·
  have hn:¬ i<hs.length:=by omega
  have hw:wrongV hs (mkK en n1 m1 n2 m2 tot prv hi bo lo)=(oddR (mkR n1 m1 n2 m2)||(tot.any oddR||prv.any oddR)):=by
   have:hs.any (fun h => !hasK (keyOf h) (mkK en n1 m1 n2 m2 tot prv hi bo lo))=false:=by
    rw [List.any_eq_false]
    intro h hh
    obtain ⟨j,hj,rfl⟩:=List.mem_iff_getElem.1 hh
    rw [hk j hj (by omega)]
    simp
   rw [wrongV,this,Bool.false_or]
  simp -dsimp -implicitDefEqProofs [conWrong_eq,hn,hap,-Prod.forall,-Bool.forall_bool,-List.any_eq_true,-List.any_eq_false,ti9_all,tiT,ti9Γ,ti9E,ti9P,ti8Γ,ti8E,ti8P,ti0Γ,ti0E,ti0P,conCoRI_pre,conCoRI_val,conCoR_pre,conCoR_val,conP2_eq,conOddR_eq,inI64]
  exact ⟨fun h=>⟨h,_,hfn.mono fun x _=>trivial⟩,fun h h2=>⟨⟨h,h2⟩,_,hfn.mono fun x _=>trivial⟩,by rw [hw,Bool.or_assoc]⟩
def cmpF (f:D .fn) (a b:tKd.T):Int:=match f.parts with
 | some (i,_)=>if i=67 then greatR a.2.1 b.2.1 else firstK (keyOf f) a b
 | none=>0
theorem cmpF_head (a b:tKd.T):cmpF headF a b=greatR a.2.1 b.2.1:=by simp [cmpF,headF,D.parts_fnOf]
theorem cmpF_fst (k:tKey.T) (a b:tKd.T):cmpF (fstF k) a b=firstK k a b:=by
 have h:(fstF k).parts=some (71,[⟨tKind,kdOf k⟩,⟨tKey,k⟩]):=D.parts_fnOf _ _
 simp only [cmpF,h,keyOf_fst]
 rw [if_neg (by decide)]
def cmpAt (a b:tKd.T):List (D .fn)→Nat→Int×Int
 | [],_=>(0,-1)
 | f::r,i=>if cmpF f a b=0 then cmpAt a b r (i+1) else (cmpF f a b,(i:Int))
theorem cmpAt_at {a b:tKd.T} {l:List (D .fn)} {i m:Nat} (hi:i<l.length) (hz:∀ j (h:j<l.length),j<i→cmpF l[j] a b=0) (h:cmpF l[i] a b≠0):cmpAt a b l m=(cmpF l[i] a b,((m+i:Nat):Int)):=by
 induction l generalizing i m with
 | nil=>simp at hi
 | cons x r ih =>
  cases i with
  | zero=>simp at h; simp [cmpAt,h]
  | succ i =>
   have h0:cmpF x a b=0:=by have:=hz 0 (by simp) (by omega); simpa using this
   simp only [cmpAt,h0,if_pos,List.getElem_cons_succ] at h ⊢
   rw [ih (by simpa using hi) (fun j hj hji=>by have:=hz (j+1) (by simpa using hj) (by omega); simpa using this) h]
   congr 2
   omega
theorem cmpAt_none {a b:tKd.T} {l:List (D .fn)} {m:Nat} (hz:∀ j (h:j<l.length),cmpF l[j] a b=0):cmpAt a b l m=(0,-1):=by
 induction l generalizing m with
 | nil=>rfl
 | cons x r ih =>
  have h0:cmpF x a b=0:=by have:=hz 0 (by simp); simpa using this
  simp only [cmpAt,h0,if_pos]
  exact ih fun j hj=>by have:=hz (j+1) (by simpa using hj); simpa using this
def goodF (a b:tKd.T) (f:D .fn):Prop:=(f=headF∧shortR a.2.1∧shortR b.2.1)∨∃ k,known k=true∧f=fstF k∧hasK k a=true∧hasK k b=true∧tame a∧tame b
def ti10Γ:List (FuncId×Con):=(67,conP1)::(71,conP3)::ti0Γ
theorem ti10Γ_ok:∀ p∈ti10Γ,(∀ (args:Array Value) (w:World),(callFunc p.1 args).run Tryz.prog w=.ok (.enter p.1 args) w)∧PureOk Tryz.prog p.1 p.2:=by
 simp only [ti10Γ,List.forall_mem_cons]
 exact ⟨⟨enters_of Tryz.func67 (by kernel_rfl) rfl,p1_ok⟩,⟨enters_of Tryz.func71 (by kernel_rfl) rfl,p3_ok⟩,ti0Γ_ok⟩
def ti10E:List (FuncId×ECon):=ti0E
theorem ti10E_ok:∀ p∈ti10E,(∀ (args:Array Value) (w:World),(callFunc p.1 args).run Tryz.prog w=.ok (.enter p.1 args) w)∧EffOk Tryz.prog p.1 p.2:=by
 simp only [ti10E]
 exact ti0E_ok
def ti10P:List (FuncId×PCon):=ti0P
theorem ti10P_ok:∀ p∈ti10P,(∀ (args:Array Value) (w:World),(callFunc p.1 args).run Tryz.prog w=.ok (.enter p.1 args) w)∧PanOk Tryz.prog p.1 p.2:=by
 simp only [ti10P]
 exact ti0P_ok
def ti10:G:={ τ:=tiT,Γ:=ti10Γ,E:=ti10E,Pn:=ti10P }
theorem ti10_good:ti10.good Tryz.prog:=good_of_all (tiT_ok _ rfl) ti10Γ_ok ti10E_ok ti10P_ok
theorem ti10_all:(∀ t,ti10.td t=(look tiT t).getD .other)∧ti10.y=false∧ti10.Γ=ti10Γ∧ti10.E=ti10E∧ti10.Pn=ti10P∧ti10.fz=[]:=⟨fun _=>rfl,rfl,rfl,rfl,rfl,rfl⟩
def conCmpO:Con:=⟨fun args=>(match args with
 | [.agg [.sl .fn hs _,.sl .fn fs _],.agg [.int .i64 en,.bool n1,.sl (.int .i64) m1 _,.bool n2,.sl (.int .i64) m2 _,.sl (.cons (.cons .bool (.cons (.slice (.int .i64)) .nil)) (.cons (.cons .bool (.cons (.slice (.int .i64)) .nil)) .nil)) tot _,.sl (.cons (.cons .bool (.cons (.slice (.int .i64)) .nil)) (.cons (.cons .bool (.cons (.slice (.int .i64)) .nil)) .nil)) prv _,.int .i64 hi,.int .i64 bo,.int .i64 lo],.agg [.int .i64 en',.bool n1',.sl (.int .i64) m1' _,.bool n2',.sl (.int .i64) m2' _,.sl (.cons (.cons .bool (.cons (.slice (.int .i64)) .nil)) (.cons (.cons .bool (.cons (.slice (.int .i64)) .nil)) .nil)) tot' _,.sl (.cons (.cons .bool (.cons (.slice (.int .i64)) .nil)) (.cons (.cons .bool (.cons (.slice (.int .i64)) .nil)) .nil)) prv' _,.int .i64 hi',.int .i64 bo',.int .i64 lo']]=>fs.length≤100000∧∀ f∈fs,goodF (mkK en n1 m1 n2 m2 tot prv hi bo lo) (mkK en' n1' m1' n2' m2' tot' prv' hi' bo' lo') f
 | _=>False),fun args=>match args with
 | [.agg [.sl .fn hs _,.sl .fn fs _],.agg [.int _ en,.bool n1,.sl (.int .i64) m1 _,.bool n2,.sl (.int .i64) m2 _,.sl (.cons (.cons .bool (.cons (.slice (.int .i64)) .nil)) (.cons (.cons .bool (.cons (.slice (.int .i64)) .nil)) .nil)) tot _,.sl (.cons (.cons .bool (.cons (.slice (.int .i64)) .nil)) (.cons (.cons .bool (.cons (.slice (.int .i64)) .nil)) .nil)) prv _,.int _ hi,.int _ bo,.int _ lo],.agg [.int _ en',.bool n1',.sl (.int .i64) m1' _,.bool n2',.sl (.int .i64) m2' _,.sl (.cons (.cons .bool (.cons (.slice (.int .i64)) .nil)) (.cons (.cons .bool (.cons (.slice (.int .i64)) .nil)) .nil)) tot' _,.sl (.cons (.cons .bool (.cons (.slice (.int .i64)) .nil)) (.cons (.cons .bool (.cons (.slice (.int .i64)) .nil)) .nil)) prv' _,.int _ hi',.int _ bo',.int _ lo']]=>.tup [aI (cmpAt (mkK en n1 m1 n2 m2 tot prv hi bo lo) (mkK en' n1' m1' n2' m2' tot' prv' hi' bo' lo') fs 0).1,aI (cmpAt (mkK en n1 m1 n2 m2 tot prv hi bo lo) (mkK en' n1' m1' n2' m2' tot' prv' hi' bo' lo') fs 0).2]
 | _=>.v (.s .any)⟩
theorem conCmpO_eq (hs:List (Ty.T .fn)) (exhs:Bool) (fs:List (Ty.T .fn)) (exfs:Bool) (en:Int) (n1:Bool) (m1:List (Ty.T tI)) (exm1:Bool) (n2:Bool) (m2:List (Ty.T tI)) (exm2:Bool) (tot:List (Ty.T tRat)) (extot:Bool) (prv:List (Ty.T tRat)) (exprv:Bool) (hi:Int) (bo:Int) (lo:Int) (en':Int) (n1':Bool) (m1':List (Ty.T tI)) (exm1':Bool) (n2':Bool) (m2':List (Ty.T tI)) (exm2':Bool) (tot':List (Ty.T tRat)) (extot':Bool) (prv':List (Ty.T tRat)) (exprv':Bool) (hi':Int) (bo':Int) (lo':Int):conCmpO.pre [.agg [.sl .fn hs exhs,.sl .fn fs exfs],.agg [.int .i64 en,.bool n1,.sl tI m1 exm1,.bool n2,.sl tI m2 exm2,.sl tRat tot extot,.sl tRat prv exprv,.int .i64 hi,.int .i64 bo,.int .i64 lo],.agg [.int .i64 en',.bool n1',.sl tI m1' exm1',.bool n2',.sl tI m2' exm2',.sl tRat tot' extot',.sl tRat prv' exprv',.int .i64 hi',.int .i64 bo',.int .i64 lo']]=(fs.length≤100000∧∀ f∈fs,goodF (mkK en n1 m1 n2 m2 tot prv hi bo lo) (mkK en' n1' m1' n2' m2' tot' prv' hi' bo' lo') f)∧conCmpO.val [.agg [.sl .fn hs exhs,.sl .fn fs exfs],.agg [.int .i64 en,.bool n1,.sl tI m1 exm1,.bool n2,.sl tI m2 exm2,.sl tRat tot extot,.sl tRat prv exprv,.int .i64 hi,.int .i64 bo,.int .i64 lo],.agg [.int .i64 en',.bool n1',.sl tI m1' exm1',.bool n2',.sl tI m2' exm2',.sl tRat tot' extot',.sl tRat prv' exprv',.int .i64 hi',.int .i64 bo',.int .i64 lo']]=.tup [aI (cmpAt (mkK en n1 m1 n2 m2 tot prv hi bo lo) (mkK en' n1' m1' n2' m2' tot' prv' hi' bo' lo') fs 0).1,aI (cmpAt (mkK en n1 m1 n2 m2 tot prv hi bo lo) (mkK en' n1' m1' n2' m2' tot' prv' hi' bo' lo') fs 0).2]:=⟨rfl,rfl⟩
theorem conCmpO_val (hs:List (Ty.T .fn)) (exhs:Bool) (fs:List (Ty.T .fn)) (exfs:Bool) (en:Int) (n1:Bool) (m1:List (Ty.T tI)) (exm1:Bool) (n2:Bool) (m2:List (Ty.T tI)) (exm2:Bool) (tot:List (Ty.T tRat)) (extot:Bool) (prv:List (Ty.T tRat)) (exprv:Bool) (hi:Int) (bo:Int) (lo:Int) (en':Int) (n1':Bool) (m1':List (Ty.T tI)) (exm1':Bool) (n2':Bool) (m2':List (Ty.T tI)) (exm2':Bool) (tot':List (Ty.T tRat)) (extot':Bool) (prv':List (Ty.T tRat)) (exprv':Bool) (hi':Int) (bo':Int) (lo':Int):conCmpO.val [.agg [.sl .fn hs exhs,.sl .fn fs exfs],.agg [.int .i64 en,.bool n1,.sl tI m1 exm1,.bool n2,.sl tI m2 exm2,.sl tRat tot extot,.sl tRat prv exprv,.int .i64 hi,.int .i64 bo,.int .i64 lo],.agg [.int .i64 en',.bool n1',.sl tI m1' exm1',.bool n2',.sl tI m2' exm2',.sl tRat tot' extot',.sl tRat prv' exprv',.int .i64 hi',.int .i64 bo',.int .i64 lo']]=.tup [aI (cmpAt (mkK en n1 m1 n2 m2 tot prv hi bo lo) (mkK en' n1' m1' n2' m2' tot' prv' hi' bo' lo') fs 0).1,aI (cmpAt (mkK en n1 m1 n2 m2 tot prv hi bo lo) (mkK en' n1' m1' n2' m2' tot' prv' hi' bo' lo') fs 0).2]:=rfl
theorem cmpo_ok:PureOk Tryz.prog 42 conCmpO:=by
 refine pureOkD (L:={ live:=[0,1,2,3,4,5,6,7,8,9,10,12,13,14,15,24] }) ti10_good rfl nr_mixed Tryz.func42 rfl conCmpO 3 (by decide) (by kernel_rfl) ?_
 intro args hpre hlens
 simp only [conCmpO] at hpre
 split at hpre
 case h_2=>exact hpre.elim
 rename_i hs eh fs ef en n1 m1 e1 n2 m2 e2 tot et prv ep hi bo lo en' n1' m1' e1' n2' m2' e2' tot' et' prv' ep' hi' bo' lo'
 simp only [allLen,AV.lenOk,SV.lenOk,Ty.lenOk,maxLen,and_true,implies_true,true_and,List.forall_mem_cons,List.not_mem_nil,false_implies] at hlens
 refine ⟨rfl,?_⟩
 simp -dsimp -implicitDefEqProofs [Tryz.f42,conCmpO_eq,ti10_all,tiT,ti10Γ,ti10E,ti10P,ti0Γ,ti0E,ti0P,conP1_eq,conP3_eq,inI64]
 obtain ⟨hfl,hgf⟩:=hpre
 refine WpD.loop (L:={ live:=[0,1,2,3,4,5,6,7,8,9,10,12,13,14,15,24] }) ti10_good X0_ok nr_mixed (by kernel_rfl)
  (fun i:Nat=>⟨[(3,⟨true,.v (.s (.box 0 0))⟩),(4,⟨true,.v (.s (.box 1 0))⟩),(5,⟨true,.v (.s (.box 2 0))⟩),(12,vS .fn fs ef),(13,vI fs.length),(14,vI i)],[.cells [.sl .fn hs eh,.sl .fn fs ef],.cells [.int .i64 en,.bool n1,.sl tI m1 e1,.bool n2,.sl tI m2 e2,.sl tRat tot et,.sl tRat prv ep,.int .i64 hi,.int .i64 bo,.int .i64 lo],.cells [.int .i64 en',.bool n1',.sl tI m1' e1',.bool n2',.sl tI m2' e2',.sl tRat tot' et',.sl tRat prv' ep',.int .i64 hi',.int .i64 bo',.int .i64 lo']]⟩)
  (fun i=>i≤fs.length∧∀ j (h:j<fs.length),j<i→cmpF fs[j] (mkK en n1 m1 n2 m2 tot prv hi bo lo) (mkK en' n1' m1' n2' m2' tot' prv' hi' bo' lo')=0) (fun i=>fs.length - i) 0 ⟨Nat.zero_le _,fun j _ h=>absurd h (by omega)⟩ (Turn.le (by simp -dsimp -implicitDefEqProofs)) ?_
 rintro i ⟨hii,hz⟩
 rcases Nat.lt_or_ge i fs.length with hil | hge
 ·
  rcases hgf _ (List.getElem_mem hil) with ⟨hke,hs1,hs2⟩ | ⟨k,hkn,hke,hx,hy,htx,hty⟩
  ·
   have hc:cmpF fs[i] (mkK en n1 m1 n2 m2 tot prv hi bo lo) (mkK en' n1' m1' n2' m2' tot' prv' hi' bo' lo')=greatR (mkR n1 m1 n2 m2) (mkR n1' m1' n2' m2'):=by rw [hke,cmpF_head]
   have hke':fs[i]=D.fnOf 67 []:=hke
   simp -dsimp -implicitDefEqProofs [conCmpO_eq,hil,hke',ti10_all,tiT,ti10Γ,ti10E,ti10P,ti0Γ,ti0E,ti0P,conP1_eq,conP3_eq,inI64]
   refine ⟨⟨hs1,hs2⟩,fun h => ?_,fun h=>⟨⟨by omega,by omega⟩,i+1,⟨by omega,fun j h1 h2 => ?_⟩,by omega,TurnT.le (by simp -dsimp -implicitDefEqProofs)⟩⟩
   ·
    rw [cmpAt_at (m:=0) hil hz (by rw [hc]; exact h),hc]
    exact ⟨rfl,by omega⟩
   ·
    rcases Nat.lt_or_ge j i with h3 | h3
    ·
     exact hz j h1 h3
    ·
     obtain rfl:j=i:=by omega
     rw [hc]; exact h
  ·
   have hc:cmpF fs[i] (mkK en n1 m1 n2 m2 tot prv hi bo lo) (mkK en' n1' m1' n2' m2' tot' prv' hi' bo' lo')=firstK k (mkK en n1 m1 n2 m2 tot prv hi bo lo) (mkK en' n1' m1' n2' m2' tot' prv' hi' bo' lo'):=by rw [hke,cmpF_fst]
   have hke':fs[i]=D.fnOf 71 [⟨tKind,kdOf k⟩,⟨tKey,k⟩]:=hke
   have hkd:=known_kd hkn
   simp -dsimp -implicitDefEqProofs [conCmpO_eq,hil,hke',hkd,ti10_all,tiT,ti10Γ,ti10E,ti10P,ti0Γ,ti0E,ti0P,conP1_eq,conP3_eq,inI64]
   refine ⟨⟨hx,hy,htx,hty⟩,fun h => ?_,fun h=>⟨⟨by omega,by omega⟩,i+1,⟨by omega,fun j h1 h2 => ?_⟩,by omega,TurnT.le (by simp -dsimp -implicitDefEqProofs)⟩⟩
   ·
    rw [cmpAt_at (m:=0) hil hz (by rw [hc]; exact h),hc]
    exact ⟨rfl,by omega⟩
   ·
    rcases Nat.lt_or_ge j i with h3 | h3
    ·
     exact hz j h1 h3
    ·
     obtain rfl:j=i:=by omega
     rw [hc]; exact h
 ·
  have hn:¬ i<fs.length:=by omega
  rw [conCmpO_val,cmpAt_none fun j h=>hz j h (by omega)]
  simp -dsimp -implicitDefEqProofs [hn,ti10_all,tiT,ti10Γ,ti10E,ti10P,ti0Γ,ti0E,ti0P,conP1_eq,conP3_eq,inI64]
def ti11Γ:List (FuncId×Con):=(40,conPlain)::(41,conWrong)::(42,conCmpO)::(91,conOrI)::ti3Γ
theorem ti11Γ_ok:∀ p∈ti11Γ,(∀ (args:Array Value) (w:World),(callFunc p.1 args).run Tryz.prog w=.ok (.enter p.1 args) w)∧PureOk Tryz.prog p.1 p.2:=by
 simp only [ti11Γ,List.forall_mem_cons]
 exact ⟨⟨enters_of Tryz.func40 (by kernel_rfl) rfl,plain_ok⟩,⟨enters_of Tryz.func41 (by kernel_rfl) rfl,wrong_ok⟩,⟨enters_of Tryz.func42 (by kernel_rfl) rfl,cmpo_ok⟩,⟨enters_of Tryz.func91 (by kernel_rfl) rfl,ori_ok⟩,ti3Γ_ok⟩
def ti11E:List (FuncId×ECon):=ti3E
theorem ti11E_ok:∀ p∈ti11E,(∀ (args:Array Value) (w:World),(callFunc p.1 args).run Tryz.prog w=.ok (.enter p.1 args) w)∧EffOk Tryz.prog p.1 p.2:=by
 simp only [ti11E]
 exact ti3E_ok
def ti11P:List (FuncId×PCon):=ti3P
theorem ti11P_ok:∀ p∈ti11P,(∀ (args:Array Value) (w:World),(callFunc p.1 args).run Tryz.prog w=.ok (.enter p.1 args) w)∧PanOk Tryz.prog p.1 p.2:=by
 simp only [ti11P]
 exact ti3P_ok
def ti11:G:={ τ:=tiT,Γ:=ti11Γ,E:=ti11E,Pn:=ti11P }
theorem ti11_good:ti11.good Tryz.prog:=good_of_all (tiT_ok _ rfl) ti11Γ_ok ti11E_ok ti11P_ok
theorem ti11_all:(∀ t,ti11.td t=(look tiT t).getD .other)∧ti11.y=false∧ti11.Γ=ti11Γ∧ti11.E=ti11E∧ti11.Pn=ti11P∧ti11.fz=[]:=⟨fun _=>rfl,rfl,rfl,rfl,rfl,rfl⟩
def tieOk (ks:List tKey.T) (a b:tKd.T):Bool:=plainB ks&&(!wrongV (hasLs ks) a && !wrongV (hasLs ks) b)
theorem odd_short {r:tRat.T} (h:oddR r=false):okR r∧shortR r:=by
 unfold oddR at h
 simpa using h
theorem right_tame {hs:List (D .fn)} {x:tKd.T} (h:wrongV hs x=false):tame x:=by
 simp only [wrongV,Bool.or_eq_false_iff,List.any_eq_false] at h
 exact ⟨(odd_short h.2.1).2,fun r hr=>(odd_short (by simpa using h.2.2.1 r hr)).2,fun r hr=>(odd_short (by simpa using h.2.2.2 r hr)).2⟩
theorem right_has {ks:List tKey.T} {x:tKd.T} (h:wrongV (hasLs ks) x=false) {k:tKey.T} (hk:k∈ks.takeWhile known):hasK k x=true:=by
 simp only [wrongV,Bool.or_eq_false_iff,List.any_eq_false] at h
 have:=h.1 (hasF k) (List.mem_map.2 ⟨k,hk,rfl⟩)
 rw [keyOf_has] at this
 simpa using this
theorem good_all {ks:List tKey.T} {a b:tKd.T} (ha:wrongV (hasLs ks) a=false) (hb:wrongV (hasLs ks) b=false):∀ f∈fstLs ks,goodF a b f:=by
 intro f hf
 rcases List.mem_cons.1 hf with rfl | hf
 ·
  exact .inl ⟨rfl,(right_tame ha).1,(right_tame hb).1⟩
 ·
  obtain ⟨k,hk,rfl⟩:=List.mem_map.1 hf
  exact .inr ⟨k,List.all_takeWhile (p:=known) (l:=ks) |> List.all_eq_true.1 |> (· k hk),rfl,right_has ha hk,right_has hb hk,right_tame ha,right_tame hb⟩
theorem takeWhile_len {α:Type} (p:α→Bool):∀ l:List α,(l.takeWhile p).length≤l.length
 | []=>Nat.le_refl _
 | x::l=>by
  rw [List.takeWhile_cons]
  split
  ·
   simpa using takeWhile_len p l
  ·
   simp
theorem fstLs_len (ks:List tKey.T):(fstLs ks).length≤ks.length+1:=by simpa [fstLs] using takeWhile_len known ks
def tC (ks:List tKey.T) (a b:tKd.T):Int:=if tieOk ks a b=true then (cmpAt a b (fstLs ks) 0).1 else 0
def tB (ks:List tKey.T) (a b:tKd.T):Int:=if tieOk ks a b=true then (cmpAt a b (fstLs ks) 0).2 else 0
def tE (ks:List tKey.T) (a b:tKd.T):Int:=if tieOk ks a b=true then 0 else 210
def conTCmp:Con:=⟨fun args=>(match args with
 | [.s (.sl (.cons (.int .i64) (.cons .str (.cons (.int .i64) .nil))) ks _),.agg [.int .i64 en,.bool n1,.sl (.int .i64) m1 _,.bool n2,.sl (.int .i64) m2 _,.sl (.cons (.cons .bool (.cons (.slice (.int .i64)) .nil)) (.cons (.cons .bool (.cons (.slice (.int .i64)) .nil)) .nil)) tot _,.sl (.cons (.cons .bool (.cons (.slice (.int .i64)) .nil)) (.cons (.cons .bool (.cons (.slice (.int .i64)) .nil)) .nil)) prv _,.int .i64 hi,.int .i64 bo,.int .i64 lo],.agg [.int .i64 en',.bool n1',.sl (.int .i64) m1' _,.bool n2',.sl (.int .i64) m2' _,.sl (.cons (.cons .bool (.cons (.slice (.int .i64)) .nil)) (.cons (.cons .bool (.cons (.slice (.int .i64)) .nil)) .nil)) tot' _,.sl (.cons (.cons .bool (.cons (.slice (.int .i64)) .nil)) (.cons (.cons .bool (.cons (.slice (.int .i64)) .nil)) .nil)) prv' _,.int .i64 hi',.int .i64 bo',.int .i64 lo']]=>ks.length≤10000
 | _=>False),fun args=>match args with
 | [.s (.sl (.cons (.int .i64) (.cons .str (.cons (.int .i64) .nil))) ks _),.agg [.int _ en,.bool n1,.sl (.int .i64) m1 _,.bool n2,.sl (.int .i64) m2 _,.sl (.cons (.cons .bool (.cons (.slice (.int .i64)) .nil)) (.cons (.cons .bool (.cons (.slice (.int .i64)) .nil)) .nil)) tot _,.sl (.cons (.cons .bool (.cons (.slice (.int .i64)) .nil)) (.cons (.cons .bool (.cons (.slice (.int .i64)) .nil)) .nil)) prv _,.int _ hi,.int _ bo,.int _ lo],.agg [.int _ en',.bool n1',.sl (.int .i64) m1' _,.bool n2',.sl (.int .i64) m2' _,.sl (.cons (.cons .bool (.cons (.slice (.int .i64)) .nil)) (.cons (.cons .bool (.cons (.slice (.int .i64)) .nil)) .nil)) tot' _,.sl (.cons (.cons .bool (.cons (.slice (.int .i64)) .nil)) (.cons (.cons .bool (.cons (.slice (.int .i64)) .nil)) .nil)) prv' _,.int _ hi',.int _ bo',.int _ lo']]=>.tup [aI (tC ks (mkK en n1 m1 n2 m2 tot prv hi bo lo) (mkK en' n1' m1' n2' m2' tot' prv' hi' bo' lo')),aI (tB ks (mkK en n1 m1 n2 m2 tot prv hi bo lo) (mkK en' n1' m1' n2' m2' tot' prv' hi' bo' lo')),aI (tE ks (mkK en n1 m1 n2 m2 tot prv hi bo lo) (mkK en' n1' m1' n2' m2' tot' prv' hi' bo' lo'))]
 | _=>.v (.s .any)⟩
theorem conTCmp_eq (ks:List (Ty.T tKey)) (exks:Bool) (en:Int) (n1:Bool) (m1:List (Ty.T tI)) (exm1:Bool) (n2:Bool) (m2:List (Ty.T tI)) (exm2:Bool) (tot:List (Ty.T tRat)) (extot:Bool) (prv:List (Ty.T tRat)) (exprv:Bool) (hi:Int) (bo:Int) (lo:Int) (en':Int) (n1':Bool) (m1':List (Ty.T tI)) (exm1':Bool) (n2':Bool) (m2':List (Ty.T tI)) (exm2':Bool) (tot':List (Ty.T tRat)) (extot':Bool) (prv':List (Ty.T tRat)) (exprv':Bool) (hi':Int) (bo':Int) (lo':Int):conTCmp.pre [.s (.sl tKey ks exks),.agg [.int .i64 en,.bool n1,.sl tI m1 exm1,.bool n2,.sl tI m2 exm2,.sl tRat tot extot,.sl tRat prv exprv,.int .i64 hi,.int .i64 bo,.int .i64 lo],.agg [.int .i64 en',.bool n1',.sl tI m1' exm1',.bool n2',.sl tI m2' exm2',.sl tRat tot' extot',.sl tRat prv' exprv',.int .i64 hi',.int .i64 bo',.int .i64 lo']]=(ks.length≤10000)∧conTCmp.val [.s (.sl tKey ks exks),.agg [.int .i64 en,.bool n1,.sl tI m1 exm1,.bool n2,.sl tI m2 exm2,.sl tRat tot extot,.sl tRat prv exprv,.int .i64 hi,.int .i64 bo,.int .i64 lo],.agg [.int .i64 en',.bool n1',.sl tI m1' exm1',.bool n2',.sl tI m2' exm2',.sl tRat tot' extot',.sl tRat prv' exprv',.int .i64 hi',.int .i64 bo',.int .i64 lo']]=.tup [aI (tC ks (mkK en n1 m1 n2 m2 tot prv hi bo lo) (mkK en' n1' m1' n2' m2' tot' prv' hi' bo' lo')),aI (tB ks (mkK en n1 m1 n2 m2 tot prv hi bo lo) (mkK en' n1' m1' n2' m2' tot' prv' hi' bo' lo')),aI (tE ks (mkK en n1 m1 n2 m2 tot prv hi bo lo) (mkK en' n1' m1' n2' m2' tot' prv' hi' bo' lo'))]:=⟨rfl,rfl⟩
theorem tcmp_ok:PureOk Tryz.prog 23 conTCmp:=by
 refine pureOkD (L:={ live:=[0,1,2,4,5,6,7,8,9,10,27] }) ti11_good rfl nr_mixed Tryz.func23 rfl conTCmp 3 (by decide) (by kernel_rfl) ?_
 intro args hpre hlens
 simp only [conTCmp] at hpre
 split at hpre
 case h_2=>exact hpre.elim
 rename_i ks ek en n1 m1 e1 n2 m2 e2 tot et prv ep hi bo lo en' n1' m1' e1' n2' m2' e2' tot' et' prv' ep' hi' bo' lo'
 simp only [allLen,AV.lenOk,SV.lenOk,Ty.lenOk,maxLen,and_true,implies_true,true_and,List.forall_mem_cons,List.not_mem_nil,false_implies] at hlens
 refine ⟨rfl,?_⟩
 simp -dsimp -implicitDefEqProofs [Tryz.f23,conTCmp_eq,-Prod.forall,-Bool.forall_bool,ti11_all,tiT,ti11Γ,ti11E,ti11P,ti3Γ,ti3E,ti3P,ti1Γ,ti1E,ti1P,ti0Γ,ti0E,ti0P,conPlain_eq,conWrong_eq,conCmpO_eq,conOrI_eq,conCmpI_eq,conNaT_eq,inI64]
 have hl:=fstLs_len ks
 have ht:∀ a b:tKd.T,tieOk ks a b=true↔plainB ks=true∧wrongV (hasLs ks) a=false∧wrongV (hasLs ks) b=false:=fun a b=>by simp [tieOk]
 have hf:∀ {a b:tKd.T},((plainB ks=false∨wrongV (hasLs ks) a=true)∨wrongV (hasLs ks) b=true)→tieOk ks a b=false:=fun {a b} h=>by
  rcases h with (h | h) | h <;> simp [tieOk,h]
 refine ⟨by omega,fun h=>⟨h,goodH_hasLs⟩,fun h h1=>⟨⟨h,h1⟩,goodH_hasLs⟩,fun h => ?_,fun h1 h2 h3 => ?_⟩
 ·
  have:=hf h
  simp [tC,tB,tE,this]
 ·
  have:=(ht _ _).2 ⟨h1,h2,h3⟩
  refine ⟨⟨by omega,good_all h2 h3⟩,?_⟩
  simp [tC,tB,tE,this]
def dK:tKd.T:=(0,((false,[],()),(false,[],()),()),[],[],0,0,0,())
def befV (fs:List (D .fn)) (a b:tKd.T):Int:=orI [(cmpAt a b fs 0).1,cmpZ a.1 b.1]
def conBef:Con:=⟨fun args=>(match args with
 | [.agg [.sl .fn hs _,.sl .fn fs _,.sl (.cons (.int .i64) (.cons (.cons (.cons .bool (.cons (.slice (.int .i64)) .nil)) (.cons (.cons .bool (.cons (.slice (.int .i64)) .nil)) .nil)) (.cons (.slice (.cons (.cons .bool (.cons (.slice (.int .i64)) .nil)) (.cons (.cons .bool (.cons (.slice (.int .i64)) .nil)) .nil))) (.cons (.slice (.cons (.cons .bool (.cons (.slice (.int .i64)) .nil)) (.cons (.cons .bool (.cons (.slice (.int .i64)) .nil)) .nil))) (.cons (.int .i64) (.cons (.int .i64) (.cons (.int .i64) .nil))))))) l _],.s (.int .i64 i),.s (.int .i64 k)]=>(0≤i∧i<l.length)∧(0≤k∧k<l.length)∧fs.length≤100000∧∀ f∈fs,goodF (l[i.toNat]?.getD dK) (l[k.toNat]?.getD dK) f
 | _=>False),fun args=>match args with
 | [.agg [.sl .fn hs _,.sl .fn fs _,.sl (.cons (.int .i64) (.cons (.cons (.cons .bool (.cons (.slice (.int .i64)) .nil)) (.cons (.cons .bool (.cons (.slice (.int .i64)) .nil)) .nil)) (.cons (.slice (.cons (.cons .bool (.cons (.slice (.int .i64)) .nil)) (.cons (.cons .bool (.cons (.slice (.int .i64)) .nil)) .nil))) (.cons (.slice (.cons (.cons .bool (.cons (.slice (.int .i64)) .nil)) (.cons (.cons .bool (.cons (.slice (.int .i64)) .nil)) .nil))) (.cons (.int .i64) (.cons (.int .i64) (.cons (.int .i64) .nil))))))) l _],.s (.int _ i),.s (.int _ k)]=>.v (aI (befV fs (l[i.toNat]?.getD dK) (l[k.toNat]?.getD dK)))
 | _=>.v (.s .any)⟩
theorem conBef_eq (hs:List (Ty.T .fn)) (exhs:Bool) (fs:List (Ty.T .fn)) (exfs:Bool) (l:List (Ty.T tKd)) (exl:Bool) (i:Int) (k:Int):conBef.pre [.agg [.sl .fn hs exhs,.sl .fn fs exfs,.sl tKd l exl],.s (.int .i64 i),.s (.int .i64 k)]=((0≤i∧i<l.length)∧(0≤k∧k<l.length)∧fs.length≤100000∧∀ f∈fs,goodF (l[i.toNat]?.getD dK) (l[k.toNat]?.getD dK) f)∧conBef.val [.agg [.sl .fn hs exhs,.sl .fn fs exfs,.sl tKd l exl],.s (.int .i64 i),.s (.int .i64 k)]=.v (aI (befV fs (l[i.toNat]?.getD dK) (l[k.toNat]?.getD dK))):=⟨rfl,rfl⟩
theorem bef_ok:PureOk Tryz.prog 86 conBef:=by
 refine pureOkD (L:={ live:=[0,1,2,3,6,7] }) ti11_good rfl nr_mixed Tryz.func86 rfl conBef 3 (by decide) (by kernel_rfl) ?_
 intro args hpre hlens
 simp only [conBef] at hpre
 split at hpre
 case h_2=>exact hpre.elim
 rename_i hs eh fs ef l el i k
 simp only [allLen,AV.lenOk,SV.lenOk,Ty.lenOk,maxLen,and_true,implies_true,true_and,List.forall_mem_cons,List.not_mem_nil,false_implies] at hlens
 refine ⟨rfl,?_⟩
 simp -dsimp -implicitDefEqProofs [Tryz.f86,conBef_eq,-Prod.forall,-Bool.forall_bool,ti11_all,tiT,ti11Γ,ti11E,ti11P,ti3Γ,ti3E,ti3P,ti1Γ,ti1E,ti1P,ti0Γ,ti0E,ti0P,conPlain_eq,conWrong_eq,conCmpO_eq,conOrI_eq,conCmpI_eq,conNaT_eq,inI64]
 obtain ⟨hi,hk,hfl,hg⟩:=hpre
 exact ⟨hi,hk,⟨hfl,hg⟩,hi,hk,rfl⟩
def wrongB (x:D .fn):tKd.T→Bool:=match x.bpart with
 | some (_,c)=>if e:c.1=tOrd then wrongV (e▸c.2:tOrd.T).1 else fun _=>false
 | none=>fun _=>false
theorem wrongB_bnd (f:FuncId) (o:tOrd.T):wrongB (D.bndOf f ⟨tOrd,o⟩)=wrongV o.1:=by simp [wrongB,D.bpart_bndOf]
theorem av_ord (o:tOrd.T):Ty.av (Sigma.fst (⟨tOrd,o⟩:Sigma Ty.T)) o=AV.agg [.sl .fn o.1 false,.sl .fn o.2.1 false]:=rfl
def goodO (x:D .fn):Prop:=∃ o:tOrd.T,x=D.bndOf 41 ⟨tOrd,o⟩∧∀ h∈o.1,goodH h
def ti12Γ:List (FuncId×Con):=(41,conWrong)::ti0Γ
theorem ti12Γ_ok:∀ p∈ti12Γ,(∀ (args:Array Value) (w:World),(callFunc p.1 args).run Tryz.prog w=.ok (.enter p.1 args) w)∧PureOk Tryz.prog p.1 p.2:=by
 simp only [ti12Γ,List.forall_mem_cons]
 exact ⟨⟨enters_of Tryz.func41 (by kernel_rfl) rfl,wrong_ok⟩,ti0Γ_ok⟩
def ti12E:List (FuncId×ECon):=ti0E
theorem ti12E_ok:∀ p∈ti12E,(∀ (args:Array Value) (w:World),(callFunc p.1 args).run Tryz.prog w=.ok (.enter p.1 args) w)∧EffOk Tryz.prog p.1 p.2:=by
 simp only [ti12E]
 exact ti0E_ok
def ti12P:List (FuncId×PCon):=ti0P
theorem ti12P_ok:∀ p∈ti12P,(∀ (args:Array Value) (w:World),(callFunc p.1 args).run Tryz.prog w=.ok (.enter p.1 args) w)∧PanOk Tryz.prog p.1 p.2:=by
 simp only [ti12P]
 exact ti0P_ok
def ti12:G:={ τ:=tiT,Γ:=ti12Γ,E:=ti12E,Pn:=ti12P }
theorem ti12_good:ti12.good Tryz.prog:=good_of_all (tiT_ok _ rfl) ti12Γ_ok ti12E_ok ti12P_ok
theorem ti12_all:(∀ t,ti12.td t=(look tiT t).getD .other)∧ti12.y=false∧ti12.Γ=ti12Γ∧ti12.E=ti12E∧ti12.Pn=ti12P∧ti12.fz=[]:=⟨fun _=>rfl,rfl,rfl,rfl,rfl,rfl⟩
def conIdxK:Con:=⟨fun args=>(match args with
 | [.s (.sl (.cons (.int .i64) (.cons (.cons (.cons .bool (.cons (.slice (.int .i64)) .nil)) (.cons (.cons .bool (.cons (.slice (.int .i64)) .nil)) .nil)) (.cons (.slice (.cons (.cons .bool (.cons (.slice (.int .i64)) .nil)) (.cons (.cons .bool (.cons (.slice (.int .i64)) .nil)) .nil))) (.cons (.slice (.cons (.cons .bool (.cons (.slice (.int .i64)) .nil)) (.cons (.cons .bool (.cons (.slice (.int .i64)) .nil)) .nil))) (.cons (.int .i64) (.cons (.int .i64) (.cons (.int .i64) .nil))))))) l _),.s (.fv x)]=>goodO x
 | _=>False),fun args=>match args with
 | [.s (.sl (.cons (.int .i64) (.cons (.cons (.cons .bool (.cons (.slice (.int .i64)) .nil)) (.cons (.cons .bool (.cons (.slice (.int .i64)) .nil)) .nil)) (.cons (.slice (.cons (.cons .bool (.cons (.slice (.int .i64)) .nil)) (.cons (.cons .bool (.cons (.slice (.int .i64)) .nil)) .nil))) (.cons (.slice (.cons (.cons .bool (.cons (.slice (.int .i64)) .nil)) (.cons (.cons .bool (.cons (.slice (.int .i64)) .nil)) .nil))) (.cons (.int .i64) (.cons (.int .i64) (.cons (.int .i64) .nil))))))) l _),.s (.fv x)]=>.v (aI (idxOf (wrongB x) l))
 | _=>.v (.s .any)⟩
theorem conIdxK_eq (l:List (Ty.T tKd)) (exl:Bool) (x:D .fn):conIdxK.pre [.s (.sl tKd l exl),.s (.fv x)]=(goodO x)∧conIdxK.val [.s (.sl tKd l exl),.s (.fv x)]=.v (aI (idxOf (wrongB x) l)):=⟨rfl,rfl⟩
theorem idxk_ok:PureOk Tryz.prog 121 conIdxK:=by
 refine pureOkD (L:={ live:=[0,1,4,5,7,8,9,16] }) ti12_good rfl nr_mixed Tryz.func121 rfl conIdxK 2 (by decide) (by kernel_rfl) ?_
 intro args hpre hlens
 simp only [conIdxK] at hpre
 split at hpre
 case h_2=>exact hpre.elim
 rename_i l el x
 simp only [allLen,AV.lenOk,SV.lenOk,Ty.lenOk,maxLen,and_true,implies_true,true_and,List.forall_mem_cons,List.not_mem_nil,false_implies] at hlens
 obtain ⟨o,rfl,hg⟩:=hpre
 refine ⟨rfl,?_⟩
 simp -dsimp -implicitDefEqProofs [Tryz.f121,conIdxK_eq,ti12_all,tiT,ti12Γ,ti12E,ti12P,ti0Γ,ti0E,ti0P,conWrong_eq,inI64]
 refine WpD.loop (L:={ live:=[0,1,4,5,7,8,9,16] }) ti12_good X0_ok nr_mixed (by kernel_rfl)
  (fun i:Nat=>⟨[(0,vS tKd l el),(1,⟨true,.v (.s (.fv (D.bndOf 41 ⟨tOrd,o⟩)))⟩),(7,vI l.length),(8,vI i)],[]⟩)
  (fun i=>i≤l.length∧∀ j,j<i→wrongV o.1 (l[j]?.getD dK)=false) (fun i=>l.length - i) 0 ⟨Nat.zero_le _,fun j h=>absurd h (by omega)⟩ (Turn.le (by simp -dsimp -implicitDefEqProofs)) ?_
 rintro i ⟨hii,hno⟩
 rcases Nat.lt_or_ge i l.length with hil | hge
 ·
  simp -dsimp -implicitDefEqProofs [conIdxK_eq,wrongB_bnd,av_ord,hil,-Prod.forall,-Bool.forall_bool,ti12_all,tiT,ti12Γ,ti12E,ti12P,ti0Γ,ti0E,ti0P,conWrong_eq,inI64]
  have hld:l[i]?.getD dK=l[i]:=by rw [List.getElem?_eq_getElem hil]; rfl
  refine ⟨hg,fun h=>(idxOf_at hil dK (by rw [hld]; exact h) hno).symm,fun h=>⟨⟨by omega,by omega⟩,i+1,⟨by omega,fun j hj => ?_⟩,by omega,TurnT.le (by simp -dsimp -implicitDefEqProofs)⟩⟩
  rcases Nat.lt_succ_iff_lt_or_eq.1 hj with h' | rfl
  ·
   exact hno j h'
  ·
   rw [hld]; exact h
 ·
  have hn:¬ i<l.length:=by omega
  simp -dsimp -implicitDefEqProofs [conIdxK_eq,wrongB_bnd,hn,-Prod.forall,-Bool.forall_bool,ti12_all,tiT,ti12Γ,ti12E,ti12P,ti0Γ,ti0E,ti0P,conWrong_eq,inI64]
  exact (idxOf_none dK fun j hj=>hno j (by omega)).symm
def ti13Γ:List (FuncId×Con):=(121,conIdxK)::ti12Γ
theorem ti13Γ_ok:∀ p∈ti13Γ,(∀ (args:Array Value) (w:World),(callFunc p.1 args).run Tryz.prog w=.ok (.enter p.1 args) w)∧PureOk Tryz.prog p.1 p.2:=by
 simp only [ti13Γ,List.forall_mem_cons]
 exact ⟨⟨enters_of Tryz.func121 (by kernel_rfl) rfl,idxk_ok⟩,ti12Γ_ok⟩
def ti13E:List (FuncId×ECon):=ti12E
theorem ti13E_ok:∀ p∈ti13E,(∀ (args:Array Value) (w:World),(callFunc p.1 args).run Tryz.prog w=.ok (.enter p.1 args) w)∧EffOk Tryz.prog p.1 p.2:=by
 simp only [ti13E]
 exact ti12E_ok
def ti13P:List (FuncId×PCon):=ti12P
theorem ti13P_ok:∀ p∈ti13P,(∀ (args:Array Value) (w:World),(callFunc p.1 args).run Tryz.prog w=.ok (.enter p.1 args) w)∧PanOk Tryz.prog p.1 p.2:=by
 simp only [ti13P]
 exact ti12P_ok
def ti13:G:={ τ:=tiT,Γ:=ti13Γ,E:=ti13E,Pn:=ti13P }
theorem ti13_good:ti13.good Tryz.prog:=good_of_all (tiT_ok _ rfl) ti13Γ_ok ti13E_ok ti13P_ok
theorem ti13_all:(∀ t,ti13.td t=(look tiT t).getD .other)∧ti13.y=false∧ti13.Γ=ti13Γ∧ti13.E=ti13E∧ti13.Pn=ti13P∧ti13.fz=[]:=⟨fun _=>rfl,rfl,rfl,rfl,rfl,rfl⟩
def conConK:Con:=⟨fun args=>(match args with
 | [.s (.sl (.cons (.int .i64) (.cons (.cons (.cons .bool (.cons (.slice (.int .i64)) .nil)) (.cons (.cons .bool (.cons (.slice (.int .i64)) .nil)) .nil)) (.cons (.slice (.cons (.cons .bool (.cons (.slice (.int .i64)) .nil)) (.cons (.cons .bool (.cons (.slice (.int .i64)) .nil)) .nil))) (.cons (.slice (.cons (.cons .bool (.cons (.slice (.int .i64)) .nil)) (.cons (.cons .bool (.cons (.slice (.int .i64)) .nil)) .nil))) (.cons (.int .i64) (.cons (.int .i64) (.cons (.int .i64) .nil))))))) l _),.s (.fv x)]=>goodO x
 | _=>False),fun args=>match args with
 | [.s (.sl (.cons (.int .i64) (.cons (.cons (.cons .bool (.cons (.slice (.int .i64)) .nil)) (.cons (.cons .bool (.cons (.slice (.int .i64)) .nil)) .nil)) (.cons (.slice (.cons (.cons .bool (.cons (.slice (.int .i64)) .nil)) (.cons (.cons .bool (.cons (.slice (.int .i64)) .nil)) .nil))) (.cons (.slice (.cons (.cons .bool (.cons (.slice (.int .i64)) .nil)) (.cons (.cons .bool (.cons (.slice (.int .i64)) .nil)) .nil))) (.cons (.int .i64) (.cons (.int .i64) (.cons (.int .i64) .nil))))))) l _),.s (.fv x)]=>.v (aB (l.any (wrongB x)))
 | _=>.v (.s .any)⟩
theorem conConK_eq (l:List (Ty.T tKd)) (exl:Bool) (x:D .fn):conConK.pre [.s (.sl tKd l exl),.s (.fv x)]=(goodO x)∧conConK.val [.s (.sl tKd l exl),.s (.fv x)]=.v (aB (l.any (wrongB x))):=⟨rfl,rfl⟩
theorem conk_ok:PureOk Tryz.prog 84 conConK:=by
 refine pureOkD (L:={ live:=[0,1,4] }) ti13_good rfl nr_mixed Tryz.func84 rfl conConK 2 (by decide) (by kernel_rfl) ?_
 intro args hpre hlens
 simp only [conConK] at hpre
 split at hpre
 case h_2=>exact hpre.elim
 rename_i l el x
 simp only [allLen,AV.lenOk,SV.lenOk,Ty.lenOk,maxLen,and_true,implies_true,true_and,List.forall_mem_cons,List.not_mem_nil,false_implies] at hlens
 refine ⟨rfl,?_⟩
 simp -dsimp -implicitDefEqProofs [Tryz.f84,conConK_eq,idxOf_any,-Prod.forall,-Bool.forall_bool,ti13_all,tiT,ti13Γ,ti13E,ti13P,ti12Γ,ti12E,ti12P,ti0Γ,ti0E,ti0P,conIdxK_eq,conWrong_eq,inI64]
 exact hpre
abbrev tSrt:Ty:=.cons (.slice .fn) (.cons (.slice .fn) (.cons (.slice tKd) .nil))
theorem av_srt (v:tSrt.T):Ty.av (Sigma.fst (⟨tSrt,v⟩:Sigma Ty.T)) v=AV.agg [.sl .fn v.1 false,.sl .fn v.2.1 false,.sl tKd v.2.2.1 false]:=rfl
def goodS (v:tSrt.T):Prop:=List.length v.2.1≤100000∧∀ a∈v.2.2.1,∀ b∈v.2.2.1,∀ f∈v.2.1,goodF a b f
def inS (v:tSrt.T) (xs:List Int):Prop:=∀ i∈xs,0≤i∧i<(List.length v.2.2.1:Int)
def ti14Γ:List (FuncId×Con):=(86,conBef)::ti0Γ
theorem ti14Γ_ok:∀ p∈ti14Γ,(∀ (args:Array Value) (w:World),(callFunc p.1 args).run Tryz.prog w=.ok (.enter p.1 args) w)∧PureOk Tryz.prog p.1 p.2:=by
 simp only [ti14Γ,List.forall_mem_cons]
 exact ⟨⟨enters_of Tryz.func86 (by kernel_rfl) rfl,bef_ok⟩,ti0Γ_ok⟩
def ti14E:List (FuncId×ECon):=ti0E
theorem ti14E_ok:∀ p∈ti14E,(∀ (args:Array Value) (w:World),(callFunc p.1 args).run Tryz.prog w=.ok (.enter p.1 args) w)∧EffOk Tryz.prog p.1 p.2:=by
 simp only [ti14E]
 exact ti0E_ok
def ti14P:List (FuncId×PCon):=ti0P
theorem ti14P_ok:∀ p∈ti14P,(∀ (args:Array Value) (w:World),(callFunc p.1 args).run Tryz.prog w=.ok (.enter p.1 args) w)∧PanOk Tryz.prog p.1 p.2:=by
 simp only [ti14P]
 exact ti0P_ok
def ti14:G:={ τ:=tiT,Γ:=ti14Γ,E:=ti14E,Pn:=ti14P }
theorem ti14_good:ti14.good Tryz.prog:=good_of_all (tiT_ok _ rfl) ti14Γ_ok ti14E_ok ti14P_ok
theorem ti14_all:(∀ t,ti14.td t=(look tiT t).getD .other)∧ti14.y=false∧ti14.Γ=ti14Γ∧ti14.E=ti14E∧ti14.Pn=ti14P∧ti14.fz=[]:=⟨fun _=>rfl,rfl,rfl,rfl,rfl,rfl⟩
def conInsS:ECon:={ wp:=fun args hp K=>match args,hp with
 | [.s (.own (.int .i64) 0 n),.s (.int .i64 a),.s (.int .i64 b),.s (.fv x)],[.arr al cs]=>∃ (xs:List Int) (v:tSrt.T),(cs=tI.flats xs∧xs.length=n∧n≤100000∧(al=true∨xs=[])∧a=0∧b=n∧x=D.bndOf 86 ⟨tSrt,v⟩∧goodS v∧inS v xs) ∧
   ∀ ys:List Int,ys.length=xs.length→inS v ys→K (.tup []) [.arr al (tI.flats ys)]
 | _,_=>False }
theorem inss_ok:EffOk Tryz.prog 157 conInsS:=by
 refine effOkD (L:={ live:=[0,1,2,3,8,9,14,34],fl:=[(6,[(8,0),(9,0),(12,0),(13,0),(14,0),(16,16)])] }) ti14_good rfl nr_mixed Tryz.func157 rfl conInsS 4 (by decide) (by kernel_rfl) ?_
 intro args hp K hpre hlens
 simp only [conInsS] at hpre
 split at hpre
 case h_2=>exact hpre.elim
 rename_i n a b x al cs
 obtain ⟨xs0,v,⟨rfl,rfl,hn,hal,rfl,rfl,rfl,hgs,hin⟩,hK⟩:=hpre
 refine ⟨rfl,?_⟩
 simp -dsimp -implicitDefEqProofs [Tryz.f157,ti14_all,tiT,ti14Γ,ti14E,ti14P,ti0Γ,ti0E,ti0P,conBef_eq,inI64]
 have hno:∀ xs:List Int,inS v xs→∀ j,j<xs.length→0≤xs[j]?.getD 0∧xs[j]?.getD 0<(List.length v.2.2.1:Int):=fun xs h j hj=>h _ (by rw [List.getElem?_eq_getElem hj]; exact List.getElem_mem _)
 refine WpD.loop (L:={ live:=[0,1,2,3,8,9,14,34],fl:=[(6,[(8,0),(9,0),(12,0),(13,0),(14,0),(16,16)])] }) ti14_good X0_ok nr_mixed (by kernel_rfl)
  (fun p:Nat×List Int=>⟨[(0,⟨true,.v (.s (.own tI 0 xs0.length))⟩),(1,vI 0),(2,vI xs0.length),(3,⟨true,.v (.s (.fv (D.bndOf 86 ⟨tSrt,v⟩)))⟩),(8,vI p.1)],[.arr al (tI.flats p.2)]⟩)
  (fun p=>(1≤p.1∧p.1≤xs0.length+1)∧p.2.length=xs0.length∧inS v p.2) (fun p=>xs0.length+1 - p.1) (1,xs0) ⟨⟨by omega,by omega⟩,rfl,hin⟩ (Turn.le (by simp -dsimp -implicitDefEqProofs)) ?_
 rintro ⟨i,xs⟩ ⟨⟨hi1,hi2⟩,hxl,hxs⟩
 simp only at hi1 hi2 hxl hxs
 rcases Nat.lt_or_ge i xs0.length with hil | hge
 ·
  obtain rfl:al=true:=by
   rcases hal with h | h
   ·
    exact h
   ·
    rw [h] at hil; simp at hil
  simp -dsimp -implicitDefEqProofs [hil,ti14_all,tiT,ti14Γ,ti14E,ti14P,ti0Γ,ti0E,ti0P,conBef_eq,inI64]
  refine WpD.loop (L:={ live:=[0,1,2,3,8,9,14,34],fl:=[(6,[(8,0),(9,0),(12,0),(13,0),(14,0),(16,16)])] }) ti14_good X0_ok nr_mixed (by kernel_rfl)
   (fun p:Nat×List Int=>⟨[(0,⟨true,.v (.s (.own tI 0 xs0.length))⟩),(1,vI 0),(2,vI xs0.length),(3,⟨true,.v (.s (.fv (D.bndOf 86 ⟨tSrt,v⟩)))⟩),(8,vI i),(9,vI p.1)],[.arr true (tI.flats p.2)]⟩)
   (fun p=>p.1≤i∧p.2.length=xs0.length∧inS v p.2) (fun p=>p.1) (i,xs) ⟨Nat.le_refl _,hxl,hxs⟩ (Turn.le (by simp -dsimp -implicitDefEqProofs)) ?_
  rintro ⟨j,ys⟩ ⟨hj,hyl,hys⟩
  simp only at hj hyl hys
  rcases Nat.eq_zero_or_pos j with rfl | hj0
  ·
   have f1:=fl_at (xs:=ys) (j:=0) (by omega)
   simp -dsimp -implicitDefEqProofs [av_srt,f1,-Prod.forall,-Bool.forall_bool,ti14_all,tiT,ti14Γ,ti14E,ti14P,ti0Γ,ti0E,ti0P,conBef_eq,inI64]
   exact ⟨⟨by omega,by omega⟩,i+1,ys,⟨⟨by omega,by omega⟩,hyl,hys⟩,by omega,TurnT.le (by simp -dsimp -implicitDefEqProofs)⟩
  ·
   obtain ⟨k,rfl⟩:∃ k,j=k+1:=⟨j - 1,by omega⟩
   have e1:((k+1:Nat):Int) - 1=k:=by omega
   have f1:=fl_at (xs:=ys) (j:=k+1) (by omega)
   have f2:=fl_at (xs:=ys) (j:=k) (by omega)
   have b1:=hno ys hys (k+1) (by omega)
   have b2:=hno ys hys k (by omega)
   have hmn:min (k+1) ys.length+(ys.length - (k+1+1)+1)=ys.length:=by omega
   have hsw:inS v ((ys.set (k+1) (ys[k]?.getD 0)).set k (ys[k+1]?.getD 0)):=by
    intro x hx
    rcases List.mem_or_eq_of_mem_set hx with hx | rfl
    ·
     rcases List.mem_or_eq_of_mem_set hx with hx | rfl
     ·
      exact hys x hx
     ·
      exact b2
    ·
     exact b1
   simp -dsimp -implicitDefEqProofs [av_srt,f1,f2,e1,-Prod.forall,-Bool.forall_bool,ti14_all,tiT,ti14Γ,ti14E,ti14P,ti0Γ,ti0E,ti0P,conBef_eq,inI64]
   rw [hmn]
   refine ⟨⟨hyl,by omega,by omega⟩,⟨hyl,by omega⟩,by omega,⟨hyl,by omega⟩,⟨hyl,by omega⟩,⟨b1,b2,hgs.1,hgs.2 _ (mem_getD b1.1 b1.2) _ (mem_getD b2.1 b2.2)⟩,fun _=>⟨⟨by omega,⟨hyl,by omega⟩,⟨hyl,by omega⟩,⟨hyl,by omega,by omega⟩,⟨hyl,by omega⟩,⟨hyl,by omega,by omega⟩,⟨hyl,by omega⟩,⟨hyl,by omega⟩,⟨hyl,by omega⟩,by omega,
    k,(ys.set (k+1) (ys[k]?.getD 0)).set k (ys[k+1]?.getD 0),⟨by omega,by simpa using hyl,hsw⟩,by omega,?_⟩,⟨hyl,by omega⟩,⟨hyl,by omega⟩,⟨hyl,by omega,by omega⟩,⟨hyl,by omega⟩,⟨hyl,by omega,by omega⟩,hyl,by omega⟩,fun _=>⟨⟨by omega,by omega⟩,i+1,ys,⟨⟨by omega,by omega⟩,hyl,hys⟩,by omega,TurnT.le (by simp -dsimp -implicitDefEqProofs)⟩⟩
   rw [fl_set (xs:=ys) (j:=k+1) (by omega),fl_set (xs:=ys.set (k+1) (ys[k]?.getD 0)) (j:=k) (by rw [List.length_set]; omega)]
   exact TurnT.le (by simp -dsimp -implicitDefEqProofs)
 ·
  have hn:¬ i<xs0.length:=by omega
  simp -dsimp -implicitDefEqProofs [hn,ti14_all,tiT,ti14Γ,ti14E,ti14P,ti0Γ,ti0E,ti0P,conBef_eq,inI64]
  exact hK _ hxl hxs
def ti15Γ:List (FuncId×Con):=ti0Γ
theorem ti15Γ_ok:∀ p∈ti15Γ,(∀ (args:Array Value) (w:World),(callFunc p.1 args).run Tryz.prog w=.ok (.enter p.1 args) w)∧PureOk Tryz.prog p.1 p.2:=by
 simp only [ti15Γ]
 exact ti0Γ_ok
def ti15E:List (FuncId×ECon):=(157,conInsS)::ti0E
theorem ti15E_ok:∀ p∈ti15E,(∀ (args:Array Value) (w:World),(callFunc p.1 args).run Tryz.prog w=.ok (.enter p.1 args) w)∧EffOk Tryz.prog p.1 p.2:=by
 simp only [ti15E,List.forall_mem_cons]
 exact ⟨⟨enters_of Tryz.func157 (by kernel_rfl) rfl,inss_ok⟩,ti0E_ok⟩
def ti15P:List (FuncId×PCon):=ti0P
theorem ti15P_ok:∀ p∈ti15P,(∀ (args:Array Value) (w:World),(callFunc p.1 args).run Tryz.prog w=.ok (.enter p.1 args) w)∧PanOk Tryz.prog p.1 p.2:=by
 simp only [ti15P]
 exact ti0P_ok
def ti15:G:={ τ:=tiT,Γ:=ti15Γ,E:=ti15E,Pn:=ti15P }
theorem ti15_good:ti15.good Tryz.prog:=good_of_all (tiT_ok _ rfl) ti15Γ_ok ti15E_ok ti15P_ok
theorem ti15_all:(∀ t,ti15.td t=(look tiT t).getD .other)∧ti15.y=false∧ti15.Γ=ti15Γ∧ti15.E=ti15E∧ti15.Pn=ti15P∧ti15.fz=[]:=⟨fun _=>rfl,rfl,rfl,rfl,rfl,rfl⟩
def stabP (n:Nat) (x:D .fn) (al:Bool) (cs:List SV) (K:RV→List Blk→Prop):Prop:=∃ (xs:List Int) (v:tSrt.T),(cs=tI.flats xs∧xs.length=n∧n≤19∧(al=true∨xs=[])∧x=D.bndOf 86 ⟨tSrt,v⟩∧goodS v∧inS v xs) ∧
   ∀ ys:List Int,ys.length=xs.length→inS v ys→K (.tup []) [.arr al (tI.flats ys)]
def conStabS:ECon:={ wp:=fun args hp K=>match args,hp with
 | [.s (.own (.int .i64) 0 n),.s (.int .i64 m),.s (.fv x)],[.arr al cs]=>m=n∧stabP n x al cs K
 | _,_=>False }
theorem stabs_ok:EffOk Tryz.prog 122 conStabS:=by
 refine effOkD (L:={ live:=[0,1,2,6,7,8,9,13,30,35,54] }) ti15_good rfl nr_mixed Tryz.func122 rfl conStabS 3 (by decide) (by kernel_rfl) ?_
 intro args hp K hpre hlens
 simp only [conStabS] at hpre
 split at hpre
 case h_2=>exact hpre.elim
 rename_i n m x al cs
 obtain ⟨rfl,xs0,v,⟨rfl,rfl,hn,hal,rfl,hgs,hin⟩,hK⟩:=hpre
 refine ⟨rfl,?_⟩
 simp -dsimp -implicitDefEqProofs [Tryz.f122,ti15_all,tiT,ti15Γ,ti15E,ti15P,ti0Γ,ti0E,ti0P,conInsS,inI64]
 refine WpD.loop (L:={ live:=[0,1,2,6,7,8,9,13,30,35,54] }) ti15_good X0_ok nr_mixed (by kernel_rfl)
  (fun _:Nat=>⟨[(0,⟨true,.v (.s (.own tI 0 xs0.length))⟩),(1,vI xs0.length),(2,⟨true,.v (.s (.fv (D.bndOf 86 ⟨tSrt,v⟩)))⟩),(6,vI 20),(7,vI 0),(8,vI 20)],[.arr al (tI.flats xs0)]⟩)
  (fun _=>True) (fun n=>n) 0 trivial (Turn.le (by simp -dsimp -implicitDefEqProofs)) ?_
 rintro _ -
 have h20:¬ (20:Int)≤(xs0.length:Int):=by omega
 simp -dsimp -implicitDefEqProofs [h20,-Prod.forall,-Prod.exists,ti15_all,tiT,ti15Γ,ti15E,ti15P,ti0Γ,ti0E,ti0P,conInsS,inI64]
 refine ⟨xs0,v,⟨rfl,rfl,by omega,hal,rfl,hgs,hin⟩,fun ys hyl hys => ?_⟩
 refine WpD.loop (L:={ live:=[0,1,2,6,7,8,9,13,30,35,54] }) ti15_good X0_ok nr_mixed (by kernel_rfl)
  (fun _:Nat=>⟨[(0,⟨true,.v (.s (.own tI 0 xs0.length))⟩),(1,vI xs0.length),(2,⟨true,.v (.s (.fv (D.bndOf 86 ⟨tSrt,v⟩)))⟩),(6,vI 20),(7,vI 0),(8,vI 20)],[.arr al (tI.flats ys)]⟩)
  (fun _=>True) (fun n=>n) 0 trivial (Turn.le (by simp -dsimp -implicitDefEqProofs)) ?_
 rintro _ -
 have h21:¬ (20:Int)<(xs0.length:Int):=by omega
 simp -dsimp -implicitDefEqProofs [h21,-Prod.forall,-Prod.exists,ti15_all,tiT,ti15Γ,ti15E,ti15P,ti0Γ,ti0E,ti0P,conInsS,inI64]
 exact hK ys hyl hys
def conSSF:ECon:={ wp:=fun args hp K=>match args,hp with
 | [.s (.own (.int .i64) 0 n),.s (.fv x)],[.arr al cs]=>True∧stabP n x al cs K
 | _,_=>False }
def ti16Γ:List (FuncId×Con):=ti15Γ
theorem ti16Γ_ok:∀ p∈ti16Γ,(∀ (args:Array Value) (w:World),(callFunc p.1 args).run Tryz.prog w=.ok (.enter p.1 args) w)∧PureOk Tryz.prog p.1 p.2:=by
 simp only [ti16Γ]
 exact ti15Γ_ok
def ti16E:List (FuncId×ECon):=(122,conStabS)::ti15E
theorem ti16E_ok:∀ p∈ti16E,(∀ (args:Array Value) (w:World),(callFunc p.1 args).run Tryz.prog w=.ok (.enter p.1 args) w)∧EffOk Tryz.prog p.1 p.2:=by
 simp only [ti16E,List.forall_mem_cons]
 exact ⟨⟨enters_of Tryz.func122 (by kernel_rfl) rfl,stabs_ok⟩,ti15E_ok⟩
def ti16P:List (FuncId×PCon):=ti15P
theorem ti16P_ok:∀ p∈ti16P,(∀ (args:Array Value) (w:World),(callFunc p.1 args).run Tryz.prog w=.ok (.enter p.1 args) w)∧PanOk Tryz.prog p.1 p.2:=by
 simp only [ti16P]
 exact ti15P_ok
def ti16:G:={ τ:=tiT,Γ:=ti16Γ,E:=ti16E,Pn:=ti16P }
theorem ti16_good:ti16.good Tryz.prog:=good_of_all (tiT_ok _ rfl) ti16Γ_ok ti16E_ok ti16P_ok
theorem ti16_all:(∀ t,ti16.td t=(look tiT t).getD .other)∧ti16.y=false∧ti16.Γ=ti16Γ∧ti16.E=ti16E∧ti16.Pn=ti16P∧ti16.fz=[]:=⟨fun _=>rfl,rfl,rfl,rfl,rfl,rfl⟩
theorem ssf_ok:EffOk Tryz.prog 85 conSSF:=by
 refine effOkD (L:={ live:=[0,1] }) ti16_good rfl nr_mixed Tryz.func85 rfl conSSF 2 (by decide) (by kernel_rfl) ?_
 intro args hp K hpre hlens
 simp only [conSSF] at hpre
 split at hpre
 case h_2=>exact hpre.elim
 rename_i n x al cs
 obtain ⟨_,xs0,v,⟨rfl,rfl,hn,hal,rfl,hgs,hin⟩,hK⟩:=hpre
 refine ⟨rfl,?_⟩
 simp -dsimp -implicitDefEqProofs [Tryz.f85,stabP,-Prod.forall,-Prod.exists,ti16_all,tiT,ti16Γ,ti16E,ti16P,ti15Γ,ti15E,ti15P,ti0Γ,ti0E,ti0P,conStabS,conInsS,inI64]
 refine ⟨xs0,v,⟨rfl,rfl,hn,hal,rfl,hgs,hin⟩,fun ys hyl hys => ?_⟩
 exact hK ys hyl hys
def idsT (i:Nat):List Int:=(List.range i).map fun k:Nat=>(k:Int)
theorem idsT_zero:idsT 0=[]:=rfl
theorem idsT_len (i:Nat):(idsT i).length=i:=by simp [idsT]
theorem idsT_succ (i:Nat):idsT (i+1)=idsT i++[(i:Int)]:=by simp [idsT,List.range_succ]
theorem idsT_mem {i:Nat} {x:Int} (h:x∈idsT i):0≤x∧x<i:=by
 obtain ⟨k,hk,rfl⟩:=List.mem_map.1 h
 have:=List.mem_range.1 hk
 omega
def sortErr (ks:List tKey.T) (l:List tKd.T):Int:=if plainB ks=true∧l.any (wrongV (hasLs ks))=false then 0 else 210
def conTSort:ECon:={ wp:=fun args hp K=>match args,hp with
 | [.s (.sl tk ks _),.s (.sl td l _)],[]=>∃ (h1:tk=tKey) (h2:td=tKd),(List.length (h1▸ks:List tKey.T)≤10000∧List.length (h2▸l:List tKd.T)≤19)∧∀ (xs:List Int) (ex:Bool),K (.tup [aS tI xs ex,aI (sortErr (h1▸ks) (h2▸l))]) []
 | _,_=>False }
def ti17Γ:List (FuncId×Con):=(40,conPlain)::(84,conConK)::ti16Γ
theorem ti17Γ_ok:∀ p∈ti17Γ,(∀ (args:Array Value) (w:World),(callFunc p.1 args).run Tryz.prog w=.ok (.enter p.1 args) w)∧PureOk Tryz.prog p.1 p.2:=by
 simp only [ti17Γ,List.forall_mem_cons]
 exact ⟨⟨enters_of Tryz.func40 (by kernel_rfl) rfl,plain_ok⟩,⟨enters_of Tryz.func84 (by kernel_rfl) rfl,conk_ok⟩,ti16Γ_ok⟩
def ti17E:List (FuncId×ECon):=(85,conSSF)::ti16E
theorem ti17E_ok:∀ p∈ti17E,(∀ (args:Array Value) (w:World),(callFunc p.1 args).run Tryz.prog w=.ok (.enter p.1 args) w)∧EffOk Tryz.prog p.1 p.2:=by
 simp only [ti17E,List.forall_mem_cons]
 exact ⟨⟨enters_of Tryz.func85 (by kernel_rfl) rfl,ssf_ok⟩,ti16E_ok⟩
def ti17P:List (FuncId×PCon):=ti16P
theorem ti17P_ok:∀ p∈ti17P,(∀ (args:Array Value) (w:World),(callFunc p.1 args).run Tryz.prog w=.ok (.enter p.1 args) w)∧PanOk Tryz.prog p.1 p.2:=by
 simp only [ti17P]
 exact ti16P_ok
def ti17:G:={ τ:=tiT,Γ:=ti17Γ,E:=ti17E,Pn:=ti17P }
theorem ti17_good:ti17.good Tryz.prog:=good_of_all (tiT_ok _ rfl) ti17Γ_ok ti17E_ok ti17P_ok
theorem ti17_all:(∀ t,ti17.td t=(look tiT t).getD .other)∧ti17.y=false∧ti17.Γ=ti17Γ∧ti17.E=ti17E∧ti17.Pn=ti17P∧ti17.fz=[]:=⟨fun _=>rfl,rfl,rfl,rfl,rfl,rfl⟩
theorem tsort_ok:EffOk Tryz.prog 49 conTSort:=by
 refine effOkD (L:={ live:=[0,1,4,5,6,7,8,21,24,26,27,28],frz:=[(12,[4])] }) ti17_good rfl nr_mixed Tryz.func49 rfl conTSort 2 (by decide) (by kernel_rfl) ?_
 intro args hp K hpre hlens
 simp only [conTSort] at hpre
 split at hpre
 case h_2=>exact hpre.elim
 rename_i tk ks ek td l el
 obtain ⟨rfl,rfl,⟨hkl,hll⟩,hK⟩:=hpre; simp only at ks l hkl hll hK; have hwb:=wrongB_bnd 41 (hasLs ks,fstLs ks,())
 refine ⟨rfl,?_⟩
 simp -dsimp -implicitDefEqProofs [Tryz.f49,-Prod.forall,-Bool.forall_bool,-Prod.exists,-Bool.exists_bool,-List.any_eq_true,-List.any_eq_false,hwb,ti17_all,tiT,ti17Γ,ti17E,ti17P,ti16Γ,ti16E,ti16P,ti15Γ,ti15E,ti15P,ti0Γ,ti0E,ti0P,conPlain_eq,conConK_eq,conSSF,conStabS,conInsS,inI64]
 have hgo:goodO (D.bndOf 41 ⟨tOrd,(hasLs ks,fstLs ks,())⟩):=⟨_,rfl,goodH_hasLs⟩
 refine ⟨by omega,fun h=>⟨h,hgo⟩,fun h => ?_,fun h1 h2=>⟨fun h=>by omega,fun _ => ?_⟩⟩
 ·
  have:sortErr ks l=210:=by
   unfold sortErr
   rw [if_neg]
   rintro ⟨q1,q2⟩
   rcases h with h | h
   ·
    rw [q1] at h; cases h
   ·
    rw [q2] at h; cases h
  rw [← this]
  exact hK _ _
 have hmx:10000≤maxLen:=by simp only [maxLen]; omega
 refine WpD.turn _ (Turn.virt (k:=4) (t:=tI) (xs:=[]) (by simp [look])) ?_
 refine WpD.loop (L:={ live:=[0,1,4,5,6,7,8,21,24,26,27,28],frz:=[(12,[4])] }) ti17_good X0_ok nr_mixed (by kernel_rfl)
  (fun i:Nat=>⟨[(0,vS tKey ks ek),(1,vS tKd l el),(4,⟨true,.v (.s (.own tI 1 (idsT i).length))⟩),(5,vI 0),(6,⟨true,.v (.s (.box 0 0))⟩),(26,vI l.length),(27,vI i)],[.cells [.sl .fn (hasLs ks) false,.sl .fn (fstLs ks) false],.arr (decide (0<i)) (tI.flats (idsT i))]⟩)
  (fun i=>i≤l.length) (fun i=>l.length - i) 0 (Nat.zero_le _) (Turn.le (by simp -dsimp -implicitDefEqProofs [idsT_zero])) ?_
 intro i hi
 have hil0:=idsT_len i
 rcases Nat.lt_or_ge i l.length with hil | hge
 ·
  have e1:=idsT_succ i
  simp -dsimp -implicitDefEqProofs [hil,-Prod.forall,-Bool.forall_bool,-Prod.exists,-Bool.exists_bool,ti17_all,tiT,ti17Γ,ti17E,ti17P,ti16Γ,ti16E,ti16P,ti15Γ,ti15E,ti15P,ti0Γ,ti0E,ti0P,conPlain_eq,conConK_eq,conSSF,conStabS,conInsS,inI64]
  refine ⟨⟨by omega,by omega⟩,⟨by omega,by omega⟩,i+1,by omega,by omega,?_⟩
  rw [e1]
  exact TurnT.le (by simp -dsimp -implicitDefEqProofs)
 ·
  obtain rfl:i=l.length:=by omega
  have hn:¬ l.length<l.length:=by omega
  simp -dsimp -implicitDefEqProofs [hn,stabP,-Prod.forall,-Bool.forall_bool,-Prod.exists,-Bool.exists_bool,ti17_all,tiT,ti17Γ,ti17E,ti17P,ti16Γ,ti16E,ti16P,ti15Γ,ti15E,ti15P,ti0Γ,ti0E,ti0P,conPlain_eq,conConK_eq,conSSF,conStabS,conInsS,inI64]
  have hw:∀ a∈l,wrongV (hasLs ks) a=false:=fun a ha=>by
   rw [List.any_eq_false] at h2
   simpa using h2 a ha
  have hfl:=fstLs_len ks
  refine ⟨idsT l.length,(hasLs ks,fstLs ks,l,()),⟨rfl,rfl,by omega,?_,rfl,⟨?_,fun a ha b hb=>good_all (hw a ha) (hw b hb)⟩,fun x hx=>idsT_mem hx⟩,fun ys h3 h4=>⟨ys,rfl,by omega,?_⟩⟩
  ·
   rcases Nat.eq_zero_or_pos l.length with h | h
   ·
    right; rw [h]; rfl
   ·
    exact .inl h
  ·
   show (fstLs ks).length≤100000
   omega
  ·
   have:sortErr ks l=0:=if_pos ⟨h1,h2⟩
   rw [← this]
   exact hK ys false
end Go.Am
namespace Go.Am
open Go.RowKit
section
variable {P:Program} {w:World} {M0:Nat→Prop} {bs:Bs} {α:Type} [Inhabited α]
theorem heap_putRow {enc:α→Value} {b:Nat} {d:Array α} {m:Nat} {os:Array Obj} {cur:Array Value} {e:TypeId} {fr:Nat×Nat} (hb:w.heap[b]?=some (.cells cur e fr)) :
  (Sort.grow (Sort.putRow enc (Sort.ahead w m) b 0 d) os).heap[b]?=some (.cells (Sort.putCells enc 0 d cur) e fr):=by
 have hlt:=(Array.getElem?_eq_some_iff.1 hb).1
 simp only [Sort.grow,Sort.putRow,Sort.mapBlock,Sort.ahead]
 rw [Array.getElem?_append_left (by simpa using hlt),Array.getElem?_modify]
 simp only [if_true,hb,Option.map_some,Sort.onCells]
theorem heap_putRow_other {enc:α→Value} {b c:Nat} {d:Array α} {m:Nat} {os:Array Obj} (hne:c≠b) (hc:c<w.heap.size) :
  (Sort.grow (Sort.putRow enc (Sort.ahead w m) b 0 d) os).heap[c]?=w.heap[c]?:=by
 simp only [Sort.grow,Sort.putRow,Sort.mapBlock,Sort.ahead]
 rw [Array.getElem?_append_left (by simpa using hc),Array.getElem?_modify,if_neg (fun e=>hne e.symm)]
theorem row_anew {enc:α→Value} {b cap:Nat} {d:Array α} {m:Nat} {os:Array Obj} {al:Bool} {cs cs':List SV} (hr:HR w M0 bs [.arr al cs]) (hb:bs.at 0=some b) (ho:OwnAt w b cap 1) (hlen:cs'.length=cs.length) (hd:d.size=cs.length) (hcap:cs.length≤cap)
  (hrel:∀ (j:Nat) (x:SV),cs'[j]?=some x→(enc d[j]!).oneCell'=true∧relSV w (Mof M0 bs) bs [.arr al cs] x (enc d[j]!)) :
  HR (Sort.grow (Sort.putRow enc (Sort.ahead w m) b 0 d) os) M0 bs [.arr al cs'] ∧
   Step false w (Mof M0 bs) bs [.arr al cs] (Sort.grow (Sort.putRow enc (Sort.ahead w m) b 0 d) os) (Mof M0 bs) bs [.arr al cs']:=by
 obtain ⟨cur,e,h1,h2,h3⟩:=ho
 have hnew:=heap_putRow (enc:=enc) (d:=d) (m:=m) (os:=os) h1
 have hoth:=fun c hne hc=>heap_putRow_other (w:=w) (enc:=enc) (b:=b) (c:=c) (d:=d) (m:=m) (os:=os) hne hc
 have hcs:(Sort.putCells enc 0 d cur).size=cur.size:=by simp [Sort.putCells]
 have hev:Evo (Mof M0 bs) (Mof M0 bs) w (Sort.grow (Sort.putRow enc (Sort.ahead w m) b 0 d) os) :=
  ⟨rfl,rfl,rfl,by simp [Sort.grow,Sort.putRow,Sort.mapBlock,Sort.ahead],by simp [Sort.grow,Sort.putRow,Sort.mapBlock,Sort.ahead],fun c hc hn=>hoth c (fun e=>hn (e▸.inr ⟨0,hb⟩)) hc,fun _ _ h=>h⟩
 refine hr.rewrite (id:=0) hb hev hoth hnew (.arr al cs') ⟨_,e,rfl,fun j x hj => ?_⟩ ?_
 ·
  have hjl:=(List.getElem?_eq_some_iff.1 hj).1
  obtain ⟨k1,k2⟩:=hrel j x hj
  refine ⟨enc d[j]!,?_,k1,k2⟩
  have hjc:j<cur.size:=by omega
  simp [Sort.putCells,hjc]
  intro hge
  omega
 ·
  refine .inr ⟨hlen.symm,fun cap' size ⟨cur',e',g1,g2,g3⟩ => ?_⟩
  rw [h1] at g1
  injection g1 with g1; injection g1 with g1 g1'
  subst g1; subst g1'
  exact ⟨_,e,hnew,by rw [hcs]; exact g2,g3⟩
theorem own_cases {t:Ty} {al:Bool} {n:Nat} {cs:List SV} {v:Value} (hr:HR w M0 bs [.arr al cs]) (hlen:cs.length=n*t.size) (h:relSV w (Mof M0 bs) bs [.arr al cs] (.own t 0 n) v) :
  (∃ b cap cur e,bs.at 0=some b∧v=.slice (some ⟨b,0,none⟩) n cap∧n≤cap∧OwnAt w b cap t.size∧w.heap[b]?=some (.cells cur e (0,0))∧cur.size=cap*t.size∧cap≤maxLen∧b<w.heap.size ∧
   ∀ (j:Nat) (x:SV),cs[j]?=some x→∃ u,cur[j]?=some u∧u.oneCell'=true∧relSV w (Mof M0 bs) bs [.arr al cs] x u) ∨
  (al=false∧∃ a:Option Addr,v=.slice a n n∧n≤maxLen):=by
 obtain ⟨_,h⟩:=h
 rcases (h al cs rfl).2 hlen with ⟨b,cap,h1,h2,h3,h4⟩ | ⟨h1,xs,a,h2,h3,h4,h5,h6⟩
 ·
  left
  obtain ⟨cur,e,g1,g2⟩:=hr.arr 0 al cs b rfl h1
  obtain ⟨cur',e',g3,g4,g5⟩:=h4
  rw [g1] at g3
  injection g3 with g3; injection g3 with g3 g3'
  subst g3; subst g3'
  exact ⟨b,cap,cur,e,h1,h2,h3,⟨cur,e,g1,g4,g5⟩,g1,g4,g5,hr.lt 0 b h1,g2⟩
 ·
  right
  refine ⟨?_,a,h5,h3⟩
  cases al with
  | false=>rfl
  | true =>
   obtain ⟨b,hb⟩:=hr.al 0 cs rfl
   rw [h1] at hb; cases hb
def isort (xs:List Int):List Int:=xs.mergeSort fun x y=>decide (x≤y)
theorem isort_length (xs:List Int):(isort xs).length=xs.length:=by simp [isort]
def conSort:ECon:={ wp:=fun args hp K=>match args,hp with
 | [.s (.own (.int .i64) 0 n)],[.arr al cs]=>∃ xs:List Int,cs=(Ty.int .i64).flats xs∧xs.length=n∧xs.length<4611686018427387904∧(al=true∨xs=[])∧K (.tup []) [.arr al ((Ty.int .i64).flats (isort xs))]
 | _,_=>False }
theorem sort_eff {ρ:Shelf.Ren} (L:Proofs.SlLaysM.n5 P ρ):EffOk P (ρ.f 5) conSort:=by
 intro w M0 bs hp args vs K hpre hr hpure hargs
 simp only [conSort] at hpre
 split at hpre
 ·
  rename_i n al cs
  obtain ⟨xs,rfl,rfl,hsz,hal,hK⟩:=hpre
  obtain ⟨v,rfl,hv⟩:∃ v,vs=[v]∧relAV w (Mof M0 bs) bs [.arr al ((Ty.int .i64).flats xs)] (.s (.own tI 0 xs.length)) v:=by
   cases hargs with
   | cons h1 h2=>cases h2; exact ⟨_,rfl,h1⟩
  rcases own_cases hr (by rw [flats_length]) hv with ⟨b,cap,cur,e,h1,rfl,h3,h4,h5,h6,h7,h8,h9⟩ | ⟨hfal,a,rfl,hn⟩
  ·
   have hH:Sort.Holds (Value.int .i64) w b 0 xs.toArray:=by
    intro j hj
    have hj':j<xs.length:=by simpa using hj
    obtain ⟨u,k1,k2,k3⟩:=h9 j (.int .i64 xs[j]) (by rw [flats_int_get]; simp [hj'])
    obtain rfl:u=_:=k3
    refine ⟨?_,?_⟩
    ·
     simp only [Nat.zero_add,World.cell?,h5,Option.isSome_none,Bool.false_eq_true,if_false,k1]
     simp [hj']
    ·
     simp [World.frozen?,h5]
   refine (Proofs.AnyM.slices_Sort_int L b 0 cap xs w hH h8 hsz).mono ?_
   rintro o w' ⟨rfl,m,os,rfl⟩
   obtain ⟨k1,k2⟩:=row_anew (enc:=Value.int .i64) (d:=(isort xs).toArray) (m:=m) (os:=os) (cs':=(Ty.int .i64).flats (isort xs)) hr h1 h4 (by rw [flats_length,flats_length,isort_length]) (by rw [flats_length]; simp [isort_length]) (by rw [flats_length]; simpa using h3) (fun j x hj=>by
    rw [flats_int_get] at hj
    cases hi:(isort xs)[j]? with
    | none=>rw [hi] at hj; cases hj
    | some y =>
     rw [hi] at hj
     simp at hj; subst hj
     have hlt:=(List.getElem?_eq_some_iff.1 hi).1
     have hy:(isort xs).toArray[j]! = y:=by
      rw [getElem!_pos _ _ (by simpa using hlt)]
      simp only [List.getElem_toArray]
      rw [List.getElem?_eq_getElem hlt] at hi
      injection hi
     rw [hy]
     exact ⟨rfl,rfl⟩)
   exact ⟨_,.tup [],[.arr al ((Ty.int .i64).flats (isort xs))],bs,rfl,hK,⟨[],rfl,.nil⟩,by simp [Blk.pureB,flats_pure],k1,k2⟩
  ·
   have hx:xs=[]:=by
    rcases hal with hal | hal
    ·
     rw [hfal] at hal; cases hal
    ·
     exact hal
   subst hx
   refine (Proofs.AnyM.slices_Sort_int_none L a 0 w).mono ?_
   rintro o w' ⟨rfl,rfl⟩
   have h0:isort []=[]:=by simp [isort]
   rw [h0] at hK
   exact ⟨_,.tup [],_,bs,rfl,hK,⟨[],rfl,.nil⟩,hpure,hr,Step.refl _ _ _ _⟩
 ·
  exact hpre.elim
end
end Go.Am
namespace Go.Am
open Go.RowKit
section
variable {P:Program} {w:World} {M M0:Nat→Prop} {bs:Bs} {hp:List Blk}
theorem fvParts_sound {x:SV} {v:Value} {f:FuncId} {caps:List (Sigma Ty.T)} (hx:relSV w M bs hp x v) (h:fvParts x=some (f,caps)):∃ ps:List Value,v=.func (.func f) #[] ps.toArray∧All2 (FrozenAt w M) caps ps:=by
 cases x with
 | fn f' ids =>
  cases ids with
  | cons i r=>simp [fvParts] at h
  | nil =>
   simp [fvParts] at h
   obtain ⟨rfl,rfl⟩:=h
   obtain ⟨ps,rfl,h2⟩:=hx
   cases h2
   exact ⟨[],rfl,.nil⟩
 | fnp f' caps' =>
  simp [fvParts] at h
  obtain ⟨rfl,rfl⟩:=h
  obtain ⟨ps,rfl,h2⟩:=hx
  exact ⟨ps,rfl,h2⟩
 | fv x=>exact repD_parts hx h
 | _=>simp [fvParts] at h
theorem grown_of_below {W w':World} (h:Below W.heap.size W w') (hd:W.drawn≤w'.drawn):∃ q os,w'=Sort.grow (W.drewN q) os:=by
 refine ⟨w'.drawn - W.drawn,w'.heap.extract W.heap.size w'.heap.size,?_⟩
 have h1:w'.heap=W.heap++w'.heap.extract W.heap.size w'.heap.size:=by
  apply Array.ext_getElem?
  intro i
  rcases Nat.lt_or_ge i W.heap.size with hi | hi
  ·
   rw [Array.getElem?_append_left hi]; exact h.block i hi
  ·
   rw [Array.getElem?_append_right hi]
   rcases Nat.lt_or_ge i w'.heap.size with hj | hj
   ·
    rw [Array.getElem?_eq_getElem hj,Array.getElem?_eq_getElem (by simp; omega),Array.getElem_extract]
    congr 2
    omega
   ·
    rw [Array.getElem?_eq_none hj,Array.getElem?_eq_none (by simp; omega)]
 obtain ⟨hh,tape,drawn,os,output⟩:=w'
 simp only at h1 hd
 simp only [Sort.grow,World.drewN]
 have e1:os=W.os:=h.os
 have e2:tape=W.tape:=h.tape
 have e3:output=W.output:=h.output
 subst e1; subst e2; subst e3
 rw [← h1]
 congr 1
 omega
theorem flats_get {t:Ty} (h1:t.size=1):∀ (xs:List t.T) (j:Nat) (x:t.T),xs[j]?=some x→∃ s,t.flat x=[s]∧(t.flats xs)[j]?=some s
 | y::xs,0,x,h=>by
  simp at h; subst h
  have hl:=flat_length t y
  rw [h1] at hl
  obtain ⟨s,hs⟩:=List.length_eq_one_iff.1 hl
  exact ⟨s,hs,by simp [Ty.flats,hs]⟩
 | y::xs,j+1,x,h=>by
  have hl:=flat_length t y
  rw [h1] at hl
  obtain ⟨s',hs'⟩:=List.length_eq_one_iff.1 hl
  obtain ⟨s,k1,k2⟩:=flats_get h1 xs j x (by simpa using h)
  exact ⟨s,k1,by simp [Ty.flats,hs',k2]⟩
theorem parse_one {t:Ty} {x:t.T} {s:SV} {u:Value} (hf:t.flat x=[s]) (h:relSV w M bs hp s u):rep w M t x [u]:=by
 have hp:=parses_flat t x []
 rw [List.append_nil,hf] at hp
 obtain ⟨c1,c2,hc,h1,h2⟩:=parse_rep t [s] x [] [u] hp (.cons h .nil)
 cases h2
 simp at hc
 rw [hc]; exact h1
def conSortF (Γc:List (FuncId×Con)):ECon:={ wp:=fun args hp K=>match args,hp with
 | [.s (.own t 0 n),.s fv],[.arr al cs]=>t.size=1∧t.nfld=0∧∃ (xs:List t.T) (cf:t.T→t.T→Int) (f:FuncId) (caps:List (Sigma Ty.T)) (con:Con),cs=t.flats xs∧xs.length=n∧xs.length<4611686018427387904∧(al=true∨xs=[]) ∧
   fvParts fv=some (f,caps)∧look Γc f=some con∧(∀ x∈xs,∀ y∈xs,con.pre ([t.av x,t.av y]++caps.map capAV)∧con.val ([t.av x,t.av y]++caps.map capAV)=.v (.s (.int .i64 (cf x y)))) ∧
   (∀ x∈xs,¬ cf x x<0)∧(∀ x∈xs,∀ y∈xs,∀ z∈xs,cf x y<0→cf y z<0→cf x z<0)∧(∀ x∈xs,∀ y∈xs,∀ z∈xs,¬ cf x y<0→¬ cf y z<0→¬ cf x z<0) ∧
   ∀ ys:List t.T,ys.Perm xs→ys.Pairwise (fun x y=>¬ cf y x<0)→K (.tup []) [.arr al (t.flats ys)]
 | [.s (.sl t xs _),.s fv],[]=>xs=[]∧(fvParts fv).isSome=true∧K (.tup []) []
 | _,_=>False }
theorem sortF_eff {ρ:Shelf.Ren} (L:Proofs.SlLaysF.n6 P ρ) (Γc:List (FuncId×Con)) (hΓ:∀ f c,look Γc f=some c→(∀ (args:Array Value) (w:World),(callFunc f args).run P w=.ok (.enter f args) w)∧PureOk P f c):EffOk P (ρ.f 6) (conSortF Γc):=by
 intro w M0 bs hp args vs K hpre hr hpure hargs
 simp only [conSortF] at hpre
 split at hpre
 ·
  rename_i t n fv al cs
  obtain ⟨t1,t0,xs,cf,f,caps,con,rfl,rfl,hsz,hal,hfv,hcon,hcmp,ho1,ho2,ho3,hK⟩:=hpre
  obtain ⟨v,fvv,rfl,hv,hf⟩:∃ v fvv,vs=[v,fvv]∧relAV w (Mof M0 bs) bs [.arr al (t.flats xs)] (.s (.own t 0 xs.length)) v∧relSV w (Mof M0 bs) bs [.arr al (t.flats xs)] fv fvv:=by
   cases hargs with
   | cons h1 h2=>cases h2 with
    | cons h2 h3=>cases h3; exact ⟨_,_,rfl,h1,h2⟩
  obtain ⟨ps,rfl,hps⟩:=fvParts_sound hf hfv
  obtain ⟨hent,hpok⟩:=hΓ f con hcon
  rcases own_cases hr (by rw [flats_length]) hv with ⟨b,cap,cur,e,h1,rfl,h3,h4,h5,h6,h7,h8,h9⟩ | ⟨hfal,a,rfl,hn⟩
  ·
   by_cases hx0:xs=[]
   ·
    subst hx0
    refine (Proofs.AnyF.slices_SortFunc_none { L with } (some ⟨b,0,none⟩) cap (.func (.func f) #[] ps.toArray) w).mono ?_
    rintro o w' ⟨rfl,rfl⟩
    exact ⟨_,.tup [],_,bs,rfl,hK [] (.refl _) .nil,⟨[],rfl,.nil⟩,hpure,hr,Step.refl _ _ _ _⟩
   have hpos:0<xs.length:=List.length_pos_iff.2 hx0
   rw [t1] at h4 h6
   have hcell:∀ i:Nat,i<xs.length→∃ (s:SV) (u:Value),(∃ x,xs[i]?=some x∧t.flat x=[s])∧cur[i]?=some u∧u.oneCell'=true∧relSV w (Mof M0 bs) bs [.arr al (t.flats xs)] s u:=by
    intro i hi
    obtain ⟨s,k1,k2⟩:=flats_get t1 xs i xs[i] (List.getElem?_eq_getElem hi)
    obtain ⟨u,q1,q2,q3⟩:=h9 i s k2
    exact ⟨s,u,⟨xs[i],List.getElem?_eq_getElem hi,k1⟩,q1,q2,q3⟩
   let α:={ i:Nat // i<xs.length }
   letI:Inhabited α:=⟨⟨0,hpos⟩⟩
   let enc:α→Value:=fun i=>cur.getD i.1 undef
   let at':α→t.T:=fun i=>xs[i.1]'i.2
   let d:Array α:=(List.range xs.length).attach.toArray.map fun i=>⟨i.1,by simpa using i.2⟩
   have hds:d.size=xs.length:=by simp [d]
   have hdg:∀ j (hj:j<xs.length),d[j]! = ⟨j,hj⟩:=by
    intro j hj
    rw [getElem!_pos _ _ (by rw [hds]; exact hj)]
    simp [d]
   have henc:∀ i:α,∃ (s:SV),t.flat (at' i)=[s]∧(enc i).oneCell'=true∧relSV w (Mof M0 bs) bs [.arr al (t.flats xs)] s (enc i):=by
    intro i
    obtain ⟨s,u,⟨x,hx,hs⟩,k1,k2,k3⟩:=hcell i.1 i.2
    have hx':x=at' i:=by
     rw [List.getElem?_eq_getElem i.2] at hx
     injection hx with hx
     exact hx.symm
    have hu:enc i=u:=by simp [enc,Array.getD_eq_getD_getElem?,k1]
    exact ⟨s,by rw [← hx']; exact hs,by rw [hu]; exact k2,by rw [hu]; exact k3⟩
   have hmem:∀ i:α,at' i∈xs:=fun i=>List.getElem_mem _
   have hH:Sort.Holds enc w b 0 d:=by
    intro j hj
    rw [hds] at hj
    rw [hdg j hj]
    obtain ⟨s,u,_,k1,_⟩:=hcell j hj
    have hu:enc ⟨j,hj⟩=u:=by simp [enc,Array.getD_eq_getD_getElem?,k1]
    refine ⟨?_,by simp [World.frozen?,h5]⟩
    rw [hu]
    simp only [Nat.zero_add,World.cell?,h5,Option.isSome_none,Bool.false_eq_true,if_false,k1]
   have hO:Sort.SWO (Proofs.ltOf fun i j:α=>cf (at' i) (at' j)):=by
    refine ⟨fun x => ?_,fun x y z g1 g2 => ?_,fun x y z g1 g2 => ?_⟩
    ·
     simpa [Proofs.ltOf] using ho1 _ (hmem x)
    ·
     simp only [Proofs.ltOf,decide_eq_true_eq] at g1 g2 ⊢
     exact ho2 _ (hmem x) _ (hmem y) _ (hmem z) g1 g2
    ·
     simp only [Proofs.ltOf,decide_eq_false_iff_not] at g1 g2 ⊢
     exact ho3 _ (hmem x) _ (hmem y) _ (hmem z) g1 g2
   have hcl:Proofs.CmpLays1 P f ps.toArray enc (fun i j:α=>cf (at' i) (at' j)) b 0 d.size w:=by
    intro m os dk hdk x y
    obtain ⟨sx,fx,ox,rx⟩:=henc x
    obtain ⟨sy,fy,oy,ry⟩:=henc y
    obtain ⟨c1,c2⟩:=hcmp _ (hmem x) _ (hmem y)
    obtain ⟨W,hW⟩:∃ W,Proofs.sortWorld enc w b 0 m dk os=W:=⟨_,rfl⟩
    have hWe:Evo (Mof M0 bs) (Mof M0 bs) w W:=by
     rw [← hW]
     exact ⟨rfl,rfl,rfl,by simp [Proofs.sortWorld,Sort.grow,Sort.putRow,Sort.mapBlock,Sort.ahead],by simp [Proofs.sortWorld,Sort.grow,Sort.putRow,Sort.mapBlock,Sort.ahead],fun c hc hn=>heap_putRow_other (fun e=>hn (e▸.inr ⟨0,h1⟩)) hc,fun _ _ h=>h⟩
    have hrel:∀ (z:α) (s:SV),t.flat (at' z)=[s]→relSV w (Mof M0 bs) bs [.arr al (t.flats xs)] s (enc z)→relAV W (Mof M0 bs) [] [] (t.av (at' z)) (enc z):=fun z s g1 g2 =>
     one_av (rep_evo hWe _ _ _ (parse_one g1 g2)) t1 t0
    have hcaps:All2 (relAV W (Mof M0 bs) [] []) (caps.map capAV) ps:=caps_rel (hps.imp fun c p hp=>hp.evo hWe)
    have hc:=hpok W (Mof M0 bs) ([t.av (at' x),t.av (at' y)]++caps.map capAV) ([enc x,enc y]++ps) c1 (fun c hc=>by
     rcases hc with hc | ⟨id,hc⟩
     ·
      exact Nat.lt_of_lt_of_le (hr.m0 c hc) hWe.size
     ·
      exact Nat.lt_of_lt_of_le (hr.lt id c hc) hWe.size) (.cons (hrel x sx fx rx) (.cons (hrel y sy fy ry) hcaps))
    rw [hW]
    have harr:([enc x,enc y]++ps).toArray=#[enc x,enc y]++ps.toArray:=by simp
    rw [harr] at hc
    refine hc.mono ?_
    rintro o w' ⟨u,rfl,hu,hbl,hdr⟩
    rw [c2] at hu
    obtain rfl:u=.int .i64 (cf (at' x) (at' y)):=hu
    exact ⟨rfl,grown_of_below hbl hdr⟩
   have hcall:=Proofs.Any.slices_SortFunc L enc (fun i=>(henc i).choose_spec.2.1) (fun i j:α=>cf (at' i) (at' j)) hO f ps.toArray b 0 cap d w hent hcl hH h8 (by rw [hds]; exact hsz)
   rw [hds] at hcall
   refine hcall.mono ?_
   rintro o w' ⟨rfl,d',m,os,hperm,hsorted,rfl⟩
   obtain ⟨p1,_,p3⟩:=hperm
   have hp':d'.toList.Perm d.toList:=by
    have e1:d'.extract 0 xs.length=d':=by rw [← hds,← p1]; simp
    have e2:d.extract 0 xs.length=d:=by rw [← hds]; simp
    rw [e1,e2] at p3; exact p3
   have hdl:d.toList.map at'=xs:=by
    apply List.ext_getElem
    ·
     simp [hds]
    ·
     intro i g1 g2
     simp [d,at']
   have hys:(d'.toList.map at').Perm xs:=by
    have:=hp'.map at'
    rwa [hdl] at this
   have hd's:d'.size=xs.length:=by rw [p1,hds]
   have hpw:(d'.toList.map at').Pairwise (fun x y=>¬ cf y x<0):=by
    rw [List.pairwise_map,List.pairwise_iff_getElem]
    intro i j hi hj hij
    have:=hsorted i j (Nat.zero_le _) hij (by simpa [hd's] using hj)
    simp only [Proofs.ltOf,decide_eq_false_iff_not] at this
    rw [getElem!_pos _ _ (by simpa using hj),getElem!_pos _ _ (by simpa using hi)] at this
    simpa using this
   have hylen:(d'.toList.map at').length=xs.length:=by simp [hd's]
   obtain ⟨k1,k2⟩:=row_anew (enc:=enc) (d:=d') (m:=m) (os:=os) (cs':=t.flats (d'.toList.map at')) hr h1 h4 (by rw [flats_length,flats_length,hylen]) (by rw [flats_length,t1]; omega) (by rw [flats_length,t1]; omega) (fun j x hj=>by
    have hjl:j<xs.length:=by
     have:=(List.getElem?_eq_some_iff.1 hj).1
     rw [flats_length,t1,hylen] at this
     omega
    obtain ⟨s,g1,g2⟩:=flats_get t1 (d'.toList.map at') j (at' d'[j]!) (by
     rw [List.getElem?_map,Array.getElem?_toList,getElem!_pos _ _ (by omega),Array.getElem?_eq_getElem (by omega)]; rfl)
    rw [hj] at g2; cases g2
    obtain ⟨s',q1,q2,q3⟩:=henc d'[j]!
    rw [g1] at q1; cases q1
    exact ⟨q2,q3⟩)
   exact ⟨_,.tup [],[.arr al (t.flats (d'.toList.map at'))],bs,rfl,hK _ hys hpw,⟨[],rfl,.nil⟩,by simp [Blk.pureB,flats_pure],k1,k2⟩
  ·
   have hx:xs=[]:=by
    rcases hal with hal | hal
    ·
     rw [hfal] at hal; cases hal
    ·
     exact hal
   subst hx
   refine (Proofs.AnyF.slices_SortFunc_none { L with } a 0 (.func (.func f) #[] ps.toArray) w).mono ?_
   rintro o w' ⟨rfl,rfl⟩
   exact ⟨_,.tup [],_,bs,rfl,hK [] (.refl _) .nil,⟨[],rfl,.nil⟩,hpure,hr,Step.refl _ _ _ _⟩
 ·
  rename_i t xs ex fv
  obtain ⟨rfl,hfv,hK⟩:=hpre
  obtain ⟨v,fvv,rfl,hv,hf⟩:∃ v fvv,vs=[v,fvv]∧relAV w (Mof M0 bs) bs [] (.s (.sl t [] ex)) v∧relSV w (Mof M0 bs) bs [] fv fvv:=by
   cases hargs with
   | cons h1 h2=>cases h2 with
    | cons h2 h3=>cases h3; exact ⟨_,_,rfl,h1,h2⟩
  obtain ⟨⟨f,caps⟩,hp⟩:=Option.isSome_iff_exists.1 hfv
  obtain ⟨ps,rfl,_⟩:=fvParts_sound hf hp
  obtain ⟨a,c,rfl,_⟩:=hv
  refine (Proofs.AnyF.slices_SortFunc_none { L with } a c (.func (.func f) #[] ps.toArray) w).mono ?_
  rintro o w' ⟨rfl,rfl⟩
  exact ⟨_,.tup [],_,bs,rfl,hK,⟨[],rfl,.nil⟩,hpure,hr,Step.refl _ _ _ _⟩
 ·
  exact hpre.elim
end
end Go.Am
namespace Go.Am
open Go.RowKit
section
variable {P:Program} {w:World} {M0:Nat→Prop} {bs:Bs}
theorem isort_perm (xs:List Int):(isort xs).Perm xs:=List.mergeSort_perm ..
theorem isort_sorted (xs:List Int):(isort xs).Pairwise (fun x y=>x≤y):=by
 have:=List.pairwise_mergeSort (le:=fun x y:Int=>decide (x≤y)) (by intro a b c; simp; omega) (by intro a b; simp; omega) xs
 exact this.imp (by simp)
end
end Go.Am
namespace Go.Proofs
set_option maxRecDepth 20000
def Tryz.laySort_ren:Go.Shelf.Ren:=⟨fun | 5=>82 | 8=>99 | 7=>120 | 19=>137 | 20=>138 | 10=>149 | 11=>150 | 12=>151 | 13=>152 | 14=>153 | 15=>154 | 16=>147 | 17=>155 | 18=>156 | 30=>182 | 31=>168 | 32=>169 | 33=>183 | 34=>184 | 35=>92 | 40=>205 | n=>n,fun | 23=>39 | 25=>3 | 3=>3 | 32=>149 | 22=>39 | 0=>0 | 44=>171 | 46=>173 | 4=>4 | 36=>165 | 35=>164 | 41=>110 | 5=>5 | 9=>9 | 53=>197 | 57=>201 | 63=>223 | 64=>82 | n=>n,fun | n=>n⟩
theorem Tryz.laySort:Go.Proofs.SlLaysM.n5 Tryz.prog Tryz.laySort_ren:={
 mixed:=by kernel_rfl,
 f5:=⟨Tryz.f82.name,by decide,Tryz.func82.trans (congrArg some (by kernel_rfl))⟩,
 f7:=⟨Tryz.f120.name,by decide,Tryz.func120.trans (congrArg some (by kernel_rfl))⟩,
 f8:=Tryz.func99.trans (congrArg some (by kernel_rfl)),
 f10:=⟨Tryz.f149.name,by decide,Tryz.func149.trans (congrArg some (by kernel_rfl))⟩,
 f11:=⟨Tryz.f150.name,by decide,Tryz.func150.trans (congrArg some (by kernel_rfl))⟩,
 f12:=⟨Tryz.f151.name,by decide,Tryz.func151.trans (congrArg some (by kernel_rfl))⟩,
 f13:=⟨Tryz.f152.name,by decide,Tryz.func152.trans (congrArg some (by kernel_rfl))⟩,
 f14:=⟨Tryz.f153.name,by decide,Tryz.func153.trans (congrArg some (by kernel_rfl))⟩,
 f15:=⟨Tryz.f154.name,by decide,Tryz.func154.trans (congrArg some (by kernel_rfl))⟩,
 f16:=⟨Tryz.f147.name,by decide,Tryz.func147.trans (congrArg some (by kernel_rfl))⟩,
 f17:=⟨Tryz.f155.name,by decide,Tryz.func155.trans (congrArg some (by kernel_rfl))⟩,
 f18:=⟨Tryz.f156.name,by decide,Tryz.func156.trans (congrArg some (by kernel_rfl))⟩,
 f19:=Tryz.func137.trans (congrArg some (by kernel_rfl)),
 f20:=Tryz.func138.trans (congrArg some (by kernel_rfl)),
 f30:=⟨Tryz.f182.name,by decide,Tryz.func182.trans (congrArg some (by kernel_rfl))⟩,
 f31:=Tryz.func168.trans (congrArg some (by kernel_rfl)),
 f32:=Tryz.func169.trans (congrArg some (by kernel_rfl)),
 f33:=⟨Tryz.f183.name,by decide,Tryz.func183.trans (congrArg some (by kernel_rfl))⟩,
 f34:=⟨Tryz.f184.name,by decide,Tryz.func184.trans (congrArg some (by kernel_rfl))⟩,
 f35:=⟨Tryz.f92.name,by decide,Tryz.func92.trans (congrArg some (by kernel_rfl))⟩,
 f40:=⟨Tryz.f205.name,by decide,Tryz.func205.trans (congrArg some (by kernel_rfl))⟩,
 t0:=Tryz.underlying0,
 a0:=Tryz.isAgg0,
 z0:=Tryz.sizeOf0,
 v0:=Tryz.zeroValue0,
 t3:=Tryz.underlying3,
 a3:=Tryz.isAgg3,
 z3:=Tryz.sizeOf3,
 v3:=Tryz.zeroValue3,
 t4:=Tryz.underlying4,
 a4:=Tryz.isAgg4,
 z4:=Tryz.sizeOf4,
 v4:=Tryz.zeroValue4,
 t5:=Tryz.underlying5,
 a5:=Tryz.isAgg5,
 z5:=Tryz.sizeOf5,
 v5:=Tryz.zeroValue5,
 t9:=Tryz.underlying9,
 a9:=Tryz.isAgg9,
 z9:=Tryz.sizeOf9,
 v9:=Tryz.zeroValue9,
 t22:=Tryz.underlying39,
 a22:=Tryz.isAgg39,
 z22:=Tryz.sizeOf39,
 v22:=Tryz.zeroValue39,
 t23:=Tryz.underlying39,
 a23:=Tryz.isAgg39,
 z23:=Tryz.sizeOf39,
 v23:=Tryz.zeroValue39,
 t25:=Tryz.underlying3,
 a25:=Tryz.isAgg3,
 z25:=Tryz.sizeOf3,
 v25:=Tryz.zeroValue3,
 t32:=Tryz.underlying149,
 a32:=Tryz.isAgg149,
 z32:=Tryz.sizeOf149,
 v32:=Tryz.zeroValue149,
 t35:=Tryz.underlying164,
 a35:=Tryz.isAgg164,
 z35:=Tryz.sizeOf164,
 v35:=Tryz.zeroValue164,
 t36:=Tryz.underlying165,
 a36:=Tryz.isAgg165,
 z36:=Tryz.sizeOf165,
 v36:=Tryz.zeroValue165,
 t41:=Tryz.underlying110,
 a41:=Tryz.isAgg110,
 z41:=Tryz.sizeOf110,
 v41:=Tryz.zeroValue110,
 t44:=Tryz.underlying171,
 a44:=Tryz.isAgg171,
 z44:=Tryz.sizeOf171,
 v44:=Tryz.zeroValue171,
 t46:=Tryz.underlying173,
 a46:=Tryz.isAgg173,
 z46:=Tryz.sizeOf173,
 v46:=Tryz.zeroValue173,
 t53:=Tryz.underlying197,
 a53:=Tryz.isAgg197,
 z53:=Tryz.sizeOf197,
 v53:=Tryz.zeroValue197,
 t57:=Tryz.underlying201,
 a57:=Tryz.isAgg201,
 z57:=Tryz.sizeOf201,
 v57:=Tryz.zeroValue201,
 t63:=Tryz.underlying223,
 a63:=Tryz.isAgg223,
 z63:=Tryz.sizeOf223,
 v63:=Tryz.zeroValue223,
 t64:=Tryz.underlying82,
 a64:=Tryz.isAgg82,
 z64:=Tryz.sizeOf82,
 v64:=Tryz.zeroValue82 }
def Tryz.laySortF_ren:Go.Shelf.Ren:=⟨fun | 6=>60 | 15=>99 | 14=>98 | 28=>137 | 29=>138 | 20=>129 | 21=>130 | 22=>131 | 23=>132 | 24=>133 | 25=>134 | 26=>135 | 27=>136 | 46=>167 | 47=>168 | 48=>169 | 49=>170 | 50=>171 | 57=>198 | n=>n,fun | 22=>106 | 24=>86 | 25=>85 | 3=>3 | 39=>149 | 0=>0 | 53=>171 | 55=>173 | 4=>4 | 46=>165 | 45=>164 | 50=>110 | 5=>5 | 9=>9 | 66=>197 | 70=>201 | 76=>223 | 77=>82 | n=>n,fun | n=>n⟩
theorem Tryz.laySortF:Go.Proofs.SlLaysF.n6 Tryz.prog Tryz.laySortF_ren:={
 mixed:=by kernel_rfl,
 f6:=⟨Tryz.f60.name,by decide,Tryz.func60.trans (congrArg some (by kernel_rfl))⟩,
 f14:=⟨Tryz.f98.name,by decide,Tryz.func98.trans (congrArg some (by kernel_rfl))⟩,
 f15:=Tryz.func99.trans (congrArg some (by kernel_rfl)),
 f20:=⟨Tryz.f129.name,by decide,Tryz.func129.trans (congrArg some (by kernel_rfl))⟩,
 f21:=⟨Tryz.f130.name,by decide,Tryz.func130.trans (congrArg some (by kernel_rfl))⟩,
 f22:=⟨Tryz.f131.name,by decide,Tryz.func131.trans (congrArg some (by kernel_rfl))⟩,
 f23:=⟨Tryz.f132.name,by decide,Tryz.func132.trans (congrArg some (by kernel_rfl))⟩,
 f24:=⟨Tryz.f133.name,by decide,Tryz.func133.trans (congrArg some (by kernel_rfl))⟩,
 f25:=⟨Tryz.f134.name,by decide,Tryz.func134.trans (congrArg some (by kernel_rfl))⟩,
 f26:=⟨Tryz.f135.name,by decide,Tryz.func135.trans (congrArg some (by kernel_rfl))⟩,
 f27:=⟨Tryz.f136.name,by decide,Tryz.func136.trans (congrArg some (by kernel_rfl))⟩,
 f28:=Tryz.func137.trans (congrArg some (by kernel_rfl)),
 f29:=Tryz.func138.trans (congrArg some (by kernel_rfl)),
 f46:=⟨Tryz.f167.name,by decide,Tryz.func167.trans (congrArg some (by kernel_rfl))⟩,
 f47:=Tryz.func168.trans (congrArg some (by kernel_rfl)),
 f48:=Tryz.func169.trans (congrArg some (by kernel_rfl)),
 f49:=⟨Tryz.f170.name,by decide,Tryz.func170.trans (congrArg some (by kernel_rfl))⟩,
 f50:=⟨Tryz.f171.name,by decide,Tryz.func171.trans (congrArg some (by kernel_rfl))⟩,
 f57:=⟨Tryz.f198.name,by decide,Tryz.func198.trans (congrArg some (by kernel_rfl))⟩,
 t0:=Tryz.underlying0,
 a0:=Tryz.isAgg0,
 z0:=Tryz.sizeOf0,
 v0:=Tryz.zeroValue0,
 t3:=Tryz.underlying3,
 a3:=Tryz.isAgg3,
 z3:=Tryz.sizeOf3,
 v3:=Tryz.zeroValue3,
 t4:=Tryz.underlying4,
 a4:=Tryz.isAgg4,
 z4:=Tryz.sizeOf4,
 v4:=Tryz.zeroValue4,
 t5:=Tryz.underlying5,
 a5:=Tryz.isAgg5,
 z5:=Tryz.sizeOf5,
 v5:=Tryz.zeroValue5,
 t9:=Tryz.underlying9,
 a9:=Tryz.isAgg9,
 z9:=Tryz.sizeOf9,
 v9:=Tryz.zeroValue9,
 t22:=Tryz.underlying106,
 a22:=Tryz.isAgg106,
 z22:=Tryz.sizeOf106,
 v22:=Tryz.zeroValue106,
 a24:=Tryz.isAgg86,
 z24:=Tryz.sizeOf86,
 t25:=Tryz.underlying85,
 a25:=Tryz.isAgg85,
 z25:=Tryz.sizeOf85,
 v25:=Tryz.zeroValue85,
 t39:=Tryz.underlying149,
 a39:=Tryz.isAgg149,
 z39:=Tryz.sizeOf149,
 v39:=Tryz.zeroValue149,
 t45:=Tryz.underlying164,
 a45:=Tryz.isAgg164,
 z45:=Tryz.sizeOf164,
 v45:=Tryz.zeroValue164,
 t46:=Tryz.underlying165,
 a46:=Tryz.isAgg165,
 z46:=Tryz.sizeOf165,
 v46:=Tryz.zeroValue165,
 t50:=Tryz.underlying110,
 a50:=Tryz.isAgg110,
 z50:=Tryz.sizeOf110,
 v50:=Tryz.zeroValue110,
 t53:=Tryz.underlying171,
 a53:=Tryz.isAgg171,
 z53:=Tryz.sizeOf171,
 v53:=Tryz.zeroValue171,
 t55:=Tryz.underlying173,
 a55:=Tryz.isAgg173,
 z55:=Tryz.sizeOf173,
 v55:=Tryz.zeroValue173,
 t66:=Tryz.underlying197,
 a66:=Tryz.isAgg197,
 z66:=Tryz.sizeOf197,
 v66:=Tryz.zeroValue197,
 t70:=Tryz.underlying201,
 a70:=Tryz.isAgg201,
 z70:=Tryz.sizeOf201,
 v70:=Tryz.zeroValue201,
 t76:=Tryz.underlying223,
 a76:=Tryz.isAgg223,
 z76:=Tryz.sizeOf223,
 v76:=Tryz.zeroValue223,
 t77:=Tryz.underlying82,
 a77:=Tryz.isAgg82,
 z77:=Tryz.sizeOf82,
 v77:=Tryz.zeroValue82 }
def Tryz.laySortFI_ren:Go.Shelf.Ren:=⟨fun | 6=>124 | 15=>99 | 14=>160 | 28=>137 | 29=>138 | 20=>157 | 21=>186 | 22=>187 | 23=>188 | 24=>189 | 25=>190 | 26=>191 | 27=>192 | 46=>207 | 47=>168 | 48=>169 | 49=>208 | 50=>209 | 57=>216 | n=>n,fun | 22=>39 | 24=>3 | 25=>98 | 3=>3 | 39=>149 | 0=>0 | 53=>171 | 55=>173 | 4=>4 | 46=>165 | 45=>164 | 50=>110 | 5=>5 | 9=>9 | 66=>197 | 70=>201 | 76=>223 | 77=>82 | n=>n,fun | n=>n⟩
theorem Tryz.laySortFI:Go.Proofs.SlLaysF.n6 Tryz.prog Tryz.laySortFI_ren:={
 mixed:=by kernel_rfl,
 f6:=⟨Tryz.f124.name,by decide,Tryz.func124.trans (congrArg some (by kernel_rfl))⟩,
 f14:=⟨Tryz.f160.name,by decide,Tryz.func160.trans (congrArg some (by kernel_rfl))⟩,
 f15:=Tryz.func99.trans (congrArg some (by kernel_rfl)),
 f20:=⟨Tryz.f157.name,by decide,Tryz.func157.trans (congrArg some (by kernel_rfl))⟩,
 f21:=⟨Tryz.f186.name,by decide,Tryz.func186.trans (congrArg some (by kernel_rfl))⟩,
 f22:=⟨Tryz.f187.name,by decide,Tryz.func187.trans (congrArg some (by kernel_rfl))⟩,
 f23:=⟨Tryz.f188.name,by decide,Tryz.func188.trans (congrArg some (by kernel_rfl))⟩,
 f24:=⟨Tryz.f189.name,by decide,Tryz.func189.trans (congrArg some (by kernel_rfl))⟩,
 f25:=⟨Tryz.f190.name,by decide,Tryz.func190.trans (congrArg some (by kernel_rfl))⟩,
 f26:=⟨Tryz.f191.name,by decide,Tryz.func191.trans (congrArg some (by kernel_rfl))⟩,
 f27:=⟨Tryz.f192.name,by decide,Tryz.func192.trans (congrArg some (by kernel_rfl))⟩,
 f28:=Tryz.func137.trans (congrArg some (by kernel_rfl)),
 f29:=Tryz.func138.trans (congrArg some (by kernel_rfl)),
 f46:=⟨Tryz.f207.name,by decide,Tryz.func207.trans (congrArg some (by kernel_rfl))⟩,
 f47:=Tryz.func168.trans (congrArg some (by kernel_rfl)),
 f48:=Tryz.func169.trans (congrArg some (by kernel_rfl)),
 f49:=⟨Tryz.f208.name,by decide,Tryz.func208.trans (congrArg some (by kernel_rfl))⟩,
 f50:=⟨Tryz.f209.name,by decide,Tryz.func209.trans (congrArg some (by kernel_rfl))⟩,
 f57:=⟨Tryz.f216.name,by decide,Tryz.func216.trans (congrArg some (by kernel_rfl))⟩,
 t0:=Tryz.underlying0,
 a0:=Tryz.isAgg0,
 z0:=Tryz.sizeOf0,
 v0:=Tryz.zeroValue0,
 t3:=Tryz.underlying3,
 a3:=Tryz.isAgg3,
 z3:=Tryz.sizeOf3,
 v3:=Tryz.zeroValue3,
 t4:=Tryz.underlying4,
 a4:=Tryz.isAgg4,
 z4:=Tryz.sizeOf4,
 v4:=Tryz.zeroValue4,
 t5:=Tryz.underlying5,
 a5:=Tryz.isAgg5,
 z5:=Tryz.sizeOf5,
 v5:=Tryz.zeroValue5,
 t9:=Tryz.underlying9,
 a9:=Tryz.isAgg9,
 z9:=Tryz.sizeOf9,
 v9:=Tryz.zeroValue9,
 t22:=Tryz.underlying39,
 a22:=Tryz.isAgg39,
 z22:=Tryz.sizeOf39,
 v22:=Tryz.zeroValue39,
 a24:=Tryz.isAgg3,
 z24:=Tryz.sizeOf3,
 t25:=Tryz.underlying98,
 a25:=Tryz.isAgg98,
 z25:=Tryz.sizeOf98,
 v25:=Tryz.zeroValue98,
 t39:=Tryz.underlying149,
 a39:=Tryz.isAgg149,
 z39:=Tryz.sizeOf149,
 v39:=Tryz.zeroValue149,
 t45:=Tryz.underlying164,
 a45:=Tryz.isAgg164,
 z45:=Tryz.sizeOf164,
 v45:=Tryz.zeroValue164,
 t46:=Tryz.underlying165,
 a46:=Tryz.isAgg165,
 z46:=Tryz.sizeOf165,
 v46:=Tryz.zeroValue165,
 t50:=Tryz.underlying110,
 a50:=Tryz.isAgg110,
 z50:=Tryz.sizeOf110,
 v50:=Tryz.zeroValue110,
 t53:=Tryz.underlying171,
 a53:=Tryz.isAgg171,
 z53:=Tryz.sizeOf171,
 v53:=Tryz.zeroValue171,
 t55:=Tryz.underlying173,
 a55:=Tryz.isAgg173,
 z55:=Tryz.sizeOf173,
 v55:=Tryz.zeroValue173,
 t66:=Tryz.underlying197,
 a66:=Tryz.isAgg197,
 z66:=Tryz.sizeOf197,
 v66:=Tryz.zeroValue197,
 t70:=Tryz.underlying201,
 a70:=Tryz.isAgg201,
 z70:=Tryz.sizeOf201,
 v70:=Tryz.zeroValue201,
 t76:=Tryz.underlying223,
 a76:=Tryz.isAgg223,
 z76:=Tryz.sizeOf223,
 v76:=Tryz.zeroValue223,
 t77:=Tryz.underlying82,
 a77:=Tryz.isAgg82,
 z77:=Tryz.sizeOf82,
 v77:=Tryz.zeroValue82 }
end Go.Proofs
namespace Go.Am.Pl
set_option maxHeartbeats 4000000
set_option maxRecDepth 20000
open Go.RowKit Go.Proofs
attribute [local simp] thenKD_normal thenKD_exit thenKD_goto thenKD_ret inBlockKD_normal inBlockKD_exit inBlockKD_goto inBlockKD_ret noGotoKD_normal noGotoKD_exit noGotoKD_goto noGotoKD_ret roundKD_normal roundKD_exit roundKD_goto roundKD_ret frzSlotsD_nil frzSlotsD_cons frzSlotD_eq yieldVCD_trace opVCD_eq vcOpsD_nil vcOpsD_cons vcAllD_zero vcAllD_succ allAtD_nil allAtD_cons readyAux edgA vcD_skip vcD_label vcD_exit vcD_goto vcD_ret vcD_region vcD_seq vcD_seqC vcD_cond vcCondD_bool vcD_block vcD_scope vcD_loop vcD_rangeFunc yieldOf isMem isMem0 keepE envLe St.le psE yieldAV round_td round_y round_Γ vI vB vS aI aB aS look getE oper opRV putE allOk okOps Op.operands Call.operands pEv qEv mEv constRV coe RV.av loadEv loadCs takeAt indexAddrEv fieldAddrEv binEv intEv arith unEv gcond pickEv argsEv callVal callEv capAV_mk lenArgs lenEv minEv extractEv convEv funcEv allBox bound sliceEv lookupEv TD.isBool allocEv boxEv storeEv spl plainTD appendEv appendArgs makeMapEv mapUpdateEv buildEv buildSliceEv fillSV zsvOf sizeTD Ty.parses parses_flats' coeA flats_length AV.good AV.cells AV.pure SV.pure av_int av_bool av_str av_slice av_cons av_fld0 av_fld1 av_fld2 av_fld3 av_fld4 Ty.of Ty.dflt Ty.parse Ty.flat Ty.zsv Ty.fld Ty.get Ty.off Ty.nfld Ty.size coeTy junk Blk.look argEnv resEv resOk resVs oneRV retOk frzAs frzAV frzL frzSV boxCaps boxCap SV.sig sigs RV.scalar AV.scalar SV.scalar nope effVCD_eq effOf SV.ids AV.ids dedup SV.ren AV.ren RV.ren idx outId mergeB Blk.pureB flats_pure flat_pure epsSlotsD_nil epsSlotsD_cons epsSlotD_eq allEp D.parts_fnOf fvParts retEff round_E av_fn G.ye isCutD_nil isCutD_cons firstReg_region firstReg_seq firstReg_skip firstReg_ret firstReg_label firstReg_exit firstReg_goto firstReg_cond firstReg_block firstReg_scope firstReg_loop firstReg_rf eptrOf_mk flOfD_nil flOfD_cons vcFlD_cons vcFlD_nil flPairs_nil flPairs_cons vcFrD_nil vcFrD_cons makeSliceEv vcCondD_ib fzEv unfl_flats isFz round_fz panVCD_eq panOf isShift strIdxEv ifaceEv nilChkEv sliceAnyEv sliceOwnEv sliceSufEv appendEv0 appendEv1 Ty.beq Ty.isAgg round_Pn vcDefD_seqR vcDefD_seqS vcDefD_seqC vcDefD_seqB vcDefD_seqL vcDefD_seqF vcDefD_seqSc vcDefD_region vcDefD_ret vcDefD_cond vcDefD_block vcDefD_loop thenKD_panic inBlockKD_panic noGotoKD_panic exitOk_normal exitOk_ret exitOk_panic exitOk_exit runDefs_none runDefs_some runDefs_cons defRegD isDefer defOf caughtCon unfl_cons D.bpart_bndOf D.parts_bndOf AV.sig
attribute [local simp ←] flats_append
abbrev tRow:Ty:=.slice tI
abbrev tStand:Ty:=.cons tI (.cons tI .nil)
def plT:List (TypeId×TD):=[(1,.func),(3,.sc tI),(4,.sc .bool),(27,.sc tI),(31,.slice 39 (.slice tI) 24),(39,.slice 3 tI 8),(62,.struct (.cons (.slice tKd) (.cons (.slice tKey) (.cons (.slice (.slice tI)) .nil)))),(72,.func),(81,.func),(85,.func),(86,.slice 89 (.cons tI (.cons tI .nil)) 16),(89,.struct (.cons tI (.cons tI .nil))),(90,.func),(91,.func),(98,.func),(106,.slice 86 (.slice (.cons tI (.cons tI .nil))) 24),(112,.func),(115,.func),(118,.func),(131,.func),(133,.func),(142,.func),(143,.func),(146,.func),(149,.sc (.int .u64)),(159,.func),(164,.sc tI),(173,.sc (.int .u64)),(185,.func),(197,.sc (.int .u64)),(208,.slice 3 tI 8),(218,.func),(227,.func),(228,.func)]
theorem plT_ok (g:G) (hg:g.τ=plT):G.ok Tryz.prog g:=by
 refine ok_of_all ?_
 rw [hg]
 simp only [plT,List.forall_mem_cons]
 refine ⟨?_,?_,?_,?_,?_,?_,?_,?_,?_,?_,?_,?_,?_,?_,?_,?_,?_,?_,?_,?_,?_,?_,?_,?_,?_,?_,?_,?_,?_,?_,?_,?_,?_,?_,by simp⟩
 ·
  exact ⟨⟨_,_,_,Tryz.underlying1⟩,by kernel_rfl⟩
 ·
  exact ⟨by kernel_rfl,rfl,by kernel_rfl,rfl⟩
 ·
  exact ⟨by kernel_rfl,rfl,by kernel_rfl,rfl⟩
 ·
  exact ⟨by kernel_rfl,rfl,by kernel_rfl,rfl⟩
 ·
  exact ⟨by kernel_rfl,by decide,by kernel_rfl,⟨cellsV (Ty.zcells (.slice tI)),by kernel_rfl,by kernel_rfl,by kernel_rfl⟩,by kernel_rfl⟩
 ·
  exact ⟨by kernel_rfl,by decide,by kernel_rfl,⟨cellsV (Ty.zcells tI),by kernel_rfl,by kernel_rfl,by kernel_rfl⟩,by kernel_rfl⟩
 ·
  exact ⟨fieldsOf Tryz.prog 62,by kernel_rfl,by kernel_rfl,by kernel_rfl,by decide,by kernel_rfl⟩
 ·
  exact ⟨⟨_,_,_,Tryz.underlying72⟩,by kernel_rfl⟩
 ·
  exact ⟨⟨_,_,_,Tryz.underlying81⟩,by kernel_rfl⟩
 ·
  exact ⟨⟨_,_,_,Tryz.underlying85⟩,by kernel_rfl⟩
 ·
  exact ⟨by kernel_rfl,by decide,by kernel_rfl,⟨cellsV (Ty.zcells (.cons tI (.cons tI .nil))),by kernel_rfl,by kernel_rfl,by kernel_rfl⟩,by kernel_rfl⟩
 ·
  exact ⟨fieldsOf Tryz.prog 89,by kernel_rfl,by kernel_rfl,by kernel_rfl,by decide,by kernel_rfl⟩
 ·
  exact ⟨⟨_,_,_,Tryz.underlying90⟩,by kernel_rfl⟩
 ·
  exact ⟨⟨_,_,_,Tryz.underlying91⟩,by kernel_rfl⟩
 ·
  exact ⟨⟨_,_,_,Tryz.underlying98⟩,by kernel_rfl⟩
 ·
  exact ⟨by kernel_rfl,by decide,by kernel_rfl,⟨cellsV (Ty.zcells (.slice (.cons tI (.cons tI .nil)))),by kernel_rfl,by kernel_rfl,by kernel_rfl⟩,by kernel_rfl⟩
 ·
  exact ⟨⟨_,_,_,Tryz.underlying112⟩,by kernel_rfl⟩
 ·
  exact ⟨⟨_,_,_,Tryz.underlying115⟩,by kernel_rfl⟩
 ·
  exact ⟨⟨_,_,_,Tryz.underlying118⟩,by kernel_rfl⟩
 ·
  exact ⟨⟨_,_,_,Tryz.underlying131⟩,by kernel_rfl⟩
 ·
  exact ⟨⟨_,_,_,Tryz.underlying133⟩,by kernel_rfl⟩
 ·
  exact ⟨⟨_,_,_,Tryz.underlying142⟩,by kernel_rfl⟩
 ·
  exact ⟨⟨_,_,_,Tryz.underlying143⟩,by kernel_rfl⟩
 ·
  exact ⟨⟨_,_,_,Tryz.underlying146⟩,by kernel_rfl⟩
 ·
  exact ⟨by kernel_rfl,rfl,by kernel_rfl,rfl⟩
 ·
  exact ⟨⟨_,_,_,Tryz.underlying159⟩,by kernel_rfl⟩
 ·
  exact ⟨by kernel_rfl,rfl,by kernel_rfl,rfl⟩
 ·
  exact ⟨by kernel_rfl,rfl,by kernel_rfl,rfl⟩
 ·
  exact ⟨⟨_,_,_,Tryz.underlying185⟩,by kernel_rfl⟩
 ·
  exact ⟨by kernel_rfl,rfl,by kernel_rfl,rfl⟩
 ·
  exact ⟨by kernel_rfl,by decide,by kernel_rfl,⟨cellsV (Ty.zcells tI),by kernel_rfl,by kernel_rfl,by kernel_rfl⟩,by kernel_rfl⟩
 ·
  exact ⟨⟨_,_,_,Tryz.underlying218⟩,by kernel_rfl⟩
 ·
  exact ⟨⟨_,_,_,Tryz.underlying227⟩,by kernel_rfl⟩
 ·
  exact ⟨⟨_,_,_,Tryz.underlying228⟩,by kernel_rfl⟩
theorem pl_mixed:Tryz.prog.follows .mixedOrders=true:=by kernel_rfl
def pl0Γ:List (FuncId×Con):=[]
theorem pl0Γ_ok:∀ p∈pl0Γ,(∀ (args:Array Value) (w:World),(callFunc p.1 args).run Tryz.prog w=.ok (.enter p.1 args) w)∧PureOk Tryz.prog p.1 p.2:=by simp [pl0Γ]
def pl0E:List (FuncId×ECon):=[]
theorem pl0E_ok:∀ p∈pl0E,(∀ (args:Array Value) (w:World),(callFunc p.1 args).run Tryz.prog w=.ok (.enter p.1 args) w)∧EffOk Tryz.prog p.1 p.2:=by simp [pl0E]
def pl0P:List (FuncId×PCon):=[]
theorem pl0P_ok:∀ p∈pl0P,(∀ (args:Array Value) (w:World),(callFunc p.1 args).run Tryz.prog w=.ok (.enter p.1 args) w)∧PanOk Tryz.prog p.1 p.2:=by simp [pl0P]
def pl0:G:={ τ:=plT,Γ:=pl0Γ,E:=pl0E,Pn:=pl0P }
theorem pl0_good:pl0.good Tryz.prog:=good_of_all (plT_ok _ rfl) pl0Γ_ok pl0E_ok pl0P_ok
theorem pl0_all:(∀ t,pl0.td t=(look plT t).getD .other)∧pl0.y=false∧pl0.Γ=pl0Γ∧pl0.E=pl0E∧pl0.Pn=pl0P∧pl0.fz=[]:=⟨fun _=>rfl,rfl,rfl,rfl,rfl,rfl⟩
def pl0y:G:={ τ:=plT,Γ:=pl0Γ,E:=pl0E,Pn:=pl0P,y:=true }
theorem pl0y_good:pl0y.good Tryz.prog:=good_of_all (plT_ok _ rfl) pl0Γ_ok pl0E_ok pl0P_ok
theorem pl0y_all:(∀ t,pl0y.td t=(look plT t).getD .other)∧pl0y.y=true∧pl0y.Γ=pl0Γ∧pl0y.E=pl0E∧pl0y.Pn=pl0P∧pl0y.fz=[]:=⟨fun _=>rfl,rfl,rfl,rfl,rfl,rfl⟩
theorem pl0y_q:pl0y.quiet=pl0:=rfl
def conMapII (Γ:List (FuncId×Con)):Con:=⟨fun args=>(match args with
 | [.s (.sl (.int .i64) xs _),.s (.fnp f caps)]=>xs.length≤1000000∧∃ h,fnTo Γ tI tI f caps h (·∈xs)
 | _=>False),fun args=>match args with
 | [.s (.sl (.int .i64) xs _),.s (.fnp f caps)]=>.v (.s (.sl tI (mapV Γ tI tI f caps xs) false))
 | _=>.v (.s .any)⟩
theorem conMapII_one (f:FuncId) (caps:List (Sigma Ty.T)) (c:Con) (he:∀ (args:Array Value) (w:World),(callFunc f args).run Tryz.prog w=.ok (.enter f args) w) (hc:PureOk Tryz.prog f c) (h:Ty.T tI→Ty.T tI)
  (hv:∀ x,c.val (Ty.av tI x::caps.map capAV)=.v (Ty.av tI (h x))) :
  PureOk Tryz.prog 117 ⟨fun args=>∃ xs ex,args=[.s (.sl tI xs ex),.s (.fnp f caps)]∧xs.length≤1000000∧∀ x∈xs,c.pre (Ty.av tI x::caps.map capAV),fun args=>match args with
   | [.s (.sl (.int .i64) xs _),_]=>.v (.s (.sl tI (xs.map h) false))
   | _=>.v (.s .any)⟩:=by
 refine pureOkD (L:={ live:=[0,1,4,6,7,8,9,10] }) (g1_good plT_ok he hc) rfl pl_mixed Tryz.func117 rfl _ 2 (by decide) (by kernel_rfl) ?_
 rintro _ ⟨xs,ex,rfl,hl,hp⟩ _
 refine ⟨rfl,?_⟩
 simp only [av_int,av_slice,av_bool] at hv hp
 simp -dsimp -implicitDefEqProofs [Tryz.f117,g1_td,g1_y,g1_Γ,g1_E,g1_Pn,g1_fz,plT,inI64]
 refine WpD.turn _ (Turn.virt (k:=4) (t:=tI) (xs:=[]) (by simp [look])) ?_
 refine WpD.loop (L:={ live:=[0,1,4,6,7,8,9,10] }) (g1_good plT_ok he hc) X0_ok pl_mixed (by kernel_rfl) (ι:=Nat)
  (fun i=>⟨[(1,⟨true,.v (.s (.fnp f caps))⟩),(4,⟨true,.v (.s (.own tI 0 i))⟩),(7,vS tI xs ex),(8,vI xs.length),(9,vI i)],[.arr (decide (0<i)) (Ty.flats tI ((xs.map h).take i))]⟩)
  (fun i=>i≤xs.length) (fun i=>xs.length - i) 0 (by simp) (Turn.le (by simp -dsimp -implicitDefEqProofs)) ?_
 intro i hi
 have hml:min i xs.length=i:=by omega
 simp -dsimp -implicitDefEqProofs [hv,hml,caps_all,caps_all',g1_td,g1_y,g1_Γ,g1_E,g1_Pn,g1_fz,plT,inI64]
 refine ⟨fun hlt=>⟨hlt,hp _ (by rw [getD_lt hlt]; exact List.getElem_mem hlt),⟨by omega,by simp only [maxLen]; omega⟩,⟨by omega,by omega⟩,i+1,by omega,by omega,TurnT.le ?_⟩,fun hge => ?_⟩
 ·
  have:=map_take_succ h xs hlt (Ty.dflt tI)
  simp only [Ty.dflt] at this
  rw [this]
  simp -dsimp -implicitDefEqProofs
 ·
  obtain rfl:i=xs.length:=by omega
  have h1:=map_take_all h xs (Nat.le_refl _)
  have h2:Ty.parses tI xs.length (Ty.flats tI (xs.map h))=some (xs.map h):=parses_flats' (by simp)
  simp -dsimp -implicitDefEqProofs [h1,h2]
theorem conMapII_known (Γ:List (FuncId×Con)) (hΓ:Known Tryz.prog Γ):PureOk Tryz.prog 117 (conMapII Γ):=by
 refine PureOk.of fun args hpre => ?_
 simp only [conMapII] at hpre
 split at hpre
 ·
  rename_i xs ex f caps
  obtain ⟨hl,h,hf⟩:=hpre
  have hm:=mapV_eq (by decide) hf xs
  obtain ⟨c,h1,h2,h3⟩:=hf
  refine ⟨_,conMapII_one f caps c (hΓ f c h1).1 (hΓ f c h1).2 h h2,⟨xs,ex,rfl,hl,h3⟩,?_⟩
  simp only [conMapII,hm]
 ·
  exact hpre.elim
theorem conMapII_pre {Γ:List (FuncId×Con)} {f:FuncId} {caps:List (Sigma Ty.T)} (xs:List (Ty.T tI)) (ex:Bool) :
  (conMapII Γ).pre [.s (.sl tI xs ex),.s (.fnp f caps)]=(xs.length≤1000000∧∃ h,fnTo Γ tI tI f caps h (·∈xs)):=rfl
theorem conMapII_val {Γ:List (FuncId×Con)} {f:FuncId} {caps:List (Sigma Ty.T)} (xs:List (Ty.T tI)) (ex:Bool) :
  (conMapII Γ).val [.s (.sl tI xs ex),.s (.fnp f caps)]=.v (.s (.sl tI (mapV Γ tI tI f caps xs) false)):=rfl
def conMapSI (Γ:List (FuncId×Con)):Con:=⟨fun args=>(match args with
 | [.s (.sl (.slice (.cons (.int .i64) (.cons (.int .i64) .nil))) xs _),.s (.fnp f caps)]=>xs.length≤1000000∧∃ h,fnTo Γ (.slice (.cons tI (.cons tI .nil))) tI f caps h (·∈xs)
 | _=>False),fun args=>match args with
 | [.s (.sl (.slice (.cons (.int .i64) (.cons (.int .i64) .nil))) xs _),.s (.fnp f caps)]=>.v (.s (.sl tI (mapV Γ (.slice (.cons tI (.cons tI .nil))) tI f caps xs) false))
 | _=>.v (.s .any)⟩
theorem conMapSI_one (f:FuncId) (caps:List (Sigma Ty.T)) (c:Con) (he:∀ (args:Array Value) (w:World),(callFunc f args).run Tryz.prog w=.ok (.enter f args) w) (hc:PureOk Tryz.prog f c) (h:Ty.T (.slice (.cons tI (.cons tI .nil)))→Ty.T tI)
  (hv:∀ x,c.val (Ty.av (.slice (.cons tI (.cons tI .nil))) x::caps.map capAV)=.v (Ty.av tI (h x))) :
  PureOk Tryz.prog 61 ⟨fun args=>∃ xs ex,args=[.s (.sl (.slice (.cons tI (.cons tI .nil))) xs ex),.s (.fnp f caps)]∧xs.length≤1000000∧∀ x∈xs,c.pre (Ty.av (.slice (.cons tI (.cons tI .nil))) x::caps.map capAV),fun args=>match args with
   | [.s (.sl (.slice (.cons (.int .i64) (.cons (.int .i64) .nil))) xs _),_]=>.v (.s (.sl tI (xs.map h) false))
   | _=>.v (.s .any)⟩:=by
 refine pureOkD (L:={ live:=[0,1,4,6,7,8,9,10] }) (g1_good plT_ok he hc) rfl pl_mixed Tryz.func61 rfl _ 2 (by decide) (by kernel_rfl) ?_
 rintro _ ⟨xs,ex,rfl,hl,hp⟩ _
 refine ⟨rfl,?_⟩
 simp only [av_int,av_slice,av_bool] at hv hp
 simp -dsimp -implicitDefEqProofs [Tryz.f61,g1_td,g1_y,g1_Γ,g1_E,g1_Pn,g1_fz,plT,inI64]
 refine WpD.turn _ (Turn.virt (k:=4) (t:=tI) (xs:=[]) (by simp [look])) ?_
 refine WpD.loop (L:={ live:=[0,1,4,6,7,8,9,10] }) (g1_good plT_ok he hc) X0_ok pl_mixed (by kernel_rfl) (ι:=Nat)
  (fun i=>⟨[(1,⟨true,.v (.s (.fnp f caps))⟩),(4,⟨true,.v (.s (.own tI 0 i))⟩),(7,vS (.slice (.cons tI (.cons tI .nil))) xs ex),(8,vI xs.length),(9,vI i)],[.arr (decide (0<i)) (Ty.flats tI ((xs.map h).take i))]⟩)
  (fun i=>i≤xs.length) (fun i=>xs.length - i) 0 (by simp) (Turn.le (by simp -dsimp -implicitDefEqProofs)) ?_
 intro i hi
 have hml:min i xs.length=i:=by omega
 simp -dsimp -implicitDefEqProofs [hv,hml,caps_all,caps_all',g1_td,g1_y,g1_Γ,g1_E,g1_Pn,g1_fz,plT,inI64]
 refine ⟨fun hlt=>⟨hlt,hp _ (by rw [getD_lt hlt]; exact List.getElem_mem hlt),⟨by omega,by simp only [maxLen]; omega⟩,⟨by omega,by omega⟩,i+1,by omega,by omega,TurnT.le ?_⟩,fun hge => ?_⟩
 ·
  have:=map_take_succ h xs hlt (Ty.dflt (.slice (.cons tI (.cons tI .nil))))
  simp only [Ty.dflt] at this
  rw [this]
  simp -dsimp -implicitDefEqProofs
 ·
  obtain rfl:i=xs.length:=by omega
  have h1:=map_take_all h xs (Nat.le_refl _)
  have h2:Ty.parses tI xs.length (Ty.flats tI (xs.map h))=some (xs.map h):=parses_flats' (by simp)
  simp -dsimp -implicitDefEqProofs [h1,h2]
theorem conMapSI_known (Γ:List (FuncId×Con)) (hΓ:Known Tryz.prog Γ):PureOk Tryz.prog 61 (conMapSI Γ):=by
 refine PureOk.of fun args hpre => ?_
 simp only [conMapSI] at hpre
 split at hpre
 ·
  rename_i xs ex f caps
  obtain ⟨hl,h,hf⟩:=hpre
  have hm:=mapV_eq (by decide) hf xs
  obtain ⟨c,h1,h2,h3⟩:=hf
  refine ⟨_,conMapSI_one f caps c (hΓ f c h1).1 (hΓ f c h1).2 h h2,⟨xs,ex,rfl,hl,h3⟩,?_⟩
  simp only [conMapSI,hm]
 ·
  exact hpre.elim
theorem conMapSI_pre {Γ:List (FuncId×Con)} {f:FuncId} {caps:List (Sigma Ty.T)} (xs:List (Ty.T (.slice (.cons tI (.cons tI .nil))))) (ex:Bool) :
  (conMapSI Γ).pre [.s (.sl (.slice (.cons tI (.cons tI .nil))) xs ex),.s (.fnp f caps)]=(xs.length≤1000000∧∃ h,fnTo Γ (.slice (.cons tI (.cons tI .nil))) tI f caps h (·∈xs)):=rfl
theorem conMapSI_val {Γ:List (FuncId×Con)} {f:FuncId} {caps:List (Sigma Ty.T)} (xs:List (Ty.T (.slice (.cons tI (.cons tI .nil))))) (ex:Bool) :
  (conMapSI Γ).val [.s (.sl (.slice (.cons tI (.cons tI .nil))) xs ex),.s (.fnp f caps)]=.v (.s (.sl tI (mapV Γ (.slice (.cons tI (.cons tI .nil))) tI f caps xs) false)):=rfl
def conContI (Γ:List (FuncId×Con)):Con:=⟨fun args=>(match args with
 | [.s (.sl (.slice (.int .i64)) xs _),.s (.fnp f caps)]=>∃ h,fnTo Γ (.slice tI) .bool f caps h (·∈xs)
 | _=>False),fun args=>match args with
 | [.s (.sl (.slice (.int .i64)) xs _),.s (.fnp f caps)]=>.v (.s (.int .i64 (idxOf (apB Γ (.slice tI) f caps) xs)))
 | _=>.v (.s .any)⟩
theorem conContI_one (f:FuncId) (caps:List (Sigma Ty.T)) (c:Con) (he:∀ (args:Array Value) (w:World),(callFunc f args).run Tryz.prog w=.ok (.enter f args) w) (hc:PureOk Tryz.prog f c) (h:Ty.T (.slice tI)→Bool)
  (hv:∀ x,c.val (Ty.av (.slice tI) x::caps.map capAV)=.v (.s (.bool (h x)))) :
  PureOk Tryz.prog 64 ⟨fun args=>∃ xs ex,args=[.s (.sl (.slice tI) xs ex),.s (.fnp f caps)]∧∀ x∈xs,c.pre (Ty.av (.slice tI) x::caps.map capAV),fun args=>match args with
   | [.s (.sl (.slice (.int .i64)) xs _),_]=>.v (.s (.int .i64 (idxOf h xs)))
   | _=>.v (.s .any)⟩:=by
 refine pureOkD (L:={ live:=[0,1,4,5,7,8,9,16] }) (g1_good plT_ok he hc) rfl pl_mixed Tryz.func64 rfl _ 2 (by decide) (by kernel_rfl) ?_
 rintro _ ⟨xs,ex,rfl,hp⟩ hlens
 obtain ⟨⟨hl,_⟩,_⟩:=hlens
 simp only [maxLen] at hl
 refine ⟨rfl,?_⟩
 first | simp only [av_int,av_slice,av_bool] at hv hp | simp only [av_cons,av_bool,Ty.flat,List.cons_append,List.nil_append] at hv hp
 simp -dsimp -implicitDefEqProofs [Tryz.f64,g1_td,g1_y,g1_Γ,g1_E,g1_Pn,g1_fz,plT,inI64]
 refine WpD.loop (L:={ live:=[0,1,4,5,7,8,9,16] }) (g1_good plT_ok he hc) X0_ok pl_mixed (by kernel_rfl) (ι:=Nat)
  (fun i=>⟨[(0,vS (.slice tI) xs ex),(1,⟨true,.v (.s (.fnp f caps))⟩),(7,vI xs.length),(8,vI i)],[]⟩)
  (fun i=>i≤xs.length∧∀ j,j<i→h (xs[j]?.getD (Ty.dflt (.slice tI)))=false) (fun i=>xs.length - i) 0 (by simp) (Turn.le (by simp -dsimp -implicitDefEqProofs)) ?_
 rintro i ⟨hi,hno⟩
 simp only [Ty.dflt] at hno
 simp -dsimp -implicitDefEqProofs [hv,caps_all,caps_all',g1_td,g1_y,g1_Γ,g1_E,g1_Pn,g1_fz,plT,inI64]
 refine ⟨fun hlt=>⟨hlt,hp _ (by rw [getD_lt hlt]; exact List.getElem_mem hlt),fun he => ?_,fun hne=>⟨⟨by omega,by omega⟩,i+1,⟨by omega,fun j hj => ?_⟩,by omega,TurnT.le (by simp -dsimp -implicitDefEqProofs)⟩⟩,fun hge => ?_⟩
 ·
  exact (idxOf_at hlt _ he hno).symm
 ·
  rcases Nat.lt_succ_iff_lt_or_eq.1 hj with h' | rfl
  ·
   exact hno j h'
  ·
   exact hne
 ·
  exact (idxOf_none _ fun j hj=>hno j (by omega)).symm
theorem conContI_known (Γ:List (FuncId×Con)) (hΓ:Known Tryz.prog Γ):PureOk Tryz.prog 64 (conContI Γ):=by
 refine PureOk.of fun args hpre => ?_
 simp only [conContI] at hpre
 split at hpre
 ·
  rename_i xs ex f caps
  obtain ⟨h,hf⟩:=hpre
  have hm:apB Γ (.slice tI) f caps=h:=funext (apB_eq hf)
  obtain ⟨c,h1,h2,h3⟩:=hf
  refine ⟨_,conContI_one f caps c (hΓ f c h1).1 (hΓ f c h1).2 h h2,⟨xs,ex,rfl,h3⟩,?_⟩
  simp only [conContI,hm]
 ·
  exact hpre.elim
theorem conContI_pre {Γ:List (FuncId×Con)} {f:FuncId} {caps:List (Sigma Ty.T)} (xs:List (Ty.T (.slice tI))) (ex:Bool):(conContI Γ).pre [.s (.sl (.slice tI) xs ex),.s (.fnp f caps)]=∃ h,fnTo Γ (.slice tI) .bool f caps h (·∈xs):=rfl
theorem conContI_val {Γ:List (FuncId×Con)} {f:FuncId} {caps:List (Sigma Ty.T)} (xs:List (Ty.T (.slice tI))) (ex:Bool):(conContI Γ).val [.s (.sl (.slice tI) xs ex),.s (.fnp f caps)]=.v (.s (.int .i64 (idxOf (apB Γ (.slice tI) f caps) xs))):=rfl
def conCont (Γ:List (FuncId×Con)):Con:=⟨fun args=>(match args with
 | [.s (.sl (.slice (.int .i64)) xs _),.s (.fnp f caps)]=>∃ h,fnTo Γ (.slice tI) .bool f caps h (·∈xs)
 | _=>False),fun args=>match args with
 | [.s (.sl (.slice (.int .i64)) xs _),.s (.fnp f caps)]=>.v (.s (.bool (xs.any (apB Γ (.slice tI) f caps))))
 | _=>.v (.s .any)⟩
theorem conCont_pre {Γ:List (FuncId×Con)} {f:FuncId} {caps:List (Sigma Ty.T)} (xs:List (Ty.T (.slice tI))) (ex:Bool):(conCont Γ).pre [.s (.sl (.slice tI) xs ex),.s (.fnp f caps)]=∃ h,fnTo Γ (.slice tI) .bool f caps h (·∈xs):=rfl
theorem conCont_val {Γ:List (FuncId×Con)} {f:FuncId} {caps:List (Sigma Ty.T)} (xs:List (Ty.T (.slice tI))) (ex:Bool):(conCont Γ).val [.s (.sl (.slice tI) xs ex),.s (.fnp f caps)]=.v (.s (.bool (xs.any (apB Γ (.slice tI) f caps)))):=rfl
theorem conCont_known (Γ:List (FuncId×Con)) (hΓ:Known Tryz.prog Γ):PureOk Tryz.prog 36 (conCont Γ):=by
 have hg:=g1_good plT_ok (enters_of Tryz.func64 (by kernel_rfl) rfl) (conContI_known Γ hΓ)
 refine pureOkD (L:={ live:=[0,1,4] }) hg rfl pl_mixed Tryz.func36 rfl _ 2 (by decide) (by kernel_rfl) ?_
 intro args hpre hlens
 simp only [conCont] at hpre
 split at hpre
 ·
  rename_i xs ex f caps
  refine ⟨rfl,?_⟩
  simp -dsimp -implicitDefEqProofs [Tryz.f36,conContI_pre,conContI_val,conCont_val,idxOf_any,g1_td,g1_y,g1_Γ,g1_E,g1_Pn,g1_fz,plT,inI64]
  exact hpre
 ·
  exact hpre.elim
end Go.Am.Pl
