/- Part 8 of the proof's base. -/
import Derived.Test.YtnekjoocbfbmaaaGreatZ7
set_option linter.all false
noncomputable section
namespace Go.Am.Pl
set_option maxHeartbeats 4000000
set_option maxRecDepth 20000
open Go.RowKit Go.Proofs
attribute [local simp] thenKD_normal thenKD_exit thenKD_goto thenKD_ret inBlockKD_normal inBlockKD_exit inBlockKD_goto inBlockKD_ret noGotoKD_normal noGotoKD_exit noGotoKD_goto noGotoKD_ret roundKD_normal roundKD_exit roundKD_goto roundKD_ret frzSlotsD_nil frzSlotsD_cons frzSlotD_eq yieldVCD_trace opVCD_eq vcOpsD_nil vcOpsD_cons vcAllD_zero vcAllD_succ allAtD_nil allAtD_cons readyAux edgA vcD_skip vcD_label vcD_exit vcD_goto vcD_ret vcD_region vcD_seq vcD_seqC vcD_cond vcCondD_bool vcD_block vcD_scope vcD_loop vcD_rangeFunc yieldOf isMem isMem0 keepE envLe St.le psE yieldAV round_td round_y round_Γ vI vB vS aI aB aS look getE oper opRV putE allOk okOps Op.operands Call.operands pEv qEv mEv constRV coe RV.av loadEv loadCs takeAt indexAddrEv fieldAddrEv binEv intEv arith unEv gcond pickEv argsEv callVal callEv capAV_mk lenArgs lenEv minEv extractEv convEv funcEv allBox bound sliceEv lookupEv TD.isBool allocEv boxEv storeEv spl plainTD appendEv appendArgs makeMapEv mapUpdateEv buildEv buildSliceEv fillSV zsvOf sizeTD Ty.parses parses_flats' coeA flats_length AV.good AV.cells AV.pure SV.pure av_int av_bool av_str av_slice av_cons av_fld0 av_fld1 av_fld2 av_fld3 av_fld4 Ty.of Ty.dflt Ty.parse Ty.flat Ty.zsv Ty.fld Ty.get Ty.off Ty.nfld Ty.size coeTy junk Blk.look argEnv resEv resOk resVs oneRV retOk frzAs frzAV frzL frzSV boxCaps boxCap SV.sig sigs RV.scalar AV.scalar SV.scalar nope effVCD_eq effOf SV.ids AV.ids dedup SV.ren AV.ren RV.ren idx outId mergeB Blk.pureB flats_pure flat_pure epsSlotsD_nil epsSlotsD_cons epsSlotD_eq allEp D.parts_fnOf fvParts retEff round_E av_fn G.ye isCutD_nil isCutD_cons firstReg_region firstReg_seq firstReg_skip firstReg_ret firstReg_label firstReg_exit firstReg_goto firstReg_cond firstReg_block firstReg_scope firstReg_loop firstReg_rf eptrOf_mk flOfD_nil flOfD_cons vcFlD_cons vcFlD_nil flPairs_nil flPairs_cons vcFrD_nil vcFrD_cons makeSliceEv vcCondD_ib fzEv unfl_flats isFz round_fz panVCD_eq panOf isShift strIdxEv ifaceEv nilChkEv sliceAnyEv sliceOwnEv sliceSufEv appendEv0 appendEv1 Ty.beq Ty.isAgg round_Pn vcDefD_seqR vcDefD_seqS vcDefD_seqC vcDefD_seqB vcDefD_seqL vcDefD_seqF vcDefD_seqSc vcDefD_region vcDefD_ret vcDefD_cond vcDefD_block vcDefD_loop thenKD_panic inBlockKD_panic noGotoKD_panic exitOk_normal exitOk_ret exitOk_panic exitOk_exit runDefs_none runDefs_some runDefs_cons defRegD isDefer defOf caughtCon unfl_cons D.bpart_bndOf D.parts_bndOf AV.sig
attribute [local simp ←] flats_append
def conColIQ (It:List (FuncId×ItCon)):ECon:={ wp:=fun args hp K=>match args,hp with
 | [.s (.sl (.int .i64) [] true),.s (.fnp f caps)],[]=>∃ xs:List (Ty.T tI),seqOf It f caps tI xs∧xs.length≤1000000000∧K (.v (.s (.own tI 0 xs.length))) [.arr (decide (0<xs.length)) (Ty.flats tI xs)]
 | _,_=>False }
def conColI (It:List (FuncId×ItCon)):ECon:={ wp:=fun args hp K=>match args,hp with
 | [.s (.fnp f caps)],[]=>∃ xs:List (Ty.T tI),seqOf It f caps tI xs∧xs.length≤1000000000∧K (.v (.s (.own tI 0 xs.length))) [.arr (decide (0<xs.length)) (Ty.flats tI xs)]
 | _,_=>False }
theorem conColIQ_known (It:List (FuncId×ItCon)) (hIt:KnownIt Tryz.prog It):EffOk Tryz.prog 159 (conColIQ It):=by
 refine effOkD (L:={ live:=[0,1,2,4,5,6,7] }) pl0_good rfl pl_mixed Tryz.func159 rfl _ 2 (by decide) (by kernel_rfl) ?_
 intro args hp K hpre hlens
 simp only [conColIQ] at hpre
 split at hpre
 ·
  rename_i f caps
  obtain ⟨xs,⟨ic,hic,hip,hix⟩,hlen,hK⟩:=hpre
  refine ⟨rfl,?_⟩
  simp -dsimp -implicitDefEqProofs [Tryz.f159,pl0_all,plT,pl0Γ,pl0E,pl0P,inI64]
  refine Wp.turn (Turn.virtBox (b:=0) (off:=0) (bc:=[.sl tI [] true]) (t:=tI) (xs:=[]) (by simp -dsimp -implicitDefEqProofs) (by simp)) ?_
  refine WpD.rangeFunc (L:={ live:=[0,1,2,4,5,6,7] }) (d:=⟨⟩) pl0_good pl_mixed rfl rfl f caps (by simp -dsimp -implicitDefEqProofs) ic (hIt f ic hic) hip (by decide) (by kernel_rfl) (by kernel_rfl) (by intro a b c d; simp -dsimp -implicitDefEqProofs)
   (fun t hp=>hp=[.cells [.own tI 1 t],.arr (decide (0<t)) (Ty.flats tI (xs.take t))]) (by simp) ?_ ?_
  ·
   intro t args hp hx hR
   subst hR
   rw [hix] at hx
   obtain ⟨hlt,rfl⟩:=take_map_av xs t hx
   have hmin:min t xs.length=t:=by omega
   have htk:=take_succ_get xs hlt (Ty.dflt tI)
   rw [getD_lt hlt] at htk
   simp -dsimp -implicitDefEqProofs [hmin,pl0_all,plT,pl0Γ,pl0E,pl0P,inI64]
   have hmin':min (t+1) xs.length=t+1:=by omega
   refine ⟨⟨by omega,by simp only [maxLen]; omega⟩,?_⟩
   first
    | exact ⟨hmin',TrT.refl _ _⟩
    | exact TrT.refl _ _
    | (rw [htk]; exact TrT.drop (hp:=[_,_]) (junk:=[_]) (by simp) (by simp only [List.length_cons,List.length_nil,List.all_cons,List.all_nil,arr_below,Bool.and_true]; simp [Blk.below,SV.below]))
  ·
   intro hp hR
   subst hR
   rw [hix,List.length_map]
   simp -dsimp -implicitDefEqProofs [pl0_all,plT,pl0Γ,pl0E,pl0P,inI64]
   exact hK
 ·
  exact hpre.elim
theorem conColI_known (It:List (FuncId×ItCon)) (hIt:KnownIt Tryz.prog It):EffOk Tryz.prog 123 (conColI It):=by
 have hg:G.good Tryz.prog { τ:=plT,Γ:=[],E:=[(159,conColIQ It)] }:=good_of_all (plT_ok _ rfl) (fun p hp=>by cases hp) (fun p hp=>by simp only [List.mem_singleton] at hp; subst hp; exact ⟨enters_of Tryz.func159 (by kernel_rfl) rfl,conColIQ_known It hIt⟩) (fun p hp=>by cases hp)
 refine effOkD (L:={ live:=[0,2] }) hg rfl pl_mixed Tryz.func123 rfl _ 1 (by decide) (by kernel_rfl) ?_
 intro args hp K hpre hlens
 simp only [conColI] at hpre
 split at hpre
 ·
  rename_i f caps
  refine ⟨rfl,?_⟩
  simp -dsimp -implicitDefEqProofs [Tryz.f123,conColIQ,plT,G.td,inI64]
  exact hpre
 ·
  exact hpre.elim
def conColSQ (It:List (FuncId×ItCon)):ECon:={ wp:=fun args hp K=>match args,hp with
 | [.s (.sl (.cons (.int .i64) (.cons (.int .i64) .nil)) [] true),.s (.fnp f caps)],[]=>∃ xs:List (Ty.T (.cons tI (.cons tI .nil))),seqOf It f caps (.cons tI (.cons tI .nil)) xs∧xs.length≤1000000000∧K (.v (.s (.own (.cons tI (.cons tI .nil)) 0 xs.length))) [.arr (decide (0<xs.length)) (Ty.flats (.cons tI (.cons tI .nil)) xs)]
 | _,_=>False }
def conColS (It:List (FuncId×ItCon)):ECon:={ wp:=fun args hp K=>match args,hp with
 | [.s (.fnp f caps)],[]=>∃ xs:List (Ty.T (.cons tI (.cons tI .nil))),seqOf It f caps (.cons tI (.cons tI .nil)) xs∧xs.length≤1000000000∧K (.v (.s (.own (.cons tI (.cons tI .nil)) 0 xs.length))) [.arr (decide (0<xs.length)) (Ty.flats (.cons tI (.cons tI .nil)) xs)]
 | _,_=>False }
theorem conColSQ_known (It:List (FuncId×ItCon)) (hIt:KnownIt Tryz.prog It):EffOk Tryz.prog 78 (conColSQ It):=by
 refine effOkD (L:={ live:=[0,1,2,4,5,6,7] }) pl0_good rfl pl_mixed Tryz.func78 rfl _ 2 (by decide) (by kernel_rfl) ?_
 intro args hp K hpre hlens
 simp only [conColSQ] at hpre
 split at hpre
 ·
  rename_i f caps
  obtain ⟨xs,⟨ic,hic,hip,hix⟩,hlen,hK⟩:=hpre
  refine ⟨rfl,?_⟩
  simp -dsimp -implicitDefEqProofs [Tryz.f78,pl0_all,plT,pl0Γ,pl0E,pl0P,inI64]
  refine Wp.turn (Turn.virtBox (b:=0) (off:=0) (bc:=[.sl (.cons tI (.cons tI .nil)) [] true]) (t:=(.cons tI (.cons tI .nil))) (xs:=[]) (by simp -dsimp -implicitDefEqProofs) (by simp)) ?_
  refine WpD.rangeFunc (L:={ live:=[0,1,2,4,5,6,7] }) (d:=⟨⟩) pl0_good pl_mixed rfl rfl f caps (by simp -dsimp -implicitDefEqProofs) ic (hIt f ic hic) hip (by decide) (by kernel_rfl) (by kernel_rfl) (by intro a b c d; simp -dsimp -implicitDefEqProofs)
   (fun t hp=>hp=[.cells [.own (.cons tI (.cons tI .nil)) 1 t],.arr (decide (0<t)) (Ty.flats (.cons tI (.cons tI .nil)) (xs.take t))]) (by simp) ?_ ?_
  ·
   intro t args hp hx hR
   subst hR
   rw [hix] at hx
   obtain ⟨hlt,rfl⟩:=take_map_av xs t hx
   have hmin:min t xs.length=t:=by omega
   have htk:=take_succ_get xs hlt (Ty.dflt (.cons tI (.cons tI .nil)))
   rw [getD_lt hlt] at htk
   simp -dsimp -implicitDefEqProofs [hmin,pl0_all,plT,pl0Γ,pl0E,pl0P,inI64]
   have hmin':min (t+1) xs.length=t+1:=by omega
   refine ⟨⟨by omega,by simp only [maxLen]; omega⟩,?_⟩
   first
    | exact ⟨hmin',TrT.refl _ _⟩
    | exact TrT.refl _ _
    | (rw [htk]; exact TrT.drop (hp:=[_,_]) (junk:=[_]) (by simp) (by simp only [List.length_cons,List.length_nil,List.all_cons,List.all_nil,arr_below,Bool.and_true]; simp [Blk.below,SV.below]))
  ·
   intro hp hR
   subst hR
   rw [hix,List.length_map]
   simp -dsimp -implicitDefEqProofs [pl0_all,plT,pl0Γ,pl0E,pl0P,inI64]
   exact hK
 ·
  exact hpre.elim
theorem conColS_known (It:List (FuncId×ItCon)) (hIt:KnownIt Tryz.prog It):EffOk Tryz.prog 45 (conColS It):=by
 have hg:G.good Tryz.prog { τ:=plT,Γ:=[],E:=[(78,conColSQ It)] }:=good_of_all (plT_ok _ rfl) (fun p hp=>by cases hp) (fun p hp=>by simp only [List.mem_singleton] at hp; subst hp; exact ⟨enters_of Tryz.func78 (by kernel_rfl) rfl,conColSQ_known It hIt⟩) (fun p hp=>by cases hp)
 refine effOkD (L:={ live:=[0,2] }) hg rfl pl_mixed Tryz.func45 rfl _ 1 (by decide) (by kernel_rfl) ?_
 intro args hp K hpre hlens
 simp only [conColS] at hpre
 split at hpre
 ·
  rename_i f caps
  refine ⟨rfl,?_⟩
  simp -dsimp -implicitDefEqProofs [Tryz.f45,conColSQ,plT,G.td,inI64]
  exact hpre
 ·
  exact hpre.elim
end Go.Am.Pl
namespace Go.Am.Pl
set_option maxHeartbeats 4000000
set_option maxRecDepth 20000
open Go.RowKit Go.Proofs
attribute [local simp] thenKD_normal thenKD_exit thenKD_goto thenKD_ret inBlockKD_normal inBlockKD_exit inBlockKD_goto inBlockKD_ret noGotoKD_normal noGotoKD_exit noGotoKD_goto noGotoKD_ret roundKD_normal roundKD_exit roundKD_goto roundKD_ret frzSlotsD_nil frzSlotsD_cons frzSlotD_eq yieldVCD_trace opVCD_eq vcOpsD_nil vcOpsD_cons vcAllD_zero vcAllD_succ allAtD_nil allAtD_cons readyAux edgA vcD_skip vcD_label vcD_exit vcD_goto vcD_ret vcD_region vcD_seq vcD_seqC vcD_cond vcCondD_bool vcD_block vcD_scope vcD_loop vcD_rangeFunc yieldOf isMem isMem0 keepE envLe St.le psE yieldAV round_td round_y round_Γ vI vB vS aI aB aS look getE oper opRV putE allOk okOps Op.operands Call.operands pEv qEv mEv constRV coe RV.av loadEv loadCs takeAt indexAddrEv fieldAddrEv binEv intEv arith unEv gcond pickEv argsEv callVal callEv capAV_mk lenArgs lenEv minEv extractEv convEv funcEv allBox bound sliceEv lookupEv TD.isBool allocEv boxEv storeEv spl plainTD appendEv appendArgs makeMapEv mapUpdateEv buildEv buildSliceEv fillSV zsvOf sizeTD Ty.parses parses_flats' coeA flats_length AV.good AV.cells AV.pure SV.pure av_int av_bool av_str av_slice av_cons av_fld0 av_fld1 av_fld2 av_fld3 av_fld4 Ty.of Ty.dflt Ty.parse Ty.flat Ty.zsv Ty.fld Ty.get Ty.off Ty.nfld Ty.size coeTy junk Blk.look argEnv resEv resOk resVs oneRV retOk frzAs frzAV frzL frzSV boxCaps boxCap SV.sig sigs RV.scalar AV.scalar SV.scalar nope effVCD_eq effOf SV.ids AV.ids dedup SV.ren AV.ren RV.ren idx outId mergeB Blk.pureB flats_pure flat_pure epsSlotsD_nil epsSlotsD_cons epsSlotD_eq allEp D.parts_fnOf fvParts retEff round_E av_fn G.ye isCutD_nil isCutD_cons firstReg_region firstReg_seq firstReg_skip firstReg_ret firstReg_label firstReg_exit firstReg_goto firstReg_cond firstReg_block firstReg_scope firstReg_loop firstReg_rf eptrOf_mk flOfD_nil flOfD_cons vcFlD_cons vcFlD_nil flPairs_nil flPairs_cons vcFrD_nil vcFrD_cons makeSliceEv vcCondD_ib fzEv unfl_flats isFz round_fz panVCD_eq panOf isShift strIdxEv ifaceEv nilChkEv sliceAnyEv sliceOwnEv sliceSufEv appendEv0 appendEv1 Ty.beq Ty.isAgg round_Pn vcDefD_seqR vcDefD_seqS vcDefD_seqC vcDefD_seqB vcDefD_seqL vcDefD_seqF vcDefD_seqSc vcDefD_region vcDefD_ret vcDefD_cond vcDefD_block vcDefD_loop thenKD_panic inBlockKD_panic noGotoKD_panic exitOk_normal exitOk_ret exitOk_panic exitOk_exit runDefs_none runDefs_some runDefs_cons defRegD isDefer defOf caughtCon unfl_cons D.bpart_bndOf D.parts_bndOf AV.sig
attribute [local simp ←] flats_append
def conNaN:Con:=⟨fun args=>(match args with
 | [.s (.int .i64 a)]=>True
 | _=>False),fun args=>match args with
 | [.s (.int _ a)]=>.v (aB false)
 | _=>.v (.s .any)⟩
theorem conNaN_eq (a:Int):conNaN.pre [.s (.int .i64 a)]=(True)∧conNaN.val [.s (.int .i64 a)]=.v (aB false):=⟨rfl,rfl⟩
theorem nan_ok:PureOk Tryz.prog 148 conNaN:=by
 refine pureOkD (L:={ live:=[0,2] }) pl0_good rfl pl_mixed Tryz.func148 rfl conNaN 1 (by decide) (by kernel_rfl) ?_
 intro args hpre hlens
 simp only [conNaN] at hpre
 split at hpre
 case h_2=>exact hpre.elim
 rename_i a
 simp only [allLen,AV.lenOk,SV.lenOk,Ty.lenOk,maxLen,and_true,implies_true,true_and,List.forall_mem_cons,List.not_mem_nil,false_implies] at hlens
 refine ⟨rfl,?_⟩
 simp -dsimp -implicitDefEqProofs [Tryz.f148,conNaN_eq,pl0_all,plT,pl0Γ,pl0E,pl0P,inI64]
theorem nan2_ok:PureOk Tryz.prog 92 conNaN:=by
 refine pureOkD (L:={ live:=[0,2] }) pl0_good rfl pl_mixed Tryz.func92 rfl conNaN 1 (by decide) (by kernel_rfl) ?_
 intro args hpre hlens
 simp only [conNaN] at hpre
 split at hpre
 case h_2=>exact hpre.elim
 refine ⟨rfl,?_⟩
 simp -dsimp -implicitDefEqProofs [Tryz.f92,conNaN_eq,pl0_all,plT,pl0Γ,pl0E,pl0P,inI64]
def pl1Γ:List (FuncId×Con):=(148,conNaN)::(92,conNaN)::pl0Γ
theorem pl1Γ_ok:∀ p∈pl1Γ,(∀ (args:Array Value) (w:World),(callFunc p.1 args).run Tryz.prog w=.ok (.enter p.1 args) w)∧PureOk Tryz.prog p.1 p.2:=by
 simp only [pl1Γ,List.forall_mem_cons]
 exact ⟨⟨enters_of Tryz.func148 (by kernel_rfl) rfl,nan_ok⟩,⟨enters_of Tryz.func92 (by kernel_rfl) rfl,nan2_ok⟩,pl0Γ_ok⟩
def pl1E:List (FuncId×ECon):=pl0E
theorem pl1E_ok:∀ p∈pl1E,(∀ (args:Array Value) (w:World),(callFunc p.1 args).run Tryz.prog w=.ok (.enter p.1 args) w)∧EffOk Tryz.prog p.1 p.2:=by
 simp only [pl1E]
 exact pl0E_ok
def pl1P:List (FuncId×PCon):=pl0P
theorem pl1P_ok:∀ p∈pl1P,(∀ (args:Array Value) (w:World),(callFunc p.1 args).run Tryz.prog w=.ok (.enter p.1 args) w)∧PanOk Tryz.prog p.1 p.2:=by
 simp only [pl1P]
 exact pl0P_ok
def pl1:G:={ τ:=plT,Γ:=pl1Γ,E:=pl1E,Pn:=pl1P }
theorem pl1_good:pl1.good Tryz.prog:=good_of_all (plT_ok _ rfl) pl1Γ_ok pl1E_ok pl1P_ok
theorem pl1_all:(∀ t,pl1.td t=(look plT t).getD .other)∧pl1.y=false∧pl1.Γ=pl1Γ∧pl1.E=pl1E∧pl1.Pn=pl1P∧pl1.fz=[]:=⟨fun _=>rfl,rfl,rfl,rfl,rfl,rfl⟩
def conLess:Con:=⟨fun args=>(match args with
 | [.s (.int .i64 a),.s (.int .i64 b)]=>True
 | _=>False),fun args=>match args with
 | [.s (.int _ a),.s (.int _ b)]=>.v (aB (decide (a<b)))
 | _=>.v (.s .any)⟩
theorem conLess_eq (a:Int) (b:Int):conLess.pre [.s (.int .i64 a),.s (.int .i64 b)]=(True)∧conLess.val [.s (.int .i64 a),.s (.int .i64 b)]=.v (aB (decide (a<b))):=⟨rfl,rfl⟩
theorem less_ok:PureOk Tryz.prog 147 conLess:=by
 refine pureOkD (L:={ live:=[0,1,4] }) pl1_good rfl pl_mixed Tryz.func147 rfl conLess 2 (by decide) (by kernel_rfl) ?_
 intro args hpre hlens
 simp only [conLess] at hpre
 split at hpre
 case h_2=>exact hpre.elim
 rename_i a b
 simp only [allLen,AV.lenOk,SV.lenOk,Ty.lenOk,maxLen,and_true,implies_true,true_and,List.forall_mem_cons,List.not_mem_nil,false_implies] at hlens
 refine ⟨rfl,?_⟩
 simp -dsimp -implicitDefEqProofs [Tryz.f147,conLess_eq,pl1_all,plT,pl1Γ,pl1E,pl1P,pl0Γ,pl0E,pl0P,conNaN_eq,inI64]
def pl2Γ:List (FuncId×Con):=(147,conLess)::pl1Γ
theorem pl2Γ_ok:∀ p∈pl2Γ,(∀ (args:Array Value) (w:World),(callFunc p.1 args).run Tryz.prog w=.ok (.enter p.1 args) w)∧PureOk Tryz.prog p.1 p.2:=by
 simp only [pl2Γ,List.forall_mem_cons]
 exact ⟨⟨enters_of Tryz.func147 (by kernel_rfl) rfl,less_ok⟩,pl1Γ_ok⟩
def pl2E:List (FuncId×ECon):=pl1E
theorem pl2E_ok:∀ p∈pl2E,(∀ (args:Array Value) (w:World),(callFunc p.1 args).run Tryz.prog w=.ok (.enter p.1 args) w)∧EffOk Tryz.prog p.1 p.2:=by
 simp only [pl2E]
 exact pl1E_ok
def pl2P:List (FuncId×PCon):=pl1P
theorem pl2P_ok:∀ p∈pl2P,(∀ (args:Array Value) (w:World),(callFunc p.1 args).run Tryz.prog w=.ok (.enter p.1 args) w)∧PanOk Tryz.prog p.1 p.2:=by
 simp only [pl2P]
 exact pl1P_ok
def pl2:G:={ τ:=plT,Γ:=pl2Γ,E:=pl2E,Pn:=pl2P }
theorem pl2_good:pl2.good Tryz.prog:=good_of_all (plT_ok _ rfl) pl2Γ_ok pl2E_ok pl2P_ok
theorem pl2_all:(∀ t,pl2.td t=(look plT t).getD .other)∧pl2.y=false∧pl2.Γ=pl2Γ∧pl2.E=pl2E∧pl2.Pn=pl2P∧pl2.fz=[]:=⟨fun _=>rfl,rfl,rfl,rfl,rfl,rfl⟩
def below (n:Int) (xs:List Int):Nat:=(xs.filter fun x=>decide (x<n)).length
theorem below_le (n:Int) (xs:List Int):below n xs≤xs.length:=List.length_filter_le ..
theorem below_perm (n:Int) {xs ys:List Int} (h:xs.Perm ys):below n xs=below n ys:=(h.filter _).length_eq
theorem below_at {n:Int} {xs:List Int} (hs:xs.Pairwise (fun a b=>a≤b)) {i:Nat} (hi:i<xs.length):xs[i]?.getD 0<n↔i<below n xs:=by
 rw [getD_lt hi]
 have hm:∀ j k,(hjk:j≤k)→(hk:k<xs.length)→(xs[j]'(by omega))≤xs[k]:=fun j k hjk hk=>by
  rcases Nat.lt_or_eq_of_le hjk with h | rfl
  ·
   exact List.pairwise_iff_getElem.1 hs j k (by omega) hk h
  ·
   exact Int.le_refl _
 have hsplit:below n xs=below n (xs.take i)+below n (xs.drop i):=by
  unfold below
  rw [← List.length_append,← List.filter_append,List.take_append_drop]
 constructor
 ·
  intro h
  have h1:below n (xs.take (i+1))=i+1:=by
   unfold below
   rw [List.filter_eq_self.2,List.length_take]
   ·
    omega
   ·
    intro x hx
    obtain ⟨j,hj,rfl⟩:=List.mem_iff_getElem.1 hx
    rw [List.length_take] at hj
    have:=hm j i (by omega) hi
    simp only [List.getElem_take,decide_eq_true_eq]
    omega
  have h2:below n xs=below n (xs.take (i+1))+below n (xs.drop (i+1)):=by
   unfold below
   rw [← List.length_append,← List.filter_append,List.take_append_drop]
  omega
 ·
  intro h
  apply Int.not_le.1
  intro hge
  have h1:below n (xs.drop i)=0:=by
   unfold below
   rw [List.filter_eq_nil_iff.2]
   ·
    rfl
   ·
    intro x hx
    obtain ⟨j,hj,rfl⟩:=List.mem_iff_getElem.1 hx
    rw [List.length_drop] at hj
    have:=hm i (i+j) (by omega) (by omega)
    simp only [List.getElem_drop,decide_eq_true_eq]
    omega
  have h3:=below_le n (xs.take i)
  rw [List.length_take] at h3
  omega
theorem below_hi {n:Int} {xs:List Int} (hs:xs.Pairwise (fun a b=>a≤b)) {m:Nat} (hm:m<xs.length) (h:n≤xs[m]?.getD 0):below n xs≤m:=by
 have:=mt (below_at (n:=n) hs hm).2 (by omega)
 omega
theorem below_mem {n:Int} {xs:List Int} (hs:xs.Pairwise (fun a b=>a≤b)) {i:Nat} (hi:i=below n xs):(decide (i<xs.length)&&decide (xs[i]?.getD 0=n))=decide (n∈xs):=by
 rw [Bool.eq_iff_iff]
 simp only [Bool.and_eq_true,decide_eq_true_eq]
 constructor
 ·
  rintro ⟨q1,q2⟩
  rw [← q2,getD_lt q1]
  exact List.getElem_mem q1
 ·
  intro hmem
  obtain ⟨k,hk,hkn⟩:=List.mem_iff_getElem.1 hmem
  have q1:=mt (below_at (n:=n) hs hk).2 (by rw [getD_lt hk]; omega)
  have hik:i≤k:=by omega
  refine ⟨by omega,?_⟩
  have q2:=mt (below_at (n:=n) hs (show i<xs.length by omega)).1 (by omega)
  have q3:xs[i]?.getD 0≤xs[k]:=by
   rw [getD_lt (show i<xs.length by omega)]
   rcases Nat.lt_or_eq_of_le hik with h | h
   ·
    exact List.pairwise_iff_getElem.1 hs i k (by omega) hk h
   ·
    subst h; exact Int.le_refl _
  omega
def conBin:Con:=⟨fun args=>(match args with
 | [.s (.sl (.int .i64) xs _),.s (.int .i64 n)]=>xs.Pairwise (fun a b=>a≤b)∧xs.length≤1000000
 | _=>False),fun args=>match args with
 | [.s (.sl (.int .i64) xs _),.s (.int _ n)]=>.tup [aI (below n xs),aB (decide (n∈xs))]
 | _=>.v (.s .any)⟩
theorem conBin_eq (xs:List (Ty.T tI)) (exxs:Bool) (n:Int):conBin.pre [.s (.sl tI xs exxs),.s (.int .i64 n)]=(xs.Pairwise (fun a b=>a≤b)∧xs.length≤1000000)∧conBin.val [.s (.sl tI xs exxs),.s (.int .i64 n)]=.tup [aI (below n xs),aB (decide (n∈xs))]:=⟨rfl,rfl⟩
theorem half_u64 {a b:Nat} (h:a+b≤10000000):IntKind.wrap .i64 (Int.fdiv (IntKind.wrap .u64 ((a:Int)+b)) 2)=(((a+b) / 2:Nat):Int):=by
 rw [IntWalk.u64_in _ (by omega),IntWalk.i64_in]
 ·
  rw [Int.fdiv_eq_ediv_of_nonneg _ (by omega)]; omega
 ·
  rw [Int.fdiv_eq_ediv_of_nonneg _ (by omega)]; omega
theorem bin_ok:PureOk Tryz.prog 119 conBin:=by
 refine pureOkD (L:={ live:=[0,1,4,5,6,7,8,9,15,27] }) pl2_good rfl pl_mixed Tryz.func119 rfl conBin 2 (by decide) (by kernel_rfl) ?_
 intro args hpre hlens
 simp only [conBin] at hpre
 split at hpre
 case h_2=>exact hpre.elim
 rename_i xs ex n
 simp only [allLen,AV.lenOk,SV.lenOk,Ty.lenOk,maxLen,and_true,implies_true,true_and,List.forall_mem_cons,List.not_mem_nil,false_implies] at hlens
 refine ⟨rfl,?_⟩
 simp -dsimp -implicitDefEqProofs [Tryz.f119,conBin_eq,pl2_all,plT,pl2Γ,pl2E,pl2P,pl1Γ,pl1E,pl1P,pl0Γ,pl0E,pl0P,conLess_eq,conNaN_eq,inI64]
 obtain ⟨hsort,hlen⟩:=hpre
 refine WpD.loop (L:={ live:=[0,1,4,5,6,7,8,9,15,27] }) pl2_good X0_ok pl_mixed (by kernel_rfl)
  (fun p:Nat×Nat=>⟨[(0,vS tI xs ex),(1,vI n),(6,vI xs.length),(7,vI p.1),(8,vI p.2)],[]⟩)
  (fun p=>p.1≤below n xs∧below n xs≤p.2∧p.2≤xs.length) (fun p=>p.2 - p.1) (0,xs.length) ⟨Nat.zero_le _,below_le n xs,Nat.le_refl _⟩ (Turn.le (by simp -dsimp -implicitDefEqProofs)) ?_
 rintro ⟨i,j⟩ ⟨h1,h2,h3⟩
 simp only at h1 h2 h3
 have hh:=half_u64 (a:=i) (b:=j) (by omega)
 obtain ⟨m,hm⟩:∃ m:Nat,m=(i+j) / 2:=⟨_,rfl⟩
 rw [← hm] at hh
 simp -dsimp -implicitDefEqProofs [hh,conBin_eq,pl2_all,plT,pl2Γ,pl2E,pl2P,pl1Γ,pl1E,pl1P,pl0Γ,pl0E,pl0P,conLess_eq,conNaN_eq,inI64]
 refine ⟨fun hij=>⟨⟨by omega,by omega⟩,by omega,fun hlt=>⟨⟨by omega,by omega⟩,m+1,j,⟨?_,h2,h3⟩,by omega,TurnT.le (by simp -dsimp -implicitDefEqProofs)⟩,fun hge=>⟨i,m,⟨h1,?_,by omega⟩,by omega,TurnT.le (by simp -dsimp -implicitDefEqProofs)⟩⟩,fun hji=>⟨fun a b=>⟨⟨a,b⟩,a⟩,fun a=>⟨a,fun b=>⟨a,b⟩⟩,by omega,?_⟩⟩
 ·
  exact (below_at hsort (show m<xs.length by omega)).1 hlt
 ·
  exact below_hi hsort (by omega) hge
 ·
  exact below_mem hsort (by omega)
end Go.Am.Pl
namespace Go.Am.Pl
set_option maxHeartbeats 4000000
set_option maxRecDepth 20000
open Go.RowKit Go.Proofs
attribute [local simp] thenKD_normal thenKD_exit thenKD_goto thenKD_ret inBlockKD_normal inBlockKD_exit inBlockKD_goto inBlockKD_ret noGotoKD_normal noGotoKD_exit noGotoKD_goto noGotoKD_ret roundKD_normal roundKD_exit roundKD_goto roundKD_ret frzSlotsD_nil frzSlotsD_cons frzSlotD_eq yieldVCD_trace opVCD_eq vcOpsD_nil vcOpsD_cons vcAllD_zero vcAllD_succ allAtD_nil allAtD_cons readyAux edgA vcD_skip vcD_label vcD_exit vcD_goto vcD_ret vcD_region vcD_seq vcD_seqC vcD_cond vcCondD_bool vcD_block vcD_scope vcD_loop vcD_rangeFunc yieldOf isMem isMem0 keepE envLe St.le psE yieldAV round_td round_y round_Γ vI vB vS aI aB aS look getE oper opRV putE allOk okOps Op.operands Call.operands pEv qEv mEv constRV coe RV.av loadEv loadCs takeAt indexAddrEv fieldAddrEv binEv intEv arith unEv gcond pickEv argsEv callVal callEv capAV_mk lenArgs lenEv minEv extractEv convEv funcEv allBox bound sliceEv lookupEv TD.isBool allocEv boxEv storeEv spl plainTD appendEv appendArgs makeMapEv mapUpdateEv buildEv buildSliceEv fillSV zsvOf sizeTD Ty.parses parses_flats' coeA flats_length AV.good AV.cells AV.pure SV.pure av_int av_bool av_str av_slice av_cons av_fld0 av_fld1 av_fld2 av_fld3 av_fld4 Ty.of Ty.dflt Ty.parse Ty.flat Ty.zsv Ty.fld Ty.get Ty.off Ty.nfld Ty.size coeTy junk Blk.look argEnv resEv resOk resVs oneRV retOk frzAs frzAV frzL frzSV boxCaps boxCap SV.sig sigs RV.scalar AV.scalar SV.scalar nope effVCD_eq effOf SV.ids AV.ids dedup SV.ren AV.ren RV.ren idx outId mergeB Blk.pureB flats_pure flat_pure epsSlotsD_nil epsSlotsD_cons epsSlotD_eq allEp D.parts_fnOf fvParts retEff round_E av_fn G.ye isCutD_nil isCutD_cons firstReg_region firstReg_seq firstReg_skip firstReg_ret firstReg_label firstReg_exit firstReg_goto firstReg_cond firstReg_block firstReg_scope firstReg_loop firstReg_rf eptrOf_mk flOfD_nil flOfD_cons vcFlD_cons vcFlD_nil flPairs_nil flPairs_cons vcFrD_nil vcFrD_cons makeSliceEv vcCondD_ib fzEv unfl_flats isFz round_fz panVCD_eq panOf isShift strIdxEv ifaceEv nilChkEv sliceAnyEv sliceOwnEv sliceSufEv appendEv0 appendEv1 Ty.beq Ty.isAgg round_Pn vcDefD_seqR vcDefD_seqS vcDefD_seqC vcDefD_seqB vcDefD_seqL vcDefD_seqF vcDefD_seqSc vcDefD_region vcDefD_ret vcDefD_cond vcDefD_block vcDefD_loop thenKD_panic inBlockKD_panic noGotoKD_panic exitOk_normal exitOk_ret exitOk_panic exitOk_exit runDefs_none runDefs_some runDefs_cons defRegD isDefer defOf caughtCon unfl_cons D.bpart_bndOf D.parts_bndOf AV.sig
attribute [local simp ←] flats_append
def conValues:Con:=⟨fun args=>(match args with
 | [.s (.sl (.int .i64) xs _)]=>True
 | _=>False),fun args=>match args with
 | [.s (.sl (.int .i64) xs _)]=>.v (.s (.fnp 125 [⟨.slice tI,xs⟩]))
 | _=>.v (.s .any)⟩
theorem conValues_eq (xs:List (Ty.T tI)) (exxs:Bool):conValues.pre [.s (.sl tI xs exxs)]=(True)∧conValues.val [.s (.sl tI xs exxs)]=.v (.s (.fnp 125 [⟨.slice tI,xs⟩])):=⟨rfl,rfl⟩
theorem values_ok:PureOk Tryz.prog 89 conValues:=by
 refine pureOkD (L:={ live:=[0,1,2] }) pl0_good rfl pl_mixed Tryz.func89 rfl conValues 1 (by decide) (by kernel_rfl) ?_
 intro args hpre hlens
 simp only [conValues] at hpre
 split at hpre
 case h_2=>exact hpre.elim
 rename_i xs ex
 simp only [allLen,AV.lenOk,SV.lenOk,Ty.lenOk,maxLen,and_true,implies_true,true_and,List.forall_mem_cons,List.not_mem_nil,false_implies] at hlens
 refine ⟨rfl,?_⟩
 simp -dsimp -implicitDefEqProofs [Tryz.f89,conValues_eq,pl0_all,plT,pl0Γ,pl0E,pl0P,inI64]
def itValues:ItCon:=⟨fun caps=>(match caps with
 | [.s (.eptr (.slice (.int .i64)) _)]=>True
 | _=>False),fun caps=>match caps with
 | [.s (.eptr (.slice (.int .i64)) xs)]=>xs.map fun x=>[aI x]
 | _=>[]⟩
theorem itValues_xs (xs:List Int):itValues.xs [.s (.eptr (.slice tI) xs)]=xs.map fun x=>[aI x]:=rfl
theorem values1_ok:ItOk Tryz.prog 125 itValues:=by
 refine itOkD (L:={ live:=[0,1,4,5,6,7,8,14] }) pl0y_good rfl pl_mixed Tryz.func125 (enters_of Tryz.func125 (by kernel_rfl) rfl) rfl rfl itValues 1 (by decide) (by kernel_rfl) ?_
 intro caps l hpre hlens
 simp only [itValues] at hpre
 split at hpre
 ·
  rename_i xs
  obtain ⟨⟨hl,_⟩,_⟩:=hlens
  refine ⟨rfl,fun X hX => ?_⟩
  rw [itValues_xs]
  simp only [maxLen] at hl
  simp -dsimp -implicitDefEqProofs [Tryz.f125,pl0y_q,pl0_all,pl0y_all,plT,pl0Γ,pl0E,pl0P,inI64]
  refine WpD.loop (L:={ live:=[0,1,4,5,6,7,8,14] }) pl0y_good hX pl_mixed (by kernel_rfl)
   (fun i:Nat=>⟨[(0,⟨true,.v (.s (.val (.func (.yield l) #[] #[])))⟩),(5,vS tI xs false),(6,vI xs.length),(7,vI i)],[.trace l (xs.map fun x=>[aI x]) i false]⟩)
   (fun i=>i≤xs.length) (fun i=>xs.length - i) 0 (by simp) (Turn.le (by simp -dsimp -implicitDefEqProofs)) ?_
  intro i hi
  simp -dsimp -implicitDefEqProofs [pl0y_q,pl0_all,pl0y_all,plT,pl0Γ,pl0E,pl0P,inI64]
  refine ⟨fun hlt=>⟨hlt,by simp [hlt],⟨by omega,by omega⟩,i+1,by omega,by omega,TurnT.le (by simp -dsimp -implicitDefEqProofs)⟩,fun hge=>by omega⟩
 ·
  exact hpre.elim
def itV:List (FuncId×ItCon):=[(125,itValues)]
theorem itV_known:KnownIt Tryz.prog itV:=.cons values1_ok .nil
theorem seq_values (xs:List Int):seqOf itV 125 [⟨.slice tI,xs⟩] tI xs:=⟨itValues,rfl,trivial,rfl⟩
def pl3Γ:List (FuncId×Con):=(119,conBin)::(89,conValues)::pl2Γ
theorem pl3Γ_ok:∀ p∈pl3Γ,(∀ (args:Array Value) (w:World),(callFunc p.1 args).run Tryz.prog w=.ok (.enter p.1 args) w)∧PureOk Tryz.prog p.1 p.2:=by
 simp only [pl3Γ,List.forall_mem_cons]
 exact ⟨⟨enters_of Tryz.func119 (by kernel_rfl) rfl,bin_ok⟩,⟨enters_of Tryz.func89 (by kernel_rfl) rfl,values_ok⟩,pl2Γ_ok⟩
def pl3E:List (FuncId×ECon):=(123,(conColI itV))::(82,conSort)::pl2E
theorem pl3E_ok:∀ p∈pl3E,(∀ (args:Array Value) (w:World),(callFunc p.1 args).run Tryz.prog w=.ok (.enter p.1 args) w)∧EffOk Tryz.prog p.1 p.2:=by
 simp only [pl3E,List.forall_mem_cons]
 exact ⟨⟨enters_of Tryz.func123 (by kernel_rfl) rfl,(conColI_known itV itV_known)⟩,⟨enters_of Tryz.func82 (by kernel_rfl) rfl,(sort_eff Tryz.laySort)⟩,pl2E_ok⟩
def pl3P:List (FuncId×PCon):=pl2P
theorem pl3P_ok:∀ p∈pl3P,(∀ (args:Array Value) (w:World),(callFunc p.1 args).run Tryz.prog w=.ok (.enter p.1 args) w)∧PanOk Tryz.prog p.1 p.2:=by
 simp only [pl3P]
 exact pl2P_ok
def pl3:G:={ τ:=plT,Γ:=pl3Γ,E:=pl3E,Pn:=pl3P }
theorem pl3_good:pl3.good Tryz.prog:=good_of_all (plT_ok _ rfl) pl3Γ_ok pl3E_ok pl3P_ok
theorem pl3_all:(∀ t,pl3.td t=(look plT t).getD .other)∧pl3.y=false∧pl3.Γ=pl3Γ∧pl3.E=pl3E∧pl3.Pn=pl3P∧pl3.fz=[]:=⟨fun _=>rfl,rfl,rfl,rfl,rfl,rfl⟩
def conSorted:ECon:={ wp:=fun args hp K=>match args,hp with
 | [.s (.fnp f caps)],[]=>∃ xs:List Int,seqOf itV f caps tI xs∧xs.length≤1000000000∧K (.v (.s (.own tI 0 xs.length))) [.arr (decide (0<xs.length)) (tI.flats (isort xs))]
 | _,_=>False }
theorem sorted_ok:EffOk Tryz.prog 116 conSorted:=by
 refine effOkD (L:={ live:=[0,2,3] }) pl3_good rfl pl_mixed Tryz.func116 rfl conSorted 1 (by decide) (by kernel_rfl) ?_
 intro args hp K hpre hlens
 simp only [conSorted] at hpre
 split at hpre
 ·
  rename_i f caps
  obtain ⟨xs,hs,hlen,hK⟩:=hpre
  refine ⟨rfl,?_⟩
  simp -dsimp -implicitDefEqProofs [Tryz.f116,pl3_all,plT,pl3Γ,pl3E,pl3P,pl2Γ,pl2E,pl2P,pl1Γ,pl1E,pl1P,pl0Γ,pl0E,pl0P,conBin_eq,conValues_eq,conColI,conSort,conLess_eq,conNaN_eq,inI64]
  refine ⟨xs,hs,hlen,xs,rfl,rfl,by omega,?_,?_⟩
  ·
   cases xs <;> simp
  ·
   have:=isort_length xs
   exact hK
 ·
  exact hpre.elim
def conPl1:Con:=⟨fun args=>(match args with
 | [.s (.int .i64 n),.s (.eptr (.slice (.int .i64)) s)]=>s.Pairwise (fun a b=>a≤b)∧s.length≤1000000
 | _=>False),fun args=>match args with
 | [.s (.int _ n),.s (.eptr (.slice (.int .i64)) s)]=>.v (aI (below n s+1))
 | _=>.v (.s .any)⟩
theorem conPl1_eq (n:Int) (s:Ty.T (.slice tI)):conPl1.pre [.s (.int .i64 n),.s (.eptr (.slice tI) s)]=(s.Pairwise (fun a b=>a≤b)∧s.length≤1000000)∧conPl1.val [.s (.int .i64 n),.s (.eptr (.slice tI) s)]=.v (aI (below n s+1)):=⟨rfl,rfl⟩
theorem pl1_ok:PureOk Tryz.prog 118 conPl1:=by
 refine pureOkD (L:={ live:=[0,1,3,4] }) pl3_good rfl pl_mixed Tryz.func118 rfl conPl1 2 (by decide) (by kernel_rfl) ?_
 intro args hpre hlens
 simp only [conPl1] at hpre
 split at hpre
 case h_2=>exact hpre.elim
 rename_i n s
 simp only [allLen,AV.lenOk,SV.lenOk,Ty.lenOk,maxLen,and_true,implies_true,true_and,List.forall_mem_cons,List.not_mem_nil,false_implies] at hlens
 refine ⟨rfl,?_⟩
 simp -dsimp -implicitDefEqProofs [Tryz.f118,conPl1_eq,pl3_all,plT,pl3Γ,pl3E,pl3P,pl2Γ,pl2E,pl2P,pl1Γ,pl1E,pl1P,pl0Γ,pl0E,pl0P,conBin_eq,conValues_eq,conColI,conSort,conLess_eq,conNaN_eq,inI64]
 have:=below_le n s
 exact ⟨hpre,by omega,by omega⟩
def gII:List (FuncId×Con):=[(118,conPl1)]
theorem gII_known:Known Tryz.prog gII:=.cons (enters_of Tryz.func118 (by kernel_rfl) rfl) pl1_ok .nil
theorem fn_pl1 (s:List Int):fnTo gII tI tI 118 [⟨.slice tI,s⟩] (fun n=>(below n s:Int)+1) (fun _=>s.Pairwise (fun a b=>a≤b)∧s.length≤1000000):=⟨conPl1,rfl,fun _=>rfl,fun _ h=>h⟩
theorem map_pl1 (s xs:List Int):mapV gII tI tI 118 [⟨.slice tI,s⟩] xs=xs.map fun n=>(below n s:Int)+1:=mapV_eq (by decide) (fn_pl1 s) xs
def pl4Γ:List (FuncId×Con):=(117,(conMapII gII))::pl3Γ
theorem pl4Γ_ok:∀ p∈pl4Γ,(∀ (args:Array Value) (w:World),(callFunc p.1 args).run Tryz.prog w=.ok (.enter p.1 args) w)∧PureOk Tryz.prog p.1 p.2:=by
 simp only [pl4Γ,List.forall_mem_cons]
 exact ⟨⟨enters_of Tryz.func117 (by kernel_rfl) rfl,(conMapII_known gII gII_known)⟩,pl3Γ_ok⟩
def pl4E:List (FuncId×ECon):=(116,conSorted)::pl3E
theorem pl4E_ok:∀ p∈pl4E,(∀ (args:Array Value) (w:World),(callFunc p.1 args).run Tryz.prog w=.ok (.enter p.1 args) w)∧EffOk Tryz.prog p.1 p.2:=by
 simp only [pl4E,List.forall_mem_cons]
 exact ⟨⟨enters_of Tryz.func116 (by kernel_rfl) rfl,sorted_ok⟩,pl3E_ok⟩
def pl4P:List (FuncId×PCon):=pl3P
theorem pl4P_ok:∀ p∈pl4P,(∀ (args:Array Value) (w:World),(callFunc p.1 args).run Tryz.prog w=.ok (.enter p.1 args) w)∧PanOk Tryz.prog p.1 p.2:=by
 simp only [pl4P]
 exact pl3P_ok
def pl4:G:={ τ:=plT,Γ:=pl4Γ,E:=pl4E,Pn:=pl4P }
theorem pl4_good:pl4.good Tryz.prog:=good_of_all (plT_ok _ rfl) pl4Γ_ok pl4E_ok pl4P_ok
theorem pl4_all:(∀ t,pl4.td t=(look plT t).getD .other)∧pl4.y=false∧pl4.Γ=pl4Γ∧pl4.E=pl4E∧pl4.Pn=pl4P∧pl4.fz=[]:=⟨fun _=>rfl,rfl,rfl,rfl,rfl,rfl⟩
def ordRow (row:List Int):List Int:=row.map fun n=>(below n row:Int)+1
def conPlaced:Con:=⟨fun args=>(match args with
 | [.s (.sl (.int .i64) row _)]=>row.length≤1000000
 | _=>False),fun args=>match args with
 | [.s (.sl (.int .i64) row _)]=>.v (aS tI (ordRow row) false)
 | _=>.v (.s .any)⟩
theorem conPlaced_eq (row:List (Ty.T tI)) (exrow:Bool):conPlaced.pre [.s (.sl tI row exrow)]=(row.length≤1000000)∧conPlaced.val [.s (.sl tI row exrow)]=.v (aS tI (ordRow row) false):=⟨rfl,rfl⟩
theorem placed_ok:PureOk Tryz.prog 77 conPlaced:=by
 refine pureOkD (L:={ live:=[0,2,3],frz:=[(2,[3])],eps:=[(2,[3])] }) pl4_good rfl pl_mixed Tryz.func77 rfl conPlaced 1 (by decide) (by kernel_rfl) ?_
 intro args hpre hlens
 simp only [conPlaced] at hpre
 split at hpre
 case h_2=>exact hpre.elim
 rename_i row ex
 simp only [allLen,AV.lenOk,SV.lenOk,Ty.lenOk,maxLen,and_true,implies_true,true_and,List.forall_mem_cons,List.not_mem_nil,false_implies] at hlens
 refine ⟨rfl,?_⟩
 simp -dsimp -implicitDefEqProofs [Tryz.f77,conPlaced_eq,pl4_all,plT,pl4Γ,pl4E,pl4P,pl3Γ,pl3E,pl3P,pl2Γ,pl2E,pl2P,pl1Γ,pl1E,pl1P,pl0Γ,pl0E,pl0P,conMapII_pre,conMapII_val,conSorted,conBin_eq,conValues_eq,conColI,conSort,conLess_eq,conNaN_eq,inI64]
 refine ⟨row,seq_values row,by omega,isort_length row,isort row,rfl,(isort_length row).symm,⟨hpre,_,(fn_pl1 (isort row)).mono fun _ _=>⟨isort_sorted row,by rw [isort_length]; exact hpre⟩⟩,?_⟩
 rw [map_pl1]
 unfold ordRow
 refine List.map_congr_left fun n _ => ?_
 rw [below_perm n (isort_perm row)]
def pl5Γ:List (FuncId×Con):=(77,conPlaced)::pl4Γ
theorem pl5Γ_ok:∀ p∈pl5Γ,(∀ (args:Array Value) (w:World),(callFunc p.1 args).run Tryz.prog w=.ok (.enter p.1 args) w)∧PureOk Tryz.prog p.1 p.2:=by
 simp only [pl5Γ,List.forall_mem_cons]
 exact ⟨⟨enters_of Tryz.func77 (by kernel_rfl) rfl,placed_ok⟩,pl4Γ_ok⟩
def pl5E:List (FuncId×ECon):=pl4E
theorem pl5E_ok:∀ p∈pl5E,(∀ (args:Array Value) (w:World),(callFunc p.1 args).run Tryz.prog w=.ok (.enter p.1 args) w)∧EffOk Tryz.prog p.1 p.2:=by
 simp only [pl5E]
 exact pl4E_ok
def pl5P:List (FuncId×PCon):=pl4P
theorem pl5P_ok:∀ p∈pl5P,(∀ (args:Array Value) (w:World),(callFunc p.1 args).run Tryz.prog w=.ok (.enter p.1 args) w)∧PanOk Tryz.prog p.1 p.2:=by
 simp only [pl5P]
 exact pl4P_ok
def conLong:Con:=⟨fun args=>(match args with
 | [.s (.sl (.int .i64) row _)]=>True
 | _=>False),fun args=>match args with
 | [.s (.sl (.int .i64) row _)]=>.v (aB (decide (4096<row.length)))
 | _=>.v (.s .any)⟩
theorem conLong_eq (row:List (Ty.T tI)) (exrow:Bool):conLong.pre [.s (.sl tI row exrow)]=(True)∧conLong.val [.s (.sl tI row exrow)]=.v (aB (decide (4096<row.length))):=⟨rfl,rfl⟩
theorem long_ok:PureOk Tryz.prog 114 conLong:=by
 refine pureOkD (L:={ live:=[0,2] }) pl0_good rfl pl_mixed Tryz.func114 rfl conLong 1 (by decide) (by kernel_rfl) ?_
 intro args hpre hlens
 simp only [conLong] at hpre
 split at hpre
 case h_2=>exact hpre.elim
 rename_i row ex
 simp only [allLen,AV.lenOk,SV.lenOk,Ty.lenOk,maxLen,and_true,implies_true,true_and,List.forall_mem_cons,List.not_mem_nil,false_implies] at hlens
 refine ⟨rfl,?_⟩
 simp -dsimp -implicitDefEqProofs [Tryz.f114,conLong_eq,pl0_all,plT,pl0Γ,pl0E,pl0P,inI64]
 omega
def conOdd:Con:=⟨fun args=>(match args with
 | [.s (.sl (.int .i64) row _),.s (.eptr (.slice (.slice (.int .i64))) l)]=>0<l.length
 | _=>False),fun args=>match args with
 | [.s (.sl (.int .i64) row _),.s (.eptr (.slice (.slice (.int .i64))) l)]=>.v (aB (decide (row.length≠(l[0]?.getD []).length)))
 | _=>.v (.s .any)⟩
theorem conOdd_eq (row:List (Ty.T tI)) (exrow:Bool) (l:Ty.T (.slice (.slice tI))):conOdd.pre [.s (.sl tI row exrow),.s (.eptr (.slice (.slice tI)) l)]=(0<l.length)∧conOdd.val [.s (.sl tI row exrow),.s (.eptr (.slice (.slice tI)) l)]=.v (aB (decide (row.length≠(l[0]?.getD []).length))):=⟨rfl,rfl⟩
theorem odd_ok:PureOk Tryz.prog 115 conOdd:=by
 refine pureOkD (L:={ live:=[0,1,3] }) pl0_good rfl pl_mixed Tryz.func115 rfl conOdd 2 (by decide) (by kernel_rfl) ?_
 intro args hpre hlens
 simp only [conOdd] at hpre
 split at hpre
 case h_2=>exact hpre.elim
 rename_i row ex l
 simp only [allLen,AV.lenOk,SV.lenOk,Ty.lenOk,maxLen,and_true,implies_true,true_and,List.forall_mem_cons,List.not_mem_nil,false_implies] at hlens
 refine ⟨rfl,?_⟩
 simp -dsimp -implicitDefEqProofs [Tryz.f115,conOdd_eq,pl0_all,plT,pl0Γ,pl0E,pl0P,inI64]
 refine ⟨hpre,?_⟩
 rw [Bool.eq_iff_iff]
 simp
 omega
def gC1:List (FuncId×Con):=[(114,conLong),(115,conOdd)]
theorem gC1_known:Known Tryz.prog gC1:=.cons (enters_of Tryz.func114 (by kernel_rfl) rfl) long_ok (.cons (enters_of Tryz.func115 (by kernel_rfl) rfl) odd_ok .nil)
theorem fn_long:fnTo gC1 tRow .bool 114 [] (fun row:List Int=>decide (4096<row.length)) (fun _=>True):=⟨conLong,rfl,fun _=>rfl,fun _ h=>h⟩
theorem fn_odd (l:List (List Int)):fnTo gC1 tRow .bool 115 [⟨.slice tRow,l⟩] (fun row:List Int=>decide (row.length≠(l[0]?.getD []).length)) (fun _=>0<l.length):=⟨conOdd,rfl,fun _=>rfl,fun _ h=>h⟩
theorem ap_long:apB gC1 tRow 114 []=fun row:List Int=>decide (4096<row.length):=funext (apB_eq fn_long)
theorem ap_odd (l:List (List Int)):apB gC1 tRow 115 [⟨.slice tRow,l⟩]=fun row:List Int=>decide (row.length≠(l[0]?.getD []).length):=funext (apB_eq (fn_odd l))
def pl6Γ:List (FuncId×Con):=(36,(conCont gC1))::pl5Γ
theorem pl6Γ_ok:∀ p∈pl6Γ,(∀ (args:Array Value) (w:World),(callFunc p.1 args).run Tryz.prog w=.ok (.enter p.1 args) w)∧PureOk Tryz.prog p.1 p.2:=by
 simp only [pl6Γ,List.forall_mem_cons]
 exact ⟨⟨enters_of Tryz.func36 (by kernel_rfl) rfl,(conCont_known gC1 gC1_known)⟩,pl5Γ_ok⟩
def pl6E:List (FuncId×ECon):=pl5E
theorem pl6E_ok:∀ p∈pl6E,(∀ (args:Array Value) (w:World),(callFunc p.1 args).run Tryz.prog w=.ok (.enter p.1 args) w)∧EffOk Tryz.prog p.1 p.2:=by
 simp only [pl6E]
 exact pl5E_ok
def pl6P:List (FuncId×PCon):=pl5P
theorem pl6P_ok:∀ p∈pl6P,(∀ (args:Array Value) (w:World),(callFunc p.1 args).run Tryz.prog w=.ok (.enter p.1 args) w)∧PanOk Tryz.prog p.1 p.2:=by
 simp only [pl6P]
 exact pl5P_ok
def pl6:G:={ τ:=plT,Γ:=pl6Γ,E:=pl6E,Pn:=pl6P }
theorem pl6_good:pl6.good Tryz.prog:=good_of_all (plT_ok _ rfl) pl6Γ_ok pl6E_ok pl6P_ok
theorem pl6_all:(∀ t,pl6.td t=(look plT t).getD .other)∧pl6.y=false∧pl6.Γ=pl6Γ∧pl6.E=pl6E∧pl6.Pn=pl6P∧pl6.fz=[]:=⟨fun _=>rfl,rfl,rfl,rfl,rfl,rfl⟩
def tableErr (l:List (List Int)):Int:=if 256<l.length∨∃ row∈l,4096<row.length then 2 else if ∃ row∈l,¬ row.length=(l[0]?.getD []).length then 220 else 0
theorem tableErr_2 {l:List (List Int)} (h:256<l.length∨∃ row∈l,4096<row.length):tableErr l=2:=if_pos h
theorem tableErr_220 {l:List (List Int)} (h:¬ (256<l.length∨∃ row∈l,4096<row.length)) (h':∃ row∈l,¬ row.length=(l[0]?.getD []).length):tableErr l=220:=by rw [tableErr,if_neg h,if_pos h']
theorem tableErr_0 {l:List (List Int)} (h:¬ (256<l.length∨∃ row∈l,4096<row.length)) (h':¬ ∃ row∈l,¬ row.length=(l[0]?.getD []).length):tableErr l=0:=by rw [tableErr,if_neg h,if_neg h']
theorem tableErr_ok {l:List (List Int)} (h:tableErr l=0):l.length≤256∧(∀ row∈l,row.length≤4096)∧∀ row∈l,row.length=(l[0]?.getD []).length:=by
 unfold tableErr at h
 split at h
 ·
  cases h
 ·
  rename_i h1
  split at h
  ·
   cases h
  ·
   rename_i h2
   refine ⟨by omega,fun row hr => ?_,fun row hr => ?_⟩
   ·
    exact Nat.not_lt.1 fun hl=>h1 (.inr ⟨row,hr,hl⟩)
   ·
    exact Classical.byContradiction fun hne=>h2 ⟨row,hr,hne⟩
def conTable:Con:=⟨fun args=>(match args with
 | [.s (.sl (.slice (.int .i64)) l _)]=>True
 | _=>False),fun args=>match args with
 | [.s (.sl (.slice (.int .i64)) l _)]=>.v (aI (tableErr l))
 | _=>.v (.s .any)⟩
theorem conTable_eq (l:List (Ty.T (.slice tI))) (exl:Bool):conTable.pre [.s (.sl (.slice tI) l exl)]=(True)∧conTable.val [.s (.sl (.slice tI) l exl)]=.v (aI (tableErr l)):=⟨rfl,rfl⟩
theorem table_ok:PureOk Tryz.prog 74 conTable:=by
 refine pureOkD (L:={ live:=[0,1,2,3,11,14],eps:=[(4,[1])] }) pl6_good rfl pl_mixed Tryz.func74 rfl conTable 1 (by decide) (by kernel_rfl) ?_
 intro args hpre hlens
 simp only [conTable] at hpre
 split at hpre
 case h_2=>exact hpre.elim
 rename_i l ex
 simp only [allLen,AV.lenOk,SV.lenOk,Ty.lenOk,maxLen,and_true,implies_true,true_and,List.forall_mem_cons,List.not_mem_nil,false_implies] at hlens
 refine ⟨rfl,?_⟩
 simp -dsimp -implicitDefEqProofs [Tryz.f74,conTable_eq,ap_long,ap_odd,pl6_all,plT,pl6Γ,pl6E,pl6P,pl5Γ,pl5E,pl5P,pl4Γ,pl4E,pl4P,pl3Γ,pl3E,pl3P,pl2Γ,pl2E,pl2P,pl1Γ,pl1E,pl1P,pl0Γ,pl0E,pl0P,conCont_pre,conCont_val,conPlaced_eq,conMapII_pre,conMapII_val,conSorted,conBin_eq,conValues_eq,conColI,conSort,conLess_eq,conNaN_eq,inI64]
 refine ⟨fun h=>⟨h,_,fn_long.mono fun _ _=>trivial⟩,fun h=>(tableErr_2 (h.imp (fun q=>by omega) id)).symm,fun h1 h2 => ?_⟩
 have hn:¬ (256<l.length∨∃ row∈l,4096<List.length row):=by
  rintro (h | ⟨row,hr,hl⟩)
  ·
   omega
  ·
   have:=h2 row hr; omega
 exact ⟨⟨_,(fn_odd l).mono fun x hx=>List.length_pos_of_mem hx⟩,fun x hx hne=>(tableErr_220 hn ⟨x,hx,hne⟩).symm,fun h=>(tableErr_0 hn (fun ⟨x,hx,hne⟩=>hne (h x hx))).symm⟩
def conEqual:Con:=⟨fun args=>(match args with
 | [.s (.sl (.int .i64) xs _),.s (.sl (.int .i64) ys _)]=>True
 | _=>False),fun args=>match args with
 | [.s (.sl (.int .i64) xs _),.s (.sl (.int .i64) ys _)]=>.v (aB (decide (xs=ys)))
 | _=>.v (.s .any)⟩
theorem conEqual_eq (xs:List (Ty.T tI)) (exxs:Bool) (ys:List (Ty.T tI)) (exys:Bool):conEqual.pre [.s (.sl tI xs exxs),.s (.sl tI ys exys)]=(True)∧conEqual.val [.s (.sl tI xs exxs),.s (.sl tI ys exys)]=.v (aB (decide (xs=ys))):=⟨rfl,rfl⟩
theorem take_eq_all {xs ys:List Int} (hl:xs.length=ys.length) {i:Nat} (hi:xs.length≤i) (he:xs.take i=ys.take i):xs=ys:=by
 rwa [List.take_of_length_le hi,List.take_of_length_le (by omega)] at he
theorem equal_ok:PureOk Tryz.prog 76 conEqual:=by
 refine pureOkD (L:={ live:=[0,1,4,5,10,12,13,14,24] }) pl0_good rfl pl_mixed Tryz.func76 rfl conEqual 2 (by decide) (by kernel_rfl) ?_
 intro args hpre hlens
 simp only [conEqual] at hpre
 split at hpre
 case h_2=>exact hpre.elim
 rename_i xs ex ys ex'
 simp only [allLen,AV.lenOk,SV.lenOk,Ty.lenOk,maxLen,and_true,implies_true,true_and,List.forall_mem_cons,List.not_mem_nil,false_implies] at hlens
 refine ⟨rfl,?_⟩
 simp -dsimp -implicitDefEqProofs [Tryz.f76,conEqual_eq,pl0_all,plT,pl0Γ,pl0E,pl0P,inI64]
 refine ⟨fun h e=>h (by rw [e]),fun h => ?_⟩
 refine WpD.loop (L:={ live:=[0,1,4,5,10,12,13,14,24] }) pl0_good X0_ok pl_mixed (by kernel_rfl)
  (fun i:Nat=>⟨[(0,vS tI xs ex),(1,vS tI ys ex'),(12,vI xs.length),(13,vI i)],[]⟩)
  (fun i=>i≤xs.length∧xs.take i=ys.take i) (fun i=>xs.length - i) 0 (by simp) (Turn.le (by simp -dsimp -implicitDefEqProofs)) ?_
 rintro i ⟨hi,he⟩
 simp -dsimp -implicitDefEqProofs [conEqual_eq,pl0_all,plT,pl0Γ,pl0E,pl0P,inI64]
 refine ⟨fun hlt=>⟨hlt,by omega,fun hne e=>hne (by rw [e]),fun hq=>⟨⟨by omega,by omega⟩,i+1,⟨by omega,?_⟩,by omega,TurnT.le (by simp -dsimp -implicitDefEqProofs)⟩⟩,fun hge=>take_eq_all (by omega) hge he⟩
 have h1:=take_succ_get xs hlt 0
 have h2:=take_succ_get ys (show i<ys.length by omega) 0
 rw [h1,h2,he,hq]
def pl7Γ:List (FuncId×Con):=(74,conTable)::(76,conEqual)::pl6Γ
theorem pl7Γ_ok:∀ p∈pl7Γ,(∀ (args:Array Value) (w:World),(callFunc p.1 args).run Tryz.prog w=.ok (.enter p.1 args) w)∧PureOk Tryz.prog p.1 p.2:=by
 simp only [pl7Γ,List.forall_mem_cons]
 exact ⟨⟨enters_of Tryz.func74 (by kernel_rfl) rfl,table_ok⟩,⟨enters_of Tryz.func76 (by kernel_rfl) rfl,equal_ok⟩,pl6Γ_ok⟩
def pl7E:List (FuncId×ECon):=pl6E
theorem pl7E_ok:∀ p∈pl7E,(∀ (args:Array Value) (w:World),(callFunc p.1 args).run Tryz.prog w=.ok (.enter p.1 args) w)∧EffOk Tryz.prog p.1 p.2:=by
 simp only [pl7E]
 exact pl6E_ok
def pl7P:List (FuncId×PCon):=pl6P
theorem pl7P_ok:∀ p∈pl7P,(∀ (args:Array Value) (w:World),(callFunc p.1 args).run Tryz.prog w=.ok (.enter p.1 args) w)∧PanOk Tryz.prog p.1 p.2:=by
 simp only [pl7P]
 exact pl6P_ok
def pl7:G:={ τ:=plT,Γ:=pl7Γ,E:=pl7E,Pn:=pl7P }
theorem pl7_good:pl7.good Tryz.prog:=good_of_all (plT_ok _ rfl) pl7Γ_ok pl7E_ok pl7P_ok
theorem pl7_all:(∀ t,pl7.td t=(look plT t).getD .other)∧pl7.y=false∧pl7.Γ=pl7Γ∧pl7.E=pl7E∧pl7.Pn=pl7P∧pl7.fz=[]:=⟨fun _=>rfl,rfl,rfl,rfl,rfl,rfl⟩
def conChk1:Con:=⟨fun args=>(match args with
 | [.s (.sl (.int .i64) row _)]=>row.length≤1000000
 | _=>False),fun args=>match args with
 | [.s (.sl (.int .i64) row _)]=>.v (aB (decide (¬ row=ordRow row)))
 | _=>.v (.s .any)⟩
theorem conChk1_eq (row:List (Ty.T tI)) (exrow:Bool):conChk1.pre [.s (.sl tI row exrow)]=(row.length≤1000000)∧conChk1.val [.s (.sl tI row exrow)]=.v (aB (decide (¬ row=ordRow row))):=⟨rfl,rfl⟩
theorem chk1_ok:PureOk Tryz.prog 75 conChk1:=by
 refine pureOkD (L:={ live:=[0,2] }) pl7_good rfl pl_mixed Tryz.func75 rfl conChk1 1 (by decide) (by kernel_rfl) ?_
 intro args hpre hlens
 simp only [conChk1] at hpre
 split at hpre
 case h_2=>exact hpre.elim
 rename_i row ex
 simp only [allLen,AV.lenOk,SV.lenOk,Ty.lenOk,maxLen,and_true,implies_true,true_and,List.forall_mem_cons,List.not_mem_nil,false_implies] at hlens
 refine ⟨rfl,?_⟩
 simp -dsimp -implicitDefEqProofs [Tryz.f75,conChk1_eq,pl7_all,plT,pl7Γ,pl7E,pl7P,pl6Γ,pl6E,pl6P,pl5Γ,pl5E,pl5P,pl4Γ,pl4E,pl4P,pl3Γ,pl3E,pl3P,pl2Γ,pl2E,pl2P,pl1Γ,pl1E,pl1P,pl0Γ,pl0E,pl0P,conTable_eq,conEqual_eq,conCont_pre,conCont_val,conPlaced_eq,conMapII_pre,conMapII_val,conSorted,conBin_eq,conValues_eq,conColI,conSort,conLess_eq,conNaN_eq,inI64]
 exact hpre
def gC2:List (FuncId×Con):=[(75,conChk1)]
theorem gC2_known:Known Tryz.prog gC2:=.cons (enters_of Tryz.func75 (by kernel_rfl) rfl) chk1_ok .nil
theorem fn_chk1:fnTo gC2 tRow .bool 75 [] (fun row:List Int=>decide (¬ row=ordRow row)) (fun row=>row.length≤1000000):=⟨conChk1,rfl,fun _=>rfl,fun _ h=>h⟩
theorem ap_chk1:apB gC2 tRow 75 []=fun row:List Int=>decide (¬ row=ordRow row):=funext (apB_eq fn_chk1)
def pl8Γ:List (FuncId×Con):=(36,(conCont gC2))::pl7Γ
theorem pl8Γ_ok:∀ p∈pl8Γ,(∀ (args:Array Value) (w:World),(callFunc p.1 args).run Tryz.prog w=.ok (.enter p.1 args) w)∧PureOk Tryz.prog p.1 p.2:=by
 simp only [pl8Γ,List.forall_mem_cons]
 exact ⟨⟨enters_of Tryz.func36 (by kernel_rfl) rfl,(conCont_known gC2 gC2_known)⟩,pl7Γ_ok⟩
def pl8E:List (FuncId×ECon):=pl7E
theorem pl8E_ok:∀ p∈pl8E,(∀ (args:Array Value) (w:World),(callFunc p.1 args).run Tryz.prog w=.ok (.enter p.1 args) w)∧EffOk Tryz.prog p.1 p.2:=by
 simp only [pl8E]
 exact pl7E_ok
def pl8P:List (FuncId×PCon):=pl7P
theorem pl8P_ok:∀ p∈pl8P,(∀ (args:Array Value) (w:World),(callFunc p.1 args).run Tryz.prog w=.ok (.enter p.1 args) w)∧PanOk Tryz.prog p.1 p.2:=by
 simp only [pl8P]
 exact pl7P_ok
def pl8:G:={ τ:=plT,Γ:=pl8Γ,E:=pl8E,Pn:=pl8P }
theorem pl8_good:pl8.good Tryz.prog:=good_of_all (plT_ok _ rfl) pl8Γ_ok pl8E_ok pl8P_ok
theorem pl8_all:(∀ t,pl8.td t=(look plT t).getD .other)∧pl8.y=false∧pl8.Γ=pl8Γ∧pl8.E=pl8E∧pl8.Pn=pl8P∧pl8.fz=[]:=⟨fun _=>rfl,rfl,rfl,rfl,rfl,rfl⟩
def checkErr (l:List (List Int)):Int:=if tableErr l≠0 then tableErr l else if ∃ row∈l,¬ row=ordRow row then 220 else 0
def conCheck:Con:=⟨fun args=>(match args with
 | [.s (.sl (.slice (.int .i64)) l _)]=>True
 | _=>False),fun args=>match args with
 | [.s (.sl (.slice (.int .i64)) l _)]=>.v (aI (checkErr l))
 | _=>.v (.s .any)⟩
theorem conCheck_eq (l:List (Ty.T (.slice tI))) (exl:Bool):conCheck.pre [.s (.sl (.slice tI) l exl)]=(True)∧conCheck.val [.s (.sl (.slice tI) l exl)]=.v (aI (checkErr l)):=⟨rfl,rfl⟩
theorem conCheck_pre (l:List (Ty.T (.slice tI))) (exl:Bool):conCheck.pre [.s (.sl (.slice tI) l exl)]=(True):=rfl
theorem conCheck_val (l:List (Ty.T (.slice tI))) (exl:Bool):conCheck.val [.s (.sl (.slice tI) l exl)]=.v (aI (checkErr l)):=rfl
theorem check_ok:PureOk Tryz.prog 43 conCheck:=by
 refine pureOkD (L:={ live:=[0,2,3,7,10] }) pl8_good rfl pl_mixed Tryz.func43 rfl conCheck 1 (by decide) (by kernel_rfl) ?_
 intro args hpre hlens
 simp only [conCheck] at hpre
 split at hpre
 case h_2=>exact hpre.elim
 rename_i l ex
 simp only [allLen,AV.lenOk,SV.lenOk,Ty.lenOk,maxLen,and_true,implies_true,true_and,List.forall_mem_cons,List.not_mem_nil,false_implies] at hlens
 refine ⟨rfl,?_⟩
 simp -dsimp -implicitDefEqProofs [Tryz.f43,conCheck_eq,ap_chk1,pl8_all,plT,pl8Γ,pl8E,pl8P,pl7Γ,pl7E,pl7P,pl6Γ,pl6E,pl6P,pl5Γ,pl5E,pl5P,pl4Γ,pl4E,pl4P,pl3Γ,pl3E,pl3P,pl2Γ,pl2E,pl2P,pl1Γ,pl1E,pl1P,pl0Γ,pl0E,pl0P,conCont_pre,conCont_val,conTable_eq,conEqual_eq,conPlaced_eq,conMapII_pre,conMapII_val,conSorted,conBin_eq,conValues_eq,conColI,conSort,conLess_eq,conNaN_eq,inI64]
 refine ⟨fun h=>by rw [checkErr,if_pos h],fun h=>⟨⟨_,fn_chk1.mono fun row hr => ?_⟩,fun x hx hne => ?_,fun hall => ?_⟩⟩
 ·
  have:=(tableErr_ok h).2.1 row hr; omega
 ·
  rw [checkErr,if_neg (by simp [h]),if_pos ⟨x,hx,hne⟩]
 ·
  rw [checkErr,if_neg (by simp [h]),if_neg (fun ⟨x,hx,hne⟩=>hne (hall x hx))]
theorem checkErr_ok {l:List (List Int)} (h:checkErr l=0):tableErr l=0∧∀ row∈l,row=ordRow row:=by
 unfold checkErr at h
 split at h
 ·
  rename_i h1; exact absurd h h1
 ·
  rename_i h1
  split at h
  ·
   cases h
  ·
   rename_i h2
   exact ⟨by simpa using h1,fun row hr=>Classical.byContradiction fun hne=>h2 ⟨row,hr,hne⟩⟩
def pl9Γ:List (FuncId×Con):=(43,conCheck)::pl8Γ
theorem pl9Γ_ok:∀ p∈pl9Γ,(∀ (args:Array Value) (w:World),(callFunc p.1 args).run Tryz.prog w=.ok (.enter p.1 args) w)∧PureOk Tryz.prog p.1 p.2:=by
 simp only [pl9Γ,List.forall_mem_cons]
 exact ⟨⟨enters_of Tryz.func43 (by kernel_rfl) rfl,check_ok⟩,pl8Γ_ok⟩
def pl9E:List (FuncId×ECon):=pl8E
theorem pl9E_ok:∀ p∈pl9E,(∀ (args:Array Value) (w:World),(callFunc p.1 args).run Tryz.prog w=.ok (.enter p.1 args) w)∧EffOk Tryz.prog p.1 p.2:=by
 simp only [pl9E]
 exact pl8E_ok
def pl9P:List (FuncId×PCon):=pl8P
theorem pl9P_ok:∀ p∈pl9P,(∀ (args:Array Value) (w:World),(callFunc p.1 args).run Tryz.prog w=.ok (.enter p.1 args) w)∧PanOk Tryz.prog p.1 p.2:=by
 simp only [pl9P]
 exact pl8P_ok
end Go.Am.Pl
namespace Go.Am.Pl
set_option maxHeartbeats 4000000
set_option maxRecDepth 20000
open Go.RowKit Go.Proofs
attribute [local simp] thenKD_normal thenKD_exit thenKD_goto thenKD_ret inBlockKD_normal inBlockKD_exit inBlockKD_goto inBlockKD_ret noGotoKD_normal noGotoKD_exit noGotoKD_goto noGotoKD_ret roundKD_normal roundKD_exit roundKD_goto roundKD_ret frzSlotsD_nil frzSlotsD_cons frzSlotD_eq yieldVCD_trace opVCD_eq vcOpsD_nil vcOpsD_cons vcAllD_zero vcAllD_succ allAtD_nil allAtD_cons readyAux edgA vcD_skip vcD_label vcD_exit vcD_goto vcD_ret vcD_region vcD_seq vcD_seqC vcD_cond vcCondD_bool vcD_block vcD_scope vcD_loop vcD_rangeFunc yieldOf isMem isMem0 keepE envLe St.le psE yieldAV round_td round_y round_Γ vI vB vS aI aB aS look getE oper opRV putE allOk okOps Op.operands Call.operands pEv qEv mEv constRV coe RV.av loadEv loadCs takeAt indexAddrEv fieldAddrEv binEv intEv arith unEv gcond pickEv argsEv callVal callEv capAV_mk lenArgs lenEv minEv extractEv convEv funcEv allBox bound sliceEv lookupEv TD.isBool allocEv boxEv storeEv spl plainTD appendEv appendArgs makeMapEv mapUpdateEv buildEv buildSliceEv fillSV zsvOf sizeTD Ty.parses parses_flats' coeA flats_length AV.good AV.cells AV.pure SV.pure av_int av_bool av_str av_slice av_cons av_fld0 av_fld1 av_fld2 av_fld3 av_fld4 Ty.of Ty.dflt Ty.parse Ty.flat Ty.zsv Ty.fld Ty.get Ty.off Ty.nfld Ty.size coeTy junk Blk.look argEnv resEv resOk resVs oneRV retOk frzAs frzAV frzL frzSV boxCaps boxCap SV.sig sigs RV.scalar AV.scalar SV.scalar nope effVCD_eq effOf SV.ids AV.ids dedup SV.ren AV.ren RV.ren idx outId mergeB Blk.pureB flats_pure flat_pure epsSlotsD_nil epsSlotsD_cons epsSlotD_eq allEp D.parts_fnOf fvParts retEff round_E av_fn G.ye isCutD_nil isCutD_cons firstReg_region firstReg_seq firstReg_skip firstReg_ret firstReg_label firstReg_exit firstReg_goto firstReg_cond firstReg_block firstReg_scope firstReg_loop firstReg_rf eptrOf_mk flOfD_nil flOfD_cons vcFlD_cons vcFlD_nil flPairs_nil flPairs_cons vcFrD_nil vcFrD_cons makeSliceEv vcCondD_ib fzEv unfl_flats isFz round_fz panVCD_eq panOf isShift strIdxEv ifaceEv nilChkEv sliceAnyEv sliceOwnEv sliceSufEv appendEv0 appendEv1 Ty.beq Ty.isAgg round_Pn vcDefD_seqR vcDefD_seqS vcDefD_seqC vcDefD_seqB vcDefD_seqL vcDefD_seqF vcDefD_seqSc vcDefD_region vcDefD_ret vcDefD_cond vcDefD_block vcDefD_loop thenKD_panic inBlockKD_panic noGotoKD_panic exitOk_normal exitOk_ret exitOk_panic exitOk_exit runDefs_none runDefs_some runDefs_cons defRegD isDefer defOf caughtCon unfl_cons D.bpart_bndOf D.parts_bndOf AV.sig
attribute [local simp ←] flats_append
def conMapRI (Γ:List (FuncId×Con)):ECon:={ wp:=fun args hp K=>match args,hp with
 | [.s (.sl (.slice (.int .i64)) xs _),.s (.fnp f caps)],[]=>xs.length≤1000000∧∃ h,fnTo Γ (.slice tI) tI f caps h (·∈xs)∧K (.v (.s (.own tI 0 xs.length))) [.arr (decide (0<xs.length)) (Ty.flats tI (xs.map h))]
 | _,_=>False }
theorem conMapRI_one (f:FuncId) (caps:List (Sigma Ty.T)) (c:Con) (he:∀ (args:Array Value) (w:World),(callFunc f args).run Tryz.prog w=.ok (.enter f args) w) (hc:PureOk Tryz.prog f c) (h:Ty.T (.slice tI)→Ty.T tI)
  (hv:∀ x,c.val (Ty.av (.slice tI) x::caps.map capAV)=.v (Ty.av tI (h x))) :
  EffOk Tryz.prog 80 { wp:=fun args hp K=>∃ xs ex,args=[.s (.sl (.slice tI) xs ex),.s (.fnp f caps)]∧hp=[]∧xs.length≤1000000∧(∀ x∈xs,c.pre (Ty.av (.slice tI) x::caps.map capAV))∧K (.v (.s (.own tI 0 xs.length))) [.arr (decide (0<xs.length)) (Ty.flats tI (xs.map h))] }:=by
 refine effOkD (L:={ live:=[0,1,4,6,7,8,9,10] }) (g1_good plT_ok he hc) rfl pl_mixed Tryz.func80 rfl _ 2 (by decide) (by kernel_rfl) ?_
 rintro _ _ K ⟨xs,ex,rfl,rfl,hl,hp,hK⟩ _
 refine ⟨rfl,?_⟩
 simp only [av_int,av_slice,av_bool] at hv hp
 simp -dsimp -implicitDefEqProofs [Tryz.f80,g1_td,g1_y,g1_Γ,g1_E,g1_Pn,g1_fz,plT,inI64]
 refine WpD.turn _ (Turn.virt (k:=4) (t:=tI) (xs:=[]) (by simp [look])) ?_
 refine WpD.loop (L:={ live:=[0,1,4,6,7,8,9,10] }) (g1_good plT_ok he hc) X0_ok pl_mixed (by kernel_rfl) (ι:=Nat)
  (fun i=>⟨[(1,⟨true,.v (.s (.fnp f caps))⟩),(4,⟨true,.v (.s (.own tI 0 i))⟩),(7,vS (.slice tI) xs ex),(8,vI xs.length),(9,vI i)],[.arr (decide (0<i)) (Ty.flats tI ((xs.map h).take i))]⟩)
  (fun i=>i≤xs.length) (fun i=>xs.length - i) 0 (by simp) (Turn.le (by simp -dsimp -implicitDefEqProofs)) ?_
 intro i hi
 have hml:min i xs.length=i:=by omega
 simp -dsimp -implicitDefEqProofs [hv,hml,caps_all,caps_all',g1_td,g1_y,g1_Γ,g1_E,g1_Pn,g1_fz,plT,inI64]
 refine ⟨fun hlt=>⟨hlt,hp _ (by rw [getD_lt hlt]; exact List.getElem_mem hlt),⟨by omega,by simp only [maxLen]; omega⟩,⟨by omega,by omega⟩,i+1,by omega,by omega,TurnT.le ?_⟩,fun hge => ?_⟩
 ·
  have:=map_take_succ h xs hlt (Ty.dflt (.slice tI))
  simp only [Ty.dflt] at this
  rw [this]
  simp -dsimp -implicitDefEqProofs
 ·
  obtain rfl:i=xs.length:=by omega
  have h1:=map_take_all h xs (Nat.le_refl _)
  simp -dsimp -implicitDefEqProofs [h1]
  exact hK
theorem conMapRI_known (Γ:List (FuncId×Con)) (hΓ:Known Tryz.prog Γ):EffOk Tryz.prog 80 (conMapRI Γ):=by
 refine EffOk.of fun args hp K hpre => ?_
 simp only [conMapRI] at hpre
 split at hpre
 ·
  rename_i xs ex f caps
  obtain ⟨hl,h,⟨c,h1,h2,h3⟩,hK⟩:=hpre
  exact ⟨_,conMapRI_one f caps c (hΓ f c h1).1 (hΓ f c h1).2 h h2,xs,ex,rfl,rfl,hl,h3,hK⟩
 ·
  exact hpre.elim
def conOwn1:Con:=⟨fun args=>(match args with
 | [.s (.sl (.int .i64) row _),.s (.eptr (.int .i64) e)]=>0≤e∧e<row.length
 | _=>False),fun args=>match args with
 | [.s (.sl (.int .i64) row _),.s (.eptr (.int .i64) e)]=>.v (aI (row[e.toNat]?.getD 0))
 | _=>.v (.s .any)⟩
theorem conOwn1_eq (row:List (Ty.T tI)) (exrow:Bool) (e:Ty.T tI):conOwn1.pre [.s (.sl tI row exrow),.s (.eptr tI e)]=(0≤e∧e<row.length)∧conOwn1.val [.s (.sl tI row exrow),.s (.eptr tI e)]=.v (aI (row[e.toNat]?.getD 0)):=⟨rfl,rfl⟩
theorem own1_ok:PureOk Tryz.prog 81 conOwn1:=by
 refine pureOkD (L:={ live:=[0,1,3] }) pl0_good rfl pl_mixed Tryz.func81 rfl conOwn1 2 (by decide) (by kernel_rfl) ?_
 intro args hpre hlens
 simp only [conOwn1] at hpre
 split at hpre
 case h_2=>exact hpre.elim
 rename_i row ex e
 simp only [allLen,AV.lenOk,SV.lenOk,Ty.lenOk,maxLen,and_true,implies_true,true_and,List.forall_mem_cons,List.not_mem_nil,false_implies] at hlens
 refine ⟨rfl,?_⟩
 simp -dsimp -implicitDefEqProofs [Tryz.f81,conOwn1_eq,pl0_all,plT,pl0Γ,pl0E,pl0P,inI64]
 exact hpre
def gRI:List (FuncId×Con):=[(81,conOwn1)]
theorem gRI_known:Known Tryz.prog gRI:=.cons (enters_of Tryz.func81 (by kernel_rfl) rfl) own1_ok .nil
theorem fn_own1 (e:Int):fnTo gRI tRow tI 81 [⟨tI,e⟩] (fun row:List Int=>row[e.toNat]?.getD 0) (fun row:List Int=>0≤e∧e<row.length):=⟨conOwn1,rfl,fun _=>rfl,fun _ h=>h⟩
def pl10Γ:List (FuncId×Con):=pl9Γ
theorem pl10Γ_ok:∀ p∈pl10Γ,(∀ (args:Array Value) (w:World),(callFunc p.1 args).run Tryz.prog w=.ok (.enter p.1 args) w)∧PureOk Tryz.prog p.1 p.2:=by
 simp only [pl10Γ]
 exact pl9Γ_ok
def pl10E:List (FuncId×ECon):=(80,(conMapRI gRI))::pl9E
theorem pl10E_ok:∀ p∈pl10E,(∀ (args:Array Value) (w:World),(callFunc p.1 args).run Tryz.prog w=.ok (.enter p.1 args) w)∧EffOk Tryz.prog p.1 p.2:=by
 simp only [pl10E,List.forall_mem_cons]
 exact ⟨⟨enters_of Tryz.func80 (by kernel_rfl) rfl,(conMapRI_known gRI gRI_known)⟩,pl9E_ok⟩
def pl10P:List (FuncId×PCon):=pl9P
theorem pl10P_ok:∀ p∈pl10P,(∀ (args:Array Value) (w:World),(callFunc p.1 args).run Tryz.prog w=.ok (.enter p.1 args) w)∧PanOk Tryz.prog p.1 p.2:=by
 simp only [pl10P]
 exact pl9P_ok
def pl10:G:={ τ:=plT,Γ:=pl10Γ,E:=pl10E,Pn:=pl10P }
theorem pl10_all:(∀ t,pl10.td t=(look plT t).getD .other)∧pl10.y=false∧pl10.Γ=pl10Γ∧pl10.E=pl10E∧pl10.Pn=pl10P∧pl10.fz=[]:=⟨fun _=>rfl,rfl,rfl,rfl,rfl,rfl⟩
def pl10y:G:={ τ:=plT,Γ:=pl10Γ,E:=pl10E,Pn:=pl10P,y:=true }
theorem pl10y_good:pl10y.good Tryz.prog:=good_of_all (plT_ok _ rfl) pl10Γ_ok pl10E_ok pl10P_ok
theorem pl10y_all:(∀ t,pl10y.td t=(look plT t).getD .other)∧pl10y.y=true∧pl10y.Γ=pl10Γ∧pl10y.E=pl10E∧pl10y.Pn=pl10P∧pl10y.fz=[]:=⟨fun _=>rfl,rfl,rfl,rfl,rfl,rfl⟩
theorem pl10y_q:pl10y.quiet=pl10:=rfl
abbrev Sd:=Int×Int×Unit
def sgn (c:Int):Int:=if (if -1<c then c else -1)<1 then (if -1<c then c else -1) else 1
def dec:List Sd→List Sd→Int
 | x::a,y::b=>if x.1≠y.1 then sgn (y.1 - x.1) else if x.2.1≠y.2.1 then sgn (x.2.1 - y.2.1) else dec a b
 | _,_=>0
def small (a:List Sd):Prop:=∀ x∈a,(-1000000000000≤x.1∧x.1≤1000000000000)∧(-1000000000000≤x.2.1∧x.2.1≤1000000000000)
theorem drop_get {α:Type} (xs:List α) {i:Nat} (hi:i<xs.length) (d:α):xs.drop i=xs[i]?.getD d::xs.drop (i+1):=by
 rw [getD_lt hi]; exact List.drop_eq_getElem_cons hi
theorem dec_1 {a b:List Sd} {i:Nat} (ha:i<a.length) (hb:i<b.length) (h:¬ (a[i]?.getD (0,0,())).1=(b[i]?.getD (0,0,())).1):dec (a.drop i) (b.drop i)=sgn ((b[i]?.getD (0,0,())).1 - (a[i]?.getD (0,0,())).1):=by
 rw [drop_get a ha (0,0,()),drop_get b hb (0,0,()),dec,if_pos h]
theorem dec_2 {a b:List Sd} {i:Nat} (ha:i<a.length) (hb:i<b.length) (h:(a[i]?.getD (0,0,())).1=(b[i]?.getD (0,0,())).1) (h':¬ (a[i]?.getD (0,0,())).2.1=(b[i]?.getD (0,0,())).2.1):dec (a.drop i) (b.drop i)=sgn ((a[i]?.getD (0,0,())).2.1 - (b[i]?.getD (0,0,())).2.1):=by
 rw [drop_get a ha (0,0,()),drop_get b hb (0,0,()),dec,if_neg (by rw [h]; simp),if_pos h']
theorem dec_3 {a b:List Sd} {i:Nat} (ha:i<a.length) (hb:i<b.length) (h:(a[i]?.getD (0,0,())).1=(b[i]?.getD (0,0,())).1) (h':(a[i]?.getD (0,0,())).2.1=(b[i]?.getD (0,0,())).2.1):dec (a.drop i) (b.drop i)=dec (a.drop (i+1)) (b.drop (i+1)):=by
 rw [drop_get a ha (0,0,()),drop_get b hb (0,0,()),dec,if_neg (by rw [h]; simp),if_neg (by rw [h']; simp)]
theorem bd {x y:Int} (hx : -1000000000000≤x∧x≤1000000000000) (hy : -1000000000000≤y∧y≤1000000000000) : -9223372036854775808≤x - y∧x - y≤9223372036854775807:=by omega
theorem small_get {a:List Sd} (h:small a) {i:Nat} (hi:i<a.length):(-1000000000000≤(a[i]?.getD (0,0,())).1∧(a[i]?.getD (0,0,())).1≤1000000000000)∧(-1000000000000≤(a[i]?.getD (0,0,())).2.1∧(a[i]?.getD (0,0,())).2.1≤1000000000000):=by
 rw [getD_lt hi]; exact h _ (List.getElem_mem hi)
def conDecide:Con:=⟨fun args=>(match args with
 | [.s (.sl (.cons (.int .i64) (.cons (.int .i64) .nil)) a _),.s (.sl (.cons (.int .i64) (.cons (.int .i64) .nil)) b _)]=>a.length≤b.length∧a.length≤1000000∧small a∧small b
 | _=>False),fun args=>match args with
 | [.s (.sl (.cons (.int .i64) (.cons (.int .i64) .nil)) a _),.s (.sl (.cons (.int .i64) (.cons (.int .i64) .nil)) b _)]=>.v (aI (dec a b))
 | _=>.v (.s .any)⟩
theorem conDecide_eq (a:List (Ty.T (.cons tI (.cons tI .nil)))) (exa:Bool) (b:List (Ty.T (.cons tI (.cons tI .nil)))) (exb:Bool):conDecide.pre [.s (.sl (.cons tI (.cons tI .nil)) a exa),.s (.sl (.cons tI (.cons tI .nil)) b exb)]=(a.length≤b.length∧a.length≤1000000∧small a∧small b)∧conDecide.val [.s (.sl (.cons tI (.cons tI .nil)) a exa),.s (.sl (.cons tI (.cons tI .nil)) b exb)]=.v (aI (dec a b)):=⟨rfl,rfl⟩
theorem decide_ok:PureOk Tryz.prog 44 conDecide:=by
 refine pureOkD (L:={ live:=[0,1,4,5,6,8,9,10,12,35] }) pl0_good rfl pl_mixed Tryz.func44 rfl conDecide 2 (by decide) (by kernel_rfl) ?_
 intro args hpre hlens
 simp only [conDecide] at hpre
 split at hpre
 case h_2=>exact hpre.elim
 rename_i a ex b ex'
 simp only [allLen,AV.lenOk,SV.lenOk,Ty.lenOk,maxLen,and_true,implies_true,true_and,List.forall_mem_cons,List.not_mem_nil,false_implies] at hlens
 refine ⟨rfl,?_⟩
 simp -dsimp -implicitDefEqProofs [Tryz.f44,conDecide_eq,pl0_all,plT,pl0Γ,pl0E,pl0P,inI64]
 obtain ⟨hl,hl',ha,hb⟩:=hpre
 refine WpD.loop (L:={ live:=[0,1,4,5,6,8,9,10,12,35] }) pl0_good X0_ok pl_mixed (by kernel_rfl)
  (fun i:Nat=>⟨[(0,vS tStand a ex),(1,vS tStand b ex'),(5,vI 0),(8,vI a.length),(9,vI i)],[]⟩)
  (fun i=>i≤a.length∧dec a b=dec (a.drop i) (b.drop i)) (fun i=>a.length - i) 0 (by simp) (Turn.le (by simp -dsimp -implicitDefEqProofs)) ?_
 rintro i ⟨hi,he⟩
 simp -dsimp -implicitDefEqProofs [conDecide_eq,pl0_all,plT,pl0Γ,pl0E,pl0P,inI64]
 refine ⟨fun hlt => ?_,fun hge=>by rw [he,List.drop_of_length_le hge]; rfl⟩
 have hlb:i<b.length:=by omega
 obtain ⟨a1,a2⟩:=small_get ha hlt
 obtain ⟨b1,b2⟩:=small_get hb hlb
 exact ⟨hlt,hlb,fun hne=>⟨hlb,hlt,bd b1 a1,by rw [he,dec_1 hlt hlb hne]; rfl⟩,fun heq=>⟨hlt,hlb,fun hne=>⟨hlt,hlb,bd a2 b2,by rw [he,dec_2 hlt hlb heq hne]; rfl⟩,fun heq2=>⟨⟨by omega,by omega⟩,i+1,⟨by omega,by rw [he,dec_3 hlt hlb heq heq2]⟩,by omega,TurnT.le (by simp -dsimp -implicitDefEqProofs)⟩⟩⟩
def stP (c:List Int) (p:Int):Sd:=if 2*(c.filter fun x=>decide (x≤p)).length≤c.length then (0,0,()) else (((c.filter fun x=>decide (x≤p)).length:Nat),(c.filter fun x=>decide (x≤p)).sum,())
def col (l:List (List Int)) (e:Int):List Int:=l.map fun row=>row[e.toNat]?.getD 0
def standL (l:List (List Int)) (e:Int):List Sd:=(List.range (l[0]?.getD []).length).map fun p:Nat=>stP (col l e) ((p:Int)+1)
def standOk (l:List (List Int)) (e:Int):Prop:=0<l.length∧l.length≤256∧(l[0]?.getD []).length≤4096∧0≤e∧∀ row∈l,e<row.length∧∀ n∈row,1≤n∧n≤10000
def conStands:Con:=⟨fun args=>(match args with
 | [.s (.sl (.slice (.int .i64)) l _),.s (.int .i64 e)]=>True
 | _=>False),fun args=>match args with
 | [.s (.sl (.slice (.int .i64)) l _),.s (.int _ e)]=>.v (.s (.fnp 79 [⟨.slice (.slice tI),l⟩,⟨.int .i64,e⟩]))
 | _=>.v (.s .any)⟩
theorem conStands_eq (l:List (Ty.T (.slice tI))) (exl:Bool) (e:Int):conStands.pre [.s (.sl (.slice tI) l exl),.s (.int .i64 e)]=(True)∧conStands.val [.s (.sl (.slice tI) l exl),.s (.int .i64 e)]=.v (.s (.fnp 79 [⟨.slice (.slice tI),l⟩,⟨.int .i64,e⟩])):=⟨rfl,rfl⟩
theorem stands_ok:PureOk Tryz.prog 46 conStands:=by
 refine pureOkD (L:={ live:=[0,1,2,3,4] }) pl0_good rfl pl_mixed Tryz.func46 rfl conStands 2 (by decide) (by kernel_rfl) ?_
 intro args hpre hlens
 simp only [conStands] at hpre
 split at hpre
 case h_2=>exact hpre.elim
 rename_i l ex e
 simp only [allLen,AV.lenOk,SV.lenOk,Ty.lenOk,maxLen,and_true,implies_true,true_and,List.forall_mem_cons,List.not_mem_nil,false_implies] at hlens
 refine ⟨rfl,?_⟩
 simp -dsimp -implicitDefEqProofs [Tryz.f46,conStands_eq,pl0_all,plT,pl0Γ,pl0E,pl0P,inI64]
def itStands:ItCon:=⟨fun caps=>(match caps with
 | [.s (.eptr (.slice (.slice (.int .i64))) l),.s (.eptr (.int .i64) e)]=>standOk l e
 | _=>False),fun caps=>match caps with
 | [.s (.eptr (.slice (.slice (.int .i64))) l),.s (.eptr (.int .i64) e)]=>(standL l e).map fun x=>[Ty.av tStand x]
 | _=>[]⟩
theorem itStands_xs (l:List (List Int)) (e:Int):itStands.xs [.s (.eptr (.slice (.slice tI)) l),.s (.eptr tI e)]=(standL l e).map fun x=>[Ty.av tStand x]:=rfl
def leN (c:List Int) (p:Int):Nat:=(c.filter fun x=>decide (x≤p)).length
theorem leN_le (c:List Int) (p:Int):leN c p≤c.length:=List.length_filter_le ..
theorem leN_below (c:List Int) (p:Int):leN c p=below (p+1) c:=by
 unfold leN below
 congr 1
 exact List.filter_congr fun x _=>decide_eq_decide.2 (by omega)
theorem leN_mono (c:List Int) {p q:Int} (h:p≤q):leN c p≤leN c q:=filter_le _ _ (fun x hx=>by simp at hx ⊢; omega) _
theorem leN_at {c:List Int} (hs:c.Pairwise (fun a b=>a≤b)) {p:Int} {i:Nat} (hi:i<c.length):c[i]?.getD 0≤p↔i<leN c p:=by
 rw [leN_below,← below_at hs hi]; omega
theorem le_take {c:List Int} (hs:c.Pairwise (fun a b=>a≤b)) (p:Int):(c.filter fun x=>decide (x≤p))=c.take (leN c p):=by
 have h1:c=c.take (leN c p)++c.drop (leN c p):=(List.take_append_drop ..).symm
 have h2:(c.take (leN c p)).filter (fun x=>decide (x≤p))=c.take (leN c p):=by
  rw [List.filter_eq_self]
  intro x hx
  obtain ⟨j,hj,rfl⟩:=List.mem_iff_getElem.1 hx
  rw [List.length_take] at hj
  have:=(leN_at hs (p:=p) (show j<c.length by omega)).2 (by omega)
  rw [getD_lt (by omega)] at this
  simpa using this
 have h3:(c.drop (leN c p)).filter (fun x=>decide (x≤p))=[]:=by
  rw [List.filter_eq_nil_iff]
  intro x hx
  obtain ⟨j,hj,rfl⟩:=List.mem_iff_getElem.1 hx
  rw [List.length_drop] at hj
  have:=mt (leN_at hs (p:=p) (show leN c p+j<c.length by omega)).1 (by omega)
  rw [getD_lt (by omega)] at this
  simpa using this
 conv=>lhs; rw [h1,List.filter_append,h2,h3,List.append_nil]
theorem perm_sum {c d:List Int} (h:c.Perm d):c.sum=d.sum:=by
 induction h with
 | nil=>rfl
 | cons x _ ih=>simp [ih]
 | swap x y l=>simp only [List.sum_cons]; omega
 | trans _ _ h1 h2=>exact h1.trans h2
theorem stP_perm {c d:List Int} (h:c.Perm d) (p:Int):stP c p=stP d p:=by
 unfold stP
 have hf:=h.filter fun x=>decide (x≤p)
 rw [hf.length_eq,h.length_eq,perm_sum hf]
theorem stP_sorted {c:List Int} (hs:c.Pairwise (fun a b=>a≤b)) (p:Int):stP c p=if 2*leN c p≤c.length then (0,0,()) else (((leN c p:Nat):Int),(c.take (leN c p)).sum,()):=by
 unfold stP
 rw [← le_take hs p]
 rfl
theorem sum_le (c:List Int) (h:∀ n∈c,1≤n∧n≤10000):0≤c.sum∧c.sum≤10000*c.length:=by
 induction c with
 | nil=>simp
 | cons x c ih =>
  have h1:=ih fun n hn=>h n (List.mem_cons_of_mem _ hn)
  have h2:=h x (List.mem_cons_self ..)
  simp only [List.sum_cons,List.length_cons]
  omega
theorem flats_at {xs:List Int} {j:Nat} (h:j<xs.length):(tI.flats xs)[j]?=some (.int .i64 (xs[j]?.getD 0)):=by
 rw [flats_int_get,List.getElem?_eq_getElem h]; rfl
theorem flats_out {xs:List Int} {j:Nat} (h:xs.length≤j):(tI.flats xs)[j]?=none:=by
 rw [flats_int_get,List.getElem?_eq_none h]; rfl
theorem standL_get {l:List (List Int)} {e:Int} {p:Nat} (h:p<(l[0]?.getD []).length):(standL l e)[p]?=some (stP (isort (col l e)) ((p:Int)+1)):=by
 unfold standL
 rw [List.getElem?_map,List.getElem?_range h,stP_perm (isort_perm (col l e))]
 rfl
theorem standL_len (l:List (List Int)) (e:Int):(standL l e).length=(l[0]?.getD []).length:=by simp [standL]
theorem stands1_ok:ItOk Tryz.prog 79 itStands:=by
 refine itOkD (L:={ live:=[0,1,2,4,5,6,7,8,19,33,49,54] }) pl10y_good rfl pl_mixed Tryz.func79 (enters_of Tryz.func79 (by kernel_rfl) rfl) rfl rfl itStands 2 (by decide) (by kernel_rfl) ?_
 intro caps y hpre hlens
 simp only [itStands] at hpre
 split at hpre
 ·
  rename_i l e
  obtain ⟨h1,h2,h3,h4,h5⟩:=hpre
  refine ⟨rfl,fun X hX => ?_⟩
  rw [itStands_xs]
  simp -dsimp -implicitDefEqProofs [Tryz.f79,pl10y_q,pl10_all,pl10y_all,plT,pl10Γ,pl10E,pl10P,pl9Γ,pl9E,pl9P,pl8Γ,pl8E,pl8P,pl7Γ,pl7E,pl7P,pl6Γ,pl6E,pl6P,pl5Γ,pl5E,pl5P,pl4Γ,pl4E,pl4P,pl3Γ,pl3E,pl3P,pl2Γ,pl2E,pl2P,pl1Γ,pl1E,pl1P,pl0Γ,pl0E,pl0P,conMapRI,conCheck_eq,conCont_pre,conCont_val,conTable_eq,conEqual_eq,conPlaced_eq,conMapII_pre,conMapII_val,conSorted,conBin_eq,conValues_eq,conColI,conSort,conLess_eq,conNaN_eq,inI64]
  refine ⟨by omega,_,(fn_own1 e).mono (fun row hr=>⟨h4,(h5 row hr).1⟩),col l e,rfl,by simp [col],by simp [col]; omega,.inl h1,?_⟩
  have hsl:(isort (col l e)).length=List.length l:=by rw [isort_length]; simp [col]
  have hss:=isort_sorted (col l e)
  have hsr:∀ n∈isort (col l e),1≤n∧n≤10000:=fun n hn=>by
   rw [(isort_perm _).mem_iff,col,List.mem_map] at hn
   obtain ⟨row,hr,rfl⟩:=hn
   obtain ⟨q1,q2⟩:=h5 row hr
   rw [getD_lt (show e.toNat<row.length by omega)]
   exact q2 _ (List.getElem_mem _)
  have hget:=fun p=>standL_get (l:=l) (e:=e) (p:=p)
  have hslen:=standL_len l e
  generalize hown:isort (col l e)=own at *
  generalize hst:standL l e=sts at *
  refine WpD.loop (L:={ live:=[0,1,2,4,5,6,7,8,19,33,49,54] }) pl10y_good hX pl_mixed (by kernel_rfl)
   (fun p:Nat=>⟨[(0,⟨true,.v (.s (.val (.func (.yield y) #[] #[])))⟩),(1,⟨true,.v (.s (.eptr (.slice tRow) l))⟩),(4,⟨true,.v (.s (.own tI 1 (List.length l)))⟩),(5,vI (leN own p)),(6,vI (own.take (leN own p)).sum),(7,vI (p+1))],
    [.trace y (sts.map fun x=>[.agg [.int .i64 x.1,.int .i64 x.2.1]]) p false,.arr (decide (0<List.length l)) (tI.flats own)]⟩)
   (fun p=>p≤(l[0]?.getD []).length) (fun p=>(l[0]?.getD []).length - p) 0 (by simp) (Turn.le ?_) ?_
  ·
   have h0:leN own 0=0:=by
    unfold leN
    rw [List.length_eq_zero_iff,List.filter_eq_nil_iff]
    intro x hx
    have:=hsr x hx
    simp; omega
   simp -dsimp -implicitDefEqProofs [h0]
  ·
   intro p hp
   simp -dsimp -implicitDefEqProofs [pl10y_q,pl10_all,pl10y_all,plT,pl10Γ,pl10E,pl10P,pl9Γ,pl9E,pl9P,pl8Γ,pl8E,pl8P,pl7Γ,pl7E,pl7P,pl6Γ,pl6E,pl6P,pl5Γ,pl5E,pl5P,pl4Γ,pl4E,pl4P,pl3Γ,pl3E,pl3P,pl2Γ,pl2E,pl2P,pl1Γ,pl1E,pl1P,pl0Γ,pl0E,pl0P,conMapRI,conCheck_eq,conCont_pre,conCont_val,conTable_eq,conEqual_eq,conPlaced_eq,conMapII_pre,conMapII_val,conSorted,conBin_eq,conValues_eq,conColI,conSort,conLess_eq,conNaN_eq,inI64]
   refine ⟨h1,fun hlt => ?_,fun hge=>by omega⟩
   have hm1:=leN_mono own (p:=(p:Int)) (q:=(p:Int)+1) (by omega)
   have hm2:=leN_le own ((p:Int)+1)
   refine WpD.loop (L:={ live:=[0,1,2,4,5,6,7,8,19,33,49,54] }) pl10y_good hX pl_mixed (by kernel_rfl)
    (fun j:Nat=>⟨[(0,⟨true,.v (.s (.val (.func (.yield y) #[] #[])))⟩),(1,⟨true,.v (.s (.eptr (.slice tRow) l))⟩),(4,⟨true,.v (.s (.own tI 1 (List.length l)))⟩),(5,vI j),(6,vI (own.take j).sum),(7,vI (p+1))],
     [.trace y (sts.map fun x=>[.agg [.int .i64 x.1,.int .i64 x.2.1]]) p false,.arr (decide (0<List.length l)) (tI.flats own)]⟩)
    (fun j=>j≤leN own (p+1)) (fun j=>leN own (p+1) - j) (leN own p) hm1 (Turn.le (by simp -dsimp -implicitDefEqProofs)) ?_
   intro j hj
   have hsum:=sum_le (own.take j) (fun n hn=>hsr n (List.mem_of_mem_take hn))
   have htl:(own.take j).length≤256:=by rw [List.length_take]; omega
   have hg:=hget p (by omega)
   rw [stP_sorted hss] at hg
   rcases Nat.lt_or_ge j own.length with hjl | hjl
   ·
    have hf:=flats_at hjl
    have hat:=leN_at hss (p:=(p:Int)+1) hjl
    simp -dsimp -implicitDefEqProofs [hsl,hf,pl10y_q,pl10_all,pl10y_all,plT,pl10Γ,pl10E,pl10P,pl9Γ,pl9E,pl9P,pl8Γ,pl8E,pl8P,pl7Γ,pl7E,pl7P,pl6Γ,pl6E,pl6P,pl5Γ,pl5E,pl5P,pl4Γ,pl4E,pl4P,pl3Γ,pl3E,pl3P,pl2Γ,pl2E,pl2P,pl1Γ,pl1E,pl1P,pl0Γ,pl0E,pl0P,conMapRI,conCheck_eq,conCont_pre,conCont_val,conTable_eq,conEqual_eq,conPlaced_eq,conMapII_pre,conMapII_val,conSorted,conBin_eq,conValues_eq,conColI,conSort,conLess_eq,conNaN_eq,inI64]
    rw [hsl] at hjl
    refine ⟨fun _=>⟨hjl,h1,hjl⟩,fun _ hle => ?_,fun hgt => ?_⟩
    ·
     have:=hat.1 hle
     have hnj:=hsr (own[j]'(by omega)) (List.getElem_mem _)
     have hsu:(own.take (j+1)).sum=(own.take j).sum+own[j]?.getD 0:=by rw [take_succ_get own (by omega) 0,List.sum_append]; simp
     rw [getD_lt (show j<own.length by omega)] at hsu ⊢
     refine ⟨⟨h1,hjl⟩,hjl,⟨by omega,by omega⟩,⟨by omega,by omega⟩,j+1,by omega,by omega,TurnT.le (by simp -dsimp -implicitDefEqProofs [hsu])⟩
    ·
     have hje:j=leN own ((p:Int)+1):=by
      have:=mt hat.2 (by have:=hgt hjl; omega)
      omega
     subst hje
     refine ⟨⟨by omega,by omega⟩,fun hle=>⟨⟨(),by rw [hg,if_pos (by omega)]⟩,⟨by omega,by omega⟩,p+1,by omega,by omega,TurnT.trunc hX (hp:=[_,_]) (junk:=[_]) (by simp) (by simp only [List.length_cons,List.length_nil,List.all_cons,List.all_nil,arr_below,Bool.and_true] <;> simp [Blk.below,SV.below]) (by simp -dsimp -implicitDefEqProofs) (by simp [envBelow,RV.below,AV.below,SV.below])⟩,fun hgt=>⟨⟨(),by rw [hg,if_neg (by omega)]⟩,⟨by omega,by omega⟩,p+1,by omega,by omega,TurnT.trunc hX (hp:=[_,_]) (junk:=[_]) (by simp) (by simp only [List.length_cons,List.length_nil,List.all_cons,List.all_nil,arr_below,Bool.and_true] <;> simp [Blk.below,SV.below]) (by simp -dsimp -implicitDefEqProofs) (by simp [envBelow,RV.below,AV.below,SV.below])⟩⟩
   ·
    have hf:=flats_out hjl
    simp -dsimp -implicitDefEqProofs [hsl,hf,pl10y_q,pl10_all,pl10y_all,plT,pl10Γ,pl10E,pl10P,pl9Γ,pl9E,pl9P,pl8Γ,pl8E,pl8P,pl7Γ,pl7E,pl7P,pl6Γ,pl6E,pl6P,pl5Γ,pl5E,pl5P,pl4Γ,pl4E,pl4P,pl3Γ,pl3E,pl3P,pl2Γ,pl2E,pl2P,pl1Γ,pl1E,pl1P,pl0Γ,pl0E,pl0P,conMapRI,conCheck_eq,conCont_pre,conCont_val,conTable_eq,conEqual_eq,conPlaced_eq,conMapII_pre,conMapII_val,conSorted,conBin_eq,conValues_eq,conColI,conSort,conLess_eq,conNaN_eq,inI64]
    have hje:j=leN own ((p:Int)+1):=by omega
    have hll:List.length l≤j:=by omega
    clear hjl
    subst hje
    refine ⟨fun hq=>by omega,hll,⟨by omega,by omega⟩,fun hle=>⟨⟨(),by rw [hg,if_pos (by omega)]⟩,⟨by omega,by omega⟩,p+1,by omega,by omega,TurnT.trunc hX (hp:=[_,_]) (junk:=[_]) (by simp) (by simp only [List.length_cons,List.length_nil,List.all_cons,List.all_nil,arr_below,Bool.and_true] <;> simp [Blk.below,SV.below]) (by simp -dsimp -implicitDefEqProofs) (by simp [envBelow,RV.below,AV.below,SV.below])⟩,fun hgt=>⟨⟨(),by rw [hg,if_neg (by omega)]⟩,⟨by omega,by omega⟩,p+1,by omega,by omega,TurnT.trunc hX (hp:=[_,_]) (junk:=[_]) (by simp) (by simp only [List.length_cons,List.length_nil,List.all_cons,List.all_nil,arr_below,Bool.and_true] <;> simp [Blk.below,SV.below]) (by simp -dsimp -implicitDefEqProofs) (by simp [envBelow,RV.below,AV.below,SV.below])⟩⟩
 ·
  exact hpre.elim
end Go.Am.Pl
namespace Go.Am.Pl
set_option maxHeartbeats 4000000
set_option maxRecDepth 20000
open Go.RowKit Go.Proofs
attribute [local simp] thenKD_normal thenKD_exit thenKD_goto thenKD_ret inBlockKD_normal inBlockKD_exit inBlockKD_goto inBlockKD_ret noGotoKD_normal noGotoKD_exit noGotoKD_goto noGotoKD_ret roundKD_normal roundKD_exit roundKD_goto roundKD_ret frzSlotsD_nil frzSlotsD_cons frzSlotD_eq yieldVCD_trace opVCD_eq vcOpsD_nil vcOpsD_cons vcAllD_zero vcAllD_succ allAtD_nil allAtD_cons readyAux edgA vcD_skip vcD_label vcD_exit vcD_goto vcD_ret vcD_region vcD_seq vcD_seqC vcD_cond vcCondD_bool vcD_block vcD_scope vcD_loop vcD_rangeFunc yieldOf isMem isMem0 keepE envLe St.le psE yieldAV round_td round_y round_Γ vI vB vS aI aB aS look getE oper opRV putE allOk okOps Op.operands Call.operands pEv qEv mEv constRV coe RV.av loadEv loadCs takeAt indexAddrEv fieldAddrEv binEv intEv arith unEv gcond pickEv argsEv callVal callEv capAV_mk lenArgs lenEv minEv extractEv convEv funcEv allBox bound sliceEv lookupEv TD.isBool allocEv boxEv storeEv spl plainTD appendEv appendArgs makeMapEv mapUpdateEv buildEv buildSliceEv fillSV zsvOf sizeTD Ty.parses parses_flats' coeA flats_length AV.good AV.cells AV.pure SV.pure av_int av_bool av_str av_slice av_cons av_fld0 av_fld1 av_fld2 av_fld3 av_fld4 Ty.of Ty.dflt Ty.parse Ty.flat Ty.zsv Ty.fld Ty.get Ty.off Ty.nfld Ty.size coeTy junk Blk.look argEnv resEv resOk resVs oneRV retOk frzAs frzAV frzL frzSV boxCaps boxCap SV.sig sigs RV.scalar AV.scalar SV.scalar nope effVCD_eq effOf SV.ids AV.ids dedup SV.ren AV.ren RV.ren idx outId mergeB Blk.pureB flats_pure flat_pure epsSlotsD_nil epsSlotsD_cons epsSlotD_eq allEp D.parts_fnOf fvParts retEff round_E av_fn G.ye isCutD_nil isCutD_cons firstReg_region firstReg_seq firstReg_skip firstReg_ret firstReg_label firstReg_exit firstReg_goto firstReg_cond firstReg_block firstReg_scope firstReg_loop firstReg_rf eptrOf_mk flOfD_nil flOfD_cons vcFlD_cons vcFlD_nil flPairs_nil flPairs_cons vcFrD_nil vcFrD_cons makeSliceEv vcCondD_ib fzEv unfl_flats isFz round_fz panVCD_eq panOf isShift strIdxEv ifaceEv nilChkEv sliceAnyEv sliceOwnEv sliceSufEv appendEv0 appendEv1 Ty.beq Ty.isAgg round_Pn vcDefD_seqR vcDefD_seqS vcDefD_seqC vcDefD_seqB vcDefD_seqL vcDefD_seqF vcDefD_seqSc vcDefD_region vcDefD_ret vcDefD_cond vcDefD_block vcDefD_loop thenKD_panic inBlockKD_panic noGotoKD_panic exitOk_normal exitOk_ret exitOk_panic exitOk_exit runDefs_none runDefs_some runDefs_cons defRegD isDefer defOf caughtCon unfl_cons D.bpart_bndOf D.parts_bndOf AV.sig
attribute [local simp ←] flats_append
def itS:List (FuncId×ItCon):=[(79,itStands)]
theorem itS_known:KnownIt Tryz.prog itS:=.cons stands1_ok .nil
theorem seq_stands (l:List (List Int)) (e:Int) (h:standOk l e):seqOf itS 79 [⟨.slice tRow,l⟩,⟨tI,e⟩] tStand (standL l e):=⟨itStands,rfl,h,rfl⟩
def pl11Γ:List (FuncId×Con):=(44,conDecide)::(46,conStands)::pl10Γ
theorem pl11Γ_ok:∀ p∈pl11Γ,(∀ (args:Array Value) (w:World),(callFunc p.1 args).run Tryz.prog w=.ok (.enter p.1 args) w)∧PureOk Tryz.prog p.1 p.2:=by
 simp only [pl11Γ,List.forall_mem_cons]
 exact ⟨⟨enters_of Tryz.func44 (by kernel_rfl) rfl,decide_ok⟩,⟨enters_of Tryz.func46 (by kernel_rfl) rfl,stands_ok⟩,pl10Γ_ok⟩
def pl11E:List (FuncId×ECon):=(45,(conColS itS))::pl10E
theorem pl11E_ok:∀ p∈pl11E,(∀ (args:Array Value) (w:World),(callFunc p.1 args).run Tryz.prog w=.ok (.enter p.1 args) w)∧EffOk Tryz.prog p.1 p.2:=by
 simp only [pl11E,List.forall_mem_cons]
 exact ⟨⟨enters_of Tryz.func45 (by kernel_rfl) rfl,(conColS_known itS itS_known)⟩,pl10E_ok⟩
def pl11P:List (FuncId×PCon):=pl10P
theorem pl11P_ok:∀ p∈pl11P,(∀ (args:Array Value) (w:World),(callFunc p.1 args).run Tryz.prog w=.ok (.enter p.1 args) w)∧PanOk Tryz.prog p.1 p.2:=by
 simp only [pl11P]
 exact pl10P_ok
def pl11:G:={ τ:=plT,Γ:=pl11Γ,E:=pl11E,Pn:=pl11P }
theorem pl11_good:pl11.good Tryz.prog:=good_of_all (plT_ok _ rfl) pl11Γ_ok pl11E_ok pl11P_ok
theorem pl11_all:(∀ t,pl11.td t=(look plT t).getD .other)∧pl11.y=false∧pl11.Γ=pl11Γ∧pl11.E=pl11E∧pl11.Pn=pl11P∧pl11.fz=[]:=⟨fun _=>rfl,rfl,rfl,rfl,rfl,rfl⟩
theorem ord_range {row:List Int} (h:row=ordRow row) {n:Int} (hn:n∈row):1≤n∧n≤row.length:=by
 have hm:n∈ordRow row:=h▸hn
 unfold ordRow at hm
 obtain ⟨x,hx,rfl⟩:=List.mem_map.1 hm
 have h1:below x row<row.length:=by
  unfold below
  rw [← List.countP_eq_length_filter]
  have h2:row.countP (fun y=>decide (y<x))≠row.length:=fun he=>by
   have:=List.countP_eq_length.1 he x hx
   simp at this
  have:=List.countP_le_length (p:=fun y=>decide (y<x)) (l:=row)
  omega
 omega
theorem standOk_of {l:List (List Int)} (h:checkErr l=0) (h0:0<l.length) {e:Int} (h1:0≤e) (h2:e<(l[0]?.getD []).length):standOk l e:=by
 obtain ⟨t,ho⟩:=checkErr_ok h
 obtain ⟨t1,t2,t3⟩:=tableErr_ok t
 have hm:l[0]?.getD []∈l:=by rw [getD_lt h0]; exact List.getElem_mem h0
 refine ⟨h0,t1,t2 _ hm,h1,fun row hr=>⟨by rw [t3 row hr]; exact h2,fun n hn => ?_⟩⟩
 have:=ord_range (ho row hr) hn
 have:=t2 row hr
 omega
theorem standL_small {l:List (List Int)} {e:Int} (h:standOk l e):small (standL l e):=by
 obtain ⟨h1,h2,h3,h4,h5⟩:=h
 intro x hx
 unfold standL at hx
 obtain ⟨p,_,rfl⟩:=List.mem_map.1 hx
 have hc:∀ n∈col l e,1≤n∧n≤10000:=fun n hn=>by
  rw [col,List.mem_map] at hn
  obtain ⟨row,hr,rfl⟩:=hn
  obtain ⟨q1,q2⟩:=h5 row hr
  rw [getD_lt (show e.toNat<row.length by omega)]
  exact q2 _ (List.getElem_mem _)
 have hl:(col l e).length=l.length:=by simp [col]
 have hf:=List.length_filter_le (fun x=>decide (x≤(p:Int)+1)) (col l e)
 have hs:=sum_le ((col l e).filter fun x=>decide (x≤(p:Int)+1)) (fun n hn=>hc n (List.mem_filter.1 hn).1)
 unfold stP
 split
 ·
  exact ⟨⟨by decide,by decide⟩,⟨by decide,by decide⟩⟩
 ·
  have q1 : -1000000000000≤((((col l e).filter fun x=>decide (x≤(p:Int)+1)).length:Nat):Int)∧((((col l e).filter fun x=>decide (x≤(p:Int)+1)).length:Nat):Int)≤1000000000000:=by omega
  have q2 : -1000000000000≤((col l e).filter fun x=>decide (x≤(p:Int)+1)).sum∧((col l e).filter fun x=>decide (x≤(p:Int)+1)).sum≤1000000000000:=by omega
  exact ⟨q1,q2⟩
def cmpErr (l:List (List Int)) (a b:Int):Int:=if checkErr l≠0 then checkErr l else if (l=[]∨(if b<a then b else a)<0)∨((l[0]?.getD []).length:Int)≤(if a<b then b else a) then 1 else 0
def cmpV (l:List (List Int)) (a b:Int):Int:=if cmpErr l a b=0 then dec (standL l a) (standL l b) else 0
theorem cmpErr_1 {l:List (List Int)} {a b:Int} (h:¬ checkErr l=0):cmpErr l a b=checkErr l:=if_pos h
theorem cmpErr_2 {l:List (List Int)} {a b:Int} (h:checkErr l=0) (h':(l=[]∨(if b<a then b else a)<0)∨((l[0]?.getD []).length:Int)≤(if a<b then b else a)):cmpErr l a b=1:=by
 rw [cmpErr,if_neg (by simp [h]),if_pos h']
theorem cmpErr_3 {l:List (List Int)} {a b:Int} (h:checkErr l=0) (h':¬ ((l=[]∨(if b<a then b else a)<0)∨((l[0]?.getD []).length:Int)≤(if a<b then b else a))):cmpErr l a b=0:=by
 rw [cmpErr,if_neg (by simp [h]),if_neg h']
theorem cmpErr_ok {l:List (List Int)} {a b:Int} (h:cmpErr l a b=0):checkErr l=0∧0<l.length∧(0≤a∧a<(l[0]?.getD []).length)∧(0≤b∧b<(l[0]?.getD []).length):=by
 by_cases h1:checkErr l=0
 ·
  by_cases h2:(l=[]∨(if b<a then b else a)<0)∨((l[0]?.getD []).length:Int)≤(if a<b then b else a)
  ·
   rw [cmpErr_2 h1 h2] at h; cases h
  ·
   simp only [not_or] at h2
   obtain ⟨⟨h2,h3⟩,h4⟩:=h2
   refine ⟨h1,List.length_pos_iff.2 h2,?_,?_⟩
   ·
    constructor <;> split at h3 <;> split at h4 <;> omega
   ·
    constructor <;> split at h3 <;> split at h4 <;> omega
 ·
  rw [cmpErr_1 h1] at h; exact absurd h h1
def conCompare:Con:=⟨fun args=>(match args with
 | [.s (.sl (.slice (.int .i64)) l _),.s (.int .i64 a),.s (.int .i64 b)]=>True
 | _=>False),fun args=>match args with
 | [.s (.sl (.slice (.int .i64)) l _),.s (.int _ a),.s (.int _ b)]=>.tup [aI (cmpV l a b),aI (cmpErr l a b)]
 | _=>.v (.s .any)⟩
theorem conCompare_eq (l:List (Ty.T (.slice tI))) (exl:Bool) (a:Int) (b:Int):conCompare.pre [.s (.sl (.slice tI) l exl),.s (.int .i64 a),.s (.int .i64 b)]=(True)∧conCompare.val [.s (.sl (.slice tI) l exl),.s (.int .i64 a),.s (.int .i64 b)]=.tup [aI (cmpV l a b),aI (cmpErr l a b)]:=⟨rfl,rfl⟩
theorem compare_ok:PureOk Tryz.prog 25 conCompare:=by
 refine pureOkD (L:={ live:=[0,1,2,6,7,8,12,32],fin:=[(6,[(4,[36]),(8,[40])])] }) pl11_good rfl pl_mixed Tryz.func25 rfl conCompare 3 (by decide) (by kernel_rfl) ?_
 intro args hpre hlens
 simp only [conCompare] at hpre
 split at hpre
 case h_2=>exact hpre.elim
 rename_i l ex a b
 simp only [allLen,AV.lenOk,SV.lenOk,Ty.lenOk,maxLen,and_true,implies_true,true_and,List.forall_mem_cons,List.not_mem_nil,false_implies] at hlens
 refine ⟨rfl,?_⟩
 simp -dsimp -implicitDefEqProofs [Tryz.f25,conCompare_eq,pl11_all,plT,pl11Γ,pl11E,pl11P,pl10Γ,pl10E,pl10P,pl9Γ,pl9E,pl9P,pl8Γ,pl8E,pl8P,pl7Γ,pl7E,pl7P,pl6Γ,pl6E,pl6P,pl5Γ,pl5E,pl5P,pl4Γ,pl4E,pl4P,pl3Γ,pl3E,pl3P,pl2Γ,pl2E,pl2P,pl1Γ,pl1E,pl1P,pl0Γ,pl0E,pl0P,conDecide_eq,conStands_eq,conColS,conMapRI,conCheck_eq,conCont_pre,conCont_val,conTable_eq,conEqual_eq,conPlaced_eq,conMapII_pre,conMapII_val,conSorted,conBin_eq,conValues_eq,conColI,conSort,conLess_eq,conNaN_eq,inI64]
 refine ⟨fun h => ?_,fun h=>⟨fun h1 h2=>⟨⟨h1,h2⟩,List.length_pos_iff.2 h1⟩,fun h1 => ?_,fun h1 h2 h3 => ?_⟩⟩
 ·
  have:=cmpErr_1 (a:=a) (b:=b) h
  exact ⟨by rw [cmpV,if_neg (by rw [this]; exact h)],this.symm⟩
 ·
  have:=cmpErr_2 h h1
  exact ⟨by rw [cmpV,if_neg (by rw [this]; decide)],this.symm⟩
 ·
  have he:cmpErr l a b=0:=cmpErr_3 h (by rintro ((q | q) | q); exact h1 q; omega; omega)
  obtain ⟨_,k0,⟨k1,k2⟩,⟨k3,k4⟩⟩:=cmpErr_ok he
  have oa:=standOk_of h k0 k1 k2
  have ob:=standOk_of h k0 k3 k4
  have la:=standL_len l a
  have lb:=standL_len l b
  have hb:=oa.2.2.1
  exact ⟨standL l a,seq_stands l a oa,by omega,_,rfl,rfl,standL l b,seq_stands l b ob,by omega,_,rfl,rfl,⟨by omega,by omega,standL_small oa,standL_small ob⟩,by rw [cmpV,if_pos he],he.symm⟩
def conClone:ECon:={ wp:=fun args hp K=>match args,hp with
 | [.s (.sl (.slice (.cons (.int .i64) (.cons (.int .i64) .nil))) xs _)],[]=>xs.length≤1000000∧(xs=[]→K (.v (.s (.sl (.slice tStand) [] true))) [])∧K (.v (.s (.own (.slice tStand) 0 xs.length))) [.arr (decide (0<xs.length)) ((Ty.slice tStand).flats xs)]
 | _,_=>False }
theorem clone_ok:EffOk Tryz.prog 59 conClone:=by
 refine effOkD (L:={ live:=[0,2,4] }) pl0_good rfl pl_mixed Tryz.func59 rfl conClone 1 (by decide) (by kernel_rfl) ?_
 intro args hp K hpre hlens
 simp only [conClone] at hpre
 split at hpre
 case h_2=>exact hpre.elim
 rename_i xs ex
 skip
 refine ⟨rfl,?_⟩
 simp -dsimp -implicitDefEqProofs [Tryz.f59,pl0_all,plT,pl0Γ,pl0E,pl0P,inI64]
 obtain ⟨hl,h1,h2⟩:=hpre
 refine ⟨h1,⟨by omega,by simp only [maxLen]; omega⟩,?_⟩
 cases xs with
 | nil=>exact h2
 | cons x xs=>simpa using h2
def cntP {α:Type} (p:α→Bool) (xs:List α):Nat:=(xs.filter p).length
theorem cntP_le {α:Type} (p:α→Bool) (xs:List α):cntP p xs≤xs.length:=List.length_filter_le ..
theorem cntP_at {α:Type} {p:α→Bool} {xs:List α} (hs:xs.Pairwise (fun a b=>p b=true→p a=true)) {i:Nat} (hi:i<xs.length) (d:α):p (xs[i]?.getD d)=true↔i<cntP p xs:=by
 rw [getD_lt hi]
 have hm:∀ j k,(hjk:j≤k)→(hk:k<xs.length)→p xs[k]=true→p (xs[j]'(by omega))=true:=fun j k hjk hk=>by
  rcases Nat.lt_or_eq_of_le hjk with h | rfl
  ·
   exact List.pairwise_iff_getElem.1 hs j k (by omega) hk h
  ·
   exact id
 have hsp:∀ n,cntP p xs=cntP p (xs.take n)+cntP p (xs.drop n):=fun n=>by
  unfold cntP; rw [← List.length_append,← List.filter_append,List.take_append_drop]
 constructor
 ·
  intro h
  have h1:cntP p (xs.take (i+1))=i+1:=by
   unfold cntP
   rw [List.filter_eq_self.2,List.length_take]
   ·
    omega
   ·
    intro x hx
    obtain ⟨j,hj,rfl⟩:=List.mem_iff_getElem.1 hx
    rw [List.length_take] at hj
    rw [List.getElem_take]
    exact hm j i (by omega) hi h
  have:=hsp (i+1)
  omega
 ·
  intro h
  apply Classical.byContradiction
  intro hne
  have h1:cntP p (xs.drop i)=0:=by
   unfold cntP
   rw [List.length_eq_zero_iff,List.filter_eq_nil_iff]
   intro x hx hp
   obtain ⟨j,hj,rfl⟩:=List.mem_iff_getElem.1 hx
   rw [List.length_drop] at hj
   rw [List.getElem_drop] at hp
   exact hne (hm i (i+j) (by omega) (by omega) hp)
  have h3:=cntP_le p (xs.take i)
  rw [List.length_take] at h3
  have:=hsp i
  omega
def decN (xs:List (List Sd)) (t:List Sd):Nat:=(xs.filter fun x=>decide (dec x t<0)).length
def conBinF:Con:=⟨fun args=>(match args with
 | [.s (.sl (.slice (.cons (.int .i64) (.cons (.int .i64) .nil))) xs _),.s (.sl (.cons (.int .i64) (.cons (.int .i64) .nil)) t _),.s (.fnp f caps)]=>f=44∧caps=[]∧xs.length≤1000000∧xs.Pairwise (fun x y=>dec y t<0→dec x t<0)∧t.length≤1000000∧small t∧∀ x∈xs,x.length=t.length∧small x
 | _=>False),fun args=>match args with
 | [.s (.sl (.slice (.cons (.int .i64) (.cons (.int .i64) .nil))) xs _),.s (.sl (.cons (.int .i64) (.cons (.int .i64) .nil)) t _),.s (.fnp f caps)]=>.tup [aI (decN xs t),aB (decide (decN xs t<xs.length)&&decide (dec (xs[decN xs t]?.getD []) t=0))]
 | _=>.v (.s .any)⟩
theorem conBinF_eq (xs:List (Ty.T (.slice (.cons tI (.cons tI .nil))))) (exxs:Bool) (t:List (Ty.T (.cons tI (.cons tI .nil)))) (ext:Bool) (f:FuncId) (caps:List (Sigma Ty.T)):conBinF.pre [.s (.sl (.slice (.cons tI (.cons tI .nil))) xs exxs),.s (.sl (.cons tI (.cons tI .nil)) t ext),.s (.fnp f caps)]=(f=44∧caps=[]∧xs.length≤1000000∧xs.Pairwise (fun x y=>dec y t<0→dec x t<0)∧t.length≤1000000∧small t∧∀ x∈xs,x.length=t.length∧small x)∧conBinF.val [.s (.sl (.slice (.cons tI (.cons tI .nil))) xs exxs),.s (.sl (.cons tI (.cons tI .nil)) t ext),.s (.fnp f caps)]=.tup [aI (decN xs t),aB (decide (decN xs t<xs.length)&&decide (dec (xs[decN xs t]?.getD []) t=0))]:=⟨rfl,rfl⟩
theorem binF_ok:PureOk Tryz.prog 63 conBinF:=by
 refine pureOkD (L:={ live:=[0,1,2,6,7,8,9,10,11,17,31] }) pl11_good rfl pl_mixed Tryz.func63 rfl conBinF 3 (by decide) (by kernel_rfl) ?_
 intro args hpre hlens
 simp only [conBinF] at hpre
 split at hpre
 case h_2=>exact hpre.elim
 rename_i xs ex t ex' f caps
 simp only [allLen,AV.lenOk,SV.lenOk,Ty.lenOk,maxLen,and_true,implies_true,true_and,List.forall_mem_cons,List.not_mem_nil,false_implies] at hlens
 obtain ⟨rfl,rfl,hl,hpw,ht1,ht2,hx⟩:=hpre
 refine ⟨rfl,?_⟩
 simp -dsimp -implicitDefEqProofs [Tryz.f63,conBinF_eq,pl11_all,plT,pl11Γ,pl11E,pl11P,pl10Γ,pl10E,pl10P,pl9Γ,pl9E,pl9P,pl8Γ,pl8E,pl8P,pl7Γ,pl7E,pl7P,pl6Γ,pl6E,pl6P,pl5Γ,pl5E,pl5P,pl4Γ,pl4E,pl4P,pl3Γ,pl3E,pl3P,pl2Γ,pl2E,pl2P,pl1Γ,pl1E,pl1P,pl0Γ,pl0E,pl0P,conDecide_eq,conStands_eq,conColS,conMapRI,conCheck_eq,conCont_pre,conCont_val,conTable_eq,conEqual_eq,conPlaced_eq,conMapII_pre,conMapII_val,conSorted,conBin_eq,conValues_eq,conColI,conSort,conLess_eq,conNaN_eq,inI64]
 have hle:decN xs t≤xs.length:=List.length_filter_le ..
 have hat:=fun (i:Nat) (hi:i<xs.length)=>cntP_at (p:=fun x=>decide (dec x t<0)) (xs:=xs) (hpw.imp fun h=>by simpa using h) hi []
 simp only [decide_eq_true_eq] at hat
 change ∀ i,i<xs.length→(dec (xs[i]?.getD []) t<0↔i<decN xs t) at hat
 have hxi:∀ i,i<xs.length→(xs[i]?.getD []).length=t.length∧small (xs[i]?.getD []):=fun i hi=>by rw [getD_lt hi]; exact hx _ (List.getElem_mem hi)
 refine WpD.loop (L:={ live:=[0,1,2,6,7,8,9,10,11,17,31] }) pl11_good X0_ok pl_mixed (by kernel_rfl)
  (fun p:Nat×Nat=>⟨[(0,vS (.slice tStand) xs ex),(1,vS tStand t ex'),(2,⟨true,.v (.s (.fnp 44 []))⟩),(8,vI xs.length),(9,vI p.1),(10,vI p.2)],[]⟩)
  (fun p=>p.1≤decN xs t∧decN xs t≤p.2∧p.2≤xs.length) (fun p=>p.2 - p.1) (0,xs.length) ⟨Nat.zero_le _,hle,Nat.le_refl _⟩ (Turn.le (by simp -dsimp -implicitDefEqProofs)) ?_
 rintro ⟨i,j⟩ ⟨h1,h2,h3⟩
 simp only at h1 h2 h3
 have hh:=half_u64 (a:=i) (b:=j) (by omega)
 obtain ⟨m,hm⟩:∃ m:Nat,m=(i+j) / 2:=⟨_,rfl⟩
 rw [← hm] at hh
 simp -dsimp -implicitDefEqProofs [hh,conBinF_eq,pl11_all,plT,pl11Γ,pl11E,pl11P,pl10Γ,pl10E,pl10P,pl9Γ,pl9E,pl9P,pl8Γ,pl8E,pl8P,pl7Γ,pl7E,pl7P,pl6Γ,pl6E,pl6P,pl5Γ,pl5E,pl5P,pl4Γ,pl4E,pl4P,pl3Γ,pl3E,pl3P,pl2Γ,pl2E,pl2P,pl1Γ,pl1E,pl1P,pl0Γ,pl0E,pl0P,conDecide_eq,conStands_eq,conColS,conMapRI,conCheck_eq,conCont_pre,conCont_val,conTable_eq,conEqual_eq,conPlaced_eq,conMapII_pre,conMapII_val,conSorted,conBin_eq,conValues_eq,conColI,conSort,conLess_eq,conNaN_eq,inI64]
 refine ⟨fun hij => ?_,fun hji => ?_⟩
 ·
  have hml:m<xs.length:=by omega
  obtain ⟨x1,x2⟩:=hxi m hml
  refine ⟨⟨by omega,by omega⟩,hml,⟨Nat.le_of_eq x1,by omega,x2,ht2⟩,fun hlt=>⟨⟨by omega,by omega⟩,m+1,j,⟨?_,h2,h3⟩,by omega,TurnT.le (by simp -dsimp -implicitDefEqProofs)⟩,fun hge=>⟨i,m,⟨h1,?_,by omega⟩,by omega,TurnT.le (by simp -dsimp -implicitDefEqProofs)⟩⟩
  ·
   exact (hat m hml).1 hlt
  ·
   have:=mt (hat m hml).2 (Int.not_lt.2 hge); omega
 ·
  have hi:i=decN xs t:=by omega
  subst hi
  refine ⟨fun hlt=>⟨hlt,?_⟩,rfl,?_⟩
  ·
   obtain ⟨x1,x2⟩:=hxi _ hlt
   exact ⟨Nat.le_of_eq x1,by omega,x2,ht2⟩
  ·
   rw [Bool.eq_iff_iff]; simp
theorem sgn_cases (c:Int):(c<0∧sgn c = -1)∨(c=0∧sgn c=0)∨(0<c∧sgn c=1):=by
 unfold sgn
 by_cases h1 : -1<c
 ·
  rw [if_pos h1]
  by_cases h2:c<1
  ·
   rw [if_pos h2]; omega
  ·
   rw [if_neg h2]; omega
 ·
  rw [if_neg h1,if_pos (by decide)]; omega
theorem sgn_neg (c:Int):sgn c<0↔c<0:=by have:=sgn_cases c; omega
theorem sgn_le (c:Int):sgn c≤0↔c≤0:=by have:=sgn_cases c; omega
theorem sgn_odd {c d:Int} (h:d = -c):sgn d = - sgn c:=by have:=sgn_cases c; have:=sgn_cases d; omega
theorem dec_neg_cons (x y:Sd) (a b:List Sd):dec (x::a) (y::b)<0↔(y.1<x.1)∨(x.1=y.1∧(x.2.1<y.2.1∨(x.2.1=y.2.1∧dec a b<0))):=by
 simp only [dec]
 split
 ·
  rw [sgn_neg]; omega
 ·
  split
  ·
   rw [sgn_neg]; omega
  ·
   omega
theorem dec_le_cons (x y:Sd) (a b:List Sd):dec (x::a) (y::b)≤0↔(y.1<x.1)∨(x.1=y.1∧(x.2.1<y.2.1∨(x.2.1=y.2.1∧dec a b≤0))):=by
 simp only [dec]
 split
 ·
  rw [sgn_le]; omega
 ·
  split
  ·
   rw [sgn_le]; omega
  ·
   omega
theorem dec_self:∀ a:List Sd,dec a a=0
 | []=>rfl
 | x::a=>by simp [dec,dec_self a]
theorem dec_anti:∀ a b:List Sd,dec b a = - dec a b
 | [],[]=>rfl
 | [],_::_=>rfl
 | _::_,[]=>rfl
 | x::a,y::b=>by
  have ih:=dec_anti a b
  simp only [dec]
  by_cases h1:x.1=y.1
  ·
   by_cases h2:x.2.1=y.2.1
   ·
    rw [if_neg (by simp [h1]),if_neg (by simp [h2]),if_neg (by simp [h1]),if_neg (by simp [h2])]; exact ih
   ·
    rw [if_neg (by simp [h1]),if_pos (Ne.symm h2),if_neg (by simp [h1]),if_pos h2]; exact sgn_odd (by omega)
  ·
   rw [if_pos (Ne.symm h1),if_pos h1]; exact sgn_odd (by omega)
theorem dec_trans:∀ a b c:List Sd,a.length=b.length→b.length=c.length→dec a b≤0→dec b c≤0→dec a c≤0∧(dec a b<0∨dec b c<0→dec a c<0)
 | [],[],[],_,_,_,_=>⟨by simp [dec],by simp [dec]⟩
 | [],[],_::_,_,h,_,_=>by simp at h
 | [],_::_,_,h,_,_,_=>by simp at h
 | _::_,[],_,h,_,_,_=>by simp at h
 | _::_,_::_,[],_,h,_,_=>by simp at h
 | x::a,y::b,z::c,h1,h2,h3,h4=>by
  have ih:=dec_trans a b c (by simpa using h1) (by simpa using h2)
  rw [dec_le_cons] at h3 h4
  rw [dec_le_cons,dec_neg_cons,dec_neg_cons,dec_neg_cons]
  omega
def majOk (s:List (List Sd)) (x:List Sd):Prop:=s.length≤1000000∧s.Pairwise (fun a b=>dec b x<0→dec a x<0)∧x.length≤1000000∧small x∧∀ y∈s,y.length=x.length∧small y
def pl12Γ:List (FuncId×Con):=(63,conBinF)::(25,conCompare)::pl11Γ
theorem pl12Γ_ok:∀ p∈pl12Γ,(∀ (args:Array Value) (w:World),(callFunc p.1 args).run Tryz.prog w=.ok (.enter p.1 args) w)∧PureOk Tryz.prog p.1 p.2:=by
 simp only [pl12Γ,List.forall_mem_cons]
 exact ⟨⟨enters_of Tryz.func63 (by kernel_rfl) rfl,binF_ok⟩,⟨enters_of Tryz.func25 (by kernel_rfl) rfl,compare_ok⟩,pl11Γ_ok⟩
def pl12E:List (FuncId×ECon):=(59,conClone)::pl11E
theorem pl12E_ok:∀ p∈pl12E,(∀ (args:Array Value) (w:World),(callFunc p.1 args).run Tryz.prog w=.ok (.enter p.1 args) w)∧EffOk Tryz.prog p.1 p.2:=by
 simp only [pl12E,List.forall_mem_cons]
 exact ⟨⟨enters_of Tryz.func59 (by kernel_rfl) rfl,clone_ok⟩,pl11E_ok⟩
def pl12P:List (FuncId×PCon):=pl11P
theorem pl12P_ok:∀ p∈pl12P,(∀ (args:Array Value) (w:World),(callFunc p.1 args).run Tryz.prog w=.ok (.enter p.1 args) w)∧PanOk Tryz.prog p.1 p.2:=by
 simp only [pl12P]
 exact pl11P_ok
def pl12:G:={ τ:=plT,Γ:=pl12Γ,E:=pl12E,Pn:=pl12P }
theorem pl12_good:pl12.good Tryz.prog:=good_of_all (plT_ok _ rfl) pl12Γ_ok pl12E_ok pl12P_ok
theorem pl12_all:(∀ t,pl12.td t=(look plT t).getD .other)∧pl12.y=false∧pl12.Γ=pl12Γ∧pl12.E=pl12E∧pl12.Pn=pl12P∧pl12.fz=[]:=⟨fun _=>rfl,rfl,rfl,rfl,rfl,rfl⟩
def conMaj1:Con:=⟨fun args=>(match args with
 | [.s (.sl (.cons (.int .i64) (.cons (.int .i64) .nil)) x _),.s (.eptr (.slice (.slice (.cons (.int .i64) (.cons (.int .i64) .nil)))) s)]=>majOk s x
 | _=>False),fun args=>match args with
 | [.s (.sl (.cons (.int .i64) (.cons (.int .i64) .nil)) x _),.s (.eptr (.slice (.slice (.cons (.int .i64) (.cons (.int .i64) .nil)))) s)]=>.v (aI (decN s x+1))
 | _=>.v (.s .any)⟩
theorem conMaj1_eq (x:List (Ty.T (.cons tI (.cons tI .nil)))) (exx:Bool) (s:Ty.T (.slice (.slice (.cons tI (.cons tI .nil))))):conMaj1.pre [.s (.sl (.cons tI (.cons tI .nil)) x exx),.s (.eptr (.slice (.slice (.cons tI (.cons tI .nil)))) s)]=(majOk s x)∧conMaj1.val [.s (.sl (.cons tI (.cons tI .nil)) x exx),.s (.eptr (.slice (.slice (.cons tI (.cons tI .nil)))) s)]=.v (aI (decN s x+1)):=⟨rfl,rfl⟩
theorem maj1_ok:PureOk Tryz.prog 62 conMaj1:=by
 refine pureOkD (L:={ live:=[0,1,3,4] }) pl12_good rfl pl_mixed Tryz.func62 rfl conMaj1 2 (by decide) (by kernel_rfl) ?_
 intro args hpre hlens
 simp only [conMaj1] at hpre
 split at hpre
 case h_2=>exact hpre.elim
 rename_i x ex s
 simp only [allLen,AV.lenOk,SV.lenOk,Ty.lenOk,maxLen,and_true,implies_true,true_and,List.forall_mem_cons,List.not_mem_nil,false_implies] at hlens
 refine ⟨rfl,?_⟩
 simp -dsimp -implicitDefEqProofs [Tryz.f62,conMaj1_eq,pl12_all,plT,pl12Γ,pl12E,pl12P,pl11Γ,pl11E,pl11P,pl10Γ,pl10E,pl10P,pl9Γ,pl9E,pl9P,pl8Γ,pl8E,pl8P,pl7Γ,pl7E,pl7P,pl6Γ,pl6E,pl6P,pl5Γ,pl5E,pl5P,pl4Γ,pl4E,pl4P,pl3Γ,pl3E,pl3P,pl2Γ,pl2E,pl2P,pl1Γ,pl1E,pl1P,pl0Γ,pl0E,pl0P,conBinF_eq,conCompare_eq,conClone,conDecide_eq,conStands_eq,conColS,conMapRI,conCheck_eq,conCont_pre,conCont_val,conTable_eq,conEqual_eq,conPlaced_eq,conMapII_pre,conMapII_val,conSorted,conBin_eq,conValues_eq,conColI,conSort,conLess_eq,conNaN_eq,inI64]
 obtain ⟨h1,h2,h3,h4,h5⟩:=hpre
 have:decN s x≤s.length:=List.length_filter_le ..
 exact ⟨⟨h1,h2,h3,h4,h5⟩,by omega,by omega⟩
def gSI:List (FuncId×Con):=[(62,conMaj1)]
theorem gSI_known:Known Tryz.prog gSI:=.cons (enters_of Tryz.func62 (by kernel_rfl) rfl) maj1_ok .nil
theorem fn_maj1 (s:List (List Sd)):fnTo gSI (.slice tStand) tI 62 [⟨.slice (.slice tStand),s⟩] (fun x=>(decN s x:Int)+1) (majOk s):=⟨conMaj1,rfl,fun _=>rfl,fun _ h=>h⟩
theorem map_maj1 (s xs:List (List Sd)):mapV gSI (.slice tStand) tI 62 [⟨.slice (.slice tStand),s⟩] xs=xs.map fun x=>(decN s x:Int)+1:=mapV_eq (by decide) (fn_maj1 s) xs
def gDec:List (FuncId×Con):=[(44,conDecide)]
theorem gDec_known:Known Tryz.prog gDec:=.cons (enters_of Tryz.func44 (by kernel_rfl) rfl) decide_ok .nil
def pl13Γ:List (FuncId×Con):=(61,(conMapSI gSI))::pl12Γ
theorem pl13Γ_ok:∀ p∈pl13Γ,(∀ (args:Array Value) (w:World),(callFunc p.1 args).run Tryz.prog w=.ok (.enter p.1 args) w)∧PureOk Tryz.prog p.1 p.2:=by
 simp only [pl13Γ,List.forall_mem_cons]
 exact ⟨⟨enters_of Tryz.func61 (by kernel_rfl) rfl,(conMapSI_known gSI gSI_known)⟩,pl12Γ_ok⟩
def pl13E:List (FuncId×ECon):=(60,(conSortF gDec))::pl12E
theorem pl13E_ok:∀ p∈pl13E,(∀ (args:Array Value) (w:World),(callFunc p.1 args).run Tryz.prog w=.ok (.enter p.1 args) w)∧EffOk Tryz.prog p.1 p.2:=by
 simp only [pl13E,List.forall_mem_cons]
 exact ⟨⟨enters_of Tryz.func60 (by kernel_rfl) rfl,(sortF_eff Tryz.laySortF gDec gDec_known)⟩,pl12E_ok⟩
def pl13P:List (FuncId×PCon):=pl12P
theorem pl13P_ok:∀ p∈pl13P,(∀ (args:Array Value) (w:World),(callFunc p.1 args).run Tryz.prog w=.ok (.enter p.1 args) w)∧PanOk Tryz.prog p.1 p.2:=by
 simp only [pl13P]
 exact pl12P_ok
def pl13:G:={ τ:=plT,Γ:=pl13Γ,E:=pl13E,Pn:=pl13P }
theorem pl13_good:pl13.good Tryz.prog:=good_of_all (plT_ok _ rfl) pl13Γ_ok pl13E_ok pl13P_ok
theorem pl13_all:(∀ t,pl13.td t=(look plT t).getD .other)∧pl13.y=false∧pl13.Γ=pl13Γ∧pl13.E=pl13E∧pl13.Pn=pl13P∧pl13.fz=[]:=⟨fun _=>rfl,rfl,rfl,rfl,rfl,rfl⟩
def allTo (l:List (List Int)) (i:Nat):List (List Sd):=(List.range i).map fun k:Nat=>standL l (k:Int)
theorem allTo_succ (l:List (List Int)) (i:Nat):allTo l (i+1)=allTo l i++[standL l (i:Int)]:=by simp [allTo,List.range_succ]
theorem allTo_len (l:List (List Int)) (i:Nat):(allTo l i).length=i:=by simp [allTo]
def majL (l:List (List Int)):List Int:=if checkErr l=0∧l≠[] then (allTo l (l[0]?.getD []).length).map fun x=>(decN (allTo l (l[0]?.getD []).length) x:Int)+1 else []
theorem allTo_mem {l:List (List Int)} (hs:∀ e:Int,0≤e→e<(l[0]?.getD []).length→standOk l e) {x:List Sd} (hx:x∈allTo l (l[0]?.getD []).length):x.length=(l[0]?.getD []).length∧small x:=by
 unfold allTo at hx
 obtain ⟨k,hk,rfl⟩:=List.mem_map.1 hx
 have:=List.mem_range.1 hk
 exact ⟨standL_len l k,standL_small (hs k (by omega) (by omega))⟩
theorem decN_perm {xs ys:List (List Sd)} (h:ys.Perm xs) (t:List Sd):decN ys t=decN xs t:=(h.filter _).length_eq
theorem majOk_of {all ys:List (List Sd)} {n:Nat} (hn:n≤4096) (hl:all.length≤4096) (hall:∀ x∈all,x.length=n∧small x) (hp:ys.Perm all) (hpw:ys.Pairwise fun x y=>0≤dec y x) {x:List Sd} (hx:x∈all):majOk ys x:=by
 obtain ⟨x1,x2⟩:=hall x hx
 refine ⟨by rw [hp.length_eq]; omega,?_,by omega,x2,fun y hy => ?_⟩
 ·
  refine List.Pairwise.imp_of_mem ?_ hpw
  intro a b ha hb h0 hlt
  have ha':=hall a (hp.mem_iff.1 ha)
  have hb':=hall b (hp.mem_iff.1 hb)
  have:=dec_anti a b
  exact (dec_trans a b x (by omega) (by omega) (by omega) (by omega)).2 (.inr hlt)
 ·
  obtain ⟨y1,y2⟩:=hall y (hp.mem_iff.1 hy)
  exact ⟨by omega,y2⟩
def conMajority:Con:=⟨fun args=>(match args with
 | [.s (.sl (.slice (.int .i64)) l _)]=>True
 | _=>False),fun args=>match args with
 | [.s (.sl (.slice (.int .i64)) l _)]=>.tup [aS tI (majL l) false,aI (checkErr l)]
 | _=>.v (.s .any)⟩
theorem conMajority_eq (l:List (Ty.T (.slice tI))) (exl:Bool):conMajority.pre [.s (.sl (.slice tI) l exl)]=(True)∧conMajority.val [.s (.sl (.slice tI) l exl)]=.tup [aS tI (majL l) false,aI (checkErr l)]:=⟨rfl,rfl⟩
theorem majority_ok:PureOk Tryz.prog 35 conMajority:=by
 refine pureOkD (L:={ live:=[0,2,3,4,5,6,7,16,21,22,23],fin:=[(8,[(5,[29])])],frz:=[(10,[5]),(12,[7])],eps:=[(12,[7])] }) pl13_good rfl pl_mixed Tryz.func35 rfl conMajority 1 (by decide) (by kernel_rfl) ?_
 intro args hpre hlens
 simp only [conMajority] at hpre
 split at hpre
 case h_2=>exact hpre.elim
 rename_i l ex
 simp only [allLen,AV.lenOk,SV.lenOk,Ty.lenOk,maxLen,and_true,implies_true,true_and,List.forall_mem_cons,List.not_mem_nil,false_implies] at hlens
 refine ⟨rfl,?_⟩
 simp -dsimp -implicitDefEqProofs [Tryz.f35,conMajority_eq,pl13_all,plT,pl13Γ,pl13E,pl13P,pl12Γ,pl12E,pl12P,pl11Γ,pl11E,pl11P,pl10Γ,pl10E,pl10P,pl9Γ,pl9E,pl9P,pl8Γ,pl8E,pl8P,pl7Γ,pl7E,pl7P,pl6Γ,pl6E,pl6P,pl5Γ,pl5E,pl5P,pl4Γ,pl4E,pl4P,pl3Γ,pl3E,pl3P,pl2Γ,pl2E,pl2P,pl1Γ,pl1E,pl1P,pl0Γ,pl0E,pl0P,conMapSI_pre,conMapSI_val,conSortF,conBinF_eq,conCompare_eq,conClone,conDecide_eq,conStands_eq,conColS,conMapRI,conCheck_eq,conCont_pre,conCont_val,conTable_eq,conEqual_eq,conPlaced_eq,conMapII_pre,conMapII_val,conSorted,conBin_eq,conValues_eq,conColI,conSort,conLess_eq,conNaN_eq,inI64]
 refine ⟨fun h=>if_neg (by rcases h with h | h <;> simp [h]),fun hc hne=>⟨List.length_pos_iff.2 hne,?_⟩⟩
 have h0:=List.length_pos_iff.2 hne
 have hso:=fun (e:Int) (h1:0≤e) (h2:e<(l[0]?.getD []).length)=>standOk_of hc h0 h1 h2
 have hm:(l[0]?.getD []).length≤4096:=by
  rw [getD_lt h0]; exact (tableErr_ok (checkErr_ok hc).1).2.1 _ (List.getElem_mem h0)
 have hmj:majL l=(allTo l (l[0]?.getD []).length).map fun x=>(decN (allTo l (l[0]?.getD []).length) x:Int)+1:=if_pos ⟨hc,hne⟩
 refine WpD.turn _ (Turn.virt (k:=5) (t:=.slice tStand) (xs:=[]) (by simp [look])) ?_
 refine WpD.loop (L:={ live:=[0,2,3,4,5,6,7,16,21,22,23],fin:=[(8,[(5,[29])])],frz:=[(10,[5]),(12,[7])],eps:=[(12,[7])] }) pl13_good X0_ok pl_mixed (by kernel_rfl)
  (fun i:Nat=>⟨[(0,vS tRow l ex),(2,vS tI [] true),(3,vI 0),(4,vI (checkErr l)),(5,⟨true,.v (.s (.own (.slice tStand) 0 i))⟩),(21,vI (l[0]?.getD []).length),(22,vI i)],[.arr (decide (0<i)) ((Ty.slice tStand).flats (allTo l i))]⟩)
  (fun i=>i≤(l[0]?.getD []).length) (fun i=>(l[0]?.getD []).length - i) 0 (by simp) (Turn.le (by simp -dsimp -implicitDefEqProofs [allTo])) ?_
 intro i hi
 have hal:=allTo_len l i
 simp -dsimp -implicitDefEqProofs [hal,conMajority_eq,map_maj1,pl13_all,plT,pl13Γ,pl13E,pl13P,pl12Γ,pl12E,pl12P,pl11Γ,pl11E,pl11P,pl10Γ,pl10E,pl10P,pl9Γ,pl9E,pl9P,pl8Γ,pl8E,pl8P,pl7Γ,pl7E,pl7P,pl6Γ,pl6E,pl6P,pl5Γ,pl5E,pl5P,pl4Γ,pl4E,pl4P,pl3Γ,pl3E,pl3P,pl2Γ,pl2E,pl2P,pl1Γ,pl1E,pl1P,pl0Γ,pl0E,pl0P,conMapSI_pre,conMapSI_val,conSortF,conBinF_eq,conCompare_eq,conClone,conDecide_eq,conStands_eq,conColS,conMapRI,conCheck_eq,conCont_pre,conCont_val,conTable_eq,conEqual_eq,conPlaced_eq,conMapII_pre,conMapII_val,conSorted,conBin_eq,conValues_eq,conColI,conSort,conLess_eq,conNaN_eq,inI64]
 refine ⟨fun hlt => ?_,fun hge => ?_⟩
 ·
  have hst:=hso i (by omega) (by omega)
  have hsl:=standL_len l i
  refine ⟨standL l i,seq_stands l i hst,by omega,_,rfl,rfl,⟨by omega,by simp only [maxLen]; omega⟩,⟨by omega,by omega⟩,i+1,by omega,by omega,?_⟩
  rw [allTo_succ,show decide (0<i+1)=true by simp]
  exact TurnT.trunc X0_ok (hp:=[_]) (junk:=[_]) (by simp) (by simp only [List.length_cons,List.length_nil,List.all_cons,List.all_nil,arr_below,Bool.and_true] <;> simp [Blk.below,SV.below]) (by simp -dsimp -implicitDefEqProofs []) (by simp [envBelow,RV.below,AV.below,SV.below])
 ·
  obtain rfl:i=(l[0]?.getD []).length:=by omega
  have hall:=fun x hx=>allTo_mem hso (x:=x) hx
  generalize hA:allTo l (l[0]?.getD []).length=all at *
  generalize hN:(l[0]?.getD []).length=n at *
  refine ⟨all,rfl,hal.symm,by omega,fun hnil=>⟨⟨by omega,_,(fn_maj1 []).mono fun x hx=>by rw [hnil] at hx; cases hx⟩,by rw [hmj,hnil],hc.symm⟩,all,rfl,rfl,by omega,?_,dec,_,_,⟨rfl,rfl⟩,conDecide,rfl,fun a ha b hb=>⟨?_,rfl⟩,fun a ha=>by rw [dec_self]; decide,fun a ha b hb c hc h1 h2 => ?_,fun a ha b hb c hc h1 h2 => ?_,fun ys hp hpw=>⟨ys,rfl,hp.length_eq.symm,⟨by omega,_,(fn_maj1 ys).mono fun x hx=>majOk_of hm (by omega) hall hp hpw hx⟩,?_,hc.symm⟩⟩
  ·
   cases all with
   | nil=>exact .inr rfl
   | cons a b=>exact .inl (by simp)
  ·
   obtain ⟨a1,a2⟩:=hall a ha
   obtain ⟨b1,b2⟩:=hall b hb
   exact ⟨by omega,by omega,a2,b2⟩
  ·
   have ha':=(hall a ha).1
   have hb':=(hall b hb).1
   have hc':=(hall c hc).1
   exact (dec_trans a b c (by omega) (by omega) (by omega) (by omega)).2 (.inl h1)
  ·
   have ha':=(hall a ha).1
   have hb':=(hall b hb).1
   have hc':=(hall c hc).1
   have e1:=dec_anti a b
   have e2:=dec_anti b c
   have e3:=dec_anti a c
   have:=(dec_trans c b a (by omega) (by omega) (by omega) (by omega)).1
   omega
  ·
   rw [hmj]
   refine List.map_congr_left fun x _ => ?_
   rw [decN_perm hp]
end Go.Am.Pl
namespace Go.Am.Pl
set_option maxHeartbeats 4000000
set_option maxRecDepth 20000
open Go.RowKit Go.Proofs
attribute [local simp] thenKD_normal thenKD_exit thenKD_goto thenKD_ret inBlockKD_normal inBlockKD_exit inBlockKD_goto inBlockKD_ret noGotoKD_normal noGotoKD_exit noGotoKD_goto noGotoKD_ret roundKD_normal roundKD_exit roundKD_goto roundKD_ret frzSlotsD_nil frzSlotsD_cons frzSlotD_eq yieldVCD_trace opVCD_eq vcOpsD_nil vcOpsD_cons vcAllD_zero vcAllD_succ allAtD_nil allAtD_cons readyAux edgA vcD_skip vcD_label vcD_exit vcD_goto vcD_ret vcD_region vcD_seq vcD_seqC vcD_cond vcCondD_bool vcD_block vcD_scope vcD_loop vcD_rangeFunc yieldOf isMem isMem0 keepE envLe St.le psE yieldAV round_td round_y round_Γ vI vB vS aI aB aS look getE oper opRV putE allOk okOps Op.operands Call.operands pEv qEv mEv constRV coe RV.av loadEv loadCs takeAt indexAddrEv fieldAddrEv binEv intEv arith unEv gcond pickEv argsEv callVal callEv capAV_mk lenArgs lenEv minEv extractEv convEv funcEv allBox bound sliceEv lookupEv TD.isBool allocEv boxEv storeEv spl plainTD appendEv appendArgs makeMapEv mapUpdateEv buildEv buildSliceEv fillSV zsvOf sizeTD Ty.parses parses_flats' coeA flats_length AV.good AV.cells AV.pure SV.pure av_int av_bool av_str av_slice av_cons av_fld0 av_fld1 av_fld2 av_fld3 av_fld4 Ty.of Ty.dflt Ty.parse Ty.flat Ty.zsv Ty.fld Ty.get Ty.off Ty.nfld Ty.size coeTy junk Blk.look argEnv resEv resOk resVs oneRV retOk frzAs frzAV frzL frzSV boxCaps boxCap SV.sig sigs RV.scalar AV.scalar SV.scalar nope effVCD_eq effOf SV.ids AV.ids dedup SV.ren AV.ren RV.ren idx outId mergeB Blk.pureB flats_pure flat_pure epsSlotsD_nil epsSlotsD_cons epsSlotD_eq allEp D.parts_fnOf fvParts retEff round_E av_fn G.ye isCutD_nil isCutD_cons firstReg_region firstReg_seq firstReg_skip firstReg_ret firstReg_label firstReg_exit firstReg_goto firstReg_cond firstReg_block firstReg_scope firstReg_loop firstReg_rf eptrOf_mk flOfD_nil flOfD_cons vcFlD_cons vcFlD_nil flPairs_nil flPairs_cons vcFrD_nil vcFrD_cons makeSliceEv vcCondD_ib fzEv unfl_flats isFz round_fz panVCD_eq panOf isShift strIdxEv ifaceEv nilChkEv sliceAnyEv sliceOwnEv sliceSufEv appendEv0 appendEv1 Ty.beq Ty.isAgg round_Pn vcDefD_seqR vcDefD_seqS vcDefD_seqC vcDefD_seqB vcDefD_seqL vcDefD_seqF vcDefD_seqSc vcDefD_region vcDefD_ret vcDefD_cond vcDefD_block vcDefD_loop thenKD_panic inBlockKD_panic noGotoKD_panic exitOk_normal exitOk_ret exitOk_panic exitOk_exit runDefs_none runDefs_some runDefs_cons defRegD isDefer defOf caughtCon unfl_cons D.bpart_bndOf D.parts_bndOf AV.sig
attribute [local simp ←] flats_append
theorem lt_succ_cases {p:Nat→Prop} {i:Nat} (h:∀ j,j<i→p j) (hi:p i):∀ j,j<i+1→p j:=fun j hj=>by
 rcases Nat.lt_succ_iff_lt_or_eq.1 hj with h' | rfl
 ·
  exact h j h'
 ·
  exact hi
theorem all_of_get {α:Type} {xs:List α} (d:α) {p:α→Prop} (h:∀ j,j<xs.length→p (xs[j]?.getD d)):∀ x∈xs,p x:=fun x hx=>by
 obtain ⟨j,hj,rfl⟩:=List.mem_iff_getElem.1 hx
 have:=h j hj
 rwa [getD_lt hj] at this
theorem get_mem {α:Type} {xs:List α} (d:α) {j:Nat} (h:j<xs.length):xs[j]?.getD d∈xs:=by rw [getD_lt h]; exact List.getElem_mem h
def few (l:List (List Int)):Prop:=(¬ (9<l.length∧l.length≤256)∧l.length≤300)∧∀ row∈l,row.length≤10
noncomputable instance (l:List (List Int)):Decidable (few l):=Classical.propDecidable _
def pl14Γ:List (FuncId×Con):=(35,conMajority)::pl13Γ
theorem pl14Γ_ok:∀ p∈pl14Γ,(∀ (args:Array Value) (w:World),(callFunc p.1 args).run Tryz.prog w=.ok (.enter p.1 args) w)∧PureOk Tryz.prog p.1 p.2:=by
 simp only [pl14Γ,List.forall_mem_cons]
 exact ⟨⟨enters_of Tryz.func35 (by kernel_rfl) rfl,majority_ok⟩,pl13Γ_ok⟩
def pl14E:List (FuncId×ECon):=pl13E
theorem pl14E_ok:∀ p∈pl14E,(∀ (args:Array Value) (w:World),(callFunc p.1 args).run Tryz.prog w=.ok (.enter p.1 args) w)∧EffOk Tryz.prog p.1 p.2:=by
 simp only [pl14E]
 exact pl13E_ok
def pl14P:List (FuncId×PCon):=pl13P
theorem pl14P_ok:∀ p∈pl14P,(∀ (args:Array Value) (w:World),(callFunc p.1 args).run Tryz.prog w=.ok (.enter p.1 args) w)∧PanOk Tryz.prog p.1 p.2:=by
 simp only [pl14P]
 exact pl13P_ok
def conRTable:Con:=⟨fun args=>(match args with
 | [.s (.sl (.slice (.int .i64)) l _)]=>True
 | _=>False),fun args=>match args with
 | [.s (.sl (.slice (.int .i64)) l _)]=>.v (aI (tableErr l))
 | _=>.v (.s .any)⟩
theorem conRTable_eq (l:List (Ty.T (.slice tI))) (exl:Bool):conRTable.pre [.s (.sl (.slice tI) l exl)]=(True)∧conRTable.val [.s (.sl (.slice tI) l exl)]=.v (aI (tableErr l)):=⟨rfl,rfl⟩
theorem rtable_ok:PureOk Tryz.prog 100 conRTable:=by
 refine pureOkD (L:={ live:=[0,2,3,4,7,11,19,23,35] }) pl0_good rfl pl_mixed Tryz.func100 rfl conRTable 1 (by decide) (by kernel_rfl) ?_
 intro args hpre hlens
 simp only [conRTable] at hpre
 split at hpre
 case h_2=>exact hpre.elim
 rename_i l ex
 simp only [allLen,AV.lenOk,SV.lenOk,Ty.lenOk,maxLen,and_true,implies_true,true_and,List.forall_mem_cons,List.not_mem_nil,false_implies] at hlens
 refine ⟨rfl,?_⟩
 simp -dsimp -implicitDefEqProofs [Tryz.f100,conRTable_eq,pl0_all,plT,pl0Γ,pl0E,pl0P,inI64]
 refine ⟨fun h=>(tableErr_2 (.inl (by omega))).symm,fun h1 => ?_⟩
 refine WpD.loop (L:={ live:=[0,2,3,4,7,11,19,23,35] }) pl0_good X0_ok pl_mixed (by kernel_rfl)
  (fun i:Nat=>⟨[(0,vS tRow l ex),(3,vI i)],[]⟩)
  (fun i=>i≤l.length∧∀ j,j<i→(l[j]?.getD []).length≤4096) (fun i=>l.length - i) 0 (by simp) (Turn.le (by simp -dsimp -implicitDefEqProofs)) ?_
 rintro i ⟨hi,hj⟩
 simp -dsimp -implicitDefEqProofs [conRTable_eq,pl0_all,plT,pl0Γ,pl0E,pl0P,inI64]
 refine ⟨fun hlt=>⟨hlt,fun hb=>(tableErr_2 (.inr ⟨_,get_mem [] hlt,by omega⟩)).symm,fun hs=>⟨⟨by omega,by omega⟩,i+1,⟨by omega,lt_succ_cases hj (by omega)⟩,by omega,TurnT.le (by simp -dsimp -implicitDefEqProofs)⟩⟩,fun hge => ?_⟩
 have hall:∀ row∈l,List.length row≤4096:=all_of_get [] fun j hjl=>hj j (by omega)
 have hn:¬ (256<l.length∨∃ row∈l,4096<List.length row):=by
  rintro (h | ⟨row,hr,hl⟩)
  ·
   omega
  ·
   have:=hall row hr; omega
 refine WpD.loop (L:={ live:=[0,2,3,4,7,11,19,23,35] }) pl0_good X0_ok pl_mixed (by kernel_rfl)
  (fun i:Nat=>⟨[(0,vS tRow l ex),(4,vI i)],[]⟩)
  (fun i=>i≤l.length∧∀ j,j<i→(l[j]?.getD []).length=(l[0]?.getD []).length) (fun i=>l.length - i) 0 (by simp) (Turn.le (by simp -dsimp -implicitDefEqProofs)) ?_
 rintro i ⟨hi,hj⟩
 simp -dsimp -implicitDefEqProofs [conRTable_eq,pl0_all,plT,pl0Γ,pl0E,pl0P,inI64]
 refine ⟨fun hlt=>⟨hlt,by omega,fun hb=>(tableErr_220 hn ⟨_,get_mem [] hlt,by omega⟩).symm,fun hs=>⟨⟨by omega,by omega⟩,i+1,⟨by omega,lt_succ_cases hj (by omega)⟩,by omega,TurnT.le (by simp -dsimp -implicitDefEqProofs)⟩⟩,fun hge=>(tableErr_0 hn ?_).symm⟩
 rintro ⟨row,hr,hne⟩
 exact hne (all_of_get (p:=fun row:List Int=>row.length=(l[0]?.getD []).length) [] (fun j hjl=>hj j (by omega)) row hr)
def pl15Γ:List (FuncId×Con):=(100,conRTable)::pl14Γ
theorem pl15Γ_ok:∀ p∈pl15Γ,(∀ (args:Array Value) (w:World),(callFunc p.1 args).run Tryz.prog w=.ok (.enter p.1 args) w)∧PureOk Tryz.prog p.1 p.2:=by
 simp only [pl15Γ,List.forall_mem_cons]
 exact ⟨⟨enters_of Tryz.func100 (by kernel_rfl) rfl,rtable_ok⟩,pl14Γ_ok⟩
def pl15E:List (FuncId×ECon):=pl14E
theorem pl15E_ok:∀ p∈pl15E,(∀ (args:Array Value) (w:World),(callFunc p.1 args).run Tryz.prog w=.ok (.enter p.1 args) w)∧EffOk Tryz.prog p.1 p.2:=by
 simp only [pl15E]
 exact pl14E_ok
def pl15P:List (FuncId×PCon):=pl14P
theorem pl15P_ok:∀ p∈pl15P,(∀ (args:Array Value) (w:World),(callFunc p.1 args).run Tryz.prog w=.ok (.enter p.1 args) w)∧PanOk Tryz.prog p.1 p.2:=by
 simp only [pl15P]
 exact pl14P_ok
theorem filt_take {α:Type} (p:α→Bool) (xs:List α) {j:Nat} (hj:j<xs.length) (d:α):((xs.take (j+1)).filter p).length=((xs.take j).filter p).length+if p (xs[j]?.getD d)=true then 1 else 0:=by
 rw [take_succ_get xs hj d,List.filter_append,List.length_append]
 congr 1
 by_cases h:p (xs[j]?.getD d)=true <;> simp [h]
theorem filt_take_le {α:Type} (p:α→Bool) (xs:List α) (j:Nat):((xs.take j).filter p).length≤xs.length:=by
 have h1:=List.length_filter_le p (xs.take j)
 have h2:=List.length_take_le' j xs
 omega
def pl16Γ:List (FuncId×Con):=pl15Γ
theorem pl16Γ_ok:∀ p∈pl16Γ,(∀ (args:Array Value) (w:World),(callFunc p.1 args).run Tryz.prog w=.ok (.enter p.1 args) w)∧PureOk Tryz.prog p.1 p.2:=by
 simp only [pl16Γ]
 exact pl15Γ_ok
def pl16E:List (FuncId×ECon):=pl15E
theorem pl16E_ok:∀ p∈pl16E,(∀ (args:Array Value) (w:World),(callFunc p.1 args).run Tryz.prog w=.ok (.enter p.1 args) w)∧EffOk Tryz.prog p.1 p.2:=by
 simp only [pl16E]
 exact pl15E_ok
def pl16P:List (FuncId×PCon):=pl15P
theorem pl16P_ok:∀ p∈pl16P,(∀ (args:Array Value) (w:World),(callFunc p.1 args).run Tryz.prog w=.ok (.enter p.1 args) w)∧PanOk Tryz.prog p.1 p.2:=by
 simp only [pl16P]
 exact pl15P_ok
def pl16:G:={ τ:=plT,Γ:=pl16Γ,E:=pl16E,Pn:=pl16P }
theorem pl16_good:pl16.good Tryz.prog:=good_of_all (plT_ok _ rfl) pl16Γ_ok pl16E_ok pl16P_ok
theorem pl16_all:(∀ t,pl16.td t=(look plT t).getD .other)∧pl16.y=false∧pl16.Γ=pl16Γ∧pl16.E=pl16E∧pl16.Pn=pl16P∧pl16.fz=[]:=⟨fun _=>rfl,rfl,rfl,rfl,rfl,rfl⟩
theorem ordRow_iff (row:List Int):row=ordRow row↔∀ k,k<row.length→row[k]?.getD 0=(below (row[k]?.getD 0) row:Int)+1:=by
 constructor
 ·
  intro h k hk
  conv=>lhs; rw [h]
  unfold ordRow
  rw [List.getElem?_map,List.getElem?_eq_getElem hk]
  rfl
 ·
  intro h
  apply List.ext_getElem?
  intro k
  unfold ordRow
  rw [List.getElem?_map]
  rcases Nat.lt_or_ge k row.length with hk | hk
  ·
   have:=h k hk
   rw [getD_lt hk] at this
   rw [List.getElem?_eq_getElem hk,Option.map_some,← this]
  ·
   rw [List.getElem?_eq_none hk]; rfl
theorem below_take (n:Int) (row:List Int) {j:Nat} (hj:j<row.length):below n (row.take (j+1))=below n (row.take j)+if row[j]?.getD 0<n then 1 else 0:=by
 have:=filt_take (fun x=>decide (x<n)) row hj 0
 simpa [below] using this
theorem below_take_le (n:Int) (row:List Int) (j:Nat):below n (row.take j)≤row.length:=filt_take_le _ row j
theorem checkErr_1 {l:List (List Int)} (h:¬ tableErr l=0):checkErr l=tableErr l:=if_pos h
theorem checkErr_220 {l:List (List Int)} (h:tableErr l=0) {row:List Int} (hr:row∈l) (hne:¬ row=ordRow row):checkErr l=220:=by
 rw [checkErr,if_neg (by simp [h]),if_pos ⟨row,hr,hne⟩]
theorem checkErr_0 {l:List (List Int)} (h:tableErr l=0) (h':∀ row∈l,row=ordRow row):checkErr l=0:=by
 rw [checkErr,if_neg (by simp [h]),if_neg (fun ⟨x,hx,hne⟩=>hne (h' x hx))]
def conRCheck:Con:=⟨fun args=>(match args with
 | [.s (.sl (.slice (.int .i64)) l _)]=>True
 | _=>False),fun args=>match args with
 | [.s (.sl (.slice (.int .i64)) l _)]=>.v (aI (checkErr l))
 | _=>.v (.s .any)⟩
theorem conRCheck_eq (l:List (Ty.T (.slice tI))) (exl:Bool):conRCheck.pre [.s (.sl (.slice tI) l exl)]=(True)∧conRCheck.val [.s (.sl (.slice tI) l exl)]=.v (aI (checkErr l)):=⟨rfl,rfl⟩
theorem rcheck_ok:PureOk Tryz.prog 65 conRCheck:=by
 refine pureOkD (L:={ live:=[0,2,3,4,5,6,7,11,16,25,34,51,62] }) pl16_good rfl pl_mixed Tryz.func65 rfl conRCheck 1 (by decide) (by kernel_rfl) ?_
 intro args hpre hlens
 simp only [conRCheck] at hpre
 split at hpre
 case h_2=>exact hpre.elim
 rename_i l ex
 simp only [allLen,AV.lenOk,SV.lenOk,Ty.lenOk,maxLen,and_true,implies_true,true_and,List.forall_mem_cons,List.not_mem_nil,false_implies] at hlens
 refine ⟨rfl,?_⟩
 simp -dsimp -implicitDefEqProofs [Tryz.f65,conRCheck_eq,pl16_all,plT,pl16Γ,pl16E,pl16P,pl15Γ,pl15E,pl15P,pl14Γ,pl14E,pl14P,pl13Γ,pl13E,pl13P,pl12Γ,pl12E,pl12P,pl11Γ,pl11E,pl11P,pl10Γ,pl10E,pl10P,pl9Γ,pl9E,pl9P,pl8Γ,pl8E,pl8P,pl7Γ,pl7E,pl7P,pl6Γ,pl6E,pl6P,pl5Γ,pl5E,pl5P,pl4Γ,pl4E,pl4P,pl3Γ,pl3E,pl3P,pl2Γ,pl2E,pl2P,pl1Γ,pl1E,pl1P,pl0Γ,pl0E,pl0P,conRTable_eq,conMajority_eq,conMapSI_pre,conMapSI_val,conSortF,conBinF_eq,conCompare_eq,conClone,conDecide_eq,conStands_eq,conColS,conMapRI,conCheck_eq,conCont_pre,conCont_val,conTable_eq,conEqual_eq,conPlaced_eq,conMapII_pre,conMapII_val,conSorted,conBin_eq,conValues_eq,conColI,conSort,conLess_eq,conNaN_eq,inI64]
 refine ⟨fun h=>(checkErr_1 h).symm,fun hc => ?_⟩
 obtain ⟨t1,t2,t3⟩:=tableErr_ok hc
 refine WpD.loop (L:={ live:=[0,2,3,4,5,6,7,11,16,25,34,51,62] }) pl16_good X0_ok pl_mixed (by kernel_rfl)
  (fun i:Nat=>⟨[(0,vS tRow l ex),(4,vI i)],[]⟩)
  (fun i=>i≤l.length∧∀ j,j<i→l[j]?.getD []=ordRow (l[j]?.getD [])) (fun i=>l.length - i) 0 (by simp) (Turn.le (by simp -dsimp -implicitDefEqProofs)) ?_
 rintro i ⟨hi,hio⟩
 simp -dsimp -implicitDefEqProofs [conRCheck_eq,pl16_all,plT,pl16Γ,pl16E,pl16P,pl15Γ,pl15E,pl15P,pl14Γ,pl14E,pl14P,pl13Γ,pl13E,pl13P,pl12Γ,pl12E,pl12P,pl11Γ,pl11E,pl11P,pl10Γ,pl10E,pl10P,pl9Γ,pl9E,pl9P,pl8Γ,pl8E,pl8P,pl7Γ,pl7E,pl7P,pl6Γ,pl6E,pl6P,pl5Γ,pl5E,pl5P,pl4Γ,pl4E,pl4P,pl3Γ,pl3E,pl3P,pl2Γ,pl2E,pl2P,pl1Γ,pl1E,pl1P,pl0Γ,pl0E,pl0P,conRTable_eq,conMajority_eq,conMapSI_pre,conMapSI_val,conSortF,conBinF_eq,conCompare_eq,conClone,conDecide_eq,conStands_eq,conColS,conMapRI,conCheck_eq,conCont_pre,conCont_val,conTable_eq,conEqual_eq,conPlaced_eq,conMapII_pre,conMapII_val,conSorted,conBin_eq,conValues_eq,conColI,conSort,conLess_eq,conNaN_eq,inI64]
 refine ⟨fun hlt => ?_,fun hge => ?_⟩
 ·
  have hr:=t2 _ (get_mem [] hlt)
  have hrm:l[i]?.getD []∈l:=get_mem [] hlt
  generalize hrow:l[i]?.getD []=row at *
  refine WpD.loop (L:={ live:=[0,2,3,4,5,6,7,11,16,25,34,51,62] }) pl16_good X0_ok pl_mixed (by kernel_rfl)
   (fun k:Nat=>⟨[(0,vS tRow l ex),(4,vI i),(5,vI k)],[]⟩)
   (fun k=>k≤row.length∧∀ j,j<k→row[j]?.getD 0=(below (row[j]?.getD 0) row:Int)+1) (fun k=>row.length - k) 0 (by simp) (Turn.le (by simp -dsimp -implicitDefEqProofs)) ?_
  rintro k ⟨hk,hko⟩
  simp -dsimp -implicitDefEqProofs [conRCheck_eq,hrow,pl16_all,plT,pl16Γ,pl16E,pl16P,pl15Γ,pl15E,pl15P,pl14Γ,pl14E,pl14P,pl13Γ,pl13E,pl13P,pl12Γ,pl12E,pl12P,pl11Γ,pl11E,pl11P,pl10Γ,pl10E,pl10P,pl9Γ,pl9E,pl9P,pl8Γ,pl8E,pl8P,pl7Γ,pl7E,pl7P,pl6Γ,pl6E,pl6P,pl5Γ,pl5E,pl5P,pl4Γ,pl4E,pl4P,pl3Γ,pl3E,pl3P,pl2Γ,pl2E,pl2P,pl1Γ,pl1E,pl1P,pl0Γ,pl0E,pl0P,conRTable_eq,conMajority_eq,conMapSI_pre,conMapSI_val,conSortF,conBinF_eq,conCompare_eq,conClone,conDecide_eq,conStands_eq,conColS,conMapRI,conCheck_eq,conCont_pre,conCont_val,conTable_eq,conEqual_eq,conPlaced_eq,conMapII_pre,conMapII_val,conSorted,conBin_eq,conValues_eq,conColI,conSort,conLess_eq,conNaN_eq,inI64]
  refine ⟨hlt,fun hkl => ?_,fun hkg => ?_⟩
  ·
   refine WpD.loop (L:={ live:=[0,2,3,4,5,6,7,11,16,25,34,51,62] }) pl16_good X0_ok pl_mixed (by kernel_rfl)
    (fun j:Nat=>⟨[(0,vS tRow l ex),(4,vI i),(5,vI k),(6,vI (below (row[k]?.getD 0) (row.take j)+1)),(7,vI j)],[]⟩)
    (fun j=>j≤row.length) (fun j=>row.length - j) 0 (by simp) (Turn.le (by simp -dsimp -implicitDefEqProofs [below])) ?_
   intro j hj
   have hal:=below_take_le (row[k]?.getD 0) row j
   simp -dsimp -implicitDefEqProofs [conRCheck_eq,hrow,pl16_all,plT,pl16Γ,pl16E,pl16P,pl15Γ,pl15E,pl15P,pl14Γ,pl14E,pl14P,pl13Γ,pl13E,pl13P,pl12Γ,pl12E,pl12P,pl11Γ,pl11E,pl11P,pl10Γ,pl10E,pl10P,pl9Γ,pl9E,pl9P,pl8Γ,pl8E,pl8P,pl7Γ,pl7E,pl7P,pl6Γ,pl6E,pl6P,pl5Γ,pl5E,pl5P,pl4Γ,pl4E,pl4P,pl3Γ,pl3E,pl3P,pl2Γ,pl2E,pl2P,pl1Γ,pl1E,pl1P,pl0Γ,pl0E,pl0P,conRTable_eq,conMajority_eq,conMapSI_pre,conMapSI_val,conSortF,conBinF_eq,conCompare_eq,conClone,conDecide_eq,conStands_eq,conColS,conMapRI,conCheck_eq,conCont_pre,conCont_val,conTable_eq,conEqual_eq,conPlaced_eq,conMapII_pre,conMapII_val,conSorted,conBin_eq,conValues_eq,conColI,conSort,conLess_eq,conNaN_eq,inI64]
   refine ⟨hlt,fun hjl=>⟨hlt,hjl,hlt,hkl,fun hb=>⟨⟨by omega,by omega⟩,⟨by omega,by omega⟩,j+1,by omega,by omega,TurnT.le ?_⟩,fun hb=>⟨⟨by omega,by omega⟩,j+1,by omega,by omega,TurnT.le ?_⟩⟩,fun hjg => ?_⟩
   ·
    have:=below_take (row[k]?.getD 0) row hjl
    simp -dsimp -implicitDefEqProofs [this,hb]
   ·
    have:=below_take (row[k]?.getD 0) row hjl
    simp -dsimp -implicitDefEqProofs [this,Int.not_lt.2 hb]
   ·
    rw [List.take_of_length_le hjg]
    exact ⟨hlt,hkl,fun hne=>(checkErr_220 hc hrm fun he=>hne ((ordRow_iff row).1 he k hkl)).symm,fun hq=>⟨⟨by omega,by omega⟩,k+1,⟨by omega,lt_succ_cases (p:=fun j=>row[j]?.getD 0=(below (row[j]?.getD 0) row:Int)+1) hko hq⟩,by omega,TurnT.le (by simp -dsimp -implicitDefEqProofs)⟩⟩
  ·
   have hq:l[i]?.getD []=ordRow (l[i]?.getD []):=by rw [hrow]; exact (ordRow_iff row).2 fun j hj=>hko j (by omega)
   exact ⟨⟨by omega,by omega⟩,i+1,⟨by omega,lt_succ_cases (p:=fun j=>l[j]?.getD []=ordRow (l[j]?.getD [])) hio hq⟩,by omega,TurnT.le (by simp -dsimp -implicitDefEqProofs)⟩
 ·
  exact (checkErr_0 hc (all_of_get [] fun j hj=>hio j (by omega))).symm
end Go.Am.Pl
namespace Go.Am.Pl
set_option maxHeartbeats 4000000
set_option maxRecDepth 20000
open Go.RowKit Go.Proofs
attribute [local simp] thenKD_normal thenKD_exit thenKD_goto thenKD_ret inBlockKD_normal inBlockKD_exit inBlockKD_goto inBlockKD_ret noGotoKD_normal noGotoKD_exit noGotoKD_goto noGotoKD_ret roundKD_normal roundKD_exit roundKD_goto roundKD_ret frzSlotsD_nil frzSlotsD_cons frzSlotD_eq yieldVCD_trace opVCD_eq vcOpsD_nil vcOpsD_cons vcAllD_zero vcAllD_succ allAtD_nil allAtD_cons readyAux edgA vcD_skip vcD_label vcD_exit vcD_goto vcD_ret vcD_region vcD_seq vcD_seqC vcD_cond vcCondD_bool vcD_block vcD_scope vcD_loop vcD_rangeFunc yieldOf isMem isMem0 keepE envLe St.le psE yieldAV round_td round_y round_Γ vI vB vS aI aB aS look getE oper opRV putE allOk okOps Op.operands Call.operands pEv qEv mEv constRV coe RV.av loadEv loadCs takeAt indexAddrEv fieldAddrEv binEv intEv arith unEv gcond pickEv argsEv callVal callEv capAV_mk lenArgs lenEv minEv extractEv convEv funcEv allBox bound sliceEv lookupEv TD.isBool allocEv boxEv storeEv spl plainTD appendEv appendArgs makeMapEv mapUpdateEv buildEv buildSliceEv fillSV zsvOf sizeTD Ty.parses parses_flats' coeA flats_length AV.good AV.cells AV.pure SV.pure av_int av_bool av_str av_slice av_cons av_fld0 av_fld1 av_fld2 av_fld3 av_fld4 Ty.of Ty.dflt Ty.parse Ty.flat Ty.zsv Ty.fld Ty.get Ty.off Ty.nfld Ty.size coeTy junk Blk.look argEnv resEv resOk resVs oneRV retOk frzAs frzAV frzL frzSV boxCaps boxCap SV.sig sigs RV.scalar AV.scalar SV.scalar nope effVCD_eq effOf SV.ids AV.ids dedup SV.ren AV.ren RV.ren idx outId mergeB Blk.pureB flats_pure flat_pure epsSlotsD_nil epsSlotsD_cons epsSlotD_eq allEp D.parts_fnOf fvParts retEff round_E av_fn G.ye isCutD_nil isCutD_cons firstReg_region firstReg_seq firstReg_skip firstReg_ret firstReg_label firstReg_exit firstReg_goto firstReg_cond firstReg_block firstReg_scope firstReg_loop firstReg_rf eptrOf_mk flOfD_nil flOfD_cons vcFlD_cons vcFlD_nil flPairs_nil flPairs_cons vcFrD_nil vcFrD_cons makeSliceEv vcCondD_ib fzEv unfl_flats isFz round_fz panVCD_eq panOf isShift strIdxEv ifaceEv nilChkEv sliceAnyEv sliceOwnEv sliceSufEv appendEv0 appendEv1 Ty.beq Ty.isAgg round_Pn vcDefD_seqR vcDefD_seqS vcDefD_seqC vcDefD_seqB vcDefD_seqL vcDefD_seqF vcDefD_seqSc vcDefD_region vcDefD_ret vcDefD_cond vcDefD_block vcDefD_loop thenKD_panic inBlockKD_panic noGotoKD_panic exitOk_normal exitOk_ret exitOk_panic exitOk_exit runDefs_none runDefs_some runDefs_cons defRegD isDefer defOf caughtCon unfl_cons D.bpart_bndOf D.parts_bndOf AV.sig
attribute [local simp ←] flats_append
theorem col_len (l:List (List Int)) (e:Int):(col l e).length=l.length:=by simp [col]
theorem col_get (l:List (List Int)) (e:Int) {i:Nat} (h:i<l.length):(col l e)[i]?.getD 0=(l[i]?.getD [])[e.toNat]?.getD 0:=by
 unfold col
 rw [List.getElem?_map,List.getElem?_eq_getElem h]; rfl
theorem sum_take (p:Int) (c:List Int) {j:Nat} (hj:j<c.length):((c.take (j+1)).filter fun x=>decide (x≤p)).sum=((c.take j).filter fun x=>decide (x≤p)).sum+if c[j]?.getD 0≤p then c[j]?.getD 0 else 0:=by
 rw [take_succ_get c hj 0,List.filter_append,List.sum_append]
 congr 1
 by_cases h:c[j]?.getD 0≤p <;> simp [h]
def conAt:Con:=⟨fun args=>(match args with
 | [.s (.sl (.slice (.int .i64)) l _),.s (.int .i64 e),.s (.int .i64 p)]=>standOk l e
 | _=>False),fun args=>match args with
 | [.s (.sl (.slice (.int .i64)) l _),.s (.int _ e),.s (.int _ p)]=>.tup [aI (stP (col l e) p).1,aI (stP (col l e) p).2.1]
 | _=>.v (.s .any)⟩
theorem conAt_eq (l:List (Ty.T (.slice tI))) (exl:Bool) (e:Int) (p:Int):conAt.pre [.s (.sl (.slice tI) l exl),.s (.int .i64 e),.s (.int .i64 p)]=(standOk l e)∧conAt.val [.s (.sl (.slice tI) l exl),.s (.int .i64 e),.s (.int .i64 p)]=.tup [aI (stP (col l e) p).1,aI (stP (col l e) p).2.1]:=⟨rfl,rfl⟩
theorem at_ok:PureOk Tryz.prog 101 conAt:=by
 refine pureOkD (L:={ live:=[0,1,2,6,7,8,9,10,14,25,41] }) pl16_good rfl pl_mixed Tryz.func101 rfl conAt 3 (by decide) (by kernel_rfl) ?_
 intro args hpre hlens
 simp only [conAt] at hpre
 split at hpre
 case h_2=>exact hpre.elim
 rename_i l ex e p
 simp only [allLen,AV.lenOk,SV.lenOk,Ty.lenOk,maxLen,and_true,implies_true,true_and,List.forall_mem_cons,List.not_mem_nil,false_implies] at hlens
 refine ⟨rfl,?_⟩
 simp -dsimp -implicitDefEqProofs [Tryz.f101,conAt_eq,pl16_all,plT,pl16Γ,pl16E,pl16P,pl15Γ,pl15E,pl15P,pl14Γ,pl14E,pl14P,pl13Γ,pl13E,pl13P,pl12Γ,pl12E,pl12P,pl11Γ,pl11E,pl11P,pl10Γ,pl10E,pl10P,pl9Γ,pl9E,pl9P,pl8Γ,pl8E,pl8P,pl7Γ,pl7E,pl7P,pl6Γ,pl6E,pl6P,pl5Γ,pl5E,pl5P,pl4Γ,pl4E,pl4P,pl3Γ,pl3E,pl3P,pl2Γ,pl2E,pl2P,pl1Γ,pl1E,pl1P,pl0Γ,pl0E,pl0P,conRTable_eq,conMajority_eq,conMapSI_pre,conMapSI_val,conSortF,conBinF_eq,conCompare_eq,conClone,conDecide_eq,conStands_eq,conColS,conMapRI,conCheck_eq,conCont_pre,conCont_val,conTable_eq,conEqual_eq,conPlaced_eq,conMapII_pre,conMapII_val,conSorted,conBin_eq,conValues_eq,conColI,conSort,conLess_eq,conNaN_eq,inI64]
 obtain ⟨h1,h2,h3,h4,h5⟩:=hpre
 have hcr:∀ n∈col l e,1≤n∧n≤10000:=fun n hn=>by
  rw [col,List.mem_map] at hn
  obtain ⟨row,hr,rfl⟩:=hn
  obtain ⟨q1,q2⟩:=h5 row hr
  rw [getD_lt (show e.toNat<row.length by omega)]
  exact q2 _ (List.getElem_mem _)
 have hcl:=col_len l e
 refine WpD.loop (L:={ live:=[0,1,2,6,7,8,9,10,14,25,41] }) pl16_good X0_ok pl_mixed (by kernel_rfl)
  (fun i:Nat=>⟨[(0,vS tRow l ex),(1,vI e),(2,vI p),(8,vI (((col l e).take i).filter fun x=>decide (x≤p)).length),(9,vI (((col l e).take i).filter fun x=>decide (x≤p)).sum),(10,vI i)],[]⟩)
  (fun i=>i≤l.length) (fun i=>l.length - i) 0 (by simp) (Turn.le (by simp -dsimp -implicitDefEqProofs)) ?_
 intro i hi
 have hfl:=filt_take_le (fun x=>decide (x≤p)) (col l e) i
 have hfs:=sum_le (((col l e).take i).filter fun x=>decide (x≤p)) (fun n hn=>hcr n (List.mem_of_mem_take (List.mem_filter.1 hn).1))
 simp -dsimp -implicitDefEqProofs [conAt_eq,pl16_all,plT,pl16Γ,pl16E,pl16P,pl15Γ,pl15E,pl15P,pl14Γ,pl14E,pl14P,pl13Γ,pl13E,pl13P,pl12Γ,pl12E,pl12P,pl11Γ,pl11E,pl11P,pl10Γ,pl10E,pl10P,pl9Γ,pl9E,pl9P,pl8Γ,pl8E,pl8P,pl7Γ,pl7E,pl7P,pl6Γ,pl6E,pl6P,pl5Γ,pl5E,pl5P,pl4Γ,pl4E,pl4P,pl3Γ,pl3E,pl3P,pl2Γ,pl2E,pl2P,pl1Γ,pl1E,pl1P,pl0Γ,pl0E,pl0P,conRTable_eq,conMajority_eq,conMapSI_pre,conMapSI_val,conSortF,conBinF_eq,conCompare_eq,conClone,conDecide_eq,conStands_eq,conColS,conMapRI,conCheck_eq,conCont_pre,conCont_val,conTable_eq,conEqual_eq,conPlaced_eq,conMapII_pre,conMapII_val,conSorted,conBin_eq,conValues_eq,conColI,conSort,conLess_eq,conNaN_eq,inI64]
 refine ⟨fun hlt => ?_,fun hge => ?_⟩
 ·
  have hrow:=h5 _ (get_mem [] hlt)
  have hcg:=col_get l e hlt
  have hf:=filt_take (fun x=>decide (x≤p)) (col l e) (j:=i) (by omega) 0
  have hs:=sum_take p (col l e) (j:=i) (by omega)
  have hv:1≤(col l e)[i]?.getD 0∧(col l e)[i]?.getD 0≤10000:=hcr _ (get_mem 0 (by omega))
  have hg:∀ x:Int,x=(l[i]?.getD [])[e.toNat]?.getD 0→x=(col l e)[i]?.getD 0:=fun x hx=>by rw [hx,hcg]
  generalize hx:(l[i]?.getD [])[e.toNat]?.getD 0=x at *
  have hx':=hg x rfl
  refine ⟨hlt,⟨h4,hrow.1⟩,fun hb=>⟨⟨by omega,by omega⟩,hlt,⟨h4,hrow.1⟩,⟨by omega,by omega⟩,⟨by omega,by omega⟩,i+1,by omega,by omega,TurnT.le ?_⟩,fun hb=>⟨⟨by omega,by omega⟩,i+1,by omega,by omega,TurnT.le ?_⟩⟩
  ·
   rw [hx'] at hb
   simp -dsimp -implicitDefEqProofs [hf,hs,hb,hx']
  ·
   rw [hx'] at hb
   simp -dsimp -implicitDefEqProofs [hf,hs,Int.not_le.2 hb]
 ·
  rw [List.take_of_length_le (show (col l e).length≤i by omega)]
  have hfl':((col l e).filter fun x=>decide (x≤p)).length≤(col l e).length:=List.length_filter_le ..
  refine ⟨⟨by omega,by omega⟩,fun hb => ?_,fun hb => ?_⟩
  ·
   rw [show stP (col l e) p=(0,0,()) from if_pos (by omega)]; exact ⟨rfl,rfl⟩
  ·
   rw [show stP (col l e) p=_ from if_neg (by omega)]; exact ⟨rfl,rfl⟩
def pl17Γ:List (FuncId×Con):=(65,conRCheck)::(101,conAt)::pl16Γ
theorem pl17Γ_ok:∀ p∈pl17Γ,(∀ (args:Array Value) (w:World),(callFunc p.1 args).run Tryz.prog w=.ok (.enter p.1 args) w)∧PureOk Tryz.prog p.1 p.2:=by
 simp only [pl17Γ,List.forall_mem_cons]
 exact ⟨⟨enters_of Tryz.func65 (by kernel_rfl) rfl,rcheck_ok⟩,⟨enters_of Tryz.func101 (by kernel_rfl) rfl,at_ok⟩,pl16Γ_ok⟩
def pl17E:List (FuncId×ECon):=pl16E
theorem pl17E_ok:∀ p∈pl17E,(∀ (args:Array Value) (w:World),(callFunc p.1 args).run Tryz.prog w=.ok (.enter p.1 args) w)∧EffOk Tryz.prog p.1 p.2:=by
 simp only [pl17E]
 exact pl16E_ok
def pl17P:List (FuncId×PCon):=pl16P
theorem pl17P_ok:∀ p∈pl17P,(∀ (args:Array Value) (w:World),(callFunc p.1 args).run Tryz.prog w=.ok (.enter p.1 args) w)∧PanOk Tryz.prog p.1 p.2:=by
 simp only [pl17P]
 exact pl16P_ok
def pl17:G:={ τ:=plT,Γ:=pl17Γ,E:=pl17E,Pn:=pl17P }
theorem pl17_good:pl17.good Tryz.prog:=good_of_all (plT_ok _ rfl) pl17Γ_ok pl17E_ok pl17P_ok
theorem pl17_all:(∀ t,pl17.td t=(look plT t).getD .other)∧pl17.y=false∧pl17.Γ=pl17Γ∧pl17.E=pl17E∧pl17.Pn=pl17P∧pl17.fz=[]:=⟨fun _=>rfl,rfl,rfl,rfl,rfl,rfl⟩
theorem dec_step {A B:List Sd} {q:Nat} (ha:q<A.length) (hb:q<B.length) {x y:Sd} (hx:A[q]?.getD (0,0,())=x) (hy:B[q]?.getD (0,0,())=y) :
  (y.1<x.1∨x.1=y.1∧x.2.1<y.2.1→dec (A.drop q) (B.drop q) = -1)∧(x.1<y.1∨x.1=y.1∧y.2.1<x.2.1→dec (A.drop q) (B.drop q)=1)∧(x.1=y.1→x.2.1=y.2.1→dec (A.drop q) (B.drop q)=dec (A.drop (q+1)) (B.drop (q+1))):=by
 subst hx; subst hy
 refine ⟨fun h => ?_,fun h => ?_,fun h1 h2=>dec_3 ha hb h1 h2⟩
 ·
  rcases h with h | ⟨h1,h2⟩
  ·
   rw [dec_1 ha hb (by omega)]
   have:=sgn_cases ((B[q]?.getD (0,0,())).1 - (A[q]?.getD (0,0,())).1)
   omega
  ·
   rw [dec_2 ha hb h1 (by omega)]
   have:=sgn_cases ((A[q]?.getD (0,0,())).2.1 - (B[q]?.getD (0,0,())).2.1)
   omega
 ·
  rcases h with h | ⟨h1,h2⟩
  ·
   rw [dec_1 ha hb (by omega)]
   have:=sgn_cases ((B[q]?.getD (0,0,())).1 - (A[q]?.getD (0,0,())).1)
   omega
  ·
   rw [dec_2 ha hb h1 (by omega)]
   have:=sgn_cases ((A[q]?.getD (0,0,())).2.1 - (B[q]?.getD (0,0,())).2.1)
   omega
def conRCmp:Con:=⟨fun args=>(match args with
 | [.s (.sl (.slice (.int .i64)) l _),.s (.int .i64 a),.s (.int .i64 b)]=>standOk l a∧standOk l b
 | _=>False),fun args=>match args with
 | [.s (.sl (.slice (.int .i64)) l _),.s (.int _ a),.s (.int _ b)]=>.v (aI (dec (standL l a) (standL l b)))
 | _=>.v (.s .any)⟩
theorem conRCmp_eq (l:List (Ty.T (.slice tI))) (exl:Bool) (a:Int) (b:Int):conRCmp.pre [.s (.sl (.slice tI) l exl),.s (.int .i64 a),.s (.int .i64 b)]=(standOk l a∧standOk l b)∧conRCmp.val [.s (.sl (.slice tI) l exl),.s (.int .i64 a),.s (.int .i64 b)]=.v (aI (dec (standL l a) (standL l b))):=⟨rfl,rfl⟩
theorem rcmp_ok:PureOk Tryz.prog 66 conRCmp:=by
 refine pureOkD (L:={ live:=[0,1,2,6,7,8,9,10,11,17,46,59] }) pl17_good rfl pl_mixed Tryz.func66 rfl conRCmp 3 (by decide) (by kernel_rfl) ?_
 intro args hpre hlens
 simp only [conRCmp] at hpre
 split at hpre
 case h_2=>exact hpre.elim
 rename_i l ex a b
 simp only [allLen,AV.lenOk,SV.lenOk,Ty.lenOk,maxLen,and_true,implies_true,true_and,List.forall_mem_cons,List.not_mem_nil,false_implies] at hlens
 refine ⟨rfl,?_⟩
 simp -dsimp -implicitDefEqProofs [Tryz.f66,conRCmp_eq,pl17_all,plT,pl17Γ,pl17E,pl17P,pl16Γ,pl16E,pl16P,pl15Γ,pl15E,pl15P,pl14Γ,pl14E,pl14P,pl13Γ,pl13E,pl13P,pl12Γ,pl12E,pl12P,pl11Γ,pl11E,pl11P,pl10Γ,pl10E,pl10P,pl9Γ,pl9E,pl9P,pl8Γ,pl8E,pl8P,pl7Γ,pl7E,pl7P,pl6Γ,pl6E,pl6P,pl5Γ,pl5E,pl5P,pl4Γ,pl4E,pl4P,pl3Γ,pl3E,pl3P,pl2Γ,pl2E,pl2P,pl1Γ,pl1E,pl1P,pl0Γ,pl0E,pl0P,conRCheck_eq,conAt_eq,conRTable_eq,conMajority_eq,conMapSI_pre,conMapSI_val,conSortF,conBinF_eq,conCompare_eq,conClone,conDecide_eq,conStands_eq,conColS,conMapRI,conCheck_eq,conCont_pre,conCont_val,conTable_eq,conEqual_eq,conPlaced_eq,conMapII_pre,conMapII_val,conSorted,conBin_eq,conValues_eq,conColI,conSort,conLess_eq,conNaN_eq,inI64]
 obtain ⟨oa,ob⟩:=hpre
 have la:=standL_len l a
 have lb:=standL_len l b
 have ga:∀ q,q<(l[0]?.getD []).length→(standL l a)[q]?.getD (0,0,())=stP (col l a) ((q:Int)+1):=fun q hq=>by
  unfold standL; rw [List.getElem?_map,List.getElem?_range hq]; rfl
 have gb:∀ q,q<(l[0]?.getD []).length→(standL l b)[q]?.getD (0,0,())=stP (col l b) ((q:Int)+1):=fun q hq=>by
  unfold standL; rw [List.getElem?_map,List.getElem?_range hq]; rfl
 refine WpD.loop (L:={ live:=[0,1,2,6,7,8,9,10,11,17,46,59] }) pl17_good X0_ok pl_mixed (by kernel_rfl)
  (fun q:Nat=>⟨[(0,vS tRow l ex),(1,vI a),(2,vI b),(7,vI (q+1))],[]⟩)
  (fun q=>q≤(l[0]?.getD []).length∧dec (standL l a) (standL l b)=dec ((standL l a).drop q) ((standL l b).drop q)) (fun q=>(l[0]?.getD []).length - q) 0 (by simp) (Turn.le (by simp -dsimp -implicitDefEqProofs)) ?_
 rintro q ⟨hq,hd⟩
 simp -dsimp -implicitDefEqProofs [conRCmp_eq,pl17_all,plT,pl17Γ,pl17E,pl17P,pl16Γ,pl16E,pl16P,pl15Γ,pl15E,pl15P,pl14Γ,pl14E,pl14P,pl13Γ,pl13E,pl13P,pl12Γ,pl12E,pl12P,pl11Γ,pl11E,pl11P,pl10Γ,pl10E,pl10P,pl9Γ,pl9E,pl9P,pl8Γ,pl8E,pl8P,pl7Γ,pl7E,pl7P,pl6Γ,pl6E,pl6P,pl5Γ,pl5E,pl5P,pl4Γ,pl4E,pl4P,pl3Γ,pl3E,pl3P,pl2Γ,pl2E,pl2P,pl1Γ,pl1E,pl1P,pl0Γ,pl0E,pl0P,conRCheck_eq,conAt_eq,conRTable_eq,conMajority_eq,conMapSI_pre,conMapSI_val,conSortF,conBinF_eq,conCompare_eq,conClone,conDecide_eq,conStands_eq,conColS,conMapRI,conCheck_eq,conCont_pre,conCont_val,conTable_eq,conEqual_eq,conPlaced_eq,conMapII_pre,conMapII_val,conSorted,conBin_eq,conValues_eq,conColI,conSort,conLess_eq,conNaN_eq,inI64]
 refine ⟨oa.1,fun hlt => ?_,fun hge=>by rw [hd,List.drop_of_length_le (by omega)]; rfl⟩
 obtain ⟨s1,s2,s3⟩:=dec_step (show q<(standL l a).length by omega) (show q<(standL l b).length by omega) (ga q (by omega)) (gb q (by omega))
 generalize stP (col l a) ((q:Int)+1)=x at *
 generalize stP (col l b) ((q:Int)+1)=y at *
 have hm:=oa.2.2.1
 exact ⟨oa,ob,fun h=>⟨h,fun h'=>⟨h,h'⟩⟩,fun h=>by rw [hd,s1 h],fun h1 h2=>⟨fun h=>⟨h,fun h'=>⟨h,h'⟩⟩,fun h=>by rw [hd,s2 h],fun h3 h4=>⟨⟨by omega,by omega⟩,q+1,⟨by omega,by rw [hd]; exact s3 (Int.le_antisymm h1 h3) (Int.le_antisymm (h4 (Int.le_antisymm h1 h3)) (h2 (Int.le_antisymm h1 h3)))⟩,by omega,TurnT.le (by simp -dsimp -implicitDefEqProofs)⟩⟩⟩
def pl18Γ:List (FuncId×Con):=(66,conRCmp)::pl17Γ
theorem pl18Γ_ok:∀ p∈pl18Γ,(∀ (args:Array Value) (w:World),(callFunc p.1 args).run Tryz.prog w=.ok (.enter p.1 args) w)∧PureOk Tryz.prog p.1 p.2:=by
 simp only [pl18Γ,List.forall_mem_cons]
 exact ⟨⟨enters_of Tryz.func66 (by kernel_rfl) rfl,rcmp_ok⟩,pl17Γ_ok⟩
def pl18E:List (FuncId×ECon):=pl17E
theorem pl18E_ok:∀ p∈pl18E,(∀ (args:Array Value) (w:World),(callFunc p.1 args).run Tryz.prog w=.ok (.enter p.1 args) w)∧EffOk Tryz.prog p.1 p.2:=by
 simp only [pl18E]
 exact pl17E_ok
def pl18P:List (FuncId×PCon):=pl17P
theorem pl18P_ok:∀ p∈pl18P,(∀ (args:Array Value) (w:World),(callFunc p.1 args).run Tryz.prog w=.ok (.enter p.1 args) w)∧PanOk Tryz.prog p.1 p.2:=by
 simp only [pl18P]
 exact pl17P_ok
def pl18:G:={ τ:=plT,Γ:=pl18Γ,E:=pl18E,Pn:=pl18P }
theorem pl18_good:pl18.good Tryz.prog:=good_of_all (plT_ok _ rfl) pl18Γ_ok pl18E_ok pl18P_ok
theorem pl18_all:(∀ t,pl18.td t=(look plT t).getD .other)∧pl18.y=false∧pl18.Γ=pl18Γ∧pl18.E=pl18E∧pl18.Pn=pl18P∧pl18.fz=[]:=⟨fun _=>rfl,rfl,rfl,rfl,rfl,rfl⟩
def conRCompare:Con:=⟨fun args=>(match args with
 | [.s (.sl (.slice (.int .i64)) l _),.s (.int .i64 a),.s (.int .i64 b)]=>True
 | _=>False),fun args=>match args with
 | [.s (.sl (.slice (.int .i64)) l _),.s (.int _ a),.s (.int _ b)]=>.tup [aI (cmpV l a b),aI (cmpErr l a b)]
 | _=>.v (.s .any)⟩
theorem conRCompare_eq (l:List (Ty.T (.slice tI))) (exl:Bool) (a:Int) (b:Int):conRCompare.pre [.s (.sl (.slice tI) l exl),.s (.int .i64 a),.s (.int .i64 b)]=(True)∧conRCompare.val [.s (.sl (.slice tI) l exl),.s (.int .i64 a),.s (.int .i64 b)]=.tup [aI (cmpV l a b),aI (cmpErr l a b)]:=⟨rfl,rfl⟩
theorem rcompare_ok:PureOk Tryz.prog 96 conRCompare:=by
 refine pureOkD (L:={ live:=[0,1,2,6,7,8,12,40] }) pl18_good rfl pl_mixed Tryz.func96 rfl conRCompare 3 (by decide) (by kernel_rfl) ?_
 intro args hpre hlens
 simp only [conRCompare] at hpre
 split at hpre
 case h_2=>exact hpre.elim
 rename_i l ex a b
 simp only [allLen,AV.lenOk,SV.lenOk,Ty.lenOk,maxLen,and_true,implies_true,true_and,List.forall_mem_cons,List.not_mem_nil,false_implies] at hlens
 refine ⟨rfl,?_⟩
 simp -dsimp -implicitDefEqProofs [Tryz.f96,conRCompare_eq,pl18_all,plT,pl18Γ,pl18E,pl18P,pl17Γ,pl17E,pl17P,pl16Γ,pl16E,pl16P,pl15Γ,pl15E,pl15P,pl14Γ,pl14E,pl14P,pl13Γ,pl13E,pl13P,pl12Γ,pl12E,pl12P,pl11Γ,pl11E,pl11P,pl10Γ,pl10E,pl10P,pl9Γ,pl9E,pl9P,pl8Γ,pl8E,pl8P,pl7Γ,pl7E,pl7P,pl6Γ,pl6E,pl6P,pl5Γ,pl5E,pl5P,pl4Γ,pl4E,pl4P,pl3Γ,pl3E,pl3P,pl2Γ,pl2E,pl2P,pl1Γ,pl1E,pl1P,pl0Γ,pl0E,pl0P,conRCmp_eq,conRCheck_eq,conAt_eq,conRTable_eq,conMajority_eq,conMapSI_pre,conMapSI_val,conSortF,conBinF_eq,conCompare_eq,conClone,conDecide_eq,conStands_eq,conColS,conMapRI,conCheck_eq,conCont_pre,conCont_val,conTable_eq,conEqual_eq,conPlaced_eq,conMapII_pre,conMapII_val,conSorted,conBin_eq,conValues_eq,conColI,conSort,conLess_eq,conNaN_eq,inI64]
 refine ⟨fun h => ?_,fun h=>⟨fun h1 h2=>⟨⟨h1,h2⟩,List.length_pos_iff.2 h1⟩,fun h1 h2 h3 h4=>⟨⟨⟨⟨h1,h2⟩,h3⟩,h4⟩,List.length_pos_iff.2 h1⟩,fun h1 => ?_,fun h1 h2 h3 h4 h5 => ?_⟩⟩
 ·
  have:=cmpErr_1 (a:=a) (b:=b) h
  exact ⟨by rw [cmpV,if_neg (by rw [this]; exact h)],this.symm⟩
 ·
  have hc:(l=[]∨(if b<a then b else a)<0)∨((l[0]?.getD []).length:Int)≤(if a<b then b else a):=by
   by_cases hl:l=[]
   ·
    exact .inl (.inl hl)
   ·
    rcases h1 with (((h1 | h1) | h1) | h1) | h1
    ·
     exact absurd h1 hl
    ·
     left; right; split <;> omega
    ·
     right; split <;> omega
    ·
     left; right; split <;> omega
    ·
     right; split <;> omega
  have:=cmpErr_2 h hc
  exact ⟨by rw [cmpV,if_neg (by rw [this]; decide)],this.symm⟩
 ·
  have he:cmpErr l a b=0:=cmpErr_3 h (by
   rintro ((q | q) | q)
   ·
    exact h1 q
   ·
    split at q <;> omega
   ·
    split at q <;> omega)
  obtain ⟨_,k0,⟨k1,k2⟩,⟨k3,k4⟩⟩:=cmpErr_ok he
  exact ⟨⟨standOk_of h k0 k1 k2,standOk_of h k0 k3 k4⟩,by rw [cmpV,if_pos he],he.symm⟩
theorem decN_succ (l:List (List Int)) (k:Nat) (t:List Sd):decN (allTo l (k+1)) t=decN (allTo l k) t+if dec (standL l k) t<0 then 1 else 0:=by
 unfold decN
 rw [allTo_succ,List.filter_append,List.length_append]
 congr 1
 by_cases h:dec (standL l k) t<0 <;> simp [h]
theorem decN_le (l:List (List Int)) (k:Nat) (t:List Sd):decN (allTo l k) t≤k:=by
 have:=List.length_filter_le (fun x=>decide (dec x t<0)) (allTo l k)
 rw [allTo_len] at this
 exact this
def conRMaj:Con:=⟨fun args=>(match args with
 | [.s (.sl (.slice (.int .i64)) l _)]=>True
 | _=>False),fun args=>match args with
 | [.s (.sl (.slice (.int .i64)) l _)]=>.tup [aS tI (majL l) false,aI (checkErr l)]
 | _=>.v (.s .any)⟩
theorem conRMaj_eq (l:List (Ty.T (.slice tI))) (exl:Bool):conRMaj.pre [.s (.sl (.slice tI) l exl)]=(True)∧conRMaj.val [.s (.sl (.slice tI) l exl)]=.tup [aS tI (majL l) false,aI (checkErr l)]:=⟨rfl,rfl⟩
theorem rmaj_ok:PureOk Tryz.prog 39 conRMaj:=by
 refine pureOkD (L:={ live:=[0,2,3,4,5,6,7,8,12,25,33,40] }) pl18_good rfl pl_mixed Tryz.func39 rfl conRMaj 1 (by decide) (by kernel_rfl) ?_
 intro args hpre hlens
 simp only [conRMaj] at hpre
 split at hpre
 case h_2=>exact hpre.elim
 rename_i l ex
 simp only [allLen,AV.lenOk,SV.lenOk,Ty.lenOk,maxLen,and_true,implies_true,true_and,List.forall_mem_cons,List.not_mem_nil,false_implies] at hlens
 refine ⟨rfl,?_⟩
 simp -dsimp -implicitDefEqProofs [Tryz.f39,conRMaj_eq,pl18_all,plT,pl18Γ,pl18E,pl18P,pl17Γ,pl17E,pl17P,pl16Γ,pl16E,pl16P,pl15Γ,pl15E,pl15P,pl14Γ,pl14E,pl14P,pl13Γ,pl13E,pl13P,pl12Γ,pl12E,pl12P,pl11Γ,pl11E,pl11P,pl10Γ,pl10E,pl10P,pl9Γ,pl9E,pl9P,pl8Γ,pl8E,pl8P,pl7Γ,pl7E,pl7P,pl6Γ,pl6E,pl6P,pl5Γ,pl5E,pl5P,pl4Γ,pl4E,pl4P,pl3Γ,pl3E,pl3P,pl2Γ,pl2E,pl2P,pl1Γ,pl1E,pl1P,pl0Γ,pl0E,pl0P,conRCmp_eq,conRCheck_eq,conAt_eq,conRTable_eq,conMajority_eq,conMapSI_pre,conMapSI_val,conSortF,conBinF_eq,conCompare_eq,conClone,conDecide_eq,conStands_eq,conColS,conMapRI,conCheck_eq,conCont_pre,conCont_val,conTable_eq,conEqual_eq,conPlaced_eq,conMapII_pre,conMapII_val,conSorted,conBin_eq,conValues_eq,conColI,conSort,conLess_eq,conNaN_eq,inI64]
 refine ⟨fun h=>if_neg (fun q=>h q.1),fun hc => ?_⟩
 obtain ⟨n,hn⟩:∃ n,n=(l[0]?.getD []).length:=⟨_,rfl⟩
 have hn4:n≤4096:=by
  by_cases hl:l=[]
  ·
   subst hl; simp at hn; omega
  ·
   rw [hn]; exact (tableErr_ok (checkErr_ok hc).1).2.1 _ (get_mem [] (List.length_pos_iff.2 hl))
 have hso:=fun (h0:0<l.length) (e:Int) (h1:0≤e) (h2:e<(l[0]?.getD []).length)=>standOk_of hc h0 h1 h2
 have hM:majL l=(allTo l n).map fun x=>(decN (allTo l n) x:Int)+1:=by
  unfold majL
  rw [← hn]
  by_cases hl:l=[]
  ·
   rw [if_neg (fun q=>q.2 hl)]
   subst hl
   simp at hn
   subst hn
   rfl
  ·
   rw [if_pos ⟨hc,hl⟩]
 have hMl:(majL l).length=n:=by rw [hM,List.length_map,allTo_len]
 refine WpD.turn _ (Turn.virt (k:=5) (t:=tI) (xs:=[]) (by simp [look])) ?_
 refine WpD.loop (L:={ live:=[0,2,3,4,5,6,7,8,12,25,33,40] }) pl18_good X0_ok pl_mixed (by kernel_rfl)
  (fun i:Nat=>⟨[(0,vS tRow l ex),(2,vS tI [] true),(3,vI 0),(5,⟨true,.v (.s (.own tI 0 i))⟩),(6,vI i)],[.arr (decide (0<i)) (tI.flats ((majL l).take i))]⟩)
  (fun i=>i≤n) (fun i=>n - i) 0 (by simp) (Turn.le (by simp -dsimp -implicitDefEqProofs)) ?_
 intro i hi
 have hmin:min i n=i:=by omega
 simp -dsimp -implicitDefEqProofs [conRMaj_eq,hMl,hmin,← hn,pl18_all,plT,pl18Γ,pl18E,pl18P,pl17Γ,pl17E,pl17P,pl16Γ,pl16E,pl16P,pl15Γ,pl15E,pl15P,pl14Γ,pl14E,pl14P,pl13Γ,pl13E,pl13P,pl12Γ,pl12E,pl12P,pl11Γ,pl11E,pl11P,pl10Γ,pl10E,pl10P,pl9Γ,pl9E,pl9P,pl8Γ,pl8E,pl8P,pl7Γ,pl7E,pl7P,pl6Γ,pl6E,pl6P,pl5Γ,pl5E,pl5P,pl4Γ,pl4E,pl4P,pl3Γ,pl3E,pl3P,pl2Γ,pl2E,pl2P,pl1Γ,pl1E,pl1P,pl0Γ,pl0E,pl0P,conRCmp_eq,conRCheck_eq,conAt_eq,conRTable_eq,conMajority_eq,conMapSI_pre,conMapSI_val,conSortF,conBinF_eq,conCompare_eq,conClone,conDecide_eq,conStands_eq,conColS,conMapRI,conCheck_eq,conCont_pre,conCont_val,conTable_eq,conEqual_eq,conPlaced_eq,conMapII_pre,conMapII_val,conSorted,conBin_eq,conValues_eq,conColI,conSort,conLess_eq,conNaN_eq,inI64]
 refine ⟨fun h0 hlt => ?_,fun hge => ?_⟩
 ·
  have oi:=hso h0 i (by omega) (by omega)
  refine WpD.loop (L:={ live:=[0,2,3,4,5,6,7,8,12,25,33,40] }) pl18_good X0_ok pl_mixed (by kernel_rfl)
   (fun k:Nat=>⟨[(0,vS tRow l ex),(2,vS tI [] true),(3,vI 0),(5,⟨true,.v (.s (.own tI 0 i))⟩),(6,vI i),(7,vI (decN (allTo l k) (standL l i)+1)),(8,vI k)],[.arr (decide (0<i)) (tI.flats ((majL l).take i))]⟩)
   (fun k=>k≤n) (fun k=>n - k) 0 (by simp) (Turn.le (by simp -dsimp -implicitDefEqProofs [decN,allTo])) ?_
  intro k hk
  have hle:=decN_le l k (standL l i)
  simp -dsimp -implicitDefEqProofs [conRMaj_eq,hMl,hmin,← hn,pl18_all,plT,pl18Γ,pl18E,pl18P,pl17Γ,pl17E,pl17P,pl16Γ,pl16E,pl16P,pl15Γ,pl15E,pl15P,pl14Γ,pl14E,pl14P,pl13Γ,pl13E,pl13P,pl12Γ,pl12E,pl12P,pl11Γ,pl11E,pl11P,pl10Γ,pl10E,pl10P,pl9Γ,pl9E,pl9P,pl8Γ,pl8E,pl8P,pl7Γ,pl7E,pl7P,pl6Γ,pl6E,pl6P,pl5Γ,pl5E,pl5P,pl4Γ,pl4E,pl4P,pl3Γ,pl3E,pl3P,pl2Γ,pl2E,pl2P,pl1Γ,pl1E,pl1P,pl0Γ,pl0E,pl0P,conRCmp_eq,conRCheck_eq,conAt_eq,conRTable_eq,conMajority_eq,conMapSI_pre,conMapSI_val,conSortF,conBinF_eq,conCompare_eq,conClone,conDecide_eq,conStands_eq,conColS,conMapRI,conCheck_eq,conCont_pre,conCont_val,conTable_eq,conEqual_eq,conPlaced_eq,conMapII_pre,conMapII_val,conSorted,conBin_eq,conValues_eq,conColI,conSort,conLess_eq,conNaN_eq,inI64]
  refine ⟨h0,fun hkl=>⟨⟨hso h0 k (by omega) (by omega),oi⟩,fun hb=>⟨⟨by omega,by omega⟩,⟨by omega,by omega⟩,k+1,by omega,by omega,TurnT.le ?_⟩,fun hb=>⟨⟨by omega,by omega⟩,k+1,by omega,by omega,TurnT.le ?_⟩⟩,fun hkg=>⟨⟨by omega,by simp only [maxLen]; omega⟩,⟨by omega,by omega⟩,i+1,by omega,by omega,TurnT.le ?_⟩⟩
  ·
   simp -dsimp -implicitDefEqProofs [decN_succ,hb]
  ·
   simp -dsimp -implicitDefEqProofs [decN_succ,Int.not_lt.2 hb]
  ·
   have hke:k=n:=by omega
   subst hke
   have hg:(majL l)[i]?.getD 0=(decN (allTo l k) (standL l i):Int)+1:=by
    rw [hM,List.getElem?_map,allTo,List.getElem?_map,List.getElem?_range hlt]; rfl
   have ht:=take_succ_get (majL l) (i:=i) (by omega) 0
   rw [hg] at ht
   simp -dsimp -implicitDefEqProofs [ht]
 ·
  have hin:i=n:=by
   rcases Nat.eq_zero_or_pos l.length with h | h
   ·
    have:l=[]:=List.length_eq_zero_iff.1 h
    subst this
    simp at hn
    omega
   ·
    have:=hge h; omega
  rw [List.take_of_length_le (by omega)]
  exact ⟨rfl,hc.symm⟩
end Go.Am.Pl
