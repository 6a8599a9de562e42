/- A last part of the proof's base. -/
import Derived.Test.YtnekjoocbfbmaaaGreatZtmStSpc1
set_option linter.all false
noncomputable section
namespace Go.Am
set_option maxHeartbeats 4000000
set_option maxRecDepth 20000
open Go.RowKit Go.Proofs
attribute [local simp] thenKD_normal thenKD_exit thenKD_goto thenKD_ret inBlockKD_normal inBlockKD_exit inBlockKD_goto inBlockKD_ret noGotoKD_normal noGotoKD_exit noGotoKD_goto noGotoKD_ret roundKD_normal roundKD_exit roundKD_goto roundKD_ret frzSlotsD_nil frzSlotsD_cons frzSlotD_eq yieldVCD_trace opVCD_eq vcOpsD_nil vcOpsD_cons vcAllD_zero vcAllD_succ allAtD_nil allAtD_cons readyAux edgA vcD_skip vcD_label vcD_exit vcD_goto vcD_ret vcD_region vcD_seq vcD_seqC vcD_cond vcCondD_bool vcD_block vcD_scope vcD_loop vcD_rangeFunc yieldOf isMem isMem0 keepE envLe St.le psE yieldAV round_td round_y round_Γ vI vB vS aI aB aS look getE oper opRV putE allOk okOps Op.operands Call.operands pEv qEv mEv constRV coe RV.av loadEv loadCs takeAt indexAddrEv fieldAddrEv binEv intEv arith unEv gcond pickEv argsEv callVal callEv capAV_mk lenArgs lenEv minEv extractEv convEv funcEv allBox bound sliceEv lookupEv TD.isBool allocEv boxEv storeEv spl plainTD appendEv appendArgs makeMapEv mapUpdateEv buildEv buildSliceEv fillSV zsvOf sizeTD Ty.parses parses_flats' coeA flats_length AV.good AV.cells AV.pure SV.pure av_int av_bool av_str av_slice av_cons av_fld0 av_fld1 av_fld2 av_fld3 av_fld4 Ty.of Ty.dflt Ty.parse Ty.flat Ty.zsv Ty.fld Ty.get Ty.off Ty.nfld Ty.size coeTy junk Blk.look argEnv resEv resOk resVs oneRV retOk frzAs frzAV frzL frzSV boxCaps boxCap SV.sig sigs RV.scalar AV.scalar SV.scalar nope effVCD_eq effOf SV.ids AV.ids dedup SV.ren AV.ren RV.ren idx outId mergeB Blk.pureB flats_pure flat_pure epsSlotsD_nil epsSlotsD_cons epsSlotD_eq allEp D.parts_fnOf fvParts retEff round_E av_fn G.ye isCutD_nil isCutD_cons firstReg_region firstReg_seq firstReg_skip firstReg_ret firstReg_label firstReg_exit firstReg_goto firstReg_cond firstReg_block firstReg_scope firstReg_loop firstReg_rf eptrOf_mk flOfD_nil flOfD_cons vcFlD_cons vcFlD_nil flPairs_nil flPairs_cons vcFrD_nil vcFrD_cons makeSliceEv vcCondD_ib fzEv unfl_flats isFz round_fz panVCD_eq panOf isShift strIdxEv ifaceEv nilChkEv sliceAnyEv sliceOwnEv sliceSufEv appendEv0 appendEv1 Ty.beq Ty.isAgg round_Pn vcDefD_seqR vcDefD_seqS vcDefD_seqC vcDefD_seqB vcDefD_seqL vcDefD_seqF vcDefD_seqSc vcDefD_region vcDefD_ret vcDefD_cond vcDefD_block vcDefD_loop thenKD_panic inBlockKD_panic noGotoKD_panic exitOk_normal exitOk_ret exitOk_panic exitOk_exit runDefs_none runDefs_some runDefs_cons defRegD isDefer defOf caughtCon unfl_cons D.bpart_bndOf D.parts_bndOf AV.sig
attribute [local simp ←] flats_append
theorem frst_tC {ks:List tKey.T} {a b:tKd.T} (hp:plainB ks=true) (ha:rightE ks a) (hb:rightE ks b):frstC ks a b=tC ks a b∧frstB ks a b=tB ks a b:=by
 have e:fstLs ks=headF::ks.map fstF:=by unfold fstLs; rw [known_all hp]
 unfold rightE at ha hb
 have ht:tieOk ks a b=true:=by simp only [tieOk,hp,ha,hb,Bool.not_false,Bool.and_self]
 unfold frstC frstB tC tB
 rw [if_pos ht,if_pos ht,e]
 exact ⟨rfl,rfl⟩
theorem tie_right (ks:List tKey.T) (a b:tKd.T):tieOk ks a b=(plainB ks&&(rightB ks a&&rightB ks b)):=by
 unfold tieOk
 cases h:plainB ks with
 | false=>rfl
 | true=>rw [rightB_wrong h a,rightB_wrong h b]
def rf1Γ:List (FuncId×Con):=re4Γ
theorem rf1Γ_ok:∀ p∈rf1Γ,(∀ (args:Array Value) (w:World),(callFunc p.1 args).run Tryz.prog w=.ok (.enter p.1 args) w)∧PureOk Tryz.prog p.1 p.2:=by
 simp only [rf1Γ]
 exact re4Γ_ok
def rf1E:List (FuncId×ECon):=re4E
theorem rf1E_ok:∀ p∈rf1E,(∀ (args:Array Value) (w:World),(callFunc p.1 args).run Tryz.prog w=.ok (.enter p.1 args) w)∧EffOk Tryz.prog p.1 p.2:=by
 simp only [rf1E]
 exact re4E_ok
def rf1P:List (FuncId×PCon):=re4P
theorem rf1P_ok:∀ p∈rf1P,(∀ (args:Array Value) (w:World),(callFunc p.1 args).run Tryz.prog w=.ok (.enter p.1 args) w)∧PanOk Tryz.prog p.1 p.2:=by
 simp only [rf1P]
 exact re4P_ok
def rf1:G:={ τ:=reT,Γ:=rf1Γ,E:=rf1E,Pn:=rf1P }
theorem rf1_good:rf1.good Tryz.prog:=good_of_all (reT_ok _ rfl) rf1Γ_ok rf1E_ok rf1P_ok
theorem rf1_all:(∀ t,rf1.td t=(look reT t).getD .other)∧rf1.y=false∧rf1.Γ=rf1Γ∧rf1.E=rf1E∧rf1.Pn=rf1P∧rf1.fz=[]:=⟨fun _=>rfl,rfl,rfl,rfl,rfl,rfl⟩
def conRTCmp:Con:=⟨fun args=>(match args with
 | [.s (.sl (.cons (.int .i64) (.cons .str (.cons (.int .i64) .nil))) ks _),.agg [.int .i64 en,.bool n1,.sl (.int .i64) m1 _,.bool n2,.sl (.int .i64) m2 _,.sl (.cons (.cons .bool (.cons (.slice (.int .i64)) .nil)) (.cons (.cons .bool (.cons (.slice (.int .i64)) .nil)) .nil)) tot _,.sl (.cons (.cons .bool (.cons (.slice (.int .i64)) .nil)) (.cons (.cons .bool (.cons (.slice (.int .i64)) .nil)) .nil)) prv _,.int .i64 hi,.int .i64 bo,.int .i64 lo],.agg [.int .i64 en',.bool n1',.sl (.int .i64) m1' _,.bool n2',.sl (.int .i64) m2' _,.sl (.cons (.cons .bool (.cons (.slice (.int .i64)) .nil)) (.cons (.cons .bool (.cons (.slice (.int .i64)) .nil)) .nil)) tot' _,.sl (.cons (.cons .bool (.cons (.slice (.int .i64)) .nil)) (.cons (.cons .bool (.cons (.slice (.int .i64)) .nil)) .nil)) prv' _,.int .i64 hi',.int .i64 bo',.int .i64 lo']]=>ks.length≤10000
 | _=>False),fun args=>match args with
 | [.s (.sl (.cons (.int .i64) (.cons .str (.cons (.int .i64) .nil))) ks _),.agg [.int _ en,.bool n1,.sl (.int .i64) m1 _,.bool n2,.sl (.int .i64) m2 _,.sl (.cons (.cons .bool (.cons (.slice (.int .i64)) .nil)) (.cons (.cons .bool (.cons (.slice (.int .i64)) .nil)) .nil)) tot _,.sl (.cons (.cons .bool (.cons (.slice (.int .i64)) .nil)) (.cons (.cons .bool (.cons (.slice (.int .i64)) .nil)) .nil)) prv _,.int _ hi,.int _ bo,.int _ lo],.agg [.int _ en',.bool n1',.sl (.int .i64) m1' _,.bool n2',.sl (.int .i64) m2' _,.sl (.cons (.cons .bool (.cons (.slice (.int .i64)) .nil)) (.cons (.cons .bool (.cons (.slice (.int .i64)) .nil)) .nil)) tot' _,.sl (.cons (.cons .bool (.cons (.slice (.int .i64)) .nil)) (.cons (.cons .bool (.cons (.slice (.int .i64)) .nil)) .nil)) prv' _,.int _ hi',.int _ bo',.int _ lo']]=>.tup [aI (tC ks (mkK en n1 m1 n2 m2 tot prv hi bo lo) (mkK en' n1' m1' n2' m2' tot' prv' hi' bo' lo')),aI (tB ks (mkK en n1 m1 n2 m2 tot prv hi bo lo) (mkK en' n1' m1' n2' m2' tot' prv' hi' bo' lo')),aI (tE ks (mkK en n1 m1 n2 m2 tot prv hi bo lo) (mkK en' n1' m1' n2' m2' tot' prv' hi' bo' lo'))]
 | _=>.v (.s .any)⟩
theorem conRTCmp_eq (ks:List (Ty.T tKey)) (exks:Bool) (en:Int) (n1:Bool) (m1:List (Ty.T tI)) (exm1:Bool) (n2:Bool) (m2:List (Ty.T tI)) (exm2:Bool) (tot:List (Ty.T tRat)) (extot:Bool) (prv:List (Ty.T tRat)) (exprv:Bool) (hi:Int) (bo:Int) (lo:Int) (en':Int) (n1':Bool) (m1':List (Ty.T tI)) (exm1':Bool) (n2':Bool) (m2':List (Ty.T tI)) (exm2':Bool) (tot':List (Ty.T tRat)) (extot':Bool) (prv':List (Ty.T tRat)) (exprv':Bool) (hi':Int) (bo':Int) (lo':Int):conRTCmp.pre [.s (.sl tKey ks exks),.agg [.int .i64 en,.bool n1,.sl tI m1 exm1,.bool n2,.sl tI m2 exm2,.sl tRat tot extot,.sl tRat prv exprv,.int .i64 hi,.int .i64 bo,.int .i64 lo],.agg [.int .i64 en',.bool n1',.sl tI m1' exm1',.bool n2',.sl tI m2' exm2',.sl tRat tot' extot',.sl tRat prv' exprv',.int .i64 hi',.int .i64 bo',.int .i64 lo']]=(ks.length≤10000)∧conRTCmp.val [.s (.sl tKey ks exks),.agg [.int .i64 en,.bool n1,.sl tI m1 exm1,.bool n2,.sl tI m2 exm2,.sl tRat tot extot,.sl tRat prv exprv,.int .i64 hi,.int .i64 bo,.int .i64 lo],.agg [.int .i64 en',.bool n1',.sl tI m1' exm1',.bool n2',.sl tI m2' exm2',.sl tRat tot' extot',.sl tRat prv' exprv',.int .i64 hi',.int .i64 bo',.int .i64 lo']]=.tup [aI (tC ks (mkK en n1 m1 n2 m2 tot prv hi bo lo) (mkK en' n1' m1' n2' m2' tot' prv' hi' bo' lo')),aI (tB ks (mkK en n1 m1 n2 m2 tot prv hi bo lo) (mkK en' n1' m1' n2' m2' tot' prv' hi' bo' lo')),aI (tE ks (mkK en n1 m1 n2 m2 tot prv hi bo lo) (mkK en' n1' m1' n2' m2' tot' prv' hi' bo' lo'))]:=⟨rfl,rfl⟩
theorem rtcmp_ok:PureOk Tryz.prog 97 conRTCmp:=by
 refine pureOkD (L:={ live:=[0,1,2,4,5,6,7,8,9,10,25] }) rf1_good rfl nr_mixed Tryz.func97 rfl conRTCmp 3 (by decide) (by kernel_rfl) ?_
 intro args hpre hlens
 simp only [conRTCmp] at hpre
 split at hpre
 case h_2=>exact hpre.elim
 rename_i ks ek en n1 m1 e1 n2 m2 e2 tot et prv ep hi bo lo en' n1' m1' e1' n2' m2' e2' tot' et' prv' ep' hi' bo' lo'
 simp only [allLen,AV.lenOk,SV.lenOk,Ty.lenOk,maxLen,and_true,implies_true,true_and,List.forall_mem_cons,List.not_mem_nil,false_implies] at hlens
 refine ⟨rfl,?_⟩
 simp -dsimp -implicitDefEqProofs [Tryz.f97,conRTCmp_eq,-Prod.forall,-Bool.forall_bool,-Prod.exists,-Bool.exists_bool,rf1_all,reT,rf1Γ,rf1E,rf1P,re4Γ,re4E,re4P,re3Γ,re3E,re3P,re2Γ,re2E,re2P,re1Γ,re1E,re1P,re0Γ,re0E,re0P,conRPlain_eq,conRRight_eq,conFrst_eq,conByK_eq,conRFew_eq,conRtios_eq,conInts_eq,conRatC_eq,conCmpR_eq,inI64]
 have ht:=tie_right ks (mkK en n1 m1 n2 m2 tot prv hi bo lo) (mkK en' n1' m1' n2' m2' tot' prv' hi' bo' lo')
 refine ⟨fun h => ?_,fun h1 h2 h3 => ?_⟩
 ·
  have hf:tieOk ks (mkK en n1 m1 n2 m2 tot prv hi bo lo) (mkK en' n1' m1' n2' m2' tot' prv' hi' bo' lo')=false:=by
   rw [ht]
   rcases h with (h | h) | h <;> simp [h]
  simp [tC,tB,tE,hf]
 ·
  have hf:tieOk ks (mkK en n1 m1 n2 m2 tot prv hi bo lo) (mkK en' n1' m1' n2' m2' tot' prv' hi' bo' lo')=true:=by
   rw [ht,h1,h2,h3]; rfl
  obtain ⟨fx,hx⟩:=fair_right h2
  obtain ⟨fy,hy⟩:=fair_right h3
  have r1:rightE ks (mkK en n1 m1 n2 m2 tot prv hi bo lo):=by
   have:=rightB_wrong h1 (mkK en n1 m1 n2 m2 tot prv hi bo lo)
   rw [h2] at this
   unfold rightE
   cases hq:wrongV (hasLs ks) (mkK en n1 m1 n2 m2 tot prv hi bo lo) with
   | false=>rfl
   | true=>rw [hq] at this; cases this
  have r2:rightE ks (mkK en' n1' m1' n2' m2' tot' prv' hi' bo' lo'):=by
   have:=rightB_wrong h1 (mkK en' n1' m1' n2' m2' tot' prv' hi' bo' lo')
   rw [h3] at this
   unfold rightE
   cases hq:wrongV (hasLs ks) (mkK en' n1' m1' n2' m2' tot' prv' hi' bo' lo') with
   | false=>rfl
   | true=>rw [hq] at this; cases this
  obtain ⟨q1,q2⟩:=frst_tC h1 r1 r2
  refine ⟨⟨hpre,fun k hk=>⟨hx k hk,hy k hk⟩,fx,fy⟩,q1,q2,?_⟩
  unfold tE
  rw [if_pos hf]
def sc2 (a:tKd.T) (r:tRat.T):tKd.T:=(a.1,r,a.2.2)
theorem key_sc2 (a b:tKd.T) (r:tRat.T):∀ (ls:List tKey.T) (i:Nat),cmpAt (sc2 a r) (sc2 b r) (ls.map fstF) i=cmpAt a b (ls.map fstF) i
 | [],_=>rfl
 | k::t,i=>by
  have e:cmpF (fstF k) (sc2 a r) (sc2 b r)=cmpF (fstF k) a b:=by rw [cmpF_fst,cmpF_fst]; rfl
  show (if cmpF (fstF k) (sc2 a r) (sc2 b r)=0 then cmpAt (sc2 a r) (sc2 b r) (t.map fstF) (i+1) else (cmpF (fstF k) (sc2 a r) (sc2 b r),(i:Int)))=(if cmpF (fstF k) a b=0 then cmpAt a b (t.map fstF) (i+1) else (cmpF (fstF k) a b,(i:Int)))
  rw [e,key_sc2 a b r t (i+1)]
theorem right_sc2 {ks:List tKey.T} {a b:tKd.T} (ha:rightE ks a) (hb:rightE ks b):rightE ks (sc2 a b.2.1):=right_with ha hb
theorem tC_sc2 {ks:List tKey.T} (hp:plainB ks=true) {a b c:tKd.T} (ha:rightE ks a) (hb:rightE ks b) (hc:rightE ks c) :
  tC ks (sc2 a c.2.1) (sc2 b c.2.1)=(cmpAt a b ((ks.takeWhile known).map fstF) 1).1∧tB ks (sc2 a c.2.1) (sc2 b c.2.1)=(cmpAt a b ((ks.takeWhile known).map fstF) 1).2:=by
 have h1:=right_sc2 ha hc
 have h2:=right_sc2 hb hc
 have ht:tieOk ks (sc2 a c.2.1) (sc2 b c.2.1)=true:=by
  unfold rightE at h1 h2
  simp only [tieOk,hp,h1,h2,Bool.not_false,Bool.and_self]
 have hz:cmpF headF (sc2 a c.2.1) (sc2 b c.2.1)=0:=by
  rw [cmpF_head]
  have h0:=(right_ok hc).1
  have:=ordr_great.anti c.2.1 c.2.1 h0 h0
  show greatR c.2.1 c.2.1=0
  omega
 have e:cmpAt (sc2 a c.2.1) (sc2 b c.2.1) (fstLs ks) 0=cmpAt a b ((ks.takeWhile known).map fstF) 1:=by
  show cmpAt (sc2 a c.2.1) (sc2 b c.2.1) (headF::(ks.takeWhile known).map fstF) 0=_
  simp only [cmpAt]
  rw [if_pos hz,key_sc2]
 unfold tC tB
 rw [if_pos ht,if_pos ht,e]
 exact ⟨rfl,rfl⟩
theorem tC_any {ks:List tKey.T} (hp:plainB ks=true) {a b c:tKd.T} (ha:rightE ks a) (hb:rightE ks b) (hc:rightE ks c) :
  tC ks (sc2 a c.2.1) (sc2 b c.2.1)=tC ks (withSc a b) b∧tB ks (sc2 a c.2.1) (sc2 b c.2.1)=tB ks (withSc a b) b:=by
 have h1:=tC_sc2 hp ha hb hc
 have h2:=tC_sc2 hp ha hb hb
 exact ⟨h1.1.trans h2.1.symm,h1.2.trans h2.2.symm⟩
def rf2Γ:List (FuncId×Con):=(97,conRTCmp)::(96,Pl.conRCompare)::st0Γ
theorem rf2Γ_ok:∀ p∈rf2Γ,(∀ (args:Array Value) (w:World),(callFunc p.1 args).run Tryz.prog w=.ok (.enter p.1 args) w)∧PureOk Tryz.prog p.1 p.2:=by
 simp only [rf2Γ,List.forall_mem_cons]
 exact ⟨⟨enters_of Tryz.func97 (by kernel_rfl) rfl,rtcmp_ok⟩,⟨enters_of Tryz.func96 (by kernel_rfl) rfl,Pl.rcompare_ok⟩,st0Γ_ok⟩
def rf2E:List (FuncId×ECon):=st0E
theorem rf2E_ok:∀ p∈rf2E,(∀ (args:Array Value) (w:World),(callFunc p.1 args).run Tryz.prog w=.ok (.enter p.1 args) w)∧EffOk Tryz.prog p.1 p.2:=by
 simp only [rf2E]
 exact st0E_ok
def rf2P:List (FuncId×PCon):=st0P
theorem rf2P_ok:∀ p∈rf2P,(∀ (args:Array Value) (w:World),(callFunc p.1 args).run Tryz.prog w=.ok (.enter p.1 args) w)∧PanOk Tryz.prog p.1 p.2:=by
 simp only [rf2P]
 exact st0P_ok
def rf2:G:={ τ:=stT,Γ:=rf2Γ,E:=rf2E,Pn:=rf2P }
theorem rf2_good:rf2.good Tryz.prog:=good_of_all (stT_ok _ rfl) rf2Γ_ok rf2E_ok rf2P_ok
theorem rf2_all:(∀ t,rf2.td t=(look stT t).getD .other)∧rf2.y=false∧rf2.Γ=rf2Γ∧rf2.E=rf2E∧rf2.Pn=rf2P∧rf2.fz=[]:=⟨fun _=>rfl,rfl,rfl,rfl,rfl,rfl⟩
def conRfCmp:Con:=⟨fun args=>(match args with
 | [.s (.sl (.slice (.int .i64)) ord _),.s (.bool m),.s (.sl (.cons (.int .i64) (.cons .str (.cons (.int .i64) .nil))) ks _),.s (.sl (.cons (.int .i64) (.cons (.cons (.cons .bool (.cons (.slice (.int .i64)) .nil)) (.cons (.cons .bool (.cons (.slice (.int .i64)) .nil)) .nil)) (.cons (.slice (.cons (.cons .bool (.cons (.slice (.int .i64)) .nil)) (.cons (.cons .bool (.cons (.slice (.int .i64)) .nil)) .nil))) (.cons (.slice (.cons (.cons .bool (.cons (.slice (.int .i64)) .nil)) (.cons (.cons .bool (.cons (.slice (.int .i64)) .nil)) .nil))) (.cons (.int .i64) (.cons (.int .i64) (.cons (.int .i64) .nil))))))) l _),.s (.int .i64 i),.s (.int .i64 k)]=>(inLn l i∧inLn l k)∧ks.length≤10000∧chkS ks l=0∧(m=true→Pl.checkErr ord=0∧¬ rowsE ord l)
 | _=>False),fun args=>match args with
 | [.s (.sl (.slice (.int .i64)) ord _),.s (.bool m),.s (.sl (.cons (.int .i64) (.cons .str (.cons (.int .i64) .nil))) ks _),.s (.sl (.cons (.int .i64) (.cons (.cons (.cons .bool (.cons (.slice (.int .i64)) .nil)) (.cons (.cons .bool (.cons (.slice (.int .i64)) .nil)) .nil)) (.cons (.slice (.cons (.cons .bool (.cons (.slice (.int .i64)) .nil)) (.cons (.cons .bool (.cons (.slice (.int .i64)) .nil)) .nil))) (.cons (.slice (.cons (.cons .bool (.cons (.slice (.int .i64)) .nil)) (.cons (.cons .bool (.cons (.slice (.int .i64)) .nil)) .nil))) (.cons (.int .i64) (.cons (.int .i64) (.cons (.int .i64) .nil))))))) l _),.s (.int _ i),.s (.int _ k)]=>.tup [aI (firC m (l,ks,ord,()) i k),aI (firB m (l,ks,ord,()) i k)]
 | _=>.v (.s .any)⟩
theorem conRfCmp_eq (ord:List (Ty.T (.slice tI))) (exord:Bool) (m:Bool) (ks:List (Ty.T tKey)) (exks:Bool) (l:List (Ty.T tKd)) (exl:Bool) (i:Int) (k:Int):conRfCmp.pre [.s (.sl (.slice tI) ord exord),.s (.bool m),.s (.sl tKey ks exks),.s (.sl tKd l exl),.s (.int .i64 i),.s (.int .i64 k)]=((inLn l i∧inLn l k)∧ks.length≤10000∧chkS ks l=0∧(m=true→Pl.checkErr ord=0∧¬ rowsE ord l))∧conRfCmp.val [.s (.sl (.slice tI) ord exord),.s (.bool m),.s (.sl tKey ks exks),.s (.sl tKd l exl),.s (.int .i64 i),.s (.int .i64 k)]=.tup [aI (firC m (l,ks,ord,()) i k),aI (firB m (l,ks,ord,()) i k)]:=⟨rfl,rfl⟩
theorem rfcmp_ok:PureOk Tryz.prog 57 conRfCmp:=by
 refine pureOkD (L:={ live:=[0,1,2,3,4,5,12,13,14,15,16,18,19,29,38] }) rf2_good rfl nr_mixed Tryz.func57 rfl conRfCmp 6 (by decide) (by kernel_rfl) ?_
 intro args hpre hlens
 simp only [conRfCmp] at hpre
 split at hpre
 case h_2=>exact hpre.elim
 rename_i ord eo m ks ek l el i k
 simp only [allLen,AV.lenOk,SV.lenOk,Ty.lenOk,maxLen,and_true,implies_true,true_and,List.forall_mem_cons,List.not_mem_nil,false_implies] at hlens
 obtain ⟨⟨hi,hk⟩,hkl,hc,ho⟩:=hpre
 refine ⟨rfl,?_⟩
 simp -dsimp -implicitDefEqProofs [Tryz.f57,conRfCmp_eq,-Prod.forall,-Bool.forall_bool,-Prod.exists,-Bool.exists_bool,rf2_all,stT,rf2Γ,rf2E,rf2P,st0Γ,st0E,st0P,conRTCmp_eq,Pl.conRCompare_eq,inI64]
 obtain ⟨p1,p2⟩:=chk_right hc
 have h0:inLn l 0:=⟨Int.le_refl _,by have:=hi.1; have:=hi.2; omega⟩
 obtain ⟨s1,s2⟩:=tC_any p1 (p2 _ (enAt_mem hi)) (p2 _ (enAt_mem hk)) (p2 _ (enAt_mem h0))
 refine ⟨hi,hk,fun hm => ?_,fun hm => ?_⟩
 ·
  subst hm
  have e1:firC true (l,ks,ord,()) i k=if Pl.cmpV ord i k≠0 then Pl.cmpV ord i k else tC ks (withSc (enAt l i) (enAt l k)) (enAt l k):=if_pos rfl
  have e2:firB true (l,ks,ord,()) i k=if Pl.cmpV ord i k≠0 then 0 else tB ks (withSc (enAt l i) (enAt l k)) (enAt l k):=if_pos rfl
  rw [e1,e2]
  refine ⟨fun h=>⟨(if_pos h).symm,(if_pos h).symm⟩,fun h=>⟨by have:=h0.2; omega,hkl,?_,?_⟩⟩
  ·
   rw [if_neg (fun q=>q h)]; exact s1
  ·
   rw [if_neg (fun q=>q h)]; exact s2
 ·
  subst hm
  rw [firC_scE,firB_scE]
  exact ⟨hkl,rfl,rfl⟩
def doneL (o:List Int) (n t:Nat):List Bool:=(List.range n).map fun i:Nat=>decide ((i:Int)∈o.take t)
theorem doneL_len (o:List Int) (n t:Nat):(doneL o n t).length=n:=by simp [doneL]
theorem doneL_zero (o:List Int) (n:Nat):doneL o n 0=List.replicate n false:=by
 unfold doneL
 apply List.ext_getElem
 ·
  simp
 ·
  intro i h1 h2; simp
theorem doneL_at {o:List Int} {n t i:Nat} (h:i<(doneL o n t).length):(doneL o n t)[i]=decide ((i:Int)∈o.take t):=by simp [doneL]
theorem doneL_succ {o:List Int} {n t k:Nat} (ht:t<o.length) (hk:o[t]=(k:Int)):(doneL o n t).set k true=doneL o n (t+1):=by
 apply List.ext_getElem
 ·
  simp [doneL]
 ·
  intro i h1 h2
  rw [List.getElem_set,doneL_at,doneL_at]
  rw [List.take_add_one,List.getElem?_eq_getElem ht,hk]
  by_cases e:k=i
  ·
   subst e; simp
  ·
   rw [if_neg e]
   have:((i:Int)=(k:Int))=False:=eq_false (by omega)
   simp [this]
section
variable {m:Bool} {v:tLst.T}
theorem OrdV.pos (h:OrdV m v) {i:Nat} (hi:i<List.length v.1):∃ s,∃ hs:s<(ordO m v).length,(ordO m v)[s]=(i:Int):=by
 have hm:(i:Int)∈ordO m v:=h.perm.1.mem_iff.2 (List.mem_map.2 ⟨i,List.mem_range.2 hi,rfl⟩)
 obtain ⟨s,hs,he⟩:=List.mem_iff_getElem.1 hm
 exact ⟨s,hs,he⟩
theorem OrdV.take_iff (h:OrdV m v) {t s:Nat} (hs:s<(ordO m v).length):(ordO m v)[s]∈(ordO m v).take t↔s<t:=by
 constructor
 ·
  intro hm
  obtain ⟨j,hj,he⟩:=List.mem_take_iff_getElem.1 hm
  have:=(List.getElem_inj h.nodup).1 he
  omega
 ·
  intro hlt
  exact List.mem_take_iff_getElem.2 ⟨s,by omega,rfl⟩
theorem OrdV.bef (h:OrdV m v) {a b:Nat} (hab:a<b) (hb:b<(ordO m v).length):befR m v ((ordO m v)[a]'(by omega)) (ordO m v)[b]<0:=by
 have h1:=List.pairwise_iff_getElem.1 h.perm.2 a b (by omega) hb hab
 rcases Int.lt_or_eq_of_le h1 with q | q
 ·
  exact q
 ·
  have ia:=h.inl _ (List.getElem_mem (show a<(ordO m v).length by omega))
  have ib:=h.inl _ (List.getElem_mem hb)
  have:=h.good.2.2 _ _ ia ib q
  have:=(List.getElem_inj h.nodup).1 this
  omega
def bestB (m:Bool) (v:tLst.T) (t i q:Nat):Prop:=∀ j,j<q→(j:Int)∉(ordO m v).take t→j≠i→¬ befR m v (j:Int) (i:Int)<0
theorem OrdV.best (h:OrdV m v) {t i:Nat} (ht:t<List.length v.1) (hi:i<List.length v.1) (hn:(i:Int)∉(ordO m v).take t):bestB m v t i (List.length v.1)↔(ordO m v)[t]?.getD 0=(i:Int):=by
 have hl:=h.len
 obtain ⟨s,hs,he⟩:=h.pos hi
 have hst:t≤s:=by
  rcases Nat.lt_or_ge s t with q | q
  ·
   exact absurd (by rw [← he]; exact (h.take_iff hs).2 q) hn
  ·
   exact q
 have htl:t<(ordO m v).length:=by omega
 rw [List.getElem?_eq_getElem htl,Option.getD_some]
 constructor
 ·
  intro hb
  rcases Nat.lt_or_eq_of_le hst with q | q
  ·
   exfalso
   have h1:=h.bef q hs
   have h0:=h.inl _ (List.getElem_mem htl)
   obtain ⟨j,hj⟩:∃ j:Nat,(ordO m v)[t]=(j:Int):=⟨((ordO m v)[t]).toNat,by have:=h0.1; omega⟩
   have hjl:j<List.length v.1:=by have:=h0.2; omega
   refine hb j hjl ?_ (fun e => ?_) (by rw [← hj,← he]; exact h1)
   ·
    rw [← hj]; intro hm; have:=(h.take_iff htl).1 hm; omega
   ·
    subst e
    have:=(List.getElem_inj h.nodup).1 (he.trans hj.symm)
    omega
  ·
   subst q; exact he
 ·
  intro ho j hj hnj hji hlt
  obtain ⟨r,hr,hre⟩:=h.pos hj
  have hrt:t≤r:=by
   rcases Nat.lt_or_ge r t with q | q
   ·
    exact absurd (by rw [← hre]; exact (h.take_iff hr).2 q) hnj
   ·
    exact q
  rcases Nat.lt_or_eq_of_le hrt with q | q
  ·
   have h1:=h.bef q hr
   have ia:=h.inl _ (List.getElem_mem htl)
   have ib:=h.inl _ (List.getElem_mem hr)
   have:=h.good.2.1.anti _ _ ia ib
   rw [ho,hre] at this h1
   omega
  ·
   subst q
   rw [hre] at ho
   omega
def aheadN (m:Bool) (v:tLst.T) (i q:Nat):Nat:=((List.range q).filter fun j:Nat=>decide (firC m v (j:Int) (i:Int)<0)).length
theorem aheadN_zero (m:Bool) (v:tLst.T) (i:Nat):aheadN m v i 0=0:=rfl
theorem aheadN_succ (m:Bool) (v:tLst.T) (i q:Nat):aheadN m v i (q+1)=if firC m v (q:Int) (i:Int)<0 then aheadN m v i q+1 else aheadN m v i q:=by
 unfold aheadN
 rw [List.range_succ,List.filter_append,List.length_append]
 by_cases h:firC m v (q:Int) (i:Int)<0 <;> simp [h]
theorem filt_lt (n:Nat) (R:Int) (h1:1≤R) (h2:R≤n):(((List.range n).filter fun r:Nat=>decide ((r:Int)+1<R)).length:Int)=R - 1:=by
 induction n generalizing R with
 | zero=>omega
 | succ n ih =>
  rw [List.range_succ,List.filter_append,List.length_append]
  rcases Int.lt_or_eq_of_le h2 with q | q
  ·
   have:=ih R h1 (by omega)
   have e:([n].filter fun r:Nat=>decide ((r:Int)+1<R))=[]:=by simp; omega
   rw [e]; simp only [List.length_nil]; omega
  ·
   subst q
   have:((List.range n).filter fun r:Nat=>decide ((r:Int)+1<((n+1:Nat):Int)))=List.range n:=by
    rw [List.filter_eq_self]
    intro a ha
    have:=List.mem_range.1 ha
    simp; omega
   rw [this]
   have e:([n].filter fun r:Nat=>decide ((r:Int)+1<((n+1:Nat):Int)))=[]:=by simp
   rw [e]; simp
theorem OrdV.ahead (h:OrdV m v) {t i:Nat} (hl:List.length v.1≤4096) (ht:t<List.length v.1) (ho:(ordO m v)[t]?.getD 0=(i:Int)):(aheadN m v i (List.length v.1):Int)+1=rankT m v (ordO m v) t:=by
 have hlen:=h.len
 have e1:aheadN m v i (List.length v.1)=((ordO m v).filter fun x=>decide (firC m v x (i:Int)<0)).length:=by
  have:=(h.perm.1.filter fun x=>decide (firC m v x (i:Int)<0)).length_eq
  rw [this]
  unfold aheadN idsT
  rw [List.filter_map,List.length_map]
  rfl
 have e2:((ordO m v).filter fun x=>decide (firC m v x (i:Int)<0)).length=((List.range (List.length v.1)).filter fun r:Nat=>decide ((r:Int)+1<rankT m v (ordO m v) t)).length:=by
  have hmap:(List.range (List.length v.1)).map (fun r=>(ordO m v)[r]?.getD 0)=ordO m v:=by
   apply List.ext_getElem
   ·
    simp [hlen]
   ·
    intro r h1 h2
    simp [List.getElem?_eq_getElem h2]
  conv=>lhs; rw [← hmap]
  rw [List.filter_map,List.length_map]
  congr 1
  refine List.filter_congr fun r hr => ?_
  have hr:=List.mem_range.1 hr
  have q1:=h.lt (a:=r) (b:=t) hr ht
  rw [ho] at q1
  have hok:=(chkErr_0.1 (h.chk hl)).2
  have q2:=rk_lt hok (i:=t) (k:=r) (by rw [standL_len]; exact ht) (by rw [standL_len]; exact hr)
  rw [rkAt_stand hr,rkAt_stand ht] at q2
  simp only [Function.comp]
  exact decide_eq_decide.2 (q1.symm.trans q2)
 have hb:=rkE_bound (firC m v) 0 (ordO m v) t
 rw [← rankT_rkE] at hb
 rw [e1,e2]
 have:=filt_lt (List.length v.1) (rankT m v (ordO m v) t) hb.1 (by omega)
 omega
end
end Go.Am
namespace Go.Am
set_option maxHeartbeats 40000000
set_option maxRecDepth 20000
open Go.RowKit Go.Proofs
attribute [local simp] thenKD_normal thenKD_exit thenKD_goto thenKD_ret inBlockKD_normal inBlockKD_exit inBlockKD_goto inBlockKD_ret noGotoKD_normal noGotoKD_exit noGotoKD_goto noGotoKD_ret roundKD_normal roundKD_exit roundKD_goto roundKD_ret frzSlotsD_nil frzSlotsD_cons frzSlotD_eq yieldVCD_trace opVCD_eq vcOpsD_nil vcOpsD_cons vcAllD_zero vcAllD_succ allAtD_nil allAtD_cons readyAux edgA vcD_skip vcD_label vcD_exit vcD_goto vcD_ret vcD_region vcD_seq vcD_seqC vcD_cond vcCondD_bool vcD_block vcD_scope vcD_loop vcD_rangeFunc yieldOf isMem isMem0 keepE envLe St.le psE yieldAV round_td round_y round_Γ vI vB vS aI aB aS look getE oper opRV putE allOk okOps Op.operands Call.operands pEv qEv mEv constRV coe RV.av loadEv loadCs takeAt indexAddrEv fieldAddrEv binEv intEv arith unEv gcond pickEv argsEv callVal callEv capAV_mk lenArgs lenEv minEv extractEv convEv funcEv allBox bound sliceEv lookupEv TD.isBool allocEv boxEv storeEv spl plainTD appendEv appendArgs makeMapEv mapUpdateEv buildEv buildSliceEv fillSV zsvOf sizeTD Ty.parses parses_flats' coeA flats_length AV.good AV.cells AV.pure SV.pure av_int av_bool av_str av_slice av_cons av_fld0 av_fld1 av_fld2 av_fld3 av_fld4 Ty.of Ty.dflt Ty.parse Ty.flat Ty.zsv Ty.fld Ty.get Ty.off Ty.nfld Ty.size coeTy junk Blk.look argEnv resEv resOk resVs oneRV retOk frzAs frzAV frzL frzSV boxCaps boxCap SV.sig sigs RV.scalar AV.scalar SV.scalar nope effVCD_eq effOf SV.ids AV.ids dedup SV.ren AV.ren RV.ren idx outId mergeB Blk.pureB flats_pure flat_pure epsSlotsD_nil epsSlotsD_cons epsSlotD_eq allEp D.parts_fnOf fvParts retEff round_E av_fn G.ye isCutD_nil isCutD_cons firstReg_region firstReg_seq firstReg_skip firstReg_ret firstReg_label firstReg_exit firstReg_goto firstReg_cond firstReg_block firstReg_scope firstReg_loop firstReg_rf eptrOf_mk flOfD_nil flOfD_cons vcFlD_cons vcFlD_nil flPairs_nil flPairs_cons vcFrD_nil vcFrD_cons makeSliceEv vcCondD_ib fzEv unfl_flats isFz round_fz panVCD_eq panOf isShift strIdxEv ifaceEv nilChkEv sliceAnyEv sliceOwnEv sliceSufEv appendEv0 appendEv1 Ty.beq Ty.isAgg round_Pn vcDefD_seqR vcDefD_seqS vcDefD_seqC vcDefD_seqB vcDefD_seqL vcDefD_seqF vcDefD_seqSc vcDefD_region vcDefD_ret vcDefD_cond vcDefD_block vcDefD_loop thenKD_panic inBlockKD_panic noGotoKD_panic exitOk_normal exitOk_ret exitOk_panic exitOk_exit runDefs_none runDefs_some runDefs_cons defRegD isDefer defOf caughtCon unfl_cons D.bpart_bndOf D.parts_bndOf AV.sig
attribute [local simp ←] flats_append
theorem flB_map (xs:List Bool):Ty.bool.flats xs=xs.map SV.bool:=by
 induction xs with
 | nil=>rfl
 | cons x l ih=>simp [Ty.flats,Ty.flat,ih]
theorem flB_at {xs:List Bool} {j:Nat} (h:j<xs.length):(Ty.bool.flats xs)[j]'(by rw [flats_length]; simpa using h)=.bool xs[j]:=by
 simp only [flB_map,List.getElem_map]
theorem flB_set {xs:List Bool} {j:Nat} (h:j<xs.length) (b:Bool):List.take j (Ty.bool.flats xs)++SV.bool b::List.drop (j+1) (Ty.bool.flats xs)=Ty.bool.flats (xs.set j b):=by
 rw [flB_map,flB_map,List.map_set,List.set_eq_take_append_cons_drop,if_pos (by simpa using h)]
theorem flP_drop:∀ (j:Nat) (xs:List tPlc.T),(tPlc.flats xs).drop (j*3)=tPlc.flats (xs.drop j)
 | 0,xs=>rfl
 | j+1,[]=>by simp only [Ty.flats,List.drop_nil]
 | j+1,x::xs=>by
  rw [show (j+1)*3=3+j*3 by omega,← List.drop_drop,List.drop_succ_cons]
  exact flP_drop j xs
theorem flP_at {xs:List tPlc.T} {j:Nat} (h:j<xs.length):(tPlc.flats xs)[j*3]?=some (.int .i64 xs[j].1)∧(tPlc.flats xs)[j*3+1]?=some (.int .i64 xs[j].2.1):=by
 have h1:=flP_drop j xs
 rw [List.drop_eq_getElem_cons h] at h1
 constructor
 ·
  have:((tPlc.flats xs).drop (j*3))[0]?=some (.int .i64 xs[j].1):=by rw [h1]; rfl
  simpa using this
 ·
  have:((tPlc.flats xs).drop (j*3))[1]?=some (.int .i64 xs[j].2.1):=by rw [h1]; rfl
  simpa using this
theorem flP_at' {xs:List tPlc.T} {j:Nat} (h:j<xs.length) (h1:j*3<(tPlc.flats xs).length) (h2:j*3+1<(tPlc.flats xs).length):(tPlc.flats xs)[j*3]=.int .i64 xs[j].1∧(tPlc.flats xs)[j*3+1]=.int .i64 xs[j].2.1:=by
 obtain ⟨a,b⟩:=flP_at h
 rw [List.getElem?_eq_getElem h1] at a
 rw [List.getElem?_eq_getElem h2] at b
 injection a with a
 injection b with b
 exact ⟨a,b⟩
theorem plcL_at {m:Bool} {v:tLst.T} {o:List Int} {n s:Nat} (h:s<(plcL m v o n).length):(plcL m v o n)[s]=plcT m v o s:=by simp [plcL]
noncomputable instance (m:Bool) (v:tLst.T) (t i q:Nat):Decidable (bestB m v t i q):=Classical.propDecidable _
def bestD (m:Bool) (v:tLst.T) (t i q:Nat):Bool:=decide (bestB m v t i q)
theorem bestD_zero (m:Bool) (v:tLst.T) (t i:Nat):bestD m v t i 0=true:=by
 unfold bestD
 rw [decide_eq_true_eq]
 exact fun j hj=>absurd hj (by omega)
theorem bestD_yes {m:Bool} {v:tLst.T} {t i q:Nat} (h:(q:Int)∈(ordO m v).take t∨q=i∨¬ befR m v (q:Int) (i:Int)<0):bestD m v t i (q+1)=bestD m v t i q:=by
 unfold bestD
 refine decide_eq_decide.2 ⟨fun hb j hj=>hb j (by omega),fun hb j hj h1 h2 => ?_⟩
 rcases Nat.lt_succ_iff_lt_or_eq.1 hj with q' | rfl
 ·
  exact hb j q' h1 h2
 ·
  rcases h with h | h | h
  ·
   exact absurd h h1
  ·
   exact absurd h h2
  ·
   exact h
theorem bestD_no {m:Bool} {v:tLst.T} {t i q:Nat} (h1:(q:Int)∉(ordO m v).take t) (h2:q≠i) (h3:befR m v (q:Int) (i:Int)<0):bestD m v t i (q+1)=false:=by
 unfold bestD
 rw [decide_eq_false_iff_not]
 exact fun hb=>hb q (by omega) h1 h2 h3
theorem bef_lt (m:Bool) (v:tLst.T) (i k:Int):befR m v i k<0↔firC m v i k<0∨(firC m v i k=0∧(enAt v.1 i).1<(enAt v.1 k).1):=by
 rw [befR_eq]
 split
 ·
  rename_i h
  rw [h]
  constructor
  ·
   intro q
   right
   refine ⟨rfl,?_⟩
   rcases Int.lt_trichotomy (enAt v.1 i).1 (enAt v.1 k).1 with a | a | a
   ·
    exact a
   ·
    rw [a,cmpZ_zero.2 rfl] at q; omega
   ·
    rw [cmpZ_gt a] at q; omega
  ·
   rintro (q | ⟨_,q⟩)
   ·
    omega
   ·
    rw [cmpZ_lt q]; omega
 ·
  rename_i h
  constructor
  ·
   intro q; exact .inl q
  ·
   rintro (q | ⟨q,_⟩)
   ·
    exact q
   ·
    exact absurd q h
def rf3Γ:List (FuncId×Con):=(57,conRfCmp)::(58,conRfIdx)::rf2Γ
theorem rf3Γ_ok:∀ p∈rf3Γ,(∀ (args:Array Value) (w:World),(callFunc p.1 args).run Tryz.prog w=.ok (.enter p.1 args) w)∧PureOk Tryz.prog p.1 p.2:=by
 simp only [rf3Γ,List.forall_mem_cons]
 exact ⟨⟨enters_of Tryz.func57 (by kernel_rfl) rfl,rfcmp_ok⟩,⟨enters_of Tryz.func58 (by kernel_rfl) rfl,rfidx_ok⟩,rf2Γ_ok⟩
def rf3E:List (FuncId×ECon):=rf2E
theorem rf3E_ok:∀ p∈rf3E,(∀ (args:Array Value) (w:World),(callFunc p.1 args).run Tryz.prog w=.ok (.enter p.1 args) w)∧EffOk Tryz.prog p.1 p.2:=by
 simp only [rf3E]
 exact rf2E_ok
def rf3P:List (FuncId×PCon):=rf2P
theorem rf3P_ok:∀ p∈rf3P,(∀ (args:Array Value) (w:World),(callFunc p.1 args).run Tryz.prog w=.ok (.enter p.1 args) w)∧PanOk Tryz.prog p.1 p.2:=by
 simp only [rf3P]
 exact rf2P_ok
def rf3:G:={ τ:=stT,Γ:=rf3Γ,E:=rf3E,Pn:=rf3P }
theorem rf3_good:rf3.good Tryz.prog:=good_of_all (stT_ok _ rfl) rf3Γ_ok rf3E_ok rf3P_ok
theorem rf3_all:(∀ t,rf3.td t=(look stT t).getD .other)∧rf3.y=false∧rf3.Γ=rf3Γ∧rf3.E=rf3E∧rf3.Pn=rf3P∧rf3.fz=[]:=⟨fun _=>rfl,rfl,rfl,rfl,rfl,rfl⟩
def rfOk (m:Bool) (ord:List (List Int)) (ks:List tKey.T) (l:List tKd.T):Prop:=ks.length≤10000∧chkS ks l=0∧(m=true→Pl.checkErr ord=0∧¬ rowsE ord l)
def conRfStand:Con:=⟨fun args=>(match args with
 | [.s (.sl (.slice (.int .i64)) ord _),.s (.bool m),.s (.sl (.cons (.int .i64) (.cons .str (.cons (.int .i64) .nil))) ks _),.s (.sl (.cons (.int .i64) (.cons (.cons (.cons .bool (.cons (.slice (.int .i64)) .nil)) (.cons (.cons .bool (.cons (.slice (.int .i64)) .nil)) .nil)) (.cons (.slice (.cons (.cons .bool (.cons (.slice (.int .i64)) .nil)) (.cons (.cons .bool (.cons (.slice (.int .i64)) .nil)) .nil))) (.cons (.slice (.cons (.cons .bool (.cons (.slice (.int .i64)) .nil)) (.cons (.cons .bool (.cons (.slice (.int .i64)) .nil)) .nil))) (.cons (.int .i64) (.cons (.int .i64) (.cons (.int .i64) .nil))))))) l _)]=>OrdV m (l,ks,ord,())∧rfOk m ord ks l∧l.length≤19
 | _=>False),fun args=>match args with
 | [.s (.sl (.slice (.int .i64)) ord _),.s (.bool m),.s (.sl (.cons (.int .i64) (.cons .str (.cons (.int .i64) .nil))) ks _),.s (.sl (.cons (.int .i64) (.cons (.cons (.cons .bool (.cons (.slice (.int .i64)) .nil)) (.cons (.cons .bool (.cons (.slice (.int .i64)) .nil)) .nil)) (.cons (.slice (.cons (.cons .bool (.cons (.slice (.int .i64)) .nil)) (.cons (.cons .bool (.cons (.slice (.int .i64)) .nil)) .nil))) (.cons (.slice (.cons (.cons .bool (.cons (.slice (.int .i64)) .nil)) (.cons (.cons .bool (.cons (.slice (.int .i64)) .nil)) .nil))) (.cons (.int .i64) (.cons (.int .i64) (.cons (.int .i64) .nil))))))) l _)]=>.v (aS tPlc (standL m (l,ks,ord,())) false)
 | _=>.v (.s .any)⟩
theorem conRfStand_eq (ord:List (Ty.T (.slice tI))) (exord:Bool) (m:Bool) (ks:List (Ty.T tKey)) (exks:Bool) (l:List (Ty.T tKd)) (exl:Bool):conRfStand.pre [.s (.sl (.slice tI) ord exord),.s (.bool m),.s (.sl tKey ks exks),.s (.sl tKd l exl)]=(OrdV m (l,ks,ord,())∧rfOk m ord ks l∧l.length≤19)∧conRfStand.val [.s (.sl (.slice tI) ord exord),.s (.bool m),.s (.sl tKey ks exks),.s (.sl tKd l exl)]=.v (aS tPlc (standL m (l,ks,ord,())) false):=⟨rfl,rfl⟩
theorem rfstand_ok:PureOk Tryz.prog 34 conRfStand:=by
 refine pureOkD (L:={ live:=[0,1,2,3,8,9,10,11,12,13,14,15,16,17,19,27,31,37,41,55,88,89,106] }) rf3_good rfl nr_mixed Tryz.func34 rfl conRfStand 4 (by decide) (by kernel_rfl) ?_
 intro args hpre hlens
 simp only [conRfStand] at hpre
 split at hpre
 case h_2=>exact hpre.elim
 rename_i ord eo m ks ek l el
 simp only [allLen,AV.lenOk,SV.lenOk,Ty.lenOk,maxLen,and_true,implies_true,true_and,List.forall_mem_cons,List.not_mem_nil,false_implies] at hlens
 obtain ⟨hv,hok,hl19⟩:=hpre
 refine ⟨rfl,?_⟩
 simp -dsimp -implicitDefEqProofs [Tryz.f34,conRfStand_eq,-Prod.forall,-Bool.forall_bool,-Prod.exists,-Bool.exists_bool,rf3_all,stT,rf3Γ,rf3E,rf3P,rf2Γ,rf2E,rf2P,st0Γ,st0E,st0P,conRfCmp_eq,conRfIdx_eq,conRTCmp_eq,Pl.conRCompare_eq,inI64]
 have hl19:l.length≤19:=hl19
 have hmx:10000≤maxLen:=by simp only [maxLen]; omega
 have hol:(ordO m (l,ks,ord,())).length=l.length:=hv.len
 refine ⟨by omega,?_⟩
 refine WpD.turn _ (Turn.virt (k:=9) (t:=tPlc) (xs:=[]) (by simp [look])) ?_
 refine WpD.loop (L:={ live:=[0,1,2,3,8,9,10,11,12,13,14,15,16,17,19,27,31,37,41,55,88,89,106] }) rf3_good X0_ok nr_mixed (by kernel_rfl)
  (fun t:Nat=>⟨[(0,vS (.slice tI) ord eo),(1,vB m),(2,vS tKey ks ek),(3,vS tKd l el),(9,⟨true,.v (.s (.own tPlc 1 t))⟩),(10,⟨true,.v (.s (.own .bool 0 l.length))⟩)],[.arr true (Ty.bool.flats (doneL (ordO m (l,ks,ord,())) l.length t)),.arr (decide (0<t)) (tPlc.flats (plcL m (l,ks,ord,()) (ordO m (l,ks,ord,())) t))]⟩)
  (fun t=>t≤l.length) (fun t=>l.length - t) 0 (Nat.zero_le _) (Turn.le (by simp -dsimp -implicitDefEqProofs [doneL_zero,plcL_zero])) ?_
 intro t ht
 have hdl:=doneL_len (ordO m (l,ks,ord,())) l.length t
 have hpl:=plcL_len m (l,ks,ord,()) (ordO m (l,ks,ord,())) t
 rcases Nat.lt_or_ge t l.length with htl | htg
 ·
  simp -dsimp -implicitDefEqProofs [htl,hdl,hpl,-Prod.forall,-Bool.forall_bool,-Prod.exists,-Bool.exists_bool,rf3_all,stT,rf3Γ,rf3E,rf3P,rf2Γ,rf2E,rf2P,st0Γ,st0E,st0P,conRfCmp_eq,conRfIdx_eq,conRTCmp_eq,Pl.conRCompare_eq,inI64]
  obtain ⟨k,hk⟩:∃ k:Nat,(ordO m (l,ks,ord,()))[t]?.getD 0=(k:Int):=⟨((ordO m (l,ks,ord,()))[t]?.getD 0).toNat,by have:=(hv.at (t:=t) htl).1; omega⟩
  have hkl:k<l.length:=by have h:=(hv.at (t:=t) htl).2; rw [hk] at h; have h:(k:Int)<(l.length:Int):=h; omega
  obtain ⟨D,hD⟩:∃ D,D=doneL (ordO m (l,ks,ord,())) l.length t:=⟨_,rfl⟩
  obtain ⟨PL,hPL⟩:∃ PL,PL=plcL m (l,ks,ord,()) (ordO m (l,ks,ord,())) t:=⟨_,rfl⟩
  rw [← hD] at hdl ⊢
  rw [← hPL] at hpl ⊢
  obtain ⟨R,hR⟩:∃ R,R=rankT m (l,ks,ord,()) (ordO m (l,ks,ord,())) t:=⟨_,rfl⟩
  have hRb:1≤R∧R≤(t:Int)+1:=by rw [hR,rankT_rkE]; exact rkE_bound _ _ _ _
  refine WpD.loop (L:={ live:=[0,1,2,3,8,9,10,11,12,13,14,15,16,17,19,27,31,37,41,55,88,89,106] }) rf3_good X0_ok nr_mixed (by kernel_rfl)
   (fun i:Nat=>⟨[(0,vS (.slice tI) ord eo),(1,vB m),(2,vS tKey ks ek),(3,vS tKd l el),(9,⟨true,.v (.s (.own tPlc 1 t))⟩),(10,⟨true,.v (.s (.own .bool 0 l.length))⟩),(11,vI (if k<i then (k:Int) else -1)),(12,vI (if k<i then R else 1)),(13,vI i)],[.arr true (Ty.bool.flats D),.arr (decide (0<t)) (tPlc.flats PL)]⟩)
   (fun i=>i≤l.length) (fun i=>l.length - i) 0 (Nat.zero_le _) (Turn.le (by simp -dsimp -implicitDefEqProofs)) ?_
  intro i hi
  rcases Nat.lt_or_ge i l.length with hil | hig
  ·
   have hDi:i<D.length:=by omega
   have f1:=flB_at hDi
   have hDv:D[i]=decide ((i:Int)∈(ordO m (l,ks,ord,())).take t):=by
    have:∀ (E:List Bool) (h:i<E.length),E=doneL (ordO m (l,ks,ord,())) l.length t→E[i]=decide ((i:Int)∈(ordO m (l,ks,ord,())).take t):=fun E h e=>by subst e; exact doneL_at h
    exact this D hDi hD
   by_cases hin:(i:Int)∈(ordO m (l,ks,ord,())).take t
   ·
    rw [decide_eq_true hin] at hDv
    have hki:¬ k=i:=fun e=>by
     subst e
     have hto:t<(ordO m (l,ks,ord,())).length:=by omega
     rw [List.getElem?_eq_getElem hto,Option.getD_some] at hk
     have:=(hv.take_iff (t:=t) hto).1 (by rw [hk]; exact hin)
     omega
    have e1:(if k<i+1 then (k:Int) else -1)=if k<i then (k:Int) else -1:=by split <;> split <;> omega
    have e2:(if k<i+1 then R else 1)=if k<i then R else 1:=by split <;> split <;> omega
    simp -dsimp -implicitDefEqProofs [hil,hdl,hpl,f1,hDv,-Prod.forall,-Bool.forall_bool,-Prod.exists,-Bool.exists_bool,rf3_all,stT,rf3Γ,rf3E,rf3P,rf2Γ,rf2E,rf2P,st0Γ,st0E,st0P,conRfCmp_eq,conRfIdx_eq,conRTCmp_eq,Pl.conRCompare_eq,inI64]
    refine ⟨⟨by omega,by omega⟩,i+1,by omega,by omega,?_⟩
    rw [e1,e2]
    exact TurnT.le (by simp -dsimp -implicitDefEqProofs)
   ·
    rw [decide_eq_false hin] at hDv
    simp -dsimp -implicitDefEqProofs [hil,hdl,hpl,f1,hDv,-Prod.forall,-Bool.forall_bool,-Prod.exists,-Bool.exists_bool,rf3_all,stT,rf3Γ,rf3E,rf3P,rf2Γ,rf2E,rf2P,st0Γ,st0E,st0P,conRfCmp_eq,conRfIdx_eq,conRTCmp_eq,Pl.conRCompare_eq,inI64]
    refine WpD.loop (L:={ live:=[0,1,2,3,8,9,10,11,12,13,14,15,16,17,19,27,31,37,41,55,88,89,106] }) rf3_good X0_ok nr_mixed (by kernel_rfl)
     (fun q:Nat=>⟨[(0,vS (.slice tI) ord eo),(1,vB m),(2,vS tKey ks ek),(3,vS tKd l el),(9,⟨true,.v (.s (.own tPlc 1 t))⟩),(10,⟨true,.v (.s (.own .bool 0 l.length))⟩),(11,vI (if k<i then (k:Int) else -1)),(12,vI (if k<i then R else 1)),(13,vI i),(14,vI (aheadN m (l,ks,ord,()) i q)),(15,vB (bestD m (l,ks,ord,()) t i q)),(16,vI q)],[.arr true (Ty.bool.flats D),.arr (decide (0<t)) (tPlc.flats PL)]⟩)
     (fun q=>q≤l.length) (fun q=>l.length - q) 0 (Nat.zero_le _) (Turn.le (by simp -dsimp -implicitDefEqProofs [aheadN_zero,bestD_zero])) ?_
    intro q hq
    rcases Nat.lt_or_ge q l.length with hql | hqg
    ·
     have hDq:q<D.length:=by omega
     have g1:=flB_at hDq
     have hDw:D[q]=decide ((q:Int)∈(ordO m (l,ks,ord,())).take t):=by
      have:∀ (E:List Bool) (h:q<E.length),E=doneL (ordO m (l,ks,ord,())) l.length t→E[q]=decide ((q:Int)∈(ordO m (l,ks,ord,())).take t):=fun E h e=>by subst e; exact doneL_at h
      exact this D hDq hD
     have iq:inLn l (q:Int):=⟨Int.natCast_nonneg _,by omega⟩
     have ii:inLn l (i:Int):=⟨Int.natCast_nonneg _,by omega⟩
     have ha:=aheadN_succ m (l,ks,ord,()) i q
     have hal:aheadN m (l,ks,ord,()) i q≤q:=by
      unfold aheadN
      have:=List.length_filter_le (fun j:Nat=>decide (firC m (l,ks,ord,()) (j:Int) (i:Int)<0)) (List.range q)
      rw [List.length_range] at this
      exact this
     have hbl:=bef_lt m (l,ks,ord,()) (q:Int) (i:Int)
     have hb1:=bestD_yes (m:=m) (v:=(l,ks,ord,())) (t:=t) (i:=i) (q:=q)
     have hb2:=bestD_no (m:=m) (v:=(l,ks,ord,())) (t:=t) (i:=i) (q:=q)
     have ee1:enAt l (q:Int)=l[q]:=by unfold enAt; rw [Int.toNat_natCast,List.getElem?_eq_getElem hql]; rfl
     have ee2:enAt l (i:Int)=l[i]:=by unfold enAt; rw [Int.toNat_natCast,List.getElem?_eq_getElem hil]; rfl
     have hbl:befR m (l,ks,ord,()) (q:Int) (i:Int)<0↔firC m (l,ks,ord,()) (q:Int) (i:Int)<0∨(firC m (l,ks,ord,()) (q:Int) (i:Int)=0∧l[q].1<l[i].1):=by rw [← ee1,← ee2]; exact hbl
     have hqi:((q:Int) != (i:Int))=decide (q≠i):=by rw [Bool.eq_iff_iff,bne_iff_ne,decide_eq_true_eq]; omega
     obtain ⟨c,hc⟩:∃ c,c=firC m (l,ks,ord,()) (q:Int) (i:Int):=⟨_,rfl⟩
     have hA1:c<0→aheadN m (l,ks,ord,()) i (q+1)=aheadN m (l,ks,ord,()) i q+1:=fun h=>by rw [ha,if_pos (by rw [← hc]; exact h)]
     have hA2:0≤c→aheadN m (l,ks,ord,()) i (q+1)=aheadN m (l,ks,ord,()) i q:=fun h=>by rw [ha,if_neg (by rw [← hc]; omega)]
     by_cases hqd:(q:Int)∈(ordO m (l,ks,ord,())).take t
     ·
      have hb3:=hb1 (.inl hqd)
      rw [decide_eq_true hqd] at hDw
      simp -dsimp -implicitDefEqProofs [hil,hql,hdl,hpl,g1,hDw,← hc,-Prod.forall,-Bool.forall_bool,-Prod.exists,-Bool.exists_bool,rf3_all,stT,rf3Γ,rf3E,rf3P,rf2Γ,rf2E,rf2P,st0Γ,st0E,st0P,conRfCmp_eq,conRfIdx_eq,conRTCmp_eq,Pl.conRCompare_eq,inI64]
      refine ⟨⟨⟨iq,ii⟩,hok⟩,fun hlt=>⟨⟨by omega,by omega⟩,⟨by omega,by omega⟩,q+1,by omega,by omega,?_⟩,fun hge=>⟨⟨by omega,by omega⟩,q+1,by omega,by omega,?_⟩⟩
      ·
       rw [hA1 hlt,hb3]; exact TurnT.le (by simp -dsimp -implicitDefEqProofs)
      ·
       rw [hA2 hge,hb3]; exact TurnT.le (by simp -dsimp -implicitDefEqProofs)
     ·
      rw [decide_eq_false hqd] at hDw
      simp -dsimp -implicitDefEqProofs [hil,hql,hdl,hpl,g1,hDw,← hc,-Prod.forall,-Bool.forall_bool,-Prod.exists,-Bool.exists_bool,rf3_all,stT,rf3Γ,rf3E,rf3P,rf2Γ,rf2E,rf2P,st0Γ,st0E,st0P,conRfCmp_eq,conRfIdx_eq,conRTCmp_eq,Pl.conRCompare_eq,inI64]
      have hbad:¬ (q:Int)=(i:Int)→(c<0∨c=0∧l[q].1<l[i].1)→bestD m (l,ks,ord,()) t i (q+1)=false:=fun h1 h2=>hb2 hqd (fun e=>h1 (by rw [e])) (hbl.2 (by rw [← hc]; exact h2))
      have hgood:(¬ (q:Int)=(i:Int)→0≤c∧(c=0→l[i].1≤l[q].1))→bestD m (l,ks,ord,()) t i (q+1)=bestD m (l,ks,ord,()) t i q:=fun h1=>by
       by_cases e:q=i
       ·
        exact hb1 (.inr (.inl e))
       ·
        refine hb1 (.inr (.inr fun hlt => ?_))
        obtain ⟨h2,h3⟩:=h1 (fun e2=>e (by omega))
        have hq:=hbl.1 hlt
        rw [← hc] at hq
        rcases hq with a | ⟨a,b⟩
        ·
         exact absurd a (Int.not_lt.2 h2)
        ·
         exact absurd b (Int.not_lt.2 (h3 a))
      refine ⟨⟨⟨iq,ii⟩,hok⟩,fun hlt=>⟨⟨by omega,by omega⟩,fun a b=>⟨⟨a,b⟩,fun d=>⟨⟨a,b⟩,d⟩⟩,fun a=>⟨a,fun b=>⟨a,b⟩⟩,fun a b=>⟨⟨by omega,by omega⟩,q+1,by omega,by omega,?_⟩,fun a=>⟨⟨by omega,by omega⟩,q+1,by omega,by omega,?_⟩⟩,
       fun hge=>⟨fun a b=>⟨⟨a,b⟩,fun d=>⟨⟨a,b⟩,d⟩⟩,fun a=>⟨a,fun b=>⟨a,b⟩⟩,fun a b=>⟨⟨by omega,by omega⟩,q+1,by omega,by omega,?_⟩,fun a=>⟨⟨by omega,by omega⟩,q+1,by omega,by omega,?_⟩⟩⟩
      ·
       rw [hA1 hlt,hbad a b]; exact TurnT.le (by simp -dsimp -implicitDefEqProofs)
      ·
       rw [hA1 hlt,hgood a]; exact TurnT.le (by simp -dsimp -implicitDefEqProofs)
      ·
       rw [hA2 hge,hbad a b]; exact TurnT.le (by simp -dsimp -implicitDefEqProofs)
      ·
       rw [hA2 hge,hgood a]; exact TurnT.le (by simp -dsimp -implicitDefEqProofs)
    ·
     obtain rfl:q=l.length:=by omega
     have hql:¬ l.length<l.length:=by omega
     simp -dsimp -implicitDefEqProofs [hil,hql,hdl,hpl,-Prod.forall,-Bool.forall_bool,-Prod.exists,-Bool.exists_bool,rf3_all,stT,rf3Γ,rf3E,rf3P,rf2Γ,rf2E,rf2P,st0Γ,st0E,st0P,conRfCmp_eq,conRfIdx_eq,conRTCmp_eq,Pl.conRCompare_eq,inI64]
     have hbest:=hv.best (t:=t) (i:=i) htl hil hin
     have hall:aheadN m (l,ks,ord,()) i l.length≤l.length:=by
      unfold aheadN
      have:=List.length_filter_le (fun j:Nat=>decide (firC m (l,ks,ord,()) (j:Int) (i:Int)<0)) (List.range l.length)
      rw [List.length_range] at this
      exact this
     refine ⟨fun h=>⟨⟨by omega,by omega⟩,⟨by omega,by omega⟩,i+1,by omega,by omega,?_⟩,fun h=>⟨⟨by omega,by omega⟩,i+1,by omega,by omega,?_⟩⟩
     ·
      have hki:k=i:=by
       have:=hbest.1 (of_decide_eq_true h)
       rw [hk] at this
       omega
      have hah:=hv.ahead (t:=t) (i:=i) (by show l.length≤4096; omega) htl (by rw [hk,hki])
      rw [← hR] at hah
      have hah:(aheadN m (l,ks,ord,()) i l.length:Int)+1=R:=hah
      rw [if_pos (by omega),if_pos (by omega),hah,hki]
      exact TurnT.le (by simp -dsimp -implicitDefEqProofs)
     ·
      have hki:¬ k=i:=fun e=>by
       have:bestD m (l,ks,ord,()) t i l.length=true:=decide_eq_true (hbest.2 (by rw [hk,e]))
       rw [h] at this; cases this
      have e1:(if k<i+1 then (k:Int) else -1)=if k<i then (k:Int) else -1:=by split <;> split <;> omega
      have e2:(if k<i+1 then R else 1)=if k<i then R else 1:=by split <;> split <;> omega
      rw [e1,e2]
      exact TurnT.le (by simp -dsimp -implicitDefEqProofs)
  ·
   obtain rfl:i=l.length:=by omega
   have hnl:¬ l.length<l.length:=by omega
   have hkD:k<D.length:=by omega
   have hset:D.set k true=doneL (ordO m (l,ks,ord,())) l.length (t+1):=by
    have hto:t<(ordO m (l,ks,ord,())).length:=by omega
    rw [hD]
    exact doneL_succ hto (by rw [List.getElem?_eq_getElem hto,Option.getD_some] at hk; exact hk)
   have hplt:plcL m (l,ks,ord,()) (ordO m (l,ks,ord,())) (t+1)=PL++[plcT m (l,ks,ord,()) (ordO m (l,ks,ord,())) t]:=by rw [hPL]; exact plcL_succ _ _ _ _
   have eek:enAt l (k:Int)=l[k]:=by unfold enAt; rw [Int.toNat_natCast,List.getElem?_eq_getElem hkl]; rfl
   have hpt:plcT m (l,ks,ord,()) (ordO m (l,ks,ord,())) t=(l[k].1,R,byT m (l,ks,ord,()) (ordO m (l,ks,ord,())) t,()):=by
    unfold plcT
    rw [hk,← hR]
    show ((enAt l (k:Int)).1,_)=_
    rw [eek]
   rcases t with _ | s
   ·
    simp -dsimp -implicitDefEqProofs [hnl,hkl,hdl,hpl,-Prod.forall,-Bool.forall_bool,-Prod.exists,-Bool.exists_bool,rf3_all,stT,rf3Γ,rf3E,rf3P,rf2Γ,rf2E,rf2P,st0Γ,st0E,st0P,conRfCmp_eq,conRfIdx_eq,conRTCmp_eq,Pl.conRCompare_eq,inI64]
    refine ⟨by omega,by omega,0+1,by omega,by omega,?_⟩
    rw [flB_set hkD,hset,hplt,hpt]
    exact TurnT.le (by simp -dsimp -implicitDefEqProofs [byT])
   ·
    have hsP:s<PL.length:=by omega
    have hfl:(tPlc.flats PL).length=PL.length*3:=by rw [flats_length]; rfl
    obtain ⟨f2,_⟩:=flP_at' hsP (by omega) (by omega)
    obtain ⟨_,f3⟩:=flP_at hsP
    have hsl:s<l.length:=by omega
    obtain ⟨os,hos⟩:∃ os,os=(ordO m (l,ks,ord,()))[s]?.getD 0:=⟨_,rfl⟩
    have ios:inLn l os:=by rw [hos]; exact hv.at (t:=s) hsl
    have ik:inLn l (k:Int):=⟨Int.natCast_nonneg _,by omega⟩
    have hPs:PL[s]=((enAt l os).1,rankT m (l,ks,ord,()) (ordO m (l,ks,ord,())) s,byT m (l,ks,ord,()) (ordO m (l,ks,ord,())) s,()):=by
     have:∀ (E:List tPlc.T) (h:s<E.length),E=plcL m (l,ks,ord,()) (ordO m (l,ks,ord,())) (s+1)→E[s]=plcT m (l,ks,ord,()) (ordO m (l,ks,ord,())) s:=fun E h e=>by subst e; exact plcL_at h
     rw [this PL hsP hPL,hos]
     rfl
    have hid:=idx0_en hv.nd ios
    have hid:idx0 l (enAt l os).1=os:=hid
    have hsm:=hv.same (a:=s) (b:=s+1) hsl htl
    rw [← hR,hk,← hos] at hsm
    have hby:=byT_succ m (l,ks,ord,()) (ordO m (l,ks,ord,())) s
    rw [hk,← hos] at hby
    rw [hPs] at f2 f3
    have e1:((s+1:Nat):Int) - 1=s:=by omega
    simp -dsimp -implicitDefEqProofs [hnl,hkl,hdl,hpl,e1,f2,f3,hid,-Prod.forall,-Bool.forall_bool,-Prod.exists,-Bool.exists_bool,rf3_all,stT,rf3Γ,rf3E,rf3P,rf2Γ,rf2E,rf2P,st0Γ,st0E,st0P,conRfCmp_eq,conRfIdx_eq,conRTCmp_eq,Pl.conRCompare_eq,inI64]
    have hr0:R=rankT m (l,ks,ord,()) (ordO m (l,ks,ord,())) s↔firC m (l,ks,ord,()) os (k:Int)=0:=⟨fun e=>hsm.1 e.symm,fun e=>(hsm.2 e).symm⟩
    have hbn:¬ R=rankT m (l,ks,ord,()) (ordO m (l,ks,ord,())) s→byT m (l,ks,ord,()) (ordO m (l,ks,ord,())) (s+1)=firB m (l,ks,ord,()) os (k:Int):=fun h=>by rw [hby,if_pos (fun e=>h (hr0.2 e))]
    have hbz:R=rankT m (l,ks,ord,()) (ordO m (l,ks,ord,())) s→byT m (l,ks,ord,()) (ordO m (l,ks,ord,())) (s+1) = -1:=fun h=>by rw [hby,if_neg (fun q=>q (hr0.1 h))]
    refine ⟨by omega,by omega,by omega,fun h=>⟨by omega,by omega,⟨⟨ios,ik⟩,hok⟩,by omega,⟨by omega,by omega⟩,s+1+1,by omega,by omega,?_⟩,fun h=>⟨by omega,⟨by omega,by omega⟩,s+1+1,by omega,by omega,?_⟩⟩
    ·
     rw [flB_set hkD,hset,hplt,hpt,hbn h]
     exact TurnT.le (by simp -dsimp -implicitDefEqProofs)
    ·
     rw [flB_set hkD,hset,hplt,hpt,hbz h]
     exact TurnT.le (by simp -dsimp -implicitDefEqProofs)
 ·
  have hn:¬ t<l.length:=by omega
  simp -dsimp -implicitDefEqProofs [hn,hdl,hpl,conRfStand_eq,-Prod.forall,-Bool.forall_bool,-Prod.exists,-Bool.exists_bool,rf3_all,stT,rf3Γ,rf3E,rf3P,rf2Γ,rf2E,rf2P,st0Γ,st0E,st0P,conRfCmp_eq,conRfIdx_eq,conRTCmp_eq,Pl.conRCompare_eq,inI64]
  obtain rfl:t=l.length:=by omega
  rfl
def rf4Γ:List (FuncId×Con):=(33,conEnts)::(34,conRfStand)::(39,Pl.conRMaj)::rf3Γ
theorem rf4Γ_ok:∀ p∈rf4Γ,(∀ (args:Array Value) (w:World),(callFunc p.1 args).run Tryz.prog w=.ok (.enter p.1 args) w)∧PureOk Tryz.prog p.1 p.2:=by
 simp only [rf4Γ,List.forall_mem_cons]
 exact ⟨⟨enters_of Tryz.func33 (by kernel_rfl) rfl,rents_ok⟩,⟨enters_of Tryz.func34 (by kernel_rfl) rfl,rfstand_ok⟩,⟨enters_of Tryz.func39 (by kernel_rfl) rfl,Pl.rmaj_ok⟩,rf3Γ_ok⟩
def rf4E:List (FuncId×ECon):=(32,conTSort)::rf3E
theorem rf4E_ok:∀ p∈rf4E,(∀ (args:Array Value) (w:World),(callFunc p.1 args).run Tryz.prog w=.ok (.enter p.1 args) w)∧EffOk Tryz.prog p.1 p.2:=by
 simp only [rf4E,List.forall_mem_cons]
 exact ⟨⟨enters_of Tryz.func32 (by kernel_rfl) rfl,rsort_ok⟩,rf3E_ok⟩
def rf4P:List (FuncId×PCon):=rf3P
theorem rf4P_ok:∀ p∈rf4P,(∀ (args:Array Value) (w:World),(callFunc p.1 args).run Tryz.prog w=.ok (.enter p.1 args) w)∧PanOk Tryz.prog p.1 p.2:=by
 simp only [rf4P]
 exact rf3P_ok
def rf4:G:={ τ:=stT,Γ:=rf4Γ,E:=rf4E,Pn:=rf4P }
theorem rf4_good:rf4.good Tryz.prog:=good_of_all (stT_ok _ rfl) rf4Γ_ok rf4E_ok rf4P_ok
theorem rf4_all:(∀ t,rf4.td t=(look stT t).getD .other)∧rf4.y=false∧rf4.Γ=rf4Γ∧rf4.E=rf4E∧rf4.Pn=rf4P∧rf4.fz=[]:=⟨fun _=>rfl,rfl,rfl,rfl,rfl,rfl⟩
theorem rfbysc_ok:PureOk Tryz.prog 14 conByScore:=by
 refine pureOkD (L:={ live:=[0,1,4,5,7,15,19] }) rf4_good rfl nr_mixed Tryz.func14 rfl conByScore 2 (by decide) (by kernel_rfl) ?_
 intro args hpre hlens
 simp only [conByScore] at hpre
 split at hpre
 case h_2=>exact hpre.elim
 rename_i ks ek l el
 simp only [allLen,AV.lenOk,SV.lenOk,Ty.lenOk,maxLen,and_true,implies_true,true_and,List.forall_mem_cons,List.not_mem_nil,false_implies] at hlens
 refine ⟨rfl,?_⟩
 simp -dsimp -implicitDefEqProofs [Tryz.f14,conByScore_eq,-Prod.forall,-Bool.forall_bool,-Prod.exists,-Bool.exists_bool,rf4_all,stT,rf4Γ,rf4E,rf4P,rf3Γ,rf3E,rf3P,rf2Γ,rf2E,rf2P,st0Γ,st0E,st0P,conEnts_eq,conRfStand_eq,Pl.conRMaj_eq,conTSort,conRfCmp_eq,conRfIdx_eq,conRTCmp_eq,Pl.conRCompare_eq,inI64]
 have c1:sortErr ks l=0→chkS ks l=entErr l:=fun h=>by unfold chkS; rw [if_pos h]
 have c2:¬ sortErr ks l=0→chkS ks l=sortErr ks l:=fun h=>by unfold chkS; rw [if_neg h]
 obtain ⟨hk,hl⟩:ks.length≤10000∧l.length≤19:=hpre
 have c3:¬ chkS ks l=0→scoreL ks l=[]:=fun h=>by unfold scoreL; rw [if_neg h]
 refine ⟨⟨hk,hl⟩,fun h=>⟨Nat.le_trans hl (by decide),fun h2=>⟨c3 (by rw [c1 h]; exact h2),(c1 h).symm⟩,fun h2 => ?_⟩,fun h=>⟨fun _=>⟨c3 (by rw [c2 h]; exact h),(c2 h).symm⟩,fun h2=>absurd h2 h⟩⟩
 have hc:chkS ks l=0:=by rw [c1 h]; exact h2
 exact ⟨⟨ord_score hk hc,⟨hk,hc,fun e=>(by cases e)⟩,hl⟩,by unfold scoreL; rw [if_pos hc],hc.symm⟩
theorem rfbypl_ok:PureOk Tryz.prog 18 conByPlaces:=by
 refine pureOkD (L:={ live:=[0,1,2,6,7,9,11,12,19,28,32,41,45,55] }) rf4_good rfl nr_mixed Tryz.func18 rfl conByPlaces 3 (by decide) (by kernel_rfl) ?_
 intro args hpre hlens
 simp only [conByPlaces] at hpre
 split at hpre
 case h_2=>exact hpre.elim
 rename_i ord eo ks ek l el
 simp only [allLen,AV.lenOk,SV.lenOk,Ty.lenOk,maxLen,and_true,implies_true,true_and,List.forall_mem_cons,List.not_mem_nil,false_implies] at hlens
 refine ⟨rfl,?_⟩
 simp -dsimp -implicitDefEqProofs [Tryz.f18,conByPlaces_eq,-Prod.forall,-Bool.forall_bool,-Prod.exists,-Bool.exists_bool,rf4_all,stT,rf4Γ,rf4E,rf4P,rf3Γ,rf3E,rf3P,rf2Γ,rf2E,rf2P,st0Γ,st0E,st0P,conEnts_eq,conRfStand_eq,Pl.conRMaj_eq,conTSort,conRfCmp_eq,conRfIdx_eq,conRTCmp_eq,Pl.conRCompare_eq,inI64]
 have c1:sortErr ks l=0→chkS ks l=entErr l:=fun h=>by unfold chkS; rw [if_pos h]
 have c2:¬ sortErr ks l=0→chkS ks l=sortErr ks l:=fun h=>by unfold chkS; rw [if_neg h]
 obtain ⟨hk,hl⟩:ks.length≤10000∧l.length≤19:=hpre
 refine ⟨fun h=>⟨pL0 (by rw [pE1 h]; exact h),(pE1 h).symm⟩,fun h=>⟨⟨hk,hl⟩,fun q=>⟨Nat.le_trans hl (by decide),fun q2 => ?_,fun q2 => ?_⟩,fun q=>⟨fun _ => ?_,fun q2=>absurd q2 q⟩⟩⟩
 ·
  have hc:¬ chkS ks l=0:=by rw [c1 q]; exact q2
  have he:=pE2 (ord:=ord) h hc
  exact ⟨pL0 (by rw [he]; exact hc),by rw [he,c1 q]⟩
 ·
  have hc:chkS ks l=0:=by rw [c1 q]; exact q2
  refine ⟨fun h1 h2 => ?_,fun hn0 => ?_⟩
  ·
   have hr:rowsE ord l:=.inl ⟨h1,h2⟩
   exact ⟨pL0 (by rw [pE3 h hc hr]; decide),(pE3 h hc hr).symm⟩
  refine WpD.loop (L:={ live:=[0,1,2,6,7,9,11,12,19,28,32,41,45,55] }) rf4_good X0_ok nr_mixed (by kernel_rfl)
   (fun i:Nat=>⟨[(0,vS (.slice tI) ord eo),(1,vS tKey ks ek),(2,vS tKd l el),(12,vI i)],[]⟩)
   (fun i=>i≤ord.length∧∀ j (h:j<ord.length),j<i→ord[j].length=l.length) (fun i=>ord.length - i) 0 ⟨Nat.zero_le _,fun j h hj=>absurd hj (by omega)⟩ (Turn.le (by simp -dsimp -implicitDefEqProofs)) ?_
  rintro i ⟨hi,hall⟩
  rcases Nat.lt_or_ge i ord.length with hil | hge
  ·
   simp -dsimp -implicitDefEqProofs [hil,conByPlaces_eq,-Prod.forall,-Bool.forall_bool,-Prod.exists,-Bool.exists_bool,rf4_all,stT,rf4Γ,rf4E,rf4P,rf3Γ,rf3E,rf3P,rf2Γ,rf2E,rf2P,st0Γ,st0E,st0P,conEnts_eq,conRfStand_eq,Pl.conRMaj_eq,conTSort,conRfCmp_eq,conRfIdx_eq,conRTCmp_eq,Pl.conRCompare_eq,inI64]
   have hlim:ord.length≤1000:=by
    have:=(Pl.tableErr_ok (Pl.checkErr_ok h).1).1
    omega
   refine ⟨fun hne => ?_,fun heq=>⟨⟨by omega,by omega⟩,i+1,⟨by omega,fun j hj q3 => ?_⟩,by omega,TurnT.le (by simp -dsimp -implicitDefEqProofs)⟩⟩
   ·
    have hr:rowsE ord l:=.inr ⟨ord[i],List.getElem_mem hil,fun e=>hne (congrArg Nat.cast e)⟩
    have e1:=pE3 h hc hr
    have e2:placeL ord ks l=[]:=pL0 (by rw [e1]; decide)
    exact ⟨e2,e1.symm⟩
   ·
    rcases Nat.lt_succ_iff_lt_or_eq.1 q3 with h' | rfl
    ·
     exact hall j hj h'
    ·
     exact Int.ofNat.inj heq
  ·
   have hn:¬ i<ord.length:=by omega
   simp -dsimp -implicitDefEqProofs [hn,conByPlaces_eq,-Prod.forall,-Bool.forall_bool,-Prod.exists,-Bool.exists_bool,rf4_all,stT,rf4Γ,rf4E,rf4P,rf3Γ,rf3E,rf3P,rf2Γ,rf2E,rf2P,st0Γ,st0E,st0P,conEnts_eq,conRfStand_eq,Pl.conRMaj_eq,conTSort,conRfCmp_eq,conRfIdx_eq,conRTCmp_eq,Pl.conRCompare_eq,inI64]
   have hr:¬ rowsE ord l:=by
    rintro (⟨e,h2⟩ | ⟨row,hm,hne⟩)
    ·
     rw [hn0 e] at h2; exact absurd h2 (by decide)
    ·
     obtain ⟨j,hj,rfl⟩:=List.getElem_of_mem hm
     exact hne (hall j hj (by omega))
   have he:=pE4 h hc hr
   exact ⟨⟨ord_places hk hc h hr,⟨hk,hc,fun _=>⟨h,hr⟩⟩,hl⟩,by unfold placeL; rw [if_pos he],he.symm⟩
 ·
  have hc:¬ chkS ks l=0:=by rw [c2 q]; exact q
  have he:=pE2 (ord:=ord) h hc
  exact ⟨pL0 (by rw [he]; exact hc),by rw [he,c2 q]⟩
theorem rfchk_ok:PureOk Tryz.prog 20 conCheck:=by
 refine pureOkD (L:={ live:=[0,2,3,4,5,8,12,20,23,36,81,101] }) st0_good rfl nr_mixed Tryz.func20 rfl conCheck 1 (by decide) (by kernel_rfl) ?_
 intro args hpre hlens
 simp only [conCheck] at hpre
 split at hpre
 case h_2=>exact hpre.elim
 rename_i p ep
 simp only [allLen,AV.lenOk,SV.lenOk,Ty.lenOk,maxLen,and_true,implies_true,true_and,List.forall_mem_cons,List.not_mem_nil,false_implies] at hlens
 refine ⟨rfl,?_⟩
 simp -dsimp -implicitDefEqProofs [Tryz.f20,conCheck_eq,-Prod.forall,-Bool.forall_bool,-Prod.exists,-Bool.exists_bool,st0_all,stT,st0Γ,st0E,st0P,inI64]
 refine ⟨fun h => ?_,fun h => ?_⟩
 ·
  rw [chkErr,if_pos (by omega)]
 have hbad:∀ i,i<p.length→¬ okP p i→(230:Int)=chkErr p:=fun i hi hn=>by
  rw [chkErr,if_neg (by omega),if_neg]
  exact fun ha=>hn (ha i hi)
 refine WpD.loop (L:={ live:=[0,2,3,4,5,8,12,20,23,36,81,101] }) st0_good X0_ok nr_mixed (by kernel_rfl)
  (fun i:Nat=>⟨[(0,vS tPlc p ep),(2,vI 0),(3,vI i)],[]⟩)
  (fun i=>i≤p.length∧∀ j,j<i→okP p j) (fun i=>p.length - i) 0 ⟨Nat.zero_le _,fun j hj=>absurd hj (by omega)⟩ (Turn.le (by simp -dsimp -implicitDefEqProofs)) ?_
 rintro i ⟨hi,hall⟩
 rcases Nat.lt_or_ge i p.length with hil | hge
 ·
  have hpi:plc p i=p[i]:=by unfold plc; rw [List.getElem?_eq_getElem hil]; rfl
  simp -dsimp -implicitDefEqProofs [hil,conCheck_eq,-Prod.forall,-Bool.forall_bool,-Prod.exists,-Bool.exists_bool,st0_all,stT,st0Γ,st0E,st0P,inI64]
  refine ⟨fun h=>hbad i hil fun ho=>by have q:=ho.1; rw [hpi] at q; exact absurd h (Int.not_lt.2 q),fun h0 => ?_⟩
  refine WpD.loop (L:={ live:=[0,2,3,4,5,8,12,20,23,36,81,101] }) st0_good X0_ok nr_mixed (by kernel_rfl)
   (fun k:Nat=>⟨[(0,vS tPlc p ep),(2,vI 0),(3,vI i),(4,vI k)],[]⟩)
   (fun k=>k≤i∧∀ j (h:j<p.length),j<k→p[j].1≠p[i].1) (fun k=>i - k) 0 ⟨Nat.zero_le _,fun j h hj=>absurd hj (by omega)⟩ (Turn.le (by simp -dsimp -implicitDefEqProofs)) ?_
  rintro k ⟨hk,hne⟩
  rcases Nat.lt_or_ge k i with hki | hkg
  ·
   have hkl:k<p.length:=by omega
   simp -dsimp -implicitDefEqProofs [hil,hki,hkl,conCheck_eq,-Prod.forall,-Bool.forall_bool,-Prod.exists,-Bool.exists_bool,st0_all,stT,st0Γ,st0E,st0P,inI64]
   refine ⟨fun h=>hbad i hil fun ho => ?_,fun h=>⟨⟨by omega,by omega⟩,k+1,⟨by omega,fun j q1 q2 => ?_⟩,by omega,TurnT.le (by simp -dsimp -implicitDefEqProofs)⟩⟩
   ·
    refine ho.2.1 ?_
    rw [hpi]
    unfold enp
    exact List.mem_map.2 ⟨p[k],List.mem_take_iff_getElem.2 ⟨k,by omega,rfl⟩,h⟩
   ·
    rcases Nat.lt_succ_iff_lt_or_eq.1 q2 with h' | rfl
    ·
     exact hne j q1 h'
    ·
     exact h
  ·
   obtain rfl:k=i:=by omega
   have hnk:¬ k<k:=by omega
   have hen:(plc p k).1∉enp (p.take k):=by
    rw [hpi]
    intro hm
    unfold enp at hm
    obtain ⟨x,hx,he⟩:=List.mem_map.1 hm
    obtain ⟨j,hj,rfl⟩:=List.mem_take_iff_getElem.1 hx
    exact hne j (by omega) (by omega) he
   have hsh:shr p k=true↔(0<k∧rkAt p k=rkAt p (k - 1)):=shr_rk
   have hrk:rkAt p k=p[k].2.1:=by unfold rkAt; rw [hpi]
   rcases k with _ | j
   ·
    have s0:shr p 0=false:=by unfold shr; rw [Bool.and_eq_false_iff]; exact .inl (decide_eq_false (by omega))
    simp -dsimp -implicitDefEqProofs [hil,hnk,conCheck_eq,-Prod.forall,-Bool.forall_bool,-Prod.exists,-Bool.exists_bool,st0_all,stT,st0Γ,st0E,st0P,inI64]
    refine ⟨fun h=>hbad 0 hil fun ho=>h (by have q:=ho.2.2.2.2.2 s0; rw [hpi] at q; exact q.trans (by decide)),fun h1=>⟨fun h=>hbad 0 hil fun ho => ?_,fun h2 h3=>⟨0+1,⟨by omega,fun j hj => ?_⟩,by omega,TurnT.le (by simp -dsimp -implicitDefEqProofs)⟩⟩⟩
    ·
     have q:=ho.2.2.2.1.2 (.inr rfl)
     rw [hpi] at q
     rcases h with h | h
     ·
      exact h q
     ·
      rw [q] at h; exact absurd h (by decide)
    ·
     obtain rfl:j=0:=by omega
     exact ⟨by rw [hpi]; exact h0,hen,by rw [hpi]; exact h3,⟨fun _=>.inr rfl,fun _=>by rw [hpi]; exact h2⟩,fun h=>(by rw [s0] at h; cases h),fun _=>by rw [hpi]; exact h1.trans (by decide)⟩
   ·
    have hjl:j<p.length:=by omega
    have hpj:plc p j=p[j]:=by unfold plc; rw [List.getElem?_eq_getElem hjl]; rfl
    have hrj:rkAt p j=p[j].2.1:=by unfold rkAt; rw [hpj]
    have e1:((j+1:Nat):Int) - 1=j:=by omega
    have e9:(j:Int)+1+1=((j+1:Nat):Int)+1:=by omega
    have ez:¬ (j:Int)+1=0:=by omega
    have hss:shr p (j+1)=true↔p[j+1].2.1=p[j].2.1:=by rw [hsh,hrk,Nat.add_sub_cancel,hrj]; exact ⟨fun q=>q.2,fun q=>⟨by omega,q⟩⟩
    have hjj:∀ (hb1 : -1≤p[j+1].2.2.1),(p[j+1].2.2.1 = -1↔p[j+1].2.1=p[j].2.1)→(p[j+1].2.1=p[j].2.1→p[j].1<p[j+1].1)→(¬ p[j+1].2.1=p[j].2.1→p[j+1].2.1=(j:Int)+1+1)→∀ q,q<j+1+1→okP p q:=fun hb1 hb2 hb3 hb4 q hq=>by
     rcases Nat.lt_succ_iff_lt_or_eq.1 hq with h' | rfl
     ·
      exact hall q h'
     ·
      refine ⟨by rw [hpi]; exact h0,hen,by rw [hpi]; exact hb1,?_,?_,?_⟩
      ·
       rw [hpi,hss]; exact ⟨fun a=>.inl (hb2.1 a),fun a=>a.elim hb2.2 fun b=>absurd b (Nat.succ_ne_zero _)⟩
      ·
       intro a; rw [Nat.add_sub_cancel,hpi,hpj]; exact hb3 (hss.1 a)
      ·
       intro a; rw [hpi]; exact (hb4 fun b=>by rw [hss.2 b] at a; cases a).trans e9
    by_cases hs:p[j+1].2.1=p[j].2.1
    ·
     have s1:=hss.2 hs
     have hb:(p[j+1].2.1==p[j].2.1)=true:=beq_iff_eq.2 hs
     simp -dsimp -implicitDefEqProofs [hil,hjl,hnk,e1,ez,hs,conCheck_eq,-Prod.forall,-Bool.forall_bool,-Prod.exists,-Bool.exists_bool,st0_all,stT,st0Γ,st0E,st0P,inI64]
     refine ⟨⟨by omega,by omega⟩,by omega,⟨by omega,by omega⟩,fun h=>hbad (j+1) hil fun ho => ?_,fun h1=>⟨⟨by omega,by omega⟩,fun q=>⟨q,by omega,by omega⟩,fun h=>hbad (j+1) hil fun ho => ?_,fun h2 h3=>⟨⟨by omega,by omega⟩,j+1+1,⟨by omega,hjj h3 ⟨fun _=>hs,fun _=>h2⟩ (fun _=>h1) (fun q=>absurd hs q)⟩,by omega,TurnT.le (by simp -dsimp -implicitDefEqProofs)⟩⟩⟩
     ·
      have q:=ho.2.2.2.2.1 s1
      rw [Nat.add_sub_cancel,hpi,hpj] at q
      exact absurd q (Int.not_lt.2 h)
     ·
      have q:=ho.2.2.2.1.2 (.inl s1)
      rw [hpi] at q
      rcases h with h | h
      ·
       exact h q
      ·
       rw [q] at h; exact absurd h (by decide)
    ·
     have s1:shr p (j+1)=false:=Bool.eq_false_iff.2 fun q=>hs (hss.1 q)
     have hb:(p[j+1].2.1==p[j].2.1)=false:=beq_eq_false_iff_ne.2 hs
     simp -dsimp -implicitDefEqProofs [hil,hjl,hnk,e1,ez,hs,hb,conCheck_eq,-Prod.forall,-Bool.forall_bool,-Prod.exists,-Bool.exists_bool,st0_all,stT,st0Γ,st0E,st0P,inI64]
     refine ⟨⟨by omega,by omega⟩,by omega,⟨by omega,by omega⟩,⟨by omega,by omega⟩,fun h=>hbad (j+1) hil fun ho=>h ?_,fun h1=>⟨⟨by omega,by omega⟩,fun q=>⟨q,by omega,by omega⟩,fun h=>hbad (j+1) hil fun ho => ?_,fun h2 h3=>⟨⟨by omega,by omega⟩,j+1+1,⟨by omega,hjj h3 ⟨fun q=>absurd q h2,fun q=>absurd q hs⟩ (fun q=>absurd q hs) (fun _=>h1)⟩,by omega,TurnT.le (by simp -dsimp -implicitDefEqProofs)⟩⟩⟩
     ·
      have q:=ho.2.2.2.2.2 s1
      rw [hpi] at q
      exact q.trans e9.symm
     ·
      have q:=ho.2.2.2.1
      have q2:=ho.2.2.1
      rw [hpi,hss] at q
      rw [hpi] at q2
      rcases h with h | h
      ·
       exact hs ((q.1 h).resolve_right (Nat.succ_ne_zero _))
      ·
       exact absurd h (Int.not_lt.2 q2)
 ·
  have hn:¬ i<p.length:=by omega
  simp -dsimp -implicitDefEqProofs [hn,conCheck_eq,-Prod.forall,-Bool.forall_bool,-Prod.exists,-Bool.exists_bool,st0_all,stT,st0Γ,st0E,st0P,inI64]
  rw [chkErr,if_neg (by omega),if_pos fun j hj=>hall j (by omega)]
end Go.Am
namespace Go.Am
set_option maxHeartbeats 4000000
set_option maxRecDepth 20000
open Go.RowKit Go.Proofs
attribute [local simp] thenKD_normal thenKD_exit thenKD_goto thenKD_ret inBlockKD_normal inBlockKD_exit inBlockKD_goto inBlockKD_ret noGotoKD_normal noGotoKD_exit noGotoKD_goto noGotoKD_ret roundKD_normal roundKD_exit roundKD_goto roundKD_ret frzSlotsD_nil frzSlotsD_cons frzSlotD_eq yieldVCD_trace opVCD_eq vcOpsD_nil vcOpsD_cons vcAllD_zero vcAllD_succ allAtD_nil allAtD_cons readyAux edgA vcD_skip vcD_label vcD_exit vcD_goto vcD_ret vcD_region vcD_seq vcD_seqC vcD_cond vcCondD_bool vcD_block vcD_scope vcD_loop vcD_rangeFunc yieldOf isMem isMem0 keepE envLe St.le psE yieldAV round_td round_y round_Γ vI vB vS aI aB aS look getE oper opRV putE allOk okOps Op.operands Call.operands pEv qEv mEv constRV coe RV.av loadEv loadCs takeAt indexAddrEv fieldAddrEv binEv intEv arith unEv gcond pickEv argsEv callVal callEv capAV_mk lenArgs lenEv minEv extractEv convEv funcEv allBox bound sliceEv lookupEv TD.isBool allocEv boxEv storeEv spl plainTD appendEv appendArgs makeMapEv mapUpdateEv buildEv buildSliceEv fillSV zsvOf sizeTD Ty.parses parses_flats' coeA flats_length AV.good AV.cells AV.pure SV.pure av_int av_bool av_str av_slice av_cons av_fld0 av_fld1 av_fld2 av_fld3 av_fld4 Ty.of Ty.dflt Ty.parse Ty.flat Ty.zsv Ty.fld Ty.get Ty.off Ty.nfld Ty.size coeTy junk Blk.look argEnv resEv resOk resVs oneRV retOk frzAs frzAV frzL frzSV boxCaps boxCap SV.sig sigs RV.scalar AV.scalar SV.scalar nope effVCD_eq effOf SV.ids AV.ids dedup SV.ren AV.ren RV.ren idx outId mergeB Blk.pureB flats_pure flat_pure epsSlotsD_nil epsSlotsD_cons epsSlotD_eq allEp D.parts_fnOf fvParts retEff round_E av_fn G.ye isCutD_nil isCutD_cons firstReg_region firstReg_seq firstReg_skip firstReg_ret firstReg_label firstReg_exit firstReg_goto firstReg_cond firstReg_block firstReg_scope firstReg_loop firstReg_rf eptrOf_mk flOfD_nil flOfD_cons vcFlD_cons vcFlD_nil flPairs_nil flPairs_cons vcFrD_nil vcFrD_cons makeSliceEv vcCondD_ib fzEv unfl_flats isFz round_fz panVCD_eq panOf isShift strIdxEv ifaceEv nilChkEv sliceAnyEv sliceOwnEv sliceSufEv appendEv0 appendEv1 Ty.beq Ty.isAgg round_Pn vcDefD_seqR vcDefD_seqS vcDefD_seqC vcDefD_seqB vcDefD_seqL vcDefD_seqF vcDefD_seqSc vcDefD_region vcDefD_ret vcDefD_cond vcDefD_block vcDefD_loop thenKD_panic inBlockKD_panic noGotoKD_panic exitOk_normal exitOk_ret exitOk_panic exitOk_exit runDefs_none runDefs_some runDefs_cons defRegD isDefer defOf caughtCon unfl_cons D.bpart_bndOf D.parts_bndOf AV.sig
attribute [local simp ←] flats_append
def lwXΓ:List (FuncId×Con):=(14,conByScore)::(18,conByPlaces)::(20,conCheck)::lwsΓ
theorem lwXΓ_ok:∀ p∈lwXΓ,(∀ (args:Array Value) (w:World),(callFunc p.1 args).run Tryz.prog w=.ok (.enter p.1 args) w)∧PureOk Tryz.prog p.1 p.2:=by
 simp only [lwXΓ,List.forall_mem_cons]
 exact ⟨⟨enters_of Tryz.func14 (by kernel_rfl) rfl,rfbysc_ok⟩,⟨enters_of Tryz.func18 (by kernel_rfl) rfl,rfbypl_ok⟩,⟨enters_of Tryz.func20 (by kernel_rfl) rfl,rfchk_ok⟩,lwsΓ_ok⟩
def lwXE:List (FuncId×ECon):=lwsE
theorem lwXE_ok:∀ p∈lwXE,(∀ (args:Array Value) (w:World),(callFunc p.1 args).run Tryz.prog w=.ok (.enter p.1 args) w)∧EffOk Tryz.prog p.1 p.2:=by
 simp only [lwXE]
 exact lwsE_ok
def lwXP:List (FuncId×PCon):=lwsP
theorem lwXP_ok:∀ p∈lwXP,(∀ (args:Array Value) (w:World),(callFunc p.1 args).run Tryz.prog w=.ok (.enter p.1 args) w)∧PanOk Tryz.prog p.1 p.2:=by
 simp only [lwXP]
 exact lwsP_ok
def lwX:G:={ τ:=lwT,Γ:=lwXΓ,E:=lwXE,Pn:=lwXP }
theorem lwX_good:lwX.good Tryz.prog:=good_of_all (lwT_ok _ rfl) lwXΓ_ok lwXE_ok lwXP_ok
theorem lwX_all:(∀ t,lwX.td t=(look lwT t).getD .other)∧lwX.y=false∧lwX.Γ=lwXΓ∧lwX.E=lwXE∧lwX.Pn=lwXP∧lwX.fz=[]:=⟨fun _=>rfl,rfl,rfl,rfl,rfl,rfl⟩
def conSSpec:Con:=⟨fun args=>(match args with
 | [.s (.sl (.cons (.int .i64) (.cons .str (.cons (.int .i64) .nil))) ks _),.s (.sl (.cons (.int .i64) (.cons (.cons (.cons .bool (.cons (.slice (.int .i64)) .nil)) (.cons (.cons .bool (.cons (.slice (.int .i64)) .nil)) .nil)) (.cons (.slice (.cons (.cons .bool (.cons (.slice (.int .i64)) .nil)) (.cons (.cons .bool (.cons (.slice (.int .i64)) .nil)) .nil))) (.cons (.slice (.cons (.cons .bool (.cons (.slice (.int .i64)) .nil)) (.cons (.cons .bool (.cons (.slice (.int .i64)) .nil)) .nil))) (.cons (.int .i64) (.cons (.int .i64) (.cons (.int .i64) .nil))))))) l _)]=>True
 | _=>False),fun args=>match args with
 | [.s (.sl (.cons (.int .i64) (.cons .str (.cons (.int .i64) .nil))) ks _),.s (.sl (.cons (.int .i64) (.cons (.cons (.cons .bool (.cons (.slice (.int .i64)) .nil)) (.cons (.cons .bool (.cons (.slice (.int .i64)) .nil)) .nil)) (.cons (.slice (.cons (.cons .bool (.cons (.slice (.int .i64)) .nil)) (.cons (.cons .bool (.cons (.slice (.int .i64)) .nil)) .nil))) (.cons (.slice (.cons (.cons .bool (.cons (.slice (.int .i64)) .nil)) (.cons (.cons .bool (.cons (.slice (.int .i64)) .nil)) .nil))) (.cons (.int .i64) (.cons (.int .i64) (.cons (.int .i64) .nil))))))) l _)]=>.v (aB true)
 | _=>.v (.s .any)⟩
theorem conSSpec_eq (ks:List (Ty.T tKey)) (exks:Bool) (l:List (Ty.T tKd)) (exl:Bool):conSSpec.pre [.s (.sl tKey ks exks),.s (.sl tKd l exl)]=(True)∧conSSpec.val [.s (.sl tKey ks exks),.s (.sl tKd l exl)]=.v (aB true):=⟨rfl,rfl⟩
theorem sspec_ok:PureOk Tryz.prog 3 conSSpec:=by
 refine pureOkD (L:={ live:=[0,1,4,5,6,7,8,10,14] }) lwX_good rfl nr_mixed Tryz.func3 rfl conSSpec 2 (by decide) (by kernel_rfl) ?_
 intro args hpre hlens
 simp only [conSSpec] at hpre
 split at hpre
 case h_2=>exact hpre.elim
 rename_i ks ek l el
 simp only [allLen,AV.lenOk,SV.lenOk,Ty.lenOk,maxLen,and_true,implies_true,true_and,List.forall_mem_cons,List.not_mem_nil,false_implies] at hlens
 refine ⟨rfl,?_⟩
 simp -dsimp -implicitDefEqProofs [Tryz.f3,conSSpec_eq,-Prod.forall,-Bool.forall_bool,-Prod.exists,-Bool.exists_bool,lwX_all,lwT,lwXΓ,lwXE,lwXP,lwsΓ,lwsE,lwsP,lwfΓ,lwfE,lwfP,lw1Γ,lw1E,lw1P,lw0Γ,lw0E,lw0P,conByScore_eq,conByPlaces_eq,conCheck_eq,conTCmp_eq,Pl.conCompare_eq,conFew21_eq,conFewO_eq,conRank_eq,conFewR_eq,conSane23_pre,conSane23_val,conScored_eq,conSameP_eq,conRInt_eq,inI64]
 intro hf
 obtain ⟨k40,l12⟩:=few_len hf
 exact ⟨by omega,by omega⟩
def conSPSpec:Con:=⟨fun args=>(match args with
 | [.s (.sl (.slice (.int .i64)) ord _),.s (.sl (.cons (.int .i64) (.cons .str (.cons (.int .i64) .nil))) ks _),.s (.sl (.cons (.int .i64) (.cons (.cons (.cons .bool (.cons (.slice (.int .i64)) .nil)) (.cons (.cons .bool (.cons (.slice (.int .i64)) .nil)) .nil)) (.cons (.slice (.cons (.cons .bool (.cons (.slice (.int .i64)) .nil)) (.cons (.cons .bool (.cons (.slice (.int .i64)) .nil)) .nil))) (.cons (.slice (.cons (.cons .bool (.cons (.slice (.int .i64)) .nil)) (.cons (.cons .bool (.cons (.slice (.int .i64)) .nil)) .nil))) (.cons (.int .i64) (.cons (.int .i64) (.cons (.int .i64) .nil))))))) l _),.s (.sl (.cons (.int .i64) (.cons (.int .i64) (.cons (.int .i64) .nil))) p _)]=>True
 | _=>False),fun args=>match args with
 | [.s (.sl (.slice (.int .i64)) ord _),.s (.sl (.cons (.int .i64) (.cons .str (.cons (.int .i64) .nil))) ks _),.s (.sl (.cons (.int .i64) (.cons (.cons (.cons .bool (.cons (.slice (.int .i64)) .nil)) (.cons (.cons .bool (.cons (.slice (.int .i64)) .nil)) .nil)) (.cons (.slice (.cons (.cons .bool (.cons (.slice (.int .i64)) .nil)) (.cons (.cons .bool (.cons (.slice (.int .i64)) .nil)) .nil))) (.cons (.slice (.cons (.cons .bool (.cons (.slice (.int .i64)) .nil)) (.cons (.cons .bool (.cons (.slice (.int .i64)) .nil)) .nil))) (.cons (.int .i64) (.cons (.int .i64) (.cons (.int .i64) .nil))))))) l _),.s (.sl (.cons (.int .i64) (.cons (.int .i64) (.cons (.int .i64) .nil))) p _)]=>.v (aB true)
 | _=>.v (.s .any)⟩
theorem conSPSpec_eq (ord:List (Ty.T (.slice tI))) (exord:Bool) (ks:List (Ty.T tKey)) (exks:Bool) (l:List (Ty.T tKd)) (exl:Bool) (p:List (Ty.T tPlc)) (exp:Bool):conSPSpec.pre [.s (.sl (.slice tI) ord exord),.s (.sl tKey ks exks),.s (.sl tKd l exl),.s (.sl tPlc p exp)]=(True)∧conSPSpec.val [.s (.sl (.slice tI) ord exord),.s (.sl tKey ks exks),.s (.sl tKd l exl),.s (.sl tPlc p exp)]=.v (aB true):=⟨rfl,rfl⟩
theorem spspec_ok:PureOk Tryz.prog 4 conSPSpec:=by
 refine pureOkD (L:={ live:=[0,1,2,3,8,9,10,11,12,14,38] }) lwX_good rfl nr_mixed Tryz.func4 rfl conSPSpec 4 (by decide) (by kernel_rfl) ?_
 intro args hpre hlens
 simp only [conSPSpec] at hpre
 split at hpre
 case h_2=>exact hpre.elim
 rename_i ord eo ks ek l el p ep
 simp only [allLen,AV.lenOk,SV.lenOk,Ty.lenOk,maxLen,and_true,implies_true,true_and,List.forall_mem_cons,List.not_mem_nil,false_implies] at hlens
 refine ⟨rfl,?_⟩
 simp -dsimp -implicitDefEqProofs [Tryz.f4,conSPSpec_eq,-Prod.forall,-Bool.forall_bool,-Prod.exists,-Bool.exists_bool,lwX_all,lwT,lwXΓ,lwXE,lwXP,lwsΓ,lwsE,lwsP,lwfΓ,lwfE,lwfP,lw1Γ,lw1E,lw1P,lw0Γ,lw0E,lw0P,conByScore_eq,conByPlaces_eq,conCheck_eq,conTCmp_eq,Pl.conCompare_eq,conFew21_eq,conFewO_eq,conRank_eq,conFewR_eq,conSane23_pre,conSane23_val,conScored_eq,conSameP_eq,conRInt_eq,inI64]
 refine ⟨fun a b=>⟨⟨a,b⟩,fun c=>⟨⟨a,b⟩,c⟩⟩,fun a b c=>⟨⟨a,b⟩,?_⟩,fun hf _ _ _ => ?_⟩
 ·
  rcases Int.lt_or_le 20 (p.length:Int) with h | h
  ·
   exact .inr (c h)
  ·
   exact .inl h
 ·
  obtain ⟨k40,l12⟩:=few_len hf
  exact ⟨by omega,by omega⟩
def conSSpecW:Con:=⟨fun args=>∃ (ks:List tKey.T) (l:List tKd.T),args=[.s (.sl tKey ks false),.s (.sl tKd l false)],fun _=>.v (aB true)⟩
theorem sspec_okW:PureOk Tryz.prog 3 conSSpecW:=by
 refine PureOk.of fun args hpre => ?_
 obtain ⟨ks,l,rfl⟩:=hpre
 exact ⟨conSSpec,sspec_ok,trivial,rfl⟩
def conSPSpecW:Con:=⟨fun args=>∃ (ord:List (List Int)) (ks:List tKey.T) (l:List tKd.T) (p:List tPlc.T),args=[.s (.sl (.slice tI) ord false),.s (.sl tKey ks false),.s (.sl tKd l false),.s (.sl tPlc p false)],fun _=>.v (aB true)⟩
theorem spspec_okW:PureOk Tryz.prog 4 conSPSpecW:=by
 refine PureOk.of fun args hpre => ?_
 obtain ⟨ord,ks,l,p,rfl⟩:=hpre
 exact ⟨conSPSpec,spspec_ok,trivial,rfl⟩
end Go.Am
