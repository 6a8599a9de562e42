/- A last part of the proof's base. -/
import Derived.Test.YtnekjoocbfbmaaaGreatZ10
set_option linter.all false
noncomputable section
namespace Go.Am
set_option maxHeartbeats 4000000
set_option maxRecDepth 20000
open Go.RowKit Go.Proofs
attribute [local simp] thenKD_normal thenKD_exit thenKD_goto thenKD_ret inBlockKD_normal inBlockKD_exit inBlockKD_goto inBlockKD_ret noGotoKD_normal noGotoKD_exit noGotoKD_goto noGotoKD_ret roundKD_normal roundKD_exit roundKD_goto roundKD_ret frzSlotsD_nil frzSlotsD_cons frzSlotD_eq yieldVCD_trace opVCD_eq vcOpsD_nil vcOpsD_cons vcAllD_zero vcAllD_succ allAtD_nil allAtD_cons readyAux edgA vcD_skip vcD_label vcD_exit vcD_goto vcD_ret vcD_region vcD_seq vcD_seqC vcD_cond vcCondD_bool vcD_block vcD_scope vcD_loop vcD_rangeFunc yieldOf isMem isMem0 keepE envLe St.le psE yieldAV round_td round_y round_Γ vI vB vS aI aB aS look getE oper opRV putE allOk okOps Op.operands Call.operands pEv qEv mEv constRV coe RV.av loadEv loadCs takeAt indexAddrEv fieldAddrEv binEv intEv arith unEv gcond pickEv argsEv callVal callEv capAV_mk lenArgs lenEv minEv extractEv convEv funcEv allBox bound sliceEv lookupEv TD.isBool allocEv boxEv storeEv spl plainTD appendEv appendArgs makeMapEv mapUpdateEv buildEv buildSliceEv fillSV zsvOf sizeTD Ty.parses parses_flats' coeA flats_length AV.good AV.cells AV.pure SV.pure av_int av_bool av_str av_slice av_cons av_fld0 av_fld1 av_fld2 av_fld3 av_fld4 Ty.of Ty.dflt Ty.parse Ty.flat Ty.zsv Ty.fld Ty.get Ty.off Ty.nfld Ty.size coeTy junk Blk.look argEnv resEv resOk resVs oneRV retOk frzAs frzAV frzL frzSV boxCaps boxCap SV.sig sigs RV.scalar AV.scalar SV.scalar nope effVCD_eq effOf SV.ids AV.ids dedup SV.ren AV.ren RV.ren idx outId mergeB Blk.pureB flats_pure flat_pure epsSlotsD_nil epsSlotsD_cons epsSlotD_eq allEp D.parts_fnOf fvParts retEff round_E av_fn G.ye isCutD_nil isCutD_cons firstReg_region firstReg_seq firstReg_skip firstReg_ret firstReg_label firstReg_exit firstReg_goto firstReg_cond firstReg_block firstReg_scope firstReg_loop firstReg_rf eptrOf_mk flOfD_nil flOfD_cons vcFlD_cons vcFlD_nil flPairs_nil flPairs_cons vcFrD_nil vcFrD_cons makeSliceEv vcCondD_ib fzEv unfl_flats isFz round_fz panVCD_eq panOf isShift strIdxEv ifaceEv nilChkEv sliceAnyEv sliceOwnEv sliceSufEv appendEv0 appendEv1 Ty.beq Ty.isAgg round_Pn vcDefD_seqR vcDefD_seqS vcDefD_seqC vcDefD_seqB vcDefD_seqL vcDefD_seqF vcDefD_seqSc vcDefD_region vcDefD_ret vcDefD_cond vcDefD_block vcDefD_loop thenKD_panic inBlockKD_panic noGotoKD_panic exitOk_normal exitOk_ret exitOk_panic exitOk_exit runDefs_none runDefs_some runDefs_cons defRegD isDefer defOf caughtCon unfl_cons D.bpart_bndOf D.parts_bndOf AV.sig
attribute [local simp ←] flats_append
theorem chk_more {ks more:List tKey.T} {l:List tKd.T} (h:chkS (ks++more) l=0):chkS ks l=0:=by
 obtain ⟨h1,h2⟩:=chkS_0.1 h
 obtain ⟨h3,h4⟩:=sortErr_0.1 h1
 have hp:plainB ks=true:=by
  unfold plainB at h3 ⊢
  rw [Bool.and_eq_true,List.all_append,Bool.and_eq_true] at h3
  rw [h3.1.1,Bool.true_and]
  have:=h3.2
  rw [decide_eq_true_eq,List.length_append] at this
  exact decide_eq_true (by omega)
 refine chkS_0.2 ⟨sortErr_0.2 ⟨hp,fun x hx => ?_⟩,h2⟩
 have hw:=h4 x hx
 unfold wrongV hasLs at hw ⊢
 rw [known_all h3,List.map_append,List.any_append,Bool.or_eq_false_iff,Bool.or_eq_false_iff] at hw
 rw [known_all hp,hw.1.1,hw.2]
 rfl
theorem keys_look {ks more:List tKey.T} {l:List tKd.T} (hk:ks.length≤40) (hk2:(ks++more).length≤40) (h:chkS ks l=0) (h':chkS (ks++more) l=0) {i k:Nat} (hi:i<(scoreL ks l).length) (hkl:k<(scoreL ks l).length) :
  1≤rankOf (scoreL (ks++more) l) (scoreL ks l)[i].1∧((scoreL ks l)[i].2.1<(scoreL ks l)[k].2.1→rankOf (scoreL (ks++more) l) (scoreL ks l)[i].1<rankOf (scoreL (ks++more) l) (scoreL ks l)[k].1):=by
 obtain ⟨es,e1,e2⟩:=score_srt (show ks.length≤10000 by omega) h
 obtain ⟨es',f1,f2⟩:=score_srt (show (ks++more).length≤10000 by omega) h'
 have hl:(scoreL ks l).length=es.length:=by rw [e2,plE_len]
 have:=keys_more h h' e1 f1 (show i<es.length by omega) (show k<es.length by omega)
 have g1:(scoreL ks l)[i]=((es[i]?.getD dK).1,rkE (tC ks) dK es i,byE ks es i,()):=by
  have:∀ (p:List tPlc.T) (hp:i<p.length),p=plE ks es→p[i]=((es[i]?.getD dK).1,rkE (tC ks) dK es i,byE ks es i,()):=fun p hp e=>by subst e; exact plE_at hp
  exact this _ hi e2
 have g2:(scoreL ks l)[k]=((es[k]?.getD dK).1,rkE (tC ks) dK es k,byE ks es k,()):=by
  have:∀ (p:List tPlc.T) (hp:k<p.length),p=plE ks es→p[k]=((es[k]?.getD dK).1,rkE (tC ks) dK es k,byE ks es k,()):=fun p hp e=>by subst e; exact plE_at hp
  exact this _ hkl e2
 rw [f2,g1,g2]
 exact this
def conSKeys:Con:=⟨fun args=>(match args with
 | [.s (.sl (.cons (.int .i64) (.cons .str (.cons (.int .i64) .nil))) ks _),.s (.sl (.cons (.int .i64) (.cons .str (.cons (.int .i64) .nil))) more _),.s (.sl (.cons (.int .i64) (.cons (.cons (.cons .bool (.cons (.slice (.int .i64)) .nil)) (.cons (.cons .bool (.cons (.slice (.int .i64)) .nil)) .nil)) (.cons (.slice (.cons (.cons .bool (.cons (.slice (.int .i64)) .nil)) (.cons (.cons .bool (.cons (.slice (.int .i64)) .nil)) .nil))) (.cons (.slice (.cons (.cons .bool (.cons (.slice (.int .i64)) .nil)) (.cons (.cons .bool (.cons (.slice (.int .i64)) .nil)) .nil))) (.cons (.int .i64) (.cons (.int .i64) (.cons (.int .i64) .nil))))))) l _)]=>ks.length≤1000000000∧more.length≤1000000000
 | _=>False),fun args=>match args with
 | [.s (.sl (.cons (.int .i64) (.cons .str (.cons (.int .i64) .nil))) ks _),.s (.sl (.cons (.int .i64) (.cons .str (.cons (.int .i64) .nil))) more _),.s (.sl (.cons (.int .i64) (.cons (.cons (.cons .bool (.cons (.slice (.int .i64)) .nil)) (.cons (.cons .bool (.cons (.slice (.int .i64)) .nil)) .nil)) (.cons (.slice (.cons (.cons .bool (.cons (.slice (.int .i64)) .nil)) (.cons (.cons .bool (.cons (.slice (.int .i64)) .nil)) .nil))) (.cons (.slice (.cons (.cons .bool (.cons (.slice (.int .i64)) .nil)) (.cons (.cons .bool (.cons (.slice (.int .i64)) .nil)) .nil))) (.cons (.int .i64) (.cons (.int .i64) (.cons (.int .i64) .nil))))))) l _)]=>.v (aB true)
 | _=>.v (.s .any)⟩
theorem conSKeys_eq (ks:List (Ty.T tKey)) (exks:Bool) (more:List (Ty.T tKey)) (exmore:Bool) (l:List (Ty.T tKd)) (exl:Bool):conSKeys.pre [.s (.sl tKey ks exks),.s (.sl tKey more exmore),.s (.sl tKd l exl)]=(ks.length≤1000000000∧more.length≤1000000000)∧conSKeys.val [.s (.sl tKey ks exks),.s (.sl tKey more exmore),.s (.sl tKd l exl)]=.v (aB true):=⟨rfl,rfl⟩
theorem skeys_ok:PureOk Tryz.prog 9 conSKeys:=by
 refine pureOkD (L:={ live:=[0,1,2,6,7,8,9,10,11,12,13,14,15,17,26,44,58,62,68,108],frz:=[(4,[7])] }) lws_good rfl nr_mixed Tryz.func9 rfl conSKeys 3 (by decide) (by kernel_rfl) ?_
 intro args hpre hlens
 simp only [conSKeys] at hpre
 split at hpre
 case h_2=>exact hpre.elim
 rename_i ks ek more em l el
 simp only [allLen,AV.lenOk,SV.lenOk,Ty.lenOk,maxLen,and_true,implies_true,true_and,List.forall_mem_cons,List.not_mem_nil,false_implies] at hlens
 refine ⟨rfl,?_⟩
 simp -dsimp -implicitDefEqProofs [Tryz.f9,conSKeys_eq,-Prod.forall,-Bool.forall_bool,-Prod.exists,-Bool.exists_bool,lws_all,lwT,lwsΓ,lwsE,lwsP,lwfΓ,lwfE,lwfP,lw1Γ,lw1E,lw1P,lw0Γ,lw0E,lw0P,conTCmp_eq,Pl.conCompare_eq,conFew21_eq,conFewO_eq,conRank_eq,conFewR_eq,conSane23_pre,conSane23_val,conScored_eq,conSameP_eq,conRInt_eq,conByScore_eq,conByPlaces_eq,conCheck_eq,inI64]
 obtain ⟨b1,b2⟩:=hpre
 have b1:ks.length≤1000000000:=b1
 have b2:more.length≤1000000000:=b2
 have hmx:10000000000≤maxLen:=by simp only [maxLen]; omega
 refine ⟨⟨by omega,by omega⟩,⟨by omega,by omega⟩,ks++more,rfl,(List.length_append ..).symm,fun hf => ?_⟩
 obtain ⟨a40,l12⟩:=few_len hf
 have k40:ks.length≤40:=by rw [List.length_append] at a40; omega
 refine ⟨⟨by omega,by omega⟩,⟨by omega,by omega⟩,fun h h2 => ?_,fun h1 h2=>⟨⟨by rw [scoreL_len h1],by rw [scoreL_len h2]⟩,fun _ _ => ?_⟩⟩
 ·
  rcases h with h | h
  ·
   exact h (chk_more h2)
  ·
   exact h h2
 have H:=fun i k hi hk=>keys_look (more:=more) k40 a40 h1 h2 (i:=i) (k:=k) hi hk
 generalize scoreL ks l=p at *
 generalize scoreL (ks++more) l=q at *
 generalize ks++more=all at *
 generalize chkS ks l=c1 at *
 generalize chkS all l=c2 at *
 refine WpD.loop (L:={ live:=[0,1,2,6,7,8,9,10,11,12,13,14,15,17,26,44,58,62,68,108],frz:=[(4,[7])] }) lws_good X0_ok nr_mixed (by kernel_rfl)
  (fun i:Nat=>⟨[(6,vB false),(8,vS tPlc p false),(10,vS tPlc q false),(12,vI i)],[.dead]⟩)
  (fun i=>i≤p.length) (fun i=>p.length - i) 0 (Nat.zero_le _) (Turn.le (by simp -dsimp -implicitDefEqProofs)) ?_
 intro i hi
 rcases Nat.lt_or_ge i p.length with hil | hge
 ·
  simp -dsimp -implicitDefEqProofs [hil,-Prod.forall,-Bool.forall_bool,-Prod.exists,-Bool.exists_bool,lws_all,lwT,lwsΓ,lwsE,lwsP,lwfΓ,lwfE,lwfP,lw1Γ,lw1E,lw1P,lw0Γ,lw0E,lw0P,conTCmp_eq,Pl.conCompare_eq,conFew21_eq,conFewO_eq,conRank_eq,conFewR_eq,conSane23_pre,conSane23_val,conScored_eq,conSameP_eq,conRInt_eq,conByScore_eq,conByPlaces_eq,conCheck_eq,inI64]
  refine WpD.loop (L:={ live:=[0,1,2,6,7,8,9,10,11,12,13,14,15,17,26,44,58,62,68,108],frz:=[(4,[7])] }) lws_good X0_ok nr_mixed (by kernel_rfl)
   (fun k:Nat=>⟨[(6,vB false),(8,vS tPlc p false),(10,vS tPlc q false),(12,vI i),(13,vI k)],[.dead]⟩)
   (fun k=>k≤p.length) (fun k=>p.length - k) 0 (Nat.zero_le _) (Turn.le (by simp -dsimp -implicitDefEqProofs)) ?_
  intro k hk
  rcases Nat.lt_or_ge k p.length with hkl | hkg
  ·
   obtain ⟨q1,q2⟩:=H i k hil hkl
   obtain ⟨q3,_⟩:=H k i hkl hil
   have n1:¬ rankOf q p[i].1=0:=by omega
   have n2:¬ rankOf q p[k].1=0:=by omega
   simp -dsimp -implicitDefEqProofs [hil,hkl,n1,n2,-Prod.forall,-Bool.forall_bool,-Prod.exists,-Bool.exists_bool,lws_all,lwT,lwsΓ,lwsE,lwsP,lwfΓ,lwfE,lwfP,lw1Γ,lw1E,lw1P,lw0Γ,lw0E,lw0P,conTCmp_eq,Pl.conCompare_eq,conFew21_eq,conFewO_eq,conRank_eq,conFewR_eq,conSane23_pre,conSane23_val,conScored_eq,conSameP_eq,conRInt_eq,conByScore_eq,conByPlaces_eq,conCheck_eq,inI64]
   refine ⟨fun a b=>absurd (q2 a) (by omega),fun _=>⟨⟨by omega,by omega⟩,k+1,by omega,by omega,TurnT.le (by simp -dsimp -implicitDefEqProofs)⟩⟩
  ·
   have hnk:¬ k<p.length:=by omega
   simp -dsimp -implicitDefEqProofs [hil,hnk,-Prod.forall,-Bool.forall_bool,-Prod.exists,-Bool.exists_bool,lws_all,lwT,lwsΓ,lwsE,lwsP,lwfΓ,lwfE,lwfP,lw1Γ,lw1E,lw1P,lw0Γ,lw0E,lw0P,conTCmp_eq,Pl.conCompare_eq,conFew21_eq,conFewO_eq,conRank_eq,conFewR_eq,conSane23_pre,conSane23_val,conScored_eq,conSameP_eq,conRInt_eq,conByScore_eq,conByPlaces_eq,conCheck_eq,inI64]
   exact ⟨⟨by omega,by omega⟩,i+1,by omega,by omega,TurnT.le (by simp -dsimp -implicitDefEqProofs)⟩
 ·
  have hn:¬ i<p.length:=by omega
  simp -dsimp -implicitDefEqProofs [hn,conSKeys_eq,-Prod.forall,-Bool.forall_bool,-Prod.exists,-Bool.exists_bool,lws_all,lwT,lwsΓ,lwsE,lwsP,lwfΓ,lwfE,lwfP,lw1Γ,lw1E,lw1P,lw0Γ,lw0E,lw0P,conTCmp_eq,Pl.conCompare_eq,conFew21_eq,conFewO_eq,conRank_eq,conFewR_eq,conSane23_pre,conSane23_val,conScored_eq,conSameP_eq,conRInt_eq,conByScore_eq,conByPlaces_eq,conCheck_eq,inI64]
def conSKeysW:Con:=⟨fun args=>∃ (ks more:List tKey.T) (l:List tKd.T),(ks.length≤1000000000∧more.length≤1000000000)∧args=[.s (.sl tKey ks false),.s (.sl tKey more false),.s (.sl tKd l false)],fun _=>.v (aB true)⟩
theorem skeys_okW:PureOk Tryz.prog 9 conSKeysW:=by
 refine PureOk.of fun args hpre => ?_
 obtain ⟨ks,more,l,h,rfl⟩:=hpre
 exact ⟨conSKeys,skeys_ok,h,rfl⟩
end Go.Am
namespace Go.Am
open Go.RowKit Go.ChangeShapes Go.WideShapes Go.Proofs.YtnekjoocbfbmaaaGreat Go.Deep
section
variable {H:Type} {enc:TypeId×Value→H} {P:Program} {W:World} {base:Nat} {spare:Nat→Bool} {held:Bool}
theorem bulk_pos:∀ d:DataW H,1≤Rows.uptoBulk d
 | .lit x=>by cases x <;> simp [Rows.uptoBulk]
 | .nil=>by simp [Rows.uptoBulk]
 | .ptr d=>by simp [Rows.uptoBulk]
 | .slice e s=>by simp [Rows.uptoBulk]
 | .agg p=>by simp [Rows.uptoBulk]
 | .iface _ d=>by simp [Rows.uptoBulk]
 | .map e=>by simp [Rows.uptoBulk]
 | .held _=>by simp [Rows.uptoBulk]
theorem bulk_len:∀ l:List (DataW H),l.length≤Rows.uptoBulkAll l
 | []=>Nat.zero_le _
 | d::l=>by
  have h1:=bulk_pos d
  have h2:=bulk_len l
  simp only [Rows.uptoBulkAll,List.length_cons]
  omega
theorem bulk_append:∀ l m:List (DataW H),Rows.uptoBulkAll l≤Rows.uptoBulkAll (l++m)
 | [],m=>by simp [Rows.uptoBulkAll]
 | d::l,m=>by
  have:=bulk_append l m
  simp only [List.cons_append,Rows.uptoBulkAll]
  omega
def argLen:Sigma Ty.T→Nat
 | ⟨.slice t,xs⟩=>List.length xs
 | _=>0
theorem trod_argL {ty:Ty} {T:TypeId} {r:Reach} {b0:Nat} {v:Value} {d:DataW H} {ps:List MemPlace} (ht:TyOf P ty T) (hok:Value.okWide P W r b0 T v) (h:DataW.Trod enc P W base spare held T v d ps) :
  ∃ x:ty.T,relAV W (fun _=>False) [] [] (argOf ⟨ty,x⟩) v∧argIn ⟨ty,x⟩∧argLen ⟨ty,x⟩≤Rows.uptoBulk d:=by
 obtain ⟨x,h1,h2⟩:=trod_arg ht hok h
 refine ⟨x,h1,h2,?_⟩
 cases ty with
 | slice t =>
  simp only [TyOf] at ht
  obtain ⟨e,q1,_⟩:=ht
  simp only [argOf,relAV,relSV] at h1
  obtain ⟨a,c,rfl,_⟩:=h1
  obtain ⟨fuel,hf⟩:=h
  rcases open_slice q1 hf with ⟨k1,k2⟩ | ⟨a',len,cap,m,n,D,Pl,k1,_,_,_,_,k2,_⟩
  ·
   have:x.length=0:=by
    simp only [Value.cells] at k1
    simp at k1
    simp [k1.2.1]
   show List.length x≤_
   omega
  ·
   have hx:x.length=len:=by
    simp only [Value.cells] at k1
    simp at k1
    exact k1.2.1
   have hd:d=.slice ((List.range len).map D) ((List.range (m - len)).map fun j=>D (len+j)):=congrArg Prod.fst k2
   show List.length x≤_
   rw [hd,hx]
   have:=bulk_len ((List.range len).map D)
   rw [List.length_map,List.length_range] at this
   simp only [Rows.uptoBulk]
   omega
 | _=>exact Nat.zero_le _
theorem trodAll_argsL:∀ {tys:List Ty} {Ts:List TypeId} {r:Reach} {b0:Nat} {vs:List Value} {ds:List (DataW H)} {ps:List MemPlace},All2 (TyOf P) tys Ts →
  (∀ (j:Nat) t v,Ts[j]?=some t→vs[j]?=some v→Value.okWide P W r b0 t v)→DataW.TrodAll enc P W base spare held Ts vs ds ps →
  ∃ xs:List (Sigma Ty.T),xs.map (·.1)=tys∧All2 (relAV W (fun _=>False) [] []) (xs.map argOf) vs∧∀ x∈xs,argIn x∧argLen x≤Rows.uptoBulkAll ds:=by
 intro tys Ts r b0 vs ds ps ht
 induction ht generalizing vs ds ps with
 | nil =>
  intro _ h
  obtain ⟨rfl,_,_⟩:=trodAll_nil h
  exact ⟨[],rfl,.nil,by simp⟩
 | cons h1 _ ih =>
  intro hok h
  obtain ⟨v,vs',d,ds',p,q,rfl,rfl,rfl,h2,h3⟩:=trodAll_cons h
  obtain ⟨x,hx,hi,hl⟩:=trod_argL h1 (hok 0 _ _ rfl rfl) h2
  obtain ⟨xs,e,hxs,his⟩:=ih (fun j t u h h'=>hok (j+1) t u (by simpa using h) (by simpa using h')) h3
  refine ⟨⟨_,x⟩::xs,by simp [e],.cons hx hxs,fun y hy => ?_⟩
  simp only [Rows.uptoBulkAll]
  rcases List.mem_cons.1 hy with rfl | hy
  ·
   exact ⟨hi,by omega⟩
  ·
   obtain ⟨a,b⟩:=his y hy
   exact ⟨a,by omega⟩
end
theorem law_contractU {P:Program} {f:FuncId} {fn:Func} {con:Con} {s:ChangeSpec} {tys:List Ty} {T:TypeId} (apart:Bool)
  (hp:PureOk P f con) (hpre:∀ xs:List (Sigma Ty.T),xs.map (·.1)=tys→(∀ x∈xs,argIn x∧argLen x≤1048576)→con.pre (xs.map argOf)) (hval:∀ args,con.val args=.v (.s (.bool true)))
  (ht:All2 (TyOf P) tys fn.params.toList) (hr:∀ T∈fn.params.toList,P.readableRec T=true∧T<P.types.size) (hl:laidOutB P=true)
  (hres:fn.resultTypes=#[T]) (hT:P.underlying T=some .bool) (hv:s.vars=[])
  {H:Type} (enc:TypeId×Value→H) (hs:∀ ds:List (DataW H),ds.length=tys.length→(s.fn H ds).results=[.lit (.bool true)]∧(s.fn H ds).args=ds∧(s.fn H ds).vars=[])
  (W:World) (base:Nat) (args:Array Value) (ds gs:List (DataW H)) (before:List MemPlace) (hk:Rows.uptoSmall H (ds++gs)=true)
  (hok:∀ (j:Nat) t v,fn.params[j]?=some t→args[j]?=some v→Value.okWide P W .any base t v)
  (hW:DataW.Whole enc P fn.params.toList s.vars apart W args.toList ds gs before) :
  Calls P f args W fun e W'=>∃ v,e=.returned v∧s.post enc P fn apart true false false W args v W':=by
 have hb:Rows.uptoBulkAll ds≤1048576:=Nat.le_trans (bulk_append ds gs) (of_decide_eq_true hk)
 have hW':=hW
 obtain ⟨p,q,hA,hV,rfl,_,_⟩:=hW
 rw [hv] at hV
 obtain ⟨rfl,rfl⟩:=trodVars_none hV
 simp only [List.append_nil] at hW'
 obtain ⟨xs,e,hxs,his⟩:=trodAll_argsL ht (fun j t v h h'=>hok j t v (by simpa [Array.getElem?_toList] using h) (by simpa [Array.getElem?_toList] using h')) hA
 have hlen:ds.length=tys.length:=by
  have h1:=ht.length
  have h2:∀ {Ts:List TypeId} {vs:List Value} {ds:List (DataW H)} {ps:List MemPlace},DataW.TrodAll enc P W 0 (fun _=>true) true Ts vs ds ps→ds.length=Ts.length:=by
   intro Ts
   induction Ts with
   | nil=>intro vs ds ps h; obtain ⟨_,rfl,_⟩:=trodAll_nil h; rfl
   | cons t Ts ih=>intro vs ds ps h; obtain ⟨v,vs',d,ds',p,q,rfl,rfl,rfl,h3,h4⟩:=trodAll_cons h; simp [ih h4]
  rw [h2 hA,h1]
 obtain ⟨h1,h2,h3⟩:=hs ds hlen
 have hc:=hp W (fun _=>False) (xs.map argOf) args.toList (hpre xs e fun x hx=>⟨(his x hx).1,Nat.le_trans (his x hx).2 hb⟩) (fun _ h=>h.elim) hxs
 rw [Array.toArray_toList] at hc
 refine hc.mono fun o W' ⟨v,he,hv',hb,_⟩ => ?_
 rw [hval] at hv'
 simp only [relRV,relAV,relSV] at hv'
 subst hv'
 subst he
 have hlt:∀ x∈p,x.block<W.heap.size:=fun x hx=>by simpa using hW'.lt x hx
 refine ⟨_,rfl,post_same (pa:=p) (pv:=[]) hW' (fun b sp hd => ?_) (fun sp hsp => ?_) (fun sp _ => ?_) (by simp) (hb.frame _) (fun q hq=>hb.frozen hq) (ok_one hres rfl (okWide_bool_mk hT _))⟩
 ·
  rw [List.append_nil,h1,hres]
  exact trodAll_cons_mk (shut_bool hT _) trodAll_mk0
 ·
  rw [List.append_nil,h2]
  exact trodAll_stays hl hr hA (fun x hx=>hb.same (hlt x hx)) hsp
 ·
  rw [List.append_nil,h3,hv]
  rfl
end Go.Am
