/- Part 10 of the proof's base. -/
import Derived.Test.YtnekjoocbfbmaaaGreatZ9
set_option linter.all false
noncomputable section
namespace Go.Am
set_option maxHeartbeats 4000000
def befE (ks:List tKey.T) (x y:tKd.T):Int:=if tC ks x y=0 then cmpZ x.1 y.1 else tC ks x y
def byE (ks:List tKey.T) (es:List tKd.T):Nat→Int
 | 0 => -1
 | t+1=>if tC ks (es[t]?.getD dK) (es[t+1]?.getD dK)≠0 then tB ks (es[t]?.getD dK) (es[t+1]?.getD dK) else -1
def plE (ks:List tKey.T) (es:List tKd.T):List tPlc.T:=(List.range es.length).map fun t=>((es[t]?.getD dK).1,rkE (tC ks) dK es t,byE ks es t,())
structure SrtE (ks:List tKey.T) (l es:List tKd.T):Prop where
 perm:es.Perm l
 sort:es.Pairwise (fun x y=>befE ks x y≤0)
theorem enAt_ids (l:List tKd.T):(idsT l.length).map (enAt l)=l:=by
 apply List.ext_getElem?
 intro i
 unfold idsT
 rw [List.map_map,List.getElem?_map]
 rcases Nat.lt_or_ge i l.length with h | h
 ·
  rw [List.getElem?_range h,List.getElem?_eq_getElem h]
  show some (enAt l (i:Int))=_
  unfold enAt
  rw [Int.toNat_natCast,List.getElem?_eq_getElem h]; rfl
 ·
  rw [List.getElem?_eq_none h,List.getElem?_eq_none (by simpa using h)]; rfl
theorem firC_scE (ks:List tKey.T) (l:List tKd.T) (ord:List (List Int)) (i k:Int):firC false (l,ks,ord,()) i k=tC ks (enAt l i) (enAt l k):=if_neg (by decide)
theorem firB_scE (ks:List tKey.T) (l:List tKd.T) (ord:List (List Int)) (i k:Int):firB false (l,ks,ord,()) i k=tB ks (enAt l i) (enAt l k):=if_neg (by decide)
theorem map_getD {l:List tKd.T} {o:List Int} {t:Nat} (h:t<o.length):(o.map (enAt l))[t]?.getD dK=enAt l (o[t]?.getD 0):=by
 rw [List.getElem?_map,List.getElem?_eq_getElem h]; rfl
theorem rk_map (ks:List tKey.T) (l:List tKd.T) (ord:List (List Int)) (o:List Int):∀ t,t<o.length→rankT false (l,ks,ord,()) o t=rkE (tC ks) dK (o.map (enAt l)) t
 | 0,_=>rfl
 | t+1,h=>by
  rw [rankT_succ,rk_map ks l ord o t (by omega),firC_scE]
  show _=(if tC ks ((o.map (enAt l))[t]?.getD dK) ((o.map (enAt l))[t+1]?.getD dK)≠0 then (t:Int)+2 else rkE (tC ks) dK (o.map (enAt l)) t)
  rw [map_getD h,map_getD (by omega)]
theorem by_map (ks:List tKey.T) (l:List tKd.T) (ord:List (List Int)) (o:List Int):∀ t,t<o.length→byT false (l,ks,ord,()) o t=byE ks (o.map (enAt l)) t
 | 0,_=>rfl
 | t+1,h=>by
  rw [byT_succ,firC_scE,firB_scE]
  show _=(if tC ks ((o.map (enAt l))[t]?.getD dK) ((o.map (enAt l))[t+1]?.getD dK)≠0 then tB ks ((o.map (enAt l))[t]?.getD dK) ((o.map (enAt l))[t+1]?.getD dK) else -1)
  rw [map_getD h,map_getD (by omega)]
theorem stand_plE {ks:List tKey.T} {l:List tKd.T} {ord:List (List Int)} (h:OrdV false (l,ks,ord,())):standL false (l,ks,ord,())=plE ks ((ordO false (l,ks,ord,())).map (enAt l))∧SrtE ks l ((ordO false (l,ks,ord,())).map (enAt l)):=by
 have hl:(ordO false (l,ks,ord,())).length=l.length:=h.len
 refine ⟨?_,?_,?_⟩
 ·
  unfold standL plcL plE
  rw [List.length_map,hl]
  refine List.map_congr_left fun t ht => ?_
  have ht:t<(ordO false (l,ks,ord,())).length:=by rw [hl]; exact List.mem_range.1 ht
  unfold plcT
  rw [rk_map ks l ord _ t ht,by_map ks l ord _ t ht,map_getD ht]
 ·
  have:=h.perm.1.map (enAt l)
  rwa [show List.map (enAt l) (idsT (List.length (l,ks,ord,()).1))=l from enAt_ids l] at this
 ·
  rw [List.pairwise_map]
  refine h.perm.2.imp fun {a b} hab => ?_
  rw [befR_eq,firC_scE] at hab
  exact hab
section
variable {ks:List tKey.T} {l l' es es':List tKd.T}
theorem ens_perm (h:l.Perm l'):(ens l).Perm (ens l'):=h.map _
theorem chk_ordr (h:chkS ks l=0):Ordr (fun x=>x∈l) (tC ks)∧(ens l).Nodup:=by
 obtain ⟨h1,h2⟩:=chkS_0.1 h
 obtain ⟨h3,h4⟩:=sortErr_0.1 h1
 exact ⟨(ordr_tC h3).mono h4,(entErr_0.1 h2).1⟩
theorem en_eq (hn:(ens l).Nodup) {x y:tKd.T} (hx:x∈l) (hy:y∈l) (he:x.1=y.1):x=y:=by
 obtain ⟨i,hi,rfl⟩:=List.mem_iff_getElem.1 hx
 obtain ⟨j,hj,rfl⟩:=List.mem_iff_getElem.1 hy
 have:i=j:=by
  have h1:(ens l)[i]'(by simpa [ens] using hi)=(ens l)[j]'(by simpa [ens] using hj):=by simpa [ens] using he
  exact (List.getElem_inj hn).1 h1
 subst this; rfl
theorem score_srt (hk:ks.length≤10000) (h:chkS ks l=0):∃ es,SrtE ks l es∧scoreL ks l=plE ks es:=by
 obtain ⟨h1,h2⟩:=stand_plE (ord_score (ord:=[]) hk h)
 exact ⟨_,h2,by unfold scoreL; rw [if_pos h]; exact h1⟩
theorem SrtE.tsort (h:SrtE ks l es):es.Pairwise (fun x y=>tC ks x y≤0):=h.sort.imp fun {a b} hab=>by
 unfold befE at hab
 split at hab
 ·
  omega
 ·
  exact hab
theorem plE_len (ks:List tKey.T) (es:List tKd.T):(plE ks es).length=es.length:=by simp [plE]
theorem plE_get {t:Nat} (h:t<es.length):(plE ks es)[t]?=some ((es[t]?.getD dK).1,rkE (tC ks) dK es t,byE ks es t,()):=by
 unfold plE
 rw [List.getElem?_map,List.getElem?_range h]; rfl
theorem SrtE.lt (h:chkS ks l=0) (hs:SrtE ks l es) {a b:Nat} (ha:a<es.length) (hb:b<es.length):rkE (tC ks) dK es a<rkE (tC ks) dK es b↔tC ks (es[a]?.getD dK) (es[b]?.getD dK)<0 :=
 rkE_lt (chk_ordr h).1 (fun x hx=>hs.perm.mem_iff.1 hx) hs.tsort ha hb
theorem SrtE.same (h:chkS ks l=0) (hs:SrtE ks l es) {a b:Nat} (ha:a<es.length) (hb:b<es.length):rkE (tC ks) dK es a=rkE (tC ks) dK es b↔tC ks (es[a]?.getD dK) (es[b]?.getD dK)=0 :=
 rkE_same (chk_ordr h).1 (fun x hx=>hs.perm.mem_iff.1 hx) hs.tsort ha hb
def rankOf (p:List tPlc.T) (e:Int):Int:=match p.find? (fun x=>x.1==e) with
 | some x=>x.2.1
 | none=>0
theorem rankOf_plE (hn:(ens es).Nodup) {t:Nat} (h:t<es.length):rankOf (plE ks es) (es[t]?.getD dK).1=rkE (tC ks) dK es t:=by
 have hf:(plE ks es).find? (fun x=>x.1==(es[t]?.getD dK).1)=some ((es[t]?.getD dK).1,rkE (tC ks) dK es t,byE ks es t,()):=by
  rw [List.find?_eq_some_iff_getElem]
  refine ⟨by simp,t,by rw [plE_len]; exact h,?_,fun j hj => ?_⟩
  ·
   have:=plE_get (ks:=ks) h
   rw [List.getElem?_eq_getElem (by rw [plE_len]; exact h)] at this
   injection this
  ·
   have hj':j<es.length:=by omega
   have:=plE_get (ks:=ks) hj'
   rw [List.getElem?_eq_getElem (by rw [plE_len]; exact hj')] at this
   injection this with this
   rw [this]
   simp only [Bool.not_eq_true',beq_eq_false_iff_ne]
   rw [List.getElem?_eq_getElem hj',List.getElem?_eq_getElem h]
   intro e
   have h1:(ens es)[j]'(by simpa [ens] using hj')=(ens es)[t]'(by simpa [ens] using h):=by simpa [ens] using e
   have:=(List.getElem_inj hn).1 h1
   omega
 unfold rankOf
 rw [hf]
end
end Go.Am
namespace Go.Am
set_option maxHeartbeats 4000000
section
variable {ks:List tKey.T} {l l' es es':List tKd.T}
theorem cmpAt_app (a b:tKd.T):∀ (l1 l2:List (D .fn)) (i:Nat),cmpAt a b (l1++l2) i=if (cmpAt a b l1 i).1=0 then cmpAt a b l2 (i+l1.length) else cmpAt a b l1 i
 | [],l2,i=>by simp [cmpAt]
 | f::r,l2,i=>by
  simp only [List.cons_append,cmpAt,List.length_cons]
  split
  ·
   rw [cmpAt_app a b r l2 (i+1),Nat.add_right_comm,Nat.add_assoc]
  ·
   rfl
theorem known_all {ks:List tKey.T} (h:plainB ks=true):ks.takeWhile known=ks:=by
 unfold plainB at h
 rw [Bool.and_eq_true,List.all_eq_true] at h
 induction ks with
 | nil=>rfl
 | cons x r ih =>
  rw [List.takeWhile_cons,if_pos (h.1 x (by simp)),ih ⟨fun y hy=>h.1 y (by simp [hy]),?_⟩]
  have:=h.2
  simp only [decide_eq_true_eq,List.length_cons] at this ⊢
  omega
theorem tC_app {more:List tKey.T} (hp:plainB ks=true) (hq:plainB (ks++more)=true) {a b:tKd.T} (ha:rightE ks a) (hb:rightE ks b) (ha':rightE (ks++more) a) (hb':rightE (ks++more) b) (h:tC ks a b<0):tC (ks++more) a b<0:=by
 have e1:tC ks a b=(cmpAt a b (fstLs ks) 0).1:=by
  unfold tC
  rw [if_pos]
  unfold rightE at ha hb
  simp only [tieOk,hp,ha,hb,Bool.not_false,Bool.and_self]
 have e2:tC (ks++more) a b=(cmpAt a b (fstLs (ks++more)) 0).1:=by
  unfold tC
  rw [if_pos]
  unfold rightE at ha' hb'
  simp only [tieOk,hq,ha',hb',Bool.not_false,Bool.and_self]
 have e3:fstLs (ks++more)=fstLs ks++more.map fstF:=by
  unfold fstLs
  rw [known_all hp,known_all hq,List.map_append,List.cons_append]
 rw [e1] at h
 rw [e2,e3,cmpAt_app,if_neg (by omega)]
 exact h
theorem chk_right (h:chkS ks l=0):plainB ks=true∧∀ x∈l,rightE ks x:=sortErr_0.1 (chkS_0.1 h).1
theorem mem_at {x:tKd.T} {es:List tKd.T} (h:x∈es):∃ t,t<es.length∧es[t]?.getD dK=x:=by
 obtain ⟨t,ht,rfl⟩:=List.mem_iff_getElem.1 h
 exact ⟨t,ht,by rw [List.getElem?_eq_getElem ht]; rfl⟩
theorem keys_more {more:List tKey.T} (h:chkS ks l=0) (h':chkS (ks++more) l=0) (h1:SrtE ks l es) (h2:SrtE (ks++more) l es') {i k:Nat} (hi:i<es.length) (hk:k<es.length) :
  1≤rankOf (plE (ks++more) es') (es[i]?.getD dK).1∧(rkE (tC ks) dK es i<rkE (tC ks) dK es k→rankOf (plE (ks++more) es') (es[i]?.getD dK).1<rankOf (plE (ks++more) es') (es[k]?.getD dK).1):=by
 have hn:(ens es').Nodup:=(ens_perm h2.perm).nodup_iff.2 (chk_ordr h).2
 have mem:∀ {j},j<es.length→es[j]?.getD dK∈l:=fun hj=>h1.perm.mem_iff.1 (getD_mem hj)
 obtain ⟨i',hi',ei⟩:=mem_at (h2.perm.mem_iff.2 (mem hi))
 obtain ⟨k',hk',ek⟩:=mem_at (h2.perm.mem_iff.2 (mem hk))
 rw [← ei,← ek,rankOf_plE hn hi',rankOf_plE hn hk']
 refine ⟨(rkE_bound _ _ _ _).1,fun hlt => ?_⟩
 rw [h1.lt h hi hk] at hlt
 rw [h2.lt h' hi' hk',ei,ek]
 obtain ⟨p1,p2⟩:=chk_right h
 obtain ⟨q1,q2⟩:=chk_right h'
 exact tC_app p1 q1 (p2 _ (mem hi)) (p2 _ (mem hk)) (q2 _ (mem hi)) (q2 _ (mem hk)) hlt
end
end Go.Am
namespace Go.Am
set_option maxHeartbeats 4000000
set_option maxRecDepth 20000
open Go.RowKit Go.Proofs
attribute [local simp] thenKD_normal thenKD_exit thenKD_goto thenKD_ret inBlockKD_normal inBlockKD_exit inBlockKD_goto inBlockKD_ret noGotoKD_normal noGotoKD_exit noGotoKD_goto noGotoKD_ret roundKD_normal roundKD_exit roundKD_goto roundKD_ret frzSlotsD_nil frzSlotsD_cons frzSlotD_eq yieldVCD_trace opVCD_eq vcOpsD_nil vcOpsD_cons vcAllD_zero vcAllD_succ allAtD_nil allAtD_cons readyAux edgA vcD_skip vcD_label vcD_exit vcD_goto vcD_ret vcD_region vcD_seq vcD_seqC vcD_cond vcCondD_bool vcD_block vcD_scope vcD_loop vcD_rangeFunc yieldOf isMem isMem0 keepE envLe St.le psE yieldAV round_td round_y round_Γ vI vB vS aI aB aS look getE oper opRV putE allOk okOps Op.operands Call.operands pEv qEv mEv constRV coe RV.av loadEv loadCs takeAt indexAddrEv fieldAddrEv binEv intEv arith unEv gcond pickEv argsEv callVal callEv capAV_mk lenArgs lenEv minEv extractEv convEv funcEv allBox bound sliceEv lookupEv TD.isBool allocEv boxEv storeEv spl plainTD appendEv appendArgs makeMapEv mapUpdateEv buildEv buildSliceEv fillSV zsvOf sizeTD Ty.parses parses_flats' coeA flats_length AV.good AV.cells AV.pure SV.pure av_int av_bool av_str av_slice av_cons av_fld0 av_fld1 av_fld2 av_fld3 av_fld4 Ty.of Ty.dflt Ty.parse Ty.flat Ty.zsv Ty.fld Ty.get Ty.off Ty.nfld Ty.size coeTy junk Blk.look argEnv resEv resOk resVs oneRV retOk frzAs frzAV frzL frzSV boxCaps boxCap SV.sig sigs RV.scalar AV.scalar SV.scalar nope effVCD_eq effOf SV.ids AV.ids dedup SV.ren AV.ren RV.ren idx outId mergeB Blk.pureB flats_pure flat_pure epsSlotsD_nil epsSlotsD_cons epsSlotD_eq allEp D.parts_fnOf fvParts retEff round_E av_fn G.ye isCutD_nil isCutD_cons firstReg_region firstReg_seq firstReg_skip firstReg_ret firstReg_label firstReg_exit firstReg_goto firstReg_cond firstReg_block firstReg_scope firstReg_loop firstReg_rf eptrOf_mk flOfD_nil flOfD_cons vcFlD_cons vcFlD_nil flPairs_nil flPairs_cons vcFrD_nil vcFrD_cons makeSliceEv vcCondD_ib fzEv unfl_flats isFz round_fz panVCD_eq panOf isShift strIdxEv ifaceEv nilChkEv sliceAnyEv sliceOwnEv sliceSufEv appendEv0 appendEv1 Ty.beq Ty.isAgg round_Pn vcDefD_seqR vcDefD_seqS vcDefD_seqC vcDefD_seqB vcDefD_seqL vcDefD_seqF vcDefD_seqSc vcDefD_region vcDefD_ret vcDefD_cond vcDefD_block vcDefD_loop thenKD_panic inBlockKD_panic noGotoKD_panic exitOk_normal exitOk_ret exitOk_panic exitOk_exit runDefs_none runDefs_some runDefs_cons defRegD isDefer defOf caughtCon unfl_cons D.bpart_bndOf D.parts_bndOf AV.sig
attribute [local simp ←] flats_append
def fewRR (r:tRat.T):Bool:=fewB r.1.2.1 4&&fewB r.2.1.2.1 4
def fewX (x:tKd.T):Bool:=decide (x.2.2.1.length≤10∧x.2.2.2.1.length≤10)&&(fewRR x.2.1&&(x.2.2.1.all fewRR&&x.2.2.2.1.all fewRR))
def few21 (ks:List tKey.T) (l:List tKd.T):Bool:=decide (ks.length≤40∧l.length≤12)&&l.all fewX
theorem all_take {α:Type} (p:α→Bool) {l:List α} {i:Nat} (h:i<l.length):(l.take (i+1)).all p=((l.take i).all p&&p l[i]):=by
 rw [List.take_add_one,List.all_append,List.getElem?_eq_getElem h]
 simp
theorem all_not {α:Type} (p:α→Bool) {l:List α} {i:Nat} (h:i<l.length) (hp:p l[i]=false):l.all p=false:=by
 rw [List.all_eq_false]
 exact ⟨l[i],List.getElem_mem h,by rw [hp]; decide⟩
def lwfΓ:List (FuncId×Con):=(28,conFewR)::(11,conSane23)::lw1Γ
theorem lwfΓ_ok:∀ p∈lwfΓ,(∀ (args:Array Value) (w:World),(callFunc p.1 args).run Tryz.prog w=.ok (.enter p.1 args) w)∧PureOk Tryz.prog p.1 p.2:=by
 simp only [lwfΓ,List.forall_mem_cons]
 exact ⟨⟨enters_of Tryz.func28 (by kernel_rfl) rfl,fewr_ok⟩,⟨enters_of Tryz.func11 (by kernel_rfl) rfl,sane23_ok⟩,lw1Γ_ok⟩
def lwfE:List (FuncId×ECon):=lw1E
theorem lwfE_ok:∀ p∈lwfE,(∀ (args:Array Value) (w:World),(callFunc p.1 args).run Tryz.prog w=.ok (.enter p.1 args) w)∧EffOk Tryz.prog p.1 p.2:=by
 simp only [lwfE]
 exact lw1E_ok
def lwfP:List (FuncId×PCon):=lw1P
theorem lwfP_ok:∀ p∈lwfP,(∀ (args:Array Value) (w:World),(callFunc p.1 args).run Tryz.prog w=.ok (.enter p.1 args) w)∧PanOk Tryz.prog p.1 p.2:=by
 simp only [lwfP]
 exact lw1P_ok
def lwf:G:={ τ:=lwT,Γ:=lwfΓ,E:=lwfE,Pn:=lwfP }
theorem lwf_good:lwf.good Tryz.prog:=good_of_all (lwT_ok _ rfl) lwfΓ_ok lwfE_ok lwfP_ok
theorem lwf_all:(∀ t,lwf.td t=(look lwT t).getD .other)∧lwf.y=false∧lwf.Γ=lwfΓ∧lwf.E=lwfE∧lwf.Pn=lwfP∧lwf.fz=[]:=⟨fun _=>rfl,rfl,rfl,rfl,rfl,rfl⟩
def conFew21:Con:=⟨fun args=>(match args with
 | [.s (.sl (.cons (.int .i64) (.cons .str (.cons (.int .i64) .nil))) ks _),.s (.sl (.cons (.int .i64) (.cons (.cons (.cons .bool (.cons (.slice (.int .i64)) .nil)) (.cons (.cons .bool (.cons (.slice (.int .i64)) .nil)) .nil)) (.cons (.slice (.cons (.cons .bool (.cons (.slice (.int .i64)) .nil)) (.cons (.cons .bool (.cons (.slice (.int .i64)) .nil)) .nil))) (.cons (.slice (.cons (.cons .bool (.cons (.slice (.int .i64)) .nil)) (.cons (.cons .bool (.cons (.slice (.int .i64)) .nil)) .nil))) (.cons (.int .i64) (.cons (.int .i64) (.cons (.int .i64) .nil))))))) l _)]=>True
 | _=>False),fun args=>match args with
 | [.s (.sl (.cons (.int .i64) (.cons .str (.cons (.int .i64) .nil))) ks _),.s (.sl (.cons (.int .i64) (.cons (.cons (.cons .bool (.cons (.slice (.int .i64)) .nil)) (.cons (.cons .bool (.cons (.slice (.int .i64)) .nil)) .nil)) (.cons (.slice (.cons (.cons .bool (.cons (.slice (.int .i64)) .nil)) (.cons (.cons .bool (.cons (.slice (.int .i64)) .nil)) .nil))) (.cons (.slice (.cons (.cons .bool (.cons (.slice (.int .i64)) .nil)) (.cons (.cons .bool (.cons (.slice (.int .i64)) .nil)) .nil))) (.cons (.int .i64) (.cons (.int .i64) (.cons (.int .i64) .nil))))))) l _)]=>.v (aB (few21 ks l))
 | _=>.v (.s .any)⟩
theorem conFew21_eq (ks:List (Ty.T tKey)) (exks:Bool) (l:List (Ty.T tKd)) (exl:Bool):conFew21.pre [.s (.sl tKey ks exks),.s (.sl tKd l exl)]=(True)∧conFew21.val [.s (.sl tKey ks exks),.s (.sl tKd l exl)]=.v (aB (few21 ks l)):=⟨rfl,rfl⟩
theorem few21_ok:PureOk Tryz.prog 12 conFew21:=by
 refine pureOkD (L:={ live:=[0,1,4,5,6,7,8,16,20,42,47,56,61,70] }) lwf_good rfl nr_mixed Tryz.func12 rfl conFew21 2 (by decide) (by kernel_rfl) ?_
 intro args hpre hlens
 simp only [conFew21] at hpre
 split at hpre
 case h_2=>exact hpre.elim
 rename_i ks ek l el
 simp only [allLen,AV.lenOk,SV.lenOk,Ty.lenOk,maxLen,and_true,implies_true,true_and,List.forall_mem_cons,List.not_mem_nil,false_implies] at hlens
 refine ⟨rfl,?_⟩
 simp -dsimp -implicitDefEqProofs [Tryz.f12,conFew21_eq,lwf_all,lwT,lwfΓ,lwfE,lwfP,lw1Γ,lw1E,lw1P,lw0Γ,lw0E,lw0P,conFewR_eq,conSane23_pre,conSane23_val,conScored_eq,conSameP_eq,conRInt_eq,conByScore_eq,conByPlaces_eq,conCheck_eq,inI64]
 refine ⟨fun h => ?_,fun h1 h2 => ?_⟩
 ·
  unfold few21
  rw [decide_eq_false (by rintro ⟨a,b⟩; omega)]; rfl
 have hno:∀ {i:Nat} (h:i<l.length),fewX l[i]=false→few21 ks l=false:=fun h hx=>by unfold few21; rw [all_not fewX h hx,Bool.and_false]
 refine WpD.loop (L:={ live:=[0,1,4,5,6,7,8,16,20,42,47,56,61,70] }) lwf_good X0_ok nr_mixed (by kernel_rfl)
  (fun i:Nat=>⟨[(0,vS tKey ks ek),(1,vS tKd l el),(4,vB false),(5,vI i)],[]⟩)
  (fun i=>i≤l.length∧(l.take i).all fewX=true) (fun i=>l.length - i) 0 ⟨Nat.zero_le _,rfl⟩ (Turn.le (by simp -dsimp -implicitDefEqProofs)) ?_
 rintro i ⟨hi,hall⟩
 rcases Nat.lt_or_ge i l.length with hil | hge
 ·
  have e0:fewX l[i]=(decide (l[i].2.2.1.length≤10∧l[i].2.2.2.1.length≤10)&&(fewRR l[i].2.1&&(l[i].2.2.1.all fewRR&&l[i].2.2.2.1.all fewRR))):=rfl
  have e1:=all_take fewX hil
  rw [hall,Bool.true_and] at e1
  simp -dsimp -implicitDefEqProofs [conFew21_eq,hil,-Prod.forall,-Bool.forall_bool,-Prod.exists,-Bool.exists_bool,lwf_all,lwT,lwfΓ,lwfE,lwfP,lw1Γ,lw1E,lw1P,lw0Γ,lw0E,lw0P,conFewR_eq,conSane23_pre,conSane23_val,conScored_eq,conSameP_eq,conRInt_eq,conByScore_eq,conByPlaces_eq,conCheck_eq,inI64]
  refine ⟨fun h=>hno hil ?_,fun a1 a2 a3 a4 => ?_⟩
  ·
   rw [e0]
   rcases h with h | h
   ·
    rw [decide_eq_false (by rintro ⟨q1,q2⟩; omega)]; rfl
   ·
    have:fewRR l[i].2.1=false:=by
     unfold fewRR
     rcases h with h | h
     ·
      rw [h]; rfl
     ·
      rw [h,Bool.and_false]
    rw [this,Bool.false_and,Bool.and_false]
  have e2:fewX l[i]=(l[i].2.2.1.all fewRR&&l[i].2.2.2.1.all fewRR):=by
   rw [e0,decide_eq_true ⟨by omega,by omega⟩]
   have:fewRR l[i].2.1=true:=by unfold fewRR; rw [a3,a4]; rfl
   rw [this,Bool.true_and,Bool.true_and]
  obtain ⟨tot,ht⟩:∃ tot:List tRat.T,tot=l[i].2.2.1:=⟨_,rfl⟩
  obtain ⟨prv,hp⟩:∃ prv:List tRat.T,prv=l[i].2.2.2.1:=⟨_,rfl⟩
  have t10:tot.length≤10:=by rw [ht]; omega
  have p10:prv.length≤10:=by rw [hp]; omega
  rw [← ht,← hp]
  have e2:fewX l[i]=(tot.all fewRR&&prv.all fewRR):=by rw [ht,hp]; exact e2
  refine WpD.loop (L:={ live:=[0,1,4,5,6,7,8,16,20,42,47,56,61,70] }) lwf_good X0_ok nr_mixed (by kernel_rfl)
   (fun k:Nat=>⟨[(0,vS tKey ks ek),(1,vS tKd l el),(4,vB false),(5,vI i),(6,⟨true,.v (.s (.box 0 0))⟩),(7,vI k)],[.cells [.int .i64 l[i].1,.bool l[i].2.1.1.1,.sl tI l[i].2.1.1.2.1 false,.bool l[i].2.1.2.1.1,.sl tI l[i].2.1.2.1.2.1 false,.sl tRat tot false,.sl tRat prv false,.int .i64 l[i].2.2.2.2.1,.int .i64 l[i].2.2.2.2.2.1,.int .i64 l[i].2.2.2.2.2.2.1]]⟩)
   (fun k=>k≤tot.length∧(tot.take k).all fewRR=true) (fun k=>tot.length - k) 0 ⟨Nat.zero_le _,rfl⟩ (Turn.le (by simp -dsimp -implicitDefEqProofs)) ?_
  rintro k ⟨hk,hka⟩
  rcases Nat.lt_or_ge k tot.length with hkl | hkg
  ·
   have f1:=all_take fewRR hkl
   rw [hka,Bool.true_and] at f1
   have f2:fewRR tot[k]=(fewB tot[k].1.2.1 4&&fewB tot[k].2.1.2.1 4):=rfl
   simp -dsimp -implicitDefEqProofs [conFew21_eq,hkl,-Prod.forall,-Bool.forall_bool,-Prod.exists,-Bool.exists_bool,lwf_all,lwT,lwfΓ,lwfE,lwfP,lw1Γ,lw1E,lw1P,lw0Γ,lw0E,lw0P,conFewR_eq,conSane23_pre,conSane23_val,conScored_eq,conSameP_eq,conRInt_eq,conByScore_eq,conByPlaces_eq,conCheck_eq,inI64]
   refine ⟨fun h=>hno hil ?_,fun b1 b2=>⟨⟨by omega,by omega⟩,k+1,⟨by omega,?_⟩,by omega,TurnT.le (by simp -dsimp -implicitDefEqProofs)⟩⟩
   ·
    rw [e2,all_not fewRR hkl,Bool.false_and]
    rw [f2]
    rcases h with h | h
    ·
     rw [h]; rfl
    ·
     rw [h,Bool.and_false]
   ·
    exact List.all_eq_true.1 (by rw [f1,f2,b1,b2]; rfl)
  have hnk:¬ k<tot.length:=by omega
  rw [List.take_of_length_le hkg] at hka
  simp -dsimp -implicitDefEqProofs [hnk,-Prod.forall,-Bool.forall_bool,-Prod.exists,-Bool.exists_bool,lwf_all,lwT,lwfΓ,lwfE,lwfP,lw1Γ,lw1E,lw1P,lw0Γ,lw0E,lw0P,conFewR_eq,conSane23_pre,conSane23_val,conScored_eq,conSameP_eq,conRInt_eq,conByScore_eq,conByPlaces_eq,conCheck_eq,inI64]
  refine WpD.loop (L:={ live:=[0,1,4,5,6,7,8,16,20,42,47,56,61,70] }) lwf_good X0_ok nr_mixed (by kernel_rfl)
   (fun k:Nat=>⟨[(0,vS tKey ks ek),(1,vS tKd l el),(4,vB false),(5,vI i),(6,⟨true,.v (.s (.box 0 0))⟩),(8,vI k)],[.cells [.int .i64 l[i].1,.bool l[i].2.1.1.1,.sl tI l[i].2.1.1.2.1 false,.bool l[i].2.1.2.1.1,.sl tI l[i].2.1.2.1.2.1 false,.sl tRat tot false,.sl tRat prv false,.int .i64 l[i].2.2.2.2.1,.int .i64 l[i].2.2.2.2.2.1,.int .i64 l[i].2.2.2.2.2.2.1]]⟩)
   (fun k=>k≤prv.length∧(prv.take k).all fewRR=true) (fun k=>prv.length - k) 0 ⟨Nat.zero_le _,rfl⟩ (Turn.le (by simp -dsimp -implicitDefEqProofs)) ?_
  rintro q ⟨hq,hqa⟩
  rcases Nat.lt_or_ge q prv.length with hql | hqg
  ·
   have f1:=all_take fewRR hql
   rw [hqa,Bool.true_and] at f1
   have f2:fewRR prv[q]=(fewB prv[q].1.2.1 4&&fewB prv[q].2.1.2.1 4):=rfl
   simp -dsimp -implicitDefEqProofs [conFew21_eq,hql,-Prod.forall,-Bool.forall_bool,-Prod.exists,-Bool.exists_bool,lwf_all,lwT,lwfΓ,lwfE,lwfP,lw1Γ,lw1E,lw1P,lw0Γ,lw0E,lw0P,conFewR_eq,conSane23_pre,conSane23_val,conScored_eq,conSameP_eq,conRInt_eq,conByScore_eq,conByPlaces_eq,conCheck_eq,inI64]
   refine ⟨fun h=>hno hil ?_,fun b1 b2=>⟨⟨by omega,by omega⟩,q+1,⟨by omega,?_⟩,by omega,TurnT.le (by simp -dsimp -implicitDefEqProofs)⟩⟩
   ·
    rw [e2,all_not fewRR hql,Bool.and_false]
    rw [f2]
    rcases h with h | h
    ·
     rw [h]; rfl
    ·
     rw [h,Bool.and_false]
   ·
    exact List.all_eq_true.1 (by rw [f1,f2,b1,b2]; rfl)
  ·
   have hnq:¬ q<prv.length:=by omega
   rw [List.take_of_length_le hqg] at hqa
   simp -dsimp -implicitDefEqProofs [hnq,-Prod.forall,-Bool.forall_bool,-Prod.exists,-Bool.exists_bool,lwf_all,lwT,lwfΓ,lwfE,lwfP,lw1Γ,lw1E,lw1P,lw0Γ,lw0E,lw0P,conFewR_eq,conSane23_pre,conSane23_val,conScored_eq,conSameP_eq,conRInt_eq,conByScore_eq,conByPlaces_eq,conCheck_eq,inI64]
   refine ⟨⟨by omega,by omega⟩,i+1,⟨by omega,List.all_eq_true.1 (by rw [e1,e2,hka,hqa]; rfl)⟩,by omega,?_⟩
   exact TurnT.trunc X0_ok (hp:=[]) (junk:=[_]) (by simp) (by simp only [List.length_cons,List.length_nil,List.all_cons,List.all_nil,arr_below,Bool.and_true] <;> simp [Blk.below,SV.below]) (by simp -dsimp -implicitDefEqProofs []) (by simp [envBelow,RV.below,AV.below,SV.below])
 ·
  have hn:¬ i<l.length:=by omega
  simp -dsimp -implicitDefEqProofs [conFew21_eq,hn,-Prod.forall,-Bool.forall_bool,-Prod.exists,-Bool.exists_bool,lwf_all,lwT,lwfΓ,lwfE,lwfP,lw1Γ,lw1E,lw1P,lw0Γ,lw0E,lw0P,conFewR_eq,conSane23_pre,conSane23_val,conScored_eq,conSameP_eq,conRInt_eq,conByScore_eq,conByPlaces_eq,conCheck_eq,inI64]
  rw [List.take_of_length_le hge] at hall
  unfold few21
  rw [hall,decide_eq_true (by omega)]; rfl
def fewO (ord:List (List Int)):Bool:=decide (ord.length≤10∧∀ row∈ord,row.length≤10)
def conFewO:Con:=⟨fun args=>(match args with
 | [.s (.sl (.slice (.int .i64)) ord _)]=>True
 | _=>False),fun args=>match args with
 | [.s (.sl (.slice (.int .i64)) ord _)]=>.v (aB (fewO ord))
 | _=>.v (.s .any)⟩
theorem conFewO_eq (ord:List (Ty.T (.slice tI))) (exord:Bool):conFewO.pre [.s (.sl (.slice tI) ord exord)]=(True)∧conFewO.val [.s (.sl (.slice tI) ord exord)]=.v (aB (fewO ord)):=⟨rfl,rfl⟩
theorem fewo_ok:PureOk Tryz.prog 16 conFewO:=by
 refine pureOkD (L:={ live:=[0,2,3,11,19] }) lwf_good rfl nr_mixed Tryz.func16 rfl conFewO 1 (by decide) (by kernel_rfl) ?_
 intro args hpre hlens
 simp only [conFewO] at hpre
 split at hpre
 case h_2=>exact hpre.elim
 rename_i ord eo
 simp only [allLen,AV.lenOk,SV.lenOk,Ty.lenOk,maxLen,and_true,implies_true,true_and,List.forall_mem_cons,List.not_mem_nil,false_implies] at hlens
 refine ⟨rfl,?_⟩
 simp -dsimp -implicitDefEqProofs [Tryz.f16,conFewO_eq,lwf_all,lwT,lwfΓ,lwfE,lwfP,lw1Γ,lw1E,lw1P,lw0Γ,lw0E,lw0P,conFewR_eq,conSane23_pre,conSane23_val,conScored_eq,conSameP_eq,conRInt_eq,conByScore_eq,conByPlaces_eq,conCheck_eq,inI64]
 refine WpD.loop (L:={ live:=[0,2,3,11,19] }) lwf_good X0_ok nr_mixed (by kernel_rfl)
  (fun i:Nat=>⟨[(0,vS (.slice tI) ord eo),(2,vB false),(3,vI i)],[]⟩)
  (fun i=>i≤ord.length∧i≤12∧∀ j (h:j<ord.length),j<i→ord[j].length≤10) (fun i=>ord.length - i) 0 ⟨Nat.zero_le _,Nat.zero_le _,fun j h hj=>absurd hj (by omega)⟩ (Turn.le (by simp -dsimp -implicitDefEqProofs)) ?_
 rintro i ⟨hi,hi2,hj⟩
 rcases Nat.lt_or_ge i ord.length with hil | hge
 ·
  rcases Nat.lt_or_ge i 12 with h12 | h12
  ·
   simp -dsimp -implicitDefEqProofs [conFewO_eq,hil,h12,-Prod.forall,-Bool.forall_bool,-Prod.exists,-Bool.exists_bool,lwf_all,lwT,lwfΓ,lwfE,lwfP,lw1Γ,lw1E,lw1P,lw0Γ,lw0E,lw0P,conFewR_eq,conSane23_pre,conSane23_val,conScored_eq,conSameP_eq,conRInt_eq,conByScore_eq,conByPlaces_eq,conCheck_eq,inI64]
   refine ⟨fun _=>⟨fun h => ?_,fun h=>⟨⟨by omega,by omega⟩,i+1,⟨by omega,by omega,fun j q1 q2 => ?_⟩,by omega,TurnT.le (by simp -dsimp -implicitDefEqProofs)⟩⟩,fun h=>absurd h (by omega)⟩
   ·
    unfold fewO
    rw [decide_eq_false]
    rintro ⟨_,q⟩
    have:=q ord[i] (List.getElem_mem hil)
    omega
   ·
    rcases Nat.lt_succ_iff_lt_or_eq.1 q2 with h' | rfl
    ·
     exact hj j q1 h'
    ·
     omega
  ·
   have h12':¬ i<12:=by omega
   simp -dsimp -implicitDefEqProofs [conFewO_eq,hil,h12',-Prod.forall,-Bool.forall_bool,-Prod.exists,-Bool.exists_bool,lwf_all,lwT,lwfΓ,lwfE,lwfP,lw1Γ,lw1E,lw1P,lw0Γ,lw0E,lw0P,conFewR_eq,conSane23_pre,conSane23_val,conScored_eq,conSameP_eq,conRInt_eq,conByScore_eq,conByPlaces_eq,conCheck_eq,inI64]
   refine ⟨fun h=>absurd h (by omega),fun _ => ?_⟩
   unfold fewO
   rw [decide_eq_false (by omega),decide_eq_false (by rintro ⟨q,_⟩; omega)]
 ·
  have hn:¬ i<ord.length:=by omega
  simp -dsimp -implicitDefEqProofs [conFewO_eq,hn,-Prod.forall,-Bool.forall_bool,-Prod.exists,-Bool.exists_bool,lwf_all,lwT,lwfΓ,lwfE,lwfP,lw1Γ,lw1E,lw1P,lw0Γ,lw0E,lw0P,conFewR_eq,conSane23_pre,conSane23_val,conScored_eq,conSameP_eq,conRInt_eq,conByScore_eq,conByPlaces_eq,conCheck_eq,inI64]
  have:(∀ row∈ord,row.length≤10):=fun row hr=>by
   obtain ⟨j,hjl,rfl⟩:=List.mem_iff_getElem.1 hr
   exact hj j hjl (by omega)
  have e:decide ((ord.length:Int)≤10)=fewO ord:=decide_eq_decide.2 ⟨fun h=>⟨by omega,this⟩,fun h=>by have:=h.1; omega⟩
  rw [e]
def conRank:Con:=⟨fun args=>(match args with
 | [.s (.sl (.cons (.int .i64) (.cons (.int .i64) (.cons (.int .i64) .nil))) p _),.s (.int .i64 e)]=>True
 | _=>False),fun args=>match args with
 | [.s (.sl (.cons (.int .i64) (.cons (.int .i64) (.cons (.int .i64) .nil))) p _),.s (.int _ e)]=>.v (aI (rankOf p e))
 | _=>.v (.s .any)⟩
theorem conRank_eq (p:List (Ty.T tPlc)) (exp:Bool) (e:Int):conRank.pre [.s (.sl tPlc p exp),.s (.int .i64 e)]=(True)∧conRank.val [.s (.sl tPlc p exp),.s (.int .i64 e)]=.v (aI (rankOf p e)):=⟨rfl,rfl⟩
theorem rank_ok:PureOk Tryz.prog 26 conRank:=by
 refine pureOkD (L:={ live:=[0,1,4,5,9,18] }) lwf_good rfl nr_mixed Tryz.func26 rfl conRank 2 (by decide) (by kernel_rfl) ?_
 intro args hpre hlens
 simp only [conRank] at hpre
 split at hpre
 case h_2=>exact hpre.elim
 rename_i p ep e
 simp only [allLen,AV.lenOk,SV.lenOk,Ty.lenOk,maxLen,and_true,implies_true,true_and,List.forall_mem_cons,List.not_mem_nil,false_implies] at hlens
 refine ⟨rfl,?_⟩
 simp -dsimp -implicitDefEqProofs [Tryz.f26,conRank_eq,lwf_all,lwT,lwfΓ,lwfE,lwfP,lw1Γ,lw1E,lw1P,lw0Γ,lw0E,lw0P,conFewR_eq,conSane23_pre,conSane23_val,conScored_eq,conSameP_eq,conRInt_eq,conByScore_eq,conByPlaces_eq,conCheck_eq,inI64]
 refine WpD.loop (L:={ live:=[0,1,4,5,9,18] }) lwf_good X0_ok nr_mixed (by kernel_rfl)
  (fun i:Nat=>⟨[(0,vS tPlc p ep),(1,vI e),(4,vI 0),(5,vI i)],[]⟩)
  (fun i=>i≤p.length∧∀ j (h:j<p.length),j<i→p[j].1≠e) (fun i=>p.length - i) 0 ⟨Nat.zero_le _,fun j h hj=>absurd hj (by omega)⟩ (Turn.le (by simp -dsimp -implicitDefEqProofs)) ?_
 rintro i ⟨hi,hj⟩
 rcases Nat.lt_or_ge i p.length with hil | hge
 ·
  simp -dsimp -implicitDefEqProofs [conRank_eq,hil,-Prod.forall,-Bool.forall_bool,-Prod.exists,-Bool.exists_bool,lwf_all,lwT,lwfΓ,lwfE,lwfP,lw1Γ,lw1E,lw1P,lw0Γ,lw0E,lw0P,conFewR_eq,conSane23_pre,conSane23_val,conScored_eq,conSameP_eq,conRInt_eq,conByScore_eq,conByPlaces_eq,conCheck_eq,inI64]
  refine ⟨fun h => ?_,fun h=>⟨⟨by omega,by omega⟩,i+1,⟨by omega,fun j h1 h2 => ?_⟩,by omega,TurnT.le (by simp -dsimp -implicitDefEqProofs)⟩⟩
  ·
   have hf:p.find? (fun x=>x.1==e)=some p[i]:=by
    rw [List.find?_eq_some_iff_getElem]
    exact ⟨by simpa using h,i,hil,rfl,fun j hji=>by simpa using hj j (by omega) hji⟩
   unfold rankOf
   rw [hf]
  ·
   rcases Nat.lt_succ_iff_lt_or_eq.1 h2 with h' | rfl
   ·
    exact hj j h1 h'
   ·
    exact h
 ·
  have hn:¬ i<p.length:=by omega
  simp -dsimp -implicitDefEqProofs [conRank_eq,hn,-Prod.forall,-Bool.forall_bool,-Prod.exists,-Bool.exists_bool,lwf_all,lwT,lwfΓ,lwfE,lwfP,lw1Γ,lw1E,lw1P,lw0Γ,lw0E,lw0P,conFewR_eq,conSane23_pre,conSane23_val,conScored_eq,conSameP_eq,conRInt_eq,conByScore_eq,conByPlaces_eq,conCheck_eq,inI64]
  have hf:p.find? (fun x=>x.1==e)=none:=by
   rw [List.find?_eq_none]
   intro x hx
   obtain ⟨j,hjl,rfl⟩:=List.mem_iff_getElem.1 hx
   simpa using hj j hjl (by omega)
  unfold rankOf
  rw [hf]
theorem right_with {ks:List tKey.T} {a b:tKd.T} (ha:rightE ks a) (hb:rightE ks b):rightE ks (withSc a b):=by
 unfold rightE wrongV at ha hb ⊢
 rw [Bool.or_eq_false_iff,Bool.or_eq_false_iff] at ha hb ⊢
 exact ⟨ha.1,hb.2.1,ha.2.2⟩
structure RightF (m:Bool) (v:tLst.T) (p:List tPlc.T):Prop where
 len:p.length=List.length v.1
 chk:chkErr p=0
 olen:(ordO m v).length=List.length v.1
 inl:∀ t,t<List.length v.1→inLn v.1 ((ordO m v)[t]?.getD 0)
 en:∀ t (ht:t<p.length) j (hj:j<List.length v.1),v.1[j].1=p[t].1↔(j:Int)=(ordO m v)[t]?.getD 0
 lt:∀ a (ha:a<p.length) b (hb:b<p.length),firC m v ((ordO m v)[a]?.getD 0) ((ordO m v)[b]?.getD 0)<0↔p[a].2.1<p[b].2.1
 sm:∀ a (ha:a<p.length) b (hb:b<p.length),firC m v ((ordO m v)[a]?.getD 0) ((ordO m v)[b]?.getD 0)=0↔p[a].2.1=p[b].2.1
 by':∀ a (ha:a+1<p.length),¬ p[a+1].2.1=p[a].2.1→firB m v ((ordO m v)[a]?.getD 0) ((ordO m v)[a+1]?.getD 0)=p[a+1].2.2.1
theorem stand_at {m:Bool} {v:tLst.T} {t:Nat} (ht:t<(standL m v).length):(standL m v)[t]=plcT m v (ordO m v) t:=by
 have:=standL_get (m:=m) (v:=v) (t:=t) (by rw [standL_len] at ht; exact ht)
 rw [List.getElem?_eq_getElem ht] at this
 injection this
theorem OrdV.right {m:Bool} {v:tLst.T} (h:OrdV m v) (hl:List.length v.1≤4096):RightF m v (standL m v):=by
 have hn:=standL_len m v
 refine ⟨hn,h.chk hl,h.len,fun t ht=>h.at ht,fun t ht j hj => ?_,fun a ha b hb => ?_,fun a ha b hb => ?_,fun a ha hne => ?_⟩
 ·
  rw [stand_at ht]
  have hi:=h.at (t:=t) (by omega)
  have hj':inLn v.1 (j:Int):=⟨Int.natCast_nonneg _,by omega⟩
  have e:v.1[j]=enAt v.1 (j:Int):=by unfold enAt; rw [Int.toNat_natCast,List.getElem?_eq_getElem hj]; rfl
  rw [e]
  exact ⟨fun q=>en_inj h.nd hj' hi q,fun q=>by rw [q]; rfl⟩
 ·
  rw [stand_at ha,stand_at hb]
  exact (h.lt (by omega) (by omega)).symm
 ·
  rw [stand_at ha,stand_at hb]
  exact (h.same (by omega) (by omega)).symm
 ·
  rw [stand_at ha,stand_at (by omega)] at hne
  rw [stand_at ha]
  have hz:firC m v ((ordO m v)[a]?.getD 0) ((ordO m v)[a+1]?.getD 0)≠0:=fun hz=>hne ((h.same (by omega) (by omega)).2 hz).symm
  show _=byT m v (ordO m v) (a+1)
  rw [byT_succ,if_pos hz]
def lwsΓ:List (FuncId×Con):=(23,conTCmp)::(25,Pl.conCompare)::(12,conFew21)::(16,conFewO)::(26,conRank)::lwfΓ
theorem lwsΓ_ok:∀ p∈lwsΓ,(∀ (args:Array Value) (w:World),(callFunc p.1 args).run Tryz.prog w=.ok (.enter p.1 args) w)∧PureOk Tryz.prog p.1 p.2:=by
 simp only [lwsΓ,List.forall_mem_cons]
 exact ⟨⟨enters_of Tryz.func23 (by kernel_rfl) rfl,tcmp_ok⟩,⟨enters_of Tryz.func25 (by kernel_rfl) rfl,Pl.compare_ok⟩,⟨enters_of Tryz.func12 (by kernel_rfl) rfl,few21_ok⟩,⟨enters_of Tryz.func16 (by kernel_rfl) rfl,fewo_ok⟩,⟨enters_of Tryz.func26 (by kernel_rfl) rfl,rank_ok⟩,lwfΓ_ok⟩
def lwsE:List (FuncId×ECon):=lwfE
theorem lwsE_ok:∀ p∈lwsE,(∀ (args:Array Value) (w:World),(callFunc p.1 args).run Tryz.prog w=.ok (.enter p.1 args) w)∧EffOk Tryz.prog p.1 p.2:=by
 simp only [lwsE]
 exact lwfE_ok
def lwsP:List (FuncId×PCon):=lwfP
theorem lwsP_ok:∀ p∈lwsP,(∀ (args:Array Value) (w:World),(callFunc p.1 args).run Tryz.prog w=.ok (.enter p.1 args) w)∧PanOk Tryz.prog p.1 p.2:=by
 simp only [lwsP]
 exact lwfP_ok
def lws:G:={ τ:=lwT,Γ:=lwsΓ,E:=lwsE,Pn:=lwsP }
theorem lws_good:lws.good Tryz.prog:=good_of_all (lwT_ok _ rfl) lwsΓ_ok lwsE_ok lwsP_ok
theorem lws_all:(∀ t,lws.td t=(look lwT t).getD .other)∧lws.y=false∧lws.Γ=lwsΓ∧lws.E=lwsE∧lws.Pn=lwsP∧lws.fz=[]:=⟨fun _=>rfl,rfl,rfl,rfl,rfl,rfl⟩
theorem few_len {ks:List tKey.T} {l:List tKd.T} (h:few21 ks l=true):ks.length≤40∧l.length≤12:=by
 unfold few21 at h
 rw [Bool.and_eq_true,decide_eq_true_eq] at h
 exact h.1
theorem score_eq {ks:List tKey.T} {l:List tKd.T} (h:chkS ks l=0):scoreL ks l=standL false (l,ks,[],()):=if_pos h
theorem plE_at {ks:List tKey.T} {es:List tKd.T} {i:Nat} (h:i<(plE ks es).length):(plE ks es)[i]=((es[i]?.getD dK).1,rkE (tC ks) dK es i,byE ks es i,()):=by
 have:=plE_get (ks:=ks) (t:=i) (by rw [plE_len] at h; exact h)
 rw [List.getElem?_eq_getElem h] at this
 injection this
theorem scoreL_len {ks:List tKey.T} {l:List tKd.T} (h:chkS ks l=0):(scoreL ks l).length=l.length:=by rw [score_eq h,standL_len]
end Go.Am
namespace Go.Am
open Go.RowKit
mutual
def TyOf (P:Program):Ty→TypeId→Prop
 | .int k,T=>P.underlying T=some (.int k)
 | .bool,T=>P.underlying T=some .bool
 | .str,T=>P.underlying T=some .string
 | .slice t,T=>∃ e,P.underlying T=some (.slice e)∧0<t.size∧P.cellsOf e=t.size∧TyOf P t e
 | .nil,_=>False
 | .fn,_=>False
 | .cons t r,T=>∃ (fs:Array Field) (f:Field) (l:List Field),P.underlying T=some (.struct fs)∧fs.toList=f::l∧f.offset=0∧P.cellsOf f.type=t.size∧TyOf P t f.type∧FieldsOf P r l t.size∧P.cellsOf T=t.size+r.size
def FieldsOf (P:Program):Ty→List Field→Nat→Prop
 | .nil,l,_=>l=[]
 | .cons t r,l,off=>∃ (f:Field) (l':List Field),l=f::l'∧f.offset=off∧P.cellsOf f.type=t.size∧TyOf P t f.type∧FieldsOf P r l' (off+t.size)
 | _,_,_=>False
end
mutual
def tyOfB (P:Program):Ty→TypeId→Bool
 | .int k,T=>match P.underlying T with | some (.int k')=>decide (k'=k) | _=>false
 | .bool,T=>match P.underlying T with | some .bool=>true | _=>false
 | .str,T=>match P.underlying T with | some .string=>true | _=>false
 | .slice t,T=>match P.underlying T with | some (.slice e)=>decide (0<t.size)&&decide (P.cellsOf e=t.size)&&tyOfB P t e | _=>false
 | .nil,_=>false
 | .fn,_=>false
 | .cons t r,T=>match P.underlying T with
  | some (.struct fs)=>match fs.toList with
   | f::l=>decide (f.offset=0)&&decide (P.cellsOf f.type=t.size)&&tyOfB P t f.type&&fieldsOfB P r l t.size&&decide (P.cellsOf T=t.size+r.size)
   | []=>false
  | _=>false
def fieldsOfB (P:Program):Ty→List Field→Nat→Bool
 | .nil,l,_=>match l with | []=>true | _::_=>false
 | .cons t r,l,off=>match l with
  | f::l'=>decide (f.offset=off)&&decide (P.cellsOf f.type=t.size)&&tyOfB P t f.type&&fieldsOfB P r l' (off+t.size)
  | []=>false
 | .int _,_,_=>false
 | .bool,_,_=>false
 | .str,_,_=>false
 | .slice _,_,_=>false
 | .fn,_,_=>false
end
mutual
theorem tyOf_of_B {P:Program}:∀ (ty:Ty) (T:TypeId),tyOfB P ty T=true→TyOf P ty T
 | .int k,T,h=>by
  simp only [tyOfB] at h
  split at h
  ·
   rename_i k' hk
   simp only [TyOf,hk]
   rw [of_decide_eq_true h]
  ·
   cases h
 | .bool,T,h=>by
  simp only [tyOfB] at h
  split at h
  ·
   rename_i hk; simpa only [TyOf] using hk
  ·
   cases h
 | .str,T,h=>by
  simp only [tyOfB] at h
  split at h
  ·
   rename_i hk; simpa only [TyOf] using hk
  ·
   cases h
 | .slice t,T,h=>by
  simp only [tyOfB] at h
  split at h
  ·
   rename_i e hk
   simp only [Bool.and_eq_true,decide_eq_true_eq] at h
   simp only [TyOf]
   exact ⟨e,hk,h.1.1,h.1.2,tyOf_of_B t e h.2⟩
  ·
   cases h
 | .nil,T,h=>by simp [tyOfB] at h
 | .fn,T,h=>by simp [tyOfB] at h
 | .cons t r,T,h=>by
  simp only [tyOfB] at h
  split at h
  ·
   rename_i fs hk
   split at h
   ·
    rename_i f l hl
    simp only [Bool.and_eq_true,decide_eq_true_eq] at h
    simp only [TyOf]
    exact ⟨fs,f,l,hk,hl,h.1.1.1.1,h.1.1.1.2,tyOf_of_B t _ h.1.1.2,fieldsOf_of_B r l _ h.1.2,h.2⟩
   ·
    cases h
  ·
   cases h
theorem fieldsOf_of_B {P:Program}:∀ (ty:Ty) (l:List Field) (off:Nat),fieldsOfB P ty l off=true→FieldsOf P ty l off
 | .nil,l,off,h=>by
  cases l with
  | nil=>simp only [FieldsOf]
  | cons f l=>simp [fieldsOfB] at h
 | .cons t r,l,off,h=>by
  cases l with
  | nil=>simp [fieldsOfB] at h
  | cons f l =>
   simp only [fieldsOfB,Bool.and_eq_true,decide_eq_true_eq] at h
   simp only [FieldsOf]
   exact ⟨f,l,rfl,h.1.1.1,h.1.1.2,tyOf_of_B t _ h.1.2,fieldsOf_of_B r l _ h.2⟩
 | .int _,l,off,h=>by simp [fieldsOfB] at h
 | .bool,l,off,h=>by simp [fieldsOfB] at h
 | .str,l,off,h=>by simp [fieldsOfB] at h
 | .slice _,l,off,h=>by simp [fieldsOfB] at h
 | .fn,l,off,h=>by simp [fieldsOfB] at h
end
section
variable {H:Type} {enc:TypeId×Value→H} {P:Program} {w:World} {base:Nat} {spare:Nat→Bool} {held:Bool}
theorem choose_list {α:Type} (n:Nat) (p:Nat→α→Prop) (h:∀ i,i<n→∃ x,p i x):∃ xs:List α,xs.length=n∧∀ i x,xs[i]?=some x→p i x:=by
 induction n with
 | zero=>exact ⟨[],rfl,fun i x h=>by simp at h⟩
 | succ n ih =>
  obtain ⟨xs,h1,h2⟩:=ih fun i hi=>h i (by omega)
  obtain ⟨x,hx⟩:=h n (by omega)
  refine ⟨xs++[x],by simp [h1],fun i y hy => ?_⟩
  rw [List.getElem?_append] at hy
  split at hy
  ·
   exact h2 i y hy
  ·
   obtain ⟨h3,h4⟩:=List.getElem?_eq_some_iff.1 hy
   rw [List.length_singleton] at h3
   have h5:i=n:=by omega
   subst h5
   rw [List.getElem_singleton] at h4
   rw [← h4]; exact hx
def Ty.inR:(t:Ty)→t.T→Prop
 | .int k,n=>k.min≤n∧n≤k.max
 | .slice t,xs=>∀ x∈xs,t.inR x
 | .cons t r,x=>t.inR x.1∧r.inR x.2
 | .bool,_=>True
 | .str,s=>s.size≤maxLen
 | .nil,_=>True
 | .fn,_=>True
mutual
theorem trod_rep:∀ (ty:Ty) (T:TypeId) (fuel:Nat) (cs:List Value) (x:DataW H×List MemPlace),TyOf P ty T→DataW.trod enc P w base spare held fuel T cs=some x→∃ v:ty.T,rep w (fun _=>False) ty v cs∧ty.inR v
 | .int k,T,fuel,cs,x,ht,h=>by
  obtain ⟨n,rfl,_,hw⟩:=DataW.trod_int (by simpa only [TyOf] using ht) h
  exact ⟨n,by simp only [rep],by simpa [Lit.wf,Ty.inR] using hw⟩
 | .bool,T,fuel,cs,x,ht,h=>by
  obtain ⟨n,rfl,_⟩:=DataW.trod_bool (by simpa only [TyOf] using ht) h
  exact ⟨n,by simp only [rep],trivial⟩
 | .str,T,fuel,cs,x,ht,h=>by
  obtain ⟨n,rfl,_,hs⟩:=DataW.trod_string (by simpa only [TyOf] using ht) h
  exact ⟨n,by simp only [rep],hs⟩
 | .slice t,T,fuel,cs,x,ht,h=>by
  simp only [TyOf] at ht
  obtain ⟨e,h1,h2,h3,h4⟩:=ht
  rcases DataW.trod_slice h1 h with ⟨rfl,_⟩ | ⟨a,len,cap,elems,rest,n,_,rfl,_,hb,hl,hm,hlen,hel,_,_⟩
  ·
   exact ⟨[],by simp only [rep]; exact ⟨none,0,rfl,Nat.le_refl _,Nat.zero_le _,.inl rfl⟩,fun x hx=>by cases hx⟩
  ·
   have each:∀ i,i<len→∃ v:t.T,∃ cs',cs'.length=t.size∧rep w (fun _=>False) t v cs'∧t.inR v∧∀ j u,cs'[j]?=some u→w.cell? ((a.add (i*t.size)).add j)=some u:=by
    intro i hi
    have hi':=hel i hi
    rw [List.getElem?_eq_getElem (by omega),h3] at hi'
    simp only [Option.bind_eq_some_iff] at hi'
    obtain ⟨cs',q1,q2⟩:=hi'
    obtain ⟨v,hv,hvr⟩:=trod_rep t e n cs' _ h4 q2
    obtain ⟨_,q3,q4⟩:=World.cells?_some q1
    refine ⟨v,cs',q3,hv,hvr,fun j u hj => ?_⟩
    have hjl:=(List.getElem?_eq_some_iff.1 hj).1
    rw [q4 j (by omega)]; exact hj
   obtain ⟨xs,hxl,hxs⟩:=choose_list len _ each
   refine ⟨xs,?_,fun x hx=>by
    obtain ⟨i,hi⟩:=List.getElem?_of_mem hx
    obtain ⟨_,_,_,hr,_⟩:=hxs i x hi
    exact hr⟩
   simp only [rep]
   refine ⟨some a,cap,by rw [hxl],by omega,hm,?_⟩
   rcases Nat.eq_zero_or_pos len with h0 | h0
   ·
    left; exact List.length_eq_zero_iff.1 (by omega)
   ·
    right
    have ⟨cs0,c1,c2,_,c3⟩:=hxs 0 xs[0] (List.getElem?_eq_getElem (by omega))
    have hu:cs0[0]?=some cs0[0]:=List.getElem?_eq_getElem (by omega)
    have hc:=c3 0 _ hu
    have ha0:(a.add (0*t.size)).add 0=a:=by simp [Addr.add]
    rw [ha0] at hc
    have hsp:a.spot=none:=by
     unfold World.cell? at hc
     split at hc
     ·
      split at hc
      ·
       cases hc
      ·
       rename_i hs; simpa using hs
     ·
      cases hc
    have hblk:a.block<w.heap.size:=by
     unfold World.cell? at hc
     split at hc
     ·
      rename_i hh; exact (Array.getElem?_eq_some_iff.1 hh).1
     ·
      cases hc
    obtain ⟨blk,off,sp⟩:=a
    simp only at hsp hblk
    subst hsp
    refine ⟨blk,off,rfl,fun h=>h,hblk,fun i x hx => ?_⟩
    obtain ⟨cs',c1,c2,_,c3⟩:=hxs i x hx
    refine ⟨cs',c1,c2,fun j u hj => ?_⟩
    have:=c3 j u hj
    rw [addr_add,addr_add] at this
    exact this
 | .nil,T,fuel,cs,x,ht,h=>by simp only [TyOf] at ht
 | .fn,T,fuel,cs,x,ht,h=>by simp only [TyOf] at ht
 | .cons t r,T,fuel,cs,x,ht,h=>by
  simp only [TyOf] at ht
  obtain ⟨fs,f,l,h1,h2,h3,h4,h5,h6,h7⟩:=ht
  obtain ⟨xs,n,_,_,hcl,hxl,hx⟩:=DataW.trod_struct h1 h
  have hget:∀ (i:Nat) (g:Field),(f::l)[i]?=some g→∃ y,DataW.trod enc P w base spare held n g.type ((cs.drop g.offset).take (P.cellsOf g.type))=some y:=by
   intro i g hg
   rw [← h2,Array.getElem?_toList] at hg
   have hi:=(Array.getElem?_eq_some_iff.1 hg).1
   have:=hx i g hg
   rw [List.getElem?_eq_getElem (by omega)] at this
   exact ⟨_,this⟩
  obtain ⟨y,hy⟩:=hget 0 f rfl
  rw [h3,h4] at hy
  obtain ⟨v,hv,hvr⟩:=trod_rep t f.type n _ _ h5 hy
  obtain ⟨u,hu,hur⟩:=trod_fields r l t.size n cs h6 (fun i g hg=>hget (i+1) g (by simpa using hg))
  refine ⟨(v,u),?_,hvr,hur⟩
  simp only [rep]
  refine ⟨cs.take t.size,cs.drop t.size,(List.take_append_drop _ _).symm,by simpa using hv,?_⟩
  rw [List.take_of_length_le (by rw [List.length_drop,hcl,h7]; omega)] at hu
  exact hu
theorem trod_fields:∀ (ty:Ty) (l:List Field) (off n:Nat) (cs:List Value),FieldsOf P ty l off→(∀ (i:Nat) (g:Field),l[i]?=some g→∃ y,DataW.trod enc P w base spare held n g.type ((cs.drop g.offset).take (P.cellsOf g.type))=some y) →
  ∃ v:ty.T,rep w (fun _=>False) ty v ((cs.drop off).take ty.size)∧ty.inR v
 | .nil,l,off,n,cs,h,_=>⟨(),by simp only [rep]; simp,trivial⟩
 | .cons t r,l,off,n,cs,h,hget=>by
  simp only [FieldsOf] at h
  obtain ⟨f,l',rfl,h1,h2,h3,h4⟩:=h
  obtain ⟨y,hy⟩:=hget 0 f rfl
  rw [h1,h2] at hy
  obtain ⟨v,hv,hvr⟩:=trod_rep t f.type n _ _ h3 hy
  obtain ⟨u,hu,hur⟩:=trod_fields r l' (off+t.size) n cs h4 (fun i g hg=>hget (i+1) g (by simpa using hg))
  refine ⟨(v,u),?_,hvr,hur⟩
  simp only [rep]
  refine ⟨_,_,?_,hv,hu⟩
  rw [List.take_add,List.drop_drop]
 | .int _,l,off,n,cs,h,_=>by simp only [FieldsOf] at h
 | .bool,l,off,n,cs,h,_=>by simp only [FieldsOf] at h
 | .str,l,off,n,cs,h,_=>by simp only [FieldsOf] at h
 | .slice _,l,off,n,cs,h,_=>by simp only [FieldsOf] at h
 | .fn,l,off,n,cs,h,_=>by simp only [FieldsOf] at h
end
end
end Go.Am
namespace Go.Am
open Go.RowKit Go.ChangeShapes Go.WideShapes
def argOf:Sigma Ty.T→AV
 | ⟨.int k,n⟩=>.s (.int k n)
 | ⟨.bool,b⟩=>.s (.bool b)
 | ⟨.str,s⟩=>.s (.str s)
 | ⟨.slice t,xs⟩=>.s (.sl t xs false)
 | ⟨.nil,_⟩=>.agg []
 | ⟨.cons t r,x⟩=>.agg ((Ty.cons t r).flat x)
 | ⟨.fn,x⟩=>.s (.fv x)
def argIn (x:Sigma Ty.T):Prop:=x.1.inR x.2
theorem okWide_intIn {P:Program} {w:World} {r:Reach} {base:Nat} {t:TypeId} {v:Value} {k:IntKind} (ht:P.underlying t=some (.int k)) (h:Value.okWide P w r base t v):∃ n,v=.int k n∧k.has n:=by
 simp only [Value.okWide,ht,Cell.okWide] at h
 cases v <;> simp_all [Cell.ok]
section
variable {H:Type} {enc:TypeId×Value→H} {P:Program} {W:World} {base:Nat} {spare:Nat→Bool} {held:Bool}
theorem trod_arg {ty:Ty} {T:TypeId} {r:Reach} {b0:Nat} {v:Value} {d:DataW H} {ps:List MemPlace} (ht:TyOf P ty T) (hok:Value.okWide P W r b0 T v) (h:DataW.Trod enc P W base spare held T v d ps) :
  ∃ x:ty.T,relAV W (fun _=>False) [] [] (argOf ⟨ty,x⟩) v∧argIn ⟨ty,x⟩:=by
 obtain ⟨fuel,hf⟩:=h
 obtain ⟨x,hx,hxr⟩:=trod_rep ty T fuel _ _ ht hf
 refine ⟨x,?_⟩
 cases ty with
 | int k =>
  simp only [TyOf] at ht
  obtain ⟨n,rfl,hin⟩:=okWide_intIn ht hok
  simp [rep,Value.cells] at hx
  subst hx
  exact ⟨rfl,hxr⟩
 | bool =>
  simp only [TyOf] at ht
  obtain ⟨n,rfl⟩:=okWide_bool ht hok
  simp [rep,Value.cells] at hx
  exact ⟨by simp [argOf,relAV,relSV,hx],hxr⟩
 | str =>
  simp only [TyOf] at ht
  obtain ⟨n,rfl⟩:=okWide_string ht hok
  simp [rep,Value.cells] at hx
  exact ⟨by simp [argOf,relAV,relSV,hx],hxr⟩
 | slice t =>
  simp only [TyOf] at ht
  obtain ⟨e,h1,_⟩:=ht
  obtain ⟨a,len,cap,rfl⟩:=okWide_slice h1 hok
  simp only [rep,Value.cells] at hx
  obtain ⟨a',c,hc,h2,h3,h4⟩:=hx
  have hc':Value.slice a len cap=Value.slice a' x.length c:=by simpa using hc
  simp only [argOf,relAV,relSV]
  exact ⟨⟨a',c,hc',h2,h3,(fun h=>by cases h),h4⟩,hxr⟩
 | nil=>simp only [TyOf] at ht
 | fn=>simp only [TyOf] at ht
 | cons t r' =>
  have ht':=ht
  simp only [TyOf] at ht
  obtain ⟨fs,f,l,h1,_⟩:=ht
  obtain ⟨cs,rfl,_⟩:=okWide_struct h1 hok
  have hx':=rep_flat (bs:=[]) (hp:=[]) _ _ _ hx
  simp only [argOf,relAV]
  refine ⟨⟨cs.toList,by simp,?_⟩,hxr⟩
  simpa [Value.cells] using hx'
theorem trodAll_args:∀ {tys:List Ty} {Ts:List TypeId} {r:Reach} {b0:Nat} {vs:List Value} {ds:List (DataW H)} {ps:List MemPlace},All2 (TyOf P) tys Ts →
  (∀ (j:Nat) t v,Ts[j]?=some t→vs[j]?=some v→Value.okWide P W r b0 t v)→DataW.TrodAll enc P W base spare held Ts vs ds ps →
  ∃ xs:List (Sigma Ty.T),xs.map (·.1)=tys∧All2 (relAV W (fun _=>False) [] []) (xs.map argOf) vs∧∀ x∈xs,argIn x:=by
 intro tys Ts r b0 vs ds ps ht
 induction ht generalizing vs ds ps with
 | nil =>
  intro _ h
  obtain ⟨rfl,_,_⟩:=trodAll_nil h
  exact ⟨[],rfl,.nil,by simp⟩
 | cons h1 _ ih =>
  intro hok h
  obtain ⟨v,vs',d,ds',p,q,rfl,rfl,rfl,h2,h3⟩:=trodAll_cons h
  obtain ⟨x,hx,hi⟩:=trod_arg h1 (hok 0 _ _ rfl rfl) h2
  obtain ⟨xs,e,hxs,his⟩:=ih (fun j t u h h'=>hok (j+1) t u (by simpa using h) (by simpa using h')) h3
  exact ⟨⟨_,x⟩::xs,by simp [e],.cons hx hxs,by simp only [List.forall_mem_cons]; exact ⟨hi,his⟩⟩
theorem trodAll_stays (hl:laidOutB P=true):∀ {Ts:List TypeId} {W':World} {sp:Nat→Bool} {vs:List Value} {ds:List (DataW H)} {ps:List MemPlace},(∀ T∈Ts,P.readableRec T=true∧T<P.types.size) →
  DataW.TrodAll enc P W 0 (fun _=>true) true Ts vs ds ps→(∀ p∈ps,W.sameAt W' p)→(∀ p∈ps,sp p.block=true)→DataW.TrodAll enc P W' 0 sp true Ts vs ds ps
 | [],W',sp,vs,ds,ps,_,h,_,_=>by
  obtain ⟨rfl,rfl,rfl⟩:=trodAll_nil h
  exact trodAll_mk0
 | T::Ts,W',sp,vs,ds,ps,hr,h,h1,h2=>by
  obtain ⟨v,vs',d,ds',p,q,rfl,rfl,rfl,h3,h4⟩:=trodAll_cons h
  exact trodAll_cons_mk (WideElems.Trod_stays hl (hr T (by simp)).1 (hr T (by simp)).2 h3 (fun x hx=>h1 x (by simp [hx])) (fun x hx=>h2 x (by simp [hx])))
   (trodAll_stays hl (fun t ht=>hr t (by simp [ht])) h4 (fun x hx=>h1 x (by simp [hx])) (fun x hx=>h2 x (by simp [hx])))
end
theorem post_same {H:Type} {enc:TypeId×Value→H} {P:Program} {f:Func} {s:ChangeSpec} {apart fresh handsOn again:Bool} {W W':World} {args:Array Value} {v:Value} {ds gs:List (DataW H)} {before pa pv:List MemPlace}
  (hW:DataW.Whole enc P f.params.toList s.vars apart W args.toList ds gs before)
  (hres:∀ (b:Nat) (sp:Nat→Bool) (hd:Bool),DataW.TrodAll enc P W' b sp hd f.resultTypes.toList (v.resultList f.resultTypes.size) (s.fn H (ds++gs)).results [])
  (hargs:∀ sp:Nat→Bool,(∀ p∈before,sp p.block=true)→DataW.TrodAll enc P W' 0 sp true f.params.toList args.toList (s.fn H (ds++gs)).args pa)
  (hvars:∀ sp:Nat→Bool,(∀ p∈before,sp p.block=true)→DataW.TrodVars enc P W' sp s.vars (s.fn H (ds++gs)).vars pv)
  (hps:before=pa++pv) (hk:W.keptBut W' (·∈before)) (hfz:∀ p:Addr,p.block<W.heap.size→W'.frozen? p=W.frozen? p)
  (hok:∀ (j:Nat) (t:TypeId) (r:Value),f.resultTypes[j]?=some t→(v.resultList f.resultTypes.size)[j]?=some r→Value.okWide P W' .any 0 t r) :
  s.post enc P f apart fresh handsOn again W args v W':=by
 have hlt:∀ p∈before,p.block<W.heap.size:=fun p hp=>hW.lt p hp
 have hold:∀ p∈before,(fun b=>decide (b<W.heap.size)) p.block=true:=fun p hp=>by simpa using hlt p hp
 refine ⟨ds,gs,before,[],pa,pv,hW,hres _ _ _,hargs _ hold,hvars _ hold,World.keptBut_mono (fun p hp=>⟨hp,?_⟩) hk,fun _ => ?_⟩
 ·
  rw [hps,List.mem_append] at hp
  exact Or.inr hp
 ·
  obtain ⟨_,_,_,_,_,hz,hn⟩:=hW
  refine ⟨hok,_,_,([]++pa)++pv,⟨[]++pa,pv,trodAll_append (hargs _ (fun _ _=>rfl)) (hres _ _ _),hvars _ (fun _ _=>rfl),rfl,?_,?_⟩,?_⟩
  ·
   intro b off hp
   have hp':MemPlace.cell b off∈before:=by rw [hps]; simpa using hp
   rw [hfz _ (hlt _ hp')]
   exact hz b off hp'
  ·
   intro ha
   have:=hn ha
   rw [hps] at this
   simpa using this
  ·
   intro p hp _
   rw [hps]
   simpa using hp
theorem law_contract {P:Program} {f:FuncId} {fn:Func} {con:Con} {s:ChangeSpec} {tys:List Ty} {T:TypeId} (apart:Bool)
  (hp:PureOk P f con) (hpre:∀ xs:List (Sigma Ty.T),xs.map (·.1)=tys→(∀ x∈xs,argIn x)→con.pre (xs.map argOf)) (hval:∀ args,con.val args=.v (.s (.bool true)))
  (ht:All2 (TyOf P) tys fn.params.toList) (hr:∀ T∈fn.params.toList,P.readableRec T=true∧T<P.types.size) (hl:laidOutB P=true)
  (hres:fn.resultTypes=#[T]) (hT:P.underlying T=some .bool) (hv:s.vars=[])
  {H:Type} (enc:TypeId×Value→H) (hs:∀ ds:List (DataW H),ds.length=tys.length→(s.fn H ds).results=[.lit (.bool true)]∧(s.fn H ds).args=ds∧(s.fn H ds).vars=[])
  (W:World) (base:Nat) (args:Array Value) (ds gs:List (DataW H)) (before:List MemPlace)
  (hok:∀ (j:Nat) t v,fn.params[j]?=some t→args[j]?=some v→Value.okWide P W .any base t v)
  (hW:DataW.Whole enc P fn.params.toList s.vars apart W args.toList ds gs before) :
  Calls P f args W fun e W'=>∃ v,e=.returned v∧s.post enc P fn apart true false false W args v W':=by
 have hW':=hW
 obtain ⟨p,q,hA,hV,rfl,_,_⟩:=hW
 rw [hv] at hV
 obtain ⟨rfl,rfl⟩:=trodVars_none hV
 simp only [List.append_nil] at hW'
 obtain ⟨xs,e,hxs,his⟩:=trodAll_args ht (fun j t v h h'=>hok j t v (by simpa [Array.getElem?_toList] using h) (by simpa [Array.getElem?_toList] using h')) hA
 have hlen:ds.length=tys.length:=by
  have h1:=ht.length
  have h2:∀ {Ts:List TypeId} {vs:List Value} {ds:List (DataW H)} {ps:List MemPlace},DataW.TrodAll enc P W 0 (fun _=>true) true Ts vs ds ps→ds.length=Ts.length:=by
   intro Ts
   induction Ts with
   | nil=>intro vs ds ps h; obtain ⟨_,rfl,_⟩:=trodAll_nil h; rfl
   | cons t Ts ih=>intro vs ds ps h; obtain ⟨v,vs',d,ds',p,q,rfl,rfl,rfl,h3,h4⟩:=trodAll_cons h; simp [ih h4]
  rw [h2 hA,h1]
 obtain ⟨h1,h2,h3⟩:=hs ds hlen
 have hc:=hp W (fun _=>False) (xs.map argOf) args.toList (hpre xs e his) (fun _ h=>h.elim) hxs
 rw [Array.toArray_toList] at hc
 refine hc.mono fun o W' ⟨v,he,hv',hb,_⟩ => ?_
 rw [hval] at hv'
 simp only [relRV,relAV,relSV] at hv'
 subst hv'
 subst he
 have hlt:∀ x∈p,x.block<W.heap.size:=fun x hx=>by simpa using hW'.lt x hx
 refine ⟨_,rfl,post_same (pa:=p) (pv:=[]) hW' (fun b sp hd => ?_) (fun sp hsp => ?_) (fun sp _ => ?_) (by simp) (hb.frame _) (fun q hq=>hb.frozen hq) (ok_one hres rfl (okWide_bool_mk hT _))⟩
 ·
  rw [List.append_nil,h1,hres]
  exact trodAll_cons_mk (shut_bool hT _) trodAll_mk0
 ·
  rw [List.append_nil,h2]
  exact trodAll_stays hl hr hA (fun x hx=>hb.same (hlt x hx)) hsp
 ·
  rw [List.append_nil,h3,hv]
  rfl
end Go.Am
