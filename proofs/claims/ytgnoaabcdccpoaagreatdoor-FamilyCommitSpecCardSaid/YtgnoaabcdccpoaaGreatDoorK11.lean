/- Part 11 of the proof's base. -/
import Derived.Test.YtgnoaabcdccpoaaGreatDoorK10
set_option linter.all false
noncomputable section
namespace Go.Am
set_option maxHeartbeats 8000000
set_option maxRecDepth 20000
open Go.RowKit Go.Proofs Go.Proofs.Tryz
attribute [local simp ←] flats_append
attribute [local simp] thenKD_normal thenKD_exit thenKD_goto thenKD_ret inBlockKD_normal inBlockKD_exit inBlockKD_goto inBlockKD_ret noGotoKD_normal noGotoKD_exit noGotoKD_goto noGotoKD_ret roundKD_normal roundKD_exit roundKD_goto roundKD_ret frzSlotsD_nil frzSlotsD_cons frzSlotD_eq yieldVCD_trace opVCD_eq vcOpsD_nil vcOpsD_cons vcAllD_zero vcAllD_succ allAtD_nil allAtD_cons readyAux edgA vcD_skip vcD_label vcD_exit vcD_goto vcD_ret vcD_region vcD_seq vcD_seqC vcD_cond vcCondD_bool vcD_block vcD_scope vcD_loop vcD_rangeFunc yieldOf isMem isMem0 keepE envLe St.le psE yieldAV round_td round_y round_Γ vI vB vS aI aB aS look getE oper opRV putE allOk okOps Op.operands Call.operands pEv qEv mEv constRV coe RV.av loadEv loadCs takeAt indexAddrEv fieldAddrEv binEv intEv arith unEv gcond pickEv argsEv callVal callEv capAV_mk lenArgs lenEv minEv extractEv convEv funcEv allBox bound sliceEv lookupEv TD.isBool allocEv boxEv storeEv spl plainTD appendEv appendArgs makeMapEv mapUpdateEv buildEv buildSliceEv fillSV zsvOf sizeTD Ty.parses parses_flats' coeA flats_length AV.good AV.cells AV.pure SV.pure av_int av_bool av_str av_slice av_cons av_fld0 av_fld1 av_fld2 av_fld3 av_fld4 Ty.of Ty.dflt Ty.parse Ty.flat Ty.zsv Ty.fld Ty.un Ty.unv Ty.snoc Ty.snocV hd_mk kids_mk hd_dflt kids_dflt Ty.get Ty.off Ty.nfld Ty.size coeTy junk Blk.look argEnv resEv resOk resVs oneRV retOk frzAs frzAV frzL frzSV boxCaps boxCap SV.sig sigs RV.scalar AV.scalar SV.scalar nope effVCD_eq effOf SV.ids AV.ids dedup SV.ren AV.ren RV.ren idx outId mergeB Blk.pureB flats_pure flat_pure epsSlotsD_nil epsSlotsD_cons epsSlotD_eq allEp D.parts_fnOf fvParts retEff round_E av_fn G.ye isCutD_nil isCutD_cons firstReg_region firstReg_seq firstReg_skip firstReg_ret firstReg_label firstReg_exit firstReg_goto firstReg_cond firstReg_block firstReg_scope firstReg_loop firstReg_rf eptrOf_mk flOfD_nil flOfD_cons vcFlD_cons vcFlD_nil flPairs_nil flPairs_cons vcFrD_nil vcFrD_cons makeSliceEv vcCondD_ib fzEv unfl_flats isFz round_fz panVCD_eq panOf isShift strIdxEv ifaceEv nilChkEv sliceAnyEv sliceOwnEv sliceSufEv appendEv0 appendEv1 Ty.beq Ty.isAgg round_Pn vcDefD_seqR vcDefD_seqS vcDefD_seqC vcDefD_seqB vcDefD_seqL vcDefD_seqF vcDefD_seqSc vcDefD_region vcDefD_ret vcDefD_cond vcDefD_block vcDefD_loop thenKD_panic inBlockKD_panic noGotoKD_panic exitOk_normal exitOk_ret exitOk_panic exitOk_exit runDefs_none runDefs_some runDefs_cons defRegD defReg2D isDefer defOf caughtCon unfl_cons D.bpart_bndOf D.parts_bndOf AV.sig zapEv capArgs capEv effVC2D_eq effSelD_eq effOf2 effOf2V borAt borAll borAV borSV borIds selOf reachB closedB Blk.sound Blk.ids Blk.ren Blk.scalarB retEff2 retEff2S round_E2 round_te round_bo round_pm andEv orEv xorEv bitsEv utop cvEv callAny callBor slicePartEv makePartEv copyEv copyArgs boundEv globs vcPiD_nil vcPiD_cons piOpD_eq appStrEv
def conInsT (Γ:List (FuncId×Con)):ECon:={ wp:=fun args hp K=>match args,hp with
 | [.s (.own (.cons (.int .i64) (.cons (.cons (.cons .bool (.cons (.slice (.int .i64)) .nil)) (.cons (.cons .bool (.cons (.slice (.int .i64)) .nil)) .nil)) .nil)) 0 n),.s (.int .i64 a),.s (.int .i64 b),.s (.fnp f caps)],[.arr al cs]=>∃ (xs:List (Ty.T tTst)) (cmp:Ty.T tTst→Ty.T tTst→Int),(cs=Ty.flats tTst xs∧xs.length=n∧n≤100000∧(al=true∨xs=[])∧a=0∧b=n∧cmpTo Γ tTst f caps cmp (·∈xs)∧Ordr (·∈xs) cmp) ∧
   ∀ ys:List (Ty.T tTst),ys.Perm xs→ys.Pairwise (fun x y=>cmp x y≤0)→K (.tup []) [.arr al (Ty.flats tTst ys)]
 | _,_=>False }
theorem conInsT_one (f:FuncId) (caps:List (Sigma Ty.T)) (c:Con) (he:∀ (args:Array Value) (w:World),(callFunc f args).run prog w=.ok (.enter f args) w) (hc:PureOk prog f c) (cmp:Ty.T tTst→Ty.T tTst→Int) (xs0:List (Ty.T tTst))
  (hv:∀ x y,x∈xs0→y∈xs0→c.pre (Ty.av tTst x::Ty.av tTst y::caps.map capAV)∧c.val (Ty.av tTst x::Ty.av tTst y::caps.map capAV)=.v (.s (.int .i64 (cmp x y)))) (ho:Ordr (·∈xs0) cmp) :
  EffOk prog 195 { wp:=fun args hp K=>∃ al,args=[.s (.own tTst 0 xs0.length),.s (.int .i64 0),.s (.int .i64 xs0.length),.s (.fnp f caps)]∧hp=[.arr al (Ty.flats tTst xs0)]∧xs0.length≤100000∧(al=true∨xs0=[])∧∀ ys:List (Ty.T tTst),ys.Perm xs0→ys.Pairwise (fun x y=>cmp x y≤0)→K (.tup []) [.arr al (Ty.flats tTst ys)] }:=by
 refine effOkD (L:={ live:=[0,1,2,3,8,9,14,34],fl:=[(6,[(8,0),(9,0),(12,0),(13,0),(14,0),(16,16)])] }) (g1_good faT_ok he hc) rfl nr_mixed func195 rfl _ 4 (by decide) (by kernel_rfl) ?_
 rintro _ _ K ⟨al,rfl,rfl,hn,hal,hK⟩ _
 refine ⟨rfl,?_⟩
 have hv:∀ x y,x∈xs0→y∈xs0→c.pre (.agg (Ty.flat tTst x)::.agg (Ty.flat tTst y)::caps.map capAV)∧c.val (.agg (Ty.flat tTst x)::.agg (Ty.flat tTst y)::caps.map capAV)=.v (.s (.int .i64 (cmp x y))):=hv
 simp -dsimp -implicitDefEqProofs [f195,g1_all,faT,inI64]
 refine WpD.loop (L:={ live:=[0,1,2,3,8,9,14,34],fl:=[(6,[(8,0),(9,0),(12,0),(13,0),(14,0),(16,16)])] }) (g1_good faT_ok he hc) X0_ok nr_mixed (by kernel_rfl)
  (fun p:Nat×List (Ty.T tTst)=>⟨[(0,⟨true,.v (.s (.own tTst 0 xs0.length))⟩),(1,vI 0),(2,vI xs0.length),(3,⟨true,.v (.s (.fnp f caps))⟩),(8,vI p.1)],[.arr al (Ty.flats tTst p.2)]⟩)
  (fun p=>(1≤p.1∧p.1≤xs0.length+1)∧p.2.Perm xs0∧srtTo cmp (Ty.dflt tTst) p.2 p.1) (fun p=>xs0.length+1 - p.1) (1,xs0) ⟨⟨by omega,by omega⟩,List.Perm.refl _,fun p q h1 h2=>by omega⟩ (Turn.le (by simp -dsimp -implicitDefEqProofs)) ?_
 rintro ⟨i,xs⟩ ⟨⟨hi1,hi2⟩,hxp,hxs⟩
 simp only at hi1 hi2 hxp hxs
 have hxl:=hxp.length_eq
 rcases Nat.lt_or_ge i xs0.length with hil | hge
 ·
  obtain rfl:al=true:=by
   rcases hal with h | h
   ·
    exact h
   ·
    rw [h] at hil; simp at hil
  simp -dsimp -implicitDefEqProofs [hil,g1_all,faT,inI64]
  refine WpD.loop (L:={ live:=[0,1,2,3,8,9,14,34],fl:=[(6,[(8,0),(9,0),(12,0),(13,0),(14,0),(16,16)])] }) (g1_good faT_ok he hc) X0_ok nr_mixed (by kernel_rfl)
   (fun p:Nat×List (Ty.T tTst)=>⟨[(0,⟨true,.v (.s (.own tTst 0 xs0.length))⟩),(1,vI 0),(2,vI xs0.length),(3,⟨true,.v (.s (.fnp f caps))⟩),(8,vI i),(9,vI p.1)],[.arr true (Ty.flats tTst p.2)]⟩)
   (fun p=>p.1≤i∧p.2.Perm xs0∧insP cmp (Ty.dflt tTst) p.2 i p.1) (fun p=>p.1) (i,xs) ⟨Nat.le_refl _,hxp,ins_start hxs⟩ (Turn.le (by simp -dsimp -implicitDefEqProofs)) ?_
  rintro ⟨j,ys⟩ ⟨hj,hyp,hys⟩
  simp only at hj hyp hys
  have hyl:=hyp.length_eq
  have hym:∀ x∈ys,x∈xs0:=fun x hx=>hyp.mem_iff.1 hx
  rcases Nat.eq_zero_or_pos j with rfl | hj0
  ·
   have f0:(Ty.flats tTst ys).take 5=Ty.flat tTst (ys[0]'(by omega)):=by
    have:=flats_at tTst (xs:=ys) (j:=0) (by omega)
    simpa using this
   have v0:=hv _ _ (hym _ (List.getElem_mem (show 0<ys.length by omega))) (hym _ (List.getElem_mem (show 0<ys.length by omega)))
   simp -dsimp -implicitDefEqProofs [f0,v0,g1_all,faT,inI64,-Ty.flat]
   exact ⟨⟨by omega,by omega⟩,i+1,ys,⟨⟨by omega,by omega⟩,hyp,ins_done ho hym (by omega) (by omega) hys (.inl rfl)⟩,by omega,TurnT.le (by simp -dsimp -implicitDefEqProofs)⟩
  ·
   obtain ⟨k,rfl⟩:∃ k,j=k+1:=⟨j - 1,by omega⟩
   have e1:((k+1:Nat):Int) - 1=k:=by omega
   have f1:((Ty.flats tTst ys).drop ((k+1)*5)).take 5=Ty.flat tTst (ys[k+1]'(by omega)):=flats_at tTst (xs:=ys) (j:=k+1) (by omega)
   have f2:((Ty.flats tTst ys).drop (k*5)).take 5=Ty.flat tTst (ys[k]'(by omega)):=flats_at tTst (xs:=ys) (j:=k) (by omega)
   have v1:=hv _ _ (hym _ (List.getElem_mem (show k+1<ys.length by omega))) (hym _ (List.getElem_mem (show k<ys.length by omega)))
   have q1:(Ty.flat tTst (ys[k]'(by omega))).length=5:=flat_length tTst _
   have q2:(Ty.flat tTst (ys[k+1]'(by omega))).length=5:=flat_length tTst _
   have hmn:min (k+1) ys.length=k+1:=by omega
   have g1':ys[k]?.getD (Ty.dflt tTst)=ys[k]'(by omega):=by rw [List.getElem?_eq_getElem (by omega)]; rfl
   have g2':ys[k+1]?.getD (Ty.dflt tTst)=ys[k+1]'(by omega):=by rw [List.getElem?_eq_getElem (by omega)]; rfl
   have fs1:(Ty.flats tTst ys).take ((k+1)*5)++(Ty.flat tTst (ys[k]'(by omega))++(Ty.flats tTst ys).drop ((k+1)*5+5))=Ty.flats tTst (ys.set (k+1) (ys[k]'(by omega))):=flats_set tTst (by omega) _
   have fs2:(Ty.flats tTst (ys.set (k+1) (ys[k]'(by omega)))).take (k*5)++(Ty.flat tTst (ys[k+1]'(by omega))++(Ty.flats tTst (ys.set (k+1) (ys[k]'(by omega)))).drop (k*5+5))=Ty.flats tTst ((ys.set (k+1) (ys[k]'(by omega))).set k (ys[k+1]'(by omega))):=flats_set tTst (by rw [List.length_set]; omega) _
   simp -dsimp -implicitDefEqProofs [e1,f1,f2,v1,q1,q2,hmn,caps_all,caps_all',g1_all,faT,inI64,-Ty.flat]
   refine ⟨⟨by omega,by omega,by omega⟩,⟨by omega,by omega⟩,by omega,⟨by omega,by omega⟩,⟨by omega,by omega⟩,fun hlt=>⟨⟨by omega,⟨by omega,by omega⟩,⟨by omega,by omega⟩,⟨by omega,by omega,by omega⟩,⟨by omega,by omega⟩,⟨by omega,by omega,by omega⟩,⟨by omega,by omega⟩,⟨by omega,by omega⟩,⟨by omega,by omega⟩,by omega,
    k,(ys.set (k+1) (ys[k]'(by omega))).set k (ys[k+1]'(by omega)),⟨by omega,?_,?_⟩,by omega,?_⟩,⟨by omega,by omega⟩,⟨by omega,by omega⟩,⟨by omega,by omega,by omega⟩,⟨by omega,by omega⟩,⟨by omega,by omega,by omega⟩,by omega,by omega⟩,fun hge=>⟨⟨by omega,by omega⟩,i+1,ys,⟨⟨by omega,by omega⟩,hyp,ins_done ho hym (by omega) (by omega) hys (.inr (by rw [Nat.add_sub_cancel,g1',g2']; exact hge))⟩,by omega,TurnT.le (by simp -dsimp -implicitDefEqProofs)⟩⟩
   ·
    have:=swap_perm (d:=Ty.dflt tTst) (ys:=ys) (j:=k) (by omega)
    rw [g1',g2'] at this
    exact this.trans hyp
   ·
    have:=ins_swap (c:=cmp) (d:=Ty.dflt tTst) (ys:=ys) (i:=i) (j:=k) (by omega) hj hys (by rw [g1',g2']; exact hlt)
    rw [g1',g2'] at this
    exact this
   ·
    rw [fs1,fs2]
    exact TurnT.le (by simp -dsimp -implicitDefEqProofs)
 ·
  have hn:¬ i<xs0.length:=by omega
  simp -dsimp -implicitDefEqProofs [hn,g1_all,faT,inI64]
  exact hK _ hxp (srt_all fun p q h1 h2=>hxs p q h1 (by omega))
theorem conInsT_known (Γ:List (FuncId×Con)) (hΓ:Known prog Γ):EffOk prog 195 (conInsT Γ):=by
 refine EffOk.of fun args hp K hpre => ?_
 simp only [conInsT] at hpre
 split at hpre
 ·
  obtain ⟨xs,cmp,⟨rfl,rfl,hn,hal,rfl,rfl,⟨c,hc,hv⟩,ho⟩,hK⟩:=hpre
  exact ⟨_,conInsT_one _ _ c (hΓ _ c hc).1 (hΓ _ c hc).2 cmp xs (fun x y hx hy=>hv x y hx hy) ho,_,rfl,rfl,hn,hal,hK⟩
 ·
  exact hpre.elim
def conValT:Con:=⟨fun args=>(match args with
 | [.s (.sl (.cons (.int .i64) (.cons (.cons (.cons .bool (.cons (.slice (.int .i64)) .nil)) (.cons (.cons .bool (.cons (.slice (.int .i64)) .nil)) .nil)) .nil)) _ _)]=>True
 | _=>False),fun args=>match args with
 | [.s (.sl (.cons (.int .i64) (.cons (.cons (.cons .bool (.cons (.slice (.int .i64)) .nil)) (.cons (.cons .bool (.cons (.slice (.int .i64)) .nil)) .nil)) .nil)) xs _)]=>.v (.s (.fnp 123 [⟨.slice tTst,xs⟩]))
 | _=>.v (.s .any)⟩
theorem conValT_pre (xs:List (Ty.T tTst)) (ex:Bool):conValT.pre [.s (.sl tTst xs ex)]=True:=rfl
theorem conValT_val (xs:List (Ty.T tTst)) (ex:Bool):conValT.val [.s (.sl tTst xs ex)]=.v (.s (.fnp 123 [⟨.slice tTst,xs⟩])):=rfl
theorem conValT_ok:PureOk prog 77 conValT:=by
 refine pureOkD (L:={ live:=[0,1,2] }) fa13_good rfl nr_mixed func77 rfl conValT 1 (by decide) (by kernel_rfl) ?_
 intro args hpre hlens
 simp only [conValT] at hpre
 split at hpre
 case h_2=>exact hpre.elim
 rename_i xs ex
 simp only [lenS] at hlens
 refine ⟨rfl,?_⟩
 simp -dsimp -implicitDefEqProofs [f77,conValT_val,conValT_val,fa13_all,fa13_S,inI64]
def itValT:ItCon:=⟨fun caps=>(match caps with
 | [.s (.eptr (.slice (.cons (.int .i64) (.cons (.cons (.cons .bool (.cons (.slice (.int .i64)) .nil)) (.cons (.cons .bool (.cons (.slice (.int .i64)) .nil)) .nil)) .nil))) _)]=>True
 | _=>False),fun caps=>match caps with
 | [.s (.eptr (.slice (.cons (.int .i64) (.cons (.cons (.cons .bool (.cons (.slice (.int .i64)) .nil)) (.cons (.cons .bool (.cons (.slice (.int .i64)) .nil)) .nil)) .nil))) xs)]=>xs.map fun x=>[Ty.av tTst x]
 | _=>[]⟩
theorem itValT_xs (xs:List (Ty.T tTst)):itValT.xs [.s (.eptr (.slice tTst) xs)]=xs.map fun x=>[Ty.av tTst x]:=rfl
theorem itValT_ok:ItOk prog 123 itValT:=by
 refine itOkD (L:={ live:=[0,1,4,5,6,7,8,14] }) fa13y_good rfl nr_mixed func123 (enters_of func123 (by kernel_rfl) rfl) rfl rfl itValT 1 (by decide) (by kernel_rfl) ?_
 intro caps l hpre hlens
 simp only [itValT] at hpre
 split at hpre
 ·
  rename_i xs
  obtain ⟨⟨hl,_⟩,_⟩:=hlens
  refine ⟨rfl,fun X hX => ?_⟩
  rw [itValT_xs]
  simp only [maxLen] at hl
  simp -dsimp -implicitDefEqProofs [f123,fa13y_q,fa13y_all,fa13_all,fa13_S,inI64]
  refine WpD.loop (L:={ live:=[0,1,4,5,6,7,8,14] }) fa13y_good hX nr_mixed (by kernel_rfl)
   (fun i:Nat=>⟨[(0,⟨true,.v (.s (.val (.func (.yield l) #[] #[])))⟩),(5,vS tTst xs false),(6,vI xs.length),(7,vI i)],[.trace l (xs.map fun x=>[Ty.av tTst x]) i false]⟩)
   (fun i=>i≤xs.length) (fun i=>xs.length - i) 0 (by simp) (Turn.le (by simp -dsimp -implicitDefEqProofs)) ?_
  intro i hi
  rcases Nat.lt_or_ge i xs.length with hil | hge
  ·
   simp -dsimp -implicitDefEqProofs [hil,fa13y_q,fa13y_all,fa13_all,fa13_S,inI64]
   first
    | exact ⟨⟨by omega,by omega⟩,i+1,by omega,by omega,TurnT.trunc hX (hp:=[_]) (junk:=[_]) (by simp) (by simp only [List.length_cons,List.length_nil,List.all_cons,List.all_nil,arr_below,Bool.and_true] <;> simp [Blk.below,SV.below]) (by simp -dsimp -implicitDefEqProofs) (by simp [envBelow,RV.below,AV.below,SV.below])⟩
    | exact ⟨⟨by omega,by omega⟩,i+1,by omega,by omega,TurnT.le (by simp -dsimp -implicitDefEqProofs)⟩
  ·
   have hn:¬ i<xs.length:=by omega
   simp -dsimp -implicitDefEqProofs [hn,fa13y_q,fa13y_all,fa13_all,fa13_S,inI64]
   omega
 ·
  exact hpre.elim
def itsValT:List (FuncId×ItCon):=[(123,itValT)]
theorem itsValT_known:KnownIt prog itsValT:=.cons itValT_ok .nil
theorem seqValT (xs:List (Ty.T tTst)):seqOf itsValT 123 [⟨.slice tTst,xs⟩] tTst xs:=⟨itValT,rfl,trivial,rfl⟩
def conLen:Con:=⟨fun args=>(match args with
 | [.s (.int .u64 x)]=>0≤x∧x≤1073741823
 | _=>False),fun args=>match args with
 | [.s (.int _ x)]=>.v (aI (lenN x.toNat))
 | _=>.v (.s .any)⟩
theorem conLen_eq (x:Int):conLen.pre [.s (.int .u64 x)]=(0≤x∧x≤1073741823)∧conLen.val [.s (.int .u64 x)]=.v (aI (lenN x.toNat)):=⟨rfl,rfl⟩
def fa14Γ:List (FuncId×Con):=(167,conLen64)::fa13Γ
theorem fa14Γ_ok:OkΓ fa14Γ:=by
 simp only [OkΓ,fa14Γ,List.forall_mem_cons]
 exact ⟨⟨enters_of func167 (by kernel_rfl) rfl,len64_ok⟩,fa13Γ_ok⟩
def fa14E:=fa13E
theorem fa14E_ok:OkE fa14E:=fa13E_ok
def fa14P:=fa13P
theorem fa14P_ok:OkP fa14P:=fa13P_ok
def fa14F:=fa13F
theorem fa14F_ok:OkF fa14F:=fa13F_ok
def fa14:G:={ τ:=faT,Γ:=fa14Γ,E:=fa14E,Pn:=fa14P,E2:=fa14F }
theorem fa14_good:fa14.good prog:=good_of_all (faT_ok _ rfl) fa14Γ_ok fa14E_ok fa14P_ok fa14F_ok
theorem fa14_all:(∀ t,fa14.td t=(look faT t).getD .other)∧fa14.y=false∧fa14.Γ=fa14Γ∧fa14.E=fa14E∧fa14.Pn=fa14P∧fa14.E2=fa14F∧fa14.fz=[]∧fa14.te=false∧fa14.bo=false∧fa14.pm=false:=⟨fun _=>rfl,rfl,rfl,rfl,rfl,rfl,rfl,rfl,rfl,rfl⟩
def fa14_S:=And.intro (And.intro @faT.eq_1 (And.intro @fa14Γ.eq_1 (And.intro @fa14E.eq_1 (And.intro @fa14P.eq_1 (And.intro @fa14F.eq_1 (@conLen64_eq)))))) fa13_S
theorem len_ok:PureOk prog 115 conLen:=by
 refine pureOkD (L:={ live:=[0,2] }) fa14_good rfl nr_mixed func115 rfl conLen 1 (by decide) (by kernel_rfl) ?_
 intro args hpre hlens
 simp only [conLen] at hpre
 split at hpre
 case h_2=>exact hpre.elim
 rename_i x
 simp only [lenS] at hlens
 refine ⟨rfl,?_⟩
 simp -dsimp -implicitDefEqProofs [f115,conLen_eq,fa14_all,fa14_S,inI64]
 exact hpre
def befT (x y:tTst.T):Int:=orI [cmpR x.2.1 y.2.1,cmpZ x.1 y.1]
def okT (x:tTst.T):Prop:=okS x.2.1.1.1 x.2.1.1.2.1 x.2.1.2.1.1 x.2.1.2.1.2.1
theorem okT_R {x:tTst.T} (h:okT x):okR x.2.1:=h.1
theorem befT_eq (x y:tTst.T):befT x y=if cmpR x.2.1 y.2.1=0 then cmpZ x.1 y.1 else cmpR x.2.1 y.2.1:=orI_two _ _
theorem ordr_befT:Ordr okT befT:=((ordr_rat.pull (fun x:tTst.T=>x.2.1) (fun x hx=>okT_R hx)).lex (ordr_int okT (fun x:tTst.T=>x.1))).congr fun x y _ _=>befT_eq x y
theorem befT_zero {x y:tTst.T} (h:befT x y=0):x.1=y.1:=by
 rw [befT_eq] at h
 split at h
 ·
  exact cmpZ_zero.1 h
 ·
  rename_i h1; exact absurd h h1
def fa15Γ:List (FuncId×Con):=(79,conOrI)::(80,conCmpI)::(115,conLen)::fa14Γ
theorem fa15Γ_ok:OkΓ fa15Γ:=by
 simp only [OkΓ,fa15Γ,List.forall_mem_cons]
 exact ⟨⟨enters_of func79 (by kernel_rfl) rfl,ori_ok⟩,⟨enters_of func80 (by kernel_rfl) rfl,cmpi_ok⟩,⟨enters_of func115 (by kernel_rfl) rfl,len_ok⟩,fa14Γ_ok⟩
def fa15E:=fa14E
theorem fa15E_ok:OkE fa15E:=fa14E_ok
def fa15P:=fa14P
theorem fa15P_ok:OkP fa15P:=fa14P_ok
def fa15F:=fa14F
theorem fa15F_ok:OkF fa15F:=fa14F_ok
def fa15:G:={ τ:=faT,Γ:=fa15Γ,E:=fa15E,Pn:=fa15P,E2:=fa15F }
theorem fa15_good:fa15.good prog:=good_of_all (faT_ok _ rfl) fa15Γ_ok fa15E_ok fa15P_ok fa15F_ok
theorem fa15_all:(∀ t,fa15.td t=(look faT t).getD .other)∧fa15.y=false∧fa15.Γ=fa15Γ∧fa15.E=fa15E∧fa15.Pn=fa15P∧fa15.E2=fa15F∧fa15.fz=[]∧fa15.te=false∧fa15.bo=false∧fa15.pm=false:=⟨fun _=>rfl,rfl,rfl,rfl,rfl,rfl,rfl,rfl,rfl,rfl⟩
def fa15_S:=And.intro (And.intro @faT.eq_1 (And.intro @fa15Γ.eq_1 (And.intro @fa15E.eq_1 (And.intro @fa15P.eq_1 (And.intro @fa15F.eq_1 (And.intro @conOrI_eq (And.intro @conCmpI_eq (@conLen_eq)))))))) fa14_S
def conBefT:Con:=⟨fun args=>(match args with
 | [.agg [.int .i64 no,.bool n1,.sl (.int .i64) m1 _,.bool n2,.sl (.int .i64) m2 _],.agg [.int .i64 ko,.bool k1,.sl (.int .i64) l1 _,.bool k2,.sl (.int .i64) l2 _]]=>okS n1 m1 n2 m2∧okS k1 l1 k2 l2
 | _=>False),fun args=>match args with
 | [.agg [.int _ no,.bool n1,.sl (.int .i64) m1 _,.bool n2,.sl (.int .i64) m2 _],.agg [.int _ ko,.bool k1,.sl (.int .i64) l1 _,.bool k2,.sl (.int .i64) l2 _]]=>.v (aI (orI [ratCmp n1 m1 m2 k1 l1 l2,cmpZ no ko]))
 | _=>.v (.s .any)⟩
theorem conBefT_eq (no:Int) (n1:Bool) (m1:List (Ty.T tI)) (exm1:Bool) (n2:Bool) (m2:List (Ty.T tI)) (exm2:Bool) (ko:Int) (k1:Bool) (l1:List (Ty.T tI)) (exl1:Bool) (k2:Bool) (l2:List (Ty.T tI)) (exl2:Bool):conBefT.pre [.agg [.int .i64 no,.bool n1,.sl tI m1 exm1,.bool n2,.sl tI m2 exm2],.agg [.int .i64 ko,.bool k1,.sl tI l1 exl1,.bool k2,.sl tI l2 exl2]]=(okS n1 m1 n2 m2∧okS k1 l1 k2 l2)∧conBefT.val [.agg [.int .i64 no,.bool n1,.sl tI m1 exm1,.bool n2,.sl tI m2 exm2],.agg [.int .i64 ko,.bool k1,.sl tI l1 exl1,.bool k2,.sl tI l2 exl2]]=.v (aI (orI [ratCmp n1 m1 m2 k1 l1 l2,cmpZ no ko])):=⟨rfl,rfl⟩
theorem beft_ok:PureOk prog 78 conBefT:=by
 refine pureOkD (L:={ live:=[0,1,2,3,4] }) fa15_good rfl nr_mixed func78 rfl conBefT 2 (by decide) (by kernel_rfl) ?_
 intro args hpre hlens
 simp only [conBefT] at hpre
 split at hpre
 case h_2=>exact hpre.elim
 rename_i no n1 m1 e1 n2 m2 e2 ko k1 l1 f1 k2 l2 f2
 simp only [lenS] at hlens
 refine ⟨rfl,?_⟩
 simp -dsimp -implicitDefEqProofs [f78,conBefT_eq,fa15_all,fa15_S,inI64]
 change List Int at m1; change List Int at m2; change List Int at l1; change List Int at l2
 obtain ⟨⟨a1,a2,a3⟩,b1,b2,b3⟩:=hpre
 exact ⟨⟨a1,b1⟩,by omega,by omega⟩
def gBef:List (FuncId×Con):=[(78,conBefT)]
theorem gBef_known:Known prog gBef:=.cons (enters_of func78 (by kernel_rfl) rfl) beft_ok .nil
theorem bef_cmpTo {xs:List tTst.T} (h:∀ x∈xs,okT x):cmpTo gBef tTst 78 [] befT (·∈xs):=⟨conBefT,rfl,fun x y hx hy=>⟨⟨h x hx,h y hy⟩,rfl⟩⟩
def fa16Γ:=fa15Γ
theorem fa16Γ_ok:OkΓ fa16Γ:=fa15Γ_ok
def fa16E:List (FuncId×ECon):=(195,(conInsT gBef))::fa15E
theorem fa16E_ok:OkE fa16E:=by
 simp only [OkE,fa16E,List.forall_mem_cons]
 exact ⟨⟨enters_of func195 (by kernel_rfl) rfl,(conInsT_known gBef gBef_known)⟩,fa15E_ok⟩
def fa16P:=fa15P
theorem fa16P_ok:OkP fa16P:=fa15P_ok
def fa16F:=fa15F
theorem fa16F_ok:OkF fa16F:=fa15F_ok
def fa16:G:={ τ:=faT,Γ:=fa16Γ,E:=fa16E,Pn:=fa16P,E2:=fa16F }
theorem fa16_good:fa16.good prog:=good_of_all (faT_ok _ rfl) fa16Γ_ok fa16E_ok fa16P_ok fa16F_ok
theorem fa16_all:(∀ t,fa16.td t=(look faT t).getD .other)∧fa16.y=false∧fa16.Γ=fa16Γ∧fa16.E=fa16E∧fa16.Pn=fa16P∧fa16.E2=fa16F∧fa16.fz=[]∧fa16.te=false∧fa16.bo=false∧fa16.pm=false:=⟨fun _=>rfl,rfl,rfl,rfl,rfl,rfl,rfl,rfl,rfl,rfl⟩
def fa16_S:=And.intro (And.intro @faT.eq_1 (And.intro @fa16Γ.eq_1 (And.intro @fa16E.eq_1 (And.intro @fa16P.eq_1 (And.intro @fa16F.eq_1 (@conInsT.eq_1)))))) fa15_S
def conPdqT_s (Γ:List (FuncId×Con)) (n:Nat) (f:FuncId) (caps:List (Sigma Ty.T)) (al:Bool) (cs:List SV) (K:RV→List Blk→Prop):Prop:=∃ (xs:List (Ty.T tTst)) (cmp:Ty.T tTst→Ty.T tTst→Int),(cs=Ty.flats tTst xs∧xs.length=n∧n≤12∧(al=true∨xs=[])∧cmpTo Γ tTst f caps cmp (·∈xs)∧Ordr (·∈xs) cmp) ∧
   ∀ ys:List (Ty.T tTst),ys.Perm xs→ys.Pairwise (fun x y=>cmp x y≤0)→K (.tup []) [.arr al (Ty.flats tTst ys)]
def conPdqT (Γ:List (FuncId×Con)):ECon:={ wp:=fun args hp K=>match args,hp with
 | [.s (.own (.cons (.int .i64) (.cons (.cons (.cons .bool (.cons (.slice (.int .i64)) .nil)) (.cons (.cons .bool (.cons (.slice (.int .i64)) .nil)) .nil)) .nil)) 0 n),.s (.int .i64 a),.s (.int .i64 b),.s (.int .i64 _),.s (.fnp f caps)],[.arr al cs]=>(a=0∧b=n)∧conPdqT_s Γ n f caps al cs K
 | _,_=>False }
theorem conPdqT_known:EffOk prog 173 (conPdqT gBef):=by
 refine effOkD (L:={ live:=[0,1,2,3,4,10,11,12,13,14,15,16,17,18,19,20,25,32,39,56,75,80,97,125] }) fa16_good rfl nr_mixed func173 rfl _ 5 (by decide) (by kernel_rfl) ?_
 intro args hp K hpre hlens
 simp only [conPdqT] at hpre
 split at hpre
 case h_2=>exact hpre.elim
 rename_i n a b lim f caps al cs
 obtain ⟨⟨rfl,rfl⟩,xs,cmp,⟨rfl,rfl,hn,hal,hc,ho⟩,hK⟩:=hpre
 refine ⟨rfl,?_⟩
 simp (maxSteps:=3000000) -dsimp -implicitDefEqProofs [f173,fa16_all,faT,fa16Γ,fa16E,fa16P,fa16F,fa15Γ,fa15E,fa15P,fa15F,fa14Γ,fa14E,fa14P,fa14F,fa13Γ,fa13E,fa13P,fa13F,fa12Γ,fa12E,fa12P,fa12F,fa11Γ,fa11E,fa11P,fa11F,fa10Γ,fa10E,fa10P,fa10F,fa9Γ,fa9E,fa9P,fa9F,fa8Γ,fa8E,fa8P,fa8F,fa7Γ,fa7E,fa7P,fa7F,fa3Γ,fa3E,fa3P,fa3F,fa2Γ,fa2E,fa2P,fa2F,fa1Γ,fa1E,fa1P,fa1F,nr20Γ,nr20E,nr20P,nr20F,nr19Γ,nr19E,nr19P,nr19F,nr18Γ,nr18E,nr18P,nr18F,nr17Γ,nr17E,nr17P,nr17F,nr16Γ,nr16E,nr16P,nr16F,nr15Γ,nr15E,nr15P,nr15F,nr14Γ,nr14E,nr14P,nr14F,nr13Γ,nr13E,nr13P,nr13F,nr9Γ,nr9E,nr9P,nr9F,nr8Γ,nr8E,nr8P,nr8F,nr7Γ,nr7E,nr7P,nr7F,nr6Γ,nr6E,nr6P,nr6F,nr5Γ,nr5E,nr5P,nr5F,nr4Γ,nr4E,nr4P,nr4F,nr3Γ,nr3E,nr3P,nr3F,nr0Γ,nr0E,nr0P,nr0F,inI64]
 refine WpD.loop (L:={ live:=[0,1,2,3,4,10,11,12,13,14,15,16,17,18,19,20,25,32,39,56,75,80,97,125] }) fa16_good X0_ok nr_mixed (by kernel_rfl)
  (fun _:Nat=>⟨[(0,⟨true,.v (.s (.own tTst 0 xs.length))⟩),(1,vI 0),(2,vI xs.length),(3,vI lim),(4,⟨true,.v (.s (.fnp f caps))⟩),(10,vB true),(11,vB true)],[.arr al (Ty.flats tTst xs)]⟩)
  (fun _=>True) (fun n=>n) 0 trivial (Turn.le (by simp -dsimp -implicitDefEqProofs)) ?_
 rintro _ -
 have h12:(xs.length:Int)≤12:=by omega
 simp (maxSteps:=3000000) -dsimp -implicitDefEqProofs [h12,conInsT,fa16_all,faT,fa16Γ,fa16E,fa16P,fa16F,fa15Γ,fa15E,fa15P,fa15F,fa14Γ,fa14E,fa14P,fa14F,fa13Γ,fa13E,fa13P,fa13F,fa12Γ,fa12E,fa12P,fa12F,fa11Γ,fa11E,fa11P,fa11F,fa10Γ,fa10E,fa10P,fa10F,fa9Γ,fa9E,fa9P,fa9F,fa8Γ,fa8E,fa8P,fa8F,fa7Γ,fa7E,fa7P,fa7F,fa3Γ,fa3E,fa3P,fa3F,fa2Γ,fa2E,fa2P,fa2F,fa1Γ,fa1E,fa1P,fa1F,nr20Γ,nr20E,nr20P,nr20F,nr19Γ,nr19E,nr19P,nr19F,nr18Γ,nr18E,nr18P,nr18F,nr17Γ,nr17E,nr17P,nr17F,nr16Γ,nr16E,nr16P,nr16F,nr15Γ,nr15E,nr15P,nr15F,nr14Γ,nr14E,nr14P,nr14F,nr13Γ,nr13E,nr13P,nr13F,nr9Γ,nr9E,nr9P,nr9F,nr8Γ,nr8E,nr8P,nr8F,nr7Γ,nr7E,nr7P,nr7F,nr6Γ,nr6E,nr6P,nr6F,nr5Γ,nr5E,nr5P,nr5F,nr4Γ,nr4E,nr4P,nr4F,nr3Γ,nr3E,nr3P,nr3F,nr0Γ,nr0E,nr0P,nr0F,inI64,-Prod.exists]
 exact ⟨by omega,xs,cmp,⟨rfl,rfl,by omega,hal,hc,ho⟩,hK⟩
def fa17Γ:=fa16Γ
theorem fa17Γ_ok:OkΓ fa17Γ:=fa16Γ_ok
def fa17E:List (FuncId×ECon):=(173,(conPdqT gBef))::fa16E
theorem fa17E_ok:OkE fa17E:=by
 simp only [OkE,fa17E,List.forall_mem_cons]
 exact ⟨⟨enters_of func173 (by kernel_rfl) rfl,conPdqT_known⟩,fa16E_ok⟩
def fa17P:=fa16P
theorem fa17P_ok:OkP fa17P:=fa16P_ok
def fa17F:=fa16F
theorem fa17F_ok:OkF fa17F:=fa16F_ok
def fa17:G:={ τ:=faT,Γ:=fa17Γ,E:=fa17E,Pn:=fa17P,E2:=fa17F }
theorem fa17_good:fa17.good prog:=good_of_all (faT_ok _ rfl) fa17Γ_ok fa17E_ok fa17P_ok fa17F_ok
theorem fa17_all:(∀ t,fa17.td t=(look faT t).getD .other)∧fa17.y=false∧fa17.Γ=fa17Γ∧fa17.E=fa17E∧fa17.Pn=fa17P∧fa17.E2=fa17F∧fa17.fz=[]∧fa17.te=false∧fa17.bo=false∧fa17.pm=false:=⟨fun _=>rfl,rfl,rfl,rfl,rfl,rfl,rfl,rfl,rfl,rfl⟩
def fa17_S:=And.intro (And.intro @faT.eq_1 (And.intro @fa17Γ.eq_1 (And.intro @fa17E.eq_1 (And.intro @fa17P.eq_1 (And.intro @fa17F.eq_1 (@conPdqT.eq_1)))))) fa16_S
def conSrtT (Γ:List (FuncId×Con)):ECon:={ wp:=fun args hp K=>match args,hp with
 | [.s (.own (.cons (.int .i64) (.cons (.cons (.cons .bool (.cons (.slice (.int .i64)) .nil)) (.cons (.cons .bool (.cons (.slice (.int .i64)) .nil)) .nil)) .nil)) 0 n),.s (.fnp f caps)],[.arr al cs]=>True∧conPdqT_s Γ n f caps al cs K
 | _,_=>False }
theorem conSrtT_known:EffOk prog 122 (conSrtT gBef):=by
 refine effOkD (L:={ live:=[0,1,4] }) fa17_good rfl nr_mixed func122 rfl _ 2 (by decide) (by kernel_rfl) ?_
 intro args hp K hpre hlens
 simp only [conSrtT] at hpre
 split at hpre
 case h_2=>exact hpre.elim
 rename_i n f caps al cs
 obtain ⟨-,xs,cmp,⟨rfl,rfl,hn,hal,hc,ho⟩,hK⟩:=hpre
 refine ⟨rfl,?_⟩
 simp -dsimp -implicitDefEqProofs [f122,conPdqT,conPdqT_s,conLen_eq,fa17_all,faT,fa17Γ,fa17E,fa17P,fa17F,fa16Γ,fa16E,fa16P,fa16F,fa15Γ,fa15E,fa15P,fa15F,fa14Γ,fa14E,fa14P,fa14F,fa13Γ,fa13E,fa13P,fa13F,fa12Γ,fa12E,fa12P,fa12F,fa11Γ,fa11E,fa11P,fa11F,fa10Γ,fa10E,fa10P,fa10F,fa9Γ,fa9E,fa9P,fa9F,fa8Γ,fa8E,fa8P,fa8F,fa7Γ,fa7E,fa7P,fa7F,fa3Γ,fa3E,fa3P,fa3F,fa2Γ,fa2E,fa2P,fa2F,fa1Γ,fa1E,fa1P,fa1F,nr20Γ,nr20E,nr20P,nr20F,nr19Γ,nr19E,nr19P,nr19F,nr18Γ,nr18E,nr18P,nr18F,nr17Γ,nr17E,nr17P,nr17F,nr16Γ,nr16E,nr16P,nr16F,nr15Γ,nr15E,nr15P,nr15F,nr14Γ,nr14E,nr14P,nr14F,nr13Γ,nr13E,nr13P,nr13F,nr9Γ,nr9E,nr9P,nr9F,nr8Γ,nr8E,nr8P,nr8F,nr7Γ,nr7E,nr7P,nr7F,nr6Γ,nr6E,nr6P,nr6F,nr5Γ,nr5E,nr5P,nr5F,nr4Γ,nr4E,nr4P,nr4F,nr3Γ,nr3E,nr3P,nr3F,nr0Γ,nr0E,nr0P,nr0F,inI64,-Prod.exists]
 have hw:IntKind.u64.wrap (xs.length:Int)=xs.length:=by rw [IntKind.wrap_u64]; omega
 exact ⟨by rw [hw]; exact ⟨by omega,by omega⟩,xs,cmp,⟨rfl,rfl,hn,hal,hc,ho⟩,hK⟩
def conColTQ (It:List (FuncId×ItCon)):ECon:={ wp:=fun args hp K=>match args,hp with
 | [.s (.sl (.cons (.int .i64) (.cons (.cons (.cons .bool (.cons (.slice (.int .i64)) .nil)) (.cons (.cons .bool (.cons (.slice (.int .i64)) .nil)) .nil)) .nil)) [] true),.s (.fnp f caps)],[]=>∃ xs:List (Ty.T tTst),seqOf It f caps tTst xs∧xs.length≤1000000000∧K (.v (.s (.own tTst 0 xs.length))) [.arr (decide (0<xs.length)) (Ty.flats tTst xs)]
 | _,_=>False }
def conColT (It:List (FuncId×ItCon)):ECon:={ wp:=fun args hp K=>match args,hp with
 | [.s (.fnp f caps)],[]=>∃ xs:List (Ty.T tTst),seqOf It f caps tTst xs∧xs.length≤1000000000∧K (.v (.s (.own tTst 0 xs.length))) [.arr (decide (0<xs.length)) (Ty.flats tTst xs)]
 | _,_=>False }
theorem conColTQ_known (It:List (FuncId×ItCon)) (hIt:KnownIt prog It):EffOk prog 172 (conColTQ It):=by
 refine effOkD (L:={ live:=[0,1,2,4,5,6,7] }) fa13_good rfl nr_mixed func172 rfl _ 2 (by decide) (by kernel_rfl) ?_
 intro args hp K hpre hlens
 simp only [conColTQ] at hpre
 split at hpre
 ·
  rename_i f caps
  obtain ⟨xs,⟨ic,hic,hip,hix⟩,hlen,hK⟩:=hpre
  refine ⟨rfl,?_⟩
  simp -dsimp -implicitDefEqProofs [f172,fa13_all,faT,fa13Γ,fa13E,fa13P,fa13F,fa12Γ,fa12E,fa12P,fa12F,fa11Γ,fa11E,fa11P,fa11F,fa10Γ,fa10E,fa10P,fa10F,fa9Γ,fa9E,fa9P,fa9F,fa8Γ,fa8E,fa8P,fa8F,fa7Γ,fa7E,fa7P,fa7F,fa3Γ,fa3E,fa3P,fa3F,fa2Γ,fa2E,fa2P,fa2F,fa1Γ,fa1E,fa1P,fa1F,nr20Γ,nr20E,nr20P,nr20F,nr19Γ,nr19E,nr19P,nr19F,nr18Γ,nr18E,nr18P,nr18F,nr17Γ,nr17E,nr17P,nr17F,nr16Γ,nr16E,nr16P,nr16F,nr15Γ,nr15E,nr15P,nr15F,nr14Γ,nr14E,nr14P,nr14F,nr13Γ,nr13E,nr13P,nr13F,nr9Γ,nr9E,nr9P,nr9F,nr8Γ,nr8E,nr8P,nr8F,nr7Γ,nr7E,nr7P,nr7F,nr6Γ,nr6E,nr6P,nr6F,nr5Γ,nr5E,nr5P,nr5F,nr4Γ,nr4E,nr4P,nr4F,nr3Γ,nr3E,nr3P,nr3F,nr0Γ,nr0E,nr0P,nr0F,inI64]
  refine Wp.turn (Turn.virtBox (b:=0) (off:=0) (bc:=[.sl tTst [] true]) (t:=tTst) (xs:=[]) (by simp -dsimp -implicitDefEqProofs) (by simp)) ?_
  refine WpD.rangeFunc (L:={ live:=[0,1,2,4,5,6,7] }) (d:=⟨⟩) fa13_good nr_mixed rfl rfl f caps (by simp -dsimp -implicitDefEqProofs) ic (hIt f ic hic) hip (by decide) (by kernel_rfl) (by kernel_rfl) (by intro a b c d; simp -dsimp -implicitDefEqProofs)
   (fun t hp=>hp=[.cells [.own tTst 1 t],.arr (decide (0<t)) (Ty.flats tTst (xs.take t))]) (by simp) ?_ ?_
  ·
   intro t args hp hx hR
   subst hR
   rw [hix] at hx
   obtain ⟨hlt,rfl⟩:=take_map_av xs t hx
   have hmin:min t xs.length=t:=by omega
   have htk:=take_succ_get xs hlt (Ty.dflt tTst)
   rw [getD_lt hlt] at htk
   simp -dsimp -implicitDefEqProofs [hmin,fa13_all,faT,fa13Γ,fa13E,fa13P,fa13F,fa12Γ,fa12E,fa12P,fa12F,fa11Γ,fa11E,fa11P,fa11F,fa10Γ,fa10E,fa10P,fa10F,fa9Γ,fa9E,fa9P,fa9F,fa8Γ,fa8E,fa8P,fa8F,fa7Γ,fa7E,fa7P,fa7F,fa3Γ,fa3E,fa3P,fa3F,fa2Γ,fa2E,fa2P,fa2F,fa1Γ,fa1E,fa1P,fa1F,nr20Γ,nr20E,nr20P,nr20F,nr19Γ,nr19E,nr19P,nr19F,nr18Γ,nr18E,nr18P,nr18F,nr17Γ,nr17E,nr17P,nr17F,nr16Γ,nr16E,nr16P,nr16F,nr15Γ,nr15E,nr15P,nr15F,nr14Γ,nr14E,nr14P,nr14F,nr13Γ,nr13E,nr13P,nr13F,nr9Γ,nr9E,nr9P,nr9F,nr8Γ,nr8E,nr8P,nr8F,nr7Γ,nr7E,nr7P,nr7F,nr6Γ,nr6E,nr6P,nr6F,nr5Γ,nr5E,nr5P,nr5F,nr4Γ,nr4E,nr4P,nr4F,nr3Γ,nr3E,nr3P,nr3F,nr0Γ,nr0E,nr0P,nr0F,inI64]
   have hmin':min (t+1) xs.length=t+1:=by omega
   refine ⟨⟨by omega,by simp only [maxLen]; omega⟩,?_⟩
   first
    | exact ⟨hmin',TrT.refl _ _⟩
    | exact TrT.refl _ _
    | (rw [htk]; exact TrT.drop (hp:=[_,_]) (junk:=[_]) (by simp) (by simp only [List.length_cons,List.length_nil,List.all_cons,List.all_nil,arr_below,Bool.and_true]; simp [Blk.below,SV.below]))
  ·
   intro hp hR
   subst hR
   rw [hix,List.length_map]
   simp -dsimp -implicitDefEqProofs [fa13_all,faT,fa13Γ,fa13E,fa13P,fa13F,fa12Γ,fa12E,fa12P,fa12F,fa11Γ,fa11E,fa11P,fa11F,fa10Γ,fa10E,fa10P,fa10F,fa9Γ,fa9E,fa9P,fa9F,fa8Γ,fa8E,fa8P,fa8F,fa7Γ,fa7E,fa7P,fa7F,fa3Γ,fa3E,fa3P,fa3F,fa2Γ,fa2E,fa2P,fa2F,fa1Γ,fa1E,fa1P,fa1F,nr20Γ,nr20E,nr20P,nr20F,nr19Γ,nr19E,nr19P,nr19F,nr18Γ,nr18E,nr18P,nr18F,nr17Γ,nr17E,nr17P,nr17F,nr16Γ,nr16E,nr16P,nr16F,nr15Γ,nr15E,nr15P,nr15F,nr14Γ,nr14E,nr14P,nr14F,nr13Γ,nr13E,nr13P,nr13F,nr9Γ,nr9E,nr9P,nr9F,nr8Γ,nr8E,nr8P,nr8F,nr7Γ,nr7E,nr7P,nr7F,nr6Γ,nr6E,nr6P,nr6F,nr5Γ,nr5E,nr5P,nr5F,nr4Γ,nr4E,nr4P,nr4F,nr3Γ,nr3E,nr3P,nr3F,nr0Γ,nr0E,nr0P,nr0F,inI64]
   exact hK
 ·
  exact hpre.elim
theorem conColT_known (It:List (FuncId×ItCon)) (hIt:KnownIt prog It):EffOk prog 121 (conColT It):=by
 have hg:G.good prog { τ:=faT,Γ:=[],E:=[(172,conColTQ It)] }:=good_of_all (faT_ok _ rfl) (fun p hp=>by cases hp) (fun p hp=>by simp only [List.mem_singleton] at hp; subst hp; exact ⟨enters_of func172 (by kernel_rfl) rfl,conColTQ_known It hIt⟩) (fun p hp=>by cases hp) (fun p hp=>by cases hp)
 refine effOkD (L:={ live:=[0,2] }) hg rfl nr_mixed func121 rfl _ 1 (by decide) (by kernel_rfl) ?_
 intro args hp K hpre hlens
 simp only [conColT] at hpre
 split at hpre
 ·
  rename_i f caps
  refine ⟨rfl,?_⟩
  simp -dsimp -implicitDefEqProofs [f121,conColTQ,faT,G.td,inI64]
  exact hpre
 ·
  exact hpre.elim
def fa18Γ:=fa17Γ
theorem fa18Γ_ok:OkΓ fa18Γ:=fa17Γ_ok
def fa18E:List (FuncId×ECon):=(122,(conSrtT gBef))::(121,(conColT itsValT))::fa17E
theorem fa18E_ok:OkE fa18E:=by
 simp only [OkE,fa18E,List.forall_mem_cons]
 exact ⟨⟨enters_of func122 (by kernel_rfl) rfl,conSrtT_known⟩,⟨enters_of func121 (by kernel_rfl) rfl,(conColT_known itsValT itsValT_known)⟩,fa17E_ok⟩
def fa18P:=fa17P
theorem fa18P_ok:OkP fa18P:=fa17P_ok
def fa18F:=fa17F
theorem fa18F_ok:OkF fa18F:=fa17F_ok
def fa18:G:={ τ:=faT,Γ:=fa18Γ,E:=fa18E,Pn:=fa18P,E2:=fa18F }
theorem fa18_good:fa18.good prog:=good_of_all (faT_ok _ rfl) fa18Γ_ok fa18E_ok fa18P_ok fa18F_ok
theorem fa18_all:(∀ t,fa18.td t=(look faT t).getD .other)∧fa18.y=false∧fa18.Γ=fa18Γ∧fa18.E=fa18E∧fa18.Pn=fa18P∧fa18.E2=fa18F∧fa18.fz=[]∧fa18.te=false∧fa18.bo=false∧fa18.pm=false:=⟨fun _=>rfl,rfl,rfl,rfl,rfl,rfl,rfl,rfl,rfl,rfl⟩
def fa18_S:=And.intro (And.intro @faT.eq_1 (And.intro @fa18Γ.eq_1 (And.intro @fa18E.eq_1 (And.intro @fa18P.eq_1 (And.intro @fa18F.eq_1 (And.intro @conSrtT.eq_1 (@conColT.eq_1))))))) fa17_S
def conSofT (It:List (FuncId×ItCon)) (Γ:List (FuncId×Con)):ECon:={ wp:=fun args hp K=>match args,hp with
 | [.s (.fnp f1 caps1),.s (.fnp f2 caps2)],[]=>∃ (xs:List (Ty.T tTst)) (cmp:Ty.T tTst→Ty.T tTst→Int),(seqOf It f1 caps1 tTst xs∧xs.length≤12∧cmpTo Γ tTst f2 caps2 cmp (·∈xs)∧Ordr (·∈xs) cmp) ∧
   ∀ ys:List (Ty.T tTst),ys.Perm xs→ys.Pairwise (fun x y=>cmp x y≤0)→K (.v (.s (.own tTst 0 xs.length))) [.arr (decide (0<xs.length)) (Ty.flats tTst ys)]
 | _,_=>False }
theorem conSofT_known:EffOk prog 76 (conSofT itsValT gBef):=by
 refine effOkD (L:={ live:=[0,1,4,5] }) fa18_good rfl nr_mixed func76 rfl _ 2 (by decide) (by kernel_rfl) ?_
 intro args hp K hpre hlens
 simp only [conSofT] at hpre
 split at hpre
 case h_2=>exact hpre.elim
 rename_i f1 caps1 f2 caps2
 obtain ⟨xs,cmp,⟨hs,hn,hc,ho⟩,hK⟩:=hpre
 refine ⟨rfl,?_⟩
 simp -dsimp -implicitDefEqProofs [f76,conSrtT,conPdqT_s,conColT,fa18_all,faT,fa18Γ,fa18E,fa18P,fa18F,fa17Γ,fa17E,fa17P,fa17F,fa16Γ,fa16E,fa16P,fa16F,fa15Γ,fa15E,fa15P,fa15F,fa14Γ,fa14E,fa14P,fa14F,fa13Γ,fa13E,fa13P,fa13F,fa12Γ,fa12E,fa12P,fa12F,fa11Γ,fa11E,fa11P,fa11F,fa10Γ,fa10E,fa10P,fa10F,fa9Γ,fa9E,fa9P,fa9F,fa8Γ,fa8E,fa8P,fa8F,fa7Γ,fa7E,fa7P,fa7F,fa3Γ,fa3E,fa3P,fa3F,fa2Γ,fa2E,fa2P,fa2F,fa1Γ,fa1E,fa1P,fa1F,nr20Γ,nr20E,nr20P,nr20F,nr19Γ,nr19E,nr19P,nr19F,nr18Γ,nr18E,nr18P,nr18F,nr17Γ,nr17E,nr17P,nr17F,nr16Γ,nr16E,nr16P,nr16F,nr15Γ,nr15E,nr15P,nr15F,nr14Γ,nr14E,nr14P,nr14F,nr13Γ,nr13E,nr13P,nr13F,nr9Γ,nr9E,nr9P,nr9F,nr8Γ,nr8E,nr8P,nr8F,nr7Γ,nr7E,nr7P,nr7F,nr6Γ,nr6E,nr6P,nr6F,nr5Γ,nr5E,nr5P,nr5F,nr4Γ,nr4E,nr4P,nr4F,nr3Γ,nr3E,nr3P,nr3F,nr0Γ,nr0E,nr0P,nr0F,inI64,-Prod.exists]
 refine ⟨xs,hs,by omega,xs,cmp,⟨rfl,rfl,hn,?_,hc,ho⟩,hK⟩
 cases xs <;> simp
def fa19Γ:List (FuncId×Con):=(77,conValT)::fa18Γ
theorem fa19Γ_ok:OkΓ fa19Γ:=by
 simp only [OkΓ,fa19Γ,List.forall_mem_cons]
 exact ⟨⟨enters_of func77 (by kernel_rfl) rfl,conValT_ok⟩,fa18Γ_ok⟩
def fa19E:List (FuncId×ECon):=(76,(conSofT itsValT gBef))::fa18E
theorem fa19E_ok:OkE fa19E:=by
 simp only [OkE,fa19E,List.forall_mem_cons]
 exact ⟨⟨enters_of func76 (by kernel_rfl) rfl,conSofT_known⟩,fa18E_ok⟩
def fa19P:=fa18P
theorem fa19P_ok:OkP fa19P:=fa18P_ok
def fa19F:=fa18F
theorem fa19F_ok:OkF fa19F:=fa18F_ok
def fa19:G:={ τ:=faT,Γ:=fa19Γ,E:=fa19E,Pn:=fa19P,E2:=fa19F }
theorem fa19_good:fa19.good prog:=good_of_all (faT_ok _ rfl) fa19Γ_ok fa19E_ok fa19P_ok fa19F_ok
theorem fa19_all:(∀ t,fa19.td t=(look faT t).getD .other)∧fa19.y=false∧fa19.Γ=fa19Γ∧fa19.E=fa19E∧fa19.Pn=fa19P∧fa19.E2=fa19F∧fa19.fz=[]∧fa19.te=false∧fa19.bo=false∧fa19.pm=false:=⟨fun _=>rfl,rfl,rfl,rfl,rfl,rfl,rfl,rfl,rfl,rfl⟩
def fa19_S:=And.intro (And.intro @faT.eq_1 (And.intro @fa19Γ.eq_1 (And.intro @fa19E.eq_1 (And.intro @fa19P.eq_1 (And.intro @fa19F.eq_1 (And.intro @conValT_pre (And.intro @conValT_val (@conSofT.eq_1)))))))) fa18_S
theorem nos_inj {l:List tTst.T} (h:(nosL l).Nodup) {a b:tTst.T} (ha:a∈l) (hb:b∈l) (e:a.1=b.1):a=b:=by
 obtain ⟨i,hi,rfl⟩:=List.mem_iff_getElem.1 ha
 obtain ⟨j,hj,rfl⟩:=List.mem_iff_getElem.1 hb
 have hl:=nosL_len l
 have key:∀ k (hk:k<l.length),(nosL l)[k]'(by omega)=l[k].1:=fun k hk=>by simp [nosL]
 have e2:(nosL l)[i]'(by omega)=(nosL l)[j]'(by omega):=by rw [key i hi,key j hj]; exact e
 rcases Nat.lt_trichotomy i j with hij | hij | hij
 ·
  exact absurd e2 (List.pairwise_iff_getElem.1 h i j (by omega) (by omega) hij)
 ·
  subst hij; rfl
 ·
  exact absurd e2.symm (List.pairwise_iff_getElem.1 h j i (by omega) (by omega) hij)
def sortT (l:List tTst.T):List tTst.T:=@dite _ (∃ ys:List tTst.T,ys.Perm l∧ys.Pairwise (fun x y=>befT x y≤0)) (Classical.propDecidable _) (fun h=>Classical.choose h) (fun _=>[])
theorem sortT_eq {l ys:List tTst.T} (hd:∀ x∈l,okT x) (hn:(nosL l).Nodup) (hp:ys.Perm l) (hs:ys.Pairwise (fun x y=>befT x y≤0)):ys=sortT l:=by
 have h:∃ ys:List tTst.T,ys.Perm l∧ys.Pairwise (fun x y=>befT x y≤0):=⟨ys,hp,hs⟩
 unfold sortT
 rw [dif_pos h]
 obtain ⟨q1,q2⟩:=Classical.choose_spec h
 refine List.Perm.eq_of_pairwise (fun a b ha hb h1 h2 => ?_) hs q2 (hp.trans q1.symm)
 have ia:=hp.mem_iff.1 ha
 have ib:=q1.mem_iff.1 hb
 have:=ordr_befT.anti a b (hd a ia) (hd b ib)
 exact nos_inj hn ia ib (befT_zero (by omega))
def conSrtd:Con:=⟨fun args=>(match args with
 | [.s (.sl (.cons (.int .i64) (.cons (.cons (.cons .bool (.cons (.slice (.int .i64)) .nil)) (.cons (.cons .bool (.cons (.slice (.int .i64)) .nil)) .nil)) .nil)) l _)]=>l.length≤12∧(∀ x∈l,okT x)∧(nosL l).Nodup
 | _=>False),fun args=>match args with
 | [.s (.sl (.cons (.int .i64) (.cons (.cons (.cons .bool (.cons (.slice (.int .i64)) .nil)) (.cons (.cons .bool (.cons (.slice (.int .i64)) .nil)) .nil)) .nil)) l _)]=>.v (aS tTst (sortT l) false)
 | _=>.v (.s .any)⟩
theorem conSrtd_eq (l:List (Ty.T tTst)) (exl:Bool):conSrtd.pre [.s (.sl tTst l exl)]=(l.length≤12∧(∀ x∈l,okT x)∧(nosL l).Nodup)∧conSrtd.val [.s (.sl tTst l exl)]=.v (aS tTst (sortT l) false):=⟨rfl,rfl⟩
theorem srtd_ok:PureOk prog 35 conSrtd:=by
 refine pureOkD (L:={ live:=[0,2] }) fa19_good rfl nr_mixed func35 rfl conSrtd 1 (by decide) (by kernel_rfl) ?_
 intro args hpre hlens
 simp only [conSrtd] at hpre
 split at hpre
 case h_2=>exact hpre.elim
 rename_i l el
 simp only [lenS] at hlens
 refine ⟨rfl,?_⟩
 simp -dsimp -implicitDefEqProofs [f35,conSrtd_eq,conSofT,-Prod.exists,-Prod.forall,-Bool.forall_bool,-Bool.exists_bool,fa19_all,fa19_S,inI64]
 obtain ⟨h1,h2,h3⟩:=hpre
 refine ⟨l,befT,⟨seqValT l,h1,bef_cmpTo h2,ordr_befT.mono h2⟩,fun ys hp hs => ?_⟩
 have hl:=hp.length_eq
 have hpa:Ty.parses tTst l.length (Ty.flats tTst ys)=some ys:=parses_flats' hl
 rw [← sortT_eq h2 h3 hp hs]
 refine ⟨[aS tTst ys false],?_,rfl⟩
 rw [if_pos (by rw [hl]),hpa]
 rfl
theorem sortT_spec {l:List tTst.T} (hd:∀ x∈l,okT x):(sortT l).Perm l∧(sortT l).Pairwise (fun x y=>befT x y≤0):=by
 have h:=exists_sorted ordr_befT l hd
 unfold sortT
 rw [dif_pos h]
 exact Classical.choose_spec h
def fcT:List (TypeId×TD):=[(3,.sc tI),(4,.sc .bool),(9,.sc .str),(22,.slice 52 tTst 72),(52,.struct tTst),(119,.slice 22 (.slice tTst) 24)]
theorem fcT_ok (g:G) (hg:g.τ=fcT):G.ok prog g:=by
 refine ok_of_all ?_
 rw [hg]
 simp only [fcT,List.forall_mem_cons]
 exact ⟨⟨by kernel_rfl,rfl,by kernel_rfl,rfl⟩,
 ⟨by kernel_rfl,rfl,by kernel_rfl,rfl⟩,
 ⟨by kernel_rfl,rfl,by kernel_rfl,rfl⟩,
 ⟨by kernel_rfl,by decide,by kernel_rfl,⟨cellsV (Ty.zcells tTst),by kernel_rfl,by kernel_rfl,by kernel_rfl⟩,by kernel_rfl⟩,
 ⟨fieldsOf prog 52,by kernel_rfl,by kernel_rfl,by kernel_rfl,by decide,by kernel_rfl⟩,
 ⟨by kernel_rfl,by decide,by kernel_rfl,⟨cellsV (Ty.zcells (.slice tTst)),by kernel_rfl,by kernel_rfl,by kernel_rfl⟩,by kernel_rfl⟩,by simp⟩
theorem fc_mixed:prog.follows .mixedOrders=true:=by kernel_rfl
def fc0Γ:List (FuncId×Con):=[]
theorem fc0Γ_ok:OkΓ fc0Γ:=by simp [fc0Γ]
def fc0E:List (FuncId×ECon):=[]
theorem fc0E_ok:OkE fc0E:=by simp [fc0E]
def fc0P:List (FuncId×PCon):=[]
theorem fc0P_ok:OkP fc0P:=by simp [fc0P]
def fc0F:List (FuncId×ECon2):=[]
theorem fc0F_ok:OkF fc0F:=by simp [fc0F]
def fc0:G:={ τ:=fcT,Γ:=fc0Γ,E:=fc0E,Pn:=fc0P,E2:=fc0F }
theorem fc0_good:fc0.good prog:=good_of_all (fcT_ok _ rfl) fc0Γ_ok fc0E_ok fc0P_ok fc0F_ok
theorem fc0_all:(∀ t,fc0.td t=(look fcT t).getD .other)∧fc0.y=false∧fc0.Γ=fc0Γ∧fc0.E=fc0E∧fc0.Pn=fc0P∧fc0.E2=fc0F∧fc0.fz=[]∧fc0.te=false∧fc0.bo=false∧fc0.pm=false:=⟨fun _=>rfl,rfl,rfl,rfl,rfl,rfl,rfl,rfl,rfl,rfl⟩
def fc0_S:=And.intro @fcT.eq_1 (And.intro @fc0Γ.eq_1 (And.intro @fc0E.eq_1 (And.intro @fc0P.eq_1 (@fc0F.eq_1))))
def conGrT:ECon:={ wp:=fun args hp K=>match args,hp with
 | [.s (.sl (.cons (.int .i64) (.cons (.cons (.cons .bool (.cons (.slice (.int .i64)) .nil)) (.cons (.cons .bool (.cons (.slice (.int .i64)) .nil)) .nil)) .nil)) [] true),.s (.int .i64 n)],[]=>(0≤n∧n≤1000000)∧(n=0→K (.v (.s (.sl tTst [] true))) [])∧(0<n→K (.v (.s (.pre tTst 0 n.toNat 0))) [.arr true (Ty.flats tTst (List.replicate n.toNat (Ty.dflt tTst)))])
 | _,_=>False }
theorem conGrT_ok:EffOk prog 81 conGrT:=by
 refine effOkD (L:={ live:=[0,1,4,6,16] }) fc0_good rfl fc_mixed func81 rfl conGrT 2 (by decide) (by kernel_rfl) ?_
 intro args hp K hpre hlens
 simp only [conGrT] at hpre
 split at hpre
 case h_2=>exact hpre.elim
 rename_i n
 obtain ⟨⟨h0,h1⟩,hK0,hK1⟩:=hpre
 refine ⟨rfl,?_⟩
 simp -dsimp -implicitDefEqProofs [f81,fc0_all,fc0_S,inI64]
 exact ⟨h0,fun _=>⟨⟨by omega,by omega⟩,fun hn=>⟨⟨hn,by omega,by simp only [maxLen]; omega⟩,by omega,hK1 hn⟩,fun hn=>hK0 (by omega)⟩⟩
def fc1Γ:=fc0Γ
theorem fc1Γ_ok:OkΓ fc1Γ:=fc0Γ_ok
def fc1E:List (FuncId×ECon):=(81,conGrT)::fc0E
theorem fc1E_ok:OkE fc1E:=by
 simp only [OkE,fc1E,List.forall_mem_cons]
 exact ⟨⟨enters_of func81 (by kernel_rfl) rfl,conGrT_ok⟩,fc0E_ok⟩
def fc1P:=fc0P
theorem fc1P_ok:OkP fc1P:=fc0P_ok
def fc1F:=fc0F
theorem fc1F_ok:OkF fc1F:=fc0F_ok
def fc1:G:={ τ:=fcT,Γ:=fc1Γ,E:=fc1E,Pn:=fc1P,E2:=fc1F }
theorem fc1_good:fc1.good prog:=good_of_all (fcT_ok _ rfl) fc1Γ_ok fc1E_ok fc1P_ok fc1F_ok
theorem fc1_all:(∀ t,fc1.td t=(look fcT t).getD .other)∧fc1.y=false∧fc1.Γ=fc1Γ∧fc1.E=fc1E∧fc1.Pn=fc1P∧fc1.E2=fc1F∧fc1.fz=[]∧fc1.te=false∧fc1.bo=false∧fc1.pm=false:=⟨fun _=>rfl,rfl,rfl,rfl,rfl,rfl,rfl,rfl,rfl,rfl⟩
def fc1_S:=And.intro (And.intro @fcT.eq_1 (And.intro @fc1Γ.eq_1 (And.intro @fc1E.eq_1 (And.intro @fc1P.eq_1 (And.intro @fc1F.eq_1 (@conGrT.eq_1)))))) fc0_S
def conCT_len (xs:List (List (Ty.T tTst))) (i:Nat):Nat:=(xs.take i).flatten.length
theorem conCT_take {xs:List (List (Ty.T tTst))} {i:Nat} (h:i<xs.length):(xs.take (i+1)).flatten=(xs.take i).flatten++xs[i]:=by
 rw [List.take_add_one,List.flatten_append,List.getElem?_eq_getElem h]
 simp
theorem conCT_succ {xs:List (List (Ty.T tTst))} {i:Nat} (h:i<xs.length):conCT_len xs (i+1)=conCT_len xs i+xs[i].length:=by
 unfold conCT_len
 rw [conCT_take h,List.length_append]
theorem conCT_le {xs:List (List (Ty.T tTst))} (i:Nat):conCT_len xs i≤xs.flatten.length:=by
 unfold conCT_len
 conv=>rhs; rw [← List.take_append_drop i xs,List.flatten_append,List.length_append]
 omega
def conCT:Con:=⟨fun args=>(match args with
 | [.s (.sl (.slice (.cons (.int .i64) (.cons (.cons (.cons .bool (.cons (.slice (.int .i64)) .nil)) (.cons (.cons .bool (.cons (.slice (.int .i64)) .nil)) .nil)) .nil))) xs _)]=>xs.length≤1000∧xs.flatten.length≤1000000
 | _=>False),fun args=>match args with
 | [.s (.sl (.slice (.cons (.int .i64) (.cons (.cons (.cons .bool (.cons (.slice (.int .i64)) .nil)) (.cons (.cons .bool (.cons (.slice (.int .i64)) .nil)) .nil)) .nil))) xs _)]=>.v (.s (.sl tTst xs.flatten false))
 | _=>.v (.s .any)⟩
theorem conCT_pre (xs:List (List (Ty.T tTst))) (ex:Bool):conCT.pre [.s (.sl (.slice tTst) xs ex)]=(xs.length≤1000∧xs.flatten.length≤1000000):=rfl
theorem conCT_val (xs:List (List (Ty.T tTst))) (ex:Bool):conCT.val [.s (.sl (.slice tTst) xs ex)]=.v (.s (.sl tTst xs.flatten false)):=rfl
theorem conCT_ok:PureOk prog 36 conCT:=by
 refine pureOkD (L:={ live:=[0,2,3,5,6,8,9,10,11,12,20,25,26,27,28] }) fc1_good rfl fc_mixed func36 rfl conCT 1 (by decide) (by kernel_rfl) ?_
 intro args hpre hlens
 simp only [conCT] at hpre
 split at hpre
 case h_2=>exact hpre.elim
 rename_i xs ex
 simp only [lenS] at hlens
 refine ⟨rfl,?_⟩
 simp -dsimp -implicitDefEqProofs [f36,conCT_val,conCT_val,fc1_all,fc1_S,inI64]
 obtain ⟨hxl,hfl⟩:=hpre
 obtain ⟨xs,rfl⟩:∃ ys:List (List (Ty.T tTst)),ys=xs:=⟨xs,rfl⟩
 refine WpD.loop (L:={ live:=[0,2,3,5,6,8,9,10,11,12,20,25,26,27,28] }) fc1_good X0_ok fc_mixed (by kernel_rfl)
  (fun i:Nat=>⟨[(0,vS (.slice tTst) xs ex),(3,vI (conCT_len xs i)),(9,vS (.slice tTst) xs ex),(10,vI xs.length),(11,vI i)],[]⟩)
  (fun i=>i≤xs.length) (fun i=>xs.length - i) 0 (Nat.zero_le _) (Turn.le (by simp -dsimp -implicitDefEqProofs [conCT_len])) ?_
 intro i hi
 have hle:=conCT_le (xs:=xs) i
 rcases Nat.lt_or_ge i xs.length with hil | hge
 ·
  have e2:=conCT_succ hil
  have hle1:=conCT_le (xs:=xs) (i+1)
  have e3:((conCT_len xs i:Nat):Int)+(List.length xs[i]:Int)=((conCT_len xs (i+1):Nat):Int):=by rw [e2]; omega
  simp -dsimp -implicitDefEqProofs [hil,e3,fc1_all,fc1_S,inI64]
  exact ⟨by omega,⟨by omega,by omega⟩,i+1,by omega,by omega,TurnT.le (by simp -dsimp -implicitDefEqProofs)⟩
 ·
  have hn:¬ i<xs.length:=by omega
  obtain rfl:i=xs.length:=by omega
  obtain ⟨N,hN⟩:∃ N,N=xs.flatten.length:=⟨_,rfl⟩
  have hall:conCT_len xs xs.length=N:=by unfold conCT_len; rw [List.take_length,hN]
  simp -dsimp -implicitDefEqProofs [hn,hall,fc1_all,fc1_S,inI64]
  refine ⟨by omega,fun h0 => ?_,fun h0 => ?_⟩
  ·
   refine WpD.loop (L:={ live:=[0,2,3,5,6,8,9,10,11,12,20,25,26,27,28] }) fc1_good X0_ok fc_mixed (by kernel_rfl)
    (fun i:Nat=>if i=0 then ⟨[(0,vS (.slice tTst) xs ex),(6,vS tTst [] true),(25,vS (.slice tTst) xs ex),(26,vI xs.length),(27,vI 0)],[]⟩ else ⟨[(0,vS (.slice tTst) xs ex),(6,⟨true,.v (.s (.own tTst 0 0))⟩),(25,vS (.slice tTst) xs ex),(26,vI xs.length),(27,vI i)],[.arr false (Ty.flats tTst [])]⟩)
    (fun i=>i≤xs.length) (fun i=>xs.length - i) 0 (Nat.zero_le _) (Turn.le (by simp -dsimp -implicitDefEqProofs)) ?_
   intro i hi
   have hz:∀ l∈xs,l=[]:=by
    intro l hl
    have:l.length≤xs.flatten.length:=(List.sublist_flatten_of_mem hl).length_le
    exact List.length_eq_zero_iff.1 (by omega)
   rcases Nat.lt_or_ge i xs.length with hil | hge
   ·
    have e1:=hz _ (List.getElem_mem hil)
    rcases Nat.eq_zero_or_pos i with rfl | hp
    ·
     simp -dsimp -implicitDefEqProofs [hil,e1,fc1_all,fc1_S,inI64]
     exact ⟨1,by omega,by omega,TurnT.le (by simp -dsimp -implicitDefEqProofs)⟩
    ·
     have hp0:¬ i=0:=by omega
     simp -dsimp -implicitDefEqProofs [hil,e1,hp0,fc1_all,fc1_S,inI64]
     refine ⟨⟨by omega,by omega⟩,i+1,by omega,by omega,?_⟩
     rw [if_neg (by omega)]
     exact TurnT.le (by simp -dsimp -implicitDefEqProofs)
   ·
    have hn:¬ i<xs.length:=by omega
    have hfe:xs.flatten=[]:=List.eq_nil_of_length_eq_zero (by omega)
    rcases Nat.eq_zero_or_pos i with rfl | hp
    ·
     simp -dsimp -implicitDefEqProofs [hn,fc1_all,fc1_S,inI64]
     rw [conCT_val,hfe]
    ·
     have hp0:¬ i=0:=by omega
     simp -dsimp -implicitDefEqProofs [hn,hp0,fc1_all,fc1_S,inI64]
     rw [conCT_val,hfe]
  ·
   refine WpD.loop (L:={ live:=[0,2,3,5,6,8,9,10,11,12,20,25,26,27,28] }) fc1_good X0_ok fc_mixed (by kernel_rfl)
    (fun i:Nat=>if i=0 then ⟨[(0,vS (.slice tTst) xs ex),(6,⟨true,.v (.s (.pre tTst 0 N 0))⟩),(25,vS (.slice tTst) xs ex),(26,vI xs.length),(27,vI 0)],[.arr true (Ty.flats tTst (List.replicate N (Ty.dflt tTst)))]⟩ else ⟨[(0,vS (.slice tTst) xs ex),(6,⟨true,.v (.s (.own tTst 1 (conCT_len xs i)))⟩),(25,vS (.slice tTst) xs ex),(26,vI xs.length),(27,vI i)],[.dead,.arr true (Ty.flats tTst (xs.take i).flatten)]⟩)
    (fun i=>i≤xs.length) (fun i=>xs.length - i) 0 (Nat.zero_le _) (Turn.le (by simp -dsimp -implicitDefEqProofs)) ?_
   intro i hi
   rcases Nat.lt_or_ge i xs.length with hil | hge
   ·
    have e2:=conCT_succ hil
    have hle1:=conCT_le (xs:=xs) (i+1)
    have hle0:=conCT_le (xs:=xs) i
    have hl:(xs.take i).flatten.length=conCT_len xs i:=rfl
    rcases Nat.eq_zero_or_pos i with rfl | hp
    ·
     simp -dsimp -implicitDefEqProofs [hil,hl,-List.length_flatten,fc1_all,fc1_S,inI64]
     have z0:conCT_len xs 0=0:=rfl
     have z1:conCT_len xs 1=xs[0].length:=by rw [e2,z0,Nat.zero_add]
     have z2:(xs.take 1).flatten=xs[0]:=by have:=conCT_take hil; simpa using this
     refine ⟨⟨by omega,by simp only [maxLen]; omega⟩,1,by omega,by omega,?_⟩
     rw [if_neg (by omega),z1,z2]
     exact TurnT.le (by simp -dsimp -implicitDefEqProofs)
    ·
     have hp0:¬ i=0:=by omega
     simp -dsimp -implicitDefEqProofs [hil,hp0,hl,-List.length_flatten,fc1_all,fc1_S,inI64]
     refine ⟨⟨by omega,by simp only [maxLen]; omega⟩,⟨by omega,by omega⟩,i+1,by omega,by omega,?_⟩
     rw [if_neg (by omega),e2,conCT_take hil]
     exact TurnT.le (by simp -dsimp -implicitDefEqProofs)
   ·
    have hn:¬ i<xs.length:=by omega
    have hp0:¬ i=0:=by
     intro e
     obtain rfl:=List.eq_nil_of_length_eq_zero (show xs.length=0 by omega)
     simp at hN
     omega
    obtain rfl:i=xs.length:=by omega
    have hta:xs.take xs.length=xs:=List.take_length
    have hpa:Ty.parses tTst N (Ty.flats tTst xs.flatten)=some xs.flatten:=parses_flats' hN.symm
    simp -dsimp -implicitDefEqProofs [hn,hp0,hall,hta,hpa,hN.symm,conCT_val,-List.length_flatten,fc1_all,fc1_S,inI64]
def fitF (n:Int) (x:tTst.T) (a:tRat.T):Bool:=fitB n x.2.1.1.1 x.2.1.1.2.1 x.2.1.2.1.2.1 a.1.1 a.1.2.1 a.2.1.2.1
def leadF (a:tRat.T):Nat→List tTst.T→List tTst.T
 | _,[]=>[]
 | n,x::r=>if fitF n x a=true then x::leadF a (n - 1) r else []
theorem lead_split {a:tRat.T}:∀ (i n:Nat) (s:List tTst.T),i≤s.length→(∀ j (h:j<s.length),j<i→fitF ((n - j:Nat):Int) s[j] a=true)→leadF a n s=s.take i++leadF a (n - i) (s.drop i)
 | 0,n,s,_,_=>by simp
 | i+1,n,[],h,_=>by simp at h
 | i+1,n,x::s,h,hf=>by
  have h0:fitF (n:Int) x a=true:=by have:=hf 0 (by simp) (by omega); simpa using this
  rw [leadF,if_pos h0,List.take_succ_cons,List.drop_succ_cons,List.cons_append,lead_split i (n - 1) s (by simpa using h) (fun j hj hji=>by
   have:=hf (j+1) (by simpa using hj) (by omega)
   rw [show n - (j+1)=n - 1 - j by omega] at this
   simpa using this)]
  congr 3
  omega
theorem lead_get {a:tRat.T} {i n:Nat} {s:List tTst.T} (hi:i<s.length) (h:∀ j (h:j<s.length),j<i→fitF ((n - j:Nat):Int) s[j] a=true) (hf:fitF ((n - i:Nat):Int) s[i] a=true):(leadF a n s)[i]?=some s[i]:=by
 rw [lead_split i n s (by omega) h,List.getElem?_append_right (by rw [List.length_take]; omega),List.length_take,Nat.min_eq_left (by omega),Nat.sub_self,List.drop_eq_getElem_cons hi,leadF,if_pos hf]
 rfl
theorem lead_end {a:tRat.T} {i n:Nat} {s:List tTst.T} (hi:i<s.length) (h:∀ j (h:j<s.length),j<i→fitF ((n - j:Nat):Int) s[j] a=true) (hf:fitF ((n - i:Nat):Int) s[i] a=false):(leadF a n s).length=i:=by
 rw [lead_split i n s (by omega) h,List.drop_eq_getElem_cons hi,leadF,if_neg (by rw [hf]; decide),List.append_nil,List.length_take]
 omega
theorem lead_all {a:tRat.T} {n:Nat} {s:List tTst.T} (h:∀ j (h:j<s.length),j<s.length→fitF ((n - j:Nat):Int) s[j] a=true):(leadF a n s).length=s.length:=by
 rw [lead_split s.length n s (by omega) h]
 simp [leadF]
def findL (l:List tTst.T) (a:tRat.T):List Int:=nosL (leadF a l.length (sortT l))
def aokR (a:tRat.T):Prop:=okS a.1.1 a.1.2.1 a.2.1.1 a.2.1.2.1
abbrev tRf:Ty:=.cons .bool (.cons (.slice (.int .i64)) (.cons .bool (.cons (.slice (.int .i64)) .nil)))
def ratOf (a:tRf.T):tRat.T:=((a.1,a.2.1,()),(a.2.2.1,a.2.2.2.1,()),())
def itFind:ItCon:=⟨fun caps=>(match caps with
 | [.s (.eptr (.slice (.cons (.int .i64) (.cons (.cons (.cons .bool (.cons (.slice (.int .i64)) .nil)) (.cons (.cons .bool (.cons (.slice (.int .i64)) .nil)) .nil)) .nil))) l),.s (.eptr (.cons .bool (.cons (.slice (.int .i64)) (.cons .bool (.cons (.slice (.int .i64)) .nil)))) a)]=>l.length≤12∧(∀ x∈l,okT x)∧(nosL l).Nodup∧aokR (ratOf a)
 | _=>False),fun caps=>match caps with
 | [.s (.eptr (.slice (.cons (.int .i64) (.cons (.cons (.cons .bool (.cons (.slice (.int .i64)) .nil)) (.cons (.cons .bool (.cons (.slice (.int .i64)) .nil)) .nil)) .nil))) l),.s (.eptr (.cons .bool (.cons (.slice (.int .i64)) (.cons .bool (.cons (.slice (.int .i64)) .nil)))) a)]=>(findL l (ratOf a)).map fun x=>[aI x]
 | _=>[]⟩
theorem itFind_xs (l:List tTst.T) (a:tRf.T):itFind.xs [.s (.eptr (.slice tTst) l),.s (.eptr tRf a)]=(findL l (ratOf a)).map fun x=>[aI x]:=rfl
def fa20Γ:List (FuncId×Con):=(35,conSrtd)::fa19Γ
theorem fa20Γ_ok:OkΓ fa20Γ:=by
 simp only [OkΓ,fa20Γ,List.forall_mem_cons]
 exact ⟨⟨enters_of func35 (by kernel_rfl) rfl,srtd_ok⟩,fa19Γ_ok⟩
def fa20E:=fa19E
theorem fa20E_ok:OkE fa20E:=fa19E_ok
def fa20P:=fa19P
theorem fa20P_ok:OkP fa20P:=fa19P_ok
def fa20F:=fa19F
theorem fa20F_ok:OkF fa20F:=fa19F_ok
def fa20:G:={ τ:=faT,Γ:=fa20Γ,E:=fa20E,Pn:=fa20P,E2:=fa20F }
theorem fa20_good:fa20.good prog:=good_of_all (faT_ok _ rfl) fa20Γ_ok fa20E_ok fa20P_ok fa20F_ok
theorem fa20_all:(∀ t,fa20.td t=(look faT t).getD .other)∧fa20.y=false∧fa20.Γ=fa20Γ∧fa20.E=fa20E∧fa20.Pn=fa20P∧fa20.E2=fa20F∧fa20.fz=[]∧fa20.te=false∧fa20.bo=false∧fa20.pm=false:=⟨fun _=>rfl,rfl,rfl,rfl,rfl,rfl,rfl,rfl,rfl,rfl⟩
def fa20y:G:={ τ:=faT,Γ:=fa20Γ,E:=fa20E,Pn:=fa20P,E2:=fa20F,y:=true }
theorem fa20y_good:fa20y.good prog:=good_of_all (faT_ok _ rfl) fa20Γ_ok fa20E_ok fa20P_ok fa20F_ok
theorem fa20y_all:(∀ t,fa20y.td t=(look faT t).getD .other)∧fa20y.y=true∧fa20y.Γ=fa20Γ∧fa20y.E=fa20E∧fa20y.Pn=fa20P∧fa20y.E2=fa20F∧fa20y.fz=[]∧fa20y.te=false∧fa20y.bo=false∧fa20y.pm=false:=⟨fun _=>rfl,rfl,rfl,rfl,rfl,rfl,rfl,rfl,rfl,rfl⟩
theorem fa20y_q:fa20y.quiet=fa20:=rfl
def fa20_S:=And.intro (And.intro @faT.eq_1 (And.intro @fa20Γ.eq_1 (And.intro @fa20E.eq_1 (And.intro @fa20P.eq_1 (And.intro @fa20F.eq_1 (@conSrtd_eq)))))) fa19_S
theorem find1_ok:ItOk prog 71 itFind:=by
 refine itOkD (L:={ live:=[0,1,2,4,5,7,8,9,10,29] }) fa20y_good rfl nr_mixed func71 (enters_of func71 (by kernel_rfl) rfl) rfl rfl itFind 2 (by decide) (by kernel_rfl) ?_
 intro caps l hpre hlens
 simp only [itFind] at hpre
 split at hpre
 case h_2=>exact hpre.elim
 rename_i xs a
 obtain ⟨h1,h2,h3,h4⟩:=hpre
 refine ⟨rfl,fun X hX => ?_⟩
 rw [itFind_xs]
 obtain ⟨an,am,bn,bm,⟨⟩⟩:=a
 have hra:ratOf (an,am,bn,bm,())=((an,am,()),(bn,bm,()),()):=rfl
 rw [hra] at h4 ⊢
 obtain ⟨s,hs⟩:∃ s,s=sortT xs:=⟨_,rfl⟩
 obtain ⟨hsp,_⟩:=sortT_spec h2
 rw [← hs] at hsp
 have hsl:s.length=List.length xs:=hsp.length_eq
 have hfd:findL xs ((an,am,()),(bn,bm,()),())=nosL (leadF ((an,am,()),(bn,bm,()),()) s.length s):=by unfold findL; rw [← hs,hsl]
 simp -dsimp -implicitDefEqProofs [f71,-Prod.forall,-Bool.forall_bool,-Prod.exists,-Bool.exists_bool,fa20y_q,fa20y_all,fa20_all,fa20_S,inI64]
 refine ⟨⟨h1,h2,h3⟩,?_⟩
 refine WpD.loop (L:={ live:=[0,1,2,4,5,7,8,9,10,29] }) fa20y_good hX nr_mixed (by kernel_rfl)
  (fun i:Nat=>⟨[(0,⟨true,.v (.s (.val (.func (.yield l) #[] #[])))⟩),(1,⟨true,.v (.s (.eptr (.slice tTst) xs))⟩),(2,⟨true,.v (.s (.eptr tRf (an,am,bn,bm,())))⟩),(7,vS tTst s false),(8,vI s.length),(9,vI i)],[.trace l ((findL xs ((an,am,()),(bn,bm,()),())).map fun x=>[aI x]) i false]⟩)
  (fun i=>i≤s.length∧∀ j (h:j<s.length),j<i→fitF ((s.length - j:Nat):Int) s[j] ((an,am,()),(bn,bm,()),())=true) (fun i=>s.length - i) 0 ⟨Nat.zero_le _,fun j _ h=>absurd h (by omega)⟩ (Turn.le (by simp -dsimp -implicitDefEqProofs [hs])) ?_
 rintro i ⟨hi,hj⟩
 rcases Nat.lt_or_ge i s.length with hil | hge
 ·
  have e1:(List.length xs:Int) - (i:Int)=((s.length - i:Nat):Int):=by omega
  have hfit:fitB ((List.length xs:Int) - (i:Int)) s[i].2.1.1.1 s[i].2.1.1.2.1 s[i].2.1.2.1.2.1 an am bm=fitF ((s.length - i:Nat):Int) s[i] ((an,am,()),(bn,bm,()),()):=by unfold fitF; rw [e1]
  have hok:=h2 _ (hsp.mem_iff.1 (List.getElem_mem hil))
  simp -dsimp -implicitDefEqProofs [hil,-Prod.forall,-Bool.forall_bool,-Prod.exists,-Bool.exists_bool,fa20y_q,fa20y_all,fa20_all,fa20_S,inI64]
  refine ⟨⟨by omega,by omega⟩,⟨⟨by omega,by omega⟩,hok,h4⟩,fun hf=>⟨hf,?_,fun b=>⟨fun hb=>⟨i+1,!b,⟨rfl,by simp⟩,fun h => ?_⟩,fun _ hb=>⟨⟨by omega,by omega⟩,i+1,⟨by omega,fun j q1 q2 => ?_⟩,by omega,?_⟩⟩⟩,fun hf=>⟨hf,i,false,⟨rfl,rfl⟩,fun _ => ?_⟩⟩
  ·
   rw [hfit] at hf
   rw [hfd,nosL,List.getElem?_map,lead_get hil hj hf]; rfl
  ·
   rcases hb with hb | hb
   ·
    rw [hf] at hb; cases hb
   ·
    rw [hb] at h; cases h
  ·
   rcases Nat.lt_succ_iff_lt_or_eq.1 q2 with h' | rfl
   ·
    exact hj j q1 h'
   ·
    rw [← hfit]; exact hf
  ·
   subst hb
   exact TurnT.trunc hX (hp:=[_]) (junk:=[_]) (by simp) (by simp only [List.length_cons,List.length_nil,List.all_cons,List.all_nil,arr_below,Bool.and_true] <;> simp [Blk.below,SV.below]) (by simp -dsimp -implicitDefEqProofs) (by simp [envBelow,RV.below,AV.below,SV.below])
  ·
   rw [hfit] at hf
   rw [hfd,nosL_len,lead_end hil hj hf]
 ·
  have hn:¬ i<s.length:=by omega
  obtain rfl:i=s.length:=by omega
  simp -dsimp -implicitDefEqProofs [hn,-Prod.forall,-Bool.forall_bool,-Prod.exists,-Bool.exists_bool,fa20y_q,fa20y_all,fa20_all,fa20_S,inI64]
  exact ⟨s.length,false,⟨rfl,rfl⟩,fun _=>by rw [hfd,nosL_len,lead_all hj]⟩
def itsF:List (FuncId×ItCon):=[(71,itFind)]
theorem itsF_known:KnownIt prog itsF:=.cons find1_ok .nil
def conFindI:Con:=⟨fun args=>(match args with
 | [.s (.sl (.cons (.int .i64) (.cons (.cons (.cons .bool (.cons (.slice (.int .i64)) .nil)) (.cons (.cons .bool (.cons (.slice (.int .i64)) .nil)) .nil)) .nil)) l _),.agg [.bool k1,.sl (.int .i64) l1 _,.bool k2,.sl (.int .i64) l2 _]]=>True
 | _=>False),fun args=>match args with
 | [.s (.sl (.cons (.int .i64) (.cons (.cons (.cons .bool (.cons (.slice (.int .i64)) .nil)) (.cons (.cons .bool (.cons (.slice (.int .i64)) .nil)) .nil)) .nil)) l _),.agg [.bool k1,.sl (.int .i64) l1 _,.bool k2,.sl (.int .i64) l2 _]]=>.v (.s (.fnp 71 [⟨.slice tTst,l⟩,⟨.cons .bool (.cons (.slice tI) tBig),(k1,l1,k2,l2,())⟩]))
 | _=>.v (.s .any)⟩
theorem conFindI_eq (l:List (Ty.T tTst)) (exl:Bool) (k1:Bool) (l1:List (Ty.T tI)) (exl1:Bool) (k2:Bool) (l2:List (Ty.T tI)) (exl2:Bool):conFindI.pre [.s (.sl tTst l exl),.agg [.bool k1,.sl tI l1 exl1,.bool k2,.sl tI l2 exl2]]=(True)∧conFindI.val [.s (.sl tTst l exl),.agg [.bool k1,.sl tI l1 exl1,.bool k2,.sl tI l2 exl2]]=.v (.s (.fnp 71 [⟨.slice tTst,l⟩,⟨.cons .bool (.cons (.slice tI) tBig),(k1,l1,k2,l2,())⟩])):=⟨rfl,rfl⟩
theorem findi_ok:PureOk prog 28 conFindI:=by
 refine pureOkD (L:={ live:=[0,1,2,3,4],eps:=[(1,[2,3])] }) fa20_good rfl nr_mixed func28 rfl conFindI 2 (by decide) (by kernel_rfl) ?_
 intro args hpre hlens
 simp only [conFindI] at hpre
 split at hpre
 case h_2=>exact hpre.elim
 rename_i l el k1 l1 f1 k2 l2 f2
 simp only [lenS] at hlens
 refine ⟨rfl,?_⟩
 simp -dsimp -implicitDefEqProofs [f28,conFindI_eq,fa20_all,fa20_S,inI64]
def conColFQ (It:List (FuncId×ItCon)):ECon:={ wp:=fun args hp K=>match args,hp with
 | [.s (.sl (.int .i64) [] true),.s (.fnp f caps)],[]=>∃ xs:List (Ty.T tI),seqOf It f caps tI xs∧xs.length≤1000000000∧K (.v (.s (.own tI 0 xs.length))) [.arr (decide (0<xs.length)) (Ty.flats tI xs)]
 | _,_=>False }
def conColF (It:List (FuncId×ItCon)):ECon:={ wp:=fun args hp K=>match args,hp with
 | [.s (.fnp f caps)],[]=>∃ xs:List (Ty.T tI),seqOf It f caps tI xs∧xs.length≤1000000000∧K (.v (.s (.own tI 0 xs.length))) [.arr (decide (0<xs.length)) (Ty.flats tI xs)]
 | _,_=>False }
theorem conColFQ_known (It:List (FuncId×ItCon)) (hIt:KnownIt prog It):EffOk prog 113 (conColFQ It):=by
 refine effOkD (L:={ live:=[0,1,2,4,5,6,7] }) fa13_good rfl nr_mixed func113 rfl _ 2 (by decide) (by kernel_rfl) ?_
 intro args hp K hpre hlens
 simp only [conColFQ] at hpre
 split at hpre
 ·
  rename_i f caps
  obtain ⟨xs,⟨ic,hic,hip,hix⟩,hlen,hK⟩:=hpre
  refine ⟨rfl,?_⟩
  simp -dsimp -implicitDefEqProofs [f113,fa13_all,faT,fa13Γ,fa13E,fa13P,fa13F,fa12Γ,fa12E,fa12P,fa12F,fa11Γ,fa11E,fa11P,fa11F,fa10Γ,fa10E,fa10P,fa10F,fa9Γ,fa9E,fa9P,fa9F,fa8Γ,fa8E,fa8P,fa8F,fa7Γ,fa7E,fa7P,fa7F,fa3Γ,fa3E,fa3P,fa3F,fa2Γ,fa2E,fa2P,fa2F,fa1Γ,fa1E,fa1P,fa1F,nr20Γ,nr20E,nr20P,nr20F,nr19Γ,nr19E,nr19P,nr19F,nr18Γ,nr18E,nr18P,nr18F,nr17Γ,nr17E,nr17P,nr17F,nr16Γ,nr16E,nr16P,nr16F,nr15Γ,nr15E,nr15P,nr15F,nr14Γ,nr14E,nr14P,nr14F,nr13Γ,nr13E,nr13P,nr13F,nr9Γ,nr9E,nr9P,nr9F,nr8Γ,nr8E,nr8P,nr8F,nr7Γ,nr7E,nr7P,nr7F,nr6Γ,nr6E,nr6P,nr6F,nr5Γ,nr5E,nr5P,nr5F,nr4Γ,nr4E,nr4P,nr4F,nr3Γ,nr3E,nr3P,nr3F,nr0Γ,nr0E,nr0P,nr0F,inI64]
  refine Wp.turn (Turn.virtBox (b:=0) (off:=0) (bc:=[.sl tI [] true]) (t:=tI) (xs:=[]) (by simp -dsimp -implicitDefEqProofs) (by simp)) ?_
  refine WpD.rangeFunc (L:={ live:=[0,1,2,4,5,6,7] }) (d:=⟨⟩) fa13_good nr_mixed rfl rfl f caps (by simp -dsimp -implicitDefEqProofs) ic (hIt f ic hic) hip (by decide) (by kernel_rfl) (by kernel_rfl) (by intro a b c d; simp -dsimp -implicitDefEqProofs)
   (fun t hp=>hp=[.cells [.own tI 1 t],.arr (decide (0<t)) (Ty.flats tI (xs.take t))]) (by simp) ?_ ?_
  ·
   intro t args hp hx hR
   subst hR
   rw [hix] at hx
   obtain ⟨hlt,rfl⟩:=take_map_av xs t hx
   have hmin:min t xs.length=t:=by omega
   have htk:=take_succ_get xs hlt (Ty.dflt tI)
   rw [getD_lt hlt] at htk
   simp -dsimp -implicitDefEqProofs [hmin,fa13_all,faT,fa13Γ,fa13E,fa13P,fa13F,fa12Γ,fa12E,fa12P,fa12F,fa11Γ,fa11E,fa11P,fa11F,fa10Γ,fa10E,fa10P,fa10F,fa9Γ,fa9E,fa9P,fa9F,fa8Γ,fa8E,fa8P,fa8F,fa7Γ,fa7E,fa7P,fa7F,fa3Γ,fa3E,fa3P,fa3F,fa2Γ,fa2E,fa2P,fa2F,fa1Γ,fa1E,fa1P,fa1F,nr20Γ,nr20E,nr20P,nr20F,nr19Γ,nr19E,nr19P,nr19F,nr18Γ,nr18E,nr18P,nr18F,nr17Γ,nr17E,nr17P,nr17F,nr16Γ,nr16E,nr16P,nr16F,nr15Γ,nr15E,nr15P,nr15F,nr14Γ,nr14E,nr14P,nr14F,nr13Γ,nr13E,nr13P,nr13F,nr9Γ,nr9E,nr9P,nr9F,nr8Γ,nr8E,nr8P,nr8F,nr7Γ,nr7E,nr7P,nr7F,nr6Γ,nr6E,nr6P,nr6F,nr5Γ,nr5E,nr5P,nr5F,nr4Γ,nr4E,nr4P,nr4F,nr3Γ,nr3E,nr3P,nr3F,nr0Γ,nr0E,nr0P,nr0F,inI64]
   have hmin':min (t+1) xs.length=t+1:=by omega
   refine ⟨⟨by omega,by simp only [maxLen]; omega⟩,?_⟩
   first
    | exact ⟨hmin',TrT.refl _ _⟩
    | exact TrT.refl _ _
    | (rw [htk]; exact TrT.drop (hp:=[_,_]) (junk:=[_]) (by simp) (by simp only [List.length_cons,List.length_nil,List.all_cons,List.all_nil,arr_below,Bool.and_true]; simp [Blk.below,SV.below]))
  ·
   intro hp hR
   subst hR
   rw [hix,List.length_map]
   simp -dsimp -implicitDefEqProofs [fa13_all,faT,fa13Γ,fa13E,fa13P,fa13F,fa12Γ,fa12E,fa12P,fa12F,fa11Γ,fa11E,fa11P,fa11F,fa10Γ,fa10E,fa10P,fa10F,fa9Γ,fa9E,fa9P,fa9F,fa8Γ,fa8E,fa8P,fa8F,fa7Γ,fa7E,fa7P,fa7F,fa3Γ,fa3E,fa3P,fa3F,fa2Γ,fa2E,fa2P,fa2F,fa1Γ,fa1E,fa1P,fa1F,nr20Γ,nr20E,nr20P,nr20F,nr19Γ,nr19E,nr19P,nr19F,nr18Γ,nr18E,nr18P,nr18F,nr17Γ,nr17E,nr17P,nr17F,nr16Γ,nr16E,nr16P,nr16F,nr15Γ,nr15E,nr15P,nr15F,nr14Γ,nr14E,nr14P,nr14F,nr13Γ,nr13E,nr13P,nr13F,nr9Γ,nr9E,nr9P,nr9F,nr8Γ,nr8E,nr8P,nr8F,nr7Γ,nr7E,nr7P,nr7F,nr6Γ,nr6E,nr6P,nr6F,nr5Γ,nr5E,nr5P,nr5F,nr4Γ,nr4E,nr4P,nr4F,nr3Γ,nr3E,nr3P,nr3F,nr0Γ,nr0E,nr0P,nr0F,inI64]
   exact hK
 ·
  exact hpre.elim
theorem conColF_known (It:List (FuncId×ItCon)) (hIt:KnownIt prog It):EffOk prog 69 (conColF It):=by
 have hg:G.good prog { τ:=faT,Γ:=[],E:=[(113,conColFQ It)] }:=good_of_all (faT_ok _ rfl) (fun p hp=>by cases hp) (fun p hp=>by simp only [List.mem_singleton] at hp; subst hp; exact ⟨enters_of func113 (by kernel_rfl) rfl,conColFQ_known It hIt⟩) (fun p hp=>by cases hp) (fun p hp=>by cases hp)
 refine effOkD (L:={ live:=[0,2] }) hg rfl nr_mixed func69 rfl _ 1 (by decide) (by kernel_rfl) ?_
 intro args hp K hpre hlens
 simp only [conColF] at hpre
 split at hpre
 ·
  rename_i f caps
  refine ⟨rfl,?_⟩
  simp -dsimp -implicitDefEqProofs [f69,conColFQ,faT,G.td,inI64]
  exact hpre
 ·
  exact hpre.elim
def fa21Γ:List (FuncId×Con):=(28,conFindI)::fa20Γ
theorem fa21Γ_ok:OkΓ fa21Γ:=by
 simp only [OkΓ,fa21Γ,List.forall_mem_cons]
 exact ⟨⟨enters_of func28 (by kernel_rfl) rfl,findi_ok⟩,fa20Γ_ok⟩
def fa21E:List (FuncId×ECon):=(69,(conColF itsF))::(70,conSort)::fa20E
theorem fa21E_ok:OkE fa21E:=by
 simp only [OkE,fa21E,List.forall_mem_cons]
 exact ⟨⟨enters_of func69 (by kernel_rfl) rfl,(conColF_known itsF itsF_known)⟩,⟨enters_of func70 (by kernel_rfl) rfl,(sort_eff Tryz.laySort)⟩,fa20E_ok⟩
def fa21P:=fa20P
theorem fa21P_ok:OkP fa21P:=fa20P_ok
def fa21F:=fa20F
theorem fa21F_ok:OkF fa21F:=fa20F_ok
def fa21:G:={ τ:=faT,Γ:=fa21Γ,E:=fa21E,Pn:=fa21P,E2:=fa21F }
theorem fa21_good:fa21.good prog:=good_of_all (faT_ok _ rfl) fa21Γ_ok fa21E_ok fa21P_ok fa21F_ok
theorem fa21_all:(∀ t,fa21.td t=(look faT t).getD .other)∧fa21.y=false∧fa21.Γ=fa21Γ∧fa21.E=fa21E∧fa21.Pn=fa21P∧fa21.E2=fa21F∧fa21.fz=[]∧fa21.te=false∧fa21.bo=false∧fa21.pm=false:=⟨fun _=>rfl,rfl,rfl,rfl,rfl,rfl,rfl,rfl,rfl,rfl⟩
def fa21_S:=And.intro (And.intro @faT.eq_1 (And.intro @fa21Γ.eq_1 (And.intro @fa21E.eq_1 (And.intro @fa21P.eq_1 (And.intro @fa21F.eq_1 (And.intro @conFindI_eq (And.intro @conColF.eq_1 (@conSort.eq_1)))))))) fa20_S
def conSorted:ECon:={ wp:=fun args hp K=>match args,hp with
 | [.s (.fnp f caps)],[]=>∃ xs:List Int,seqOf itsF f caps tI xs∧xs.length≤1000000000∧K (.v (.s (.own tI 0 xs.length))) [.arr (decide (0<xs.length)) (tI.flats (isort xs))]
 | _,_=>False }
theorem sorted_ok:EffOk prog 27 conSorted:=by
 refine effOkD (L:={ live:=[0,2,3] }) fa21_good rfl nr_mixed func27 rfl conSorted 1 (by decide) (by kernel_rfl) ?_
 intro args hp K hpre hlens
 simp only [conSorted] at hpre
 split at hpre
 ·
  rename_i f caps
  obtain ⟨xs,hs,hlen,hK⟩:=hpre
  refine ⟨rfl,?_⟩
  simp -dsimp -implicitDefEqProofs [f27,fa21_all,fa21_S,inI64]
  refine ⟨xs,hs,hlen,xs,rfl,rfl,by omega,?_,?_⟩
  ·
   cases xs <;> simp
  ·
   exact hK
 ·
  exact hpre.elim
theorem tstOk_okT {x:tTst.T} (h:tstOk x):okT x:=h.1
theorem nos_pair {l:List tTst.T} (h:okNos (nosL l)):(nosL l).Pairwise (· < ·):=by
 have:∀ q,q<(nosL l).length→∀ p,p<q→(nosL l)[p]?.getD 0<(nosL l)[q]?.getD 0:=by
  intro q
  induction q with
  | zero=>intro _ p hp; omega
  | succ q ih =>
   intro hq p hp
   have h1:=(h (q+1) hq).2 (by omega)
   rw [Nat.add_sub_cancel] at h1
   rcases Nat.lt_succ_iff_lt_or_eq.1 hp with h' | rfl
   ·
    exact Int.lt_trans (ih (by omega) p h') h1
   ·
    exact h1
 rw [List.pairwise_iff_getElem]
 intro p q hp hq hpq
 have:=this q hq p hpq
 rw [List.getElem?_eq_getElem hp,List.getElem?_eq_getElem hq] at this
 exact this
theorem nos_nodup {l:List tTst.T} (h:okNos (nosL l)):(nosL l).Nodup:=(nos_pair h).imp fun {a b} h e=>by omega
theorem fam_ok {l:List tTst.T} (h:famP l):(∀ x∈l,okT x)∧(nosL l).Nodup:=⟨fun x hx=>tstOk_okT (h.2 x hx),nos_nodup h.1⟩
theorem lvl_ok0 {k1:Bool} {l1:List Int} {k2:Bool} {l2:List Int} (h:lvlE k1 l1 k2 l2=0):okS k1 l1 k2 l2:=(lvlE_0.1 h).1
theorem seqF {l:List tTst.T} {a:tRf.T} (h1:l.length≤12) (h2:∀ x∈l,okT x) (h3:(nosL l).Nodup) (h4:aokR (ratOf a)):seqOf itsF 71 [⟨.slice tTst,l⟩,⟨tRf,a⟩] tI (findL l (ratOf a)) :=
 ⟨itFind,rfl,⟨h1,h2,h3,h4⟩,rfl⟩
theorem lead_le (a:tRat.T):∀ (s:List tTst.T) (n:Nat),(leadF a n s).length≤s.length
 | [],n=>by simp [leadF]
 | x::s,n=>by
  rw [leadF]
  split
  ·
   simpa using lead_le a s (n - 1)
  ·
   simp
abbrev mkA (k1:Bool) (l1:List Int) (k2:Bool) (l2:List Int):tRat.T:=((k1,l1,()),(k2,l2,()),())
def foundV (l:List tTst.T) (k1:Bool) (l1:List Int) (k2:Bool) (l2:List Int):List Int:=if chkF l k1 l1 k2 l2=0 then isort (findL l (mkA k1 l1 k2 l2)) else []
theorem foundV_0 {l:List tTst.T} {k1:Bool} {l1:List Int} {k2:Bool} {l2:List Int} (h:chkF l k1 l1 k2 l2=0):foundV l k1 l1 k2 l2=isort (findL l (mkA k1 l1 k2 l2)):=if_pos h
theorem foundV_e {l:List tTst.T} {k1:Bool} {l1:List Int} {k2:Bool} {l2:List Int} (h:¬ chkF l k1 l1 k2 l2=0):foundV l k1 l1 k2 l2=[]:=if_neg h
def fa22Γ:=fa21Γ
theorem fa22Γ_ok:OkΓ fa22Γ:=fa21Γ_ok
def fa22E:List (FuncId×ECon):=(27,conSorted)::fa21E
theorem fa22E_ok:OkE fa22E:=by
 simp only [OkE,fa22E,List.forall_mem_cons]
 exact ⟨⟨enters_of func27 (by kernel_rfl) rfl,sorted_ok⟩,fa21E_ok⟩
def fa22P:=fa21P
theorem fa22P_ok:OkP fa22P:=fa21P_ok
def fa22F:=fa21F
theorem fa22F_ok:OkF fa22F:=fa21F_ok
def fa22:G:={ τ:=faT,Γ:=fa22Γ,E:=fa22E,Pn:=fa22P,E2:=fa22F }
theorem fa22_good:fa22.good prog:=good_of_all (faT_ok _ rfl) fa22Γ_ok fa22E_ok fa22P_ok fa22F_ok
theorem fa22_all:(∀ t,fa22.td t=(look faT t).getD .other)∧fa22.y=false∧fa22.Γ=fa22Γ∧fa22.E=fa22E∧fa22.Pn=fa22P∧fa22.E2=fa22F∧fa22.fz=[]∧fa22.te=false∧fa22.bo=false∧fa22.pm=false:=⟨fun _=>rfl,rfl,rfl,rfl,rfl,rfl,rfl,rfl,rfl,rfl⟩
def fa22_S:=And.intro (And.intro @faT.eq_1 (And.intro @fa22Γ.eq_1 (And.intro @fa22E.eq_1 (And.intro @fa22P.eq_1 (And.intro @fa22F.eq_1 (@conSorted.eq_1)))))) fa21_S
def conFound:Con:=⟨fun args=>(match args with
 | [.s (.sl (.cons (.int .i64) (.cons (.cons (.cons .bool (.cons (.slice (.int .i64)) .nil)) (.cons (.cons .bool (.cons (.slice (.int .i64)) .nil)) .nil)) .nil)) l _),.agg [.bool k1,.sl (.int .i64) l1 _,.bool k2,.sl (.int .i64) l2 _]]=>chkF l k1 l1 k2 l2=0→l.length≤12
 | _=>False),fun args=>match args with
 | [.s (.sl (.cons (.int .i64) (.cons (.cons (.cons .bool (.cons (.slice (.int .i64)) .nil)) (.cons (.cons .bool (.cons (.slice (.int .i64)) .nil)) .nil)) .nil)) l _),.agg [.bool k1,.sl (.int .i64) l1 _,.bool k2,.sl (.int .i64) l2 _]]=>.tup [aS tI (foundV l k1 l1 k2 l2) false,aI (chkF l k1 l1 k2 l2)]
 | _=>.v (.s .any)⟩
theorem conFound_eq (l:List (Ty.T tTst)) (exl:Bool) (k1:Bool) (l1:List (Ty.T tI)) (exl1:Bool) (k2:Bool) (l2:List (Ty.T tI)) (exl2:Bool):conFound.pre [.s (.sl tTst l exl),.agg [.bool k1,.sl tI l1 exl1,.bool k2,.sl tI l2 exl2]]=(chkF l k1 l1 k2 l2=0→l.length≤12)∧conFound.val [.s (.sl tTst l exl),.agg [.bool k1,.sl tI l1 exl1,.bool k2,.sl tI l2 exl2]]=.tup [aS tI (foundV l k1 l1 k2 l2) false,aI (chkF l k1 l1 k2 l2)]:=⟨rfl,rfl⟩
theorem found_ok:PureOk prog 11 conFound:=by
 refine pureOkD (L:={ live:=[0,1,3,4,5,10] }) fa22_good rfl nr_mixed func11 rfl conFound 2 (by decide) (by kernel_rfl) ?_
 intro args hpre hlens
 simp only [conFound] at hpre
 split at hpre
 case h_2=>exact hpre.elim
 rename_i l el k1 l1 f1 k2 l2 f2
 simp only [lenS] at hlens
 refine ⟨rfl,?_⟩
 simp -dsimp -implicitDefEqProofs [f11,conFound_eq,conSorted,-Prod.exists,-Prod.forall,-Bool.forall_bool,-Bool.exists_bool,fa22_all,fa22_S,inI64]
 change List Int at l1; change List Int at l2
 refine ⟨fun h=>foundV_e h,fun h => ?_⟩
 obtain ⟨h1,hf,hl⟩:=chkF_0.1 h
 obtain ⟨h2,h3⟩:=fam_ok hf
 have h12:l.length≤12:=hpre h
 have hle:(findL l (mkA k1 l1 k2 l2)).length≤12:=by
  unfold findL
  rw [nosL_len]
  have:=lead_le (mkA k1 l1 k2 l2) (sortT l) l.length
  have:=(sortT_spec h2).1.length_eq
  omega
 refine ⟨findL l (mkA k1 l1 k2 l2),seqF (a:=(k1,l1,k2,l2,())) h12 h2 h3 (lvl_ok0 hl),by omega,[aS tI (isort (findL l (mkA k1 l1 k2 l2))) false,aI 0],?_,?_⟩
 ·
  rw [if_pos (isort_length _),parses_flats' (isort_length _)]; rfl
 ·
  rw [foundV_0 h,h]
def fitR (n:Int) (p a:tRat.T):Bool:=fitB n p.1.1 p.1.2.1 p.2.1.2.1 a.1.1 a.1.2.1 a.2.1.2.1
def restT (l:List tTst.T) (k:Nat):List tTst.T:=sortT (l.take k++l.drop (k+1))
def leastP (l:List tTst.T) (k m:Nat):tRat.T:=if 0<m∧cmpR ((restT l k)[(restT l k).length - m]?.getD dT).2.1 (l[k]?.getD dT).2.1<0 then ((restT l k)[(restT l k).length - m]?.getD dT).2.1 else (l[k]?.getD dT).2.1
def closB (l:List tTst.T) (a:tRat.T) (k:Nat):Prop:=∀ m,m<l.length→fitR ((m+1:Nat):Int) (leastP l k m) a=true
def isNo (no:Int) (x:tTst.T):Bool:=decide (x.1=no)
noncomputable instance (l:List tTst.T) (a:tRat.T) (k:Nat):Decidable (closB l a k):=Classical.propDecidable _
def closE (l:List tTst.T) (k1:Bool) (l1:List Int) (k2:Bool) (l2:List Int) (no:Int):Int:=if chkF l k1 l1 k2 l2=0 then (if idxOf (isNo no) l<0 then 1 else 0) else chkF l k1 l1 k2 l2
def closV (l:List tTst.T) (k1:Bool) (l1:List Int) (k2:Bool) (l2:List Int) (no:Int):Bool:=decide (chkF l k1 l1 k2 l2=0∧0≤idxOf (isNo no) l∧closB l (mkA k1 l1 k2 l2) (idxOf (isNo no) l).toNat)
section
variable {l:List tTst.T} {k1:Bool} {l1:List Int} {k2:Bool} {l2:List Int} {no:Int}
theorem clos_e (h:¬ chkF l k1 l1 k2 l2=0):closV l k1 l1 k2 l2 no=false∧closE l k1 l1 k2 l2 no=chkF l k1 l1 k2 l2:=⟨by unfold closV; rw [decide_eq_false]; rintro ⟨q,_⟩; exact h q,if_neg h⟩
theorem clos_n (h:chkF l k1 l1 k2 l2=0) (h2:idxOf (isNo no) l<0):closV l k1 l1 k2 l2 no=false∧closE l k1 l1 k2 l2 no=1:=⟨by unfold closV; rw [decide_eq_false]; rintro ⟨_,q,_⟩; omega,by unfold closE; rw [if_pos h,if_pos h2]⟩
theorem clos_f (h:chkF l k1 l1 k2 l2=0) (h2:0≤idxOf (isNo no) l) (h3:¬ closB l (mkA k1 l1 k2 l2) (idxOf (isNo no) l).toNat):closV l k1 l1 k2 l2 no=false∧closE l k1 l1 k2 l2 no=0:=⟨by unfold closV; rw [decide_eq_false]; rintro ⟨_,_,q⟩; exact h3 q,by unfold closE; rw [if_pos h,if_neg (by omega)]⟩
theorem clos_t (h:chkF l k1 l1 k2 l2=0) (h2:0≤idxOf (isNo no) l) (h3:closB l (mkA k1 l1 k2 l2) (idxOf (isNo no) l).toNat):closV l k1 l1 k2 l2 no=true∧closE l k1 l1 k2 l2 no=0:=⟨by unfold closV; exact decide_eq_true ⟨h,h2,h3⟩,by unfold closE; rw [if_pos h,if_neg (by omega)]⟩
end
theorem idxOf_lt {α:Type} {p:α→Bool} {xs:List α}:idxOf p xs<xs.length:=by
 unfold idxOf
 cases h:xs.findIdx? p with
 | none=>simp; omega
 | some i =>
  obtain ⟨hi,_⟩:=List.findIdx?_eq_some_iff_getElem.1 h
  simp; exact hi
def conEqNo:Con:=⟨fun args=>(match args with
 | [.agg [.int .i64 no,.bool n1,.sl (.int .i64) m1 _,.bool n2,.sl (.int .i64) m2 _],.s (.eptr (.int .i64) k)]=>True
 | _=>False),fun args=>match args with
 | [.agg [.int _ no,.bool n1,.sl (.int .i64) m1 _,.bool n2,.sl (.int .i64) m2 _],.s (.eptr (.int .i64) k)]=>.v (aB (decide (no=k)))
 | _=>.v (.s .any)⟩
theorem conEqNo_eq (no:Int) (n1:Bool) (m1:List (Ty.T tI)) (exm1:Bool) (n2:Bool) (m2:List (Ty.T tI)) (exm2:Bool) (k:Ty.T tI):conEqNo.pre [.agg [.int .i64 no,.bool n1,.sl tI m1 exm1,.bool n2,.sl tI m2 exm2],.s (.eptr tI k)]=(True)∧conEqNo.val [.agg [.int .i64 no,.bool n1,.sl tI m1 exm1,.bool n2,.sl tI m2 exm2],.s (.eptr tI k)]=.v (aB (decide (no=k))):=⟨rfl,rfl⟩
theorem eqno_ok:PureOk prog 34 conEqNo:=by
 refine pureOkD (L:={ live:=[0,1,2,3] }) fa22_good rfl nr_mixed func34 rfl conEqNo 2 (by decide) (by kernel_rfl) ?_
 intro args hpre hlens
 simp only [conEqNo] at hpre
 split at hpre
 case h_2=>exact hpre.elim
 rename_i no n1 m1 e1 n2 m2 e2 k
 simp only [lenS] at hlens
 refine ⟨rfl,?_⟩
 simp -dsimp -implicitDefEqProofs [f34,conEqNo_eq,fa22_all,fa22_S,inI64]
 rw [Bool.eq_iff_iff]
 simp
def gNo:List (FuncId×Con):=[(34,conEqNo)]
theorem gNo_known:Known prog gNo:=.cons (enters_of func34 (by kernel_rfl) rfl) eqno_ok .nil
theorem fn_no (no:Int) (D:tTst.T→Prop):fnTo gNo tTst .bool 34 [⟨.int .i64,no⟩] (isNo no) D:=⟨conEqNo,rfl,fun x=>rfl,fun x _=>trivial⟩
def conIdxTI (Γ:List (FuncId×Con)):Con:=⟨fun args=>(match args with
 | [.s (.sl (.cons (.int .i64) (.cons (.cons (.cons .bool (.cons (.slice (.int .i64)) .nil)) (.cons (.cons .bool (.cons (.slice (.int .i64)) .nil)) .nil)) .nil)) xs _),.s (.fnp f caps)]=>∃ h,fnTo Γ tTst .bool f caps h (·∈xs)
 | _=>False),fun args=>match args with
 | [.s (.sl (.cons (.int .i64) (.cons (.cons (.cons .bool (.cons (.slice (.int .i64)) .nil)) (.cons (.cons .bool (.cons (.slice (.int .i64)) .nil)) .nil)) .nil)) xs _),.s (.fnp f caps)]=>.v (.s (.int .i64 (idxOf (apB Γ tTst f caps) xs)))
 | _=>.v (.s .any)⟩
theorem conIdxTI_one (f:FuncId) (caps:List (Sigma Ty.T)) (c:Con) (he:∀ (args:Array Value) (w:World),(callFunc f args).run prog w=.ok (.enter f args) w) (hc:PureOk prog f c) (h:Ty.T tTst→Bool)
  (hv:∀ x,c.val (Ty.av tTst x::caps.map capAV)=.v (.s (.bool (h x)))) :
  PureOk prog 33 ⟨fun args=>∃ xs ex,args=[.s (.sl tTst xs ex),.s (.fnp f caps)]∧∀ x∈xs,c.pre (Ty.av tTst x::caps.map capAV),fun args=>match args with
   | [.s (.sl (.cons (.int .i64) (.cons (.cons (.cons .bool (.cons (.slice (.int .i64)) .nil)) (.cons (.cons .bool (.cons (.slice (.int .i64)) .nil)) .nil)) .nil)) xs _),_]=>.v (.s (.int .i64 (idxOf h xs)))
   | _=>.v (.s .any)⟩:=by
 refine pureOkD (L:={ live:=[0,1,4,5,7,8,9,16] }) (g1_good faT_ok he hc) rfl nr_mixed func33 rfl _ 2 (by decide) (by kernel_rfl) ?_
 rintro _ ⟨xs,ex,rfl,hp⟩ hlens
 obtain ⟨⟨hl,_⟩,_⟩:=hlens
 simp only [maxLen] at hl
 refine ⟨rfl,?_⟩
 first | simp only [av_int,av_slice,av_bool] at hv hp | simp only [av_cons,av_bool,Ty.flat,List.cons_append,List.nil_append] at hv hp
 simp -dsimp -implicitDefEqProofs [f33,g1_all,faT,inI64]
 refine WpD.loop (L:={ live:=[0,1,4,5,7,8,9,16] }) (g1_good faT_ok he hc) X0_ok nr_mixed (by kernel_rfl) (ι:=Nat)
  (fun i=>⟨[(0,vS tTst xs ex),(1,⟨true,.v (.s (.fnp f caps))⟩),(7,vI xs.length),(8,vI i)],[]⟩)
  (fun i=>i≤xs.length∧∀ j,j<i→h (xs[j]?.getD (Ty.dflt tTst))=false) (fun i=>xs.length - i) 0 (by simp) (Turn.le (by simp -dsimp -implicitDefEqProofs)) ?_
 rintro i ⟨hi,hno⟩
 simp only [Ty.dflt] at hno
 simp -dsimp -implicitDefEqProofs [hv,caps_all,caps_all',g1_all,faT,inI64]
 refine ⟨fun hlt=>⟨hlt,hp _ (by rw [getD_lt hlt]; exact List.getElem_mem hlt),fun he => ?_,fun hne=>⟨⟨by omega,by omega⟩,i+1,⟨by omega,fun j hj => ?_⟩,by omega,TurnT.le (by simp -dsimp -implicitDefEqProofs)⟩⟩,fun hge => ?_⟩
 ·
  exact (idxOf_at hlt _ he hno).symm
 ·
  rcases Nat.lt_succ_iff_lt_or_eq.1 hj with h' | rfl
  ·
   exact hno j h'
  ·
   exact hne
 ·
  exact (idxOf_none _ fun j hj=>hno j (by omega)).symm
theorem conIdxTI_known (Γ:List (FuncId×Con)) (hΓ:Known prog Γ):PureOk prog 33 (conIdxTI Γ):=by
 refine PureOk.of fun args hpre => ?_
 simp only [conIdxTI] at hpre
 split at hpre
 ·
  rename_i xs ex f caps
  obtain ⟨h,hf⟩:=hpre
  have hm:apB Γ tTst f caps=h:=funext (apB_eq hf)
  obtain ⟨c,h1,h2,h3⟩:=hf
  refine ⟨_,conIdxTI_one f caps c (hΓ f c h1).1 (hΓ f c h1).2 h h2,⟨xs,ex,rfl,h3⟩,?_⟩
  simp only [conIdxTI,hm]
 ·
  exact hpre.elim
theorem conIdxTI_pre {Γ:List (FuncId×Con)} {f:FuncId} {caps:List (Sigma Ty.T)} (xs:List (Ty.T tTst)) (ex:Bool):(conIdxTI Γ).pre [.s (.sl tTst xs ex),.s (.fnp f caps)]=∃ h,fnTo Γ tTst .bool f caps h (·∈xs):=rfl
theorem conIdxTI_val {Γ:List (FuncId×Con)} {f:FuncId} {caps:List (Sigma Ty.T)} (xs:List (Ty.T tTst)) (ex:Bool):(conIdxTI Γ).val [.s (.sl tTst xs ex),.s (.fnp f caps)]=.v (.s (.int .i64 (idxOf (apB Γ tTst f caps) xs))):=rfl
def fa23Γ:List (FuncId×Con):=(33,(conIdxTI gNo))::(36,conCT)::fa22Γ
theorem fa23Γ_ok:OkΓ fa23Γ:=by
 simp only [OkΓ,fa23Γ,List.forall_mem_cons]
 exact ⟨⟨enters_of func33 (by kernel_rfl) rfl,(conIdxTI_known gNo gNo_known)⟩,⟨enters_of func36 (by kernel_rfl) rfl,conCT_ok⟩,fa22Γ_ok⟩
def fa23E:=fa22E
theorem fa23E_ok:OkE fa23E:=fa22E_ok
def fa23P:=fa22P
theorem fa23P_ok:OkP fa23P:=fa22P_ok
def fa23F:=fa22F
theorem fa23F_ok:OkF fa23F:=fa22F_ok
def fa23:G:={ τ:=faT,Γ:=fa23Γ,E:=fa23E,Pn:=fa23P,E2:=fa23F }
theorem fa23_good:fa23.good prog:=good_of_all (faT_ok _ rfl) fa23Γ_ok fa23E_ok fa23P_ok fa23F_ok
theorem fa23_all:(∀ t,fa23.td t=(look faT t).getD .other)∧fa23.y=false∧fa23.Γ=fa23Γ∧fa23.E=fa23E∧fa23.Pn=fa23P∧fa23.E2=fa23F∧fa23.fz=[]∧fa23.te=false∧fa23.bo=false∧fa23.pm=false:=⟨fun _=>rfl,rfl,rfl,rfl,rfl,rfl,rfl,rfl,rfl,rfl⟩
def fa23_S:=And.intro (And.intro @faT.eq_1 (And.intro @fa23Γ.eq_1 (And.intro @fa23E.eq_1 (And.intro @fa23P.eq_1 (And.intro @fa23F.eq_1 (And.intro @conIdxTI_pre (And.intro @conIdxTI_val (And.intro @conCT_pre (@conCT_val))))))))) fa22_S
def conClosed:Con:=⟨fun args=>(match args with
 | [.s (.sl (.cons (.int .i64) (.cons (.cons (.cons .bool (.cons (.slice (.int .i64)) .nil)) (.cons (.cons .bool (.cons (.slice (.int .i64)) .nil)) .nil)) .nil)) l _),.agg [.bool k1,.sl (.int .i64) l1 _,.bool k2,.sl (.int .i64) l2 _],.s (.int .i64 no)]=>chkF l k1 l1 k2 l2=0→l.length≤12
 | _=>False),fun args=>match args with
 | [.s (.sl (.cons (.int .i64) (.cons (.cons (.cons .bool (.cons (.slice (.int .i64)) .nil)) (.cons (.cons .bool (.cons (.slice (.int .i64)) .nil)) .nil)) .nil)) l _),.agg [.bool k1,.sl (.int .i64) l1 _,.bool k2,.sl (.int .i64) l2 _],.s (.int _ no)]=>.tup [aB (closV l k1 l1 k2 l2 no),aI (closE l k1 l1 k2 l2 no)]
 | _=>.v (.s .any)⟩
theorem conClosed_eq (l:List (Ty.T tTst)) (exl:Bool) (k1:Bool) (l1:List (Ty.T tI)) (exl1:Bool) (k2:Bool) (l2:List (Ty.T tI)) (exl2:Bool) (no:Int):conClosed.pre [.s (.sl tTst l exl),.agg [.bool k1,.sl tI l1 exl1,.bool k2,.sl tI l2 exl2],.s (.int .i64 no)]=(chkF l k1 l1 k2 l2=0→l.length≤12)∧conClosed.val [.s (.sl tTst l exl),.agg [.bool k1,.sl tI l1 exl1,.bool k2,.sl tI l2 exl2],.s (.int .i64 no)]=.tup [aB (closV l k1 l1 k2 l2 no),aI (closE l k1 l1 k2 l2 no)]:=⟨rfl,rfl⟩
theorem closed_ok:PureOk prog 13 conClosed:=by
 refine pureOkD (L:={ live:=[0,1,2,4,5,6,7,8,9,10,11,12,17,23,35,36,37,45,57,64],eps:=[(4,[5])] }) fa23_good rfl nr_mixed func13 rfl conClosed 3 (by decide) (by kernel_rfl) ?_
 intro args hpre hlens
 simp only [conClosed] at hpre
 split at hpre
 case h_2=>exact hpre.elim
 rename_i l el k1 l1 f1 k2 l2 f2 no
 simp only [lenS] at hlens
 have hap:apB gNo tTst 34 [⟨.int .i64,no⟩]=isNo no:=funext (apB_eq (fn_no no (fun _=>True)))
 refine ⟨rfl,?_⟩
 simp -dsimp -implicitDefEqProofs [f13,conClosed_eq,hap,-Prod.exists,-Prod.forall,-Bool.forall_bool,-Bool.exists_bool,fa23_all,fa23_S,inI64]
 change List Int at l1; change List Int at l2
 refine ⟨fun h=>⟨(clos_e h).1,(clos_e h).2.symm⟩,fun h=>⟨⟨_,fn_no no _⟩,fun h2=>⟨(clos_n h h2).1,(clos_n h h2).2.symm⟩,fun h2 => ?_⟩⟩
 obtain ⟨_,hf,hl⟩:=chkF_0.1 h
 obtain ⟨hok,hnd⟩:=fam_ok hf
 have h12:l.length≤12:=hpre h
 have hlt:=idxOf_lt (p:=isNo no) (xs:=l)
 have hcf:=clos_f (no:=no) h h2
 have hct:=clos_t (no:=no) h h2
 obtain ⟨I,hI⟩:∃ I:Nat,idxOf (isNo no) l=I:=⟨_,(Int.toNat_of_nonneg h2).symm⟩
 rw [hI] at hlt hcf hct ⊢
 rw [Int.toNat_natCast] at hcf hct ⊢
 have e1:((I:Int)+1).toNat=I+1:=by omega
 rw [e1]
 have hIl:I<l.length:=by omega
 have hsub:∀ x,x∈l.take I∨x∈l.drop (I+1)→okT x:=fun x hx=>by
  rcases hx with hx | hx
  ·
   exact hok x (List.mem_of_mem_take hx)
  ·
   exact hok x (List.mem_of_mem_drop hx)
 have hcat:(l.take I++l.drop (I+1)).Sublist l:=by
  conv=>rhs; rw [← List.take_append_drop I l]
  refine List.Sublist.append (List.Sublist.refl _) ?_
  rw [List.drop_eq_getElem_cons hIl]
  exact List.sublist_cons_self _ _
 have hnd2:(nosL (l.take I++l.drop (I+1))).Nodup:=hnd.sublist (hcat.map _)
 refine ⟨⟨by omega,by omega⟩,⟨by omega,by omega⟩,⟨by omega,by omega⟩,by omega,⟨by omega,hsub,hnd2⟩,?_⟩
 obtain ⟨o,ho⟩:∃ o,o=restT l I:=⟨_,rfl⟩
 have ho':sortT (l.take I++l.drop (I+1))=o:=ho.symm
 have hop:=(sortT_spec (l:=l.take I++l.drop (I+1)) fun x hx=>hsub x (List.mem_append.1 hx)).1
 rw [ho'] at hop
 rw [ho']
 have hol:o.length=l.length - 1:=by
  rw [hop.length_eq,List.length_append,List.length_take,List.length_drop]; omega
 have hoo:∀ x∈o,okT x:=fun x hx=>hsub x (List.mem_append.1 (hop.mem_iff.1 hx))
 have hokI:okT l[I]:=hok _ (List.getElem_mem hIl)
 refine WpD.loop (L:={ live:=[0,1,2,4,5,6,7,8,9,10,11,12,17,23,35,36,37,45,57,64],eps:=[(4,[5])] }) fa23_good X0_ok nr_mixed (by kernel_rfl)
  (fun m:Nat=>⟨[(0,vS tTst l el),(4,⟨true,.v (.s (.box 0 0))⟩),(8,vI I),(9,vS tTst o false),(35,vI l.length),(36,vI m)],[.cells [.bool k1,.sl tI l1 f1,.bool k2,.sl tI l2 f2],.dead]⟩)
  (fun m=>m≤l.length∧∀ j,j<m→fitR ((j+1:Nat):Int) (leastP l I j) (mkA k1 l1 k2 l2)=true) (fun m=>l.length - m) 0 ⟨Nat.zero_le _,fun j h=>absurd h (by omega)⟩ (Turn.le (by simp -dsimp -implicitDefEqProofs)) ?_
 rintro m ⟨hm,hj⟩
 have hl0:leastP l I 0=l[I].2.1:=by
  unfold leastP
  rw [if_neg (by rintro ⟨h,_⟩; omega),List.getElem?_eq_getElem hIl]; rfl
 rcases Nat.lt_or_ge m l.length with hml | hge
 ·
  have hstep:fitR ((m:Int)+1) (leastP l I m) (mkA k1 l1 k2 l2)=true→∀ j,j<m+1→fitR ((j+1:Nat):Int) (leastP l I j) (mkA k1 l1 k2 l2)=true:=fun h j hjm=>by
   rcases Nat.lt_succ_iff_lt_or_eq.1 hjm with h' | rfl
   ·
    exact hj j h'
   ·
    exact h
  have hno:fitR ((m:Int)+1) (leastP l I m) (mkA k1 l1 k2 l2)=false→closV l k1 l1 k2 l2 no=false∧0=closE l k1 l1 k2 l2 no:=fun h=>by
   have:=hcf fun q=>by
    have:=q m hml
    rw [show (((m+1:Nat)):Int)=(m:Int)+1 by omega,h] at this
    cases this
   exact ⟨this.1,this.2.symm⟩
  rcases Nat.eq_zero_or_pos m with rfl | hm0
  ·
   rw [hl0] at hstep hno
   simp -dsimp -implicitDefEqProofs [conClosed_eq,hml,hIl,-Prod.exists,-Prod.forall,-Bool.forall_bool,-Bool.exists_bool,fa23_all,fa23_S,inI64]
   refine ⟨⟨hokI,lvl_ok0 hl⟩,fun h=>hno h,fun h=>⟨1,⟨by omega,?_⟩,by omega,TurnT.trunc X0_ok (hp:=[_,_]) (junk:=[_]) (by simp) (by simp only [List.length_cons,List.length_nil,List.all_cons,List.all_nil,arr_below,Bool.and_true] <;> simp [Blk.below,SV.below]) (by simp -dsimp -implicitDefEqProofs []) (by simp [envBelow,RV.below,AV.below,SV.below])⟩⟩
   exact hstep h
  ·
   obtain ⟨p,hp⟩:∃ p,o[l.length - 1 - m]?.getD (0,((false,[],()),(false,[],()),()),())=p:=⟨_,rfl⟩
   have hpo:okT p:=by
    rw [← hp,List.getElem?_eq_getElem (by omega)]
    exact hoo _ (List.getElem_mem _)
   have hlm:leastP l I m=if ratCmp p.2.1.1.1 p.2.1.1.2.1 p.2.1.2.1.2.1 l[I].2.1.1.1 l[I].2.1.1.2.1 l[I].2.1.2.1.2.1<0 then p.2.1 else l[I].2.1:=by
    unfold leastP
    rw [← ho,hol,List.getElem?_eq_getElem hIl,show o[l.length - 1 - m]?.getD dT=p from hp]
    by_cases hc:cmpR p.2.1 l[I].2.1<0
    ·
     rw [if_pos ⟨hm0,hc⟩,if_pos (show ratCmp _ _ _ _ _ _<0 from hc)]
    ·
     rw [if_neg (fun q=>hc q.2),if_neg (show ¬ ratCmp _ _ _ _ _ _<0 from hc)]; rfl
   simp -dsimp -implicitDefEqProofs [conClosed_eq,hml,hm0,hIl,hol,hp,-Prod.exists,-Prod.forall,-Bool.forall_bool,-Bool.exists_bool,fa23_all,fa23_S,inI64]
   refine ⟨⟨by omega,by omega⟩,⟨by omega,by omega⟩,⟨⟨hpo.1,hokI.1⟩,by have:=hpo.2; have:=hokI.2; omega,by have:=hpo.2; have:=hokI.2; omega⟩,fun hc => ?_,fun hc => ?_⟩
   ·
    rw [if_pos hc] at hlm
    rw [hlm] at hstep hno
    refine ⟨⟨by omega,by omega⟩,⟨⟨by omega,by omega⟩,hpo,lvl_ok0 hl⟩,fun h=>hno h,fun h=>⟨⟨by omega,by omega⟩,m+1,⟨by omega,?_⟩,by omega,?_⟩⟩
    ·
     exact hstep h
    ·
     exact TurnT.trunc X0_ok (hp:=[_,_]) (junk:=[_,_]) (by simp) (by simp only [List.length_cons,List.length_nil,List.all_cons,List.all_nil,arr_below,Bool.and_true] <;> simp [Blk.below,SV.below]) (by simp -dsimp -implicitDefEqProofs) (by simp [envBelow,RV.below,AV.below,SV.below])
   ·
    rw [if_neg (by omega)] at hlm
    rw [hlm] at hstep hno
    refine ⟨⟨by omega,by omega⟩,⟨⟨by omega,by omega⟩,hokI,lvl_ok0 hl⟩,fun h=>hno h,fun h=>⟨⟨by omega,by omega⟩,m+1,⟨by omega,?_⟩,by omega,?_⟩⟩
    ·
     exact hstep h
    ·
     exact TurnT.trunc X0_ok (hp:=[_,_]) (junk:=[_,_]) (by simp) (by simp only [List.length_cons,List.length_nil,List.all_cons,List.all_nil,arr_below,Bool.and_true] <;> simp [Blk.below,SV.below]) (by simp -dsimp -implicitDefEqProofs) (by simp [envBelow,RV.below,AV.below,SV.below])
 ·
  have hn:¬ m<l.length:=by omega
  simp -dsimp -implicitDefEqProofs [conClosed_eq,hn,-Prod.exists,-Prod.forall,-Bool.forall_bool,-Bool.exists_bool,fa23_all,fa23_S,inI64]
  have:=hct fun j hjl=>hj j (by omega)
  exact ⟨this.1,this.2.symm⟩
theorem sorted_ext:∀ {a b:List Int},a.Pairwise (· < ·)→b.Pairwise (· < ·)→(∀ x,x∈a↔x∈b)→a=b
 | [],[],_,_,_=>rfl
 | [],y::b,_,_,h=>by have:=(h y).2 (by simp); cases this
 | x::a,[],_,_,h=>by have:=(h x).1 (by simp); cases this
 | x::a,y::b,ha,hb,h=>by
  obtain ⟨a1,a2⟩:=List.pairwise_cons.1 ha
  obtain ⟨b1,b2⟩:=List.pairwise_cons.1 hb
  have e:x=y:=by
   rcases List.mem_cons.1 ((h x).1 (by simp)) with e | e
   ·
    exact e
   ·
    rcases List.mem_cons.1 ((h y).2 (by simp)) with e' | e'
    ·
     exact e'.symm
    ·
     have:=b1 x e
     have:=a1 y e'
     omega
  subst e
  rw [sorted_ext a2 b2 fun z => ?_]
  constructor
  ·
   intro hz
   rcases List.mem_cons.1 ((h z).1 (by simp [hz])) with e | e
   ·
    have:=a1 z hz; omega
   ·
    exact e
  ·
   intro hz
   rcases List.mem_cons.1 ((h z).2 (by simp [hz])) with e | e
   ·
    have:=b1 z hz; omega
   ·
    exact e
def fa24Γ:=fa23Γ
theorem fa24Γ_ok:OkΓ fa24Γ:=fa23Γ_ok
def fa24E:=fa23E
theorem fa24E_ok:OkE fa24E:=fa23E_ok
def fa24P:=fa23P
theorem fa24P_ok:OkP fa24P:=fa23P_ok
def fa24F:=fa23F
theorem fa24F_ok:OkF fa24F:=fa23F_ok
def fa24_S:=And.intro (And.intro @faT.eq_1 (And.intro @fa24Γ.eq_1 (And.intro @fa24E.eq_1 (And.intro @fa24P.eq_1 (@fa24F.eq_1))))) fa23_S
structure FndS where
 i:Nat
 done:List Bool
def FndS.ok (l s:List tTst.T) (a:tRat.T) (p:FndS):Prop:=p.i≤l.length∧p.done.length=l.length∧(∀ j (h:j<l.length),p.done[j]?.getD false=true↔l[j]∈s.take p.i)∧∀ j (h:j<s.length),j<p.i→fitF ((s.length - j:Nat):Int) s[j] a=true
def fa25Γ:=fa24Γ
theorem fa25Γ_ok:OkΓ fa25Γ:=fa24Γ_ok
def fa25E:=fa24E
theorem fa25E_ok:OkE fa25E:=fa24E_ok
def fa25P:=fa24P
theorem fa25P_ok:OkP fa25P:=fa24P_ok
def fa25F:=fa24F
theorem fa25F_ok:OkF fa25F:=fa24F_ok
def fa25_S:=And.intro (And.intro @faT.eq_1 (And.intro @fa25Γ.eq_1 (And.intro @fa25E.eq_1 (And.intro @fa25P.eq_1 (@fa25F.eq_1))))) fa24_S
def flT:List (TypeId×TD):=[(1,.func),(2,.sc tI),(3,.sc tI),(4,.sc .bool),(5,.sc (.int .u8)),(9,.sc .str),(22,.slice 52 tTst 72),(23,.slice 3 tI 8),(25,.struct tBig),(27,.struct tRat),(30,.sc tI),(34,.func),(38,.arr 32 5 (.int .u8)),(43,.slice 45 (.tree (.cons tI (.cons tI (.cons .str .nil)))) 56),(45,.struct (.cons tI (.cons tI (.cons .str (.cons (.slice (.tree (.cons tI (.cons tI (.cons .str .nil))))) .nil))))),(46,.slice 5 (.int .u8) 1),(52,.struct tTst),(54,.slice 4 .bool 1),(65,.func),(71,.func),(78,.func),(119,.slice 22 (.slice tTst) 24)]
theorem flT_ok (g:G) (hg:g.τ=flT):G.ok prog g:=by
 refine ok_of_all ?_
 rw [hg]
 simp only [flT,List.forall_mem_cons]
 exact ⟨⟨⟨_,_,_,underlying1⟩,by kernel_rfl⟩,
 ⟨by kernel_rfl,rfl,by kernel_rfl,rfl⟩,
 ⟨by kernel_rfl,rfl,by kernel_rfl,rfl⟩,
 ⟨by kernel_rfl,rfl,by kernel_rfl,rfl⟩,
 ⟨by kernel_rfl,rfl,by kernel_rfl,rfl⟩,
 ⟨by kernel_rfl,rfl,by kernel_rfl,rfl⟩,
 ⟨by kernel_rfl,by decide,by kernel_rfl,⟨cellsV (Ty.zcells tTst),by kernel_rfl,by kernel_rfl,by kernel_rfl⟩,by kernel_rfl⟩,
 ⟨by kernel_rfl,by decide,by kernel_rfl,⟨cellsV (Ty.zcells tI),by kernel_rfl,by kernel_rfl,by kernel_rfl⟩,by kernel_rfl⟩,
 ⟨fieldsOf prog 25,by kernel_rfl,by kernel_rfl,by kernel_rfl,by decide,by kernel_rfl⟩,
 ⟨fieldsOf prog 27,by kernel_rfl,by kernel_rfl,by kernel_rfl,by decide,by kernel_rfl⟩,
 ⟨by kernel_rfl,rfl,by kernel_rfl,rfl⟩,
 ⟨⟨_,_,_,underlying34⟩,by kernel_rfl⟩,
 ⟨by kernel_rfl,by kernel_rfl,by kernel_rfl⟩,
 ⟨by kernel_rfl,by decide,by kernel_rfl,⟨cellsV (Ty.zcells (.tree (.cons tI (.cons tI (.cons .str .nil))))),by kernel_rfl,by kernel_rfl,by kernel_rfl⟩,by kernel_rfl⟩,
 ⟨fieldsOf prog 45,by kernel_rfl,by kernel_rfl,by kernel_rfl,by decide,by kernel_rfl⟩,
 ⟨by kernel_rfl,by decide,by kernel_rfl,⟨cellsV (Ty.zcells (.int .u8)),by kernel_rfl,by kernel_rfl,by kernel_rfl⟩,by kernel_rfl⟩,
 ⟨fieldsOf prog 52,by kernel_rfl,by kernel_rfl,by kernel_rfl,by decide,by kernel_rfl⟩,
 ⟨by kernel_rfl,by decide,by kernel_rfl,⟨cellsV (Ty.zcells .bool),by kernel_rfl,by kernel_rfl,by kernel_rfl⟩,by kernel_rfl⟩,
 ⟨⟨_,_,_,underlying65⟩,by kernel_rfl⟩,
 ⟨⟨_,_,_,underlying71⟩,by kernel_rfl⟩,
 ⟨⟨_,_,_,underlying78⟩,by kernel_rfl⟩,
 ⟨by kernel_rfl,by decide,by kernel_rfl,⟨cellsV (Ty.zcells (.slice tTst)),by kernel_rfl,by kernel_rfl,by kernel_rfl⟩,by kernel_rfl⟩,by simp⟩
def fl0Γ:List (FuncId×Con):=(11,conFound)::(13,conClosed)::(25,conFewR)::fa25Γ
theorem fl0Γ_ok:OkΓ fl0Γ:=by
 simp only [OkΓ,fl0Γ,List.forall_mem_cons]
 exact ⟨⟨enters_of func11 (by kernel_rfl) rfl,found_ok⟩,⟨enters_of func13 (by kernel_rfl) rfl,closed_ok⟩,⟨enters_of func25 (by kernel_rfl) rfl,fewr_ok⟩,fa25Γ_ok⟩
def fl0E:=fa25E
theorem fl0E_ok:OkE fl0E:=fa25E_ok
def fl0P:=fa25P
theorem fl0P_ok:OkP fl0P:=fa25P_ok
def fl0F:=fa25F
theorem fl0F_ok:OkF fl0F:=fa25F_ok
def fl0:G:={ τ:=flT,Γ:=fl0Γ,E:=fl0E,Pn:=fl0P,E2:=fl0F }
theorem fl0_good:fl0.good prog:=good_of_all (flT_ok _ rfl) fl0Γ_ok fl0E_ok fl0P_ok fl0F_ok
theorem fl0_all:(∀ t,fl0.td t=(look flT t).getD .other)∧fl0.y=false∧fl0.Γ=fl0Γ∧fl0.E=fl0E∧fl0.Pn=fl0P∧fl0.E2=fl0F∧fl0.fz=[]∧fl0.te=false∧fl0.bo=false∧fl0.pm=false:=⟨fun _=>rfl,rfl,rfl,rfl,rfl,rfl,rfl,rfl,rfl,rfl⟩
def fl0_S:=And.intro (And.intro @flT.eq_1 (And.intro @fl0Γ.eq_1 (And.intro @fl0E.eq_1 (And.intro @fl0P.eq_1 (And.intro @fl0F.eq_1 (And.intro @conFound_eq (And.intro @conClosed_eq (@conFewR_eq)))))))) fa25_S
def conSameI:Con:=⟨fun args=>(match args with
 | [.s (.sl (.int .i64) a _),.s (.sl (.int .i64) b _)]=>True
 | _=>False),fun args=>match args with
 | [.s (.sl (.int .i64) a _),.s (.sl (.int .i64) b _)]=>.v (aB (decide (a=b)))
 | _=>.v (.s .any)⟩
theorem conSameI_eq (a:List (Ty.T tI)) (exa:Bool) (b:List (Ty.T tI)) (exb:Bool):conSameI.pre [.s (.sl tI a exa),.s (.sl tI b exb)]=(True)∧conSameI.val [.s (.sl tI a exa),.s (.sl tI b exb)]=.v (aB (decide (a=b))):=⟨rfl,rfl⟩
theorem samei_ok:PureOk prog 15 conSameI:=by
 refine pureOkD (L:={ live:=[0,1,4,5,10,14,25] }) fl0_good rfl nr_mixed func15 rfl conSameI 2 (by decide) (by kernel_rfl) ?_
 intro args hpre hlens
 simp only [conSameI] at hpre
 split at hpre
 case h_2=>exact hpre.elim
 rename_i a ea b eb
 simp only [lenS] at hlens
 refine ⟨rfl,?_⟩
 simp -dsimp -implicitDefEqProofs [f15,conSameI_eq,fl0_all,fl0_S,inI64]
 change List Int at a; change List Int at b
 refine ⟨fun h e=>h (by rw [e]),fun hlen => ?_⟩
 have hlen':a.length=b.length:=by omega
 refine WpD.loop (L:={ live:=[0,1,4,5,10,14,25] }) fl0_good X0_ok nr_mixed (by kernel_rfl)
  (fun i:Nat=>⟨[(0,vS tI a ea),(1,vS tI b eb),(5,vI i)],[]⟩)
  (fun i=>i≤a.length∧a.take i=b.take i) (fun i=>a.length - i) 0 ⟨Nat.zero_le _,by simp⟩ (Turn.le (by simp -dsimp -implicitDefEqProofs)) ?_
 rintro i ⟨hi,hpre⟩
 rcases Nat.lt_or_ge i a.length with hil | hge
 ·
  have hib:i<b.length:=by omega
  simp -dsimp -implicitDefEqProofs [conSameI_eq,hil,hib,fl0_all,fl0_S,inI64]
  refine ⟨fun h e => ?_,fun h=>⟨⟨by omega,by omega⟩,i+1,⟨by omega,?_⟩,by omega,TurnT.le (by simp -dsimp -implicitDefEqProofs)⟩⟩
  ·
   subst e; exact h rfl
  ·
   rw [List.take_add_one,List.take_add_one,hpre,List.getElem?_eq_getElem hil,List.getElem?_eq_getElem hib,h]
 ·
  obtain rfl:i=a.length:=by omega
  have hn:¬ a.length<a.length:=by omega
  have heq:a=b:=by rwa [List.take_length,hlen',List.take_length] at hpre
  simp -dsimp -implicitDefEqProofs [conSameI_eq,hn,fl0_all,fl0_S,inI64]
  exact heq
def fewT (x:tTst.T):Bool:=fewB x.2.1.1.2.1 20&&fewB x.2.1.2.1.2.1 20
def fewF (l:List tTst.T) (l1 l2:List Int):Bool:=decide (l.length≤8∨64<l.length∧l.length≤70)&&(l.all fewT&&(fewB l1 20&&fewB l2 20))
theorem fewF_not {l:List tTst.T} {l1 l2:List Int} {i:Nat} (h:i<l.length) (hf:fewT l[i]=false):fewF l l1 l2=false:=by
 unfold fewF
 rw [List.all_eq_false.2 ⟨l[i],List.getElem_mem h,by rw [hf]; decide⟩,Bool.false_and,Bool.and_false]
theorem few_dec (n:Nat):(decide ((n:Int)≤8)||decide (64<(n:Int))&&decide ((n:Int)≤70))=decide (n≤8∨64<n∧n≤70):=by
 rw [Bool.eq_iff_iff]
 simp
 omega
def conFewF:Con:=⟨fun args=>(match args with
 | [.s (.sl (.cons (.int .i64) (.cons (.cons (.cons .bool (.cons (.slice (.int .i64)) .nil)) (.cons (.cons .bool (.cons (.slice (.int .i64)) .nil)) .nil)) .nil)) l _),.agg [.bool k1,.sl (.int .i64) l1 _,.bool k2,.sl (.int .i64) l2 _]]=>True
 | _=>False),fun args=>match args with
 | [.s (.sl (.cons (.int .i64) (.cons (.cons (.cons .bool (.cons (.slice (.int .i64)) .nil)) (.cons (.cons .bool (.cons (.slice (.int .i64)) .nil)) .nil)) .nil)) l _),.agg [.bool k1,.sl (.int .i64) l1 _,.bool k2,.sl (.int .i64) l2 _]]=>.v (aB (fewF l l1 l2))
 | _=>.v (.s .any)⟩
theorem conFewF_eq (l:List (Ty.T tTst)) (exl:Bool) (k1:Bool) (l1:List (Ty.T tI)) (exl1:Bool) (k2:Bool) (l2:List (Ty.T tI)) (exl2:Bool):conFewF.pre [.s (.sl tTst l exl),.agg [.bool k1,.sl tI l1 exl1,.bool k2,.sl tI l2 exl2]]=(True)∧conFewF.val [.s (.sl tTst l exl),.agg [.bool k1,.sl tI l1 exl1,.bool k2,.sl tI l2 exl2]]=.v (aB (fewF l l1 l2)):=⟨rfl,rfl⟩
theorem fewf_ok:PureOk prog 10 conFewF:=by
 refine pureOkD (L:={ live:=[0,1,3,4,5,13,22] }) fl0_good rfl nr_mixed func10 rfl conFewF 2 (by decide) (by kernel_rfl) ?_
 intro args hpre hlens
 simp only [conFewF] at hpre
 split at hpre
 case h_2=>exact hpre.elim
 rename_i l el k1 l1 f1 k2 l2 f2
 simp only [lenS] at hlens
 refine ⟨rfl,?_⟩
 simp -dsimp -implicitDefEqProofs [f10,conFewF_eq,fl0_all,fl0_S,inI64]
 change List Int at l1; change List Int at l2
 refine WpD.loop (L:={ live:=[0,1,3,4,5,13,22] }) fl0_good X0_ok nr_mixed (by kernel_rfl)
  (fun i:Nat=>⟨[(0,vS tTst l el),(3,⟨true,.v (.s (.box 0 0))⟩),(5,vI i)],[.cells [.bool k1,.sl tI l1 f1,.bool k2,.sl tI l2 f2]]⟩)
  (fun i=>i≤l.length∧i≤80∧∀ j (h:j<l.length),j<i→fewT l[j]=true) (fun i=>l.length - i) 0 ⟨Nat.zero_le _,Nat.zero_le _,fun j _ h=>absurd h (by omega)⟩ (Turn.le (by simp -dsimp -implicitDefEqProofs)) ?_
 rintro i ⟨hi,hi80,hj⟩
 rcases Nat.lt_or_ge i l.length with hil | hge
 ·
  have hft:fewT l[i]=(fewB l[i].2.1.1.2.1 20&&fewB l[i].2.1.2.1.2.1 20):=rfl
  simp -dsimp -implicitDefEqProofs [conFewF_eq,hil,fl0_all,fl0_S,inI64]
  refine ⟨fun h80=>⟨fun h=>(fewF_not hil (by rw [hft]; rcases h with h | h <;> rw [h] <;> simp)).symm▸rfl,fun h1 h2=>⟨⟨by omega,by omega⟩,i+1,⟨by omega,by omega,fun j q1 q2 => ?_⟩,by omega,TurnT.le (by simp -dsimp -implicitDefEqProofs)⟩⟩,fun h80=>⟨fun h8=>⟨h8,fun h64=>⟨h8,h64⟩⟩,?_⟩⟩
  ·
   rcases Nat.lt_succ_iff_lt_or_eq.1 q2 with h' | rfl
   ·
    exact hj j q1 h'
   ·
    rw [hft,h1,h2]; rfl
  ·
   rw [few_dec]
   unfold fewF
   rw [decide_eq_false (by omega),Bool.false_and,Bool.false_and]
 ·
  have hn:¬ i<l.length:=by omega
  simp -dsimp -implicitDefEqProofs [conFewF_eq,hn,fl0_all,fl0_S,inI64]
  refine ⟨fun h8=>⟨h8,fun h64=>⟨h8,h64⟩⟩,?_⟩
  rw [few_dec]
  unfold fewF
  rw [List.all_eq_true.2 fun x hx => ?_,Bool.true_and]
  obtain ⟨j,hjl,rfl⟩:=List.mem_iff_getElem.1 hx
  exact hj j hjl (by omega)
def conNum:Con:=⟨fun args=>(match args with
 | [.s (.int .i64 n),.s (.int .i64 d)]=>(0≤n∧n<9223372036854775808)∧0<d∧d<9223372036854775808
 | _=>False),fun args=>match args with
 | [.s (.int _ n),.s (.int _ d)]=>.v (.agg [.bool false,.sl tI (lowN n.natAbs d.natAbs) false,.bool false,.sl tI (lowD n.natAbs d.natAbs) false])
 | _=>.v (.s .any)⟩
theorem conNum_eq (n:Int) (d:Int):conNum.pre [.s (.int .i64 n),.s (.int .i64 d)]=((0≤n∧n<9223372036854775808)∧0<d∧d<9223372036854775808)∧conNum.val [.s (.int .i64 n),.s (.int .i64 d)]=.v (.agg [.bool false,.sl tI (lowN n.natAbs d.natAbs) false,.bool false,.sl tI (lowD n.natAbs d.natAbs) false]):=⟨rfl,rfl⟩
theorem num_ok:PureOk prog 23 conNum:=by
 refine pureOkD (L:={ live:=[0,1,4,5] }) fl0_good rfl nr_mixed func23 rfl conNum 2 (by decide) (by kernel_rfl) ?_
 intro args hpre hlens
 simp only [conNum] at hpre
 split at hpre
 case h_2=>exact hpre.elim
 rename_i n d
 simp only [lenS] at hlens
 refine ⟨rfl,?_⟩
 simp -dsimp -implicitDefEqProofs [f23,conNum_eq,fl0_all,fl0_S,inI64]
 exact hpre
def conComE:Con:=⟨fun args=>(match args with
 | [.s (.sl (.int .i64) nos _),.agg [.bool k1,.sl (.int .i64) l1 _,.bool k2,.sl (.int .i64) l2 _]]=>nos.length≤64∧(¬ okNos nos∨okNos nos∧lvlE k1 l1 k2 l2≠0)
 | _=>False),fun args=>match args with
 | [.s (.sl (.int .i64) nos _),.agg [.bool k1,.sl (.int .i64) l1 _,.bool k2,.sl (.int .i64) l2 _]]=>.tup [.agg (List.replicate 32 (.int .u8 0)),aI (if okNos nos then lvlE k1 l1 k2 l2 else 430)]
 | _=>.v (.s .any)⟩
theorem conComE_eq (nos:List (Ty.T tI)) (exnos:Bool) (k1:Bool) (l1:List (Ty.T tI)) (exl1:Bool) (k2:Bool) (l2:List (Ty.T tI)) (exl2:Bool):conComE.pre [.s (.sl tI nos exnos),.agg [.bool k1,.sl tI l1 exl1,.bool k2,.sl tI l2 exl2]]=(nos.length≤64∧(¬ okNos nos∨okNos nos∧lvlE k1 l1 k2 l2≠0))∧conComE.val [.s (.sl tI nos exnos),.agg [.bool k1,.sl tI l1 exl1,.bool k2,.sl tI l2 exl2]]=.tup [.agg (List.replicate 32 (.int .u8 0)),aI (if okNos nos then lvlE k1 l1 k2 l2 else 430)]:=⟨rfl,rfl⟩
theorem come_ok:PureOk prog 16 conComE:=by
 refine pureOkD (L:={ live:=[0,1,3,4,5,6,8,9,10,14,18,23,27,28,29,30,47] }) fl0_good rfl nr_mixed func16 rfl conComE 2 (by decide) (by kernel_rfl) ?_
 intro args hpre hlens
 simp only [conComE] at hpre
 split at hpre
 case h_2=>exact hpre.elim
 rename_i nos en k1 l1 f1 k2 l2 f2
 simp only [lenS] at hlens
 refine ⟨rfl,?_⟩
 simp -dsimp -implicitDefEqProofs [f16,conComE_eq,fl0_all,fl0_S,inI64]
 obtain ⟨h1,h2⟩:=hpre
 refine ⟨fun h=>by omega,fun _=>⟨fun h h'=>absurd h' h,fun h=>⟨fun _ h'=>absurd h h',?_⟩⟩⟩
 rcases h2 with h2 | h2
 ·
  exact absurd h h2
 ·
  exact fun h0=>absurd h0 h2.2
theorem dig_small {n:Nat} (h0:0<n) (h:n<1073741824):dig n=[(n:Int)]:=by
 rw [dig_pos (by omega),Nat.mod_eq_of_lt h,Nat.div_eq_of_lt h,dig_zero]
theorem lowN_1 (d:Nat):lowN 1 d=[1]:=by unfold lowN; rw [Nat.gcd_one_left,Nat.div_one,dig_one]
theorem lowD_1 {d:Nat} (h0:0<d) (h:d<1073741824):lowD 1 d=[(d:Int)]:=by unfold lowD; rw [Nat.gcd_one_left,Nat.div_one,dig_small h0 h]
theorem lowN_0:lowN 0 1=[]:=by rw [lowN_one,dig_zero]
theorem lowD_0:lowD 0 1=[1]:=lowD_one 0
theorem okBig_small {n:Nat} (h0:0<n) (h:n<1073741824):okBig false [(n:Int)]:=by
 rw [← dig_small h0 h]
 exact okBig_dig (k:=1) (by omega) (by decide)
theorem vl_small (n:Nat):vl [(n:Int)]=n:=by rw [vl_one]; rfl
theorem okS_q {d:Nat} (h0:0<d) (h:d<1073741824):okS false [1] false [(d:Int)] :=
 ⟨⟨okBig_one,okBig_small h0 h,rfl,by simp,by rw [vl_one1,Nat.gcd_one_left]⟩,by simp,by simp⟩
theorem okS_z:okS false [] false [1]:=by
 have:=okRat_whole (n:=0) (by omega)
 rw [dig_zero] at this
 exact ⟨this,by simp,by simp⟩
abbrev tq (no d:Int):tTst.T:=(no,((false,[1],()),(false,[d],()),()),())
theorem tq_ok (no:Int) {d:Nat} (h0:0<d) (h:d<1073741824):tstOk (tq no d):=by
 refine ⟨okS_q h0 h,?_,?_⟩
 ·
  show 0≤sgn false [1]
  rw [sgn_false,vl_one1]; decide
 ·
  show sgn false [1]≤(vl [(d:Int)]:Int)
  rw [sgn_false,vl_one1,vl_small]; omega
theorem fitB_q (n:Int) (d e:Nat):fitB n false [1] [(d:Int)] false [1] [(e:Int)]=decide (n*(e:Int)≤d):=by
 unfold fitB
 rw [sgn_false,vl_one1,vl_small,vl_small]
 simp
theorem lvl_q {d:Nat} (h0:0<d) (h:d<1073741824):lvlE false [1] false [(d:Int)]=0:=by
 rw [lvlE_0]
 refine ⟨okS_q h0 h,?_,?_⟩
 ·
  rw [sgn_false,vl_one1]; decide
 ·
  rw [sgn_false,vl_one1,vl_small]; omega
theorem lvl_z:lvlE false [] false [1]=1:=lvlE_1 okS_z (by rw [sgn_false]; simp [vl])
theorem cmp_q (no d no' d':Int) (h:0≤d) (h':0≤d'):cmpR (tq no d).2.1 (tq no' d').2.1=cmpZ d' d:=by
 show cmpZ (sgn false [1]*(vl [d']:Int)) (sgn false [1]*(vl [d]:Int))=_
 rw [sgn_false,vl_one1,vl_one,vl_one]
 congr 1 <;> omega
theorem fam3:famP [tq 1 100,tq 2 40,tq 3 30]:=by
 refine ⟨fun j hj => ?_,fun x hx => ?_⟩
 ·
  have:j=0∨j=1∨j=2:=by simp [nosL] at hj; omega
  rcases this with rfl | rfl | rfl <;> simp [nosAt,nosL]
 ·
  simp only [List.mem_cons,List.not_mem_nil,or_false] at hx
  rcases hx with rfl | rfl | rfl
  ·
   exact tq_ok 1 (d:=100) (by decide) (by decide)
  ·
   exact tq_ok 2 (d:=40) (by decide) (by decide)
  ·
   exact tq_ok 3 (d:=30) (by decide) (by decide)
theorem fam2:famP [tq 4 30,tq 5 30]:=by
 refine ⟨fun j hj => ?_,fun x hx => ?_⟩
 ·
  have:j=0∨j=1:=by simp [nosL] at hj; omega
  rcases this with rfl | rfl <;> simp [nosAt,nosL]
 ·
  simp only [List.mem_cons,List.not_mem_nil,or_false] at hx
  rcases hx with rfl | rfl
  ·
   exact tq_ok 4 (d:=30) (by decide) (by decide)
  ·
   exact tq_ok 5 (d:=30) (by decide) (by decide)
theorem fam1:famP [tq 7 20]:=by
 refine ⟨fun j hj => ?_,fun x hx => ?_⟩
 ·
  have:j=0:=by simp [nosL] at hj; omega
  subst this
  simp [nosAt,nosL]
 ·
  simp only [List.mem_cons,List.not_mem_nil,or_false] at hx
  subst hx
  exact tq_ok 7 (d:=20) (by decide) (by decide)
theorem fam0:famP []:=⟨fun j hj=>by simp [nosL] at hj,fun x hx=>by cases hx⟩
theorem famz:famP [(0,((false,[],()),(false,[1],()),()),())]:=by
 refine ⟨fun j hj => ?_,fun x hx => ?_⟩
 ·
  have:j=0:=by simp [nosL] at hj; omega
  subst this
  simp [nosAt,nosL]
 ·
  simp only [List.mem_cons,List.not_mem_nil,or_false] at hx
  subst hx
  refine ⟨okS_z,?_,?_⟩
  ·
   show 0≤sgn false []
   rw [sgn_false]; simp [vl]
  ·
   show sgn false []≤(vl [1]:Int)
   rw [sgn_false,vl_one1]; simp [vl]
theorem lvl20:lvlE false [1] false [20]=0:=lvl_q (d:=20) (by decide) (by decide)
theorem c3:chkF [tq 1 100,tq 2 40,tq 3 30] false [1] false [20]=0:=chkF_0.2 ⟨by decide,fam3,lvl20⟩
theorem c2:chkF [tq 4 30,tq 5 30] false [1] false [20]=0:=chkF_0.2 ⟨by decide,fam2,lvl20⟩
theorem c1:chkF [tq 7 20] false [1] false [20]=0:=chkF_0.2 ⟨by decide,fam1,lvl20⟩
theorem c0:chkF [] false [1] false [20]=0:=chkF_0.2 ⟨by decide,fam0,lvl20⟩
theorem cz:chkF [(0,((false,[],()),(false,[1],()),()),())] false [] false [1]=1:=by rw [chkF_l (by decide) famz,lvl_z]
theorem sort_q {l:List tTst.T} (hf:famP l) (h:l.Pairwise fun x y=>befT x y≤0):sortT l=l:=(sortT_eq (fam_ok hf).1 (fam_ok hf).2 (List.Perm.refl _) h).symm
theorem bef_q (no d no' d':Int) (h0:0≤d) (h0':0≤d') (h:d'<d):befT (tq no d) (tq no' d')≤0:=by
 rw [befT_eq,cmp_q _ _ _ _ h0 h0',cmpZ_lt h,if_neg (by decide)]; decide
theorem bef_q' (no d no':Int) (h0:0≤d) (h:no<no'):befT (tq no d) (tq no' d)≤0:=by
 rw [befT_eq,cmp_q _ _ _ _ h0 h0,cmpZ_zero.2 rfl,if_pos rfl]
 show cmpZ no no'≤0
 rw [cmpZ_lt h]; decide
theorem isort_id {l:List Int} (h:l.Pairwise (· < ·)):isort l=l :=
 sorted_ext (((isort_sorted l).and ((isort_perm l).nodup_iff.2 (h.imp fun {a b} hab e=>by omega))).imp fun {a b} q=>by have:=q.1; have:=q.2; omega) h fun x=>(isort_perm l).mem_iff
theorem s3:sortT [tq 1 100,tq 2 40,tq 3 30]=[tq 1 100,tq 2 40,tq 3 30]:=sort_q fam3 (by
 simp only [List.pairwise_cons,List.mem_cons,List.not_mem_nil,or_false,forall_eq_or_imp,forall_eq,false_implies,implies_true,List.Pairwise.nil,and_true]
 exact ⟨⟨bef_q _ _ _ _ (by decide) (by decide) (by decide),bef_q _ _ _ _ (by decide) (by decide) (by decide)⟩,bef_q _ _ _ _ (by decide) (by decide) (by decide)⟩)
theorem s2:sortT [tq 4 30,tq 5 30]=[tq 4 30,tq 5 30]:=sort_q fam2 (by
 simp only [List.pairwise_cons,List.mem_cons,List.not_mem_nil,or_false,forall_eq,false_implies,implies_true,List.Pairwise.nil,and_true]
 exact bef_q' _ _ _ (by decide) (by decide))
theorem fitF_q (n:Int) (no:Int) (d:Nat):fitF n (tq no d) (mkA false [1] false [20])=decide (n*20≤(d:Int)):=fitB_q n d 20
theorem f3:foundV [tq 1 100,tq 2 40,tq 3 30] false [1] false [20]=[1,2,3]:=by
 rw [foundV_0 c3]
 unfold findL
 rw [s3]
 have e1:fitF ((3:Nat):Int) (tq 1 100) (mkA false [1] false [20])=true:=(fitF_q (3:Nat) 1 100).trans (by decide)
 have e2:fitF ((2:Nat):Int) (tq 2 40) (mkA false [1] false [20])=true:=(fitF_q (2:Nat) 2 40).trans (by decide)
 have e3:fitF ((1:Nat):Int) (tq 3 30) (mkA false [1] false [20])=true:=(fitF_q (1:Nat) 3 30).trans (by decide)
 have hl:leadF (mkA false [1] false [20]) 3 [tq 1 100,tq 2 40,tq 3 30]=[tq 1 100,tq 2 40,tq 3 30]:=by
  rw [leadF,if_pos e1,leadF,if_pos e2,leadF,if_pos e3,leadF]
 show isort (nosL (leadF _ 3 _))=_
 rw [hl]
 exact isort_id (l:=[1,2,3]) (by simp)
theorem f2:foundV [tq 4 30,tq 5 30] false [1] false [20]=[]:=by
 rw [foundV_0 c2]
 unfold findL
 rw [s2]
 have e1:fitF ((2:Nat):Int) (tq 4 30) (mkA false [1] false [20])=false:=(fitF_q (2:Nat) 4 30).trans (by decide)
 show isort (nosL (leadF _ 2 _))=_
 rw [leadF,if_neg (by rw [e1]; decide)]
 exact isort_id (l:=[]) (by simp)
theorem f1:foundV [tq 7 20] false [1] false [20]=[7]:=by
 rw [foundV_0 c1]
 unfold findL
 rw [sort_q fam1 (by simp)]
 have e1:fitF ((1:Nat):Int) (tq 7 20) (mkA false [1] false [20])=true:=(fitF_q (1:Nat) 7 20).trans (by decide)
 show isort (nosL (leadF _ 1 _))=_
 rw [leadF,if_pos e1,leadF]
 exact isort_id (l:=[7]) (by simp)
theorem f0:foundV [] false [1] false [20]=[]:=by
 rw [foundV_0 c0]
 unfold findL
 rw [sort_q fam0 (by simp),leadF]
 exact isort_id (l:=[]) (by simp)
theorem v2:closV [tq 4 30,tq 5 30] false [1] false [20] 4=false∧closE [tq 4 30,tq 5 30] false [1] false [20] 4=0:=by
 have hi:idxOf (isNo 4) [tq 4 30,tq 5 30]=0:=rfl
 refine clos_f c2 (by rw [hi]; decide) fun h => ?_
 rw [hi] at h
 have h1:=h 1 (by decide)
 have hr:restT [tq 4 30,tq 5 30] 0=[tq 5 30]:=by
  show sortT [tq 5 30]=_
  refine (sortT_eq (fun x hx => ?_) (by simp [nosL]) (List.Perm.refl _) (by simp)).symm
  obtain rfl:=List.mem_singleton.1 hx
  exact okS_q (d:=30) (by decide) (by decide)
 have hl:leastP [tq 4 30,tq 5 30] (0:Int).toNat 1=(tq 4 30).2.1:=by
  show leastP [tq 4 30,tq 5 30] 0 1=_
  unfold leastP
  rw [hr,if_neg]
  ·
   rfl
  ·
   rintro ⟨_,q⟩
   have:cmpR (tq 5 30).2.1 (tq 4 30).2.1<0:=q
   rw [cmp_q _ _ _ _ (by decide) (by decide),cmpZ_zero.2 rfl] at this
   exact absurd this (by decide)
 rw [hl] at h1
 have:=(fitF_q (2:Nat) 4 30).symm.trans h1
 exact absurd this (by decide)
theorem v3:closV [tq 1 100,tq 2 40,tq 3 30] false [1] false [20] 3=true∧closE [tq 1 100,tq 2 40,tq 3 30] false [1] false [20] 3=0:=by
 have hi:idxOf (isNo 3) [tq 1 100,tq 2 40,tq 3 30]=2:=rfl
 refine clos_t c3 (by rw [hi]; decide) ?_
 rw [hi]
 show closB _ _ 2
 have hr:restT [tq 1 100,tq 2 40,tq 3 30] 2=[tq 1 100,tq 2 40]:=by
  show sortT [tq 1 100,tq 2 40]=_
  refine (sortT_eq (fun x hx => ?_) (by simp [nosL]) (List.Perm.refl _) ?_).symm
  ·
   simp only [List.mem_cons,List.not_mem_nil,or_false] at hx
   rcases hx with rfl | rfl
   ·
    exact okS_q (d:=100) (by decide) (by decide)
   ·
    exact okS_q (d:=40) (by decide) (by decide)
  ·
   simp only [List.pairwise_cons,List.mem_cons,List.not_mem_nil,or_false,forall_eq,false_implies,implies_true,List.Pairwise.nil,and_true]
   exact bef_q _ _ _ _ (by decide) (by decide) (by decide)
 intro m hm
 have:m=0∨m=1∨m=2:=by simp at hm; omega
 rcases this with rfl | rfl | rfl
 ·
  have hl:leastP [tq 1 100,tq 2 40,tq 3 30] 2 0=(tq 3 30).2.1:=by
   unfold leastP
   rw [if_neg (by rintro ⟨q,_⟩; omega)]
   rfl
  rw [hl]
  exact (fitF_q (1:Nat) 3 30).trans (by decide)
 ·
  have hl:leastP [tq 1 100,tq 2 40,tq 3 30] 2 1=(tq 2 40).2.1:=by
   unfold leastP
   rw [hr,if_pos]
   ·
    rfl
   ·
    refine ⟨by decide,?_⟩
    show cmpR (tq 2 40).2.1 (tq 3 30).2.1<0
    rw [cmp_q _ _ _ _ (by decide) (by decide),cmpZ_lt (by decide)]; decide
  rw [hl]
  exact (fitF_q (2:Nat) 2 40).trans (by decide)
 ·
  have hl:leastP [tq 1 100,tq 2 40,tq 3 30] 2 2=(tq 1 100).2.1:=by
   unfold leastP
   rw [hr,if_pos]
   ·
    rfl
   ·
    refine ⟨by decide,?_⟩
    show cmpR (tq 1 100).2.1 (tq 3 30).2.1<0
    rw [cmp_q _ _ _ _ (by decide) (by decide),cmpZ_lt (by decide)]; decide
  rw [hl]
  exact (fitF_q (3:Nat) 1 100).trans (by decide)
theorem v0:closV [] false [1] false [20] 3=false∧closE [] false [1] false [20] 3=1:=clos_n c0 (by decide)
theorem n21:¬ okNos [2,1]:=fun h=>by
 have:=(h 1 (by decide)).2 (by decide)
 simp at this
theorem n0:okNos []:=fun j h=>by simp at h
theorem lvlz2:lvlE false [] false []=100:=lvlE_100 fun h=>h.1.2.2.2.1 rfl
def fl1Γ:List (FuncId×Con):=(15,conSameI)::(10,conFewF)::(23,conNum)::(16,conComE)::fl0Γ
theorem fl1Γ_ok:OkΓ fl1Γ:=by
 simp only [OkΓ,fl1Γ,List.forall_mem_cons]
 exact ⟨⟨enters_of func15 (by kernel_rfl) rfl,samei_ok⟩,⟨enters_of func10 (by kernel_rfl) rfl,fewf_ok⟩,⟨enters_of func23 (by kernel_rfl) rfl,num_ok⟩,⟨enters_of func16 (by kernel_rfl) rfl,come_ok⟩,fl0Γ_ok⟩
def fl1E:=fl0E
theorem fl1E_ok:OkE fl1E:=fl0E_ok
def fl1P:=fl0P
theorem fl1P_ok:OkP fl1P:=fl0P_ok
def fl1F:=fl0F
theorem fl1F_ok:OkF fl1F:=fl0F_ok
def fl1:G:={ τ:=flT,Γ:=fl1Γ,E:=fl1E,Pn:=fl1P,E2:=fl1F }
theorem fl1_good:fl1.good prog:=good_of_all (flT_ok _ rfl) fl1Γ_ok fl1E_ok fl1P_ok fl1F_ok
theorem fl1_all:(∀ t,fl1.td t=(look flT t).getD .other)∧fl1.y=false∧fl1.Γ=fl1Γ∧fl1.E=fl1E∧fl1.Pn=fl1P∧fl1.E2=fl1F∧fl1.fz=[]∧fl1.te=false∧fl1.bo=false∧fl1.pm=false:=⟨fun _=>rfl,rfl,rfl,rfl,rfl,rfl,rfl,rfl,rfl,rfl⟩
def fl1_S:=And.intro (And.intro @flT.eq_1 (And.intro @fl1Γ.eq_1 (And.intro @fl1E.eq_1 (And.intro @fl1P.eq_1 (And.intro @fl1F.eq_1 (And.intro @conSameI_eq (And.intro @conFewF_eq (And.intro @conNum_eq (@conComE_eq))))))))) fl0_S
def conSane43:Con:=⟨fun args=>args=[],fun _=>.v (aB true)⟩
theorem conSane43_pre:conSane43.pre []=True:=by simp [conSane43]
theorem conSane43_val:conSane43.val []=.v (aB true):=rfl
theorem sane43_ok:PureOk prog 9 conSane43:=by
 refine pureOkD (L:={ live:=[0,1,2,3,4,5,6,7,9,10,11,12,13,14,16,18,20,21,22,133] }) fl1_good rfl nr_mixed func9 rfl conSane43 0 (by decide) (by kernel_rfl) ?_
 rintro args rfl hlens
 refine ⟨rfl,?_⟩
 have d100:lowD 1 100=[100]:=lowD_1 (by decide) (by decide)
 have d40:lowD 1 40=[40]:=lowD_1 (by decide) (by decide)
 have d30:lowD 1 30=[30]:=lowD_1 (by decide) (by decide)
 have d20:lowD 1 20=[20]:=lowD_1 (by decide) (by decide)
 have n21':okNos [2,1]=False:=eq_false n21
 have n0':okNos []=True:=eq_true n0
 simp (config:={ maxSteps:=3000000 }) -dsimp -implicitDefEqProofs [Tryz.f9,fl1_all,fl1_S,inI64,lowN_1,lowN_0,lowD_0,d100,d40,d30,d20,c3,c2,c1,c0,cz,f3,f2,f1,f0,v2.1,v2.2,v3.1,v3.2,v0.1,v0.2,n21',n0',lvlz2,conSane43_val]
 exact ⟨⟨⟨⟨⟨c3,c0⟩,c1⟩,cz⟩,c2⟩,fun _ _ _ _ _=>⟨⟨⟨f3,f0⟩,f1⟩,f2⟩⟩
def lstV (l:List DV):DV:=mkV 3 0 ByteArray.empty l
def txV (s:ByteArray):DV:=mkV 2 0 s []
def famV (nos:List Int) (s:ByteArray):DV:=lstV [lstV (nos.map intV),txV s]
theorem dep_int (n:Int):depV (intV n)=0:=by rw [depV_eq,intV,wK_mk,if_neg (by decide)]
theorem dep_tx (s:ByteArray):depV (txV s)=0:=by rw [depV_eq,txV,wK_mk,if_neg (by decide)]
theorem dep_lst (l:List DV):depV (lstV l)=maxL (l.map depV)+1:=by rw [depV_eq,lstV,wK_mk,if_pos rfl,wL_mk]
theorem dep_ints (nos:List Int):depV (lstV (nos.map intV))=1:=by
 rw [dep_lst]
 have:maxL ((nos.map intV).map depV)≤0:=maxL_le.2 fun x hx=>by
  simp only [List.map_map,List.mem_map,Function.comp] at hx
  obtain ⟨n,_,rfl⟩:=hx
  rw [dep_int]; exact Nat.le_refl _
 omega
theorem dep_fam (nos:List Int) (s:ByteArray):depV (famV nos s)=2:=by
 rw [famV,dep_lst]
 show maxL [depV (lstV (nos.map intV)),depV (txV s)]+1=2
 rw [dep_ints,dep_tx]; rfl
theorem form_int (n:Int):formV (intV n)=true:=by rw [formV_eq,intV,wK_mk,if_pos rfl,wS_mk,wL_mk]; rfl
theorem form_tx (s:ByteArray):formV (txV s)=true:=by rw [formV_eq,txV,wK_mk,if_neg (by decide),if_pos rfl,wN_mk,wL_mk]; rfl
theorem form_lst {l:List DV} (h:∀ x∈l,formV x=true):formV (lstV l)=true:=by
 rw [formV_eq,lstV,wK_mk,if_neg (by decide),if_neg (by decide),if_pos rfl,wN_mk,wS_mk,wL_mk,List.all_eq_true.2 h]; rfl
theorem form_fam (nos:List Int) (s:ByteArray):formV (famV nos s)=true:=form_lst fun x hx=>by
 simp only [List.mem_cons,List.not_mem_nil,or_false] at hx
 rcases hx with rfl | rfl
 ·
  refine form_lst fun x hx => ?_
  obtain ⟨n,_,rfl⟩:=List.mem_map.1 hx
  exact form_int n
 ·
  exact form_tx s
theorem rng_fam {nos:List Int} (s:ByteArray) (h:∀ n∈nos,inI64 n):RngV (famV nos s):=by
 have h0:inI64 0:=by unfold inI64; omega
 refine .mk _ (by rw [famV,lstV,wN_mk]; exact h0) fun y hy => ?_
 rw [famV,lstV,wL_mk] at hy
 simp only [List.mem_cons,List.not_mem_nil,or_false] at hy
 rcases hy with rfl | rfl
 ·
  refine .mk _ (by rw [lstV,wN_mk]; exact h0) fun y hy => ?_
  rw [lstV,wL_mk] at hy
  obtain ⟨n,hn,rfl⟩:=List.mem_map.1 hy
  refine .mk _ (by rw [intV,wN_mk]; exact h n hn) fun y hy => ?_
  rw [intV,wL_mk] at hy
  cases hy
 ·
  refine .mk _ (by rw [txV,wN_mk]; exact h0) fun y hy => ?_
  rw [txV,wL_mk] at hy
  cases hy
theorem enc_int (n:Int):encL (intV n)=1::numL (unsV n):=by rw [encL_eq,intV,wK_mk,if_pos rfl,wN_mk]
theorem enc_tx (s:ByteArray):encL (txV s)=2::(numL s.size++strL s):=by rw [encL_eq,txV,wK_mk,if_neg (by decide),if_pos rfl,wS_mk]
theorem enc_lst (l:List DV):encL (lstV l)=3::(numL l.length++l.flatMap encL):=by rw [encL_eq,lstV,wK_mk,if_neg (by decide),if_neg (by decide),wL_mk]
theorem enc_ints_len:∀ {nos:List Int},(∀ n∈nos,inI64 n)→((nos.map intV).flatMap encL).length≤11*nos.length
 | [],_=>Nat.le_refl _
 | n::nos,h=>by
  have ih:=enc_ints_len fun k hk=>h k (List.mem_cons_of_mem _ hk)
  have hn:=h n List.mem_cons_self
  have:=numL_len64 (unsV_lt (n:=n) (by unfold inI64 at hn; omega))
  rw [List.map_cons,List.flatMap_cons,List.length_append,enc_int,List.length_cons,List.length_cons]
  omega
theorem enc_fam_len {nos:List Int} {s:ByteArray} (h:∀ n∈nos,inI64 n) (hl:nos.length≤1000) (hs:s.size≤300000):(encL (famV nos s)).length≤400000:=by
 have h1:=enc_ints_len h
 have h2:=numL_len64 (u:=(nos.map intV).length) (by rw [List.length_map]; omega)
 have h3:=numL_len64 (u:=s.size) (by omega)
 have h4:(numL 2).length=1:=by rw [numL_small (by decide)]; rfl
 have h5:(strL s).length=s.size:=strL_length s
 rw [famV,enc_lst]
 simp only [List.length_cons,List.length_append,List.flatMap_cons,List.flatMap_nil,List.append_nil,List.length_nil,enc_lst,enc_tx,Nat.zero_add,Nat.reduceAdd,h4]
 omega
theorem numL_in8 (u:Nat):∀ c∈numL u,in8 c:=fun c hc=>by have:=numL_ok u c hc; unfold in8; omega
theorem enc_fam_in8 (nos:List Int) (s:ByteArray):∀ c∈encL (famV nos s),in8 c:=by
 intro c hc
 rw [famV,enc_lst] at hc
 simp only [List.mem_cons,List.mem_append,List.flatMap_cons,List.flatMap_nil,List.append_nil,List.not_mem_nil,or_false,enc_lst,enc_tx,List.mem_flatMap,List.mem_map] at hc
 rcases hc with rfl | hc | (rfl | hc | ⟨x,⟨n,_,rfl⟩,hc⟩) | (rfl | hc | hc)
 ·
  unfold in8; omega
 ·
  exact numL_in8 _ c hc
 ·
  unfold in8; omega
 ·
  exact numL_in8 _ c hc
 ·
  rw [enc_int,List.mem_cons] at hc
  rcases hc with rfl | hc
  ·
   unfold in8; omega
  ·
   exact numL_in8 _ c hc
 ·
  unfold in8; omega
 ·
  exact numL_in8 _ c hc
 ·
  exact strL_in8 s c hc
theorem rtx_size {n1:Bool} {m1:List Int} {n2:Bool} {m2:List Int} (h:okRat n1 m1 n2 m2):(bytesS (rtxL n1 m1 m2)).size≤300000:=by
 have h1:=txtL_len h.1
 have h2:=txtL_len h.2.1
 have hp:0<vl m2:=(vl_pos h.2.1.1).2 (List.length_pos_iff.2 h.2.2.2.1)
 have e:n2=false:=h.2.2.1
 rw [e,txtL_den hp] at h2
 rw [bytesS_size,rtxL,List.length_append]
 split <;> simp <;> omega
theorem nos_in {nos:List Int} (h:okNos nos):∀ n∈nos,inI64 n:=by
 intro n hn
 obtain ⟨j,hj,rfl⟩:=List.mem_iff_getElem.1 hn
 have:=(h j hj).1
 rw [List.getElem?_eq_getElem hj] at this
 simp only [Option.getD_some] at this
 unfold inI64
 omega
def sFam:ByteArray:=⟨#[102,97,109,105,108,121]⟩
def comL (nos:List Int) (k1:Bool) (l1 l2:List Int):List Int:=tagL sFam (encL (famV nos (bytesS (rtxL k1 l1 l2))))
def comE (nos:List Int) (k1:Bool) (l1:List Int) (k2:Bool) (l2:List Int):Int:=if 64<nos.length then 2 else if okNos nos then lvlE k1 l1 k2 l2 else 430
def comD (nos:List Int) (k1:Bool) (l1:List Int) (k2:Bool) (l2:List Int):List Int:=if comE nos k1 l1 k2 l2=0 then comL nos k1 l1 l2 else zz 32
theorem comE_0 {nos:List Int} {k1:Bool} {l1:List Int} {k2:Bool} {l2:List Int}:comE nos k1 l1 k2 l2=0↔nos.length≤64∧okNos nos∧lvlE k1 l1 k2 l2=0:=by
 unfold comE
 split
 ·
  constructor
  ·
   intro h; cases h
  ·
   intro h; omega
 ·
  split
  ·
   constructor
   ·
    intro h; exact ⟨by omega,by assumption,h⟩
   ·
    intro h; exact h.2.2
  ·
   constructor
   ·
    intro h; cases h
   ·
    intro h; exact absurd h.2.1 (by assumption)
abbrev tDig:Ty:=.reps 32 (.int .u8)
theorem eq_dig:EqOk prog 38 tDig:=eq_ints (e:=5) (by kernel_rfl) (by kernel_rfl) (Option.eq_some_of_isSome (by kernel_rfl)) (by kernel_rfl) (by kernel_rfl)
theorem Turn.frzBox {P:Program} {g:G} {X:XT} {N:Nat} (hX:XOk P X) {s:St} {b off id n:Nat} {bc:List SV} {al:Bool} {t:Ty} {xs:List t.T} (hb:Blk.look s.hp b=.cells bc) (ho:bc[off]?=some (.own t id n)) (hn:n=xs.length) (hl:Blk.look s.hp id=.arr al (t.flats xs)) :
  Turn P g X N s ⟨s.e,(s.hp.set b (.cells (bc.set off (.sl t xs false)))).set id .dead⟩:=by
 subst hn
 intro n0 w M0 bs a hr
 have hne:b≠id:=fun e=>by subst e; rw [hb] at hl; cases hl
 have hidl:id<s.hp.length:=look_lt (by rw [hl]; simp)
 have hbl:b<s.hp.length:=look_lt (by rw [hb]; simp)
 obtain ⟨k1,k2,k3,k4⟩:=freeze_blk hX hr.hr hr.xr hl
 have hb':Blk.look (s.hp.set id .dead) b=.cells bc:=by rw [look_set id _ b hidl,if_neg hne]; exact hb
 obtain ⟨bb,cur,e,c1,c2,c3,c4⟩:=hr.hr.cells b bc hb
 obtain ⟨u0,u1,u2,u3⟩:=c4 off _ ho
 have hu:=k4 _ u3
 obtain ⟨j1,j2⟩:=k1.rewrite (id:=b) (b:=bb) (by rw [at_set id _ b (by rw [hr.hr.len]; exact hidl),if_neg hne]; exact c1) (Evo.refl _ _) (fun _ _ _=>rfl) c2 (.cells (bc.set off (.sl t xs false)))
  ⟨cur,e,rfl,by simp; omega,fun j y hj=>by
   rw [List.getElem?_set] at hj
   split at hj
   ·
    rename_i e; subst e
    split at hj
    ·
     injection hj with hj; subst hj; exact ⟨u0,u1,u2,hu⟩
    ·
     cases hj
   ·
    obtain ⟨u,q1,q2,q3⟩:=c4 j y hj
    exact ⟨u,q1,q2,relSV_step k3 _ _ q3⟩⟩ (by rw [hb']; trivial)
 have hcomm:(s.hp.set id .dead).set b (.cells (bc.set off (.sl t xs false)))=(s.hp.set b (.cells (bc.set off (.sl t xs false)))).set id .dead:=by
  rw [List.set_comm _ _ hne.symm]
 rw [hcomm] at j1 j2
 have hst:=k3.trans j2
 have hx:XR X w M0 (bs.set id none) ((s.hp.set b (.cells (bc.set off (.sl t xs false)))).set id .dead):=fun l ys i st ht=>k2 l ys i st ((j2.only rfl).tr 0 l ys i st ht)
 exact ⟨_,⟨j1,hx,relEnv_step hst hr.env,hr.size,hr.df.evo hst.evo⟩,⟨j1,hx,hst.weaken,fun _=>rfl⟩⟩
def crT:List (TypeId×TD):=[(1,.func),(2,.sc tI),(3,.sc tI),(4,.sc .bool),(5,.sc (.int .u8)),(6,.sc (.int .u8)),(7,.struct (.cons tI (.cons tI (.cons .bool (.cons (.int .u8) .nil))))),(8,.struct (.cons tI (.cons tI (.cons .bool (.cons (.int .u8) .nil))))),(9,.sc .str),(10,.sc .str),(11,.sc .str),(12,.sc (.int .u64)),(13,.struct (.cons .str (.cons (.int .u64) .nil))),(14,.struct (.cons .str (.cons (.int .u64) .nil))),(15,.ptr),(16,.ptr),(17,.ptr),(21,.sc (.int .i32)),(22,.slice 52 tTst 72),(23,.slice 3 tI 8),(24,.struct tBig),(25,.struct tBig),(26,.struct tRat),(27,.struct tRat),(28,.func),(29,.func),(30,.sc tI),(32,.func),(34,.func),(35,.func),(36,.func),(37,.arr 32 5 (.int .u8)),(38,.arr 32 5 (.int .u8)),(40,.func),(42,.func),(43,.slice 45 (.tree (.cons tI (.cons tI (.cons .str .nil)))) 56),(44,.struct (.cons tI (.cons tI (.cons .str (.cons (.slice (.tree (.cons tI (.cons tI (.cons .str .nil))))) .nil))))),(45,.struct (.cons tI (.cons tI (.cons .str (.cons (.slice (.tree (.cons tI (.cons tI (.cons .str .nil))))) .nil))))),(46,.slice 5 (.int .u8) 1),(48,.func),(49,.func),(50,.func),(51,.struct tTst),(52,.struct tTst),(53,.func),(54,.slice 4 .bool 1),(56,.func),(57,.func),(59,.func),(60,.func),(61,.func),(62,.func),(63,.func),(65,.func),(71,.func),(78,.func),(90,.func),(92,.struct (.cons .fn .nil)),(93,.ptr),(99,.struct (.cons tRat .nil)),(100,.struct (.cons tRat .nil)),(119,.slice 22 (.slice tTst) 24),(129,.func),(134,.arr 4 92 (.cons .fn .nil)),(136,.sc (.int .u64)),(138,.sc (.int .u32)),(139,.arr 8 138 (.int .u32)),(140,.arr 8 138 (.int .u32)),(142,.slice 46 (.slice (.int .u8)) 24),(156,.sc (.int .u64)),(182,.arr 4 4 .bool),(183,.ptr),(184,.arr 64 138 (.int .u32)),(188,.slice 138 (.int .u32) 4),(1000038,.eqs tDig)]
theorem crT_ok (g:G) (hg:g.τ=crT):G.ok prog g:=by
 refine ok_of_all ?_
 rw [hg]
 simp only [crT,List.forall_mem_cons]
 exact ⟨⟨⟨_,_,_,underlying1⟩,by kernel_rfl⟩,
 ⟨by kernel_rfl,rfl,by kernel_rfl,rfl⟩,
 ⟨by kernel_rfl,rfl,by kernel_rfl,rfl⟩,
 ⟨by kernel_rfl,rfl,by kernel_rfl,rfl⟩,
 ⟨by kernel_rfl,rfl,by kernel_rfl,rfl⟩,
 ⟨by kernel_rfl,rfl,by kernel_rfl,rfl⟩,
 ⟨fieldsOf prog 7,by kernel_rfl,by kernel_rfl,by kernel_rfl,by decide,by kernel_rfl⟩,
 ⟨fieldsOf prog 8,by kernel_rfl,by kernel_rfl,by kernel_rfl,by decide,by kernel_rfl⟩,
 ⟨by kernel_rfl,rfl,by kernel_rfl,rfl⟩,
 ⟨by kernel_rfl,rfl,by kernel_rfl,rfl⟩,
 ⟨by kernel_rfl,rfl,by kernel_rfl,rfl⟩,
 ⟨by kernel_rfl,rfl,by kernel_rfl,rfl⟩,
 ⟨fieldsOf prog 13,by kernel_rfl,by kernel_rfl,by kernel_rfl,by decide,by kernel_rfl⟩,
 ⟨fieldsOf prog 14,by kernel_rfl,by kernel_rfl,by kernel_rfl,by decide,by kernel_rfl⟩,
 ⟨⟨_,underlying15⟩,by kernel_rfl⟩,
 ⟨⟨_,underlying16⟩,by kernel_rfl⟩,
 ⟨⟨_,underlying17⟩,by kernel_rfl⟩,
 ⟨by kernel_rfl,rfl,by kernel_rfl,rfl⟩,
 ⟨by kernel_rfl,by decide,by kernel_rfl,⟨cellsV (Ty.zcells tTst),by kernel_rfl,by kernel_rfl,by kernel_rfl⟩,by kernel_rfl⟩,
 ⟨by kernel_rfl,by decide,by kernel_rfl,⟨cellsV (Ty.zcells tI),by kernel_rfl,by kernel_rfl,by kernel_rfl⟩,by kernel_rfl⟩,
 ⟨fieldsOf prog 24,by kernel_rfl,by kernel_rfl,by kernel_rfl,by decide,by kernel_rfl⟩,
 ⟨fieldsOf prog 25,by kernel_rfl,by kernel_rfl,by kernel_rfl,by decide,by kernel_rfl⟩,
 ⟨fieldsOf prog 26,by kernel_rfl,by kernel_rfl,by kernel_rfl,by decide,by kernel_rfl⟩,
 ⟨fieldsOf prog 27,by kernel_rfl,by kernel_rfl,by kernel_rfl,by decide,by kernel_rfl⟩,
 ⟨⟨_,_,_,underlying28⟩,by kernel_rfl⟩,
 ⟨⟨_,_,_,underlying29⟩,by kernel_rfl⟩,
 ⟨by kernel_rfl,rfl,by kernel_rfl,rfl⟩,
 ⟨⟨_,_,_,underlying32⟩,by kernel_rfl⟩,
 ⟨⟨_,_,_,underlying34⟩,by kernel_rfl⟩,
 ⟨⟨_,_,_,underlying35⟩,by kernel_rfl⟩,
 ⟨⟨_,_,_,underlying36⟩,by kernel_rfl⟩,
 ⟨by kernel_rfl,by kernel_rfl,by kernel_rfl⟩,
 ⟨by kernel_rfl,by kernel_rfl,by kernel_rfl⟩,
 ⟨⟨_,_,_,underlying40⟩,by kernel_rfl⟩,
 ⟨⟨_,_,_,underlying42⟩,by kernel_rfl⟩,
 ⟨by kernel_rfl,by decide,by kernel_rfl,⟨cellsV (Ty.zcells (.tree (.cons tI (.cons tI (.cons .str .nil))))),by kernel_rfl,by kernel_rfl,by kernel_rfl⟩,by kernel_rfl⟩,
 ⟨fieldsOf prog 44,by kernel_rfl,by kernel_rfl,by kernel_rfl,by decide,by kernel_rfl⟩,
 ⟨fieldsOf prog 45,by kernel_rfl,by kernel_rfl,by kernel_rfl,by decide,by kernel_rfl⟩,
 ⟨by kernel_rfl,by decide,by kernel_rfl,⟨cellsV (Ty.zcells (.int .u8)),by kernel_rfl,by kernel_rfl,by kernel_rfl⟩,by kernel_rfl⟩,
 ⟨⟨_,_,_,underlying48⟩,by kernel_rfl⟩,
 ⟨⟨_,_,_,underlying49⟩,by kernel_rfl⟩,
 ⟨⟨_,_,_,underlying50⟩,by kernel_rfl⟩,
 ⟨fieldsOf prog 51,by kernel_rfl,by kernel_rfl,by kernel_rfl,by decide,by kernel_rfl⟩,
 ⟨fieldsOf prog 52,by kernel_rfl,by kernel_rfl,by kernel_rfl,by decide,by kernel_rfl⟩,
 ⟨⟨_,_,_,underlying53⟩,by kernel_rfl⟩,
 ⟨by kernel_rfl,by decide,by kernel_rfl,⟨cellsV (Ty.zcells .bool),by kernel_rfl,by kernel_rfl,by kernel_rfl⟩,by kernel_rfl⟩,
 ⟨⟨_,_,_,underlying56⟩,by kernel_rfl⟩,
 ⟨⟨_,_,_,underlying57⟩,by kernel_rfl⟩,
 ⟨⟨_,_,_,underlying59⟩,by kernel_rfl⟩,
 ⟨⟨_,_,_,underlying60⟩,by kernel_rfl⟩,
 ⟨⟨_,_,_,underlying61⟩,by kernel_rfl⟩,
 ⟨⟨_,_,_,underlying62⟩,by kernel_rfl⟩,
 ⟨⟨_,_,_,underlying63⟩,by kernel_rfl⟩,
 ⟨⟨_,_,_,underlying65⟩,by kernel_rfl⟩,
 ⟨⟨_,_,_,underlying71⟩,by kernel_rfl⟩,
 ⟨⟨_,_,_,underlying78⟩,by kernel_rfl⟩,
 ⟨⟨_,_,_,underlying90⟩,by kernel_rfl⟩,
 ⟨fieldsOf prog 92,by kernel_rfl,by kernel_rfl,by kernel_rfl,by decide,by kernel_rfl⟩,
 ⟨⟨_,underlying93⟩,by kernel_rfl⟩,
 ⟨fieldsOf prog 99,by kernel_rfl,by kernel_rfl,by kernel_rfl,by decide,by kernel_rfl⟩,
 ⟨fieldsOf prog 100,by kernel_rfl,by kernel_rfl,by kernel_rfl,by decide,by kernel_rfl⟩,
 ⟨by kernel_rfl,by decide,by kernel_rfl,⟨cellsV (Ty.zcells (.slice tTst)),by kernel_rfl,by kernel_rfl,by kernel_rfl⟩,by kernel_rfl⟩,
 ⟨⟨_,_,_,underlying129⟩,by kernel_rfl⟩,
 ⟨by kernel_rfl,by kernel_rfl,by kernel_rfl⟩,
 ⟨by kernel_rfl,rfl,by kernel_rfl,rfl⟩,
 ⟨by kernel_rfl,rfl,by kernel_rfl,rfl⟩,
 ⟨by kernel_rfl,by kernel_rfl,by kernel_rfl⟩,
 ⟨by kernel_rfl,by kernel_rfl,by kernel_rfl⟩,
 ⟨by kernel_rfl,by decide,by kernel_rfl,⟨cellsV (Ty.zcells (.slice (.int .u8))),by kernel_rfl,by kernel_rfl,by kernel_rfl⟩,by kernel_rfl⟩,
 ⟨by kernel_rfl,rfl,by kernel_rfl,rfl⟩,
 ⟨by kernel_rfl,by kernel_rfl,by kernel_rfl⟩,
 ⟨⟨_,underlying183⟩,by kernel_rfl⟩,
 ⟨by kernel_rfl,by kernel_rfl,by kernel_rfl⟩,
 ⟨by kernel_rfl,by decide,by kernel_rfl,⟨cellsV (Ty.zcells (.int .u32)),by kernel_rfl,by kernel_rfl,by kernel_rfl⟩,by kernel_rfl⟩,
 ⟨by decide,eq_dig⟩,by simp⟩
def cq0Γ:List (FuncId×Con):=(18,conRText)::(19,conEncod)::(20,conTagP)::(45,conRText)::(48,conVInts)::(49,conVText)::(47,conVList)::(46,conEncod)::(50,conTagR)::fl0Γ
theorem cq0Γ_ok:OkΓ cq0Γ:=by
 simp only [OkΓ,cq0Γ,List.forall_mem_cons]
 exact ⟨⟨enters_of func18 (by kernel_rfl) rfl,rtext_ok⟩,⟨enters_of func19 (by kernel_rfl) rfl,encod_ok⟩,⟨enters_of func20 (by kernel_rfl) rfl,tagp_ok⟩,⟨enters_of func45 (by kernel_rfl) rfl,rrtext_ok⟩,⟨enters_of func48 (by kernel_rfl) rfl,vints_ok⟩,⟨enters_of func49 (by kernel_rfl) rfl,vtext_ok⟩,⟨enters_of func47 (by kernel_rfl) rfl,vlist_ok⟩,⟨enters_of func46 (by kernel_rfl) rfl,rencod_ok⟩,⟨enters_of func50 (by kernel_rfl) rfl,tagr_ok⟩,fl0Γ_ok⟩
def cq0E:=fl0E
theorem cq0E_ok:OkE cq0E:=fl0E_ok
def cq0P:=fl0P
theorem cq0P_ok:OkP cq0P:=fl0P_ok
def cq0F:=fl0F
theorem cq0F_ok:OkF cq0F:=fl0F_ok
def cq0:G:={ τ:=crT,Γ:=cq0Γ,E:=cq0E,Pn:=cq0P,E2:=cq0F }
theorem cq0_good:cq0.good prog:=good_of_all (crT_ok _ rfl) cq0Γ_ok cq0E_ok cq0P_ok cq0F_ok
theorem cq0_all:(∀ t,cq0.td t=(look crT t).getD .other)∧cq0.y=false∧cq0.Γ=cq0Γ∧cq0.E=cq0E∧cq0.Pn=cq0P∧cq0.E2=cq0F∧cq0.fz=[]∧cq0.te=false∧cq0.bo=false∧cq0.pm=false:=⟨fun _=>rfl,rfl,rfl,rfl,rfl,rfl,rfl,rfl,rfl,rfl⟩
def cq0_S:=And.intro (And.intro @crT.eq_1 (And.intro @cq0Γ.eq_1 (And.intro @cq0E.eq_1 (And.intro @cq0P.eq_1 (And.intro @cq0F.eq_1 (And.intro @conRText_eq (And.intro @conEncod_eq (And.intro @conTagP_eq (And.intro @conVInts_eq (And.intro @conVText_eq (And.intro @conVList_eq (@conTagR_eq)))))))))))) fl0_S
def conCommit:Con:=⟨fun args=>(match args with
 | [.s (.sl (.int .i64) nos _),.agg [.bool k1,.sl (.int .i64) l1 _,.bool k2,.sl (.int .i64) l2 _]]=>nos.length≤1000
 | _=>False),fun args=>match args with
 | [.s (.sl (.int .i64) nos _),.agg [.bool k1,.sl (.int .i64) l1 _,.bool k2,.sl (.int .i64) l2 _]]=>.tup [.agg (t8.flats (comD nos k1 l1 k2 l2)),aI (comE nos k1 l1 k2 l2)]
 | _=>.v (.s .any)⟩
theorem conCommit_eq (nos:List (Ty.T tI)) (exnos:Bool) (k1:Bool) (l1:List (Ty.T tI)) (exl1:Bool) (k2:Bool) (l2:List (Ty.T tI)) (exl2:Bool):conCommit.pre [.s (.sl tI nos exnos),.agg [.bool k1,.sl tI l1 exl1,.bool k2,.sl tI l2 exl2]]=(nos.length≤1000)∧conCommit.val [.s (.sl tI nos exnos),.agg [.bool k1,.sl tI l1 exl1,.bool k2,.sl tI l2 exl2]]=.tup [.agg (t8.flats (comD nos k1 l1 k2 l2)),aI (comE nos k1 l1 k2 l2)]:=⟨rfl,rfl⟩
theorem fl_z32:t8.flats (zz 32)=List.replicate 32 (.int .u8 0):=rfl
theorem com_bad {nos:List Int} {k1:Bool} {l1:List Int} {k2:Bool} {l2:List Int} (h:comE nos k1 l1 k2 l2≠0):t8.flats (comD nos k1 l1 k2 l2)=List.replicate 32 (.int .u8 0):=by rw [comD,if_neg h,fl_z32]
theorem com_good {nos:List Int} {k1:Bool} {l1:List Int} {k2:Bool} {l2:List Int} (h:comE nos k1 l1 k2 l2=0):comD nos k1 l1 k2 l2=comL nos k1 l1 l2:=by rw [comD,if_pos h]
theorem lvl_rat {k1:Bool} {l1:List Int} {k2:Bool} {l2:List Int} (h:lvlE k1 l1 k2 l2=0):okRat k1 l1 k2 l2:=(lvlE_0.1 h).1.1
theorem enc_pre {nos:List Int} {k1:Bool} {l1:List Int} {k2:Bool} {l2:List Int} (h:okNos nos) (hl:nos.length≤64) (hr:okRat k1 l1 k2 l2):depV (famV nos (bytesS (rtxL k1 l1 l2)))≤16∧formV (famV nos (bytesS (rtxL k1 l1 l2)))=true∧RngV (famV nos (bytesS (rtxL k1 l1 l2)))∧(encL (famV nos (bytesS (rtxL k1 l1 l2)))).length≤400000 :=
 ⟨by rw [dep_fam]; decide,form_fam _ _,rng_fam _ (nos_in h),enc_fam_len (nos_in h) (by omega) (rtx_size hr)⟩
theorem numE_com {nos:List Int} {k1:Bool} {l1:List Int} {k2:Bool} {l2:List Int}:(numE nos=0→comE nos k1 l1 k2 l2=lvlE k1 l1 k2 l2)∧(numE nos≠0→comE nos k1 l1 k2 l2=numE nos)∧(numE nos=0→okNos nos∧nos.length≤64):=by
 unfold numE comE
 split
 ·
  exact ⟨fun h=>(by cases h),fun _=>rfl,fun h=>(by cases h)⟩
 ·
  split
  ·
   exact ⟨fun _=>rfl,fun h=>absurd rfl h,fun _=>⟨by assumption,by omega⟩⟩
  ·
   exact ⟨fun h=>(by cases h),fun _=>rfl,fun h=>(by cases h)⟩
theorem tag_len (s:ByteArray) (m:List Int):(tagL s m).length=32:=sha_len _
theorem rcom_ok:PureOk prog 17 conCommit:=by
 refine pureOkD (L:={ live:=[0,1,3,4,5,6,7,9,14,18] }) cq0_good rfl nr_mixed func17 rfl conCommit 2 (by decide) (by kernel_rfl) ?_
 intro args hpre hlens
 simp only [conCommit] at hpre
 split at hpre
 case h_2=>exact hpre.elim
 rename_i nos en k1 l1 f1 k2 l2 f2
 simp only [lenS] at hlens
 obtain ⟨F,hF⟩:∃ F,mkV 3 0 ByteArray.empty [hV.mk (3,0,ByteArray.empty,()) (nos.map intV),hV.mk (2,0,bytesS (rtxL k1 l1 l2),()) []]=F:=⟨_,rfl⟩; obtain ⟨T,hT⟩:∃ T,tagL ⟨#[102,97,109,105,108,121]⟩ (encL F)=T:=⟨_,rfl⟩; have hTl:T.length=32:=(by rw [← hT]; exact tag_len _ _); have hft:List.take 32 (t8.flats T)=t8.flats T:=List.take_of_length_le (by rw [flats_length,hTl]; decide)
 refine ⟨rfl,?_⟩
 simp -dsimp -implicitDefEqProofs [f17,conCommit_eq,hF,hT,hTl,hft,frzL_int T,cq0_all,cq0_S,inI64]
 change List Int at nos; change List Int at l1; change List Int at l2
 obtain ⟨e1,e2,e3⟩:=numE_com (nos:=nos) (k1:=k1) (l1:=l1) (k2:=k2) (l2:=l2)
 have hFv:famV nos (bytesS (rtxL k1 l1 l2))=F:=hF
 refine ⟨fun h0=>⟨fun h=>⟨(com_bad (by rw [e1 h0]; exact h)).symm,(e1 h0).symm⟩,fun h => ?_⟩,fun h0=>⟨fun _=>⟨(com_bad (by rw [e2 h0]; exact h0)).symm,(e2 h0).symm⟩,fun h=>absurd h h0⟩⟩
 obtain ⟨ho,hl⟩:=e3 h0
 have hr:=lvl_rat h
 obtain ⟨p1,p2,p3,p4⟩:=enc_pre ho hl hr
 rw [hFv] at p1 p2 p3 p4
 have p5:=enc_fam_in8 nos (bytesS (rtxL k1 l1 l2))
 rw [hFv] at p5
 have hc:comE nos k1 l1 k2 l2=0:=by rw [e1 h0,h]
 have hd:comD nos k1 l1 k2 l2=T:=by rw [com_good hc,comL,hFv]; exact hT
 rw [hd,hc]
 exact ⟨hr,by omega,⟨p1,p2,p3,by omega⟩,⟨by decide,p5,by omega⟩,rfl,rfl⟩
theorem com_ok:PureOk prog 16 conCommit:=by
 refine pureOkD (L:={ live:=[0,1,3,4,5,6,8,9,10,14,18,23,27,28,29,30,47],cut:=[14] }) cq0_good rfl nr_mixed func16 rfl conCommit 2 (by decide) (by kernel_rfl) ?_
 intro args hpre hlens
 simp only [conCommit] at hpre
 split at hpre
 case h_2=>exact hpre.elim
 rename_i nos en k1 l1 f1 k2 l2 f2
 simp only [lenS] at hlens
 obtain ⟨F,hF⟩:∃ F,mkV 3 0 ByteArray.empty [hV.mk (3,0,ByteArray.empty,()) (nos.map intV),hV.mk (2,0,bytesS (rtxL k1 l1 l2),()) []]=F:=⟨_,rfl⟩; obtain ⟨T,hT⟩:∃ T,tagL ⟨#[102,97,109,105,108,121]⟩ (encL F)=T:=⟨_,rfl⟩; have hTl:T.length=32:=(by rw [← hT]; exact tag_len _ _); have hft:List.take 32 (t8.flats T)=t8.flats T:=List.take_of_length_le (by rw [flats_length,hTl]; decide)
 refine ⟨rfl,?_⟩
 simp -dsimp -implicitDefEqProofs [f16,conCommit_eq,hF,hT,hTl,hft,frzL_int T,cq0_all,cq0_S,inI64]
 change List Int at nos; change List Int at l1; change List Int at l2
 have hFv:famV nos (bytesS (rtxL k1 l1 l2))=F:=hF
 have hm:1000000000≤maxLen:=by simp only [maxLen]; omega
 refine ⟨fun h => ?_,fun h64=>⟨fun h => ?_,fun hok=>⟨fun h => ?_,fun h0 => ?_⟩⟩⟩
 ·
  have hc:comE nos k1 l1 k2 l2=2:=if_pos (by omega)
  exact ⟨(com_bad (by rw [hc]; decide)).symm,hc.symm⟩
 ·
  have hc:comE nos k1 l1 k2 l2=430:=by unfold comE; rw [if_neg (by omega),if_neg h]
  exact ⟨(com_bad (by rw [hc]; decide)).symm,hc.symm⟩
 ·
  have hc:comE nos k1 l1 k2 l2=lvlE k1 l1 k2 l2:=by unfold comE; rw [if_neg (by omega),if_pos hok]
  exact ⟨(com_bad (by rw [hc]; exact h)).symm,hc.symm⟩
 have hl:nos.length≤64:=by omega
 have hr:=lvl_rat h0
 obtain ⟨p1,p2,p3,p4⟩:=enc_pre hok hl hr
 rw [hFv] at p1 p2 p3 p4
 have p5:=enc_fam_in8 nos (bytesS (rtxL k1 l1 l2))
 rw [hFv] at p5
 have hc:comE nos k1 l1 k2 l2=0:=comE_0.2 ⟨hl,hok,h0⟩
 have hd:comD nos k1 l1 k2 l2=T:=by rw [com_good hc,comL,hFv]; exact hT
 refine WpD.turn _ (Turn.virtBox (b:=2) (off:=3) (t:=tV) (xs:=[]) rfl rfl) ?_
 refine WpD.loop (L:={ live:=[0,1,3,4,5,6,8,9,10,14,18,23,27,28,29,30,47] }) cq0_good X0_ok nr_mixed (by kernel_rfl)
  (fun i:Nat=>⟨[(3,⟨true,.v (.s (.box 0 0))⟩),(4,⟨true,.v (.s (.box 1 0))⟩),(6,⟨true,.v (.s (.box 2 0))⟩),(27,vS tI nos en),(28,vI nos.length),(29,vI i)],[.cells [.bool k1,.sl tI l1 f1,.bool k2,.sl tI l2 f2],.cells [.int .u8 0,.int .u8 0,.int .u8 0,.int .u8 0,.int .u8 0,.int .u8 0,.int .u8 0,.int .u8 0,.int .u8 0,.int .u8 0,.int .u8 0,.int .u8 0,.int .u8 0,.int .u8 0,.int .u8 0,.int .u8 0,.int .u8 0,.int .u8 0,.int .u8 0,.int .u8 0,.int .u8 0,.int .u8 0,.int .u8 0,.int .u8 0,.int .u8 0,.int .u8 0,.int .u8 0,.int .u8 0,.int .u8 0,.int .u8 0,.int .u8 0,.int .u8 0],.cells [.int .i64 3,.int .i64 0,.str ByteArray.empty,.own tV 3 i],.arr (decide (0<i)) (tV.flats ((nos.map intV).take i))]⟩)
  (fun i=>i≤nos.length) (fun i=>nos.length - i) 0 (Nat.zero_le _) (Turn.le (by simp -dsimp -implicitDefEqProofs)) ?_
 intro i hi
 by_cases hil:i<nos.length
 ·
  have hx:nos[i]?=some nos[i]:=List.getElem?_eq_getElem hil
  have m1:min i nos.length=i:=by omega
  have hs:(nos.map intV).take (i+1)=(nos.map intV).take i++[hV.mk (1,nos[i],ByteArray.empty,()) []]:=by
   rw [List.take_succ_eq_append_getElem (by rw [List.length_map]; exact hil),List.getElem_map]; rfl
  simp -dsimp -implicitDefEqProofs [hx,m1,hil,cq0_all,cq0_S,inI64]
  refine ⟨⟨by omega,by omega⟩,⟨by omega,by omega⟩,i+1,by omega,by omega,TurnT.le ?_⟩
  rw [hs]
  simp -dsimp -implicitDefEqProofs
 ·
  obtain rfl:i=nos.length:=by omega
  have ht:(nos.map intV).take nos.length=nos.map intV:=List.take_of_length_le (by rw [List.length_map]; omega)
  rw [ht]
  have hn:¬ nos.length<nos.length:=by omega
  simp -dsimp -implicitDefEqProofs [hn,hF,hT,hTl,hft,frzL_int T,hc,hd,cq0_all,cq0_S,inI64]
  refine Wp.turn (Turn.frzBox X0_ok (b:=2) (off:=3) (id:=3) (t:=tV) (n:=nos.length) (xs:=nos.map intV) rfl rfl (by rw [List.length_map]) rfl) ?_
  refine Wp.piece (L:={ live:=[0,1,3,4,5,6,8,9,10,14,18,23,27,28,29,30,47] }) cq0_good X0_ok nr_mixed (by kernel_rfl) ?_
  simp -dsimp -implicitDefEqProofs [hF,hT,hTl,hft,frzL_int T,hc,hd,cq0_all,cq0_S,inI64]
  refine ⟨hr,⟨p1,p2,p3,by omega⟩,⟨by decide,p5,by omega⟩,?_⟩
  show _=RV.tup [.agg (t8.flats (comD nos k1 l1 k2 l2)),aI (comE nos k1 l1 k2 l2)]
  rw [hd,hc]
def cq1Γ:List (FuncId×Con):=(9,conSane43)::(10,conFewF)::(16,conCommit)::(17,conCommit)::cq0Γ
theorem cq1Γ_ok:OkΓ cq1Γ:=by
 simp only [OkΓ,cq1Γ,List.forall_mem_cons]
 exact ⟨⟨enters_of func9 (by kernel_rfl) rfl,sane43_ok⟩,⟨enters_of func10 (by kernel_rfl) rfl,fewf_ok⟩,⟨enters_of func16 (by kernel_rfl) rfl,com_ok⟩,⟨enters_of func17 (by kernel_rfl) rfl,rcom_ok⟩,cq0Γ_ok⟩
def cq1E:=cq0E
theorem cq1E_ok:OkE cq1E:=cq0E_ok
def cq1P:=cq0P
theorem cq1P_ok:OkP cq1P:=cq0P_ok
def cq1F:=cq0F
theorem cq1F_ok:OkF cq1F:=cq0F_ok
def cq1:G:={ τ:=crT,Γ:=cq1Γ,E:=cq1E,Pn:=cq1P,E2:=cq1F }
theorem cq1_good:cq1.good prog:=good_of_all (crT_ok _ rfl) cq1Γ_ok cq1E_ok cq1P_ok cq1F_ok
theorem cq1_all:(∀ t,cq1.td t=(look crT t).getD .other)∧cq1.y=false∧cq1.Γ=cq1Γ∧cq1.E=cq1E∧cq1.Pn=cq1P∧cq1.E2=cq1F∧cq1.fz=[]∧cq1.te=false∧cq1.bo=false∧cq1.pm=false:=⟨fun _=>rfl,rfl,rfl,rfl,rfl,rfl,rfl,rfl,rfl,rfl⟩
def cq1_S:=And.intro (And.intro @crT.eq_1 (And.intro @cq1Γ.eq_1 (And.intro @cq1E.eq_1 (And.intro @cq1P.eq_1 (And.intro @cq1F.eq_1 (And.intro @conSane43_pre (And.intro @conSane43_val (And.intro @conFewF_eq (@conCommit_eq))))))))) cq0_S
theorem comD_len (nos:List Int) (k1:Bool) (l1:List Int) (k2:Bool) (l2:List Int):(comD nos k1 l1 k2 l2).length=32:=by
 unfold comD
 split
 ·
  exact sha_len _
 ·
  exact zz_len 32
def conFCom:Con:=⟨fun args=>(match args with
 | [.s (.sl (.int .i64) nos _),.agg [.bool k1,.sl (.int .i64) l1 _,.bool k2,.sl (.int .i64) l2 _]]=>True
 | _=>False),fun args=>match args with
 | [.s (.sl (.int .i64) nos _),.agg [.bool k1,.sl (.int .i64) l1 _,.bool k2,.sl (.int .i64) l2 _]]=>.v (aB true)
 | _=>.v (.s .any)⟩
theorem conFCom_eq (nos:List (Ty.T tI)) (exnos:Bool) (k1:Bool) (l1:List (Ty.T tI)) (exl1:Bool) (k2:Bool) (l2:List (Ty.T tI)) (exl2:Bool):conFCom.pre [.s (.sl tI nos exnos),.agg [.bool k1,.sl tI l1 exl1,.bool k2,.sl tI l2 exl2]]=(True)∧conFCom.val [.s (.sl tI nos exnos),.agg [.bool k1,.sl tI l1 exl1,.bool k2,.sl tI l2 exl2]]=.v (aB true):=⟨rfl,rfl⟩
theorem of_z32:tDig.of (.agg [.int .u8 0,.int .u8 0,.int .u8 0,.int .u8 0,.int .u8 0,.int .u8 0,.int .u8 0,.int .u8 0,.int .u8 0,.int .u8 0,.int .u8 0,.int .u8 0,.int .u8 0,.int .u8 0,.int .u8 0,.int .u8 0,.int .u8 0,.int .u8 0,.int .u8 0,.int .u8 0,.int .u8 0,.int .u8 0,.int .u8 0,.int .u8 0,.int .u8 0,.int .u8 0,.int .u8 0,.int .u8 0,.int .u8 0,.int .u8 0,.int .u8 0,.int .u8 0])=some (Ty.repsV 32 t8 (zz 32)):=rfl
theorem fcom_ok:PureOk prog 4 conFCom:=by
 refine pureOkD (L:={ live:=[0,1,3,4,5,6,7,8,9,10,11,12,13,14,16,24,44,46,59],cut:=[17] }) cq1_good rfl nr_mixed func4 rfl conFCom 2 (by decide) (by kernel_rfl) ?_
 intro args hpre hlens
 simp only [conFCom] at hpre
 split at hpre
 case h_2=>exact hpre.elim
 rename_i nos en k1 l1 f1 k2 l2 f2
 simp only [lenS] at hlens
 obtain ⟨F,hF⟩:∃ F,mkV 3 0 ByteArray.empty [hV.mk (3,0,ByteArray.empty,()) (nos.map intV),hV.mk (2,0,bytesS (rtxL k1 l1 l2),()) []]=F:=⟨_,rfl⟩; obtain ⟨T,hT⟩:∃ T,tagL ⟨#[102,97,109,105,108,121]⟩ (encL F)=T:=⟨_,rfl⟩; have hTl:T.length=32:=(by rw [← hT]; exact tag_len _ _); have hft:List.take 32 (t8.flats T)=t8.flats T:=List.take_of_length_le (by rw [flats_length,hTl]; decide)
 obtain ⟨D,hD⟩:∃ D,comD nos k1 l1 k2 l2=D:=⟨_,rfl⟩; have hDl:D.length=32:=(by rw [← hD]; exact comD_len _ _ _ _ _); have hfd:List.take 32 (t8.flats D)=t8.flats D:=List.take_of_length_le (by rw [flats_length,hDl]; decide); have hof:tDig.of (.agg (t8.flats D))=some (Ty.repsV 32 t8 D):=of_reps hDl (by decide); have hfoT:tDig.of (.agg (t8.flats T))=some (Ty.repsV 32 t8 T):=of_reps hTl (by decide); have hb1:tDig.beq (Ty.repsV 32 t8 D) (Ty.repsV 32 t8 D)=true:=(by rw [beq_V hDl hDl]; simp); have hb2:tDig.beq (Ty.repsV 32 t8 D) (Ty.repsV 32 t8 (zz 32))=decide (D=zz 32):=beq_V hDl (zz_len 32)
 refine ⟨rfl,?_⟩
 simp -dsimp -implicitDefEqProofs [Tryz.f4,conFCom_eq,hF,hT,hTl,hft,hD,hDl,hfd,hof,of_z32,hb1,hb2,hfoT,-Ty.of,-Ty.beq,-Ty.parse,cq1_all,cq1_S,inI64]
 change List Int at nos; change List Int at l1; change List Int at l2
 intro q1 q2
 refine ⟨by omega,fun q3 => ?_,fun q3 => ?_⟩
 ·
  have hDz:D=zz 32:=by rw [← hD,comD,if_neg q3]
  erw [of_z32]
  simp only [hb2,decide_eq_true hDz]
  exact ⟨trivial,_,rfl,rfl⟩
 obtain ⟨hl,hok,h0⟩:=comE_0.1 q3
 have hFv:famV nos (bytesS (rtxL k1 l1 l2))=F:=hF
 have hm:1000000000≤maxLen:=by simp only [maxLen]; omega
 have hr:=lvl_rat h0
 obtain ⟨p1,p2,p3,p4⟩:=enc_pre hok hl hr
 rw [hFv] at p1 p2 p3 p4
 have p5:=enc_fam_in8 nos (bytesS (rtxL k1 l1 l2))
 rw [hFv] at p5
 have hd:D=T:=by rw [← hD,com_good q3,comL,hFv]; exact hT
 subst hd
 refine ⟨hr,?_⟩
 refine WpD.turn _ (Turn.virtBox (b:=3) (off:=3) (t:=tV) (xs:=[]) rfl rfl) ?_
 refine WpD.loop (L:={ live:=[0,1,3,4,5,6,7,8,9,10,11,12,13,14,16,24,44,46,59] }) cq1_good X0_ok nr_mixed (by kernel_rfl)
  (fun i:Nat=>⟨[(0,vS tI nos en),(5,⟨true,.v (.s (.box 1 0))⟩),(9,⟨true,.v (.s (.str (bytesS (rtxL k1 l1 l2))))⟩),(10,vI 0),(11,⟨true,.v (.s (.box 3 0))⟩),(12,vI i)],[.cells [.bool k1,.sl tI l1 f1,.bool k2,.sl tI l2 f2],.cells (t8.flats D),.cells (t8.flats D),.cells [.int .i64 3,.int .i64 0,.str ByteArray.empty,.own tV 4 i],.arr (decide (0<i)) (tV.flats ((nos.map intV).take i))]⟩)
  (fun i=>i≤nos.length) (fun i=>nos.length - i) 0 (Nat.zero_le _) (Turn.le (by simp -dsimp -implicitDefEqProofs)) ?_
 intro i hi
 by_cases hil:i<nos.length
 ·
  have hx:nos[i]?=some nos[i]:=List.getElem?_eq_getElem hil
  have m1:min i nos.length=i:=by omega
  have hs:(nos.map intV).take (i+1)=(nos.map intV).take i++[hV.mk (1,nos[i],ByteArray.empty,()) []]:=by
   rw [List.take_succ_eq_append_getElem (by rw [List.length_map]; exact hil),List.getElem_map]; rfl
  simp -dsimp -implicitDefEqProofs [hx,m1,hil,cq1_all,cq1_S,inI64]
  refine ⟨⟨by omega,by omega⟩,⟨by omega,by omega⟩,i+1,by omega,by omega,TurnT.le ?_⟩
  rw [hs]
  simp -dsimp -implicitDefEqProofs
 ·
  obtain rfl:i=nos.length:=by omega
  have ht:(nos.map intV).take nos.length=nos.map intV:=List.take_of_length_le (by rw [List.length_map]; omega)
  rw [ht]
  have hn:¬ nos.length<nos.length:=by omega
  simp -dsimp -implicitDefEqProofs [hn,cq1_all,cq1_S,inI64]
  refine Wp.turn (Turn.frzBox X0_ok (b:=3) (off:=3) (id:=4) (t:=tV) (n:=nos.length) (xs:=nos.map intV) rfl rfl (by rw [List.length_map]) rfl) ?_
  refine Wp.piece (L:={ live:=[0,1,3,4,5,6,7,8,9,10,11,12,13,14,16,24,44,46,59] }) cq1_good X0_ok nr_mixed (by kernel_rfl) ?_
  simp -dsimp -implicitDefEqProofs [hF,hT,hDl,hfd,hof,hb1,-Ty.of,-Ty.beq,cq1_all,cq1_S,inI64]
  exact ⟨⟨p1,p2,p3,by omega⟩,⟨by decide,p5,by omega⟩,rfl⟩
end Go.Am
namespace Go.Am
open Go.RowKit Go.Proofs Go.Proofs.YtgnoaabcdccpoaaGreatDoor Go.Proofs.Tryz
def conFComW:Con:=⟨fun args=>∃ (l:List Int) (x:tRat.T),args=[.s (.sl tI l false),.agg (tRat.flat x)],fun _=>.v (aB true)⟩
theorem fcom_okW:PureOk prog 4 conFComW:=by
 refine PureOk.of fun args hpre => ?_
 obtain ⟨l,⟨⟨n1,m1,⟨⟩⟩,⟨n2,m2,⟨⟩⟩,⟨⟩⟩,rfl⟩:=hpre
 exact ⟨conFCom,fcom_ok,trivial,rfl⟩
theorem laid_list : Rows.familyCommitSpecRow.laid = [("unicode/utf8.acceptRanges", Rows.laid_unicode_utf8_acceptRanges), ("podium/digest.start", Rows.laid_podium_digest_start), ("podium/digest.numbers", Rows.laid_podium_digest_numbers), ("unicode/utf8.first", Rows.laid_unicode_utf8_first)] := rfl
set_option maxRecDepth 20000 in
theorem globs_laid {W:World} (h:laidMetH prog Rows.familyCommitSpecRow.laid W):GlobOk W (fun _=>False):=by
 intro p hp
 simp only [globs,List.mem_cons,List.not_mem_nil,or_false] at hp
 rcases hp with rfl | rfl
 ·
  exact frz_laid (n := "podium/digest.start") (T := 139) (e := 138) (xs := digStart) (by simp) h (by rw [laid_list]; exact List.mem_cons.2 (.inr (List.mem_cons.2 (.inl (by kernel_rfl))))) (by kernel_rfl) (by kernel_rfl) (by kernel_rfl) (by kernel_rfl) (by kernel_rfl) (by kernel_rfl) (by kernel_rfl)
 ·
  exact frz_laid (n := "podium/digest.numbers") (T := 184) (e := 138) (xs := digNums) (by simp) h (by rw [laid_list]; exact List.mem_cons.2 (.inr (List.mem_cons.2 (.inr (List.mem_cons.2 (.inl (by kernel_rfl))))))) (by kernel_rfl) (by kernel_rfl) (by kernel_rfl) (by kernel_rfl) (by kernel_rfl) (by kernel_rfl) (by kernel_rfl)
end Go.Am
