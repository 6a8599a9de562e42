/- Part 6 of the proof's base. -/
import Derived.Test.YtejcoioabaejlaaGreatDoorK5
set_option linter.all false
noncomputable section
namespace Go.Am
set_option maxHeartbeats 4000000
set_option maxRecDepth 20000
open Go.RowKit Go.Proofs
attribute [local simp] thenKD_normal thenKD_exit thenKD_goto thenKD_ret inBlockKD_normal inBlockKD_exit inBlockKD_goto inBlockKD_ret noGotoKD_normal noGotoKD_exit noGotoKD_goto noGotoKD_ret roundKD_normal roundKD_exit roundKD_goto roundKD_ret frzSlotsD_nil frzSlotsD_cons frzSlotD_eq yieldVCD_trace opVCD_eq vcOpsD_nil vcOpsD_cons vcAllD_zero vcAllD_succ allAtD_nil allAtD_cons readyAux edgA vcD_skip vcD_label vcD_exit vcD_goto vcD_ret vcD_region vcD_seq vcD_seqC vcD_cond vcCondD_bool vcD_block vcD_scope vcD_loop vcD_rangeFunc yieldOf isMem isMem0 keepE envLe St.le psE yieldAV round_td round_y round_Γ vI vB vS aI aB aS look getE oper opRV putE allOk okOps Op.operands Call.operands pEv qEv mEv constRV coe RV.av loadEv loadCs takeAt indexAddrEv fieldAddrEv binEv intEv arith unEv gcond pickEv argsEv callVal callEv capAV_mk lenArgs lenEv minEv extractEv convEv funcEv allBox bound sliceEv lookupEv TD.isBool allocEv boxEv storeEv spl plainTD appendEv appendArgs makeMapEv mapUpdateEv buildEv buildSliceEv fillSV zsvOf sizeTD Ty.parses parses_flats' coeA flats_length AV.good AV.cells AV.pure SV.pure av_int av_bool av_str av_slice av_cons av_fld0 av_fld1 av_fld2 av_fld3 av_fld4 Ty.of Ty.dflt Ty.parse Ty.flat Ty.zsv Ty.fld Ty.get Ty.off Ty.nfld Ty.size coeTy junk Blk.look argEnv resEv resOk resVs oneRV retOk frzAs frzAV frzL frzSV boxCaps boxCap SV.sig sigs RV.scalar AV.scalar SV.scalar nope effVCD_eq effOf SV.ids AV.ids dedup SV.ren AV.ren RV.ren idx outId mergeB Blk.pureB flats_pure flat_pure epsSlotsD_nil epsSlotsD_cons epsSlotD_eq allEp D.parts_fnOf fvParts retEff round_E av_fn G.ye isCutD_nil isCutD_cons firstReg_region firstReg_seq firstReg_skip firstReg_ret firstReg_label firstReg_exit firstReg_goto firstReg_cond firstReg_block firstReg_scope firstReg_loop firstReg_rf eptrOf_mk flOfD_nil flOfD_cons vcFlD_cons vcFlD_nil flPairs_nil flPairs_cons vcFrD_nil vcFrD_cons makeSliceEv vcCondD_ib fzEv unfl_flats isFz round_fz panVCD_eq panOf isShift strIdxEv ifaceEv nilChkEv sliceAnyEv sliceOwnEv sliceSufEv appendEv0 appendEv1 Ty.beq Ty.isAgg round_Pn vcDefD_seqR vcDefD_seqS vcDefD_seqC vcDefD_seqB vcDefD_seqL vcDefD_seqF vcDefD_seqSc vcDefD_region vcDefD_ret vcDefD_cond vcDefD_block vcDefD_loop thenKD_panic inBlockKD_panic noGotoKD_panic exitOk_normal exitOk_ret exitOk_panic exitOk_exit runDefs_none runDefs_some runDefs_cons defRegD defReg2D isDefer defOf caughtCon unfl_cons D.bpart_bndOf D.parts_bndOf AV.sig zapEv capArgs capEv
attribute [local simp ←] flats_append
def nr13Γ:List (FuncId×Con):=(206,conLead64)::(91,conShort)::nr9Γ
theorem nr13Γ_ok:∀ p∈nr13Γ,(∀ (args:Array Value) (w:World),(callFunc p.1 args).run Tryz.prog w=.ok (.enter p.1 args) w)∧PureOk Tryz.prog p.1 p.2:=by
 simp only [nr13Γ,List.forall_mem_cons]
 exact ⟨⟨enters_of Tryz.func206 (by kernel_rfl) rfl,lead64_ok⟩,⟨enters_of Tryz.func91 (by kernel_rfl) rfl,short_ok⟩,nr9Γ_ok⟩
def nr13E:List (FuncId×ECon):=(207,conMovE)::nr9E
theorem nr13E_ok:∀ p∈nr13E,(∀ (args:Array Value) (w:World),(callFunc p.1 args).run Tryz.prog w=.ok (.enter p.1 args) w)∧EffOk Tryz.prog p.1 p.2:=by
 simp only [nr13E,List.forall_mem_cons]
 exact ⟨⟨enters_of Tryz.func207 (by kernel_rfl) rfl,movE_ok⟩,nr9E_ok⟩
def nr13P:List (FuncId×PCon):=nr9P
theorem nr13P_ok:∀ p∈nr13P,(∀ (args:Array Value) (w:World),(callFunc p.1 args).run Tryz.prog w=.ok (.enter p.1 args) w)∧PanOk Tryz.prog p.1 p.2:=by
 simp only [nr13P]
 exact nr9P_ok
def nr13:G:={ τ:=nrT,Γ:=nr13Γ,E:=nr13E,Pn:=nr13P }
theorem nr13_good:nr13.good Tryz.prog:=good_of_all (nrT_ok _ rfl) nr13Γ_ok nr13E_ok nr13P_ok
theorem nr13_all:(∀ t,nr13.td t=(look nrT t).getD .other)∧nr13.y=false∧nr13.Γ=nr13Γ∧nr13.E=nr13E∧nr13.Pn=nr13P∧nr13.fz=[]:=⟨fun _=>rfl,rfl,rfl,rfl,rfl,rfl⟩
def conLong:Con:=⟨fun args=>(match args with
 | [.s (.sl (.int .i64) a _),.s (.sl (.int .i64) b _)]=>canon a∧canon b∧2≤b.length∧b.length≤a.length∧a.length≤4096
 | _=>False),fun args=>match args with
 | [.s (.sl (.int .i64) a _),.s (.sl (.int .i64) b _)]=>.tup [aS tI (dig (vl a / vl b)) false,aS tI (dig (vl a % vl b)) false]
 | _=>.v (.s .any)⟩
theorem conLong_eq (a:List (Ty.T tI)) (exa:Bool) (b:List (Ty.T tI)) (exb:Bool):conLong.pre [.s (.sl tI a exa),.s (.sl tI b exb)]=(canon a∧canon b∧2≤b.length∧b.length≤a.length∧a.length≤4096)∧conLong.val [.s (.sl tI a exa),.s (.sl tI b exb)]=.tup [aS tI (dig (vl a / vl b)) false,aS tI (dig (vl a % vl b)) false]:=⟨rfl,rfl⟩
theorem fl_map (l:List Int):(Ty.int .i64).flats l=l.map (SV.int .i64):=by
 induction l with
 | nil=>rfl
 | cons x l ih=>simp [Ty.flats,Ty.flat,ih]
theorem fl_take2 (l:List Int) (m:Nat):List.take m ((Ty.int .i64).flats l)++(Ty.int .i64).flats [0,0]=(Ty.int .i64).flats (l.take m++[0,0]):=by
 rw [fl_map,fl_map,fl_map,List.map_append,List.map_take]
theorem vl_pad (xs:List Int) (n:Nat):vl (xs++List.replicate n 0)=vl xs:=by rw [vl_append,vl_rep,Nat.mul_zero,Nat.add_zero]
theorem long_ok:PureOk Tryz.prog 184 conLong:=by
 refine pureOkD (L:={ live:=[0,1,4,5,6,7,8,9,10,11,12,13,14,15,16,17,18,53,116,120,121,122,164,168,169,170],frz:=[(3,[7]),(33,[8]),(34,[4])] }) nr13_good rfl nr_mixed Tryz.func184 rfl conLong 2 (by decide) (by kernel_rfl) ?_
 intro args hpre hlens
 simp only [conLong] at hpre
 split at hpre
 case h_2=>exact hpre.elim
 rename_i a ea b eb
 simp only [allLen,AV.lenOk,SV.lenOk,Ty.lenOk,maxLen,and_true,implies_true,true_and,List.forall_mem_cons,List.not_mem_nil,false_implies] at hlens
 refine ⟨rfl,?_⟩
 simp -dsimp -implicitDefEqProofs [Tryz.f184,conLong_eq,nr13_all,nrT,nr13Γ,nr13E,nr13P,nr9Γ,nr9E,nr9P,nr8Γ,nr8E,nr8P,nr7Γ,nr7E,nr7P,nr6Γ,nr6E,nr6P,nr5Γ,nr5E,nr5P,nr4Γ,nr4E,nr4P,nr3Γ,nr3E,nr3P,nr0Γ,nr0E,nr0P,conLead64_eq,conShort_eq,conMovE,conTrim_eq,conAt_eq,conNCmp_eq,conBack_eq,conOf9_eq,conDivide_eq,conTimes_eq,conLess9_eq,conTwo_eq,conRCheck_eq,conRCmpD_eq,inI64]
 obtain ⟨ha,hb,hb2,hba,hal⟩:=hpre
 obtain ⟨a,rfl⟩:∃ y:List Int,y=a:=⟨a,rfl⟩; obtain ⟨b,rfl⟩:∃ y:List Int,y=b:=⟨b,rfl⟩
 have hx:=canon_last hb (by omega)
 have hw:IntKind.u64.wrap (b[b.length - 1]?.getD 0)=b[b.length - 1]?.getD 0:=by rw [IntKind.wrap_u64]; omega
 obtain ⟨n1,n2,n3⟩:=ld_norm hb (by omega)
 rw [hw]
 generalize lenN (b[b.length - 1]?.getD 0).toNat=L at *
 have e1:64 - (L:Int) - 34=((30 - L:Nat):Int):=by omega
 rw [e1,Int.toNat_natCast]
 generalize hn:30 - L=n at *
 have hmx:10000≤maxLen:=by simp only [maxLen]; omega
 refine ⟨⟨by omega,by omega⟩,⟨by omega,by omega⟩,⟨by omega,by omega⟩,⟨by omega,by omega⟩,⟨hb.1,by omega,by omega,by omega⟩,fun xs hxo hxl hxv=>⟨xs,rfl,rfl,⟨ha.1,by omega,by omega,by omega⟩,fun ys hyo hyl hyv => ?_⟩⟩
 have hxt:trimL xs=dig (vl b*2 ^ n):=by rw [← dig_vl hxo,hxv]
 have hyt:trimL ys=dig (vl a*2 ^ n):=by rw [← dig_vl hyo,hyv]
 have hly:a.length≤(dig (vl a*2 ^ n)).length∧(dig (vl a*2 ^ n)).length≤a.length+1:=by
  refine ⟨?_,by rw [← hyt]; have:=trimL_len ys; omega⟩
  have:¬ (dig (vl a*2 ^ n)).length≤a.length - 1:=by
   rw [dig_len]
   intro h
   have h5:¬ a.length≤a.length - 1:=by omega
   rw [canon_len ha] at h5
   have:vl a*1≤vl a*2 ^ n:=Nat.mul_le_mul_left _ (Nat.pow_pos (by decide))
   omega
  omega
 have hq:((a.length:Int) - (b.length:Int)+1).toNat=a.length - b.length+1:=by omega
 have hmax:max ((a.length:Int) - (b.length:Int)+1) 0 - 1=((a.length - b.length+1:Nat):Int) - 1:=by omega
 rw [fl_take2,← trimL_take ys,← trimL_take xs,Nat.min_eq_left (trimL_len xs),Nat.min_eq_left (trimL_len ys),hxt,hyt,n3,hq,hmax]
 refine ⟨⟨rfl,by omega,by omega⟩,⟨by omega,by omega⟩,⟨rfl,by omega,by omega⟩,⟨by omega,by omega⟩,⟨by omega,by omega⟩,⟨by omega,by omega,by omega⟩,⟨by omega,by omega⟩,?_⟩
 have hV:vl (dig (vl b*2 ^ n))=vl b*2 ^ n:=vl_dig _
 have hW:vl (dig (vl a*2 ^ n))=vl a*2 ^ n:=vl_dig _
 have hvo:=canon_dig (vl b*2 ^ n)
 have hWo:=okD_dig (vl a*2 ^ n)
 have hV0:vl a*2 ^ n<1073741824 ^ (a.length - b.length+1)*(vl b*2 ^ n):=by
  have h1:=vl_lt ha.1
  have h2:¬ vl b<1073741824 ^ (b.length - 1):=fun h=>by have:=(canon_len hb).2 h; omega
  have h3:1073741824 ^ a.length=1073741824 ^ (a.length - b.length+1)*1073741824 ^ (b.length - 1):=by rw [← Nat.pow_add]; congr 1; omega
  have h4:1073741824 ^ (a.length - b.length+1)*1073741824 ^ (b.length - 1)≤1073741824 ^ (a.length - b.length+1)*vl b:=Nat.mul_le_mul_left _ (by omega)
  rw [← Nat.mul_assoc]
  exact Nat.mul_lt_mul_of_pos_right (by omega) (Nat.pow_pos (by decide))
 have hp2:=pow2_le (k:=n) (by omega) (by omega)
 rw [Int.toNat_natCast] at hp2
 generalize dig (vl b*2 ^ n)=v at *
 generalize dig (vl a*2 ^ n)=w at *
 refine WpD.loop (L:={ live:=[0,1,4,5,6,7,8,9,10,11,12,13,14,15,16,17,18,53,116,120,121,122,164,168,169,170],frz:=[(3,[7]),(33,[8]),(34,[4])] }) nr13_good X0_ok nr_mixed (by kernel_rfl)
  (fun p:Nat×List Int×List Int=>⟨[(4,⟨true,.v (.s (.own tI 3 (a.length - b.length+1)))⟩),(5,vS tI [] true),(6,vI n),(7,vS tI v false),(8,⟨true,.v (.s (.pre tI 2 (w.length+2) (a.length+1)))⟩),(9,vI b.length),(10,vI ((p.1:Int) - 1))],[.dead,.dead,.arr true (tI.flats p.2.1),.arr true (tI.flats p.2.2)]⟩)
  (fun p=>p.1≤a.length - b.length+1∧p.2.1.length=w.length+2∧okD p.2.1∧p.2.2.length=a.length - b.length+1∧okD p.2.2∧vl p.2.1+1073741824 ^ p.1*(vl (p.2.2.drop p.1)*vl v)=vl w∧vl p.2.1<1073741824 ^ p.1*vl v) (fun p=>p.1) (a.length - b.length+1,w++[0,0],List.replicate (a.length - b.length+1) 0)
  ⟨by omega,by simp,okD_append.2 ⟨hWo,by simp [okD]⟩,List.length_replicate,okD_rep _,?_,?_⟩ (Turn.le (by simp -dsimp -implicitDefEqProofs)) ?_
 ·
  show vl (w++List.replicate 2 0)+1073741824 ^ (a.length - b.length+1)*(vl (List.drop (a.length - b.length+1) (List.replicate (a.length - b.length+1) 0))*vl v)=vl w
  rw [vl_pad,List.drop_eq_nil_of_le (by rw [List.length_replicate]; exact Nat.le_refl _),show vl []=0 from rfl,Nat.zero_mul,Nat.mul_zero,Nat.add_zero]
 ·
  show vl (w++List.replicate 2 0)<1073741824 ^ (a.length - b.length+1)*vl v
  rw [vl_pad,hW,hV]
  exact hV0
 rintro ⟨j,us,q⟩ ⟨hj,hul,huo,hql,hqo,hinv,hlt⟩
 simp only at hj hul huo hql hqo hinv hlt
 have hvl:=vl_lt hvo.1
 rw [n3] at hvl
 have hbp:0<vl b:=(vl_pos hb).2 (by omega)
 rcases Nat.eq_zero_or_pos j with rfl | hj0
 ·
  simp -dsimp -implicitDefEqProofs [conLong_eq,nr13_all,nrT,nr13Γ,nr13E,nr13P,nr9Γ,nr9E,nr9P,nr8Γ,nr8E,nr8P,nr7Γ,nr7E,nr7P,nr6Γ,nr6E,nr6P,nr5Γ,nr5E,nr5P,nr4Γ,nr4E,nr4P,nr3Γ,nr3E,nr3P,nr0Γ,nr0E,nr0P,conLead64_eq,conShort_eq,conMovE,conTrim_eq,conAt_eq,conNCmp_eq,conBack_eq,conOf9_eq,conDivide_eq,conTimes_eq,conLess9_eq,conTwo_eq,conRCheck_eq,conRCmpD_eq,inI64]
  rw [Nat.pow_zero,Nat.one_mul,List.drop_zero,hV,hW] at hinv
  rw [Nat.pow_zero,Nat.one_mul] at hlt
  have hh:=ld_head (m:=a.length+1) huo (by omega) (Nat.lt_of_lt_of_le (Nat.lt_trans hlt hvl) (Nat.pow_le_pow_right (by decide) (by omega)))
  rw [hV] at hlt
  obtain ⟨d1,d2⟩:=ld_last hbp (by omega) hinv hlt
  have e2:((2:Int) ^ n)=((2 ^ n:Nat):Int):=by rw [Int.natCast_pow]; rfl
  have hto:=okD_trim (okD_take huo (a.length+1))
  have htl:=trimL_len (us.take (a.length+1))
  rw [List.length_take] at htl
  refine ⟨us,rfl,hul.symm,⟨⟨by omega,.inr (by show n<64; omega)⟩,by omega,by omega⟩,⟨hto,by omega,by omega⟩,q,rfl,hql.symm,?_,?_⟩
  ·
   rw [← dig_vl hqo,d1]
  ·
   rw [vl_trim,hh,e2,Int.toNat_natCast,d2]
 ·
  obtain ⟨i,rfl⟩:∃ i,j=i+1:=⟨j - 1,by omega⟩
  have hib:i+b.length<us.length:=by omega
  have t0:((i:Int)+(b.length:Int)).toNat=i+b.length:=by omega
  have f0:=fl_at (xs:=us) (j:=i+b.length) hib
  have f1:=fl_at (xs:=us) (j:=i+b.length - 1) (by omega)
  have f2:=fl_at (xs:=us) (j:=i+b.length - 2) (by omega)
  simp -dsimp -implicitDefEqProofs [conLong_eq,t0,f0,f1,f2,nr13_all,nrT,nr13Γ,nr13E,nr13P,nr9Γ,nr9E,nr9P,nr8Γ,nr8E,nr8P,nr7Γ,nr7E,nr7P,nr6Γ,nr6E,nr6P,nr5Γ,nr5E,nr5P,nr4Γ,nr4E,nr4P,nr3Γ,nr3E,nr3P,nr0Γ,nr0E,nr0P,conLead64_eq,conShort_eq,conMovE,conTrim_eq,conAt_eq,conNCmp_eq,conBack_eq,conOf9_eq,conDivide_eq,conTimes_eq,conLess9_eq,conTwo_eq,conRCheck_eq,conRCmpD_eq,inI64]
  obtain ⟨X,X',x1,x2,x3,x4,x5⟩:=ld_top (k:=b.length) hb2 huo hib hlt hvl
  obtain ⟨V',y1,y2⟩:=ld_vtop (by omega) hvo.1
  have b0:=okD_get huo hib
  have b1:=okD_get huo (i:=i+b.length - 1) (by omega)
  have b2:=okD_get huo (i:=i+b.length - 2) (by omega)
  have c1:=canon_last hvo (by omega)
  have c2:=okD_get hvo.1 (i:=v.length - 2) (by omega)
  rw [n3] at y1 y2 c1 c2
  obtain ⟨u0,h0⟩:∃ u:Nat,us[i+b.length]?.getD 0=u:=⟨(us[i+b.length]?.getD 0).toNat,by omega⟩
  obtain ⟨u1,h1⟩:∃ u:Nat,us[i+b.length - 1]?.getD 0=u:=⟨(us[i+b.length - 1]?.getD 0).toNat,by omega⟩
  obtain ⟨u2,h2⟩:∃ u:Nat,us[i+b.length - 2]?.getD 0=u:=⟨(us[i+b.length - 2]?.getD 0).toNat,by omega⟩
  obtain ⟨v1,h3⟩:∃ u:Nat,v[b.length - 1]?.getD 0=u:=⟨(v[b.length - 1]?.getD 0).toNat,by omega⟩
  obtain ⟨v2,h4⟩:∃ u:Nat,v[b.length - 2]?.getD 0=u:=⟨(v[b.length - 2]?.getD 0).toNat,by omega⟩
  rw [h0,h1,h2,Int.toNat_natCast,Int.toNat_natCast,Int.toNat_natCast] at x3
  rw [h3,h4,Int.toNat_natCast,Int.toNat_natCast] at y1
  rw [h0] at b0
  rw [h1] at b1
  rw [h2] at b2
  rw [h3] at c1
  rw [h4] at c2
  rw [h0,h1,h3]
  have et:((u0:Int)*1073741824+(u1:Int)).tdiv (v1:Int)=(((u0*1073741824+u1) / v1:Nat):Int):=by
   rw [show (u0:Int)*1073741824+(u1:Int)=((u0*1073741824+u1:Nat):Int) by omega]; exact Int.ofNat_tdiv _ _
  rw [et]
  obtain ⟨g1,g2,g3,g4,g5⟩:=ld_guess0 x3 x4 y1 y2 (by omega) (by omega) (by omega) (by omega) (by omega) x5 rfl
  have eg:(if (1073741823:Int)<(((u0*1073741824+u1) / v1:Nat):Int) then (1073741823:Int) else (((u0*1073741824+u1) / v1:Nat):Int))=((if (u0*1073741824+u1) / v1≤1073741823 then (u0*1073741824+u1) / v1 else 1073741823:Nat):Int):=by
   split <;> split <;> omega
  rw [eg]
  have hdv:(u0*1073741824+u1) / v1≤u0*1073741824+u1:=Nat.div_le_self _ _
  generalize (if (u0*1073741824+u1) / v1≤1073741823 then (u0*1073741824+u1) / v1 else 1073741823)=g0 at *
  generalize (u0*1073741824+u1) / v1=gd at *
  refine ⟨⟨by omega,by omega⟩,⟨hul,by omega,by omega⟩,⟨hul,hib⟩,⟨by decide,by omega,by omega⟩,⟨by omega,by omega⟩,⟨by omega,by omega⟩,⟨hul,by omega,by omega⟩,⟨hul,by omega⟩,⟨by omega,by omega,by omega,by omega⟩,⟨by omega,by omega⟩,⟨by omega,by omega⟩,⟨by omega,by omega,by omega⟩,?_⟩
  refine WpD.loop (L:={ live:=[0,1,4,5,6,7,8,9,10,11,12,13,14,15,16,17,18,53,116,120,121,122,164,168,169,170],frz:=[(3,[7]),(33,[8]),(34,[4])] }) nr13_good X0_ok nr_mixed (by kernel_rfl)
   (fun g:Nat=>⟨[(4,⟨true,.v (.s (.own tI 3 (a.length - b.length+1)))⟩),(5,vS tI [] true),(6,vI n),(7,vS tI v false),(8,⟨true,.v (.s (.pre tI 2 (w.length+2) (a.length+1)))⟩),(9,vI b.length),(10,vI i),(11,vI ((u0*1073741824+u1:Nat):Int)),(12,vI g)],[.dead,.dead,.arr true (tI.flats us),.arr true (tI.flats q)]⟩)
   (fun g=>X<(g+1)*vl v∧g≤1073741823∧g*v1≤u0*1073741824+u1∧u0*1073741824+u1<g*v1+2147483648) (fun g=>g) g0 ⟨g1,g2,g3,g4⟩ (Turn.le (by simp -dsimp -implicitDefEqProofs)) ?_
  clear g1 g2 g3 g4 eg hdv et
  rintro g ⟨g1,g2,g3,g4⟩
  have t2:((i:Int)+(b.length:Int) - 2).toNat=i+b.length - 2:=by omega
  have t3:((b.length:Int) - 2).toNat=b.length - 2:=by omega
  simp -dsimp -implicitDefEqProofs [conLong_eq,t0,t2,t3,f0,f1,f2,n3,h2,h3,h4,nr13_all,nrT,nr13Γ,nr13E,nr13P,nr9Γ,nr9E,nr9P,nr8Γ,nr8E,nr8P,nr7Γ,nr7E,nr7P,nr6Γ,nr6E,nr6P,nr5Γ,nr5E,nr5P,nr4Γ,nr4E,nr4P,nr3Γ,nr3E,nr3P,nr0Γ,nr0E,nr0P,conLead64_eq,conShort_eq,conMovE,conTrim_eq,conAt_eq,conNCmp_eq,conBack_eq,conOf9_eq,conDivide_eq,conTimes_eq,conLess9_eq,conTwo_eq,conRCheck_eq,conRCmpD_eq,inI64]
  have hgw:g*v2≤1152921502459363329:=Nat.le_trans (Nat.mul_le_mul g2 (show v2≤1073741823 by omega)) (by decide)
  have hgz:=Nat.zero_le (g*v2)
  have hgy:=Nat.zero_le (g*v1)
  have p1:(g:Int)*(v1:Int)=((g*v1:Nat):Int):=(Int.natCast_mul _ _).symm
  have p2:(g:Int)*(v2:Int)=((g*v2:Nat):Int):=(Int.natCast_mul _ _).symm
  rw [p1,p2]
  refine ⟨⟨by omega,by omega⟩,⟨by omega,by omega⟩,⟨by omega,by omega⟩,⟨by omega,by omega⟩,⟨by omega,by omega⟩,⟨by omega,by omega⟩,⟨by omega,by omega⟩,⟨by decide,by omega,by omega⟩,⟨by omega,by omega⟩,⟨by omega,by omega⟩,⟨hul,by omega,by omega⟩,⟨hul,by omega⟩,⟨by omega,by omega,by omega⟩,
   fun h=>⟨h,by omega,by omega⟩,fun h=>⟨h,by omega,by omega⟩,fun h=>⟨h,by omega,by omega⟩,fun h=>⟨h,by omega,by omega⟩,fun hA hB => ?_,fun hE => ?_⟩
  ·
   obtain ⟨s1,s2⟩:=ld_guessS (h:=u0*1073741824+u1) (g:=g) x3 x4 y1 g3 (ld_castA g3 hA)
   obtain ⟨k,rfl⟩:∃ k,g=k+1:=⟨g - 1,by omega⟩
   have e1:(k+1)*v1=k*v1+v1:=by rw [Nat.add_mul,Nat.one_mul]
   rw [e1] at g3 g4 hB
   have e2:((k+1:Nat):Int) - 1=(k:Int):=by omega
   exact ⟨⟨by omega,by omega⟩,k,⟨s2,by omega,by omega,by omega⟩,by omega,TurnT.le (by simp -dsimp -implicitDefEqProofs [e2])⟩
  have hE2:=ld_castB g3 hgw (fun h=>by have:=hE h; omega)
  have x6:=ld_guessE (h:=u0*1073741824+u1) x3 y1 y2 (by omega) g2 g3 hE2
  clear hE hE2 hgw hgz hgy p1 p2 g3 g4 x3 y1 c1 c2 b1 b2
  refine WpD.loop (L:={ live:=[0,1,4,5,6,7,8,9,10,11,12,13,14,15,16,17,18,53,116,120,121,122,164,168,169,170],frz:=[(3,[7]),(33,[8]),(34,[4])] }) nr13_good X0_ok nr_mixed (by kernel_rfl)
   (fun p:Nat×List Int×Int=>⟨[(4,⟨true,.v (.s (.own tI 3 (a.length - b.length+1)))⟩),(5,vS tI [] true),(6,vI n),(7,vS tI v false),(8,⟨true,.v (.s (.pre tI 2 (w.length+2) (a.length+1)))⟩),(9,vI b.length),(10,vI i),(12,vI g),(13,vI p.2.2),(120,vI b.length),(121,vI p.1)],[.dead,.dead,.arr true (tI.flats p.2.1),.arr true (tI.flats q)]⟩)
   (fun p=>p.1≤b.length∧p.2.1.length=w.length+2∧LdSub us v i g p.1 p.2.1 p.2.2) (fun p=>b.length - p.1) (0,us,0)
   ⟨Nat.zero_le _,hul,LdSub.zero huo⟩ (Turn.le (by simp -dsimp -implicitDefEqProofs)) ?_
  rintro ⟨t,ys,ow⟩ ⟨ht,hyl,hsub⟩
  simp only at ht hyl hsub
  have hyo:=hsub.1
  have how:=hsub.2.1
  rcases Nat.lt_or_ge t b.length with htl | htl
  ·
   have e1:((i:Int)+(t:Int)).toNat=i+t:=by omega
   have hfl:=fl_at (xs:=ys) (j:=i+t) (by omega)
   have etv:v[t]'(by omega)=v[t]?.getD 0:=by rw [List.getElem?_eq_getElem (by omega)]; rfl
   obtain ⟨s1,s2,s3⟩:=hsub.step (s:=ys[i+t]?.getD 0 - (g:Int)*v[t]?.getD 0+ow) hvo.1 (by omega) (by omega) g2 rfl
   have hy:=okD_get hyo (i:=i+t) (by omega)
   simp -dsimp -implicitDefEqProofs [conLong_eq,e1,hfl,htl,n3,nr13_all,nrT,nr13Γ,nr13E,nr13P,nr9Γ,nr9E,nr9P,nr8Γ,nr8E,nr8P,nr7Γ,nr7E,nr7P,nr6Γ,nr6E,nr6P,nr5Γ,nr5E,nr5P,nr4Γ,nr4E,nr4P,nr3Γ,nr3E,nr3P,nr0Γ,nr0E,nr0P,conLead64_eq,conShort_eq,conMovE,conTrim_eq,conAt_eq,conNCmp_eq,conBack_eq,conOf9_eq,conDivide_eq,conTimes_eq,conLess9_eq,conTwo_eq,conRCheck_eq,conRCmpD_eq,inI64]
   rw [etv,Int.fdiv_eq_ediv_of_nonneg _ (by decide),fl_set (by omega)]
   generalize ys[i+t]?.getD 0 - (g:Int)*v[t]?.getD 0+ow=s at *
   refine ⟨⟨by omega,by omega⟩,⟨hyl,by omega,by omega⟩,⟨hyl,by omega⟩,⟨by omega,by omega⟩,⟨by omega,by omega⟩,⟨by omega,by omega⟩,⟨by omega,by omega⟩,by decide,⟨hyl,by omega,by omega⟩,⟨hyl,by omega⟩,⟨by omega,by omega⟩,
    t+1,ys.set (i+t) (s % 1073741824),s / 1073741824,⟨by omega,by rw [List.length_set]; exact hyl,s1⟩,by omega,TurnT.le (by simp -dsimp -implicitDefEqProofs)⟩
  ·
   obtain rfl:t=b.length:=by omega
   have htn:¬ b.length<b.length:=by omega
   have hfl:=fl_at (xs:=ys) (j:=i+b.length) (by omega)
   have hd1:ys[i+b.length]?.getD 0=u0:=by
    have:=congrArg (fun l=>l[0]?.getD 0) hsub.2.2.2
    simp only [List.getElem?_drop,Nat.add_zero] at this
    rw [this,h0]
   rw [hd1] at hfl
   have hset:=fl_set (xs:=ys) (j:=i+b.length) (v:=(u0:Int)+ow) (by omega)
   have hget:=fl_at (xs:=ys.set (i+b.length) ((u0:Int)+ow)) (j:=i+b.length) (by rw [List.length_set]; omega)
   rw [List.getElem?_set_self (by omega),Option.getD_some] at hget
   simp -dsimp -implicitDefEqProofs [conLong_eq,t0,hfl,htn,n3,hset,hget,nr13_all,nrT,nr13Γ,nr13E,nr13P,nr9Γ,nr9E,nr9P,nr8Γ,nr8E,nr8P,nr7Γ,nr7E,nr7P,nr6Γ,nr6E,nr6P,nr5Γ,nr5E,nr5P,nr4Γ,nr4E,nr4P,nr3Γ,nr3E,nr3P,nr0Γ,nr0E,nr0P,conLead64_eq,conShort_eq,conMovE,conTrim_eq,conAt_eq,conNCmp_eq,conBack_eq,conOf9_eq,conDivide_eq,conTimes_eq,conLess9_eq,conTwo_eq,conRCheck_eq,conRCmpD_eq,inI64]
   have hz:=hsub.2.2.1
   rw [List.take_of_length_le (by omega)] at hz
   have hgi:i<q.length:=by omega
   refine ⟨⟨by omega,by omega⟩,⟨hyl,by omega,by omega⟩,⟨hyl,by omega⟩,⟨by omega,by omega⟩,⟨hyl,by omega,by omega⟩,⟨hyl,by omega⟩,⟨by omega,by omega⟩,⟨hyl,by omega,by omega⟩,⟨hyl,by omega⟩,fun hneg=>⟨⟨by omega,by omega⟩,?_⟩,fun hpos => ?_⟩
   ·
    obtain ⟨k1,k2⟩:=ld_fin2 huo hyo (by omega) hib hsub.2.2.2 hz x1 x6 hlt hvl (by rw [h0]; exact hneg)
    rw [h0] at k2
    generalize hc:(u0:Int)+ow=c at *
    refine WpD.loop (L:={ live:=[0,1,4,5,6,7,8,9,10,11,12,13,14,15,16,17,18,53,116,120,121,122,164,168,169,170],frz:=[(3,[7]),(33,[8]),(34,[4])] }) nr13_good X0_ok nr_mixed (by kernel_rfl)
     (fun p:Nat×List Int×Int=>⟨[(4,⟨true,.v (.s (.own tI 3 (a.length - b.length+1)))⟩),(5,vS tI [] true),(6,vI n),(7,vS tI v false),(8,⟨true,.v (.s (.pre tI 2 (w.length+2) (a.length+1)))⟩),(9,vI b.length),(10,vI i),(12,vI ((g:Int) - 1)),(16,vI p.2.2),(168,vI b.length),(169,vI p.1)],[.dead,.dead,.arr true (tI.flats (p.2.1.set (i+b.length) c)),.arr true (tI.flats q)]⟩)
     (fun p=>p.1≤b.length∧p.2.1.length=w.length+2∧LdAdd (ys.set (i+b.length) 0) v i p.1 p.2.1 p.2.2) (fun p=>b.length - p.1) (0,ys.set (i+b.length) 0,0)
     ⟨Nat.zero_le _,by rw [List.length_set]; exact hyl,LdAdd.zero k1⟩ (Turn.le (by simp -dsimp -implicitDefEqProofs [List.set_set])) ?_
    rintro ⟨t,zs,ov⟩ ⟨ht,hzl,hadd⟩
    simp only at ht hzl hadd
    have hov:=hadd.2.1
    rcases Nat.lt_or_ge t b.length with htl | htl
    ·
     have e1:((i:Int)+(t:Int)).toNat=i+t:=by omega
     have hfl:=fl_at (xs:=zs.set (i+b.length) c) (j:=i+t) (by rw [List.length_set]; omega)
     rw [List.getElem?_set_ne (by omega)] at hfl
     have etv:v[t]'(by omega)=v[t]?.getD 0:=by rw [List.getElem?_eq_getElem (by omega)]; rfl
     obtain ⟨s1,s2,s3,s4⟩:=hadd.step (s:=zs[i+t]?.getD 0+v[t]?.getD 0+ov) hvo.1 (by omega) (by omega) rfl
     have hset:=fl_set (xs:=zs.set (i+b.length) c) (j:=i+t) (by rw [List.length_set]; omega)
     simp only [List.set_comm _ _ (show i+b.length≠i+t by omega)] at hset
     simp -dsimp -implicitDefEqProofs [conLong_eq,e1,hfl,htl,n3,hset,nr13_all,nrT,nr13Γ,nr13E,nr13P,nr9Γ,nr9E,nr9P,nr8Γ,nr8E,nr8P,nr7Γ,nr7E,nr7P,nr6Γ,nr6E,nr6P,nr5Γ,nr5E,nr5P,nr4Γ,nr4E,nr4P,nr3Γ,nr3E,nr3P,nr0Γ,nr0E,nr0P,conLead64_eq,conShort_eq,conMovE,conTrim_eq,conAt_eq,conNCmp_eq,conBack_eq,conOf9_eq,conDivide_eq,conTimes_eq,conLess9_eq,conTwo_eq,conRCheck_eq,conRCmpD_eq,inI64]
     rw [etv,Int.fdiv_eq_ediv_of_nonneg _ (by decide)]
     generalize zs[i+t]?.getD 0+v[t]?.getD 0+ov=s at *
     exact ⟨⟨by omega,by omega⟩,⟨hzl,by omega,by omega⟩,⟨hzl,by omega⟩,⟨by omega,by omega⟩,⟨by omega,by omega⟩,⟨by omega,by omega⟩,by decide,⟨hzl,by omega,by omega⟩,⟨hzl,by omega⟩,⟨by omega,by omega⟩,
      t+1,zs.set (i+t) (s % 1073741824),s / 1073741824,⟨by omega,by rw [List.length_set]; exact hzl,s1⟩,by omega,TurnT.le (by simp -dsimp -implicitDefEqProofs)⟩
    ·
     obtain rfl:t=b.length:=by omega
     have htn:¬ b.length<b.length:=by omega
     have hzt:=hadd.top
     rw [List.getElem?_set_self (by omega),Option.getD_some] at hzt
     obtain ⟨m1,m2,m3,m4⟩:=k2 zs ov hadd.1 (by omega) hadd.2.2.2 hov (by have:=hadd.2.2.1; rwa [List.take_of_length_le (by omega)] at this)
     have hfl:=fl_at (xs:=zs.set (i+b.length) c) (j:=i+b.length) (by rw [List.length_set]; omega)
     rw [List.getElem?_set_self (by omega),Option.getD_some] at hfl
     have hset:=fl_set (xs:=zs.set (i+b.length) c) (j:=i+b.length) (v:=0) (by rw [List.length_set]; omega)
     rw [List.set_set,set_zero_same (by omega) hzt] at hset
     have hqs:=fl_set (xs:=q) (j:=i) (v:=((g - 1:Nat):Int)) (by omega)
     have hg1:(g:Int) - 1=((g - 1:Nat):Int):=by omega
     simp -dsimp -implicitDefEqProofs [conLong_eq,t0,hfl,htn,n3,hset,m1,hg1,nr13_all,nrT,nr13Γ,nr13E,nr13P,nr9Γ,nr9E,nr9P,nr8Γ,nr8E,nr8P,nr7Γ,nr7E,nr7P,nr6Γ,nr6E,nr6P,nr5Γ,nr5E,nr5P,nr4Γ,nr4E,nr4P,nr3Γ,nr3E,nr3P,nr0Γ,nr0E,nr0P,conLead64_eq,conShort_eq,conMovE,conTrim_eq,conAt_eq,conNCmp_eq,conBack_eq,conOf9_eq,conDivide_eq,conTimes_eq,conLess9_eq,conTwo_eq,conRCheck_eq,conRCmpD_eq,inI64]
     rw [hqs]
     exact ⟨⟨by omega,by omega⟩,⟨hzl,by omega,by omega⟩,⟨hzl,by omega⟩,⟨hzl,by omega,by omega⟩,⟨hzl,by omega⟩,⟨hql,by omega⟩,⟨hql,by omega⟩,⟨by omega,by omega⟩,
      i,zs,q.set i ((g - 1:Nat):Int),⟨by omega,hzl,hadd.1,by rw [List.length_set]; exact hql,okD_set hqo (by omega),ld_quot hgi hinv m3,m4⟩,by omega,TurnT.le (by simp -dsimp -implicitDefEqProofs)⟩
   ·
    skip
    obtain ⟨m2,m3,m4⟩:=ld_fin1 hyo (by omega) hib (hd1.trans h0.symm) hz x1 x2 g1 (by rw [h0]; exact hpos) (by omega)
    rw [h0] at m2 m3 m4
    rw [fl_set (xs:=q) (j:=i) (v:=(g:Int)) (by omega)]
    exact ⟨⟨hql,by omega⟩,⟨hql,by omega⟩,⟨by omega,by omega⟩,
      i,ys.set (i+b.length) ((u0:Int)+ow),q.set i (g:Int),⟨by omega,by rw [List.length_set]; exact hyl,m2,by rw [List.length_set]; exact hql,okD_set hqo (by omega),ld_quot hgi hinv m3,m4⟩,by omega,TurnT.le (by simp -dsimp -implicitDefEqProofs)⟩
def nr14Γ:List (FuncId×Con):=(184,conLong)::nr13Γ
theorem nr14Γ_ok:∀ p∈nr14Γ,(∀ (args:Array Value) (w:World),(callFunc p.1 args).run Tryz.prog w=.ok (.enter p.1 args) w)∧PureOk Tryz.prog p.1 p.2:=by
 simp only [nr14Γ,List.forall_mem_cons]
 exact ⟨⟨enters_of Tryz.func184 (by kernel_rfl) rfl,long_ok⟩,nr13Γ_ok⟩
def nr14E:List (FuncId×ECon):=nr13E
theorem nr14E_ok:∀ p∈nr14E,(∀ (args:Array Value) (w:World),(callFunc p.1 args).run Tryz.prog w=.ok (.enter p.1 args) w)∧EffOk Tryz.prog p.1 p.2:=by
 simp only [nr14E]
 exact nr13E_ok
def nr14P:List (FuncId×PCon):=nr13P
theorem nr14P_ok:∀ p∈nr14P,(∀ (args:Array Value) (w:World),(callFunc p.1 args).run Tryz.prog w=.ok (.enter p.1 args) w)∧PanOk Tryz.prog p.1 p.2:=by
 simp only [nr14P]
 exact nr13P_ok
def nr14:G:={ τ:=nrT,Γ:=nr14Γ,E:=nr14E,Pn:=nr14P }
theorem nr14_good:nr14.good Tryz.prog:=good_of_all (nrT_ok _ rfl) nr14Γ_ok nr14E_ok nr14P_ok
theorem nr14_all:(∀ t,nr14.td t=(look nrT t).getD .other)∧nr14.y=false∧nr14.Γ=nr14Γ∧nr14.E=nr14E∧nr14.Pn=nr14P∧nr14.fz=[]:=⟨fun _=>rfl,rfl,rfl,rfl,rfl,rfl⟩
def conDiv:Con:=⟨fun args=>(match args with
 | [.s (.sl (.int .i64) a _),.s (.sl (.int .i64) b _)]=>canon a∧canon b∧1≤b.length∧a.length≤2048∧b.length≤2048
 | _=>False),fun args=>match args with
 | [.s (.sl (.int .i64) a _),.s (.sl (.int .i64) b _)]=>.tup [aS tI (dig (vl a / vl b)) false,aS tI (dig (vl a % vl b)) false]
 | _=>.v (.s .any)⟩
theorem conDiv_eq (a:List (Ty.T tI)) (exa:Bool) (b:List (Ty.T tI)) (exb:Bool):conDiv.pre [.s (.sl tI a exa),.s (.sl tI b exb)]=(canon a∧canon b∧1≤b.length∧a.length≤2048∧b.length≤2048)∧conDiv.val [.s (.sl tI a exa),.s (.sl tI b exb)]=.tup [aS tI (dig (vl a / vl b)) false,aS tI (dig (vl a % vl b)) false]:=⟨rfl,rfl⟩
theorem ndiv_ok:PureOk Tryz.prog 150 conDiv:=by
 refine pureOkD (L:={ live:=[0,1,4,5,6,7,8,14] }) nr14_good rfl nr_mixed Tryz.func150 rfl conDiv 2 (by decide) (by kernel_rfl) ?_
 intro args hpre hlens
 simp only [conDiv] at hpre
 split at hpre
 case h_2=>exact hpre.elim
 rename_i a ea b eb
 simp only [allLen,AV.lenOk,SV.lenOk,Ty.lenOk,maxLen,and_true,implies_true,true_and,List.forall_mem_cons,List.not_mem_nil,false_implies] at hlens
 refine ⟨rfl,?_⟩
 simp -dsimp -implicitDefEqProofs [Tryz.f150,conDiv_eq,nr14_all,nrT,nr14Γ,nr14E,nr14P,nr13Γ,nr13E,nr13P,nr9Γ,nr9E,nr9P,nr8Γ,nr8E,nr8P,nr7Γ,nr7E,nr7P,nr6Γ,nr6E,nr6P,nr5Γ,nr5E,nr5P,nr4Γ,nr4E,nr4P,nr3Γ,nr3E,nr3P,nr0Γ,nr0E,nr0P,conLong_eq,conLead64_eq,conShort_eq,conMovE,conTrim_eq,conAt_eq,conNCmp_eq,conBack_eq,conOf9_eq,conDivide_eq,conTimes_eq,conLess9_eq,conTwo_eq,conRCheck_eq,conRCmpD_eq,inI64]
 obtain ⟨ha,hb,hb1,hal,hbl⟩:=hpre
 obtain ⟨a,rfl⟩:∃ y:List Int,y=a:=⟨a,rfl⟩; obtain ⟨b,rfl⟩:∃ y:List Int,y=b:=⟨b,rfl⟩
 refine ⟨⟨ha,hb⟩,fun h => ?_,fun h=>⟨fun h1 => ?_,fun h1 => ?_⟩⟩
 ·
  have hl:=cmpN_neg.1 h
  rw [Nat.div_eq_of_lt hl,Nat.mod_eq_of_lt hl,dig_zero,canon_eq ha]
  exact ⟨rfl,rfl⟩
 ·
  have h0:=canon_last hb (by omega)
  rw [show b.length - 1=0 by omega] at h0
  obtain ⟨d,rfl⟩:∃ d,b=[d]:=List.length_eq_one_iff.1 (by omega)
  have e1:([d]:List Int)[0]?.getD 0=d:=rfl
  rw [e1] at h0 ⊢
  obtain ⟨n,rfl⟩:∃ n:Nat,d=n:=⟨d.toNat,by omega⟩
  have hmx:max (n:Int) 0=n:=by omega
  have hmod:=Nat.mod_lt (vl a) (show 0<n by omega)
  rw [vl_one,Int.toNat_natCast,hmx,← Int.natCast_emod]
  refine ⟨by omega,⟨ha.1,⟨by omega,by omega⟩,by omega⟩,rfl,?_⟩
  rw [← dig_vl (okD_cons.2 ⟨⟨by omega,by omega⟩,okD_nil⟩),vl_one,Int.toNat_natCast]
 ·
  refine ⟨ha,hb,by omega,?_,by omega⟩
  apply Classical.byContradiction
  intro hc
  have:=cmpN_lt (vl_len ha hb (by omega))
  omega
def conBigN:Con:=⟨fun args=>(match args with
 | [.s (.bool ng),.s (.sl (.int .i64) m _)]=>(trimL m).length≤2048
 | _=>False),fun args=>match args with
 | [.s (.bool ng),.s (.sl (.int .i64) m _)]=>.v (.agg [.bool (ng&&decide (trimL m≠[])),.sl tI (trimL m) false])
 | _=>.v (.s .any)⟩
theorem conBigN_eq (ng:Bool) (m:List (Ty.T tI)) (exm:Bool):conBigN.pre [.s (.bool ng),.s (.sl tI m exm)]=((trimL m).length≤2048)∧conBigN.val [.s (.bool ng),.s (.sl tI m exm)]=.v (.agg [.bool (ng&&decide (trimL m≠[])),.sl tI (trimL m) false]):=⟨rfl,rfl⟩
theorem nbig_ok:PureOk Tryz.prog 148 conBigN:=by
 refine pureOkD (L:={ live:=[0,1,4,9],fin:=[(3,[])] }) nr14_good rfl nr_mixed Tryz.func148 rfl conBigN 2 (by decide) (by kernel_rfl) ?_
 intro args hpre hlens
 simp only [conBigN] at hpre
 split at hpre
 case h_2=>exact hpre.elim
 rename_i ng m em
 simp only [allLen,AV.lenOk,SV.lenOk,Ty.lenOk,maxLen,and_true,implies_true,true_and,List.forall_mem_cons,List.not_mem_nil,false_implies] at hlens
 refine ⟨rfl,?_⟩
 simp -dsimp -implicitDefEqProofs [Tryz.f148,conBigN_eq,nr14_all,nrT,nr14Γ,nr14E,nr14P,nr13Γ,nr13E,nr13P,nr9Γ,nr9E,nr9P,nr8Γ,nr8E,nr8P,nr7Γ,nr7E,nr7P,nr6Γ,nr6E,nr6P,nr5Γ,nr5E,nr5P,nr4Γ,nr4E,nr4P,nr3Γ,nr3E,nr3P,nr0Γ,nr0E,nr0P,conLong_eq,conLead64_eq,conShort_eq,conMovE,conTrim_eq,conAt_eq,conNCmp_eq,conBack_eq,conOf9_eq,conDivide_eq,conTimes_eq,conLess9_eq,conTwo_eq,conRCheck_eq,conRCmpD_eq,inI64]
 refine ⟨by omega,fun _ => ?_⟩
 cases trimL m <;> simp
abbrev tBig:Ty:=.cons .bool (.cons (.slice (.int .i64)) .nil)
def okB (x:tBig.T):Prop:=okBig x.1 x.2.1
def conChk:Con:=⟨fun args=>(match args with
 | [.s (.sl (.cons .bool (.cons (.slice (.int .i64)) .nil)) l _)]=>∀ x∈l,okB x
 | _=>False),fun args=>match args with
 | [.s (.sl (.cons .bool (.cons (.slice (.int .i64)) .nil)) l _)]=>.tup []
 | _=>.v (.s .any)⟩
theorem conChk_eq (l:List (Ty.T tBig)) (exl:Bool):conChk.pre [.s (.sl tBig l exl)]=(∀ x∈l,okB x)∧conChk.val [.s (.sl tBig l exl)]=.tup []:=⟨rfl,rfl⟩
def nr15Γ:List (FuncId×Con):=(90,conNCheck)::nr14Γ
theorem nr15Γ_ok:∀ p∈nr15Γ,(∀ (args:Array Value) (w:World),(callFunc p.1 args).run Tryz.prog w=.ok (.enter p.1 args) w)∧PureOk Tryz.prog p.1 p.2:=by
 simp only [nr15Γ,List.forall_mem_cons]
 exact ⟨⟨enters_of Tryz.func90 (by kernel_rfl) rfl,ncheck_ok⟩,nr14Γ_ok⟩
def nr15E:List (FuncId×ECon):=nr14E
theorem nr15E_ok:∀ p∈nr15E,(∀ (args:Array Value) (w:World),(callFunc p.1 args).run Tryz.prog w=.ok (.enter p.1 args) w)∧EffOk Tryz.prog p.1 p.2:=by
 simp only [nr15E]
 exact nr14E_ok
def nr15P:List (FuncId×PCon):=nr14P
theorem nr15P_ok:∀ p∈nr15P,(∀ (args:Array Value) (w:World),(callFunc p.1 args).run Tryz.prog w=.ok (.enter p.1 args) w)∧PanOk Tryz.prog p.1 p.2:=by
 simp only [nr15P]
 exact nr14P_ok
def nr15:G:={ τ:=nrT,Γ:=nr15Γ,E:=nr15E,Pn:=nr15P }
theorem nr15_good:nr15.good Tryz.prog:=good_of_all (nrT_ok _ rfl) nr15Γ_ok nr15E_ok nr15P_ok
theorem nr15_all:(∀ t,nr15.td t=(look nrT t).getD .other)∧nr15.y=false∧nr15.Γ=nr15Γ∧nr15.E=nr15E∧nr15.Pn=nr15P∧nr15.fz=[]:=⟨fun _=>rfl,rfl,rfl,rfl,rfl,rfl⟩
theorem nchk_ok:PureOk Tryz.prog 110 conChk:=by
 refine pureOkD (L:={ live:=[0,3,4,5,6,7,8,14],fin:=[(5,[])] }) nr15_good rfl nr_mixed Tryz.func110 rfl conChk 1 (by decide) (by kernel_rfl) ?_
 intro args hpre hlens
 simp only [conChk] at hpre
 split at hpre
 case h_2=>exact hpre.elim
 rename_i l el
 simp only [allLen,AV.lenOk,SV.lenOk,Ty.lenOk,maxLen,and_true,implies_true,true_and,List.forall_mem_cons,List.not_mem_nil,false_implies] at hlens
 refine ⟨rfl,?_⟩
 simp -dsimp -implicitDefEqProofs [Tryz.f110,conChk_eq,nr15_all,nrT,nr15Γ,nr15E,nr15P,nr14Γ,nr14E,nr14P,nr13Γ,nr13E,nr13P,nr9Γ,nr9E,nr9P,nr8Γ,nr8E,nr8P,nr7Γ,nr7E,nr7P,nr6Γ,nr6E,nr6P,nr5Γ,nr5E,nr5P,nr4Γ,nr4E,nr4P,nr3Γ,nr3E,nr3P,nr0Γ,nr0E,nr0P,conNCheck_eq,conLong_eq,conLead64_eq,conShort_eq,conMovE,conTrim_eq,conAt_eq,conNCmp_eq,conBack_eq,conOf9_eq,conDivide_eq,conTimes_eq,conLess9_eq,conTwo_eq,conRCheck_eq,conRCmpD_eq,inI64]
 refine WpD.loop (L:={ live:=[0,3,4,5,6,7,8,14],fin:=[(5,[])] }) nr15_good X0_ok nr_mixed (by kernel_rfl)
  (fun i:Nat=>⟨[(5,vS tBig l el),(6,vI l.length),(7,vI i)],[]⟩)
  (fun i=>i≤l.length) (fun i=>l.length - i) 0 (Nat.zero_le _) (Turn.le (by simp -dsimp -implicitDefEqProofs)) ?_
 intro i hi
 rcases Nat.lt_or_ge i l.length with hil | hge
 ·
  have h0:natErr l[i].1 l[i].2.1=0:=natErr_0.2 (hpre _ (List.getElem_mem hil))
  simp -dsimp -implicitDefEqProofs [conChk_eq,hil,h0,nr15_all,nrT,nr15Γ,nr15E,nr15P,nr14Γ,nr14E,nr14P,nr13Γ,nr13E,nr13P,nr9Γ,nr9E,nr9P,nr8Γ,nr8E,nr8P,nr7Γ,nr7E,nr7P,nr6Γ,nr6E,nr6P,nr5Γ,nr5E,nr5P,nr4Γ,nr4E,nr4P,nr3Γ,nr3E,nr3P,nr0Γ,nr0E,nr0P,conNCheck_eq,conLong_eq,conLead64_eq,conShort_eq,conMovE,conTrim_eq,conAt_eq,conNCmp_eq,conBack_eq,conOf9_eq,conDivide_eq,conTimes_eq,conLess9_eq,conTwo_eq,conRCheck_eq,conRCmpD_eq,inI64]
  exact ⟨⟨by omega,by omega⟩,i+1,by omega,by omega,TurnT.trunc X0_ok (hp:=[]) (junk:=[_]) (by simp) (by simp only [List.length_cons,List.length_nil,List.all_cons,List.all_nil,arr_below,Bool.and_true] <;> simp [Blk.below,SV.below]) (by simp -dsimp -implicitDefEqProofs []) (by simp [envBelow,RV.below,AV.below,SV.below])⟩
 ·
  have hn:¬ i<l.length:=by omega
  simp -dsimp -implicitDefEqProofs [conChk_eq,hn,nr15_all,nrT,nr15Γ,nr15E,nr15P,nr14Γ,nr14E,nr14P,nr13Γ,nr13E,nr13P,nr9Γ,nr9E,nr9P,nr8Γ,nr8E,nr8P,nr7Γ,nr7E,nr7P,nr6Γ,nr6E,nr6P,nr5Γ,nr5E,nr5P,nr4Γ,nr4E,nr4P,nr3Γ,nr3E,nr3P,nr0Γ,nr0E,nr0P,conNCheck_eq,conLong_eq,conLead64_eq,conShort_eq,conMovE,conTrim_eq,conAt_eq,conNCmp_eq,conBack_eq,conOf9_eq,conDivide_eq,conTimes_eq,conLess9_eq,conTwo_eq,conRCheck_eq,conRCmpD_eq,inI64]
end Go.Am
namespace Go.Am
set_option maxHeartbeats 4000000
set_option maxRecDepth 20000
open Go.RowKit Go.Proofs
theorem natCaught:CaughtRaw Tryz.prog 109 30:=by
 constructor
 ·
  intro n p w
  refine callsDIn_of_wpSIn Tryz.func109 rfl trivial fun c₀ cs hu => ?_
  apply wpSIn_seq
  apply wpSIn_region
  simp [wpOpsSIn,go_sem,recoverD,hu,Tryz.ntmps109,Exit.thenS]
  apply wpSIn_seq
  apply wpSIn_region
  simp [wpOpsSIn,go_sem,Exit.thenS,eqGuard,Op.equal,Op.equalIn,Op.maxDepth,run_underlying Tryz.underlying20]
  refine wpSIn_cond (t:=false) (by simp [Act.eval,Array.replicate]) ?_
  simp only [Bool.false_eq_true,if_false]
  refine wpSIn_of_wpIn rfl (wpIn_skip ?_)
  cases c₀
  simp_all [bodyPostS,results,Tryz.results109]
 ·
  intro n p x m w hc hf
  refine callsDIn_of_wpSIn Tryz.func109 rfl trivial fun c₀ cs hu => ?_
  apply wpSIn_seq
  apply wpSIn_region
  simp [wpOpsSIn,go_sem,recoverD,hu,Tryz.ntmps109,Exit.thenS]
  apply wpSIn_seq
  apply wpSIn_region
  simp [wpOpsSIn,go_sem,Exit.thenS,eqGuard,Op.equal,Op.equalIn,Op.maxDepth,run_underlying Tryz.underlying20]
  refine wpSIn_cond (t:=true) (by simp [Act.eval,Array.replicate]) ?_
  simp only [if_true]
  apply wpSIn_seq
  apply wpSIn_region
  simp [wpOpsSIn,go_sem,Exit.thenS,Instr.typeAssert,run_underlying Tryz.underlying20,run_underlying Tryz.underlying30]
  apply wpSIn_seq
  apply wpSIn_seq
  apply wpSIn_region
  simp [wpOpsSIn,go_sem,Exit.thenS]
  refine wpSIn_cond (t:=false) (by simp [Act.eval,Array.replicate]) ?_
  simp only [Bool.false_eq_true,if_false]
  refine wpSIn_of_wpIn rfl (wpIn_skip ?_)
  show Code.wpSIn _ _ _ _ _ _ _ _
  apply wpSIn_region
  simp [wpOpsSIn,go_sem,hc,hf,bodyPostS,results,Tryz.results109]
theorem ratioCaught:CaughtRaw Tryz.prog 51 30:=by
 constructor
 ·
  intro n p w
  refine callsDIn_of_wpSIn Tryz.func51 rfl trivial fun c₀ cs hu => ?_
  apply wpSIn_seq
  apply wpSIn_region
  simp [wpOpsSIn,go_sem,recoverD,hu,Tryz.ntmps51,Exit.thenS]
  refine wpSIn_of_wpIn rfl (wpIn_block (wpIn_seq (wpIn_region_list ?_)))
  simp [wpListIn,Region.wanted,go_sem,Oper.wpIn,Oper.uponIn,Oper.semAt_none,FW,eqGuard,Op.equal,Op.equalIn,Op.maxDepth,Instr.typeAssert,run_underlying Tryz.underlying20,run_underlying Tryz.underlying30]
  refine wpIn_cond (t:=true) (by simp [Act.eval,Array.replicate]) ?_
  simp only [if_true]
  refine wpIn_region_list ?_
  cases c₀
  simp [wpListIn,Region.wanted,go_sem,Oper.wpIn,Oper.uponIn,Oper.semAt_none,FW,eqGuard,Op.equal,Op.equalIn,Op.maxDepth,Instr.typeAssert,run_underlying Tryz.underlying20,run_underlying Tryz.underlying30,bodyPostS,results,Tryz.results51,Exit.inBlock]
  simp_all
 ·
  intro n p x m w hc hf
  refine callsDIn_of_wpSIn Tryz.func51 rfl trivial fun c₀ cs hu => ?_
  apply wpSIn_seq
  apply wpSIn_region
  simp [wpOpsSIn,go_sem,recoverD,hu,Tryz.ntmps51,Exit.thenS]
  refine wpSIn_of_wpIn rfl (wpIn_block (wpIn_seq (wpIn_region_list ?_)))
  simp [wpListIn,Region.wanted,go_sem,Oper.wpIn,Oper.uponIn,Oper.semAt_none,FW,eqGuard,Op.equal,Op.equalIn,Op.maxDepth,Instr.typeAssert,run_underlying Tryz.underlying20,run_underlying Tryz.underlying30]
  refine wpIn_cond (t:=false) (by simp [Act.eval,Array.replicate]) ?_
  simp only [Bool.false_eq_true,if_false]
  refine wpIn_seq (wpIn_region_list ?_)
  simp [wpListIn,Region.wanted,go_sem,Oper.wpIn,Oper.uponIn,Oper.semAt_none,FW,eqGuard,Op.equal,Op.equalIn,Op.maxDepth,Instr.typeAssert,run_underlying Tryz.underlying20,run_underlying Tryz.underlying30]
  refine wpIn_cond (t:=true) (by simp [Act.eval,Array.replicate]) ?_
  simp only [if_true]
  refine wpIn_seq (wpIn_region_list ?_)
  simp [wpListIn,Region.wanted,go_sem,Oper.wpIn,Oper.uponIn,Oper.semAt_none,FW,eqGuard,Op.equal,Op.equalIn,Op.maxDepth,Instr.typeAssert,run_underlying Tryz.underlying20,run_underlying Tryz.underlying30]
  refine wpIn_region_list ?_
  simp [wpListIn,Region.wanted,go_sem,Oper.wpIn,Oper.uponIn,Oper.semAt_none,FW,eqGuard,Op.equal,Op.equalIn,Op.maxDepth,Instr.typeAssert,run_underlying Tryz.underlying20,run_underlying Tryz.underlying30,hc,hf,bodyPostS,results,Tryz.results51,Exit.inBlock]
end Go.Am
namespace Go.Am
set_option maxHeartbeats 4000000
set_option maxRecDepth 20000
open Go.RowKit Go.Proofs
attribute [local simp] thenKD_normal thenKD_exit thenKD_goto thenKD_ret inBlockKD_normal inBlockKD_exit inBlockKD_goto inBlockKD_ret noGotoKD_normal noGotoKD_exit noGotoKD_goto noGotoKD_ret roundKD_normal roundKD_exit roundKD_goto roundKD_ret frzSlotsD_nil frzSlotsD_cons frzSlotD_eq yieldVCD_trace opVCD_eq vcOpsD_nil vcOpsD_cons vcAllD_zero vcAllD_succ allAtD_nil allAtD_cons readyAux edgA vcD_skip vcD_label vcD_exit vcD_goto vcD_ret vcD_region vcD_seq vcD_seqC vcD_cond vcCondD_bool vcD_block vcD_scope vcD_loop vcD_rangeFunc yieldOf isMem isMem0 keepE envLe St.le psE yieldAV round_td round_y round_Γ vI vB vS aI aB aS look getE oper opRV putE allOk okOps Op.operands Call.operands pEv qEv mEv constRV coe RV.av loadEv loadCs takeAt indexAddrEv fieldAddrEv binEv intEv arith unEv gcond pickEv argsEv callVal callEv capAV_mk lenArgs lenEv minEv extractEv convEv funcEv allBox bound sliceEv lookupEv TD.isBool allocEv boxEv storeEv spl plainTD appendEv appendArgs makeMapEv mapUpdateEv buildEv buildSliceEv fillSV zsvOf sizeTD Ty.parses parses_flats' coeA flats_length AV.good AV.cells AV.pure SV.pure av_int av_bool av_str av_slice av_cons av_fld0 av_fld1 av_fld2 av_fld3 av_fld4 Ty.of Ty.dflt Ty.parse Ty.flat Ty.zsv Ty.fld Ty.get Ty.off Ty.nfld Ty.size coeTy junk Blk.look argEnv resEv resOk resVs oneRV retOk frzAs frzAV frzL frzSV boxCaps boxCap SV.sig sigs RV.scalar AV.scalar SV.scalar nope effVCD_eq effOf SV.ids AV.ids dedup SV.ren AV.ren RV.ren idx outId mergeB Blk.pureB flats_pure flat_pure epsSlotsD_nil epsSlotsD_cons epsSlotD_eq allEp D.parts_fnOf fvParts retEff round_E av_fn G.ye isCutD_nil isCutD_cons firstReg_region firstReg_seq firstReg_skip firstReg_ret firstReg_label firstReg_exit firstReg_goto firstReg_cond firstReg_block firstReg_scope firstReg_loop firstReg_rf eptrOf_mk flOfD_nil flOfD_cons vcFlD_cons vcFlD_nil flPairs_nil flPairs_cons vcFrD_nil vcFrD_cons makeSliceEv vcCondD_ib fzEv unfl_flats isFz round_fz panVCD_eq panOf isShift strIdxEv ifaceEv nilChkEv sliceAnyEv sliceOwnEv sliceSufEv appendEv0 appendEv1 Ty.beq Ty.isAgg round_Pn vcDefD_seqR vcDefD_seqS vcDefD_seqC vcDefD_seqB vcDefD_seqL vcDefD_seqF vcDefD_seqSc vcDefD_region vcDefD_ret vcDefD_cond vcDefD_block vcDefD_loop thenKD_panic inBlockKD_panic noGotoKD_panic exitOk_normal exitOk_ret exitOk_panic exitOk_exit runDefs_none runDefs_some runDefs_cons defRegD defReg2D isDefer defOf caughtCon unfl_cons D.bpart_bndOf D.parts_bndOf AV.sig zapEv capArgs capEv
attribute [local simp ←] flats_append
def nr16Γ:List (FuncId×Con):=(110,conChk)::(148,conBigN)::(150,conDiv)::(149,conTimes)::nr15Γ
theorem nr16Γ_ok:∀ p∈nr16Γ,(∀ (args:Array Value) (w:World),(callFunc p.1 args).run Tryz.prog w=.ok (.enter p.1 args) w)∧PureOk Tryz.prog p.1 p.2:=by
 simp only [nr16Γ,List.forall_mem_cons]
 exact ⟨⟨enters_of Tryz.func110 (by kernel_rfl) rfl,nchk_ok⟩,⟨enters_of Tryz.func148 (by kernel_rfl) rfl,nbig_ok⟩,⟨enters_of Tryz.func150 (by kernel_rfl) rfl,ndiv_ok⟩,⟨enters_of Tryz.func149 (by kernel_rfl) rfl,nmul_ok⟩,nr15Γ_ok⟩
def nr16E:List (FuncId×ECon):=nr15E
theorem nr16E_ok:∀ p∈nr16E,(∀ (args:Array Value) (w:World),(callFunc p.1 args).run Tryz.prog w=.ok (.enter p.1 args) w)∧EffOk Tryz.prog p.1 p.2:=by
 simp only [nr16E]
 exact nr15E_ok
def nr16P:List (FuncId×PCon):=nr15P
theorem nr16P_ok:∀ p∈nr16P,(∀ (args:Array Value) (w:World),(callFunc p.1 args).run Tryz.prog w=.ok (.enter p.1 args) w)∧PanOk Tryz.prog p.1 p.2:=by
 simp only [nr16P]
 exact nr15P_ok
def nr16:G:={ τ:=nrT,Γ:=nr16Γ,E:=nr16E,Pn:=nr16P }
theorem nr16_good:nr16.good Tryz.prog:=good_of_all (nrT_ok _ rfl) nr16Γ_ok nr16E_ok nr16P_ok
theorem nr16_all:(∀ t,nr16.td t=(look nrT t).getD .other)∧nr16.y=false∧nr16.Γ=nr16Γ∧nr16.E=nr16E∧nr16.Pn=nr16P∧nr16.fz=[]:=⟨fun _=>rfl,rfl,rfl,rfl,rfl,rfl⟩
def conGcdN:Con:=⟨fun args=>(match args with
 | [.agg [.bool n1,.sl (.int .i64) m1 _],.agg [.bool n2,.sl (.int .i64) m2 _]]=>okBig n1 m1∧okBig n2 m2
 | _=>False),fun args=>match args with
 | [.agg [.bool n1,.sl (.int .i64) m1 _],.agg [.bool n2,.sl (.int .i64) m2 _]]=>.tup [.agg [.bool false,.sl tI (dig (Nat.gcd (vl m1) (vl m2))) false],aI 0]
 | _=>.v (.s .any)⟩
theorem conGcdN_eq (n1:Bool) (m1:List (Ty.T tI)) (exm1:Bool) (n2:Bool) (m2:List (Ty.T tI)) (exm2:Bool):conGcdN.pre [.agg [.bool n1,.sl tI m1 exm1],.agg [.bool n2,.sl tI m2 exm2]]=(okBig n1 m1∧okBig n2 m2)∧conGcdN.val [.agg [.bool n1,.sl tI m1 exm1],.agg [.bool n2,.sl tI m2 exm2]]=.tup [.agg [.bool false,.sl tI (dig (Nat.gcd (vl m1) (vl m2))) false],aI 0]:=⟨rfl,rfl⟩
theorem gcdn_ok:PureOk Tryz.prog 105 conGcdN:=by
 refine pureDefD (L:={ live:=[0,1,2,3,4,5,6,7,9,20] }) nr16_good rfl nr_mixed (dl_cons ⟨enters_of Tryz.func109 (by kernel_rfl) rfl,caught_ok natCaught⟩ dl_nil) Tryz.func105 rfl conGcdN 2 (by decide) (by kernel_rfl) ?_
 intro args hpre hlens
 simp only [conGcdN] at hpre
 split at hpre
 case h_2=>exact hpre.elim
 rename_i n1 m1 e1 n2 m2 e2
 simp only [allLen,AV.lenOk,SV.lenOk,Ty.lenOk,maxLen,and_true,implies_true,true_and,List.forall_mem_cons,List.not_mem_nil,false_implies] at hlens
 refine ⟨rfl,?_⟩
 simp -dsimp -implicitDefEqProofs [Tryz.f105,conGcdN_eq,nr16_all,nrT,nr16Γ,nr16E,nr16P,nr15Γ,nr15E,nr15P,nr14Γ,nr14E,nr14P,nr13Γ,nr13E,nr13P,nr9Γ,nr9E,nr9P,nr8Γ,nr8E,nr8P,nr7Γ,nr7E,nr7P,nr6Γ,nr6E,nr6P,nr5Γ,nr5E,nr5P,nr4Γ,nr4E,nr4P,nr3Γ,nr3E,nr3P,nr0Γ,nr0E,nr0P,conChk_eq,conBigN_eq,conDiv_eq,conTimes_eq,conNCheck_eq,conLong_eq,conLead64_eq,conShort_eq,conMovE,conTrim_eq,conAt_eq,conNCmp_eq,conBack_eq,conOf9_eq,conDivide_eq,conLess9_eq,conTwo_eq,conRCheck_eq,conRCmpD_eq,inI64]
 obtain ⟨m1,rfl⟩:∃ y:List Int,y=m1:=⟨m1,rfl⟩; obtain ⟨m2,rfl⟩:∃ y:List Int,y=m2:=⟨m2,rfl⟩
 obtain ⟨h1,h2⟩:=hpre
 refine ⟨⟨h1,h2⟩,?_⟩
 refine WpD.loop (L:={ live:=[0,1,2,3,4,5,6,7,9,20] }) nr16_good X0_ok nr_mixed (by kernel_rfl)
  (fun p:TwoL=>⟨[(4,⟨true,.v (.s (.box 2 0))⟩),(5,⟨true,.v (.s (.box 3 0))⟩),(6,vS tI p.x p.ex),(7,vS tI p.y p.ey)],[.cells [.bool n1,.sl tI m1 e1],.cells [.bool n2,.sl tI m2 e2],.cells [.bool false,.sl tI [] true],.cells [.int .i64 0]]⟩)
  (fun p=>canon p.x∧canon p.y∧p.x.length≤2048∧p.y.length≤2048∧Nat.gcd (vl p.x) (vl p.y)=Nat.gcd (vl m1) (vl m2)) (fun p=>vl p.y) ⟨m1,e1,m2,e2⟩ ⟨h1.1,h2.1,h1.2.1,h2.2.1,rfl⟩ (Turn.le (by simp -dsimp -implicitDefEqProofs)) ?_
 rintro ⟨x,ex,y,ey⟩ ⟨hx,hy,hxl,hyl,hg⟩
 simp only at hx hy hxl hyl hg
 rcases Nat.eq_zero_or_pos y.length with h0 | h0
 ·
  obtain rfl:=List.length_eq_zero_iff.1 h0
  have hv:vl x=Nat.gcd (vl m1) (vl m2):=by rw [← hg]; simp [vl]
  simp -dsimp -implicitDefEqProofs [conGcdN_eq,trim_canon hx,nr16_all,nrT,nr16Γ,nr16E,nr16P,nr15Γ,nr15E,nr15P,nr14Γ,nr14E,nr14P,nr13Γ,nr13E,nr13P,nr9Γ,nr9E,nr9P,nr8Γ,nr8E,nr8P,nr7Γ,nr7E,nr7P,nr6Γ,nr6E,nr6P,nr5Γ,nr5E,nr5P,nr4Γ,nr4E,nr4P,nr3Γ,nr3E,nr3P,nr0Γ,nr0E,nr0P,conChk_eq,conBigN_eq,conDiv_eq,conTimes_eq,conNCheck_eq,conLong_eq,conLead64_eq,conShort_eq,conMovE,conTrim_eq,conAt_eq,conNCmp_eq,conBack_eq,conOf9_eq,conDivide_eq,conLess9_eq,conTwo_eq,conRCheck_eq,conRCmpD_eq,inI64]
  rw [← hv,canon_eq hx]
  exact ⟨hxl,rfl⟩
 ·
  have hvp:=(vl_pos hy).2 h0
  simp -dsimp -implicitDefEqProofs [conGcdN_eq,nr16_all,nrT,nr16Γ,nr16E,nr16P,nr15Γ,nr15E,nr15P,nr14Γ,nr14E,nr14P,nr13Γ,nr13E,nr13P,nr9Γ,nr9E,nr9P,nr8Γ,nr8E,nr8P,nr7Γ,nr7E,nr7P,nr6Γ,nr6E,nr6P,nr5Γ,nr5E,nr5P,nr4Γ,nr4E,nr4P,nr3Γ,nr3E,nr3P,nr0Γ,nr0E,nr0P,conChk_eq,conBigN_eq,conDiv_eq,conTimes_eq,conNCheck_eq,conLong_eq,conLead64_eq,conShort_eq,conMovE,conTrim_eq,conAt_eq,conNCmp_eq,conBack_eq,conOf9_eq,conDivide_eq,conLess9_eq,conTwo_eq,conRCheck_eq,conRCmpD_eq,inI64]
  refine ⟨fun _=>⟨⟨hx,hy,h0,hxl,hyl⟩,⟨y,ey,dig (vl x % vl y),false⟩,⟨hy,canon_dig _,hyl,?_,?_⟩,?_,TurnT.le (by simp -dsimp -implicitDefEqProofs)⟩,fun h=>absurd h (by intro he; rw [he] at h0; exact absurd h0 (by decide))⟩
  ·
   show (dig _).length≤2048
   exact dig_le (Nat.lt_trans (Nat.mod_lt _ hvp) (vl_lt hy.1)) hyl
  ·
   show Nat.gcd (vl y) (vl (dig _))=_
   rw [vl_dig,← hg,Nat.gcd_comm (vl y),← Nat.gcd_rec,Nat.gcd_comm]
  ·
   show vl (dig _)<vl y
   rw [vl_dig]; exact Nat.mod_lt _ hvp
def conMulN:Con:=⟨fun args=>(match args with
 | [.agg [.bool n1,.sl (.int .i64) m1 _],.agg [.bool n2,.sl (.int .i64) m2 _]]=>okBig n1 m1∧okBig n2 m2∧m1.length+m2.length≤2048
 | _=>False),fun args=>match args with
 | [.agg [.bool n1,.sl (.int .i64) m1 _],.agg [.bool n2,.sl (.int .i64) m2 _]]=>.tup [.agg [.bool ((n1 != n2)&&decide (dig (vl m1*vl m2)≠[])),.sl tI (dig (vl m1*vl m2)) false],aI 0]
 | _=>.v (.s .any)⟩
theorem conMulN_eq (n1:Bool) (m1:List (Ty.T tI)) (exm1:Bool) (n2:Bool) (m2:List (Ty.T tI)) (exm2:Bool):conMulN.pre [.agg [.bool n1,.sl tI m1 exm1],.agg [.bool n2,.sl tI m2 exm2]]=(okBig n1 m1∧okBig n2 m2∧m1.length+m2.length≤2048)∧conMulN.val [.agg [.bool n1,.sl tI m1 exm1],.agg [.bool n2,.sl tI m2 exm2]]=.tup [.agg [.bool ((n1 != n2)&&decide (dig (vl m1*vl m2)≠[])),.sl tI (dig (vl m1*vl m2)) false],aI 0]:=⟨rfl,rfl⟩
theorem muln_ok:PureOk Tryz.prog 104 conMulN:=by
 refine pureDefD (L:={ live:=[0,1,2,3,4,5] }) nr16_good rfl nr_mixed (dl_cons ⟨enters_of Tryz.func109 (by kernel_rfl) rfl,caught_ok natCaught⟩ dl_nil) Tryz.func104 rfl conMulN 2 (by decide) (by kernel_rfl) ?_
 intro args hpre hlens
 simp only [conMulN] at hpre
 split at hpre
 case h_2=>exact hpre.elim
 rename_i n1 m1 e1 n2 m2 e2
 simp only [allLen,AV.lenOk,SV.lenOk,Ty.lenOk,maxLen,and_true,implies_true,true_and,List.forall_mem_cons,List.not_mem_nil,false_implies] at hlens
 refine ⟨rfl,?_⟩
 simp -dsimp -implicitDefEqProofs [Tryz.f104,conMulN_eq,nr16_all,nrT,nr16Γ,nr16E,nr16P,nr15Γ,nr15E,nr15P,nr14Γ,nr14E,nr14P,nr13Γ,nr13E,nr13P,nr9Γ,nr9E,nr9P,nr8Γ,nr8E,nr8P,nr7Γ,nr7E,nr7P,nr6Γ,nr6E,nr6P,nr5Γ,nr5E,nr5P,nr4Γ,nr4E,nr4P,nr3Γ,nr3E,nr3P,nr0Γ,nr0E,nr0P,conChk_eq,conBigN_eq,conDiv_eq,conTimes_eq,conNCheck_eq,conLong_eq,conLead64_eq,conShort_eq,conMovE,conTrim_eq,conAt_eq,conNCmp_eq,conBack_eq,conOf9_eq,conDivide_eq,conLess9_eq,conTwo_eq,conRCheck_eq,conRCmpD_eq,inI64]
 obtain ⟨m1,rfl⟩:∃ y:List Int,y=m1:=⟨m1,rfl⟩; obtain ⟨m2,rfl⟩:∃ y:List Int,y=m2:=⟨m2,rfl⟩
 obtain ⟨h1,h2,h3⟩:=hpre
 have hd:trimL (dig (vl m1*vl m2))=dig (vl m1*vl m2):=trim_canon (canon_dig _)
 rw [hd]
 refine ⟨⟨h1,h2⟩,⟨h1.1.1,h2.1.1,h1.2.1,h2.2.1⟩,?_,rfl,rfl⟩
 have e1:=vl_lt h1.1.1
 have e2:=vl_lt h2.1.1
 have e3:vl m1*vl m2<1073741824 ^ m1.length*1073741824 ^ m2.length:=Nat.mul_lt_mul'' e1 e2
 rw [← Nat.pow_add] at e3
 exact dig_le e3 h3
def conCmpN2:Con:=⟨fun args=>(match args with
 | [.agg [.bool n1,.sl (.int .i64) m1 _],.agg [.bool n2,.sl (.int .i64) m2 _]]=>okBig n1 m1∧okBig n2 m2
 | _=>False),fun args=>match args with
 | [.agg [.bool n1,.sl (.int .i64) m1 _],.agg [.bool n2,.sl (.int .i64) m2 _]]=>.tup [aI (cmpZ (sgn n1 m1) (sgn n2 m2)),aI 0]
 | _=>.v (.s .any)⟩
theorem conCmpN2_eq (n1:Bool) (m1:List (Ty.T tI)) (exm1:Bool) (n2:Bool) (m2:List (Ty.T tI)) (exm2:Bool):conCmpN2.pre [.agg [.bool n1,.sl tI m1 exm1],.agg [.bool n2,.sl tI m2 exm2]]=(okBig n1 m1∧okBig n2 m2)∧conCmpN2.val [.agg [.bool n1,.sl tI m1 exm1],.agg [.bool n2,.sl tI m2 exm2]]=.tup [aI (cmpZ (sgn n1 m1) (sgn n2 m2)),aI 0]:=⟨rfl,rfl⟩
theorem cmpn_ok:PureOk Tryz.prog 63 conCmpN2:=by
 refine pureDefD (L:={ live:=[0,1,2,3,4,5,10,22,25] }) nr16_good rfl nr_mixed (dl_cons ⟨enters_of Tryz.func109 (by kernel_rfl) rfl,caught_ok natCaught⟩ dl_nil) Tryz.func63 rfl conCmpN2 2 (by decide) (by kernel_rfl) ?_
 intro args hpre hlens
 simp only [conCmpN2] at hpre
 split at hpre
 case h_2=>exact hpre.elim
 rename_i n1 m1 e1 n2 m2 e2
 simp only [allLen,AV.lenOk,SV.lenOk,Ty.lenOk,maxLen,and_true,implies_true,true_and,List.forall_mem_cons,List.not_mem_nil,false_implies] at hlens
 refine ⟨rfl,?_⟩
 simp -dsimp -implicitDefEqProofs [Tryz.f63,conCmpN2_eq,nr16_all,nrT,nr16Γ,nr16E,nr16P,nr15Γ,nr15E,nr15P,nr14Γ,nr14E,nr14P,nr13Γ,nr13E,nr13P,nr9Γ,nr9E,nr9P,nr8Γ,nr8E,nr8P,nr7Γ,nr7E,nr7P,nr6Γ,nr6E,nr6P,nr5Γ,nr5E,nr5P,nr4Γ,nr4E,nr4P,nr3Γ,nr3E,nr3P,nr0Γ,nr0E,nr0P,conChk_eq,conBigN_eq,conDiv_eq,conTimes_eq,conNCheck_eq,conLong_eq,conLead64_eq,conShort_eq,conMovE,conTrim_eq,conAt_eq,conNCmp_eq,conBack_eq,conOf9_eq,conDivide_eq,conLess9_eq,conTwo_eq,conRCheck_eq,conRCmpD_eq,inI64]
 obtain ⟨m1,rfl⟩:∃ y:List Int,y=m1:=⟨m1,rfl⟩; obtain ⟨m2,rfl⟩:∃ y:List Int,y=m2:=⟨m2,rfl⟩
 obtain ⟨h1,h2⟩:=hpre
 have hp1:n1=true→0<vl m1:=fun e=>(vl_pos h1.1).2 (List.length_pos_iff.2 (h1.2.2 e))
 have hp2:n2=true→0<vl m2:=fun e=>(vl_pos h2.1).2 (List.length_pos_iff.2 (h2.2.2 e))
 refine ⟨⟨h1,h2⟩,fun a b=>⟨⟨h2.1,h1.1⟩,?_⟩,fun h=>⟨fun a => ?_,fun a=>⟨fun b => ?_,fun b=>⟨⟨h1.1,h2.1⟩,?_⟩⟩⟩⟩
 ·
  subst a b
  rw [sgn_true,sgn_true,cmpZ_neg,cmpZ_nat]
 ·
  obtain rfl:=h a
  subst a
  have:=hp1 rfl
  rw [sgn_true,sgn_false,cmpZ_lt (by omega)]
 ·
  subst a b
  have:=hp2 rfl
  rw [sgn_true,sgn_false,cmpZ_gt (by omega)]
 ·
  subst a b
  rw [sgn_false,sgn_false,cmpZ_nat]
abbrev tRat:Ty:=.cons tBig (.cons tBig .nil)
def okRat (n1:Bool) (m1:List Int) (n2:Bool) (m2:List Int):Prop:=okBig n1 m1∧okBig n2 m2∧n2=false∧m2≠[]∧Nat.gcd (vl m1) (vl m2)=1
def okR (x:tRat.T):Prop:=okRat x.1.1 x.1.2.1 x.2.1.1 x.2.1.2.1
noncomputable instance (n1:Bool) (m1:List Int) (n2:Bool) (m2:List Int):Decidable (okRat n1 m1 n2 m2):=Classical.propDecidable _
def ratErr (n1:Bool) (m1:List Int) (n2:Bool) (m2:List Int):Int:=if okRat n1 m1 n2 m2 then 0 else 100
theorem ratErr_0 {n1:Bool} {m1:List Int} {n2:Bool} {m2:List Int}:ratErr n1 m1 n2 m2=0↔okRat n1 m1 n2 m2:=by
 unfold ratErr
 split <;> simp_all
def nr17Γ:List (FuncId×Con):=(105,conGcdN)::(104,conMulN)::(63,conCmpN2)::(136,conPosi)::nr16Γ
theorem nr17Γ_ok:∀ p∈nr17Γ,(∀ (args:Array Value) (w:World),(callFunc p.1 args).run Tryz.prog w=.ok (.enter p.1 args) w)∧PureOk Tryz.prog p.1 p.2:=by
 simp only [nr17Γ,List.forall_mem_cons]
 exact ⟨⟨enters_of Tryz.func105 (by kernel_rfl) rfl,gcdn_ok⟩,⟨enters_of Tryz.func104 (by kernel_rfl) rfl,muln_ok⟩,⟨enters_of Tryz.func63 (by kernel_rfl) rfl,cmpn_ok⟩,⟨enters_of Tryz.func136 (by kernel_rfl) rfl,posi_ok⟩,nr16Γ_ok⟩
def nr17E:List (FuncId×ECon):=nr16E
theorem nr17E_ok:∀ p∈nr17E,(∀ (args:Array Value) (w:World),(callFunc p.1 args).run Tryz.prog w=.ok (.enter p.1 args) w)∧EffOk Tryz.prog p.1 p.2:=by
 simp only [nr17E]
 exact nr16E_ok
def nr17P:List (FuncId×PCon):=nr16P
theorem nr17P_ok:∀ p∈nr17P,(∀ (args:Array Value) (w:World),(callFunc p.1 args).run Tryz.prog w=.ok (.enter p.1 args) w)∧PanOk Tryz.prog p.1 p.2:=by
 simp only [nr17P]
 exact nr16P_ok
def nr17:G:={ τ:=nrT,Γ:=nr17Γ,E:=nr17E,Pn:=nr17P }
theorem nr17_good:nr17.good Tryz.prog:=good_of_all (nrT_ok _ rfl) nr17Γ_ok nr17E_ok nr17P_ok
theorem nr17_all:(∀ t,nr17.td t=(look nrT t).getD .other)∧nr17.y=false∧nr17.Γ=nr17Γ∧nr17.E=nr17E∧nr17.Pn=nr17P∧nr17.fz=[]:=⟨fun _=>rfl,rfl,rfl,rfl,rfl,rfl⟩
def conRatC:Con:=⟨fun args=>(match args with
 | [.agg [.bool n1,.sl (.int .i64) m1 _,.bool n2,.sl (.int .i64) m2 _]]=>True
 | _=>False),fun args=>match args with
 | [.agg [.bool n1,.sl (.int .i64) m1 _,.bool n2,.sl (.int .i64) m2 _]]=>.v (aI (ratErr n1 m1 n2 m2))
 | _=>.v (.s .any)⟩
theorem conRatC_eq (n1:Bool) (m1:List (Ty.T tI)) (exm1:Bool) (n2:Bool) (m2:List (Ty.T tI)) (exm2:Bool):conRatC.pre [.agg [.bool n1,.sl tI m1 exm1,.bool n2,.sl tI m2 exm2]]=(True)∧conRatC.val [.agg [.bool n1,.sl tI m1 exm1,.bool n2,.sl tI m2 exm2]]=.v (aI (ratErr n1 m1 n2 m2)):=⟨rfl,rfl⟩
theorem ratc_ok:PureOk Tryz.prog 89 conRatC:=by
 refine pureOkD (L:={ live:=[0,1,2,3,20,39] }) nr17_good rfl nr_mixed Tryz.func89 rfl conRatC 1 (by decide) (by kernel_rfl) ?_
 intro args hpre hlens
 simp only [conRatC] at hpre
 split at hpre
 case h_2=>exact hpre.elim
 rename_i n1 m1 e1 n2 m2 e2
 simp only [allLen,AV.lenOk,SV.lenOk,Ty.lenOk,maxLen,and_true,implies_true,true_and,List.forall_mem_cons,List.not_mem_nil,false_implies] at hlens
 refine ⟨rfl,?_⟩
 simp -dsimp -implicitDefEqProofs [Tryz.f89,conRatC_eq,nr17_all,nrT,nr17Γ,nr17E,nr17P,nr16Γ,nr16E,nr16P,nr15Γ,nr15E,nr15P,nr14Γ,nr14E,nr14P,nr13Γ,nr13E,nr13P,nr9Γ,nr9E,nr9P,nr8Γ,nr8E,nr8P,nr7Γ,nr7E,nr7P,nr6Γ,nr6E,nr6P,nr5Γ,nr5E,nr5P,nr4Γ,nr4E,nr4P,nr3Γ,nr3E,nr3P,nr0Γ,nr0E,nr0P,conGcdN_eq,conMulN_eq,conCmpN2_eq,conPosi_eq,conChk_eq,conBigN_eq,conDiv_eq,conTimes_eq,conNCheck_eq,conLong_eq,conLead64_eq,conShort_eq,conMovE,conTrim_eq,conAt_eq,conNCmp_eq,conBack_eq,conOf9_eq,conDivide_eq,conLess9_eq,conTwo_eq,conRCheck_eq,conRCmpD_eq,inI64]
 obtain ⟨m1,rfl⟩:∃ y:List Int,y=m1:=⟨m1,rfl⟩; obtain ⟨m2,rfl⟩:∃ y:List Int,y=m2:=⟨m2,rfl⟩
 have hok:okRat n1 m1 n2 m2↔(natErr n1 m1=0∧natErr n2 m2=0∧n2=false∧m2≠[]∧Nat.gcd (vl m1) (vl m2)=1):=by
  rw [natErr_0,natErr_0]; rfl
 refine ⟨fun h => ?_,fun h1 h2 h3 h4=>⟨⟨natErr_0.1 h1,natErr_0.1 h2⟩,fun h=>⟨h,by omega⟩,fun h => ?_,fun h5 h6 => ?_⟩⟩
 ·
  unfold ratErr
  rw [if_neg]
  rw [hok]
  rintro ⟨q1,q2,q3,q4,_⟩
  rcases h with h | h | h
  ·
   rcases h with h | h
   ·
    exact h q1
   ·
    exact h q2
  ·
   rw [h] at q3; cases q3
  ·
   exact q4 h
 ·
  unfold ratErr
  rw [if_neg]
  rw [hok]
  rintro ⟨_,_,_,_,q⟩
  rw [q,dig_one] at h
  rcases h with h | h
  ·
   exact h rfl
  ·
   exact h rfl
 ·
  unfold ratErr
  rw [if_pos]
  rw [hok]
  refine ⟨h1,h2,h3,h4,?_⟩
  have hv:=vl_dig (Nat.gcd (vl m1) (vl m2))
  generalize dig (Nat.gcd (vl m1) (vl m2))=d at *
  obtain ⟨x,rfl⟩:=List.length_eq_one_iff.1 (show d.length=1 by omega)
  have h6:x=1:=h6
  rw [← hv,vl_one,h6]
  rfl
def conNeed:Con:=⟨fun args=>(match args with
 | [.s (.bool ok),.s (.int .i64 e)]=>ok=true
 | _=>False),fun args=>match args with
 | [.s (.bool ok),.s (.int _ e)]=>.tup []
 | _=>.v (.s .any)⟩
theorem conNeed_eq (ok:Bool) (e:Int):conNeed.pre [.s (.bool ok),.s (.int .i64 e)]=(ok=true)∧conNeed.val [.s (.bool ok),.s (.int .i64 e)]=.tup []:=⟨rfl,rfl⟩
theorem need_ok:PureOk Tryz.prog 88 conNeed:=by
 refine pureOkD (L:={ live:=[0,1,5],fin:=[(1,[])] }) nr0_good rfl nr_mixed Tryz.func88 rfl conNeed 2 (by decide) (by kernel_rfl) ?_
 intro args hpre hlens
 simp only [conNeed] at hpre
 split at hpre
 case h_2=>exact hpre.elim
 rename_i ok e
 simp only [allLen,AV.lenOk,SV.lenOk,Ty.lenOk,maxLen,and_true,implies_true,true_and,List.forall_mem_cons,List.not_mem_nil,false_implies] at hlens
 refine ⟨rfl,?_⟩
 simp -dsimp -implicitDefEqProofs [Tryz.f88,conNeed_eq,nr0_all,nrT,nr0Γ,nr0E,nr0P,inI64]
 exact hpre
def panNeed:PCon:=⟨fun args=>(match args with
 | [.s (.bool ok),.s (.int .i64 e)]=>ok=false
 | _=>False),fun args=>match args with
 | [.s (.bool ok),.s (.int _ e)]=>.iface 30 (.int .i64 e)
 | _=>undef⟩
theorem panNeed_when (ok:Bool) (e:Int):panNeed.when [.s (.bool ok),.s (.int .i64 e)]=(ok=false):=rfl
theorem panNeed_what (ok:Bool) (e:Int):panNeed.what [.s (.bool ok),.s (.int .i64 e)]=.iface 30 (.int .i64 e):=rfl
theorem needp_ok:PanOk Tryz.prog 88 panNeed:=by
 refine panDefD (L:={ live:=[0,1,5],fin:=[(1,[])] }) nr0_good rfl nr_mixed dl_nil Tryz.func88 rfl panNeed 2 (by decide) (by kernel_rfl) ?_
 intro args hpre hlens
 simp only [panNeed] at hpre
 split at hpre
 case h_2=>exact hpre.elim
 rename_i ok e
 simp only [allLen,AV.lenOk,SV.lenOk,Ty.lenOk,maxLen,and_true,implies_true,true_and,List.forall_mem_cons,List.not_mem_nil,false_implies] at hlens
 refine ⟨rfl,?_⟩
 simp -dsimp -implicitDefEqProofs [Tryz.f88,panNeed_what,nr0_all,nrT,nr0Γ,nr0E,nr0P,inI64]
 exact hpre
def nr18Γ:List (FuncId×Con):=(89,conRatC)::(88,conNeed)::nr17Γ
theorem nr18Γ_ok:∀ p∈nr18Γ,(∀ (args:Array Value) (w:World),(callFunc p.1 args).run Tryz.prog w=.ok (.enter p.1 args) w)∧PureOk Tryz.prog p.1 p.2:=by
 simp only [nr18Γ,List.forall_mem_cons]
 exact ⟨⟨enters_of Tryz.func89 (by kernel_rfl) rfl,ratc_ok⟩,⟨enters_of Tryz.func88 (by kernel_rfl) rfl,need_ok⟩,nr17Γ_ok⟩
def nr18E:List (FuncId×ECon):=nr17E
theorem nr18E_ok:∀ p∈nr18E,(∀ (args:Array Value) (w:World),(callFunc p.1 args).run Tryz.prog w=.ok (.enter p.1 args) w)∧EffOk Tryz.prog p.1 p.2:=by
 simp only [nr18E]
 exact nr17E_ok
def nr18P:List (FuncId×PCon):=(88,panNeed)::nr17P
theorem nr18P_ok:∀ p∈nr18P,(∀ (args:Array Value) (w:World),(callFunc p.1 args).run Tryz.prog w=.ok (.enter p.1 args) w)∧PanOk Tryz.prog p.1 p.2:=by
 simp only [nr18P,List.forall_mem_cons]
 exact ⟨⟨enters_of Tryz.func88 (by kernel_rfl) rfl,needp_ok⟩,nr17P_ok⟩
def nr18:G:={ τ:=nrT,Γ:=nr18Γ,E:=nr18E,Pn:=nr18P }
theorem nr18_good:nr18.good Tryz.prog:=good_of_all (nrT_ok _ rfl) nr18Γ_ok nr18E_ok nr18P_ok
theorem nr18_all:(∀ t,nr18.td t=(look nrT t).getD .other)∧nr18.y=false∧nr18.Γ=nr18Γ∧nr18.E=nr18E∧nr18.Pn=nr18P∧nr18.fz=[]:=⟨fun _=>rfl,rfl,rfl,rfl,rfl,rfl⟩
def conDidB:Con:=⟨fun args=>(match args with
 | [.agg [.bool n,.sl (.int .i64) m _],.s (.int .i64 e)]=>e=0
 | _=>False),fun args=>match args with
 | [.agg [.bool n,.sl (.int .i64) m _],.s (.int _ e)]=>.v (.agg [.bool n,.sl tI m false])
 | _=>.v (.s .any)⟩
theorem conDidB_eq (n:Bool) (m:List (Ty.T tI)) (exm:Bool) (e:Int):conDidB.pre [.agg [.bool n,.sl tI m exm],.s (.int .i64 e)]=(e=0)∧conDidB.val [.agg [.bool n,.sl tI m exm],.s (.int .i64 e)]=.v (.agg [.bool n,.sl tI m false]):=⟨rfl,rfl⟩
theorem didb_ok:PureOk Tryz.prog 103 conDidB:=by
 refine pureOkD (L:={ live:=[0,1,2,4] }) nr18_good rfl nr_mixed Tryz.func103 rfl conDidB 2 (by decide) (by kernel_rfl) ?_
 intro args hpre hlens
 simp only [conDidB] at hpre
 split at hpre
 case h_2=>exact hpre.elim
 rename_i n m em e
 simp only [allLen,AV.lenOk,SV.lenOk,Ty.lenOk,maxLen,and_true,implies_true,true_and,List.forall_mem_cons,List.not_mem_nil,false_implies] at hlens
 refine ⟨rfl,?_⟩
 simp -dsimp -implicitDefEqProofs [Tryz.f103,conDidB_eq,nr18_all,nrT,nr18Γ,nr18E,nr18P,nr17Γ,nr17E,nr17P,nr16Γ,nr16E,nr16P,nr15Γ,nr15E,nr15P,nr14Γ,nr14E,nr14P,nr13Γ,nr13E,nr13P,nr9Γ,nr9E,nr9P,nr8Γ,nr8E,nr8P,nr7Γ,nr7E,nr7P,nr6Γ,nr6E,nr6P,nr5Γ,nr5E,nr5P,nr4Γ,nr4E,nr4P,nr3Γ,nr3E,nr3P,nr0Γ,nr0E,nr0P,conRatC_eq,conNeed_eq,panNeed_when,panNeed_what,conGcdN_eq,conMulN_eq,conCmpN2_eq,conPosi_eq,conChk_eq,conBigN_eq,conDiv_eq,conTimes_eq,conNCheck_eq,conLong_eq,conLead64_eq,conShort_eq,conMovE,conTrim_eq,conAt_eq,conNCmp_eq,conBack_eq,conOf9_eq,conDivide_eq,conLess9_eq,conTwo_eq,conRCheck_eq,conRCmpD_eq,inI64]
 exact hpre
def conDidI:Con:=⟨fun args=>(match args with
 | [.s (.int .i64 x),.s (.int .i64 e)]=>e=0
 | _=>False),fun args=>match args with
 | [.s (.int _ x),.s (.int _ e)]=>.v (aI x)
 | _=>.v (.s .any)⟩
theorem conDidI_eq (x:Int) (e:Int):conDidI.pre [.s (.int .i64 x),.s (.int .i64 e)]=(e=0)∧conDidI.val [.s (.int .i64 x),.s (.int .i64 e)]=.v (aI x):=⟨rfl,rfl⟩
theorem didi_ok:PureOk Tryz.prog 62 conDidI:=by
 refine pureOkD (L:={ live:=[0,1,4] }) nr18_good rfl nr_mixed Tryz.func62 rfl conDidI 2 (by decide) (by kernel_rfl) ?_
 intro args hpre hlens
 simp only [conDidI] at hpre
 split at hpre
 case h_2=>exact hpre.elim
 rename_i x e
 simp only [allLen,AV.lenOk,SV.lenOk,Ty.lenOk,maxLen,and_true,implies_true,true_and,List.forall_mem_cons,List.not_mem_nil,false_implies] at hlens
 refine ⟨rfl,?_⟩
 simp -dsimp -implicitDefEqProofs [Tryz.f62,conDidI_eq,nr18_all,nrT,nr18Γ,nr18E,nr18P,nr17Γ,nr17E,nr17P,nr16Γ,nr16E,nr16P,nr15Γ,nr15E,nr15P,nr14Γ,nr14E,nr14P,nr13Γ,nr13E,nr13P,nr9Γ,nr9E,nr9P,nr8Γ,nr8E,nr8P,nr7Γ,nr7E,nr7P,nr6Γ,nr6E,nr6P,nr5Γ,nr5E,nr5P,nr4Γ,nr4E,nr4P,nr3Γ,nr3E,nr3P,nr0Γ,nr0E,nr0P,conRatC_eq,conNeed_eq,panNeed_when,panNeed_what,conGcdN_eq,conMulN_eq,conCmpN2_eq,conPosi_eq,conChk_eq,conBigN_eq,conDiv_eq,conTimes_eq,conNCheck_eq,conLong_eq,conLead64_eq,conShort_eq,conMovE,conTrim_eq,conAt_eq,conNCmp_eq,conBack_eq,conOf9_eq,conDivide_eq,conLess9_eq,conTwo_eq,conRCheck_eq,conRCmpD_eq,inI64]
 exact hpre
def conValid:Con:=⟨fun args=>(match args with
 | [.s (.sl (.cons (.cons .bool (.cons (.slice (.int .i64)) .nil)) (.cons (.cons .bool (.cons (.slice (.int .i64)) .nil)) .nil)) l _)]=>∀ x∈l,okR x
 | _=>False),fun args=>match args with
 | [.s (.sl (.cons (.cons .bool (.cons (.slice (.int .i64)) .nil)) (.cons (.cons .bool (.cons (.slice (.int .i64)) .nil)) .nil)) l _)]=>.tup []
 | _=>.v (.s .any)⟩
theorem conValid_eq (l:List (Ty.T tRat)) (exl:Bool):conValid.pre [.s (.sl tRat l exl)]=(∀ x∈l,okR x)∧conValid.val [.s (.sl tRat l exl)]=.tup []:=⟨rfl,rfl⟩
theorem valid_ok:PureOk Tryz.prog 52 conValid:=by
 refine pureOkD (L:={ live:=[0,3,4,5,6,7] }) nr18_good rfl nr_mixed Tryz.func52 rfl conValid 1 (by decide) (by kernel_rfl) ?_
 intro args hpre hlens
 simp only [conValid] at hpre
 split at hpre
 case h_2=>exact hpre.elim
 rename_i l el
 simp only [allLen,AV.lenOk,SV.lenOk,Ty.lenOk,maxLen,and_true,implies_true,true_and,List.forall_mem_cons,List.not_mem_nil,false_implies] at hlens
 refine ⟨rfl,?_⟩
 simp -dsimp -implicitDefEqProofs [Tryz.f52,conValid_eq,nr18_all,nrT,nr18Γ,nr18E,nr18P,nr17Γ,nr17E,nr17P,nr16Γ,nr16E,nr16P,nr15Γ,nr15E,nr15P,nr14Γ,nr14E,nr14P,nr13Γ,nr13E,nr13P,nr9Γ,nr9E,nr9P,nr8Γ,nr8E,nr8P,nr7Γ,nr7E,nr7P,nr6Γ,nr6E,nr6P,nr5Γ,nr5E,nr5P,nr4Γ,nr4E,nr4P,nr3Γ,nr3E,nr3P,nr0Γ,nr0E,nr0P,conRatC_eq,conNeed_eq,panNeed_when,panNeed_what,conGcdN_eq,conMulN_eq,conCmpN2_eq,conPosi_eq,conChk_eq,conBigN_eq,conDiv_eq,conTimes_eq,conNCheck_eq,conLong_eq,conLead64_eq,conShort_eq,conMovE,conTrim_eq,conAt_eq,conNCmp_eq,conBack_eq,conOf9_eq,conDivide_eq,conLess9_eq,conTwo_eq,conRCheck_eq,conRCmpD_eq,inI64]
 refine WpD.loop (L:={ live:=[0,3,4,5,6,7] }) nr18_good X0_ok nr_mixed (by kernel_rfl)
  (fun i:Nat=>⟨[(4,vS tRat l el),(5,vI l.length),(6,vI i)],[]⟩)
  (fun i=>i≤l.length) (fun i=>l.length - i) 0 (Nat.zero_le _) (Turn.le (by simp -dsimp -implicitDefEqProofs)) ?_
 intro i hi
 rcases Nat.lt_or_ge i l.length with hil | hge
 ·
  have h0:ratErr l[i].1.1 l[i].1.2.1 l[i].2.1.1 l[i].2.1.2.1=0:=ratErr_0.2 (hpre _ (List.getElem_mem hil))
  simp -dsimp -implicitDefEqProofs [conValid_eq,hil,h0,nr18_all,nrT,nr18Γ,nr18E,nr18P,nr17Γ,nr17E,nr17P,nr16Γ,nr16E,nr16P,nr15Γ,nr15E,nr15P,nr14Γ,nr14E,nr14P,nr13Γ,nr13E,nr13P,nr9Γ,nr9E,nr9P,nr8Γ,nr8E,nr8P,nr7Γ,nr7E,nr7P,nr6Γ,nr6E,nr6P,nr5Γ,nr5E,nr5P,nr4Γ,nr4E,nr4P,nr3Γ,nr3E,nr3P,nr0Γ,nr0E,nr0P,conRatC_eq,conNeed_eq,panNeed_when,panNeed_what,conGcdN_eq,conMulN_eq,conCmpN2_eq,conPosi_eq,conChk_eq,conBigN_eq,conDiv_eq,conTimes_eq,conNCheck_eq,conLong_eq,conLead64_eq,conShort_eq,conMovE,conTrim_eq,conAt_eq,conNCmp_eq,conBack_eq,conOf9_eq,conDivide_eq,conLess9_eq,conTwo_eq,conRCheck_eq,conRCmpD_eq,inI64]
  exact ⟨⟨by omega,by omega⟩,i+1,by omega,by omega,TurnT.trunc X0_ok (hp:=[]) (junk:=[_]) (by simp) (by simp only [List.length_cons,List.length_nil,List.all_cons,List.all_nil,arr_below,Bool.and_true] <;> simp [Blk.below,SV.below]) (by simp -dsimp -implicitDefEqProofs []) (by simp [envBelow,RV.below,AV.below,SV.below])⟩
 ·
  have hn:¬ i<l.length:=by omega
  simp -dsimp -implicitDefEqProofs [conValid_eq,hn,nr18_all,nrT,nr18Γ,nr18E,nr18P,nr17Γ,nr17E,nr17P,nr16Γ,nr16E,nr16P,nr15Γ,nr15E,nr15P,nr14Γ,nr14E,nr14P,nr13Γ,nr13E,nr13P,nr9Γ,nr9E,nr9P,nr8Γ,nr8E,nr8P,nr7Γ,nr7E,nr7P,nr6Γ,nr6E,nr6P,nr5Γ,nr5E,nr5P,nr4Γ,nr4E,nr4P,nr3Γ,nr3E,nr3P,nr0Γ,nr0E,nr0P,conRatC_eq,conNeed_eq,panNeed_when,panNeed_what,conGcdN_eq,conMulN_eq,conCmpN2_eq,conPosi_eq,conChk_eq,conBigN_eq,conDiv_eq,conTimes_eq,conNCheck_eq,conLong_eq,conLead64_eq,conShort_eq,conMovE,conTrim_eq,conAt_eq,conNCmp_eq,conBack_eq,conOf9_eq,conDivide_eq,conLess9_eq,conTwo_eq,conRCheck_eq,conRCmpD_eq,inI64]
def panValid:PCon:=⟨fun args=>(match args with
 | [.s (.sl (.cons (.cons .bool (.cons (.slice (.int .i64)) .nil)) (.cons (.cons .bool (.cons (.slice (.int .i64)) .nil)) .nil)) l _)]=>¬ ∀ x∈l,okR x
 | _=>False),fun args=>match args with
 | [.s (.sl (.cons (.cons .bool (.cons (.slice (.int .i64)) .nil)) (.cons (.cons .bool (.cons (.slice (.int .i64)) .nil)) .nil)) l _)]=>.iface 30 (.int .i64 100)
 | _=>undef⟩
theorem panValid_when (l:List (Ty.T tRat)) (exl:Bool):panValid.when [.s (.sl tRat l exl)]=(¬ ∀ x∈l,okR x):=rfl
theorem panValid_what (l:List (Ty.T tRat)) (exl:Bool):panValid.what [.s (.sl tRat l exl)]=.iface 30 (.int .i64 100):=rfl
theorem validp_ok:PanOk Tryz.prog 52 panValid:=by
 refine panDefD (L:={ live:=[0,3,4,5,6,7],fin:=[(3,[])] }) nr18_good rfl nr_mixed dl_nil Tryz.func52 rfl panValid 1 (by decide) (by kernel_rfl) ?_
 intro args hpre hlens
 simp only [panValid] at hpre
 split at hpre
 case h_2=>exact hpre.elim
 rename_i l el
 simp only [allLen,AV.lenOk,SV.lenOk,Ty.lenOk,maxLen,and_true,implies_true,true_and,List.forall_mem_cons,List.not_mem_nil,false_implies] at hlens
 refine ⟨rfl,?_⟩
 simp -dsimp -implicitDefEqProofs [Tryz.f52,panValid_what,nr18_all,nrT,nr18Γ,nr18E,nr18P,nr17Γ,nr17E,nr17P,nr16Γ,nr16E,nr16P,nr15Γ,nr15E,nr15P,nr14Γ,nr14E,nr14P,nr13Γ,nr13E,nr13P,nr9Γ,nr9E,nr9P,nr8Γ,nr8E,nr8P,nr7Γ,nr7E,nr7P,nr6Γ,nr6E,nr6P,nr5Γ,nr5E,nr5P,nr4Γ,nr4E,nr4P,nr3Γ,nr3E,nr3P,nr0Γ,nr0E,nr0P,conRatC_eq,conNeed_eq,panNeed_when,panNeed_what,conGcdN_eq,conMulN_eq,conCmpN2_eq,conPosi_eq,conChk_eq,conBigN_eq,conDiv_eq,conTimes_eq,conNCheck_eq,conLong_eq,conLead64_eq,conShort_eq,conMovE,conTrim_eq,conAt_eq,conNCmp_eq,conBack_eq,conOf9_eq,conDivide_eq,conLess9_eq,conTwo_eq,conRCheck_eq,conRCmpD_eq,inI64]
 refine WpD.loop (L:={ live:=[0,3,4,5,6,7],fin:=[(3,[])] }) nr18_good X0_ok nr_mixed (by kernel_rfl)
  (fun i:Nat=>⟨[(4,vS tRat l el),(5,vI l.length),(6,vI i)],[]⟩)
  (fun i=>i≤l.length∧∀ j (h:j<l.length),j<i→okR l[j]) (fun i=>l.length - i) 0 ⟨Nat.zero_le _,fun j _ h=>absurd h (by omega)⟩ (Turn.le (by simp -dsimp -implicitDefEqProofs)) ?_
 rintro i ⟨hi,hj⟩
 rcases Nat.lt_or_ge i l.length with hil | hge
 ·
  have h0:ratErr l[i].1.1 l[i].1.2.1 l[i].2.1.1 l[i].2.1.2.1=0↔okR l[i]:=ratErr_0
  simp -dsimp -implicitDefEqProofs [panValid_what,hil,h0,nr18_all,nrT,nr18Γ,nr18E,nr18P,nr17Γ,nr17E,nr17P,nr16Γ,nr16E,nr16P,nr15Γ,nr15E,nr15P,nr14Γ,nr14E,nr14P,nr13Γ,nr13E,nr13P,nr9Γ,nr9E,nr9P,nr8Γ,nr8E,nr8P,nr7Γ,nr7E,nr7P,nr6Γ,nr6E,nr6P,nr5Γ,nr5E,nr5P,nr4Γ,nr4E,nr4P,nr3Γ,nr3E,nr3P,nr0Γ,nr0E,nr0P,conRatC_eq,conNeed_eq,panNeed_when,panNeed_what,conGcdN_eq,conMulN_eq,conCmpN2_eq,conPosi_eq,conChk_eq,conBigN_eq,conDiv_eq,conTimes_eq,conNCheck_eq,conLong_eq,conLead64_eq,conShort_eq,conMovE,conTrim_eq,conAt_eq,conNCmp_eq,conBack_eq,conOf9_eq,conDivide_eq,conLess9_eq,conTwo_eq,conRCheck_eq,conRCmpD_eq,inI64]
  refine fun hok=>⟨hok,⟨by omega,by omega⟩,i+1,⟨by omega,fun j h1 h2 => ?_⟩,by omega,TurnT.trunc X0_ok (hp:=[]) (junk:=[_]) (by simp) (by simp only [List.length_cons,List.length_nil,List.all_cons,List.all_nil,arr_below,Bool.and_true] <;> simp [Blk.below,SV.below]) (by simp -dsimp -implicitDefEqProofs []) (by simp [envBelow,RV.below,AV.below,SV.below])⟩
  rcases Nat.lt_or_ge j i with h3 | h3
  ·
   exact hj j h1 h3
  ·
   obtain rfl:j=i:=by omega
   exact hok
 ·
  refine absurd (fun x hx => ?_) hpre
  obtain ⟨j,hjl,rfl⟩:=List.mem_iff_getElem.1 hx
  exact hj j hjl (by omega)
def mulB (x y:tBig.T):tBig.T:=((x.1 != y.1)&&decide (dig (vl x.2.1*vl y.2.1)≠[]),dig (vl x.2.1*vl y.2.1),())
def mulOk (x y:tBig.T):Prop:=okB x∧okB y∧List.length x.2.1+List.length y.2.1≤2048
def zB:tBig.T:=(false,[],())
def prodT (l:List tBig.T) (k:Nat):List tBig.T:=(List.range k).map fun k=>mulB (l[2*k]?.getD zB) (l[2*k+1]?.getD zB)
def prodL (l:List tBig.T):List tBig.T:=prodT l (l.length / 2)
theorem prodT_len (l:List tBig.T) (k:Nat):(prodT l k).length=k:=by simp [prodT]
theorem prodT_succ (l:List tBig.T) (k:Nat):prodT l (k+1)=prodT l k++[mulB (l[2*k]?.getD zB) (l[2*k+1]?.getD zB)]:=by simp [prodT,List.range_succ]
theorem prodL_four (a b c d:tBig.T):prodL [a,b,c,d]=[mulB a b,mulB c d]:=by simp [prodL,prodT,List.range_succ]
theorem okB_mulB {x y:tBig.T} (h:mulOk x y):okB (mulB x y):=by
 obtain ⟨h1,h2,h3⟩:=h
 refine ⟨canon_dig _,?_,fun e => ?_⟩
 ·
  show (dig _).length≤2048
  have e3:vl x.2.1*vl y.2.1<1073741824 ^ (List.length x.2.1)*1073741824 ^ (List.length y.2.1):=Nat.mul_lt_mul'' (vl_lt h1.1.1) (vl_lt h2.1.1)
  rw [← Nat.pow_add] at e3
  exact dig_le e3 h3
 ·
  simp only [mulB,Bool.and_eq_true,decide_eq_true_eq] at e
  exact e.2
def nr19Γ:List (FuncId×Con):=(103,conDidB)::(62,conDidI)::(52,conValid)::nr18Γ
theorem nr19Γ_ok:∀ p∈nr19Γ,(∀ (args:Array Value) (w:World),(callFunc p.1 args).run Tryz.prog w=.ok (.enter p.1 args) w)∧PureOk Tryz.prog p.1 p.2:=by
 simp only [nr19Γ,List.forall_mem_cons]
 exact ⟨⟨enters_of Tryz.func103 (by kernel_rfl) rfl,didb_ok⟩,⟨enters_of Tryz.func62 (by kernel_rfl) rfl,didi_ok⟩,⟨enters_of Tryz.func52 (by kernel_rfl) rfl,valid_ok⟩,nr18Γ_ok⟩
def nr19E:List (FuncId×ECon):=nr18E
theorem nr19E_ok:∀ p∈nr19E,(∀ (args:Array Value) (w:World),(callFunc p.1 args).run Tryz.prog w=.ok (.enter p.1 args) w)∧EffOk Tryz.prog p.1 p.2:=by
 simp only [nr19E]
 exact nr18E_ok
def nr19P:List (FuncId×PCon):=(52,panValid)::nr18P
theorem nr19P_ok:∀ p∈nr19P,(∀ (args:Array Value) (w:World),(callFunc p.1 args).run Tryz.prog w=.ok (.enter p.1 args) w)∧PanOk Tryz.prog p.1 p.2:=by
 simp only [nr19P,List.forall_mem_cons]
 exact ⟨⟨enters_of Tryz.func52 (by kernel_rfl) rfl,validp_ok⟩,nr18P_ok⟩
def nr19:G:={ τ:=nrT,Γ:=nr19Γ,E:=nr19E,Pn:=nr19P }
theorem nr19_good:nr19.good Tryz.prog:=good_of_all (nrT_ok _ rfl) nr19Γ_ok nr19E_ok nr19P_ok
theorem nr19_all:(∀ t,nr19.td t=(look nrT t).getD .other)∧nr19.y=false∧nr19.Γ=nr19Γ∧nr19.E=nr19E∧nr19.Pn=nr19P∧nr19.fz=[]:=⟨fun _=>rfl,rfl,rfl,rfl,rfl,rfl⟩
def conProd:Con:=⟨fun args=>(match args with
 | [.s (.sl (.cons .bool (.cons (.slice (.int .i64)) .nil)) l _)]=>l.length≤100∧∀ k,k<l.length / 2→mulOk (l[2*k]?.getD zB) (l[2*k+1]?.getD zB)
 | _=>False),fun args=>match args with
 | [.s (.sl (.cons .bool (.cons (.slice (.int .i64)) .nil)) l _)]=>.v (aS tBig (prodL l) false)
 | _=>.v (.s .any)⟩
theorem conProd_eq (l:List (Ty.T tBig)) (exl:Bool):conProd.pre [.s (.sl tBig l exl)]=(l.length≤100∧∀ k,k<l.length / 2→mulOk (l[2*k]?.getD zB) (l[2*k+1]?.getD zB))∧conProd.val [.s (.sl tBig l exl)]=.v (aS tBig (prodL l) false):=⟨rfl,rfl⟩
theorem prod_ok:PureOk Tryz.prog 59 conProd:=by
 refine pureOkD (L:={ live:=[0,2,3,8],fl:=[(4,[(3,0),(4,0),(8,0),(9,0),(14,0)])] }) nr19_good rfl nr_mixed Tryz.func59 rfl conProd 1 (by decide) (by kernel_rfl) ?_
 intro args hpre hlens
 simp only [conProd] at hpre
 split at hpre
 case h_2=>exact hpre.elim
 rename_i l el
 simp only [allLen,AV.lenOk,SV.lenOk,Ty.lenOk,maxLen,and_true,implies_true,true_and,List.forall_mem_cons,List.not_mem_nil,false_implies] at hlens
 refine ⟨rfl,?_⟩
 simp -dsimp -implicitDefEqProofs [Tryz.f59,conProd_eq,nr19_all,nrT,nr19Γ,nr19E,nr19P,nr18Γ,nr18E,nr18P,nr17Γ,nr17E,nr17P,nr16Γ,nr16E,nr16P,nr15Γ,nr15E,nr15P,nr14Γ,nr14E,nr14P,nr13Γ,nr13E,nr13P,nr9Γ,nr9E,nr9P,nr8Γ,nr8E,nr8P,nr7Γ,nr7E,nr7P,nr6Γ,nr6E,nr6P,nr5Γ,nr5E,nr5P,nr4Γ,nr4E,nr4P,nr3Γ,nr3E,nr3P,nr0Γ,nr0E,nr0P,conDidB_eq,conDidI_eq,conValid_eq,panValid_when,panValid_what,conRatC_eq,conNeed_eq,panNeed_when,panNeed_what,conGcdN_eq,conMulN_eq,conCmpN2_eq,conPosi_eq,conChk_eq,conBigN_eq,conDiv_eq,conTimes_eq,conNCheck_eq,conLong_eq,conLead64_eq,conShort_eq,conMovE,conTrim_eq,conAt_eq,conNCmp_eq,conBack_eq,conOf9_eq,conDivide_eq,conLess9_eq,conTwo_eq,conRCheck_eq,conRCmpD_eq,inI64]
 obtain ⟨hl,hp⟩:=hpre
 have hmx:10000≤maxLen:=by simp only [maxLen]; omega
 refine WpD.turn _ (Turn.virt (k:=2) (t:=tBig) (xs:=[]) (by simp [look])) ?_
 refine WpD.loop (L:={ live:=[0,2,3,8],fl:=[(4,[(3,0),(4,0),(8,0),(9,0),(14,0)])] }) nr19_good X0_ok nr_mixed (by kernel_rfl)
  (fun k:Nat=>⟨[(0,vS tBig l el),(2,⟨true,.v (.s (.own tBig 0 (prodT l k).length))⟩),(3,vI (2*k:Nat))],[.arr (decide (0<(prodT l k).length)) (tBig.flats (prodT l k))]⟩)
  (fun k=>k≤l.length / 2) (fun k=>l.length / 2 - k) 0 (Nat.zero_le _) (Turn.le (by simp -dsimp -implicitDefEqProofs [prodT])) ?_
 intro k hk
 have hlen:=prodT_len l k
 rcases Nat.lt_or_ge k (l.length / 2) with hkl | hge
 ·
  have h0:=hp k hkl
  have e1:(2*(k:Int)+1).toNat=2*k+1:=by omega
  have e2:(2*(k:Int)).toNat=2*k:=by omega
  simp -dsimp -implicitDefEqProofs [conProd_eq,e1,e2,nr19_all,nrT,nr19Γ,nr19E,nr19P,nr18Γ,nr18E,nr18P,nr17Γ,nr17E,nr17P,nr16Γ,nr16E,nr16P,nr15Γ,nr15E,nr15P,nr14Γ,nr14E,nr14P,nr13Γ,nr13E,nr13P,nr9Γ,nr9E,nr9P,nr8Γ,nr8E,nr8P,nr7Γ,nr7E,nr7P,nr6Γ,nr6E,nr6P,nr5Γ,nr5E,nr5P,nr4Γ,nr4E,nr4P,nr3Γ,nr3E,nr3P,nr0Γ,nr0E,nr0P,conDidB_eq,conDidI_eq,conValid_eq,panValid_when,panValid_what,conRatC_eq,conNeed_eq,panNeed_when,panNeed_what,conGcdN_eq,conMulN_eq,conCmpN2_eq,conPosi_eq,conChk_eq,conBigN_eq,conDiv_eq,conTimes_eq,conNCheck_eq,conLong_eq,conLead64_eq,conShort_eq,conMovE,conTrim_eq,conAt_eq,conNCmp_eq,conBack_eq,conOf9_eq,conDivide_eq,conLess9_eq,conTwo_eq,conRCheck_eq,conRCmpD_eq,inI64]
  have e3:2*((k:Int)+1)=2*(k:Int)+2:=by omega
  rw [hlen]
  refine ⟨⟨by omega,by omega⟩,fun h=>⟨⟨⟨by omega,by omega⟩,⟨by omega,by omega⟩,⟨by omega,by omega⟩,⟨h0.1,h0.2.1,h0.2.2⟩,⟨by omega,by omega⟩,⟨by omega,by omega⟩,k+1,by omega,by omega,TurnT.le ?_⟩,⟨by omega,by omega⟩,by omega,by omega⟩,fun h=>absurd h (by omega)⟩
  simp -dsimp -implicitDefEqProofs [prodT_succ,hlen,e3,mulB,zB]
 ·
  obtain rfl:k=l.length / 2:=by omega
  simp -dsimp -implicitDefEqProofs [conProd_eq,nr19_all,nrT,nr19Γ,nr19E,nr19P,nr18Γ,nr18E,nr18P,nr17Γ,nr17E,nr17P,nr16Γ,nr16E,nr16P,nr15Γ,nr15E,nr15P,nr14Γ,nr14E,nr14P,nr13Γ,nr13E,nr13P,nr9Γ,nr9E,nr9P,nr8Γ,nr8E,nr8P,nr7Γ,nr7E,nr7P,nr6Γ,nr6E,nr6P,nr5Γ,nr5E,nr5P,nr4Γ,nr4E,nr4P,nr3Γ,nr3E,nr3P,nr0Γ,nr0E,nr0P,conDidB_eq,conDidI_eq,conValid_eq,panValid_when,panValid_what,conRatC_eq,conNeed_eq,panNeed_when,panNeed_what,conGcdN_eq,conMulN_eq,conCmpN2_eq,conPosi_eq,conChk_eq,conBigN_eq,conDiv_eq,conTimes_eq,conNCheck_eq,conLong_eq,conLead64_eq,conShort_eq,conMovE,conTrim_eq,conAt_eq,conNCmp_eq,conBack_eq,conOf9_eq,conDivide_eq,conLess9_eq,conTwo_eq,conRCheck_eq,conRCmpD_eq,inI64]
  exact ⟨⟨by omega,by omega⟩,by omega,fun _=>rfl⟩
def nr20Γ:List (FuncId×Con):=(59,conProd)::nr19Γ
theorem nr20Γ_ok:∀ p∈nr20Γ,(∀ (args:Array Value) (w:World),(callFunc p.1 args).run Tryz.prog w=.ok (.enter p.1 args) w)∧PureOk Tryz.prog p.1 p.2:=by
 simp only [nr20Γ,List.forall_mem_cons]
 exact ⟨⟨enters_of Tryz.func59 (by kernel_rfl) rfl,prod_ok⟩,nr19Γ_ok⟩
def nr20E:List (FuncId×ECon):=nr19E
theorem nr20E_ok:∀ p∈nr20E,(∀ (args:Array Value) (w:World),(callFunc p.1 args).run Tryz.prog w=.ok (.enter p.1 args) w)∧EffOk Tryz.prog p.1 p.2:=by
 simp only [nr20E]
 exact nr19E_ok
def nr20P:List (FuncId×PCon):=nr19P
theorem nr20P_ok:∀ p∈nr20P,(∀ (args:Array Value) (w:World),(callFunc p.1 args).run Tryz.prog w=.ok (.enter p.1 args) w)∧PanOk Tryz.prog p.1 p.2:=by
 simp only [nr20P]
 exact nr19P_ok
def nr20:G:={ τ:=nrT,Γ:=nr20Γ,E:=nr20E,Pn:=nr20P }
theorem nr20_good:nr20.good Tryz.prog:=good_of_all (nrT_ok _ rfl) nr20Γ_ok nr20E_ok nr20P_ok
theorem nr20_all:(∀ t,nr20.td t=(look nrT t).getD .other)∧nr20.y=false∧nr20.Γ=nr20Γ∧nr20.E=nr20E∧nr20.Pn=nr20P∧nr20.fz=[]:=⟨fun _=>rfl,rfl,rfl,rfl,rfl,rfl⟩
def ratCmp (n1:Bool) (m1 l1:List Int) (n2:Bool) (m2 l2:List Int):Int:=cmpZ (sgn n1 m1*(vl l2:Int)) (sgn n2 m2*(vl l1:Int))
def cmpR (x y:tRat.T):Int:=cmpZ (sgn x.1.1 x.1.2.1*(vl y.2.1.2.1:Int)) (sgn y.1.1 y.1.2.1*(vl x.2.1.2.1:Int))
noncomputable instance (x:tRat.T):Decidable (okR x):=Classical.propDecidable _
theorem sgn_mulB {n1:Bool} {m1:List Int} {n2:Bool} {m2:List Int}:sgn ((n1 != n2)&&decide (dig (vl m1*vl m2)≠[])) (dig (vl m1*vl m2))=sgn n1 m1*sgn n2 m2:=by
 have hz:dig (vl m1*vl m2)=[]↔vl m1*vl m2=0:=dig_nil
 have hc:((vl m1*vl m2:Nat):Int)=(vl m1:Int)*vl m2:=Int.natCast_mul _ _
 by_cases h:vl m1*vl m2=0
 ·
  rw [hz.2 h]
  rw [h] at hc
  cases n1 <;> cases n2 <;> simp [sgn,vl,← hc,Int.neg_mul,Int.mul_neg]
 ·
  have hne:dig (vl m1*vl m2)≠[]:=fun e=>h (hz.1 e)
  cases n1 <;> cases n2 <;> simp [sgn,vl_dig,hne,hc,Int.neg_mul,Int.mul_neg]
def conCmpR:Con:=⟨fun args=>(match args with
 | [.agg [.bool n1,.sl (.int .i64) m1 _,.bool n2,.sl (.int .i64) m2 _],.agg [.bool k1,.sl (.int .i64) l1 _,.bool k2,.sl (.int .i64) l2 _]]=>(okRat n1 m1 n2 m2∧okRat k1 l1 k2 l2→m1.length+l2.length≤2048∧l1.length+m2.length≤2048)
 | _=>False),fun args=>match args with
 | [.agg [.bool n1,.sl (.int .i64) m1 _,.bool n2,.sl (.int .i64) m2 _],.agg [.bool k1,.sl (.int .i64) l1 _,.bool k2,.sl (.int .i64) l2 _]]=>.tup [aI (if okRat n1 m1 n2 m2∧okRat k1 l1 k2 l2 then ratCmp n1 m1 m2 k1 l1 l2 else 0),aI (if okRat n1 m1 n2 m2∧okRat k1 l1 k2 l2 then 0 else 100)]
 | _=>.v (.s .any)⟩
theorem conCmpR_eq (n1:Bool) (m1:List (Ty.T tI)) (exm1:Bool) (n2:Bool) (m2:List (Ty.T tI)) (exm2:Bool) (k1:Bool) (l1:List (Ty.T tI)) (exl1:Bool) (k2:Bool) (l2:List (Ty.T tI)) (exl2:Bool):conCmpR.pre [.agg [.bool n1,.sl tI m1 exm1,.bool n2,.sl tI m2 exm2],.agg [.bool k1,.sl tI l1 exl1,.bool k2,.sl tI l2 exl2]]=((okRat n1 m1 n2 m2∧okRat k1 l1 k2 l2→m1.length+l2.length≤2048∧l1.length+m2.length≤2048))∧conCmpR.val [.agg [.bool n1,.sl tI m1 exm1,.bool n2,.sl tI m2 exm2],.agg [.bool k1,.sl tI l1 exl1,.bool k2,.sl tI l2 exl2]]=.tup [aI (if okRat n1 m1 n2 m2∧okRat k1 l1 k2 l2 then ratCmp n1 m1 m2 k1 l1 l2 else 0),aI (if okRat n1 m1 n2 m2∧okRat k1 l1 k2 l2 then 0 else 100)]:=⟨rfl,rfl⟩
theorem cmpr_ok:PureOk Tryz.prog 24 conCmpR:=by
 refine pureDefD (L:={ live:=[0,1,2,3,4,5,6],fin:=[(2,[])],fl:=[(4,[(1,0),(2,0),(4,0),(5,0)])] }) nr20_good rfl nr_mixed (dl_cons ⟨enters_of Tryz.func51 (by kernel_rfl) rfl,caught_ok ratioCaught⟩ dl_nil) Tryz.func24 rfl conCmpR 2 (by decide) (by kernel_rfl) ?_
 intro args hpre hlens
 simp only [conCmpR] at hpre
 split at hpre
 case h_2=>exact hpre.elim
 rename_i n1 m1 e1 n2 m2 e2 k1 l1 f1 k2 l2 f2
 simp only [allLen,AV.lenOk,SV.lenOk,Ty.lenOk,maxLen,and_true,implies_true,true_and,List.forall_mem_cons,List.not_mem_nil,false_implies] at hlens
 refine ⟨rfl,?_⟩
 simp -dsimp -implicitDefEqProofs [Tryz.f24,conCmpR_eq,nr20_all,nrT,nr20Γ,nr20E,nr20P,nr19Γ,nr19E,nr19P,nr18Γ,nr18E,nr18P,nr17Γ,nr17E,nr17P,nr16Γ,nr16E,nr16P,nr15Γ,nr15E,nr15P,nr14Γ,nr14E,nr14P,nr13Γ,nr13E,nr13P,nr9Γ,nr9E,nr9P,nr8Γ,nr8E,nr8P,nr7Γ,nr7E,nr7P,nr6Γ,nr6E,nr6P,nr5Γ,nr5E,nr5P,nr4Γ,nr4E,nr4P,nr3Γ,nr3E,nr3P,nr0Γ,nr0E,nr0P,conProd_eq,conDidB_eq,conDidI_eq,conValid_eq,panValid_when,panValid_what,conRatC_eq,conNeed_eq,panNeed_when,panNeed_what,conGcdN_eq,conMulN_eq,conCmpN2_eq,conPosi_eq,conChk_eq,conBigN_eq,conDiv_eq,conTimes_eq,conNCheck_eq,conLong_eq,conLead64_eq,conShort_eq,conMovE,conTrim_eq,conAt_eq,conNCmp_eq,conBack_eq,conOf9_eq,conDivide_eq,conLess9_eq,conTwo_eq,conRCheck_eq,conRCmpD_eq,inI64]
 obtain ⟨m1,rfl⟩:∃ y:List Int,y=m1:=⟨m1,rfl⟩; obtain ⟨m2,rfl⟩:∃ y:List Int,y=m2:=⟨m2,rfl⟩; obtain ⟨l1,rfl⟩:∃ y:List Int,y=l1:=⟨l1,rfl⟩; obtain ⟨l2,rfl⟩:∃ y:List Int,y=l2:=⟨l2,rfl⟩
 have hoR:∀ {a:Bool} {b:List Int} {c:Bool} {d:List Int},okR ((a,b,()),(c,d,()),())=okRat a b c d:=fun {a b c d}=>rfl
 simp only [hoR]
 refine ⟨fun h=>⟨fun a b=>absurd b (h a),h⟩,fun a b=>⟨⟨a,b⟩,?_,?_⟩⟩
 ·
  intro k hk
  obtain ⟨z1,z2⟩:=hpre ⟨a,b⟩
  rcases k with _ | _ | k
  ·
   exact ⟨a.1,b.2.1,z1⟩
  ·
   exact ⟨b.1,a.2.1,z2⟩
  ·
   omega
 ·
  obtain ⟨z1,z2⟩:=hpre ⟨a,b⟩
  have o1:okB (mulB (n1,m1,()) (k2,l2,())):=okB_mulB ⟨a.1,b.2.1,z1⟩
  have o2:okB (mulB (k1,l1,()) (n2,m2,())):=okB_mulB ⟨b.1,a.2.1,z2⟩
  rw [prodL_four,if_pos ⟨a,b⟩]
  obtain rfl:=a.2.2.1
  obtain rfl:=b.2.2.1
  refine ⟨⟨Nat.succ_pos _,by show (1:Int)<2; decide,⟨o1,o2⟩,?_,a,b⟩,Nat.succ_pos _,by show (1:Int)<2; decide⟩
  show cmpZ (sgn ((n1 != false)&&decide (dig (vl m1*vl l2)≠[])) (dig (vl m1*vl l2))) (sgn ((k1 != false)&&decide (dig (vl l1*vl m2)≠[])) (dig (vl l1*vl m2)))=_
  rw [sgn_mulB,sgn_mulB]
  rfl
theorem cmpZ_zero {a b:Int}:cmpZ a b=0↔a=b:=by
 unfold cmpZ
 split
 ·
  simp; omega
 ·
  split
  ·
   simp; omega
  ·
   simp; omega
theorem mul9_of {x y:tBig.T} (h:mulOk x y):mulErr x.1 x.2.1 y.1 y.2.1=0∧mulD x.1 x.2.1 y.1 y.2.1=dig (vl x.2.1*vl y.2.1):=by
 have h1:twoErr x.1 x.2.1 y.1 y.2.1=0:=twoErr_0.2 ⟨h.1,h.2.1⟩
 have h2:(dig (vl x.2.1*vl y.2.1)).length≤2048:=(okB_mulB h).2.1
 unfold mulErr mulD limE limD
 rw [if_pos h1,if_pos h1,if_pos h2,if_pos h2]
 exact ⟨rfl,rfl⟩
def nr21Γ:List (FuncId×Con):=(127,conGcd9)::(118,conCmp9)::(119,conMul9)::(108,conMake9)::(126,conZero)::nr7Γ
theorem nr21Γ_ok:∀ p∈nr21Γ,(∀ (args:Array Value) (w:World),(callFunc p.1 args).run Tryz.prog w=.ok (.enter p.1 args) w)∧PureOk Tryz.prog p.1 p.2:=by
 simp only [nr21Γ,List.forall_mem_cons]
 exact ⟨⟨enters_of Tryz.func127 (by kernel_rfl) rfl,gcd9_ok⟩,⟨enters_of Tryz.func118 (by kernel_rfl) rfl,cmp9_ok⟩,⟨enters_of Tryz.func119 (by kernel_rfl) rfl,mul9_ok⟩,⟨enters_of Tryz.func108 (by kernel_rfl) rfl,make9_ok⟩,⟨enters_of Tryz.func126 (by kernel_rfl) rfl,zero_ok⟩,nr7Γ_ok⟩
def nr21E:List (FuncId×ECon):=nr7E
theorem nr21E_ok:∀ p∈nr21E,(∀ (args:Array Value) (w:World),(callFunc p.1 args).run Tryz.prog w=.ok (.enter p.1 args) w)∧EffOk Tryz.prog p.1 p.2:=by
 simp only [nr21E]
 exact nr7E_ok
def nr21P:List (FuncId×PCon):=nr7P
theorem nr21P_ok:∀ p∈nr21P,(∀ (args:Array Value) (w:World),(callFunc p.1 args).run Tryz.prog w=.ok (.enter p.1 args) w)∧PanOk Tryz.prog p.1 p.2:=by
 simp only [nr21P]
 exact nr7P_ok
def nr21:G:={ τ:=nrT,Γ:=nr21Γ,E:=nr21E,Pn:=nr21P }
theorem nr21_good:nr21.good Tryz.prog:=good_of_all (nrT_ok _ rfl) nr21Γ_ok nr21E_ok nr21P_ok
theorem nr21_all:(∀ t,nr21.td t=(look nrT t).getD .other)∧nr21.y=false∧nr21.Γ=nr21Γ∧nr21.E=nr21E∧nr21.Pn=nr21P∧nr21.fz=[]:=⟨fun _=>rfl,rfl,rfl,rfl,rfl,rfl⟩
theorem rratc_ok:PureOk Tryz.prog 82 conRatC:=by
 refine pureOkD (L:={ live:=[0,1,2,3,5,26,42] }) nr21_good rfl nr_mixed Tryz.func82 rfl conRatC 1 (by decide) (by kernel_rfl) ?_
 intro args hpre hlens
 simp only [conRatC] at hpre
 split at hpre
 case h_2=>exact hpre.elim
 rename_i n1 m1 e1 n2 m2 e2
 simp only [allLen,AV.lenOk,SV.lenOk,Ty.lenOk,maxLen,and_true,implies_true,true_and,List.forall_mem_cons,List.not_mem_nil,false_implies] at hlens
 refine ⟨rfl,?_⟩
 simp -dsimp -implicitDefEqProofs [Tryz.f82,conRatC_eq,nr21_all,nrT,nr21Γ,nr21E,nr21P,nr7Γ,nr7E,nr7P,nr6Γ,nr6E,nr6P,nr5Γ,nr5E,nr5P,nr4Γ,nr4E,nr4P,nr3Γ,nr3E,nr3P,nr0Γ,nr0E,nr0P,conGcd9_eq,conCmp9_eq,conMul9_eq,conMake9_eq,conZero_eq,conOf9_eq,conDivide_eq,conTimes_eq,conLess9_eq,conTwo_eq,conTrim_eq,conAt_eq,conRCheck_eq,conRCmpD_eq,inI64]
 obtain ⟨m1,rfl⟩:∃ y:List Int,y=m1:=⟨m1,rfl⟩; obtain ⟨m2,rfl⟩:∃ y:List Int,y=m2:=⟨m2,rfl⟩
 have hok:okRat n1 m1 n2 m2↔(natErr n1 m1=0∧natErr n2 m2=0∧n2=false∧m2≠[]∧Nat.gcd (vl m1) (vl m2)=1):=by
  rw [natErr_0,natErr_0]; rfl
 have hb:natErr n1 m1=0→natErr n2 m2=0→¬ m2=[]→(cmpV9 false (gcdD n1 m1 n2 m2) false (dig 1)=0↔Nat.gcd (vl m1) (vl m2)=1):=fun h1 h2 h3=>by
  have o1:=natErr_0.1 h1
  have o2:=natErr_0.1 h2
  have ht:twoErr n1 m1 n2 m2=0:=twoErr_0.2 ⟨o1,o2⟩
  have hp:0<vl m2:=(vl_pos o2.1).2 (List.length_pos_iff.2 h3)
  have hg:okBig false (dig (Nat.gcd (vl m1) (vl m2))):=by
   refine ⟨canon_dig _,?_,fun h=>by cases h⟩
   exact dig_same o2.1 (Nat.le_of_dvd hp (Nat.gcd_dvd_right _ _)) o2.2.1
  have h1':okBig false (dig 1):=⟨canon_dig _,by rw [dig_one]; decide,fun h=>by cases h⟩
  unfold cmpV9 gcdD
  rw [if_pos ht,if_pos (twoErr_0.2 ⟨hg,h1'⟩),sgn_false,sgn_false,vl_dig,vl_dig,cmpZ_zero]
  omega
 refine ⟨fun h => ?_,fun h1 h2 h4 h3=>⟨fun h => ?_,fun h => ?_⟩⟩
 ·
  unfold ratErr
  rw [if_neg]
  rw [hok]
  rintro ⟨q1,q2,q3,q4,_⟩
  rcases h with (h | h) | h
  ·
   rcases h with h | h
   ·
    exact h q1
   ·
    exact h q2
  ·
   exact q4 h
  ·
   rw [h] at q3; cases q3
 ·
  unfold ratErr
  rw [if_neg]
  rw [hok]
  rintro ⟨_,_,_,_,q⟩
  exact h ((hb h1 h2 h4).2 q)
 ·
  unfold ratErr
  rw [if_pos]
  rw [hok]
  exact ⟨h1,h2,h3,h4,(hb h1 h2 h4).1 h⟩
def conRInt:Con:=⟨fun args=>(match args with
 | [.s (.int .i64 n)]=>inI64 n
 | _=>False),fun args=>match args with
 | [.s (.int _ n)]=>.v (.agg [.bool (decide (n<0)),.sl tI (dig n.natAbs) false,.bool false,.sl tI [1] false])
 | _=>.v (.s .any)⟩
theorem conRInt_eq (n:Int):conRInt.pre [.s (.int .i64 n)]=(inI64 n)∧conRInt.val [.s (.int .i64 n)]=.v (.agg [.bool (decide (n<0)),.sl tI (dig n.natAbs) false,.bool false,.sl tI [1] false]):=⟨rfl,rfl⟩
theorem rint_ok:PureOk Tryz.prog 73 conRInt:=by
 refine pureOkD (L:={ live:=[0,2] }) nr21_good rfl nr_mixed Tryz.func73 rfl conRInt 1 (by decide) (by kernel_rfl) ?_
 intro args hpre hlens
 simp only [conRInt] at hpre
 split at hpre
 case h_2=>exact hpre.elim
 rename_i n
 simp only [allLen,AV.lenOk,SV.lenOk,Ty.lenOk,maxLen,and_true,implies_true,true_and,List.forall_mem_cons,List.not_mem_nil,false_implies] at hlens
 refine ⟨rfl,?_⟩
 simp -dsimp -implicitDefEqProofs [Tryz.f73,conRInt_eq,nr21_all,nrT,nr21Γ,nr21E,nr21P,nr7Γ,nr7E,nr7P,nr6Γ,nr6E,nr6P,nr5Γ,nr5E,nr5P,nr4Γ,nr4E,nr4P,nr3Γ,nr3E,nr3P,nr0Γ,nr0E,nr0P,conGcd9_eq,conCmp9_eq,conMul9_eq,conMake9_eq,conZero_eq,conOf9_eq,conDivide_eq,conTimes_eq,conLess9_eq,conTwo_eq,conTrim_eq,conAt_eq,conRCheck_eq,conRCmpD_eq,inI64]
 exact ⟨hpre,dig_one⟩
def nr22Γ:List (FuncId×Con):=(82,conRatC)::(73,conRInt)::nr21Γ
theorem nr22Γ_ok:∀ p∈nr22Γ,(∀ (args:Array Value) (w:World),(callFunc p.1 args).run Tryz.prog w=.ok (.enter p.1 args) w)∧PureOk Tryz.prog p.1 p.2:=by
 simp only [nr22Γ,List.forall_mem_cons]
 exact ⟨⟨enters_of Tryz.func82 (by kernel_rfl) rfl,rratc_ok⟩,⟨enters_of Tryz.func73 (by kernel_rfl) rfl,rint_ok⟩,nr21Γ_ok⟩
def nr22E:List (FuncId×ECon):=nr21E
theorem nr22E_ok:∀ p∈nr22E,(∀ (args:Array Value) (w:World),(callFunc p.1 args).run Tryz.prog w=.ok (.enter p.1 args) w)∧EffOk Tryz.prog p.1 p.2:=by
 simp only [nr22E]
 exact nr21E_ok
def nr22P:List (FuncId×PCon):=nr21P
theorem nr22P_ok:∀ p∈nr22P,(∀ (args:Array Value) (w:World),(callFunc p.1 args).run Tryz.prog w=.ok (.enter p.1 args) w)∧PanOk Tryz.prog p.1 p.2:=by
 simp only [nr22P]
 exact nr21P_ok
def nr22:G:={ τ:=nrT,Γ:=nr22Γ,E:=nr22E,Pn:=nr22P }
theorem nr22_good:nr22.good Tryz.prog:=good_of_all (nrT_ok _ rfl) nr22Γ_ok nr22E_ok nr22P_ok
theorem nr22_all:(∀ t,nr22.td t=(look nrT t).getD .other)∧nr22.y=false∧nr22.Γ=nr22Γ∧nr22.E=nr22E∧nr22.Pn=nr22P∧nr22.fz=[]:=⟨fun _=>rfl,rfl,rfl,rfl,rfl,rfl⟩
def conRVal:Con:=⟨fun args=>(match args with
 | [.agg [.bool n1,.sl (.int .i64) m1 _,.bool n2,.sl (.int .i64) m2 _],.agg [.bool k1,.sl (.int .i64) l1 _,.bool k2,.sl (.int .i64) l2 _]]=>True
 | _=>False),fun args=>match args with
 | [.agg [.bool n1,.sl (.int .i64) m1 _,.bool n2,.sl (.int .i64) m2 _],.agg [.bool k1,.sl (.int .i64) l1 _,.bool k2,.sl (.int .i64) l2 _]]=>.v (aB (decide (okRat n1 m1 n2 m2∧okRat k1 l1 k2 l2)))
 | _=>.v (.s .any)⟩
theorem conRVal_eq (n1:Bool) (m1:List (Ty.T tI)) (exm1:Bool) (n2:Bool) (m2:List (Ty.T tI)) (exm2:Bool) (k1:Bool) (l1:List (Ty.T tI)) (exl1:Bool) (k2:Bool) (l2:List (Ty.T tI)) (exl2:Bool):conRVal.pre [.agg [.bool n1,.sl tI m1 exm1,.bool n2,.sl tI m2 exm2],.agg [.bool k1,.sl tI l1 exl1,.bool k2,.sl tI l2 exl2]]=(True)∧conRVal.val [.agg [.bool n1,.sl tI m1 exm1,.bool n2,.sl tI m2 exm2],.agg [.bool k1,.sl tI l1 exl1,.bool k2,.sl tI l2 exl2]]=.v (aB (decide (okRat n1 m1 n2 m2∧okRat k1 l1 k2 l2))):=⟨rfl,rfl⟩
theorem rval_ok:PureOk Tryz.prog 116 conRVal:=by
 refine pureOkD (L:={ live:=[0,1,2,3,4] }) nr22_good rfl nr_mixed Tryz.func116 rfl conRVal 2 (by decide) (by kernel_rfl) ?_
 intro args hpre hlens
 simp only [conRVal] at hpre
 split at hpre
 case h_2=>exact hpre.elim
 rename_i n1 m1 e1 n2 m2 e2 k1 l1 f1 k2 l2 f2
 simp only [allLen,AV.lenOk,SV.lenOk,Ty.lenOk,maxLen,and_true,implies_true,true_and,List.forall_mem_cons,List.not_mem_nil,false_implies] at hlens
 refine ⟨rfl,?_⟩
 simp -dsimp -implicitDefEqProofs [Tryz.f116,conRVal_eq,nr22_all,nrT,nr22Γ,nr22E,nr22P,nr21Γ,nr21E,nr21P,nr7Γ,nr7E,nr7P,nr6Γ,nr6E,nr6P,nr5Γ,nr5E,nr5P,nr4Γ,nr4E,nr4P,nr3Γ,nr3E,nr3P,nr0Γ,nr0E,nr0P,conRatC_eq,conRInt_eq,conGcd9_eq,conCmp9_eq,conMul9_eq,conMake9_eq,conZero_eq,conOf9_eq,conDivide_eq,conTimes_eq,conLess9_eq,conTwo_eq,conTrim_eq,conAt_eq,conRCheck_eq,conRCmpD_eq,inI64]
 obtain ⟨m1,rfl⟩:∃ y:List Int,y=m1:=⟨m1,rfl⟩; obtain ⟨m2,rfl⟩:∃ y:List Int,y=m2:=⟨m2,rfl⟩; obtain ⟨l1,rfl⟩:∃ y:List Int,y=l1:=⟨l1,rfl⟩; obtain ⟨l2,rfl⟩:∃ y:List Int,y=l2:=⟨l2,rfl⟩
 rw [Bool.eq_iff_iff]
 simp [ratErr_0]
def conCross:Con:=⟨fun args=>(match args with
 | [.agg [.bool n1,.sl (.int .i64) m1 _,.bool n2,.sl (.int .i64) m2 _],.agg [.bool k1,.sl (.int .i64) l1 _,.bool k2,.sl (.int .i64) l2 _]]=>mulOk (n1,m1,()) (k2,l2,())∧mulOk (k1,l1,()) (n2,m2,())
 | _=>False),fun args=>match args with
 | [.agg [.bool n1,.sl (.int .i64) m1 _,.bool n2,.sl (.int .i64) m2 _],.agg [.bool k1,.sl (.int .i64) l1 _,.bool k2,.sl (.int .i64) l2 _]]=>.tup [.agg [.bool (mulB (n1,m1,()) (k2,l2,())).1,.sl tI (mulB (n1,m1,()) (k2,l2,())).2.1 false],.agg [.bool (mulB (k1,l1,()) (n2,m2,())).1,.sl tI (mulB (k1,l1,()) (n2,m2,())).2.1 false],aI 0]
 | _=>.v (.s .any)⟩
theorem conCross_eq (n1:Bool) (m1:List (Ty.T tI)) (exm1:Bool) (n2:Bool) (m2:List (Ty.T tI)) (exm2:Bool) (k1:Bool) (l1:List (Ty.T tI)) (exl1:Bool) (k2:Bool) (l2:List (Ty.T tI)) (exl2:Bool):conCross.pre [.agg [.bool n1,.sl tI m1 exm1,.bool n2,.sl tI m2 exm2],.agg [.bool k1,.sl tI l1 exl1,.bool k2,.sl tI l2 exl2]]=(mulOk (n1,m1,()) (k2,l2,())∧mulOk (k1,l1,()) (n2,m2,()))∧conCross.val [.agg [.bool n1,.sl tI m1 exm1,.bool n2,.sl tI m2 exm2],.agg [.bool k1,.sl tI l1 exl1,.bool k2,.sl tI l2 exl2]]=.tup [.agg [.bool (mulB (n1,m1,()) (k2,l2,())).1,.sl tI (mulB (n1,m1,()) (k2,l2,())).2.1 false],.agg [.bool (mulB (k1,l1,()) (n2,m2,())).1,.sl tI (mulB (k1,l1,()) (n2,m2,())).2.1 false],aI 0]:=⟨rfl,rfl⟩
theorem cross_ok:PureOk Tryz.prog 117 conCross:=by
 refine pureOkD (L:={ live:=[0,1,2,3,4,5,6,7,8,9,10,32],fl:=[(5,[(0,0),(1,0),(1,3)])] }) nr22_good rfl nr_mixed Tryz.func117 rfl conCross 2 (by decide) (by kernel_rfl) ?_
 intro args hpre hlens
 simp only [conCross] at hpre
 split at hpre
 case h_2=>exact hpre.elim
 rename_i n1 m1 e1 n2 m2 e2 k1 l1 f1 k2 l2 f2
 simp only [allLen,AV.lenOk,SV.lenOk,Ty.lenOk,maxLen,and_true,implies_true,true_and,List.forall_mem_cons,List.not_mem_nil,false_implies] at hlens
 refine ⟨rfl,?_⟩
 simp -dsimp -implicitDefEqProofs [Tryz.f117,conCross_eq,nr22_all,nrT,nr22Γ,nr22E,nr22P,nr21Γ,nr21E,nr21P,nr7Γ,nr7E,nr7P,nr6Γ,nr6E,nr6P,nr5Γ,nr5E,nr5P,nr4Γ,nr4E,nr4P,nr3Γ,nr3E,nr3P,nr0Γ,nr0E,nr0P,conRatC_eq,conRInt_eq,conGcd9_eq,conCmp9_eq,conMul9_eq,conMake9_eq,conZero_eq,conOf9_eq,conDivide_eq,conTimes_eq,conLess9_eq,conTwo_eq,conTrim_eq,conAt_eq,conRCheck_eq,conRCmpD_eq,inI64]
 obtain ⟨m1,rfl⟩:∃ y:List Int,y=m1:=⟨m1,rfl⟩; obtain ⟨m2,rfl⟩:∃ y:List Int,y=m2:=⟨m2,rfl⟩; obtain ⟨l1,rfl⟩:∃ y:List Int,y=l1:=⟨l1,rfl⟩; obtain ⟨l2,rfl⟩:∃ y:List Int,y=l2:=⟨l2,rfl⟩
 obtain ⟨a1,a2⟩:=mul9_of hpre.1
 obtain ⟨b1,b2⟩:=mul9_of hpre.2
 refine ⟨⟨a1,b1⟩,fun _ _ => ?_⟩
 simp only at a2 b2
 rw [a2,b2]
 simp [mulB]
def nr23Γ:List (FuncId×Con):=(116,conRVal)::(117,conCross)::nr22Γ
theorem nr23Γ_ok:∀ p∈nr23Γ,(∀ (args:Array Value) (w:World),(callFunc p.1 args).run Tryz.prog w=.ok (.enter p.1 args) w)∧PureOk Tryz.prog p.1 p.2:=by
 simp only [nr23Γ,List.forall_mem_cons]
 exact ⟨⟨enters_of Tryz.func116 (by kernel_rfl) rfl,rval_ok⟩,⟨enters_of Tryz.func117 (by kernel_rfl) rfl,cross_ok⟩,nr22Γ_ok⟩
def nr23E:List (FuncId×ECon):=nr22E
theorem nr23E_ok:∀ p∈nr23E,(∀ (args:Array Value) (w:World),(callFunc p.1 args).run Tryz.prog w=.ok (.enter p.1 args) w)∧EffOk Tryz.prog p.1 p.2:=by
 simp only [nr23E]
 exact nr22E_ok
def nr23P:List (FuncId×PCon):=nr22P
theorem nr23P_ok:∀ p∈nr23P,(∀ (args:Array Value) (w:World),(callFunc p.1 args).run Tryz.prog w=.ok (.enter p.1 args) w)∧PanOk Tryz.prog p.1 p.2:=by
 simp only [nr23P]
 exact nr22P_ok
def nr23:G:={ τ:=nrT,Γ:=nr23Γ,E:=nr23E,Pn:=nr23P }
theorem nr23_good:nr23.good Tryz.prog:=good_of_all (nrT_ok _ rfl) nr23Γ_ok nr23E_ok nr23P_ok
theorem nr23_all:(∀ t,nr23.td t=(look nrT t).getD .other)∧nr23.y=false∧nr23.Γ=nr23Γ∧nr23.E=nr23E∧nr23.Pn=nr23P∧nr23.fz=[]:=⟨fun _=>rfl,rfl,rfl,rfl,rfl,rfl⟩
theorem rcmpr_ok:PureOk Tryz.prog 74 conCmpR:=by
 refine pureOkD (L:={ live:=[0,1,2,3,4,5,6,7,8,12,21] }) nr23_good rfl nr_mixed Tryz.func74 rfl conCmpR 2 (by decide) (by kernel_rfl) ?_
 intro args hpre hlens
 simp only [conCmpR] at hpre
 split at hpre
 case h_2=>exact hpre.elim
 rename_i n1 m1 e1 n2 m2 e2 k1 l1 f1 k2 l2 f2
 simp only [allLen,AV.lenOk,SV.lenOk,Ty.lenOk,maxLen,and_true,implies_true,true_and,List.forall_mem_cons,List.not_mem_nil,false_implies] at hlens
 refine ⟨rfl,?_⟩
 simp -dsimp -implicitDefEqProofs [Tryz.f74,conCmpR_eq,nr23_all,nrT,nr23Γ,nr23E,nr23P,nr22Γ,nr22E,nr22P,nr21Γ,nr21E,nr21P,nr7Γ,nr7E,nr7P,nr6Γ,nr6E,nr6P,nr5Γ,nr5E,nr5P,nr4Γ,nr4E,nr4P,nr3Γ,nr3E,nr3P,nr0Γ,nr0E,nr0P,conRVal_eq,conCross_eq,conRatC_eq,conRInt_eq,conGcd9_eq,conCmp9_eq,conMul9_eq,conMake9_eq,conZero_eq,conOf9_eq,conDivide_eq,conTimes_eq,conLess9_eq,conTwo_eq,conTrim_eq,conAt_eq,conRCheck_eq,conRCmpD_eq,inI64]
 obtain ⟨m1,rfl⟩:∃ y:List Int,y=m1:=⟨m1,rfl⟩; obtain ⟨m2,rfl⟩:∃ y:List Int,y=m2:=⟨m2,rfl⟩; obtain ⟨l1,rfl⟩:∃ y:List Int,y=l1:=⟨l1,rfl⟩; obtain ⟨l2,rfl⟩:∃ y:List Int,y=l2:=⟨l2,rfl⟩
 refine ⟨fun h=>⟨fun a b => ?_,fun a b => ?_⟩,fun a b=>⟨?_,?_,?_⟩⟩
 ·
  rcases h with h | h
  ·
   exact absurd a h
  ·
   exact absurd b h
 ·
  rcases h with h | h
  ·
   exact absurd a h
  ·
   exact absurd b h
 ·
  obtain ⟨z1,z2⟩:=hpre ⟨a,b⟩
  exact ⟨⟨a.1,b.2.1,z1⟩,⟨b.1,a.2.1,z2⟩⟩
 ·
  obtain ⟨z1,z2⟩:=hpre ⟨a,b⟩
  have o1:okB (mulB (n1,m1,()) (k2,l2,())):=okB_mulB ⟨a.1,b.2.1,z1⟩
  have o2:okB (mulB (k1,l1,()) (n2,m2,())):=okB_mulB ⟨b.1,a.2.1,z2⟩
  rw [if_pos ⟨a,b⟩]
  unfold cmpV9
  rw [if_pos (twoErr_0.2 ⟨o1,o2⟩)]
  obtain rfl:=a.2.2.1
  obtain rfl:=b.2.2.1
  show cmpZ (sgn ((n1 != false)&&decide (dig (vl m1*vl l2)≠[])) (dig (vl m1*vl l2))) (sgn ((k1 != false)&&decide (dig (vl l1*vl m2)≠[])) (dig (vl l1*vl m2)))=_
  rw [sgn_mulB,sgn_mulB]
  rfl
 ·
  obtain ⟨z1,z2⟩:=hpre ⟨a,b⟩
  have o1:okB (mulB (n1,m1,()) (k2,l2,())):=okB_mulB ⟨a.1,b.2.1,z1⟩
  have o2:okB (mulB (k1,l1,()) (n2,m2,())):=okB_mulB ⟨b.1,a.2.1,z2⟩
  rw [if_pos ⟨a,b⟩]
  exact twoErr_0.2 ⟨o1,o2⟩
def fewB (m:List Int) (n:Int):Bool:=decide ((m.length:Int)≤n∨2048<m.length∧m.length≤2052)
def conFewB:Con:=⟨fun args=>(match args with
 | [.agg [.bool ng,.sl (.int .i64) m _],.s (.int .i64 n)]=>True
 | _=>False),fun args=>match args with
 | [.agg [.bool ng,.sl (.int .i64) m _],.s (.int _ n)]=>.v (aB (fewB m n))
 | _=>.v (.s .any)⟩
theorem conFewB_eq (ng:Bool) (m:List (Ty.T tI)) (exm:Bool) (n:Int):conFewB.pre [.agg [.bool ng,.sl tI m exm],.s (.int .i64 n)]=(True)∧conFewB.val [.agg [.bool ng,.sl tI m exm],.s (.int .i64 n)]=.v (aB (fewB m n)):=⟨rfl,rfl⟩
theorem fewb_ok:PureOk Tryz.prog 64 conFewB:=by
 refine pureOkD (L:={ live:=[0,1,2,4] }) nr0_good rfl nr_mixed Tryz.func64 rfl conFewB 2 (by decide) (by kernel_rfl) ?_
 intro args hpre hlens
 simp only [conFewB] at hpre
 split at hpre
 case h_2=>exact hpre.elim
 rename_i ng m em n
 simp only [allLen,AV.lenOk,SV.lenOk,Ty.lenOk,maxLen,and_true,implies_true,true_and,List.forall_mem_cons,List.not_mem_nil,false_implies] at hlens
 refine ⟨rfl,?_⟩
 simp -dsimp -implicitDefEqProofs [Tryz.f64,conFewB_eq,nr0_all,nrT,nr0Γ,nr0E,nr0P,inI64]
 refine ⟨fun h=>⟨h,fun h2=>⟨h,h2⟩⟩,?_⟩
 rw [fewB,Bool.eq_iff_iff]
 simp
 omega
def conFewR:Con:=⟨fun args=>(match args with
 | [.agg [.bool n1,.sl (.int .i64) m1 _,.bool n2,.sl (.int .i64) m2 _],.s (.int .i64 n)]=>True
 | _=>False),fun args=>match args with
 | [.agg [.bool n1,.sl (.int .i64) m1 _,.bool n2,.sl (.int .i64) m2 _],.s (.int _ n)]=>.v (aB (fewB m1 n&&fewB m2 n))
 | _=>.v (.s .any)⟩
theorem conFewR_eq (n1:Bool) (m1:List (Ty.T tI)) (exm1:Bool) (n2:Bool) (m2:List (Ty.T tI)) (exm2:Bool) (n:Int):conFewR.pre [.agg [.bool n1,.sl tI m1 exm1,.bool n2,.sl tI m2 exm2],.s (.int .i64 n)]=(True)∧conFewR.val [.agg [.bool n1,.sl tI m1 exm1,.bool n2,.sl tI m2 exm2],.s (.int .i64 n)]=.v (aB (fewB m1 n&&fewB m2 n)):=⟨rfl,rfl⟩
def nr24Γ:List (FuncId×Con):=(64,conFewB)::nr0Γ
theorem nr24Γ_ok:∀ p∈nr24Γ,(∀ (args:Array Value) (w:World),(callFunc p.1 args).run Tryz.prog w=.ok (.enter p.1 args) w)∧PureOk Tryz.prog p.1 p.2:=by
 simp only [nr24Γ,List.forall_mem_cons]
 exact ⟨⟨enters_of Tryz.func64 (by kernel_rfl) rfl,fewb_ok⟩,nr0Γ_ok⟩
def nr24E:List (FuncId×ECon):=nr0E
theorem nr24E_ok:∀ p∈nr24E,(∀ (args:Array Value) (w:World),(callFunc p.1 args).run Tryz.prog w=.ok (.enter p.1 args) w)∧EffOk Tryz.prog p.1 p.2:=by
 simp only [nr24E]
 exact nr0E_ok
def nr24P:List (FuncId×PCon):=nr0P
theorem nr24P_ok:∀ p∈nr24P,(∀ (args:Array Value) (w:World),(callFunc p.1 args).run Tryz.prog w=.ok (.enter p.1 args) w)∧PanOk Tryz.prog p.1 p.2:=by
 simp only [nr24P]
 exact nr0P_ok
def nr24:G:={ τ:=nrT,Γ:=nr24Γ,E:=nr24E,Pn:=nr24P }
theorem nr24_good:nr24.good Tryz.prog:=good_of_all (nrT_ok _ rfl) nr24Γ_ok nr24E_ok nr24P_ok
theorem nr24_all:(∀ t,nr24.td t=(look nrT t).getD .other)∧nr24.y=false∧nr24.Γ=nr24Γ∧nr24.E=nr24E∧nr24.Pn=nr24P∧nr24.fz=[]:=⟨fun _=>rfl,rfl,rfl,rfl,rfl,rfl⟩
theorem fewr_ok:PureOk Tryz.prog 25 conFewR:=by
 refine pureOkD (L:={ live:=[0,1,2,4] }) nr24_good rfl nr_mixed Tryz.func25 rfl conFewR 2 (by decide) (by kernel_rfl) ?_
 intro args hpre hlens
 simp only [conFewR] at hpre
 split at hpre
 case h_2=>exact hpre.elim
 rename_i n1 m1 e1 n2 m2 e2 n
 simp only [allLen,AV.lenOk,SV.lenOk,Ty.lenOk,maxLen,and_true,implies_true,true_and,List.forall_mem_cons,List.not_mem_nil,false_implies] at hlens
 refine ⟨rfl,?_⟩
 simp -dsimp -implicitDefEqProofs [Tryz.f25,conFewR_eq,nr24_all,nrT,nr24Γ,nr24E,nr24P,nr0Γ,nr0E,nr0P,conFewB_eq,inI64]
 skip
def conMakeN:Con:=⟨fun args=>(match args with
 | [.s (.int .i64 n)]=>0≤n∧n<9223372036854775808
 | _=>False),fun args=>match args with
 | [.s (.int _ n)]=>.v (.agg [.bool false,.sl tI (dig n.natAbs) false])
 | _=>.v (.s .any)⟩
theorem conMakeN_eq (n:Int):conMakeN.pre [.s (.int .i64 n)]=(0≤n∧n<9223372036854775808)∧conMakeN.val [.s (.int .i64 n)]=.v (.agg [.bool false,.sl tI (dig n.natAbs) false]):=⟨rfl,rfl⟩
theorem nmake_ok:PureOk Tryz.prog 156 conMakeN:=by
 refine pureOkD (L:={ live:=[0,2,3,4,9,13] }) nr0_good rfl nr_mixed Tryz.func156 rfl conMakeN 1 (by decide) (by kernel_rfl) ?_
 intro args hpre hlens
 simp only [conMakeN] at hpre
 split at hpre
 case h_2=>exact hpre.elim
 rename_i n
 simp only [allLen,AV.lenOk,SV.lenOk,Ty.lenOk,maxLen,and_true,implies_true,true_and,List.forall_mem_cons,List.not_mem_nil,false_implies] at hlens
 refine ⟨rfl,?_⟩
 simp -dsimp -implicitDefEqProofs [Tryz.f156,conMakeN_eq,nr0_all,nrT,nr0Γ,nr0E,nr0P,inI64]
 obtain ⟨hn,hb⟩:=hpre
 refine ⟨hn,fun _ => ?_⟩
 have hw:IntKind.u64.wrap n=(n.natAbs:Int):=by
  have h0:IntKind.u64.wrap n=n % 18446744073709551616:=rfl
  rw [h0]; omega
 rw [hw]
 refine WpD.turn _ (Turn.virt (k:=3) (t:=tI) (xs:=[]) (by simp [look])) ?_
 refine WpD.loop (L:={ live:=[0,2,3,4,9,13] }) nr0_good X0_ok nr_mixed (by kernel_rfl)
  (fun p:List Int×Nat=>⟨[(0,vI n),(2,⟨true,.v (.s (.box 0 0))⟩),(3,⟨true,.v (.s (.own tI 1 p.1.length))⟩),(4,⟨true,.v (.s (.int .u64 p.2))⟩)],[.cells [.bool false,.sl tI [] true],.arr (decide (0<p.1.length)) (tI.flats p.1)]⟩)
  (fun p=>okD p.1∧vl p.1+1073741824 ^ p.1.length*p.2=n.natAbs∧(p.2=0→canon p.1)) (fun p=>p.2) ([],n.natAbs) ⟨okD_nil,by simp [vl],fun _=>canon_nil⟩ (Turn.le (by simp -dsimp -implicitDefEqProofs)) ?_
 rintro ⟨out,k⟩ ⟨ho,hv,hc⟩
 simp only at ho hv hc
 have hmx:4096≤maxLen:=by simp only [maxLen]; omega
 rcases Nat.eq_zero_or_pos k with rfl | hk
 ·
  simp -dsimp -implicitDefEqProofs [conMakeN_eq,nr0_all,nrT,nr0Γ,nr0E,nr0P,inI64]
  rw [← canon_eq (hc rfl)]
  simp at hv
  rw [hv]
  exact ⟨hn,rfl⟩
 ·
  have hk0:¬ k=0:=by omega
  simp -dsimp -implicitDefEqProofs [conMakeN_eq,hk0,nr0_all,nrT,nr0Γ,nr0E,nr0P,inI64]
  have e1:IntKind.i64.wrap ((k:Int) % 1073741824)=((k % 1073741824:Nat):Int):=by
   rw [IntWalk.i64_in _ (by omega)]; omega
  have e2:(k:Int).fdiv 1073741824=((k / 1073741824:Nat):Int):=by rw [Int.fdiv_eq_ediv_of_nonneg _ (by decide)]; omega
  have hl:out.length≤2:=by
   apply Classical.byContradiction
   intro h3
   have h1:1073741824 ^ 3≤1073741824 ^ out.length:=Nat.pow_le_pow_right (by decide) (by omega)
   have h4:=Nat.mul_le_mul_left (1073741824 ^ out.length) hk
   simp only [Nat.reducePow] at h1
   omega
  have e4:(k:Int).tmod 1073741824=((k % 1073741824:Nat):Int):=by rw [Int.tmod_eq_emod_of_nonneg (by omega)]; omega
  obtain ⟨s1,s2⟩:=make_step (k:=(k:Int)) (n:=n) ho (by rw [Int.natAbs_natCast]; exact hv) (((k % 1073741824:Nat):Int)) (by rw [e4,if_neg (by omega)])
  have e3:((k:Int).tdiv 1073741824).natAbs=k / 1073741824:=by rw [Int.natAbs_tdiv]; rfl
  rw [e3] at s2
  intro _
  rw [e1,e2]
  exact ⟨⟨by omega,by omega⟩,by decide,out++[((k % 1073741824:Nat):Int)],k / 1073741824,⟨s1,s2,fun h0=>canon_snoc s1 (by omega)⟩,by omega,TurnT.le (by simp -dsimp -implicitDefEqProofs)⟩
def conDivX:Con:=⟨fun args=>(match args with
 | [.agg [.bool n1,.sl (.int .i64) m1 _],.agg [.bool n2,.sl (.int .i64) m2 _]]=>okBig n1 m1∧okBig n2 m2∧0<vl m2∧vl m2 ∣ vl m1
 | _=>False),fun args=>match args with
 | [.agg [.bool n1,.sl (.int .i64) m1 _],.agg [.bool n2,.sl (.int .i64) m2 _]]=>.tup [.agg [.bool ((n1 != n2)&&decide (dig (vl m1 / vl m2)≠[])),.sl tI (dig (vl m1 / vl m2)) false],.agg [.bool false,.sl tI [] false],aI 0]
 | _=>.v (.s .any)⟩
theorem conDivX_eq (n1:Bool) (m1:List (Ty.T tI)) (exm1:Bool) (n2:Bool) (m2:List (Ty.T tI)) (exm2:Bool):conDivX.pre [.agg [.bool n1,.sl tI m1 exm1],.agg [.bool n2,.sl tI m2 exm2]]=(okBig n1 m1∧okBig n2 m2∧0<vl m2∧vl m2 ∣ vl m1)∧conDivX.val [.agg [.bool n1,.sl tI m1 exm1],.agg [.bool n2,.sl tI m2 exm2]]=.tup [.agg [.bool ((n1 != n2)&&decide (dig (vl m1 / vl m2)≠[])),.sl tI (dig (vl m1 / vl m2)) false],.agg [.bool false,.sl tI [] false],aI 0]:=⟨rfl,rfl⟩
theorem div9_ok:PureOk Tryz.prog 154 conDivX:=by
 refine pureOkD (L:={ live:=[0,1,2,3,4,5,6,7,8,9,10,11,12,13,18,25,42,70],fl:=[(14,[(0,0),(1,0),(1,3)])] }) nr7_good rfl nr_mixed Tryz.func154 rfl conDivX 2 (by decide) (by kernel_rfl) ?_
 intro args hpre hlens
 simp only [conDivX] at hpre
 split at hpre
 case h_2=>exact hpre.elim
 rename_i n1 m1 e1 n2 m2 e2
 simp only [allLen,AV.lenOk,SV.lenOk,Ty.lenOk,maxLen,and_true,implies_true,true_and,List.forall_mem_cons,List.not_mem_nil,false_implies] at hlens
 refine ⟨rfl,?_⟩
 simp -dsimp -implicitDefEqProofs [Tryz.f154,conDivX_eq,nr7_all,nrT,nr7Γ,nr7E,nr7P,nr6Γ,nr6E,nr6P,nr5Γ,nr5E,nr5P,nr4Γ,nr4E,nr4P,nr3Γ,nr3E,nr3P,nr0Γ,nr0E,nr0P,conOf9_eq,conDivide_eq,conTimes_eq,conLess9_eq,conTwo_eq,conTrim_eq,conAt_eq,conRCheck_eq,conRCmpD_eq,inI64]
 obtain ⟨m1,rfl⟩:∃ y:List Int,y=m1:=⟨m1,rfl⟩; obtain ⟨m2,rfl⟩:∃ y:List Int,y=m2:=⟨m2,rfl⟩
 obtain ⟨h1,h2,h3,h4⟩:=hpre
 have ht:twoErr n1 m1 n2 m2=0:=twoErr_0.2 ⟨h1,h2⟩
 have hm:vl m1 % vl m2=0:=Nat.mod_eq_zero_of_dvd h4
 have hq:(dig (vl m1 / vl m2)).length≤2048:=dig_same h1.1 (Nat.div_le_self _ _) h1.2.1
 have hne:¬ m2=[]:=fun e=>by rw [e] at h3; exact absurd h3 (by decide)
 rw [hm,dig_zero,vl_dig]
 refine ⟨fun h=>absurd ht h,fun _=>⟨hne,fun _=>⟨⟨h1.1,h2.1,h3,h1.2.1,h2.2.1⟩,fun _=>rfl,fun _=>⟨(canon_dig _).1,okD_nil,⟨?_,?_⟩,fun _ _=>⟨⟨?_,?_⟩,?_⟩⟩⟩⟩⟩
 all_goals simp [limE,limD,hq,vl,dig_zero]
theorem div1_raw (n:Nat) (p:Addr) (v1 v2:Value) (w:World) (hc:w.cell? p=some (.int .i64 0)):CallsDIn (FW none) n Tryz.prog 151 #[.pointer (some p),v1,v2] .returning w fun e u' w'=>e=.returned (.tuple #[])∧u'=.returning∧w'=w:=by
 refine callsDIn_of_wpSIn Tryz.func151 rfl trivial fun c₀ cs hu => ?_
 apply wpSIn_seq
 apply wpSIn_region
 simp [wpOpsSIn,go_sem,hu,Tryz.ntmps151,Exit.thenS,hc]
 refine wpSIn_cond (t:=false) (by simp [Act.eval,Array.replicate]) ?_
 simp only [Bool.false_eq_true,if_false]
 refine wpSIn_of_wpIn rfl (wpIn_skip ?_)
 cases c₀
 simp_all [bodyPostS,results,Tryz.results151]
def divIdle:DCon:=⟨fun m args hp=>match m,args with
 | none,[.s (.box id 0),_,_]=>match Blk.look hp id with
  | .cells [.int .i64 0]=>some hp
  | _=>none
 | _,_=>none⟩
theorem div1_ok:DefCOk Tryz.prog 151 divIdle:=by
 intro n w M0 bs hp hp' args vs m hrun hr hargs
 simp only [divIdle] at hrun
 split at hrun
 ·
  rename_i id _ _
  split at hrun
  ·
   rename_i hl
   injection hrun with hrun; subst hrun
   obtain ⟨b,cur,e,h1,h2,h3,h4⟩:=hr.cells id _ hl
   cases hargs with
   | cons ha h' =>
    cases h' with
    | cons hb h'' =>
     cases h'' with
     | cons hc hnil =>
      cases hnil
      obtain ⟨b',hb',rfl⟩:=ha.2 _ hl
      rw [h1] at hb'; cases hb'
      obtain ⟨u,k1,k2,k3⟩:=h4 0 _ rfl
      obtain rfl:u=.int .i64 0:=k3
      have hsz:cur.size=1:=by simpa using h3.symm
      have hcell:w.cell? ⟨b,0,none⟩=some (.int .i64 0):=by simp [World.cell?,h2,k1]
      obtain ⟨q1,q2⟩:=div1_raw n ⟨b,0,none⟩ _ _ w hcell
      refine ⟨q1,fun c cs hc hroom => ?_⟩
      obtain ⟨e',u',w',fr,⟨rfl,rfl,rfl⟩,rest⟩:=q2 c cs hc hroom
      exact ⟨_,_,_,fr,⟨⟨_,rfl⟩,rfl,hr,Step.refl _ _ _ _⟩,rest⟩
  ·
   cases hrun
 ·
  cases hrun
theorem ndivx_ok:PureOk Tryz.prog 106 conDivX:=by
 refine pureDefD (L:={ live:=[0,1,2,3,4,5,6,7,8,17,34],fl:=[(5,[(0,0),(1,0),(1,3)]),(8,[(1,0),(3,0),(4,0)])] }) nr16_good rfl nr_mixed (dl_cons ⟨enters_of Tryz.func109 (by kernel_rfl) rfl,caught_ok natCaught⟩ (dl_cons ⟨enters_of Tryz.func151 (by kernel_rfl) rfl,div1_ok⟩ dl_nil)) Tryz.func106 rfl conDivX 2 (by decide) (by kernel_rfl) ?_
 intro args hpre hlens
 simp only [conDivX] at hpre
 split at hpre
 case h_2=>exact hpre.elim
 rename_i n1 m1 e1 n2 m2 e2
 simp only [allLen,AV.lenOk,SV.lenOk,Ty.lenOk,maxLen,and_true,implies_true,true_and,List.forall_mem_cons,List.not_mem_nil,false_implies] at hlens
 refine ⟨rfl,?_⟩
 simp -dsimp -implicitDefEqProofs [Tryz.f106,conDivX_eq,divIdle,nr16_all,nrT,nr16Γ,nr16E,nr16P,nr15Γ,nr15E,nr15P,nr14Γ,nr14E,nr14P,nr13Γ,nr13E,nr13P,nr9Γ,nr9E,nr9P,nr8Γ,nr8E,nr8P,nr7Γ,nr7E,nr7P,nr6Γ,nr6E,nr6P,nr5Γ,nr5E,nr5P,nr4Γ,nr4E,nr4P,nr3Γ,nr3E,nr3P,nr0Γ,nr0E,nr0P,conChk_eq,conBigN_eq,conDiv_eq,conTimes_eq,conNCheck_eq,conLong_eq,conLead64_eq,conShort_eq,conMovE,conTrim_eq,conAt_eq,conNCmp_eq,conBack_eq,conOf9_eq,conDivide_eq,conLess9_eq,conTwo_eq,conRCheck_eq,conRCmpD_eq,inI64]
 obtain ⟨m1,rfl⟩:∃ y:List Int,y=m1:=⟨m1,rfl⟩; obtain ⟨m2,rfl⟩:∃ y:List Int,y=m2:=⟨m2,rfl⟩
 obtain ⟨h1,h2,h3,h4⟩:=hpre
 have hm:vl m1 % vl m2=0:=Nat.mod_eq_zero_of_dvd h4
 have hq:(dig (vl m1 / vl m2)).length≤2048:=dig_same h1.1 (Nat.div_le_self _ _) h1.2.1
 have hne:¬ m2=[]:=fun e=>by rw [e] at h3; exact absurd h3 (by decide)
 have ht0:trimL []=[]:=trim_canon canon_nil
 rw [hm,dig_zero,trim_canon (canon_dig _),ht0]
 exact ⟨⟨h1,h2⟩,hne,fun _=>⟨⟨h1.1,h2.1,List.length_pos_iff.2 hne,h1.2.1,h2.2.1⟩,fun _=>rfl,fun _=>⟨hq,by decide,⟨rfl,rfl⟩,rfl⟩⟩⟩
def fa1Γ:List (FuncId×Con):=(106,conDivX)::(156,conMakeN)::nr20Γ
theorem fa1Γ_ok:∀ p∈fa1Γ,(∀ (args:Array Value) (w:World),(callFunc p.1 args).run Tryz.prog w=.ok (.enter p.1 args) w)∧PureOk Tryz.prog p.1 p.2:=by
 simp only [fa1Γ,List.forall_mem_cons]
 exact ⟨⟨enters_of Tryz.func106 (by kernel_rfl) rfl,ndivx_ok⟩,⟨enters_of Tryz.func156 (by kernel_rfl) rfl,nmake_ok⟩,nr20Γ_ok⟩
def fa1E:List (FuncId×ECon):=nr20E
theorem fa1E_ok:∀ p∈fa1E,(∀ (args:Array Value) (w:World),(callFunc p.1 args).run Tryz.prog w=.ok (.enter p.1 args) w)∧EffOk Tryz.prog p.1 p.2:=by
 simp only [fa1E]
 exact nr20E_ok
def fa1P:List (FuncId×PCon):=nr20P
theorem fa1P_ok:∀ p∈fa1P,(∀ (args:Array Value) (w:World),(callFunc p.1 args).run Tryz.prog w=.ok (.enter p.1 args) w)∧PanOk Tryz.prog p.1 p.2:=by
 simp only [fa1P]
 exact nr20P_ok
def fa1:G:={ τ:=nrT,Γ:=fa1Γ,E:=fa1E,Pn:=fa1P }
theorem fa1_good:fa1.good Tryz.prog:=good_of_all (nrT_ok _ rfl) fa1Γ_ok fa1E_ok fa1P_ok
theorem fa1_all:(∀ t,fa1.td t=(look nrT t).getD .other)∧fa1.y=false∧fa1.Γ=fa1Γ∧fa1.E=fa1E∧fa1.Pn=fa1P∧fa1.fz=[]:=⟨fun _=>rfl,rfl,rfl,rfl,rfl,rfl⟩
def lowN (a d:Nat):List Int:=dig (a / Nat.gcd a d)
def lowD (a d:Nat):List Int:=dig (d / Nat.gcd a d)
theorem gcd_pos {a d:Nat} (h:0<d):0<Nat.gcd a d:=Nat.gcd_pos_of_pos_right a h
def conLow:Con:=⟨fun args=>(match args with
 | [.agg [.bool n1,.sl (.int .i64) m1 _,.bool n2,.sl (.int .i64) m2 _]]=>okBig n1 m1∧okBig n2 m2∧n2=false∧0<vl m2
 | _=>False),fun args=>match args with
 | [.agg [.bool n1,.sl (.int .i64) m1 _,.bool n2,.sl (.int .i64) m2 _]]=>.v (.agg [.bool (n1&&decide (lowN (vl m1) (vl m2)≠[])),.sl tI (lowN (vl m1) (vl m2)) false,.bool false,.sl tI (lowD (vl m1) (vl m2)) false])
 | _=>.v (.s .any)⟩
theorem conLow_eq (n1:Bool) (m1:List (Ty.T tI)) (exm1:Bool) (n2:Bool) (m2:List (Ty.T tI)) (exm2:Bool):conLow.pre [.agg [.bool n1,.sl tI m1 exm1,.bool n2,.sl tI m2 exm2]]=(okBig n1 m1∧okBig n2 m2∧n2=false∧0<vl m2)∧conLow.val [.agg [.bool n1,.sl tI m1 exm1,.bool n2,.sl tI m2 exm2]]=.v (.agg [.bool (n1&&decide (lowN (vl m1) (vl m2)≠[])),.sl tI (lowN (vl m1) (vl m2)) false,.bool false,.sl tI (lowD (vl m1) (vl m2)) false]):=⟨rfl,rfl⟩
theorem low_ok:PureOk Tryz.prog 60 conLow:=by
 refine pureOkD (L:={ live:=[0,1,2,3,4,7,39] }) fa1_good rfl nr_mixed Tryz.func60 rfl conLow 1 (by decide) (by kernel_rfl) ?_
 intro args hpre hlens
 simp only [conLow] at hpre
 split at hpre
 case h_2=>exact hpre.elim
 rename_i n1 m1 e1 n2 m2 e2
 simp only [allLen,AV.lenOk,SV.lenOk,Ty.lenOk,maxLen,and_true,implies_true,true_and,List.forall_mem_cons,List.not_mem_nil,false_implies] at hlens
 refine ⟨rfl,?_⟩
 simp -dsimp -implicitDefEqProofs [Tryz.f60,conLow_eq,fa1_all,nrT,fa1Γ,fa1E,fa1P,nr20Γ,nr20E,nr20P,nr19Γ,nr19E,nr19P,nr18Γ,nr18E,nr18P,nr17Γ,nr17E,nr17P,nr16Γ,nr16E,nr16P,nr15Γ,nr15E,nr15P,nr14Γ,nr14E,nr14P,nr13Γ,nr13E,nr13P,nr9Γ,nr9E,nr9P,nr8Γ,nr8E,nr8P,nr7Γ,nr7E,nr7P,nr6Γ,nr6E,nr6P,nr5Γ,nr5E,nr5P,nr4Γ,nr4E,nr4P,nr3Γ,nr3E,nr3P,nr0Γ,nr0E,nr0P,conDivX_eq,conMakeN_eq,conProd_eq,conDidB_eq,conDidI_eq,conValid_eq,panValid_when,panValid_what,conRatC_eq,conNeed_eq,panNeed_when,panNeed_what,conGcdN_eq,conMulN_eq,conCmpN2_eq,conPosi_eq,conChk_eq,conBigN_eq,conDiv_eq,conTimes_eq,conNCheck_eq,conLong_eq,conLead64_eq,conShort_eq,conMovE,conTrim_eq,conAt_eq,conNCmp_eq,conBack_eq,conOf9_eq,conDivide_eq,conLess9_eq,conTwo_eq,conRCheck_eq,conRCmpD_eq,inI64]
 obtain ⟨m1,rfl⟩:∃ y:List Int,y=m1:=⟨m1,rfl⟩; obtain ⟨m2,rfl⟩:∃ y:List Int,y=m2:=⟨m2,rfl⟩
 obtain ⟨h1,h2,rfl,h4⟩:=hpre
 have hg:=gcd_pos (a:=vl m1) h4
 have og:okBig false (dig (Nat.gcd (vl m1) (vl m2))):=⟨canon_dig _,dig_same h2.1 (Nat.le_of_dvd h4 (Nat.gcd_dvd_right _ _)) h2.2.1,fun h=>(by cases h)⟩
 rw [vl_dig]
 exact ⟨⟨h1,h2⟩,⟨h1,og,hg,Nat.gcd_dvd_left _ _⟩,⟨h2,og,hg,Nat.gcd_dvd_right _ _⟩,fun h=>(by cases h),fun _=>⟨rfl,rfl,fun h=>(by cases h),rfl⟩⟩
def fa2Γ:List (FuncId×Con):=(60,conLow)::fa1Γ
theorem fa2Γ_ok:∀ p∈fa2Γ,(∀ (args:Array Value) (w:World),(callFunc p.1 args).run Tryz.prog w=.ok (.enter p.1 args) w)∧PureOk Tryz.prog p.1 p.2:=by
 simp only [fa2Γ,List.forall_mem_cons]
 exact ⟨⟨enters_of Tryz.func60 (by kernel_rfl) rfl,low_ok⟩,fa1Γ_ok⟩
def fa2E:List (FuncId×ECon):=fa1E
theorem fa2E_ok:∀ p∈fa2E,(∀ (args:Array Value) (w:World),(callFunc p.1 args).run Tryz.prog w=.ok (.enter p.1 args) w)∧EffOk Tryz.prog p.1 p.2:=by
 simp only [fa2E]
 exact fa1E_ok
def fa2P:List (FuncId×PCon):=fa1P
theorem fa2P_ok:∀ p∈fa2P,(∀ (args:Array Value) (w:World),(callFunc p.1 args).run Tryz.prog w=.ok (.enter p.1 args) w)∧PanOk Tryz.prog p.1 p.2:=by
 simp only [fa2P]
 exact fa1P_ok
def fa2:G:={ τ:=nrT,Γ:=fa2Γ,E:=fa2E,Pn:=fa2P }
theorem fa2_good:fa2.good Tryz.prog:=good_of_all (nrT_ok _ rfl) fa2Γ_ok fa2E_ok fa2P_ok
theorem fa2_all:(∀ t,fa2.td t=(look nrT t).getD .other)∧fa2.y=false∧fa2.Γ=fa2Γ∧fa2.E=fa2E∧fa2.Pn=fa2P∧fa2.fz=[]:=⟨fun _=>rfl,rfl,rfl,rfl,rfl,rfl⟩
def conOf:Con:=⟨fun args=>(match args with
 | [.agg [.bool n1,.sl (.int .i64) m1 _],.agg [.bool n2,.sl (.int .i64) m2 _]]=>okBig n1 m1∧okBig n2 m2∧n2=false∧0<vl m2
 | _=>False),fun args=>match args with
 | [.agg [.bool n1,.sl (.int .i64) m1 _],.agg [.bool n2,.sl (.int .i64) m2 _]]=>.tup [.agg [.bool (n1&&decide (lowN (vl m1) (vl m2)≠[])),.sl tI (lowN (vl m1) (vl m2)) false,.bool false,.sl tI (lowD (vl m1) (vl m2)) false],aI 0]
 | _=>.v (.s .any)⟩
theorem conOf_eq (n1:Bool) (m1:List (Ty.T tI)) (exm1:Bool) (n2:Bool) (m2:List (Ty.T tI)) (exm2:Bool):conOf.pre [.agg [.bool n1,.sl tI m1 exm1],.agg [.bool n2,.sl tI m2 exm2]]=(okBig n1 m1∧okBig n2 m2∧n2=false∧0<vl m2)∧conOf.val [.agg [.bool n1,.sl tI m1 exm1],.agg [.bool n2,.sl tI m2 exm2]]=.tup [.agg [.bool (n1&&decide (lowN (vl m1) (vl m2)≠[])),.sl tI (lowN (vl m1) (vl m2)) false,.bool false,.sl tI (lowD (vl m1) (vl m2)) false],aI 0]:=⟨rfl,rfl⟩
theorem of_ok:PureOk Tryz.prog 155 conOf:=by
 refine pureDefD (L:={ live:=[0,1,2,3,4,5] }) fa2_good rfl nr_mixed (dl_cons ⟨enters_of Tryz.func51 (by kernel_rfl) rfl,caught_ok ratioCaught⟩ dl_nil) Tryz.func155 rfl conOf 2 (by decide) (by kernel_rfl) ?_
 intro args hpre hlens
 simp only [conOf] at hpre
 split at hpre
 case h_2=>exact hpre.elim
 rename_i n1 m1 e1 n2 m2 e2
 simp only [allLen,AV.lenOk,SV.lenOk,Ty.lenOk,maxLen,and_true,implies_true,true_and,List.forall_mem_cons,List.not_mem_nil,false_implies] at hlens
 refine ⟨rfl,?_⟩
 simp -dsimp -implicitDefEqProofs [Tryz.f155,conOf_eq,fa2_all,nrT,fa2Γ,fa2E,fa2P,fa1Γ,fa1E,fa1P,nr20Γ,nr20E,nr20P,nr19Γ,nr19E,nr19P,nr18Γ,nr18E,nr18P,nr17Γ,nr17E,nr17P,nr16Γ,nr16E,nr16P,nr15Γ,nr15E,nr15P,nr14Γ,nr14E,nr14P,nr13Γ,nr13E,nr13P,nr9Γ,nr9E,nr9P,nr8Γ,nr8E,nr8P,nr7Γ,nr7E,nr7P,nr6Γ,nr6E,nr6P,nr5Γ,nr5E,nr5P,nr4Γ,nr4E,nr4P,nr3Γ,nr3E,nr3P,nr0Γ,nr0E,nr0P,conLow_eq,conDivX_eq,conMakeN_eq,conProd_eq,conDidB_eq,conDidI_eq,conValid_eq,panValid_when,panValid_what,conRatC_eq,conNeed_eq,panNeed_when,panNeed_what,conGcdN_eq,conMulN_eq,conCmpN2_eq,conPosi_eq,conChk_eq,conBigN_eq,conDiv_eq,conTimes_eq,conNCheck_eq,conLong_eq,conLead64_eq,conShort_eq,conMovE,conTrim_eq,conAt_eq,conNCmp_eq,conBack_eq,conOf9_eq,conDivide_eq,conLess9_eq,conTwo_eq,conRCheck_eq,conRCmpD_eq,inI64]
 obtain ⟨m1,rfl⟩:∃ y:List Int,y=m1:=⟨m1,rfl⟩; obtain ⟨m2,rfl⟩:∃ y:List Int,y=m2:=⟨m2,rfl⟩
 obtain ⟨h1,h2,rfl,h4⟩:=hpre
 exact ⟨⟨natErr_0.2 h1,natErr_0.2 h2⟩,(vl_pos h2.1).1 h4,h1,h2,rfl,h4⟩
def fa3Γ:List (FuncId×Con):=(155,conOf)::fa2Γ
theorem fa3Γ_ok:∀ p∈fa3Γ,(∀ (args:Array Value) (w:World),(callFunc p.1 args).run Tryz.prog w=.ok (.enter p.1 args) w)∧PureOk Tryz.prog p.1 p.2:=by
 simp only [fa3Γ,List.forall_mem_cons]
 exact ⟨⟨enters_of Tryz.func155 (by kernel_rfl) rfl,of_ok⟩,fa2Γ_ok⟩
def fa3E:List (FuncId×ECon):=fa2E
theorem fa3E_ok:∀ p∈fa3E,(∀ (args:Array Value) (w:World),(callFunc p.1 args).run Tryz.prog w=.ok (.enter p.1 args) w)∧EffOk Tryz.prog p.1 p.2:=by
 simp only [fa3E]
 exact fa2E_ok
def fa3P:List (FuncId×PCon):=fa2P
theorem fa3P_ok:∀ p∈fa3P,(∀ (args:Array Value) (w:World),(callFunc p.1 args).run Tryz.prog w=.ok (.enter p.1 args) w)∧PanOk Tryz.prog p.1 p.2:=by
 simp only [fa3P]
 exact fa2P_ok
def fa3:G:={ τ:=nrT,Γ:=fa3Γ,E:=fa3E,Pn:=fa3P }
theorem fa3_good:fa3.good Tryz.prog:=good_of_all (nrT_ok _ rfl) fa3Γ_ok fa3E_ok fa3P_ok
theorem fa3_all:(∀ t,fa3.td t=(look nrT t).getD .other)∧fa3.y=false∧fa3.Γ=fa3Γ∧fa3.E=fa3E∧fa3.Pn=fa3P∧fa3.fz=[]:=⟨fun _=>rfl,rfl,rfl,rfl,rfl,rfl⟩
def conMkR:Con:=⟨fun args=>(match args with
 | [.s (.int .i64 n),.s (.int .i64 d)]=>(0≤n∧n<9223372036854775808)∧0<d∧d<9223372036854775808
 | _=>False),fun args=>match args with
 | [.s (.int _ n),.s (.int _ d)]=>.tup [.agg [.bool false,.sl tI (lowN n.natAbs d.natAbs) false,.bool false,.sl tI (lowD n.natAbs d.natAbs) false],aI 0]
 | _=>.v (.s .any)⟩
theorem conMkR_eq (n:Int) (d:Int):conMkR.pre [.s (.int .i64 n),.s (.int .i64 d)]=((0≤n∧n<9223372036854775808)∧0<d∧d<9223372036854775808)∧conMkR.val [.s (.int .i64 n),.s (.int .i64 d)]=.tup [.agg [.bool false,.sl tI (lowN n.natAbs d.natAbs) false,.bool false,.sl tI (lowD n.natAbs d.natAbs) false],aI 0]:=⟨rfl,rfl⟩
theorem mkr_ok:PureOk Tryz.prog 112 conMkR:=by
 refine pureOkD (L:={ live:=[0,1,4,5] }) fa3_good rfl nr_mixed Tryz.func112 rfl conMkR 2 (by decide) (by kernel_rfl) ?_
 intro args hpre hlens
 simp only [conMkR] at hpre
 split at hpre
 case h_2=>exact hpre.elim
 rename_i n d
 simp only [allLen,AV.lenOk,SV.lenOk,Ty.lenOk,maxLen,and_true,implies_true,true_and,List.forall_mem_cons,List.not_mem_nil,false_implies] at hlens
 refine ⟨rfl,?_⟩
 simp -dsimp -implicitDefEqProofs [Tryz.f112,conMkR_eq,fa3_all,nrT,fa3Γ,fa3E,fa3P,fa2Γ,fa2E,fa2P,fa1Γ,fa1E,fa1P,nr20Γ,nr20E,nr20P,nr19Γ,nr19E,nr19P,nr18Γ,nr18E,nr18P,nr17Γ,nr17E,nr17P,nr16Γ,nr16E,nr16P,nr15Γ,nr15E,nr15P,nr14Γ,nr14E,nr14P,nr13Γ,nr13E,nr13P,nr9Γ,nr9E,nr9P,nr8Γ,nr8E,nr8P,nr7Γ,nr7E,nr7P,nr6Γ,nr6E,nr6P,nr5Γ,nr5E,nr5P,nr4Γ,nr4E,nr4P,nr3Γ,nr3E,nr3P,nr0Γ,nr0E,nr0P,conOf_eq,conLow_eq,conDivX_eq,conMakeN_eq,conProd_eq,conDidB_eq,conDidI_eq,conValid_eq,panValid_when,panValid_what,conRatC_eq,conNeed_eq,panNeed_when,panNeed_what,conGcdN_eq,conMulN_eq,conCmpN2_eq,conPosi_eq,conChk_eq,conBigN_eq,conDiv_eq,conTimes_eq,conNCheck_eq,conLong_eq,conLead64_eq,conShort_eq,conMovE,conTrim_eq,conAt_eq,conNCmp_eq,conBack_eq,conOf9_eq,conDivide_eq,conLess9_eq,conTwo_eq,conRCheck_eq,conRCmpD_eq,inI64]
 obtain ⟨⟨q1,q2⟩,q3,q4⟩:=hpre
 have od:∀ x:Int,0≤x→x<9223372036854775808→okBig false (dig x.natAbs):=fun x h0 h1=>⟨canon_dig _,dig_le (k:=3) (by simp only [Nat.reducePow]; omega) (by decide),fun h=>(by cases h)⟩
 simp only [vl_dig]
 exact ⟨⟨q1,q2⟩,⟨by omega,q4⟩,⟨od n q1 q2,od d (by omega) q4,by omega⟩,trivial,trivial⟩
def conMulR:Con:=⟨fun args=>(match args with
 | [.agg [.bool n1,.sl (.int .i64) m1 _,.bool n2,.sl (.int .i64) m2 _],.agg [.bool k1,.sl (.int .i64) l1 _,.bool k2,.sl (.int .i64) l2 _]]=>okRat n1 m1 n2 m2∧okRat k1 l1 k2 l2∧m1.length+l1.length≤2048∧m2.length+l2.length≤2048
 | _=>False),fun args=>match args with
 | [.agg [.bool n1,.sl (.int .i64) m1 _,.bool n2,.sl (.int .i64) m2 _],.agg [.bool k1,.sl (.int .i64) l1 _,.bool k2,.sl (.int .i64) l2 _]]=>.tup [.agg [.bool ((n1 != k1)&&decide (lowN (vl m1*vl l1) (vl m2*vl l2)≠[])),.sl tI (lowN (vl m1*vl l1) (vl m2*vl l2)) false,.bool false,.sl tI (lowD (vl m1*vl l1) (vl m2*vl l2)) false],aI 0]
 | _=>.v (.s .any)⟩
theorem conMulR_eq (n1:Bool) (m1:List (Ty.T tI)) (exm1:Bool) (n2:Bool) (m2:List (Ty.T tI)) (exm2:Bool) (k1:Bool) (l1:List (Ty.T tI)) (exl1:Bool) (k2:Bool) (l2:List (Ty.T tI)) (exl2:Bool):conMulR.pre [.agg [.bool n1,.sl tI m1 exm1,.bool n2,.sl tI m2 exm2],.agg [.bool k1,.sl tI l1 exl1,.bool k2,.sl tI l2 exl2]]=(okRat n1 m1 n2 m2∧okRat k1 l1 k2 l2∧m1.length+l1.length≤2048∧m2.length+l2.length≤2048)∧conMulR.val [.agg [.bool n1,.sl tI m1 exm1,.bool n2,.sl tI m2 exm2],.agg [.bool k1,.sl tI l1 exl1,.bool k2,.sl tI l2 exl2]]=.tup [.agg [.bool ((n1 != k1)&&decide (lowN (vl m1*vl l1) (vl m2*vl l2)≠[])),.sl tI (lowN (vl m1*vl l1) (vl m2*vl l2)) false,.bool false,.sl tI (lowD (vl m1*vl l1) (vl m2*vl l2)) false],aI 0]:=⟨rfl,rfl⟩
theorem mulr_ok:PureOk Tryz.prog 22 conMulR:=by
 refine pureDefD (L:={ live:=[0,1,2,3,4,5,6],fl:=[(4,[(1,0),(2,0),(4,0),(5,0),(6,0),(7,0)])] }) fa2_good rfl nr_mixed (dl_cons ⟨enters_of Tryz.func51 (by kernel_rfl) rfl,caught_ok ratioCaught⟩ dl_nil) Tryz.func22 rfl conMulR 2 (by decide) (by kernel_rfl) ?_
 intro args hpre hlens
 simp only [conMulR] at hpre
 split at hpre
 case h_2=>exact hpre.elim
 rename_i n1 m1 e1 n2 m2 e2 k1 l1 f1 k2 l2 f2
 simp only [allLen,AV.lenOk,SV.lenOk,Ty.lenOk,maxLen,and_true,implies_true,true_and,List.forall_mem_cons,List.not_mem_nil,false_implies] at hlens
 refine ⟨rfl,?_⟩
 simp -dsimp -implicitDefEqProofs [Tryz.f22,conMulR_eq,fa2_all,nrT,fa2Γ,fa2E,fa2P,fa1Γ,fa1E,fa1P,nr20Γ,nr20E,nr20P,nr19Γ,nr19E,nr19P,nr18Γ,nr18E,nr18P,nr17Γ,nr17E,nr17P,nr16Γ,nr16E,nr16P,nr15Γ,nr15E,nr15P,nr14Γ,nr14E,nr14P,nr13Γ,nr13E,nr13P,nr9Γ,nr9E,nr9P,nr8Γ,nr8E,nr8P,nr7Γ,nr7E,nr7P,nr6Γ,nr6E,nr6P,nr5Γ,nr5E,nr5P,nr4Γ,nr4E,nr4P,nr3Γ,nr3E,nr3P,nr0Γ,nr0E,nr0P,conLow_eq,conDivX_eq,conMakeN_eq,conProd_eq,conDidB_eq,conDidI_eq,conValid_eq,panValid_when,panValid_what,conRatC_eq,conNeed_eq,panNeed_when,panNeed_what,conGcdN_eq,conMulN_eq,conCmpN2_eq,conPosi_eq,conChk_eq,conBigN_eq,conDiv_eq,conTimes_eq,conNCheck_eq,conLong_eq,conLead64_eq,conShort_eq,conMovE,conTrim_eq,conAt_eq,conNCmp_eq,conBack_eq,conOf9_eq,conDivide_eq,conLess9_eq,conTwo_eq,conRCheck_eq,conRCmpD_eq,inI64]
 obtain ⟨m1,rfl⟩:∃ y:List Int,y=m1:=⟨m1,rfl⟩; obtain ⟨m2,rfl⟩:∃ y:List Int,y=m2:=⟨m2,rfl⟩; obtain ⟨l1,rfl⟩:∃ y:List Int,y=l1:=⟨l1,rfl⟩; obtain ⟨l2,rfl⟩:∃ y:List Int,y=l2:=⟨l2,rfl⟩
 obtain ⟨h1,h2,h3,h4⟩:=hpre
 rw [prodL_four]
 have o1:mulOk (n1,m1,()) (k1,l1,()):=⟨h1.1,h2.1,h3⟩
 have o2:mulOk (n2,m2,()) (k2,l2,()):=⟨h1.2.1,h2.2.1,h4⟩
 have b1:=okB_mulB o1
 have b2:=okB_mulB o2
 have p1:0<vl m2:=(vl_pos h1.2.1.1).2 (List.length_pos_iff.2 h1.2.2.2.1)
 have p2:0<vl l2:=(vl_pos h2.2.1.1).2 (List.length_pos_iff.2 h2.2.2.2.1)
 have hk:∀ k:Nat,k<2→mulOk ([(n1,m1,()),(k1,l1,()),(n2,m2,()),(k2,l2,())][2*k]?.getD zB) ([(k1,l1,()),(n2,m2,()),(k2,l2,())][2*k]?.getD zB):=fun k hk=>by
  rcases k with _ | _ | k
  ·
   exact o1
  ·
   exact o2
  ·
   omega
 obtain rfl:=h1.2.2.1
 obtain rfl:=h2.2.2.1
 have hs:(((n1 != k1)&&decide (dig (vl m1*vl l1)≠[])) && !decide (lowN (vl m1*vl l1) (vl m2*vl l2)=[]))=(n1 != k1 && !decide (lowN (vl m1*vl l1) (vl m2*vl l2)=[])):=by
  by_cases hz:dig (vl m1*vl l1)=[]
  ·
   have h0:=dig_nil.1 hz
   have e:lowN (vl m1*vl l1) (vl m2*vl l2)=[]:=by unfold lowN; rw [h0,Nat.zero_div,dig_zero]
   rw [decide_eq_true e]; simp
  ·
   rw [decide_eq_true hz,Bool.and_true]
 refine ⟨⟨h1,h2⟩,hk,⟨Nat.succ_pos _,by show (1:Int)<2; decide,⟨b1,b2,rfl,?_⟩,?_,?_,?_⟩,Nat.succ_pos _,by show (1:Int)<2; decide⟩
 ·
  show 0<vl (dig (vl m2*vl l2))
  rw [vl_dig]; exact Nat.mul_pos p1 p2
 ·
  show (((n1 != k1)&&decide (dig (vl m1*vl l1)≠[])) && !decide (lowN (vl (dig (vl m1*vl l1))) (vl (dig (vl m2*vl l2)))=[]))=_
  rw [vl_dig,vl_dig]; exact hs
 ·
  show lowN (vl (dig (vl m1*vl l1))) (vl (dig (vl m2*vl l2)))=_
  rw [vl_dig,vl_dig]
 ·
  show lowD (vl (dig (vl m1*vl l1))) (vl (dig (vl m2*vl l2)))=_
  rw [vl_dig,vl_dig]
def fa4Γ:List (FuncId×Con):=(154,conDivX)::nr23Γ
theorem fa4Γ_ok:∀ p∈fa4Γ,(∀ (args:Array Value) (w:World),(callFunc p.1 args).run Tryz.prog w=.ok (.enter p.1 args) w)∧PureOk Tryz.prog p.1 p.2:=by
 simp only [fa4Γ,List.forall_mem_cons]
 exact ⟨⟨enters_of Tryz.func154 (by kernel_rfl) rfl,div9_ok⟩,nr23Γ_ok⟩
def fa4E:List (FuncId×ECon):=nr23E
theorem fa4E_ok:∀ p∈fa4E,(∀ (args:Array Value) (w:World),(callFunc p.1 args).run Tryz.prog w=.ok (.enter p.1 args) w)∧EffOk Tryz.prog p.1 p.2:=by
 simp only [fa4E]
 exact nr23E_ok
def fa4P:List (FuncId×PCon):=nr23P
theorem fa4P_ok:∀ p∈fa4P,(∀ (args:Array Value) (w:World),(callFunc p.1 args).run Tryz.prog w=.ok (.enter p.1 args) w)∧PanOk Tryz.prog p.1 p.2:=by
 simp only [fa4P]
 exact nr23P_ok
def fa4:G:={ τ:=nrT,Γ:=fa4Γ,E:=fa4E,Pn:=fa4P }
theorem fa4_good:fa4.good Tryz.prog:=good_of_all (nrT_ok _ rfl) fa4Γ_ok fa4E_ok fa4P_ok
theorem fa4_all:(∀ t,fa4.td t=(look nrT t).getD .other)∧fa4.y=false∧fa4.Γ=fa4Γ∧fa4.E=fa4E∧fa4.Pn=fa4P∧fa4.fz=[]:=⟨fun _=>rfl,rfl,rfl,rfl,rfl,rfl⟩
theorem rof_ok:PureOk Tryz.prog 107 conOf:=by
 refine pureOkD (L:={ live:=[0,1,2,3,4,5,6,8,11,21,24,47] }) fa4_good rfl nr_mixed Tryz.func107 rfl conOf 2 (by decide) (by kernel_rfl) ?_
 intro args hpre hlens
 simp only [conOf] at hpre
 split at hpre
 case h_2=>exact hpre.elim
 rename_i n1 m1 e1 n2 m2 e2
 simp only [allLen,AV.lenOk,SV.lenOk,Ty.lenOk,maxLen,and_true,implies_true,true_and,List.forall_mem_cons,List.not_mem_nil,false_implies] at hlens
 refine ⟨rfl,?_⟩
 simp -dsimp -implicitDefEqProofs [Tryz.f107,conOf_eq,fa4_all,nrT,fa4Γ,fa4E,fa4P,nr23Γ,nr23E,nr23P,nr22Γ,nr22E,nr22P,nr21Γ,nr21E,nr21P,nr7Γ,nr7E,nr7P,nr6Γ,nr6E,nr6P,nr5Γ,nr5E,nr5P,nr4Γ,nr4E,nr4P,nr3Γ,nr3E,nr3P,nr0Γ,nr0E,nr0P,conDivX_eq,conRVal_eq,conCross_eq,conRatC_eq,conRInt_eq,conGcd9_eq,conCmp9_eq,conMul9_eq,conMake9_eq,conZero_eq,conOf9_eq,conDivide_eq,conTimes_eq,conLess9_eq,conTwo_eq,conTrim_eq,conAt_eq,conRCheck_eq,conRCmpD_eq,inI64]
 obtain ⟨m1,rfl⟩:∃ y:List Int,y=m1:=⟨m1,rfl⟩; obtain ⟨m2,rfl⟩:∃ y:List Int,y=m2:=⟨m2,rfl⟩
 obtain ⟨h1,h2,rfl,h4⟩:=hpre
 have hg:=gcd_pos (a:=vl m1) h4
 have hne:¬ m2=[]:=fun e=>by rw [e] at h4; exact absurd h4 (by decide)
 have og:okBig false (dig (Nat.gcd (vl m1) (vl m2))):=⟨canon_dig _,dig_same h2.1 (Nat.le_of_dvd h4 (Nat.gcd_dvd_right _ _)) h2.2.1,fun h=>(by cases h)⟩
 have hd:gcdD n1 m1 false m2=dig (Nat.gcd (vl m1) (vl m2)):=by unfold gcdD; rw [if_pos (twoErr_0.2 ⟨h1,h2⟩)]
 rw [hd,vl_dig]
 exact ⟨⟨natErr_0.2 h1,natErr_0.2 h2⟩,fun _ _=>⟨hne,fun _=>⟨⟨h1,og,hg,Nat.gcd_dvd_left _ _⟩,⟨h2,og,hg,Nat.gcd_dvd_right _ _⟩,fun h=>(by cases h),fun _=>⟨rfl,rfl,fun h=>(by cases h),rfl⟩⟩⟩⟩
def fa5Γ:List (FuncId×Con):=(107,conOf)::fa4Γ
theorem fa5Γ_ok:∀ p∈fa5Γ,(∀ (args:Array Value) (w:World),(callFunc p.1 args).run Tryz.prog w=.ok (.enter p.1 args) w)∧PureOk Tryz.prog p.1 p.2:=by
 simp only [fa5Γ,List.forall_mem_cons]
 exact ⟨⟨enters_of Tryz.func107 (by kernel_rfl) rfl,rof_ok⟩,fa4Γ_ok⟩
def fa5E:List (FuncId×ECon):=fa4E
theorem fa5E_ok:∀ p∈fa5E,(∀ (args:Array Value) (w:World),(callFunc p.1 args).run Tryz.prog w=.ok (.enter p.1 args) w)∧EffOk Tryz.prog p.1 p.2:=by
 simp only [fa5E]
 exact fa4E_ok
def fa5P:List (FuncId×PCon):=fa4P
theorem fa5P_ok:∀ p∈fa5P,(∀ (args:Array Value) (w:World),(callFunc p.1 args).run Tryz.prog w=.ok (.enter p.1 args) w)∧PanOk Tryz.prog p.1 p.2:=by
 simp only [fa5P]
 exact fa4P_ok
def fa5:G:={ τ:=nrT,Γ:=fa5Γ,E:=fa5E,Pn:=fa5P }
theorem fa5_good:fa5.good Tryz.prog:=good_of_all (nrT_ok _ rfl) fa5Γ_ok fa5E_ok fa5P_ok
theorem fa5_all:(∀ t,fa5.td t=(look nrT t).getD .other)∧fa5.y=false∧fa5.Γ=fa5Γ∧fa5.E=fa5E∧fa5.Pn=fa5P∧fa5.fz=[]:=⟨fun _=>rfl,rfl,rfl,rfl,rfl,rfl⟩
theorem rmk_ok:PureOk Tryz.prog 61 conMkR:=by
 refine pureOkD (L:={ live:=[0,1,4,5] }) fa5_good rfl nr_mixed Tryz.func61 rfl conMkR 2 (by decide) (by kernel_rfl) ?_
 intro args hpre hlens
 simp only [conMkR] at hpre
 split at hpre
 case h_2=>exact hpre.elim
 rename_i n d
 simp only [allLen,AV.lenOk,SV.lenOk,Ty.lenOk,maxLen,and_true,implies_true,true_and,List.forall_mem_cons,List.not_mem_nil,false_implies] at hlens
 refine ⟨rfl,?_⟩
 simp -dsimp -implicitDefEqProofs [Tryz.f61,conMkR_eq,fa5_all,nrT,fa5Γ,fa5E,fa5P,fa4Γ,fa4E,fa4P,nr23Γ,nr23E,nr23P,nr22Γ,nr22E,nr22P,nr21Γ,nr21E,nr21P,nr7Γ,nr7E,nr7P,nr6Γ,nr6E,nr6P,nr5Γ,nr5E,nr5P,nr4Γ,nr4E,nr4P,nr3Γ,nr3E,nr3P,nr0Γ,nr0E,nr0P,conOf_eq,conDivX_eq,conRVal_eq,conCross_eq,conRatC_eq,conRInt_eq,conGcd9_eq,conCmp9_eq,conMul9_eq,conMake9_eq,conZero_eq,conOf9_eq,conDivide_eq,conTimes_eq,conLess9_eq,conTwo_eq,conTrim_eq,conAt_eq,conRCheck_eq,conRCmpD_eq,inI64]
 obtain ⟨⟨q1,q2⟩,q3,q4⟩:=hpre
 have od:∀ x:Int,0≤x→x<9223372036854775808→okBig (decide (x<0)) (dig x.natAbs):=fun x h0 h1=>⟨canon_dig _,dig_le (k:=3) (by simp only [Nat.reducePow]; omega) (by decide),fun h=>absurd (of_decide_eq_true h) (by omega)⟩
 simp only [vl_dig]
 exact ⟨⟨by omega,by omega⟩,⟨by omega,by omega⟩,⟨od n q1 q2,od d (by omega) q4,by omega,by omega⟩,fun h=>absurd h (by omega),trivial,trivial⟩
def conOver:Con:=⟨fun args=>(match args with
 | [.agg [.bool n1,.sl (.int .i64) m1 _],.s (.int .i64 e),.agg [.bool n2,.sl (.int .i64) m2 _],.agg [.bool n3,.sl (.int .i64) m3 _]]=>okBig n1 m1∧e=0∧mulOk (n2,m2,()) (n3,m3,())∧(n2=false∧n3=false)∧0<vl m2∧0<vl m3
 | _=>False),fun args=>match args with
 | [.agg [.bool n1,.sl (.int .i64) m1 _],.s (.int _ e),.agg [.bool n2,.sl (.int .i64) m2 _],.agg [.bool n3,.sl (.int .i64) m3 _]]=>.tup [.agg [.bool (n1&&decide (lowN (vl m1) (vl m2*vl m3)≠[])),.sl tI (lowN (vl m1) (vl m2*vl m3)) false,.bool false,.sl tI (lowD (vl m1) (vl m2*vl m3)) false],aI 0]
 | _=>.v (.s .any)⟩
theorem conOver_eq (n1:Bool) (m1:List (Ty.T tI)) (exm1:Bool) (e:Int) (n2:Bool) (m2:List (Ty.T tI)) (exm2:Bool) (n3:Bool) (m3:List (Ty.T tI)) (exm3:Bool):conOver.pre [.agg [.bool n1,.sl tI m1 exm1],.s (.int .i64 e),.agg [.bool n2,.sl tI m2 exm2],.agg [.bool n3,.sl tI m3 exm3]]=(okBig n1 m1∧e=0∧mulOk (n2,m2,()) (n3,m3,())∧(n2=false∧n3=false)∧0<vl m2∧0<vl m3)∧conOver.val [.agg [.bool n1,.sl tI m1 exm1],.s (.int .i64 e),.agg [.bool n2,.sl tI m2 exm2],.agg [.bool n3,.sl tI m3 exm3]]=.tup [.agg [.bool (n1&&decide (lowN (vl m1) (vl m2*vl m3)≠[])),.sl tI (lowN (vl m1) (vl m2*vl m3)) false,.bool false,.sl tI (lowD (vl m1) (vl m2*vl m3)) false],aI 0]:=⟨rfl,rfl⟩
theorem over_ok:PureOk Tryz.prog 120 conOver:=by
 refine pureOkD (L:={ live:=[0,1,2,3,4,6,7,8,9,10,11,23] }) fa5_good rfl nr_mixed Tryz.func120 rfl conOver 4 (by decide) (by kernel_rfl) ?_
 intro args hpre hlens
 simp only [conOver] at hpre
 split at hpre
 case h_2=>exact hpre.elim
 rename_i n1 m1 e1 e n2 m2 e2 n3 m3 e3
 simp only [allLen,AV.lenOk,SV.lenOk,Ty.lenOk,maxLen,and_true,implies_true,true_and,List.forall_mem_cons,List.not_mem_nil,false_implies] at hlens
 refine ⟨rfl,?_⟩
 simp -dsimp -implicitDefEqProofs [Tryz.f120,conOver_eq,fa5_all,nrT,fa5Γ,fa5E,fa5P,fa4Γ,fa4E,fa4P,nr23Γ,nr23E,nr23P,nr22Γ,nr22E,nr22P,nr21Γ,nr21E,nr21P,nr7Γ,nr7E,nr7P,nr6Γ,nr6E,nr6P,nr5Γ,nr5E,nr5P,nr4Γ,nr4E,nr4P,nr3Γ,nr3E,nr3P,nr0Γ,nr0E,nr0P,conOf_eq,conDivX_eq,conRVal_eq,conCross_eq,conRatC_eq,conRInt_eq,conGcd9_eq,conCmp9_eq,conMul9_eq,conMake9_eq,conZero_eq,conOf9_eq,conDivide_eq,conTimes_eq,conLess9_eq,conTwo_eq,conTrim_eq,conAt_eq,conRCheck_eq,conRCmpD_eq,inI64]
 obtain ⟨m1,rfl⟩:∃ y:List Int,y=m1:=⟨m1,rfl⟩; obtain ⟨m2,rfl⟩:∃ y:List Int,y=m2:=⟨m2,rfl⟩; obtain ⟨m3,rfl⟩:∃ y:List Int,y=m3:=⟨m3,rfl⟩
 obtain ⟨h1,rfl,h2,⟨rfl,rfl⟩,h3,h4⟩:=hpre
 obtain ⟨a1,a2⟩:=mul9_of h2
 simp only at a1 a2
 have b:=okB_mulB h2
 have hp:0<vl (dig (vl m2*vl m3)):=by rw [vl_dig]; exact Nat.mul_pos h3 h4
 have ob:okBig false (dig (vl m2*vl m3)):=⟨canon_dig _,b.2.1,fun h=>(by cases h)⟩
 rw [a2]
 refine ⟨⟨rfl,a1⟩,fun _ _=>⟨⟨h1,by simpa using ob,fun h=>absurd rfl h,hp⟩,?_⟩⟩
 rw [vl_dig]
 exact ⟨rfl,rfl,rfl⟩
def fa6Γ:List (FuncId×Con):=(120,conOver)::fa5Γ
theorem fa6Γ_ok:∀ p∈fa6Γ,(∀ (args:Array Value) (w:World),(callFunc p.1 args).run Tryz.prog w=.ok (.enter p.1 args) w)∧PureOk Tryz.prog p.1 p.2:=by
 simp only [fa6Γ,List.forall_mem_cons]
 exact ⟨⟨enters_of Tryz.func120 (by kernel_rfl) rfl,over_ok⟩,fa5Γ_ok⟩
def fa6E:List (FuncId×ECon):=fa5E
theorem fa6E_ok:∀ p∈fa6E,(∀ (args:Array Value) (w:World),(callFunc p.1 args).run Tryz.prog w=.ok (.enter p.1 args) w)∧EffOk Tryz.prog p.1 p.2:=by
 simp only [fa6E]
 exact fa5E_ok
def fa6P:List (FuncId×PCon):=fa5P
theorem fa6P_ok:∀ p∈fa6P,(∀ (args:Array Value) (w:World),(callFunc p.1 args).run Tryz.prog w=.ok (.enter p.1 args) w)∧PanOk Tryz.prog p.1 p.2:=by
 simp only [fa6P]
 exact fa5P_ok
def fa6:G:={ τ:=nrT,Γ:=fa6Γ,E:=fa6E,Pn:=fa6P }
theorem fa6_good:fa6.good Tryz.prog:=good_of_all (nrT_ok _ rfl) fa6Γ_ok fa6E_ok fa6P_ok
theorem fa6_all:(∀ t,fa6.td t=(look nrT t).getD .other)∧fa6.y=false∧fa6.Γ=fa6Γ∧fa6.E=fa6E∧fa6.Pn=fa6P∧fa6.fz=[]:=⟨fun _=>rfl,rfl,rfl,rfl,rfl,rfl⟩
theorem rmulr_ok:PureOk Tryz.prog 75 conMulR:=by
 refine pureOkD (L:={ live:=[0,1,2,3,4,5,6,7,11] }) fa6_good rfl nr_mixed Tryz.func75 rfl conMulR 2 (by decide) (by kernel_rfl) ?_
 intro args hpre hlens
 simp only [conMulR] at hpre
 split at hpre
 case h_2=>exact hpre.elim
 rename_i n1 m1 e1 n2 m2 e2 k1 l1 f1 k2 l2 f2
 simp only [allLen,AV.lenOk,SV.lenOk,Ty.lenOk,maxLen,and_true,implies_true,true_and,List.forall_mem_cons,List.not_mem_nil,false_implies] at hlens
 refine ⟨rfl,?_⟩
 simp -dsimp -implicitDefEqProofs [Tryz.f75,conMulR_eq,fa6_all,nrT,fa6Γ,fa6E,fa6P,fa5Γ,fa5E,fa5P,fa4Γ,fa4E,fa4P,nr23Γ,nr23E,nr23P,nr22Γ,nr22E,nr22P,nr21Γ,nr21E,nr21P,nr7Γ,nr7E,nr7P,nr6Γ,nr6E,nr6P,nr5Γ,nr5E,nr5P,nr4Γ,nr4E,nr4P,nr3Γ,nr3E,nr3P,nr0Γ,nr0E,nr0P,conOver_eq,conOf_eq,conDivX_eq,conRVal_eq,conCross_eq,conRatC_eq,conRInt_eq,conGcd9_eq,conCmp9_eq,conMul9_eq,conMake9_eq,conZero_eq,conOf9_eq,conDivide_eq,conTimes_eq,conLess9_eq,conTwo_eq,conTrim_eq,conAt_eq,conRCheck_eq,conRCmpD_eq,inI64]
 obtain ⟨m1,rfl⟩:∃ y:List Int,y=m1:=⟨m1,rfl⟩; obtain ⟨m2,rfl⟩:∃ y:List Int,y=m2:=⟨m2,rfl⟩; obtain ⟨l1,rfl⟩:∃ y:List Int,y=l1:=⟨l1,rfl⟩; obtain ⟨l2,rfl⟩:∃ y:List Int,y=l2:=⟨l2,rfl⟩
 obtain ⟨h1,h2,h3,h4⟩:=hpre
 have o1:mulOk (n1,m1,()) (k1,l1,()):=⟨h1.1,h2.1,h3⟩
 have o2:mulOk (n2,m2,()) (k2,l2,()):=⟨h1.2.1,h2.2.1,h4⟩
 have b1:=okB_mulB o1
 obtain ⟨a1,a2⟩:=mul9_of o1
 simp only at a1 a2
 have p1:0<vl m2:=(vl_pos h1.2.1.1).2 (List.length_pos_iff.2 h1.2.2.2.1)
 have p2:0<vl l2:=(vl_pos h2.2.1.1).2 (List.length_pos_iff.2 h2.2.2.2.1)
 have hs:((n1 != k1 && !decide (dig (vl m1*vl l1)=[])) && !decide (lowN (vl m1*vl l1) (vl m2*vl l2)=[]))=(n1 != k1 && !decide (lowN (vl m1*vl l1) (vl m2*vl l2)=[])):=by
  by_cases hz:dig (vl m1*vl l1)=[]
  ·
   have h0:=dig_nil.1 hz
   have e:lowN (vl m1*vl l1) (vl m2*vl l2)=[]:=by unfold lowN; rw [h0,Nat.zero_div,dig_zero]
   rw [decide_eq_true e]; simp
  ·
   rw [decide_eq_false hz]; simp
 have ob:okBig (n1 != k1 && !decide (dig (vl m1*vl l1)=[])) (dig (vl m1*vl l1)):=⟨canon_dig _,b1.2.1,fun h=>by simp at h; exact h.2⟩
 rw [a2,vl_dig]
 exact ⟨⟨h1,h2⟩,fun _ _=>⟨⟨ob,a1,o2,⟨h1.2.2.1,h2.2.2.1⟩,p1,p2⟩,hs,rfl,rfl⟩⟩
end Go.Am
namespace Go.Am
set_option maxHeartbeats 4000000
structure Ordr {α:Type} (D:α→Prop) (c:α→α→Int):Prop where
 anti:∀ x y,D x→D y→c y x = - c x y
 trans:∀ x y z,D x→D y→D z→c x y≤0→c y z≤0→c x z≤0
theorem Ordr.self {α:Type} {D:α→Prop} {c:α→α→Int} (h:Ordr D c) {x:α} (hx:D x):c x x=0:=by
 have:=h.anti x x hx hx; omega
theorem Ordr.strict {α:Type} {D:α→Prop} {c:α→α→Int} (h:Ordr D c) {x y z:α} (hx:D x) (hy:D y) (hz:D z) (h1:c x y≤0) (h2:c y z≤0) (h3:c x y<0∨c y z<0):c x z<0:=by
 have a1:=h.anti x y hx hy
 have a2:=h.anti y z hy hz
 have a3:=h.anti x z hx hz
 have t1:=h.trans x y z hx hy hz h1 h2
 rcases Int.lt_or_eq_of_le t1 with t | t
 ·
  exact t
 ·
  exfalso
  rcases h3 with h3 | h3
  ·
   have:=h.trans y z x hy hz hx h2 (by omega)
   omega
  ·
   have:=h.trans z x y hz hx hy (by omega) h1
   omega
theorem Ordr.eqv {α:Type} {D:α→Prop} {c:α→α→Int} (h:Ordr D c) {x y z:α} (hx:D x) (hy:D y) (hz:D z) (h1:c x y=0) (h2:c y z=0):c x z=0:=by
 have a1:=h.anti x y hx hy
 have a2:=h.anti y z hy hz
 have a3:=h.anti x z hx hz
 have t1:=h.trans x y z hx hy hz (by omega) (by omega)
 have t2:=h.trans z y x hz hy hx (by omega) (by omega)
 omega
theorem Ordr.zero {α:Type} (D:α→Prop):Ordr D (fun _ _=>0):=⟨fun _ _ _ _=>rfl,fun _ _ _ _ _ _ _ _=>Int.le_refl _⟩
theorem Ordr.lex {α:Type} {D:α→Prop} {c d:α→α→Int} (hc:Ordr D c) (hd:Ordr D d):Ordr D (fun x y=>if c x y=0 then d x y else c x y):=by
 refine ⟨fun x y hx hy => ?_,fun x y z hx hy hz h1 h2 => ?_⟩
 ·
  have a1:=hc.anti x y hx hy
  have a2:=hd.anti x y hx hy
  split <;> split <;> omega
 ·
  have s1:=@Ordr.strict _ _ _ hc x y z hx hy hz
  have e1:=@Ordr.eqv _ _ _ hc x y z hx hy hz
  by_cases q1:c x y=0
  ·
   by_cases q2:c y z=0
   ·
    rw [if_pos q1] at h1
    rw [if_pos q2] at h2
    rw [if_pos (e1 q1 q2)]
    exact hd.trans x y z hx hy hz h1 h2
   ·
    rw [if_neg q2] at h2
    have:=s1 (by omega) h2 (.inr (by omega))
    rw [if_neg (by omega)]
    omega
  ·
   rw [if_neg q1] at h1
   by_cases q2:c y z=0
   ·
    have:=s1 h1 (by omega) (.inl (by omega))
    rw [if_neg (by omega)]
    omega
   ·
    rw [if_neg q2] at h2
    have:=s1 h1 h2 (.inl (by omega))
    rw [if_neg (by omega)]
    omega
theorem Ordr.pull {α β:Type} {D:α→Prop} {c:α→α→Int} (h:Ordr D c) (f:β→α) {E:β→Prop} (hf:∀ x,E x→D (f x)):Ordr E (fun x y=>c (f x) (f y)) :=
 ⟨fun x y hx hy=>h.anti _ _ (hf x hx) (hf y hy),fun x y z hx hy hz=>h.trans _ _ _ (hf x hx) (hf y hy) (hf z hz)⟩
theorem Ordr.congr {α:Type} {D:α→Prop} {c d:α→α→Int} (h:Ordr D c) (he:∀ x y,D x→D y→d x y=c x y):Ordr D d :=
 ⟨fun x y hx hy=>by rw [he _ _ hy hx,he _ _ hx hy]; exact h.anti x y hx hy,fun x y z hx hy hz h1 h2=>by rw [he _ _ hx hz]; rw [he _ _ hx hy] at h1; rw [he _ _ hy hz] at h2; exact h.trans x y z hx hy hz h1 h2⟩
theorem cmpZ_le {a b:Int}:cmpZ a b≤0↔a≤b:=by
 unfold cmpZ
 split
 ·
  constructor <;> intro <;> omega
 ·
  split
  ·
   constructor <;> intro <;> omega
  ·
   constructor <;> intro <;> omega
theorem cmpZ_anti (a b:Int):cmpZ b a = - cmpZ a b:=by
 rcases Int.lt_trichotomy a b with h | h | h
 ·
  rw [cmpZ_lt h,cmpZ_gt h]; rfl
 ·
  subst h; rw [cmpZ_zero.2 rfl]; rfl
 ·
  rw [cmpZ_gt h,cmpZ_lt h]
theorem ordr_int {α:Type} (D:α→Prop) (f:α→Int):Ordr D (fun x y=>cmpZ (f x) (f y)) :=
 ⟨fun x y _ _=>cmpZ_anti _ _,fun x y z _ _ _ h1 h2=>cmpZ_le.2 (Int.le_trans (cmpZ_le.1 h1) (cmpZ_le.1 h2))⟩
theorem cross_le {p1 q1 p2 q2 p3 q3:Int} (h1:0<q1) (h2:0<q2) (h3:0<q3) (a:p1*q2≤p2*q1) (b:p2*q3≤p3*q2):p1*q3≤p3*q1:=by
 have e1:p1*q2*q3≤p2*q1*q3:=Int.mul_le_mul_of_nonneg_right a (by omega)
 have e2:p2*q3*q1≤p3*q2*q1:=Int.mul_le_mul_of_nonneg_right b (by omega)
 have e3:(p1*q3)*q2≤(p3*q1)*q2:=by
  have f1:p1*q3*q2=p1*q2*q3:=by rw [Int.mul_assoc,Int.mul_comm q3,← Int.mul_assoc]
  have f2:p2*q1*q3=p2*q3*q1:=by rw [Int.mul_assoc,Int.mul_comm q1,← Int.mul_assoc]
  have f3:p3*q1*q2=p3*q2*q1:=by rw [Int.mul_assoc,Int.mul_comm q1,← Int.mul_assoc]
  omega
 exact Int.le_of_mul_le_mul_right e3 h2
theorem okR_den {x:tRat.T} (h:okR x):(0:Int)<(vl x.2.1.2.1:Int):=by
 have:0<vl x.2.1.2.1:=(vl_pos h.2.1.1).2 (List.length_pos_iff.2 h.2.2.2.1)
 omega
theorem ordr_rat:Ordr okR cmpR :=
 ⟨fun x y _ _=>cmpZ_anti _ _,fun x y z hx hy hz h1 h2=>cmpZ_le.2 (cross_le (okR_den hx) (okR_den hy) (okR_den hz) (cmpZ_le.1 h1) (cmpZ_le.1 h2))⟩
theorem Ordr.mono {α:Type} {D E:α→Prop} {c:α→α→Int} (h:Ordr D c) (he:∀ x,E x→D x):Ordr E c :=
 ⟨fun x y hx hy=>h.anti x y (he x hx) (he y hy),fun x y z hx hy hz=>h.trans x y z (he x hx) (he y hy) (he z hz)⟩
theorem insert_sorted {α:Type} {D:α→Prop} {c:α→α→Int} (ho:Ordr D c) {x:α} (hx:D x):∀ ys:List α,(∀ y∈ys,D y)→ys.Pairwise (fun a b=>c a b≤0)→∃ zs:List α,zs.Perm (x::ys)∧zs.Pairwise (fun a b=>c a b≤0)
 | [],_,_=>⟨[x],List.Perm.refl _,by simp⟩
 | y::ys,hd,hp=>by
  obtain ⟨h1,h2⟩:=List.pairwise_cons.1 hp
  have hy:D y:=hd y (by simp)
  by_cases h:c x y≤0
  ·
   refine ⟨x::y::ys,List.Perm.refl _,List.pairwise_cons.2 ⟨fun z hz => ?_,hp⟩⟩
   rcases List.mem_cons.1 hz with rfl | hz
   ·
    exact h
   ·
    exact ho.trans _ _ _ hx hy (hd z (by simp [hz])) h (h1 z hz)
  ·
   obtain ⟨zs,q1,q2⟩:=insert_sorted ho hx ys (fun z hz=>hd z (by simp [hz])) h2
   refine ⟨y::zs,(List.Perm.cons y q1).trans (List.Perm.swap _ _ _),List.pairwise_cons.2 ⟨fun z hz => ?_,q2⟩⟩
   rcases List.mem_cons.1 (q1.mem_iff.1 hz) with rfl | hz
   ·
    have:=ho.anti _ _ hx hy
    omega
   ·
    exact h1 z hz
theorem exists_sorted {α:Type} {D:α→Prop} {c:α→α→Int} (ho:Ordr D c):∀ l:List α,(∀ x∈l,D x)→∃ ys:List α,ys.Perm l∧ys.Pairwise (fun a b=>c a b≤0)
 | [],_=>⟨[],List.Perm.refl _,by simp⟩
 | x::l,hd=>by
  obtain ⟨ys,h1,h2⟩:=exists_sorted ho l (fun z hz=>hd z (by simp [hz]))
  obtain ⟨zs,q1,q2⟩:=insert_sorted ho (hd x (by simp)) ys (fun z hz=>hd z (List.mem_cons_of_mem _ (h1.mem_iff.1 hz))) h2
  exact ⟨zs,q1.trans (List.Perm.cons x h1),q2⟩
end Go.Am
