/- Part 8 of the proof's base. -/
import Derived.Test.YtgnoaabcdccpoaaGreatDoorK7
set_option linter.all false
noncomputable section
namespace Go.Am
set_option maxHeartbeats 8000000
set_option maxRecDepth 20000
open Go.RowKit Go.Proofs Go.Proofs.Tryz
attribute [local simp ←] flats_append
attribute [local simp] thenKD_normal thenKD_exit thenKD_goto thenKD_ret inBlockKD_normal inBlockKD_exit inBlockKD_goto inBlockKD_ret noGotoKD_normal noGotoKD_exit noGotoKD_goto noGotoKD_ret roundKD_normal roundKD_exit roundKD_goto roundKD_ret frzSlotsD_nil frzSlotsD_cons frzSlotD_eq yieldVCD_trace opVCD_eq vcOpsD_nil vcOpsD_cons vcAllD_zero vcAllD_succ allAtD_nil allAtD_cons readyAux edgA vcD_skip vcD_label vcD_exit vcD_goto vcD_ret vcD_region vcD_seq vcD_seqC vcD_cond vcCondD_bool vcD_block vcD_scope vcD_loop vcD_rangeFunc yieldOf isMem isMem0 keepE envLe St.le psE yieldAV round_td round_y round_Γ vI vB vS aI aB aS look getE oper opRV putE allOk okOps Op.operands Call.operands pEv qEv mEv constRV coe RV.av loadEv loadCs takeAt indexAddrEv fieldAddrEv binEv intEv arith unEv gcond pickEv argsEv callVal callEv capAV_mk lenArgs lenEv minEv extractEv convEv funcEv allBox bound sliceEv lookupEv TD.isBool allocEv boxEv storeEv spl plainTD appendEv appendArgs makeMapEv mapUpdateEv buildEv buildSliceEv fillSV zsvOf sizeTD Ty.parses parses_flats' coeA flats_length AV.good AV.cells AV.pure SV.pure av_int av_bool av_str av_slice av_cons av_fld0 av_fld1 av_fld2 av_fld3 av_fld4 Ty.of Ty.dflt Ty.parse Ty.flat Ty.zsv Ty.fld Ty.un Ty.unv Ty.snoc Ty.snocV hd_mk kids_mk hd_dflt kids_dflt Ty.get Ty.off Ty.nfld Ty.size coeTy junk Blk.look argEnv resEv resOk resVs oneRV retOk frzAs frzAV frzL frzSV boxCaps boxCap SV.sig sigs RV.scalar AV.scalar SV.scalar nope effVCD_eq effOf SV.ids AV.ids dedup SV.ren AV.ren RV.ren idx outId mergeB Blk.pureB flats_pure flat_pure epsSlotsD_nil epsSlotsD_cons epsSlotD_eq allEp D.parts_fnOf fvParts retEff round_E av_fn G.ye isCutD_nil isCutD_cons firstReg_region firstReg_seq firstReg_skip firstReg_ret firstReg_label firstReg_exit firstReg_goto firstReg_cond firstReg_block firstReg_scope firstReg_loop firstReg_rf eptrOf_mk flOfD_nil flOfD_cons vcFlD_cons vcFlD_nil flPairs_nil flPairs_cons vcFrD_nil vcFrD_cons makeSliceEv vcCondD_ib fzEv unfl_flats isFz round_fz panVCD_eq panOf isShift strIdxEv ifaceEv nilChkEv sliceAnyEv sliceOwnEv sliceSufEv appendEv0 appendEv1 Ty.beq Ty.isAgg round_Pn vcDefD_seqR vcDefD_seqS vcDefD_seqC vcDefD_seqB vcDefD_seqL vcDefD_seqF vcDefD_seqSc vcDefD_region vcDefD_ret vcDefD_cond vcDefD_block vcDefD_loop thenKD_panic inBlockKD_panic noGotoKD_panic exitOk_normal exitOk_ret exitOk_panic exitOk_exit runDefs_none runDefs_some runDefs_cons defRegD defReg2D isDefer defOf caughtCon unfl_cons D.bpart_bndOf D.parts_bndOf AV.sig zapEv capArgs capEv effVC2D_eq effSelD_eq effOf2 effOf2V borAt borAll borAV borSV borIds selOf reachB closedB Blk.sound Blk.ids Blk.ren Blk.scalarB retEff2 retEff2S round_E2 round_te round_bo round_pm andEv orEv xorEv bitsEv utop cvEv callAny callBor slicePartEv makePartEv copyEv copyArgs boundEv globs vcPiD_nil vcPiD_cons piOpD_eq appStrEv
def nr9Γ:List (FuncId×Con):=(140,conTrim)::(187,conAt)::(111,conNCmp)::nr8Γ
theorem nr9Γ_ok:OkΓ nr9Γ:=by
 simp only [OkΓ,nr9Γ,List.forall_mem_cons]
 exact ⟨⟨enters_of func140 (by kernel_rfl) rfl,trim_ok⟩,⟨enters_of func187 (by kernel_rfl) rfl,at_ok⟩,⟨enters_of func111 (by kernel_rfl) rfl,ncmp_ok⟩,nr8Γ_ok⟩
def nr9E:=nr8E
theorem nr9E_ok:OkE nr9E:=nr8E_ok
def nr9P:=nr8P
theorem nr9P_ok:OkP nr9P:=nr8P_ok
def nr9F:=nr8F
theorem nr9F_ok:OkF nr9F:=nr8F_ok
def nr9:G:={ τ:=nrT,Γ:=nr9Γ,E:=nr9E,Pn:=nr9P,E2:=nr9F }
theorem nr9_good:nr9.good prog:=good_of_all (nrT_ok _ rfl) nr9Γ_ok nr9E_ok nr9P_ok nr9F_ok
theorem nr9_all:(∀ t,nr9.td t=(look nrT t).getD .other)∧nr9.y=false∧nr9.Γ=nr9Γ∧nr9.E=nr9E∧nr9.Pn=nr9P∧nr9.E2=nr9F∧nr9.fz=[]∧nr9.te=false∧nr9.bo=false∧nr9.pm=false:=⟨fun _=>rfl,rfl,rfl,rfl,rfl,rfl,rfl,rfl,rfl,rfl⟩
def nr9_S:=And.intro (And.intro @nrT.eq_1 (And.intro @nr9Γ.eq_1 (And.intro @nr9E.eq_1 (And.intro @nr9P.eq_1 (And.intro @nr9F.eq_1 (And.intro @conTrim_eq (And.intro @conAt_eq (@conNCmp_eq)))))))) nr8_S
theorem nmul_ok:PureOk prog 149 conTimes:=by
 refine pureOkD (L:={ live:=[0,1,4,5,6,7,8,9,10,11,18,19,20,21,26,27,28,29,30],frz:=[(15,[5])] }) nr9_good rfl nr_mixed func149 rfl conTimes 2 (by decide) (by kernel_rfl) ?_
 intro args hpre hlens
 simp only [conTimes] at hpre
 split at hpre
 case h_2=>exact hpre.elim
 rename_i a ea b eb
 simp only [lenS] at hlens
 refine ⟨rfl,?_⟩
 simp -dsimp -implicitDefEqProofs [f149,conTimes_eq,nr9_all,nr9_S,inI64]
 change List Int at a; change List Int at b
 obtain ⟨ha,hb,ha2,hb2⟩:=hpre
 have hn:((a.length:Int)+(b.length:Int)).toNat=a.length+b.length:=by omega
 refine ⟨⟨by omega,by omega⟩,⟨by omega,by omega,by omega⟩,?_⟩
 rw [hn]
 refine WpD.loop (L:={ live:=[0,1,4,5,6,7,8,9,10,11,18,19,20,21,26,27,28,29,30],frz:=[(15,[5])] }) nr9_good X0_ok nr_mixed (by kernel_rfl)
  (fun p:Nat×List Int=>⟨[(1,vS tI b eb),(5,⟨true,.v (.s (.own tI 0 (a.length+b.length)))⟩),(18,vS tI a ea),(19,vI a.length),(20,vI p.1)],[.arr true (tI.flats p.2)]⟩)
  (fun p=>p.1≤a.length∧p.2.length=a.length+b.length∧okD p.2∧vl p.2=vl (a.take p.1)*vl b∧∀ d∈p.2.drop (p.1+b.length),d=0) (fun p=>a.length - p.1) (0,List.replicate (a.length+b.length) 0)
  ⟨Nat.zero_le _,List.length_replicate,okD_rep _,by simp [vl_rep,vl],fun d hd=>List.eq_of_mem_replicate (List.mem_of_mem_drop hd)⟩ (Turn.le (by simp -dsimp -implicitDefEqProofs)) ?_
 rintro ⟨i,xs⟩ ⟨hi,hxl,hxo,hxv,hxz⟩
 simp only at hi hxl hxo hxv hxz
 rcases Nat.lt_or_ge i a.length with hil | hge
 ·
  have eai:a[i]=a[i]?.getD 0:=by rw [List.getElem?_eq_getElem hil]; rfl
  have hai:=okD_get ha hil
  simp -dsimp -implicitDefEqProofs [conTimes_eq,hil,nr9_all,nr9_S,inI64]
  rw [eai]
  refine ⟨fun h0=>⟨⟨by omega,by omega⟩,i+1,xs,⟨by omega,hxl,hxo,?_,?_⟩,by omega,TurnT.le (by simp -dsimp -implicitDefEqProofs)⟩,fun h0 => ?_⟩
  ·
   rw [vl_take_succ hil,h0,hxv]; simp
  ·
   intro d hd
   rw [show i+1+b.length=i+b.length+1 by omega,← List.drop_drop] at hd
   exact hxz d (List.mem_of_mem_drop hd)
  refine WpD.loop (L:={ live:=[0,1,4,5,6,7,8,9,10,11,18,19,20,21,26,27,28,29,30],frz:=[(15,[5])] }) nr9_good X0_ok nr_mixed (by kernel_rfl)
   (fun p:Nat×List Int×Int=>⟨[(1,vS tI b eb),(5,⟨true,.v (.s (.own tI 0 (a.length+b.length)))⟩),(6,vI i),(7,vI (a[i]?.getD 0)),(8,vI p.2.2),(18,vS tI a ea),(19,vI a.length),(20,vI i),(27,vS tI b eb),(28,vI b.length),(29,vI p.1)],[.arr true (tI.flats p.2.1)]⟩)
   (fun p=>p.1≤b.length∧p.2.1.length=a.length+b.length∧okD p.2.1∧(0≤p.2.2∧p.2.2≤1073741823)∧vl p.2.1+1073741824 ^ (i+p.1)*p.2.2.toNat=vl xs+1073741824 ^ i*((a[i]?.getD 0).toNat*vl (b.take p.1))∧p.2.1.drop (i+p.1)=xs.drop (i+p.1)) (fun p=>b.length - p.1) (0,xs,0)
   ⟨Nat.zero_le _,hxl,hxo,⟨Int.le_refl _,by show (0:Int)≤1073741823; decide⟩,by simp [vl],rfl⟩ (Turn.le (by simp -dsimp -implicitDefEqProofs)) ?_
  rintro ⟨k,ys,ov⟩ ⟨hk,hyl,hyo,hov,hyv,hyd⟩
  simp only at hk hyl hyo hov hyv hyd
  rcases Nat.lt_or_ge k b.length with hkl | hkl
  ·
   have e1:((i:Int)+(k:Int)).toNat=i+k:=by omega
   have hfl:=fl_at (xs:=ys) (j:=i+k) (by omega)
   obtain ⟨s1,s2,s3,s4,s5⟩:=mul_step (s:=ys[i+k]?.getD 0+a[i]?.getD 0*b[k]+ov) hyo (by omega) hkl hb hai hov hyv (by rw [List.getElem?_eq_getElem hkl]; rfl)
   simp -dsimp -implicitDefEqProofs [conTimes_eq,e1,hfl,hkl,nr9_all,nr9_S,inI64]
   have hm:=mul_range hai (okD_get hb hkl)
   rw [List.getElem?_eq_getElem hkl,Option.getD_some] at hm
   have hy:=okD_get hyo (i:=i+k) (by omega)
   rw [Int.fdiv_eq_ediv_of_nonneg _ (by decide),fl_set (by omega)]
   generalize ys[i+k]?.getD 0+a[i]?.getD 0*b[k]+ov=s at *
   refine ⟨⟨by omega,by omega⟩,⟨hyl,by omega,by omega⟩,⟨hyl,by omega⟩,⟨by omega,by omega⟩,⟨by omega,by omega⟩,⟨by omega,by omega⟩,⟨by omega,by omega⟩,by decide,⟨hyl,by omega,by omega⟩,⟨hyl,by omega⟩,⟨by omega,by omega⟩,
    k+1,ys.set (i+k) (s % 1073741824),s / 1073741824,⟨by omega,by rw [List.length_set]; exact hyl,s4,s2,s5,?_⟩,by omega,TurnT.le (by simp -dsimp -implicitDefEqProofs)⟩
   rw [← Nat.add_assoc,drop_set_succ]
   exact drop_eq_succ hyd
  ·
   have hkn:¬ k<b.length:=by omega
   obtain rfl:k=b.length:=by omega
   obtain ⟨r1,r2,r3⟩:=row_end hil hyl hyo ha hov hyv hyd hxz hxv
   have e1:((i:Int)+(b.length:Int)).toNat=i+b.length:=by omega
   simp -dsimp -implicitDefEqProofs [conTimes_eq,hkn,e1,nr9_all,nr9_S,inI64]
   rw [fl_set (by omega)]
   exact ⟨⟨by omega,by omega⟩,⟨hyl,by omega,by omega⟩,⟨hyl,by omega⟩,⟨by omega,by omega⟩,i+1,ys.set (i+b.length) ov,⟨by omega,by rw [List.length_set]; exact hyl,r1,r2,r3⟩,by omega,TurnT.le (by simp -dsimp -implicitDefEqProofs)⟩
 ·
  have hn:¬ i<a.length:=by omega
  simp -dsimp -implicitDefEqProofs [conTimes_eq,hn,nr9_all,nr9_S,inI64]
  obtain rfl:i=a.length:=by omega
  refine ⟨xs,rfl,hxl.symm,?_⟩
  rw [← dig_vl hxo,hxv,List.take_of_length_le (Nat.le_refl _)]
theorem back_round {a:List Int} {t:Nat} {args:List AV} (hx:(itBack.xs (List.map capAV [(⟨.slice tI,a⟩:Sigma Ty.T)]))[t]?=some args):t<a.length∧args=[aI (((a.length - 1 - t:Nat)):Int),aI (a[a.length - 1 - t]?.getD 0)]:=by
 rw [List.map_singleton,show itBack.xs [capAV ⟨.slice tI,a⟩]=backL a from rfl] at hx
 have ht:t<a.length:=by
  obtain ⟨h1,_⟩:=List.getElem?_eq_some_iff.1 hx
  rwa [backL_len] at h1
 rw [backL_get ht] at hx
 injection hx with hx
 exact ⟨ht,hx.symm⟩
theorem back_end (a:List Int):(itBack.xs (List.map capAV [(⟨.slice tI,a⟩:Sigma Ty.T)])).length=a.length:=by
 rw [List.map_singleton,show itBack.xs [capAV ⟨.slice tI,a⟩]=backL a from rfl,backL_len]
theorem short_mul {r d:Nat} {x:Int} (hx:0≤x∧x≤1073741823) (h:r<d):(x.toNat+1073741824*r) / d≤1073741823:=by
 have h1:x.toNat+1073741824*r<d*1073741824:=by omega
 have:=Nat.div_lt_of_lt_mul h1
 omega
def conShort:Con:=⟨fun args=>(match args with
 | [.s (.sl (.int .i64) a _),.s (.int .i64 d)]=>okD a∧(1≤d∧d≤1073741824)∧a.length≤8192
 | _=>False),fun args=>match args with
 | [.s (.sl (.int .i64) a _),.s (.int _ d)]=>.tup [aS tI (dig (vl a / d.toNat)) false,aI ((vl a % d.toNat:Nat):Int)]
 | _=>.v (.s .any)⟩
theorem conShort_eq (a:List (Ty.T tI)) (exa:Bool) (d:Int):conShort.pre [.s (.sl tI a exa),.s (.int .i64 d)]=(okD a∧(1≤d∧d≤1073741824)∧a.length≤8192)∧conShort.val [.s (.sl tI a exa),.s (.int .i64 d)]=.tup [aS tI (dig (vl a / d.toNat)) false,aI ((vl a % d.toNat:Nat):Int)]:=⟨rfl,rfl⟩
theorem short_ok:PureOk prog 91 conShort:=by
 refine pureOkD (L:={ live:=[0,1,3,4,5,6,7,12,13,14],frz:=[(7,[4])],fl:=[(6,[(0,0),(2,0),(3,0),(5,0),(5,10),(6,0),(6,10),(8,0)]),(7,[(0,0),(2,0),(2,4)])] }) nr9_good rfl nr_mixed func91 rfl conShort 2 (by decide) (by kernel_rfl) ?_
 intro args hpre hlens
 simp only [conShort] at hpre
 split at hpre
 case h_2=>exact hpre.elim
 rename_i a ea d
 simp only [lenS] at hlens
 refine ⟨rfl,?_⟩
 simp -dsimp -implicitDefEqProofs [f91,conShort_eq,nr9_all,nr9_S,inI64]
 change List Int at a
 obtain ⟨ha,hd,hal⟩:=hpre
 obtain ⟨D,rfl⟩:∃ D:Nat,d=D:=⟨d.toNat,by omega⟩
 have hmx:8192≤maxLen:=by simp only [maxLen]; omega
 refine ⟨by omega,?_⟩
 refine WpD.rangeFunc (L:={ live:=[0,1,3,4,5,6,7,12,13,14],frz:=[(7,[4])],fl:=[(6,[(0,0),(2,0),(3,0),(5,0),(5,10),(6,0),(6,10),(8,0)]),(7,[(0,0),(2,0),(2,4)])] }) (d:=⟨⟩) nr9_good nr_mixed rfl rfl 203 [⟨.slice tI,a⟩] (by simp -dsimp -implicitDefEqProofs) itBack back1_ok trivial (by decide) (by kernel_rfl) (by kernel_rfl) (by intro a b c d; simp -dsimp -implicitDefEqProofs)
  (fun t hp=>∃ q:List Int,∃ r:Nat,hp=[.cells [.int .i64 D],.cells [.own tI 3 a.length],.cells [.int .i64 r],.arr true (tI.flats q)]∧q.length=a.length∧okD q∧(∀ d∈q.take (a.length - t),d=0)∧vl (a.drop (a.length - t))=vl (q.drop (a.length - t))*D+r∧r<D) ?_ ?_ ?_
 ·
  exact ⟨List.replicate a.length 0,0,rfl,List.length_replicate,okD_rep _,fun d hd=>List.eq_of_mem_replicate (List.mem_of_mem_take hd),by rw [Nat.sub_zero,List.drop_eq_nil_of_le (Nat.le_refl _),List.drop_eq_nil_of_le (by rw [List.length_replicate]; exact Nat.le_refl _)]; simp [vl],by omega⟩
 ·
  rintro t args hp hx ⟨q,r,rfl,hql,hqo,hqz,hqv,hr⟩
  obtain ⟨ht,rfl⟩:=back_round hx
  have hk:a.length - t=a.length - 1 - t+1:=by omega
  have hk2:a.length - (t+1)=a.length - 1 - t:=by omega
  rw [hk2]
  rw [hk] at hqz hqv
  have hkl:a.length - 1 - t<a.length:=by omega
  generalize a.length - 1 - t=k at *
  have hak:=okD_get ha hkl
  obtain ⟨x,hx⟩:∃ x:Nat,(a[k]?.getD 0)=x:=⟨(a[k]?.getD 0).toNat,by omega⟩
  have hrow:=div_row (vb:=D) (lo:=(x+1073741824*r) / D) hkl hql hqo hqz hqv
  have hsm:=short_mul hak hr
  have hx2:(a[k]?.getD 0).toNat=x:=by omega
  rw [hx2] at hrow hsm
  have hle:=Nat.div_mul_le_self (x+1073741824*r) D
  obtain ⟨r1,r2,r3⟩:=hrow hsm hle
  have e1:(r:Int)*1073741824+(x:Int)=((x+1073741824*r:Nat):Int):=by omega
  have e2:((x+1073741824*r:Nat):Int).tdiv (D:Int)=((x+1073741824*r) / D:Nat):=Int.ofNat_tdiv _ _
  have e3:((x+1073741824*r:Nat):Int).tmod (D:Int)=((x+1073741824*r) % D:Nat):=Int.ofNat_tmod _ _
  have e4:x+1073741824*r - (x+1073741824*r) / D*D=(x+1073741824*r) % D:=by rw [Nat.mod_eq_sub,Nat.mul_comm D]
  rw [e4] at r3
  have hmod:=Nat.mod_lt (x+1073741824*r) (show D>0 by omega)
  simp -dsimp -implicitDefEqProofs [conShort_eq,nr9_all,nr9_S,inI64]
  rw [hx,e1,e2,e3,fl_set (by omega)]
  clear e2 e3 e4 hrow hle
  generalize (x+1073741824*r) / D=Q at *
  exact ⟨⟨by decide,by omega,by omega⟩,⟨by omega,by omega,by omega,by omega⟩,⟨⟨by omega,by omega,by omega⟩,by omega,⟨hql,hkl⟩,⟨hql,by omega⟩,_,TrT.refl _ _,q.set k _,_,rfl,by rw [List.length_set]; exact hql,r1,r2,r3,hmod⟩,hql,hkl⟩
 ·
  rintro hp ⟨q,r,rfl,hql,hqo,hqz,hqv,hr⟩
  rw [back_end,Nat.sub_self,List.drop_zero,List.drop_zero] at hqv
  simp -dsimp -implicitDefEqProofs [conShort_eq,nr9_all,nr9_S,inI64]
  obtain ⟨d1,d2⟩:=(Nat.div_mod_unique (show 0<D by omega) (a:=vl a) (c:=r) (d:=vl q)).2 ⟨by rw [hqv,Nat.mul_comm,Nat.add_comm],hr⟩
  refine ⟨q,rfl,hql.symm,by rw [d1,dig_vl hqo],by omega⟩
theorem carry_ring {p v o a K x s:Nat} (h:v+p*o=a*K) (hs:s=x*K+o):v+p*(s % 1073741824)+p*1073741824*(s / 1073741824)=(a+p*x)*K:=by
 have h1:p*(s % 1073741824)+p*1073741824*(s / 1073741824)=p*s:=by
  rw [Nat.mul_assoc,← Nat.mul_add]
  congr 1
  omega
 have h2:(a+p*x)*K=a*K+p*(x*K):=by rw [Nat.add_mul,Nat.mul_assoc]
 rw [Nat.add_assoc,h1,h2,← h,hs,Nat.mul_add]
 omega
theorem vl_take_any (xs:List Int) (i:Nat):vl (xs.take (i+1))=vl (xs.take i)+1073741824 ^ i*(xs[i]?.getD 0).toNat:=by
 rcases Nat.lt_or_ge i xs.length with h | h
 ·
  exact vl_take_succ h
 ·
  rw [List.getElem?_eq_none h,List.take_of_length_le (by omega),List.take_of_length_le (by omega),Option.getD_none,Int.toNat_zero,Nat.mul_zero,Nat.add_zero]
theorem okD_getD {xs:List Int} (h:okD xs) (i:Nat):0≤xs[i]?.getD 0∧xs[i]?.getD 0≤1073741823:=by
 rcases Nat.lt_or_ge i xs.length with h1 | h1
 ·
  exact okD_get h h1
 ·
  rw [List.getElem?_eq_none h1,Option.getD_none]; omega
theorem carry_le {x K ov:Nat} (hx:x≤1073741823) (hK:K≤536870912) (ho:ov≤1073741823):x*K+ov≤576460752303423487+536870913:=by
 have:=Nat.mul_le_mul hx hK
 omega
theorem carry_step {m xs:List Int} {i K ov:Nat} {s:Nat} (hm:okD m) (hK:K≤536870912) (hi:i<xs.length) (ho:okD xs) (hov:ov≤1073741823) (hv:vl (xs.take i)+1073741824 ^ i*ov=vl (m.take i)*K)
  (hs:s=(m[i]?.getD 0).toNat*K+ov):okD (xs.set i ((s % 1073741824:Nat):Int))∧vl ((xs.set i ((s % 1073741824:Nat):Int)).take (i+1))+1073741824 ^ (i+1)*(s / 1073741824)=vl (m.take (i+1))*K ∧
   s / 1073741824≤1073741823∧s≤576460752303423487+536870913∧(m.length≤i→s / 1073741824=0):=by
 have hx:=okD_getD hm i
 have h1:=carry_le (x:=(m[i]?.getD 0).toNat) (by omega) hK hov
 rw [← hs] at h1
 refine ⟨okD_set ho (by omega),?_,by omega,h1,fun hl => ?_⟩
 ·
  rw [vl_take_succ (by rw [List.length_set]; exact hi),List.take_set_of_le (Nat.le_refl _),List.getElem?_set_self hi,Option.getD_some,Int.toNat_natCast,vl_take_any,Nat.pow_succ]
  exact carry_ring hv hs
 ·
  rw [List.getElem?_eq_none hl,Option.getD_none,Int.toNat_zero,Nat.zero_mul,Nat.zero_add] at hs
  omega
def conTrimE:ECon:={ wp:=fun args hp K=>match args,hp with
 | [.s (.own (.int .i64) 0 n)],[.arr true cs]=>∃ xs:List Int,(cs=tI.flats xs∧n=xs.length∧xs.length≤1000000)∧K (.v (.s (.pre tI 0 n (trimL xs).length))) [.arr true (tI.flats xs)]
 | _,_=>False }
theorem trimE_ok:EffOk prog 140 conTrimE:=by
 refine effOkD (L:={ live:=[0,2,3,15] }) nr0_good rfl nr_mixed func140 rfl conTrimE 1 (by decide) (by kernel_rfl) ?_
 intro args hp K hpre hlens
 simp only [conTrimE] at hpre
 split at hpre
 case h_2=>exact hpre.elim
 rename_i n cs
 obtain ⟨xs,⟨rfl,rfl,hxl⟩,hK⟩:=hpre
 refine ⟨rfl,?_⟩
 simp -dsimp -implicitDefEqProofs [f140,nr0_all,nr0_S,inI64]
 change List Int at xs
 refine WpD.loop (L:={ live:=[0,2,3,15] }) nr0_good X0_ok nr_mixed (by kernel_rfl)
  (fun n:Nat=>⟨[(0,⟨true,.v (.s (.own tI 0 xs.length))⟩),(2,vS tI [] true),(3,vI n)],[.arr true (tI.flats xs)]⟩)
  (fun n=>n≤xs.length∧∀ d∈xs.drop n,d=0) (fun n=>n) xs.length ⟨Nat.le_refl _,by rw [List.drop_eq_nil_of_le (Nat.le_refl _)]; intro d hd; cases hd⟩ (Turn.le (by simp -dsimp -implicitDefEqProofs)) ?_
 rintro n ⟨hn,hd⟩
 rcases Nat.lt_or_ge 0 n with h0 | h0
 ·
  have hfl:=fl_at (xs:=xs) (j:=n - 1) (by omega)
  have e1:((n:Int) - 1).toNat=n - 1:=by omega
  simp -dsimp -implicitDefEqProofs [e1,hfl,nr0_all,nr0_S,inI64]
  refine ⟨fun _=>⟨h0,by omega,by omega⟩,fun _=>⟨h0,by omega,by omega⟩,fun _=>⟨h0,by omega⟩,fun _ hz => ?_,fun hz=>⟨hn,?_⟩⟩
  ·
   obtain ⟨k,rfl⟩:∃ k,n=k+1:=⟨n - 1,by omega⟩
   have e:((k+1:Nat):Int) - 1=(k:Int):=by omega
   refine ⟨⟨by omega,by omega⟩,k,⟨by omega,fun d hd2 => ?_⟩,by omega,TurnT.le (by simp -dsimp -implicitDefEqProofs [e])⟩
   rw [List.drop_eq_getElem_cons (by omega)] at hd2
   rw [Nat.add_sub_cancel,List.getElem?_eq_getElem (by omega)] at hz
   rcases List.mem_cons.1 hd2 with rfl | hd2
   ·
    exact hz
   ·
    exact hd d hd2
  ·
   have:=take_trim hn hd hz
   rw [← this,List.length_take,Nat.min_eq_left hn] at hK
   exact hK
 ·
  obtain rfl:n=0:=by omega
  have:=take_trim hn hd (fun h=>by omega)
  rw [← this,List.length_take,Nat.min_eq_left hn] at hK
  rcases xs with _ | ⟨x,xs⟩
  ·
   simp -dsimp -implicitDefEqProofs [nr0_all,nr0_S,inI64]
   exact hK
  ·
   have hc:tI.flats (x::xs)=SV.int .i64 x::tI.flats xs:=rfl
   rw [hc] at hK ⊢
   simp -dsimp -implicitDefEqProofs [nr0_all,nr0_S,inI64]
   exact ⟨by omega,hK⟩
def conMovD:Con:=⟨fun args=>(match args with
 | [.s (.int .i64 i),.s (.eptr (.slice (.int .i64)) m),.s (.eptr (.int .i64) k)]=>0≤i∧okD m∧0≤k∧k≤29
 | _=>False),fun args=>match args with
 | [.s (.int _ i),.s (.eptr (.slice (.int .i64)) m),.s (.eptr (.int .i64) k)]=>.v (aI (m[i.toNat]?.getD 0*2 ^ k.toNat))
 | _=>.v (.s .any)⟩
theorem conMovD_eq (i:Int) (m:Ty.T (.slice tI)) (k:Ty.T tI):conMovD.pre [.s (.int .i64 i),.s (.eptr (.slice tI) m),.s (.eptr tI k)]=(0≤i∧okD m∧0≤k∧k≤29)∧conMovD.val [.s (.int .i64 i),.s (.eptr (.slice tI) m),.s (.eptr tI k)]=.v (aI (m[i.toNat]?.getD 0*2 ^ k.toNat)):=⟨rfl,rfl⟩
theorem pow2_le {k:Int} (h0:0≤k) (h:k≤29):2 ^ k.toNat≤536870912∧1≤2 ^ k.toNat:=by
 have h1:2 ^ k.toNat≤2 ^ 29:=Nat.pow_le_pow_right (by decide) (by omega)
 have h2:2 ^ 0≤2 ^ k.toNat:=Nat.pow_le_pow_right (by decide) (by omega)
 exact ⟨h1,h2⟩
theorem shl_nat {x k:Int} (hx:0≤x):x*2 ^ k.toNat=((x.toNat*2 ^ k.toNat:Nat):Int):=by
 rw [Int.natCast_mul,Int.natCast_pow,Int.toNat_of_nonneg hx]; rfl
theorem movd_ok:PureOk prog 216 conMovD:=by
 refine pureOkD (L:={ live:=[0,1,2,4] }) nr9_good rfl nr_mixed func216 rfl conMovD 3 (by decide) (by kernel_rfl) ?_
 intro args hpre hlens
 simp only [conMovD] at hpre
 split at hpre
 case h_2=>exact hpre.elim
 rename_i i m0 k0
 simp only [lenS] at hlens
 refine ⟨rfl,?_⟩
 simp -dsimp -implicitDefEqProofs [f216,conMovD_eq,nr9_all,nr9_S,inI64]
 obtain ⟨m,hm'⟩:∃ m':List Int,m'=m0:=⟨m0,rfl⟩
 subst hm'
 obtain ⟨k,hk'⟩:∃ k':Int,k'=k0:=⟨k0,rfl⟩
 subst hk'
 obtain ⟨hi,hm,hk0,hk⟩:=hpre
 have hk0:0≤(k:Int):=hk0
 have hk:k≤(29:Int):=hk
 have h1:=okD_getD hm i.toNat
 have h2:=pow2_le hk0 hk
 have h3:=carry_le (x:=(m[i.toNat]?.getD 0).toNat) (ov:=0) (by omega) h2.1 (by omega)
 rw [shl_nat h1.1]
 generalize (m[i.toNat]?.getD 0).toNat*2 ^ k.toNat=z at *
 exact ⟨hi,⟨hk0,by omega,.inr (by show k<64; omega)⟩,by omega,by omega⟩
def nr10Γ:List (FuncId×Con):=(216,conMovD)::nr0Γ
theorem nr10Γ_ok:OkΓ nr10Γ:=by
 simp only [OkΓ,nr10Γ,List.forall_mem_cons]
 exact ⟨⟨enters_of func216 (by kernel_rfl) rfl,movd_ok⟩,nr0Γ_ok⟩
def nr10E:List (FuncId×ECon):=(140,conTrimE)::nr0E
theorem nr10E_ok:OkE nr10E:=by
 simp only [OkE,nr10E,List.forall_mem_cons]
 exact ⟨⟨enters_of func140 (by kernel_rfl) rfl,trimE_ok⟩,nr0E_ok⟩
def nr10P:=nr0P
theorem nr10P_ok:OkP nr10P:=nr0P_ok
def nr10F:=nr0F
theorem nr10F_ok:OkF nr10F:=nr0F_ok
def nr10:G:={ τ:=nrT,Γ:=nr10Γ,E:=nr10E,Pn:=nr10P,E2:=nr10F }
theorem nr10_good:nr10.good prog:=good_of_all (nrT_ok _ rfl) nr10Γ_ok nr10E_ok nr10P_ok nr10F_ok
theorem nr10_all:(∀ t,nr10.td t=(look nrT t).getD .other)∧nr10.y=false∧nr10.Γ=nr10Γ∧nr10.E=nr10E∧nr10.Pn=nr10P∧nr10.E2=nr10F∧nr10.fz=[]∧nr10.te=false∧nr10.bo=false∧nr10.pm=false:=⟨fun _=>rfl,rfl,rfl,rfl,rfl,rfl,rfl,rfl,rfl,rfl⟩
def nr10_S:=And.intro (And.intro @nrT.eq_1 (And.intro @nr10Γ.eq_1 (And.intro @nr10E.eq_1 (And.intro @nr10P.eq_1 (And.intro @nr10F.eq_1 (And.intro @conMovD_eq (@conTrimE.eq_1))))))) nr0_S
def conCarE:ECon:={ wp:=fun args hp K=>match args,hp with
 | [.s (.int .i64 n),.s (.fnp f [⟨.slice (.int .i64),m⟩,⟨.int .i64,k⟩])],[]=>(f=216∧okD m∧0≤k∧k≤29∧n=m.length+1∧m.length≤100000)∧∀ xs:List Int,okD xs→xs.length=m.length+1→vl xs=vl m*2 ^ k.toNat→K (.v (.s (.pre tI 0 xs.length (trimL xs).length))) [.arr true (tI.flats xs)]
 | _,_=>False }
theorem carE_ok:EffOk prog 185 conCarE:=by
 refine effOkD (L:={ live:=[0,1,4,5,6,7,8,12,13,14] }) nr10_good rfl nr_mixed func185 rfl conCarE 2 (by decide) (by kernel_rfl) ?_
 intro args hp K hpre hlens
 simp only [conCarE] at hpre
 split at hpre
 case h_2=>exact hpre.elim
 rename_i n f m0 k0
 obtain ⟨⟨rfl,hm,hk0,hk,rfl,hml⟩,hK⟩:=hpre
 refine ⟨rfl,?_⟩
 simp -dsimp -implicitDefEqProofs [f185,nr10_all,nr10_S,inI64]
 obtain ⟨m,hm'⟩:∃ m':List Int,m'=m0:=⟨m0,rfl⟩
 subst hm'
 obtain ⟨k,hk'⟩:∃ k':Int,k'=k0:=⟨k0,rfl⟩
 subst hk'
 have h2:=pow2_le hk0 hk
 refine ⟨⟨by omega,by omega,by omega⟩,?_⟩
 refine WpD.loop (L:={ live:=[0,1,4,5,6,7,8,12,13,14] }) nr10_good X0_ok nr_mixed (by kernel_rfl)
  (fun p:Nat×List Int×Nat=>⟨[(1,⟨true,.v (.s (.fnp 216 [⟨.slice tI,m⟩,⟨.int .i64,k⟩]))⟩),(5,⟨true,.v (.s (.own tI 0 (m.length+1)))⟩),(6,vI p.2.2),(12,vI ((m.length:Int)+1)),(13,vI p.1)],[.arr true (tI.flats p.2.1)]⟩)
  (fun p=>p.1≤m.length+1∧p.2.1.length=m.length+1∧okD p.2.1∧p.2.2≤1073741823∧vl (p.2.1.take p.1)+1073741824 ^ p.1*p.2.2=vl (m.take p.1)*2 ^ k.toNat∧(p.1=m.length+1→p.2.2=0)) (fun p=>m.length+1 - p.1) (0,List.replicate (m.length+1) 0,0)
  ⟨Nat.zero_le _,List.length_replicate,okD_rep _,Nat.zero_le _,by simp [vl],fun h=>by omega⟩ (Turn.le (by simp -dsimp -implicitDefEqProofs)) ?_
 rintro ⟨i,xs,ov⟩ ⟨hi,hxl,hxo,hov,hv,hend⟩
 simp only at hi hxl hxo hov hv hend
 rcases Nat.lt_or_ge i (m.length+1) with hil | hge
 ·
  obtain ⟨s1,s2,s3,s4,s5⟩:=carry_step (s:=(m[i]?.getD 0).toNat*2 ^ k.toNat+ov) hm h2.1 (by omega) hxo hov hv rfl
  have hmi:=okD_getD hm i
  have hs:m[i]?.getD 0*2 ^ k.toNat+(ov:Int)=(((m[i]?.getD 0).toNat*2 ^ k.toNat+ov:Nat):Int):=by rw [shl_nat hmi.1]; omega
  simp -dsimp -implicitDefEqProofs [nr10_all,nr10_S,inI64]
  rw [hs,Int.fdiv_eq_ediv_of_nonneg _ (by decide)]
  generalize (m[i]?.getD 0).toNat*2 ^ k.toNat+ov=s at *
  have e1:(s:Int) / 1073741824=((s / 1073741824:Nat):Int):=by omega
  have e2:(s:Int) % 1073741824=((s % 1073741824:Nat):Int):=by omega
  rw [e1,e2,fl_set (by omega)]
  refine ⟨fun _=>⟨⟨hm,hk0,hk⟩,⟨by omega,by omega⟩,by decide,⟨hxl,by omega⟩,⟨hxl,by omega⟩,⟨by omega,by omega⟩,i+1,xs.set i _,s / 1073741824,⟨by omega,by rw [List.length_set]; exact hxl,s1,s3,s2,fun h=>s5 (by omega)⟩,by omega,TurnT.le (by simp -dsimp -implicitDefEqProofs)⟩,fun h=>by omega⟩
 ·
  obtain rfl:i=m.length+1:=by omega
  obtain rfl:=hend rfl
  simp -dsimp -implicitDefEqProofs [nr10_all,nr10_S,inI64]
  refine ⟨xs,⟨rfl,hxl.symm,by omega⟩,?_⟩
  rw [← hxl]
  refine hK xs hxo hxl ?_
  rw [List.take_of_length_le (by omega),List.take_of_length_le (by omega),Nat.mul_zero,Nat.add_zero] at hv
  exact hv
def conMovE:ECon:={ wp:=fun args hp K=>match args,hp with
 | [.s (.sl (.int .i64) m _),.s (.int .i64 k)],[]=>(okD m∧0≤k∧k≤29∧m.length≤100000)∧∀ xs:List Int,okD xs→xs.length=m.length+1→vl xs=vl m*2 ^ k.toNat→K (.v (.s (.pre tI 0 xs.length (trimL xs).length))) [.arr true (tI.flats xs)]
 | _,_=>False }
def nr11Γ:=nr10Γ
theorem nr11Γ_ok:OkΓ nr11Γ:=nr10Γ_ok
def nr11E:List (FuncId×ECon):=(185,conCarE)::nr10E
theorem nr11E_ok:OkE nr11E:=by
 simp only [OkE,nr11E,List.forall_mem_cons]
 exact ⟨⟨enters_of func185 (by kernel_rfl) rfl,carE_ok⟩,nr10E_ok⟩
def nr11P:=nr10P
theorem nr11P_ok:OkP nr11P:=nr10P_ok
def nr11F:=nr10F
theorem nr11F_ok:OkF nr11F:=nr10F_ok
def nr11:G:={ τ:=nrT,Γ:=nr11Γ,E:=nr11E,Pn:=nr11P,E2:=nr11F }
theorem nr11_good:nr11.good prog:=good_of_all (nrT_ok _ rfl) nr11Γ_ok nr11E_ok nr11P_ok nr11F_ok
theorem nr11_all:(∀ t,nr11.td t=(look nrT t).getD .other)∧nr11.y=false∧nr11.Γ=nr11Γ∧nr11.E=nr11E∧nr11.Pn=nr11P∧nr11.E2=nr11F∧nr11.fz=[]∧nr11.te=false∧nr11.bo=false∧nr11.pm=false:=⟨fun _=>rfl,rfl,rfl,rfl,rfl,rfl,rfl,rfl,rfl,rfl⟩
def nr11_S:=And.intro (And.intro @nrT.eq_1 (And.intro @nr11Γ.eq_1 (And.intro @nr11E.eq_1 (And.intro @nr11P.eq_1 (And.intro @nr11F.eq_1 (@conCarE.eq_1)))))) nr10_S
theorem movE_ok:EffOk prog 207 conMovE:=by
 refine effOkD (L:={ live:=[0,1,2,3,4],eps:=[(1,[2,3])] }) nr11_good rfl nr_mixed func207 rfl conMovE 2 (by decide) (by kernel_rfl) ?_
 intro args hp K hpre hlens
 simp only [conMovE] at hpre
 split at hpre
 case h_2=>exact hpre.elim
 rename_i m0 em k
 obtain ⟨⟨hm,hk0,hk,hml⟩,hK⟩:=hpre
 refine ⟨rfl,?_⟩
 simp -dsimp -implicitDefEqProofs [f207,nr11_all,nr11_S,inI64]
 exact ⟨⟨by omega,by omega⟩,⟨hm,hk0,hk,hml⟩,hK⟩
def lenN (x:Nat):Nat:=if x=0 then 0 else Nat.log2 x+1
theorem lenN_div {x k:Nat} (h:2 ^ k≤x):lenN x=lenN (x / 2 ^ k)+k:=by
 have hp:0<2 ^ k:=Nat.pow_pos (by decide)
 have hy:x / 2 ^ k≠0:=by
  have:=Nat.div_le_div_right (c:=2 ^ k) h
  rw [Nat.div_self hp] at this
  omega
 have hx:x≠0:=by omega
 unfold lenN
 rw [if_neg hx,if_neg hy]
 obtain ⟨e1,e2⟩:=(Nat.log2_eq_iff (k:=Nat.log2 (x / 2 ^ k)) hy).1 rfl
 have:Nat.log2 x=Nat.log2 (x / 2 ^ k)+k:=by
  rw [Nat.log2_eq_iff hx]
  refine ⟨?_,?_⟩
  ·
   rw [Nat.pow_add]; exact (Nat.le_div_iff_mul_le hp).1 e1
  ·
   rw [Nat.add_right_comm,Nat.pow_add]; exact (Nat.div_lt_iff_lt_mul hp).1 e2
 omega
theorem lenN_lt {x:Nat} (h:x≠0):x<2 ^ lenN x∧1≤lenN x:=by
 unfold lenN
 rw [if_neg h]
 exact ⟨Nat.lt_log2_self,by omega⟩
theorem lenN_le {x k:Nat} (h:x<2 ^ k):lenN x≤k:=by
 unfold lenN
 split
 ·
  omega
 ·
  rename_i hx
  have:=(Nat.log2_lt hx).2 h
  omega
def tab8:ByteArray:={ data:=#[0,1,2,2,3,3,3,3,4,4,4,4,4,4,4,4,5,5,5,5,5,5,5,5,5,5,5,5,5,5,5,5,6,6,6,6,6,6,6,6,6,6,6,6,6,6,6,6,6,6,6,6,6,6,6,6,6,6,6,6,6,6,6,6,7,7,7,7,7,7,7,7,7,7,7,7,7,7,7,7,7,7,7,7,7,7,7,7,7,7,7,7,7,7,7,7,7,7,7,7,7,7,7,7,7,7,7,7,7,7,7,7,7,7,7,7,7,7,7,7,7,7,7,7,7,7,7,7,8,8,8,8,8,8,8,8,8,8,8,8,8,8,8,8,8,8,8,8,8,8,8,8,8,8,8,8,8,8,8,8,8,8,8,8,8,8,8,8,8,8,8,8,8,8,8,8,8,8,8,8,8,8,8,8,8,8,8,8,8,8,8,8,8,8,8,8,8,8,8,8,8,8,8,8,8,8,8,8,8,8,8,8,8,8,8,8,8,8,8,8,8,8,8,8,8,8,8,8,8,8,8,8,8,8,8,8,8,8,8,8,8,8,8,8,8,8,8,8,8,8,8,8,8,8,8,8] }
theorem tab8_eq:({ data:=#[0,1,2,2,3,3,3,3,4,4,4,4,4,4,4,4,5,5,5,5,5,5,5,5,5,5,5,5,5,5,5,5,6,6,6,6,6,6,6,6,6,6,6,6,6,6,6,6,6,6,6,6,6,6,6,6,6,6,6,6,6,6,6,6,7,7,7,7,7,7,7,7,7,7,7,7,7,7,7,7,7,7,7,7,7,7,7,7,7,7,7,7,7,7,7,7,7,7,7,7,7,7,7,7,7,7,7,7,7,7,7,7,7,7,7,7,7,7,7,7,7,7,7,7,7,7,7,7,8,8,8,8,8,8,8,8,8,8,8,8,8,8,8,8,8,8,8,8,8,8,8,8,8,8,8,8,8,8,8,8,8,8,8,8,8,8,8,8,8,8,8,8,8,8,8,8,8,8,8,8,8,8,8,8,8,8,8,8,8,8,8,8,8,8,8,8,8,8,8,8,8,8,8,8,8,8,8,8,8,8,8,8,8,8,8,8,8,8,8,8,8,8,8,8,8,8,8,8,8,8,8,8,8,8,8,8,8,8,8,8,8,8,8,8,8,8,8,8,8,8,8,8,8,8,8,8] }:ByteArray)=tab8:=rfl
theorem tab8_size:tab8.size=256:=rfl
theorem tab8_at:∀ j,j<256→byteAt tab8 j=(lenN j:Int):=by decide
theorem tab_use {y:Nat} (h:y<256):IntKind.u8.wrap (y:Int)=(y:Int)∧IntKind.i64.wrap (byteAt tab8 (IntKind.u8.wrap (y:Int)).toNat)=(lenN y:Int)∧lenN y≤8:=by
 have e1:IntKind.u8.wrap (y:Int)=(y:Int):=by rw [IntKind.wrap_u8]; omega
 have h8:lenN y≤8:=lenN_le (k:=8) h
 refine ⟨e1,?_,h8⟩
 rw [e1,Int.toNat_natCast,tab8_at y h]
 exact IntWalk.i64_in _ (by omega)
theorem fdiv_nat (n k:Nat):(n:Int).fdiv (k:Int)=((n / k:Nat):Int):=by rw [Int.fdiv_eq_ediv_of_nonneg _ (by omega)]; rfl
def conLen64:Con:=⟨fun args=>(match args with
 | [.s (.int .u64 x)]=>0≤x∧x≤1073741823
 | _=>False),fun args=>match args with
 | [.s (.int _ x)]=>.v (aI (lenN x.toNat))
 | _=>.v (.s .any)⟩
theorem conLen64_eq (x:Int):conLen64.pre [.s (.int .u64 x)]=(0≤x∧x≤1073741823)∧conLen64.val [.s (.int .u64 x)]=.v (aI (lenN x.toNat)):=⟨rfl,rfl⟩
theorem len64_ok:PureOk prog 167 conLen64:=by
 refine pureOkD (L:={ live:=[0,2,4,8,14] }) nr0_good rfl nr_mixed func167 rfl conLen64 1 (by decide) (by kernel_rfl) ?_
 intro args hpre hlens
 simp only [conLen64] at hpre
 split at hpre
 case h_2=>exact hpre.elim
 rename_i x
 simp only [lenS] at hlens
 refine ⟨rfl,?_⟩
 simp -dsimp -implicitDefEqProofs [f167,conLen64_eq,tab8_eq,tab8_size,nr0_all,nr0_S,inI64]
 obtain ⟨hx0,hx⟩:=hpre
 obtain ⟨n,rfl⟩:∃ n:Nat,x=n:=⟨x.toNat,by omega⟩
 refine ⟨fun h=>by omega,fun _ => ?_⟩
 have f1:(n:Int).fdiv 65536=((n / 65536:Nat):Int):=fdiv_nat n 65536
 have f2:(n:Int).fdiv 256=((n / 256:Nat):Int):=fdiv_nat n 256
 have f3:((n / 65536:Nat):Int).fdiv 256=((n / 65536 / 256:Nat):Int):=fdiv_nat _ 256
 rw [f1,f2,f3,Int.toNat_natCast]
 refine ⟨fun h16=>⟨by decide,fun h8 => ?_,fun h8 => ?_⟩,fun h16=>⟨fun h8 => ?_,fun h8 => ?_⟩⟩
 ·
  obtain ⟨t1,t2,t3⟩:=tab_use (y:=n / 65536 / 256) (by omega)
  have:=lenN_div (x:=n / 65536) (k:=8) (by omega)
  have:=lenN_div (x:=n) (k:=16) (by omega)
  simp only [Nat.reducePow] at *
  rw [t2,t1]
  omega
 ·
  obtain ⟨t1,t2,t3⟩:=tab_use (y:=n / 65536) (by omega)
  have:=lenN_div (x:=n) (k:=16) (by omega)
  simp only [Nat.reducePow] at *
  rw [t2,t1]
  omega
 ·
  obtain ⟨t1,t2,t3⟩:=tab_use (y:=n / 256) (by omega)
  have:=lenN_div (x:=n) (k:=8) (by omega)
  simp only [Nat.reducePow] at *
  rw [t2,t1]
  omega
 ·
  obtain ⟨t1,t2,t3⟩:=tab_use (y:=n) (by omega)
  rw [t2,t1]
  omega
def nr12Γ:List (FuncId×Con):=(167,conLen64)::nr0Γ
theorem nr12Γ_ok:OkΓ nr12Γ:=by
 simp only [OkΓ,nr12Γ,List.forall_mem_cons]
 exact ⟨⟨enters_of func167 (by kernel_rfl) rfl,len64_ok⟩,nr0Γ_ok⟩
def nr12E:=nr0E
theorem nr12E_ok:OkE nr12E:=nr0E_ok
def nr12P:=nr0P
theorem nr12P_ok:OkP nr12P:=nr0P_ok
def nr12F:=nr0F
theorem nr12F_ok:OkF nr12F:=nr0F_ok
def nr12:G:={ τ:=nrT,Γ:=nr12Γ,E:=nr12E,Pn:=nr12P,E2:=nr12F }
theorem nr12_good:nr12.good prog:=good_of_all (nrT_ok _ rfl) nr12Γ_ok nr12E_ok nr12P_ok nr12F_ok
theorem nr12_all:(∀ t,nr12.td t=(look nrT t).getD .other)∧nr12.y=false∧nr12.Γ=nr12Γ∧nr12.E=nr12E∧nr12.Pn=nr12P∧nr12.E2=nr12F∧nr12.fz=[]∧nr12.te=false∧nr12.bo=false∧nr12.pm=false:=⟨fun _=>rfl,rfl,rfl,rfl,rfl,rfl,rfl,rfl,rfl,rfl⟩
def nr12_S:=And.intro (And.intro @nrT.eq_1 (And.intro @nr12Γ.eq_1 (And.intro @nr12E.eq_1 (And.intro @nr12P.eq_1 (And.intro @nr12F.eq_1 (@conLen64_eq)))))) nr0_S
def conLead64:Con:=⟨fun args=>(match args with
 | [.s (.int .u64 x)]=>0≤x∧x≤1073741823
 | _=>False),fun args=>match args with
 | [.s (.int _ x)]=>.v (aI (64 - lenN x.toNat))
 | _=>.v (.s .any)⟩
theorem conLead64_eq (x:Int):conLead64.pre [.s (.int .u64 x)]=(0≤x∧x≤1073741823)∧conLead64.val [.s (.int .u64 x)]=.v (aI (64 - lenN x.toNat)):=⟨rfl,rfl⟩
theorem lead64_ok:PureOk prog 206 conLead64:=by
 refine pureOkD (L:={ live:=[0,2] }) nr12_good rfl nr_mixed func206 rfl conLead64 1 (by decide) (by kernel_rfl) ?_
 intro args hpre hlens
 simp only [conLead64] at hpre
 split at hpre
 case h_2=>exact hpre.elim
 rename_i x
 simp only [lenS] at hlens
 refine ⟨rfl,?_⟩
 simp -dsimp -implicitDefEqProofs [f206,conLead64_eq,nr12_all,nr12_S,inI64]
 have:=lenN_le (x:=x.toNat) (k:=30) (by omega)
 exact ⟨hpre,by omega,by omega⟩
theorem ld_ring {A A' p x y d ow q s Z Bi gv g:Int} (h1:A'+p*x=A+p*d) (h2:A+p*ow=Z - Bi*gv) (hd:d+1073741824*q=s) (hs:s=x - g*y+ow):A'+p*1073741824*q=Z - (Bi*gv+p*(g*y)):=by
 grind
theorem ld_sub {us v:List Int} {i t g:Nat} {ow s Z:Int} (ho:okD us) (hv:okD v) (ht:t<v.length) (hi:i+t<us.length) (hg:g≤1073741823) (how : -1073741823≤ow∧ow≤0)
  (hz:(vl us:Int)+((1073741824 ^ (i+t):Nat):Int)*ow=Z - ((1073741824 ^ i:Nat):Int)*((g*vl (v.take t):Nat):Int))
  (hs:s=us[i+t]?.getD 0 - (g:Int)*v[t]?.getD 0+ow) :
  okD (us.set (i+t) (s % 1073741824))∧(vl (us.set (i+t) (s % 1073741824)):Int)+((1073741824 ^ (i+(t+1)):Nat):Int)*(s / 1073741824)=Z - ((1073741824 ^ i:Nat):Int)*((g*vl (v.take (t+1)):Nat):Int) ∧
   (-1073741823≤s / 1073741824∧s / 1073741824≤0)∧(-1152921504606846976≤s∧s≤1073741823)∧(0≤(g:Int)*v[t]?.getD 0∧(g:Int)*v[t]?.getD 0≤1152921502459363329):=by
 have hx:=okD_get ho hi
 have hy:=okD_get hv ht
 have hm:=mul_range (x:=(g:Int)) (by omega) hy
 refine ⟨okD_set ho (by omega),?_,⟨by omega,by omega⟩,⟨by omega,by omega⟩,hm⟩
 have h1:=vl_set hi (s % 1073741824)
 have h2:=vl_take_succ ht
 have e1:1073741824 ^ (i+(t+1))=1073741824 ^ (i+t)*1073741824:=by rw [← Nat.add_assoc,Nat.pow_succ]
 have e2:1073741824 ^ i*(g*vl (v.take (t+1)))=1073741824 ^ i*(g*vl (v.take t))+1073741824 ^ (i+t)*(g*(v[t]?.getD 0).toNat):=by
  rw [h2,Nat.mul_add,Nat.mul_add,Nat.pow_add,Nat.mul_assoc,Nat.mul_left_comm g]
 rw [e1,← Int.natCast_mul,e2]
 rw [← Int.natCast_mul] at hz
 have h1':((vl (us.set (i+t) (s % 1073741824)):Nat):Int)+((1073741824 ^ (i+t):Nat):Int)*(us[i+t]?.getD 0)=(vl us:Int)+((1073741824 ^ (i+t):Nat):Int)*(s % 1073741824):=by
  have a1:((us[i+t]?.getD 0).toNat:Int)=us[i+t]?.getD 0:=by omega
  have a2:((s % 1073741824).toNat:Int)=s % 1073741824:=by omega
  have:=congrArg (Int.ofNat) h1
  simp only [Int.ofNat_eq_natCast,Int.natCast_add,Int.natCast_mul,a1,a2] at this
  exact this
 have a3:((v[t]?.getD 0).toNat:Int)=v[t]?.getD 0:=by omega
 rw [Int.natCast_add,Int.natCast_mul,Int.natCast_mul (1073741824 ^ (i+t)) (g*_),Int.natCast_mul g _,a3,Int.natCast_mul]
 rw [Int.natCast_mul] at hz
 have hd:s % 1073741824+1073741824*(s / 1073741824)=s:=Int.emod_add_mul_ediv s 1073741824
 exact ld_ring h1' hz hd hs
theorem ld_ring2 {A A' p x y d ov q s Y Bi vt:Int} (h1:A'+p*x=A+p*d) (h2:A+p*ov=Y+Bi*vt) (hd:d+1073741824*q=s) (hs:s=x+y+ov):A'+p*1073741824*q=Y+(Bi*vt+p*y):=by
 grind
theorem ld_add {ys v:List Int} {i t:Nat} {ov s Y:Int} (ho:okD ys) (hv:okD v) (ht:t<v.length) (hi:i+t<ys.length) (hov:0≤ov∧ov≤1)
  (hz:(vl ys:Int)+((1073741824 ^ (i+t):Nat):Int)*ov=Y+((1073741824 ^ i:Nat):Int)*((vl (v.take t):Nat):Int))
  (hs:s=ys[i+t]?.getD 0+v[t]?.getD 0+ov) :
  okD (ys.set (i+t) (s % 1073741824))∧(vl (ys.set (i+t) (s % 1073741824)):Int)+((1073741824 ^ (i+(t+1)):Nat):Int)*(s / 1073741824)=Y+((1073741824 ^ i:Nat):Int)*((vl (v.take (t+1)):Nat):Int) ∧
   (0≤s / 1073741824∧s / 1073741824≤1)∧(0≤s∧s≤2147483647)∧(0≤v[t]?.getD 0∧v[t]?.getD 0≤1073741823)∧(0≤ys[i+t]?.getD 0∧ys[i+t]?.getD 0≤1073741823):=by
 have hx:=okD_get ho hi
 have hy:=okD_get hv ht
 refine ⟨okD_set ho (by omega),?_,⟨by omega,by omega⟩,⟨by omega,by omega⟩,hy,hx⟩
 have h1:=vl_set hi (s % 1073741824)
 have h2:=vl_take_succ ht
 have e1:1073741824 ^ (i+(t+1))=1073741824 ^ (i+t)*1073741824:=by rw [← Nat.add_assoc,Nat.pow_succ]
 have e2:1073741824 ^ i*(vl (v.take (t+1)))=1073741824 ^ i*(vl (v.take t))+1073741824 ^ (i+t)*(v[t]?.getD 0).toNat:=by
  rw [h2,Nat.mul_add,Nat.pow_add,Nat.mul_assoc]
 rw [e1,← Int.natCast_mul,e2]
 have h1':((vl (ys.set (i+t) (s % 1073741824)):Nat):Int)+((1073741824 ^ (i+t):Nat):Int)*(ys[i+t]?.getD 0)=(vl ys:Int)+((1073741824 ^ (i+t):Nat):Int)*(s % 1073741824):=by
  have a1:((ys[i+t]?.getD 0).toNat:Int)=ys[i+t]?.getD 0:=by omega
  have a2:((s % 1073741824).toNat:Int)=s % 1073741824:=by omega
  have:=congrArg (Int.ofNat) h1
  simp only [Int.ofNat_eq_natCast,Int.natCast_add,Int.natCast_mul,a1,a2] at this
  exact this
 have a3:((v[t]?.getD 0).toNat:Int)=v[t]?.getD 0:=by omega
 rw [Int.natCast_add,Int.natCast_mul,Int.natCast_mul (1073741824 ^ (i+t)),a3,Int.natCast_mul]
 have hd:s % 1073741824+1073741824*(s / 1073741824)=s:=Int.emod_add_mul_ediv s 1073741824
 exact ld_ring2 h1' hz hd hs
theorem ld_mul_lt {a b c:Nat} (h:a*b<a*c):b<c:=Nat.lt_of_mul_lt_mul_left h
theorem ld_top {us:List Int} {i k V:Nat} (hk:2≤k) (ho:okD us) (hl:i+k<us.length) (hX:vl us<1073741824 ^ (i+1)*V) (hV:V<1073741824 ^ k) :
  ∃ X X':Nat,vl us=vl (us.take i)+1073741824 ^ i*X∧vl (us.take i)<1073741824 ^ i∧X=X'+1073741824 ^ (k - 2)*(((us[i+k]?.getD 0).toNat*1073741824+(us[i+k - 1]?.getD 0).toNat)*1073741824+(us[i+k - 2]?.getD 0).toNat)∧X'<1073741824 ^ (k - 2)∧X<1073741824*V:=by
 obtain ⟨m,rfl⟩:∃ m,k=m+2:=⟨k - 2,by omega⟩
 have h0:=vl_take_drop us i (by omega)
 have h1:=vl_lt (okD_take ho i)
 rw [List.length_take,Nat.min_eq_left (by omega)] at h1
 have hXB:vl (us.drop i)<1073741824*V:=by
  have:1073741824 ^ i*vl (us.drop i)<1073741824 ^ i*(1073741824*V):=by
   rw [← Nat.mul_assoc,← Nat.pow_succ]
   show _<1073741824 ^ (i+1)*V
   omega
  exact ld_mul_lt this
 have h2:=vl_take_drop (us.drop i) m (by rw [List.length_drop]; omega)
 have h3:=vl_lt (okD_take (okD_drop ho i) m)
 rw [List.length_take,List.length_drop,Nat.min_eq_left (by omega)] at h3
 rw [List.drop_drop] at h2
 have d1:=vl_drop us (i:=i+m) (by omega)
 have d2:=vl_drop us (i:=i+m+1) (by omega)
 have d3:=vl_drop us (i:=i+m+1+1) (by omega)
 have hz:vl (us.drop (i+m+1+1+1))=0:=by
  apply Classical.byContradiction
  intro hne
  have q1:1073741824*V<1073741824 ^ m*(1073741824*(1073741824*1073741824)):=by
   have:1073741824*V<1073741824*1073741824 ^ (m+2):=by omega
   rw [Nat.pow_succ,Nat.pow_succ] at this
   generalize 1073741824 ^ m=p at *
   omega
  have q2:1073741824 ^ m*(1073741824*(1073741824*1073741824))≤1073741824 ^ m*vl (us.drop (i+m)):=Nat.mul_le_mul_left _ (by omega)
  omega
 rw [hz] at d3
 refine ⟨vl (us.drop i),vl ((us.drop i).take m),h0,h1,?_,h3,hXB⟩
 rw [h2,Nat.add_sub_cancel]
 congr 2
 rw [d1,d2,d3,show i+(m+2)=i+m+1+1 by omega,show i+m+1+1 - 1=i+m+1 by omega,show i+m+1+1 - 2=i+m by omega]
 generalize (us[i+m+1+1]?.getD 0).toNat=a
 generalize (us[i+m+1]?.getD 0).toNat=b
 generalize (us[i+m]?.getD 0).toNat=c
 omega
theorem ld_vtop {v:List Int} (hk:2≤v.length) (ho:okD v) :
  ∃ V':Nat,vl v=V'+1073741824 ^ (v.length - 2)*((v[v.length - 1]?.getD 0).toNat*1073741824+(v[v.length - 2]?.getD 0).toNat)∧V'<1073741824 ^ (v.length - 2):=by
 obtain ⟨m,hm⟩:∃ m,v.length=m+2:=⟨v.length - 2,by omega⟩
 have h2:=vl_take_drop v m (by omega)
 have h3:=vl_lt (okD_take ho m)
 rw [List.length_take,Nat.min_eq_left (by omega)] at h3
 have d1:=vl_drop v (i:=m) (by omega)
 have d2:=vl_drop v (i:=m+1) (by omega)
 have hz:vl (v.drop (m+1+1))=0:=by rw [List.drop_eq_nil_of_le (by omega)]; rfl
 rw [hz] at d2
 rw [hm,Nat.add_sub_cancel,show m+2 - 1=m+1 by omega]
 refine ⟨vl (v.take m),?_,h3⟩
 rw [h2]
 congr 2
 rw [d1,d2]
 generalize (v[m+1]?.getD 0).toNat=a
 generalize (v[m]?.getD 0).toNat=b
 omega
theorem ld_up {X X' p h u2:Nat} (hX:X=X'+p*(h*1073741824+u2)) (hX':X'<p):X<p*(h*1073741824+u2+1):=by
 rw [Nat.mul_add p _ 1,hX]; omega
theorem ld_low {V V' p v1 v2 g:Nat} (hV:V=V'+p*(v1*1073741824+v2)):p*(g*(v1*1073741824+v2))≤g*V:=by
 rw [Nat.mul_left_comm]
 exact Nat.mul_le_mul_left _ (by omega)
theorem ld_guess0 {X X' V V' p u0 u1 u2 v1 v2 g:Nat} (hX:X=X'+p*((u0*1073741824+u1)*1073741824+u2)) (hX':X'<p) (hV:V=V'+p*(v1*1073741824+v2)) (hV':V'<p)
  (hu1:u1≤1073741823) (hu2:u2≤1073741823) (hv1:1≤v1) (hv1b:v1≤1073741823) (hv2:v2≤1073741823) (hXB:X<1073741824*V) (hg:g=if (u0*1073741824+u1) / v1≤1073741823 then (u0*1073741824+u1) / v1 else 1073741823) :
  X<(g+1)*V∧g≤1073741823∧g*v1≤u0*1073741824+u1∧u0*1073741824+u1<g*v1+2147483648∧u0≤1073741823:=by
 have hp:0<p:=by omega
 have hup:=ld_up hX hX'
 have hu0:u0≤v1:=by
  have h1:V<p*(v1*1073741824+v2+1):=ld_up hV hV'
  have h2:1073741824*V<p*((v1+1)*1073741824*1073741824):=by
   have:1073741824*(p*(v1*1073741824+v2+1))≤p*((v1+1)*1073741824*1073741824):=by
    rw [Nat.mul_left_comm]
    exact Nat.mul_le_mul_left _ (by omega)
   omega
  have h3:p*(u0*1073741824*1073741824)≤X:=by
   rw [hX]
   have:p*(u0*1073741824*1073741824)≤p*((u0*1073741824+u1)*1073741824+u2):=Nat.mul_le_mul_left _ (by omega)
   omega
  have h4:p*(u0*1073741824*1073741824)<p*((v1+1)*1073741824*1073741824):=by omega
  have:=ld_mul_lt h4
  omega
 have hd:=Nat.div_mul_le_self (u0*1073741824+u1) v1
 have hd2:u0*1073741824+u1<((u0*1073741824+u1) / v1+1)*v1:=by
  have:=Nat.lt_mul_div_succ (u0*1073741824+u1) (show 0<v1 by omega)
  rw [Nat.mul_comm v1] at this
  exact this
 split at hg
 ·
  rename_i hle
  rw [← hg] at hd hd2 hle
  refine ⟨?_,hle,hd,by rw [Nat.add_mul,Nat.one_mul] at hd2; omega,by omega⟩
  apply Classical.byContradiction
  intro hc
  have h1:=ld_low (g:=g+1) hV
  have h2:p*((u0*1073741824+u1)*1073741824+u2+1)≤p*((g+1)*(v1*1073741824+v2)):=by
   refine Nat.mul_le_mul_left _ ?_
   rw [Nat.mul_add,← Nat.mul_assoc]
   generalize (g+1)*v1=z at *
   have:0≤(g+1)*v2:=Nat.zero_le _
   omega
  omega
 ·
  rename_i hle
  subst hg
  have h1:1073741823*v1≤(u0*1073741824+u1) / v1*v1:=Nat.mul_le_mul_right _ (by omega)
  refine ⟨by omega,by omega,by omega,?_,by omega⟩
  omega
theorem ld_guessS {X X' V V' p h u2 v1 v2 g:Nat} (hX:X=X'+p*(h*1073741824+u2)) (hX':X'<p) (hV:V=V'+p*(v1*1073741824+v2)) (hgv:g*v1≤h) (hgt:(h - g*v1)*1073741824+u2<g*v2) :
  1≤g∧X<g*V:=by
 have hup:=ld_up hX hX'
 have h1:=ld_low (g:=g) hV
 have hg0:1≤g:=by
  rcases Nat.eq_zero_or_pos g with rfl | h
  ·
   omega
  ·
   exact h
 refine ⟨hg0,?_⟩
 have h2:p*(h*1073741824+u2+1)≤p*(g*(v1*1073741824+v2)):=by
  refine Nat.mul_le_mul_left _ ?_
  rw [Nat.mul_add,← Nat.mul_assoc]
  generalize g*v1=z at *
  generalize g*v2=y at *
  omega
 omega
theorem ld_guessE {X X' V V' p h u2 v1 v2 g:Nat} (hX:X=X'+p*(h*1073741824+u2)) (hV:V=V'+p*(v1*1073741824+v2)) (hV':V'<p) (hv1:1≤v1) (hg:g≤1073741823) (hgv:g*v1≤h)
  (hle:g*v2≤(h - g*v1)*1073741824+u2):g*V<X+V:=by
 have hp:0<p:=by omega
 have h1:p*(g*(v1*1073741824+v2))≤p*(h*1073741824+u2):=by
  refine Nat.mul_le_mul_left _ ?_
  rw [Nat.mul_add,← Nat.mul_assoc]
  generalize g*v1=z at *
  generalize g*v2=y at *
  omega
 have h2:g*V=g*V'+p*(g*(v1*1073741824+v2)):=by
  rw [hV,Nat.mul_add]
  congr 1
  rw [Nat.mul_left_comm]
 have h3:g*V'≤1073741823*p:=Nat.mul_le_mul hg (by omega)
 have h4:p*1073741824≤p*(v1*1073741824+v2):=Nat.mul_le_mul_left _ (by omega)
 omega
theorem ld_norm {b:List Int} (hb:canon b) (hl:1≤b.length):1≤lenN (b[b.length - 1]?.getD 0).toNat∧lenN (b[b.length - 1]?.getD 0).toNat≤30∧(dig (vl b*2 ^ (30 - lenN (b[b.length - 1]?.getD 0).toNat))).length=b.length:=by
 have h1:=canon_last hb hl
 obtain ⟨h2,h3⟩:=lenN_lt (x:=(b[b.length - 1]?.getD 0).toNat) (by omega)
 have h4:=lenN_le (x:=(b[b.length - 1]?.getD 0).toNat) (k:=30) (by omega)
 refine ⟨h3,h4,Nat.le_antisymm ?_ ?_⟩
 ·
  rw [dig_len]
  have e1:=vl_take_succ (xs:=b) (i:=b.length - 1) (by omega)
  rw [Nat.sub_add_cancel hl,List.take_of_length_le (Nat.le_refl _)] at e1
  have e2:=vl_lt (okD_take hb.1 (b.length - 1))
  rw [List.length_take,Nat.min_eq_left (by omega)] at e2
  have e3:1073741824 ^ b.length=1073741824 ^ (b.length - 1)*1073741824:=by rw [← Nat.pow_succ,Nat.succ_eq_add_one,Nat.sub_add_cancel hl]
  have e4:2 ^ lenN (b[b.length - 1]?.getD 0).toNat*2 ^ (30 - lenN (b[b.length - 1]?.getD 0).toNat)=1073741824:=by rw [← Nat.pow_add,Nat.add_sub_cancel' h4]
  rw [e3,e1]
  generalize (b[b.length - 1]?.getD 0).toNat=x at *
  generalize 2 ^ (30 - lenN x)=K at *
  generalize 2 ^ lenN x=L at *
  generalize 1073741824 ^ (b.length - 1)=p at *
  generalize vl (b.take (b.length - 1))=r at *
  have hK:0<K:=by
   rcases Nat.eq_zero_or_pos K with rfl | h
   ·
    simp at e4
   ·
    exact h
  have f1:r+p*x<p*L:=by
   have:p*(x+1)≤p*L:=Nat.mul_le_mul_left _ h2
   rw [Nat.mul_add] at this
   omega
  have f2:(r+p*x)*K<p*L*K:=Nat.mul_lt_mul_of_pos_right f1 hK
  rw [Nat.mul_assoc p,e4] at f2
  exact f2
 ·
  have:¬ (dig (vl b*2 ^ (30 - lenN (b[b.length - 1]?.getD 0).toNat))).length≤b.length - 1:=by
   rw [dig_len]
   intro h
   have h5:¬ b.length≤b.length - 1:=by omega
   rw [canon_len hb] at h5
   have:vl b*1≤vl b*2 ^ (30 - lenN (b[b.length - 1]?.getD 0).toNat):=Nat.mul_le_mul_left _ (Nat.pow_pos (by decide))
   omega
  omega
theorem ld_head {us:List Int} {m:Nat} (ho:okD us) (hm:m≤us.length) (h:vl us<1073741824 ^ m):vl (us.take m)=vl us:=by
 have h1:=vl_take_drop us m hm
 rcases Nat.eq_zero_or_pos (vl (us.drop m)) with h0 | h0
 ·
  rw [h0,Nat.mul_zero] at h1; omega
 ·
  have:1073741824 ^ m*1≤1073741824 ^ m*vl (us.drop m):=Nat.mul_le_mul_left _ h0
  omega
theorem ld_last {U Q a b K:Nat} (hb:0<b) (hK:0<K) (h:U+Q*(b*K)=a*K) (hl:U<b*K):Q=a / b∧U / K=a % b:=by
 have h1:=(Nat.div_mod_unique (Nat.mul_pos hb hK) (a:=a*K) (c:=U) (d:=Q)).2 ⟨by rw [Nat.mul_comm (b*K)]; exact h,hl⟩
 rw [Nat.mul_div_mul_right _ _ hK,Nat.mul_mod_mul_right] at h1
 refine ⟨h1.1.symm,?_⟩
 rw [← h1.2,Nat.mul_div_cancel _ hK]
theorem ld_zero {us:List Int} {m:Nat} (ho:okD us) (hm:m≤us.length) (h:vl us<1073741824 ^ m):vl (us.drop m)=0:=by
 have h1:=vl_take_drop us m hm
 rcases Nat.eq_zero_or_pos (vl (us.drop m)) with h0 | h0
 ·
  exact h0
 ·
  have:1073741824 ^ m*1≤1073741824 ^ m*vl (us.drop m):=Nat.mul_le_mul_left _ h0
  omega
theorem ld_ringA {L p X gV V z:Int} (h1:z=L+p*X - p*gV) (hL:0≤L) (hL2:L<p) (hX:X<gV+V) (hp:0<p):z<p*V:=by
 have h2:p*(X - gV)≤p*(V - 1):=Int.mul_le_mul_of_nonneg_left (by omega) (by omega)
 have h3:p*(X - gV)=p*X - p*gV:=by grind
 have h4:p*(V - 1)=p*V - p:=by grind
 omega
theorem ld_ringB {L p X gV V z:Int} (h1:z=L+p*X - p*gV) (hL:0≤L) (hX:gV<X+V) (hp:0<p):0<z+p*V:=by
 have h2:p*1≤p*(X+V - gV):=Int.mul_le_mul_of_nonneg_left (by omega) (by omega)
 have h3:p*(X+V - gV)=p*X+p*V - p*gV:=by grind
 omega
theorem ld_gV {g V:Nat}:(g+1)*V=g*V+V:=by rw [Nat.add_mul,Nat.one_mul]
theorem ld_castA {u0 u1 gv u2 gw:Nat} (hle:gv≤u0*1073741824+u1) (hA:((u0:Int)*1073741824+u1 - (gv:Int))*1073741824+u2<(gw:Int)):(u0*1073741824+u1 - gv)*1073741824+u2<gw:=by omega
theorem ld_castB {u0 u1 gv u2 gw:Nat} (hle:gv≤u0*1073741824+u1) (hgw:gw≤1152921502459363329) (hE:((u0:Int)*1073741824+u1 - (gv:Int))*1073741824+u2<(gw:Int)→1073741823<((u0:Int)*1073741824+u1 - (gv:Int))):gw≤(u0*1073741824+u1 - gv)*1073741824+u2:=by omega
def LdSub (us v:List Int) (i g t:Nat) (ys:List Int) (ow:Int):Prop :=
 okD ys∧(-1073741823≤ow∧ow≤0)∧(vl ys:Int)+((1073741824 ^ (i+t):Nat):Int)*ow=vl us - ((1073741824 ^ i:Nat):Int)*((g*vl (v.take t):Nat):Int)∧ys.drop (i+t)=us.drop (i+t)
def LdAdd (ys v:List Int) (i t:Nat) (zs:List Int) (ov:Int):Prop :=
 okD zs∧(0≤ov∧ov≤1)∧(vl zs:Int)+((1073741824 ^ (i+t):Nat):Int)*ov=vl ys+((1073741824 ^ i:Nat):Int)*((vl (v.take t):Nat):Int)∧zs.drop (i+t)=ys.drop (i+t)
theorem LdSub.zero {us v:List Int} {i g:Nat} (h:okD us):LdSub us v i g 0 us 0:=⟨h,by omega,by simp [vl],rfl⟩
theorem LdAdd.zero {ys v:List Int} {i:Nat} (h:okD ys):LdAdd ys v i 0 ys 0:=⟨h,by omega,by simp [vl],rfl⟩
theorem LdSub.step {us v ys:List Int} {i t g:Nat} {ow s:Int} (hh:LdSub us v i g t ys ow) (hv:okD v) (ht:t<v.length) (hi:i+t<ys.length) (hg:g≤1073741823)
  (hs:s=ys[i+t]?.getD 0 - (g:Int)*v[t]?.getD 0+ow):LdSub us v i g (t+1) (ys.set (i+t) (s % 1073741824)) (s / 1073741824)∧(-1152921504606846976≤s∧s≤1073741823)∧(0≤(g:Int)*v[t]?.getD 0∧(g:Int)*v[t]?.getD 0≤1152921502459363329):=by
 obtain ⟨h1,h2,h3,h4⟩:=hh
 obtain ⟨s1,s2,s3,s4,s5⟩:=ld_sub h1 hv ht hi hg h2 h3 hs
 refine ⟨⟨s1,s3,s2,?_⟩,s4,s5⟩
 rw [← Nat.add_assoc,drop_set_succ]
 exact drop_eq_succ h4
theorem LdAdd.step {ys v zs:List Int} {i t:Nat} {ov s:Int} (hh:LdAdd ys v i t zs ov) (hv:okD v) (ht:t<v.length) (hi:i+t<zs.length)
  (hs:s=zs[i+t]?.getD 0+v[t]?.getD 0+ov):LdAdd ys v i (t+1) (zs.set (i+t) (s % 1073741824)) (s / 1073741824)∧(0≤s∧s≤2147483647)∧(0≤v[t]?.getD 0∧v[t]?.getD 0≤1073741823)∧(0≤zs[i+t]?.getD 0∧zs[i+t]?.getD 0≤1073741823):=by
 obtain ⟨h1,h2,h3,h4⟩:=hh
 obtain ⟨s1,s2,s3,s4,s5,s6⟩:=ld_add h1 hv ht hi h2 h3 hs
 refine ⟨⟨s1,s3,s2,?_⟩,s4,s5,s6⟩
 rw [← Nat.add_assoc,drop_set_succ]
 exact drop_eq_succ h4
theorem ld_fin1 {us ys:List Int} {i k V X L g:Nat} {ow:Int} (hy:okD ys) (hl:ys.length=us.length) (hi:i+k<us.length) (hd:ys[i+k]?.getD 0=us[i+k]?.getD 0)
  (hz:(vl ys:Int)+((1073741824 ^ (i+k):Nat):Int)*ow=vl us - ((1073741824 ^ i:Nat):Int)*((g*V:Nat):Int)) (hx:vl us=L+1073741824 ^ i*X) (hL:L<1073741824 ^ i) (hX:X<(g+1)*V)
  (hc:0≤us[i+k]?.getD 0+ow) (how:ow≤0) :
  okD (ys.set (i+k) (us[i+k]?.getD 0+ow))∧vl (ys.set (i+k) (us[i+k]?.getD 0+ow))+1073741824 ^ i*(g*V)=vl us∧vl (ys.set (i+k) (us[i+k]?.getD 0+ow))<1073741824 ^ i*V:=by
 have hy2:=okD_get hy (i:=i+k) (by omega)
 have h1:=vl_set (xs:=ys) (i:=i+k) (by omega) (us[i+k]?.getD 0+ow)
 rw [hd] at h1 hy2
 have h2:(vl (ys.set (i+k) (us[i+k]?.getD 0+ow)):Int)=vl ys+((1073741824 ^ (i+k):Nat):Int)*ow:=by
  obtain ⟨u,hu⟩:∃ u:Nat,us[i+k]?.getD 0=u:=⟨(us[i+k]?.getD 0).toNat,by omega⟩
  obtain ⟨c,hc'⟩:∃ c:Nat,us[i+k]?.getD 0+ow=c:=⟨(us[i+k]?.getD 0+ow).toNat,by omega⟩
  rw [hc',hu,Int.toNat_natCast,Int.toNat_natCast] at h1
  rw [hc']
  have h3:ow=(c:Int) - u:=by omega
  have h4:=congrArg (Int.ofNat) h1
  simp only [Int.ofNat_eq_natCast,Int.natCast_add,Int.natCast_mul] at h4
  rw [h3]
  generalize ((1073741824 ^ (i+k):Nat):Int)=p at *
  rw [Int.mul_sub]
  omega
 refine ⟨okD_set hy (by omega),?_,?_⟩
 ·
  generalize vl (ys.set (i+k) (us[i+k]?.getD 0+ow))=A at *
  have:((A+1073741824 ^ i*(g*V):Nat):Int)=(vl us:Int):=by
   rw [Int.natCast_add,Int.natCast_mul]
   omega
  exact Int.ofNat.inj this
 ·
  generalize vl (ys.set (i+k) (us[i+k]?.getD 0+ow))=A at *
  have hp:0<1073741824 ^ i:=pow_pos' i
  rw [ld_gV] at hX
  generalize g*V=gV at *
  have h5:=ld_ringA (L:=L) (p:=((1073741824 ^ i:Nat):Int)) (X:=X) (gV:=gV) (V:=V) (z:=A) (by rw [← Int.natCast_mul _ X,h2,hz,hx,Int.natCast_add]) (by omega) (by omega) (by omega) (by omega)
  rw [← Int.natCast_mul] at h5
  omega
theorem ld_fin2 {us ys:List Int} {i k V X L g:Nat} {ow:Int} (hu:okD us) (hy:okD ys) (hl:ys.length=us.length) (hi:i+k<us.length) (hd:ys.drop (i+k)=us.drop (i+k))
  (hz:(vl ys:Int)+((1073741824 ^ (i+k):Nat):Int)*ow=vl us - ((1073741824 ^ i:Nat):Int)*((g*V:Nat):Int)) (hx:vl us=L+1073741824 ^ i*X) (hX:g*V<X+V) (hlt:vl us<1073741824 ^ (i+1)*V) (hV:V<1073741824 ^ k)
  (hc:us[i+k]?.getD 0+ow<0) :
  okD (ys.set (i+k) 0)∧∀ (zs:List Int) (ov:Int),okD zs→zs.length=us.length→zs.drop (i+k)=(ys.set (i+k) 0).drop (i+k)→0≤ov∧ov≤1→(vl zs:Int)+((1073741824 ^ (i+k):Nat):Int)*ov=vl (ys.set (i+k) 0)+((1073741824 ^ i:Nat):Int)*((V:Nat):Int) →
   us[i+k]?.getD 0+ow+ov=0∧1≤g∧vl zs+1073741824 ^ i*((g - 1)*V)=vl us∧vl zs<1073741824 ^ i*V:=by
 have hd1:ys[i+k]?.getD 0=us[i+k]?.getD 0:=by
  have:=congrArg (fun l=>l[0]?.getD 0) hd
  simpa only [List.getElem?_drop,Nat.add_zero] using this
 have hU:=vl_set (xs:=ys) (i:=i+k) (by omega) 0
 rw [hd1,Int.toNat_zero,Nat.mul_zero,Nat.add_zero] at hU
 have hu2:=okD_get hu hi
 refine ⟨okD_set hy (by omega),fun zs ov hzo hzl hzd hov hzv => ?_⟩
 have hlt2:vl us<1073741824 ^ (i+k+1):=by
  refine Nat.lt_of_lt_of_le hlt ?_
  rw [show i+k+1=i+1+k by omega,Nat.pow_add _ (i+1) k]
  exact Nat.mul_le_mul_left _ (by omega)
 have hz0:=ld_zero hu (by omega) hlt2
 have low:∀ xs:List Int,okD xs→xs.length=us.length→xs.drop (i+k)=(ys.set (i+k) 0).drop (i+k)→vl xs<1073741824 ^ (i+k):=by
  intro xs ho hxl hxd
  have e1:=vl_take_drop xs (i+k) (by omega)
  have e2:=vl_lt (okD_take ho (i+k))
  rw [List.length_take,Nat.min_eq_left (by omega)] at e2
  have e3:vl (xs.drop (i+k))=0:=by
   rw [hxd,vl_drop _ (by rw [List.length_set]; omega),drop_set_succ,drop_eq_succ hd,hz0,List.getElem?_set_self (by omega)]
   rfl
  rw [e3,Nat.mul_zero] at e1
  omega
 have hlz:=low zs hzo hzl hzd
 have hly:=low _ (okD_set (i:=i+k) (x:=0) hy (by omega)) (by rw [List.length_set]; exact hl) rfl
 generalize us[i+k]?.getD 0=u at *
 obtain ⟨u',rfl⟩:∃ u':Nat,u=u':=⟨u.toNat,by omega⟩
 rw [Int.toNat_natCast] at hU
 generalize vl (ys.set (i+k) 0)=Y at *
 generalize vl zs=Zs at *
 generalize vl ys=Y0 at *
 have hpk:0<1073741824 ^ (i+k):=pow_pos' _
 have hpi:0<1073741824 ^ i:=pow_pos' _
 have hU':(Y:Int)+((1073741824 ^ (i+k):Nat):Int)*u'=Y0:=by rw [← Int.natCast_mul]; omega
 generalize hA:((1073741824 ^ (i+k):Nat):Int)=pk at *
 have hB:((1073741824 ^ i:Nat):Int)*(X:Int)=((1073741824 ^ i*X:Nat):Int):=(Int.natCast_mul _ _).symm
 have hB2:((1073741824 ^ i:Nat):Int)*(V:Int)=((1073741824 ^ i*V:Nat):Int):=(Int.natCast_mul _ _).symm
 have hgV:(((g - 1)*V:Nat):Int)=if 1≤g then ((g*V:Nat):Int) - V else 0:=by
  split
  ·
   obtain ⟨g',rfl⟩:∃ g',g=g'+1:=⟨g - 1,by omega⟩
   rw [Nat.add_sub_cancel,ld_gV]; omega
  ·
   rw [show g - 1=0 by omega,Nat.zero_mul]; rfl
 have k1:(Y:Int)+pk*(u'+ow)=vl us - ((1073741824 ^ i:Nat):Int)*((g*V:Nat):Int):=by
  rw [Int.mul_add]; omega
 have k2:=ld_ringB (L:=L) (p:=((1073741824 ^ i:Nat):Int)) (X:=X) (gV:=((g*V:Nat):Int)) (V:=V) (z:=(Y:Int)+pk*(u'+ow)) (by rw [k1,hx,Int.natCast_add,hB]) (by omega) (by omega) (by omega)
 have k3:(Zs:Int)+pk*(u'+ow+ov)=(Y:Int)+pk*(u'+ow)+((1073741824 ^ i:Nat):Int)*(V:Int):=by
  rw [Int.mul_add pk (u'+ow) ov]; omega
 have k4:u'+ow+ov=0:=by
  apply Classical.byContradiction
  intro hne
  have h1:(u':Int)+ow+ov ≤ -1:=by omega
  have h2:pk*(u'+ow+ov)≤pk*(-1):=Int.mul_le_mul_of_nonneg_left h1 (by omega)
  omega
 rw [k4,Int.mul_zero,Int.add_zero] at k3
 have k5:pk*(u'+ow)≤pk*(-1):=Int.mul_le_mul_of_nonneg_left (by omega) (by omega)
 have k6:1≤g:=by
  apply Classical.byContradiction
  intro h0
  have:g=0:=by omega
  subst this
  rw [Nat.zero_mul] at k1
  omega
 refine ⟨k4,k6,?_,by rw [hB2] at k3; omega⟩
 rw [if_pos k6] at hgV
 have:((Zs+1073741824 ^ i*((g - 1)*V):Nat):Int)=(vl us:Int):=by
  rw [Int.natCast_add,Int.natCast_mul,hgV,Int.mul_sub,k3,k1]
  omega
 exact Int.ofNat.inj this
theorem ld_quot {q:List Int} {i V us w us':Nat} {g:Nat} (hi:i<q.length) (hinv:us+1073741824 ^ (i+1)*(vl (q.drop (i+1))*V)=w) (h:us'+1073741824 ^ i*(g*V)=us) :
  us'+1073741824 ^ i*(vl ((q.set i (g:Int)).drop i)*V)=w:=by
 rw [vl_drop _ (by rw [List.length_set]; exact hi),drop_set_succ,List.getElem?_set_self hi,Option.getD_some,Int.toNat_natCast,← hinv,← h,Nat.pow_succ]
 generalize vl (q.drop (i+1))=r
 generalize 1073741824 ^ i=p
 rw [Nat.add_mul,Nat.mul_add,Nat.mul_assoc 1073741824,Nat.mul_assoc p]
 omega
theorem set_zero_same {zs:List Int} {n:Nat} (hn:n<zs.length) (h:zs[n]?.getD 0=0):zs.set n 0=zs:=by
 rw [List.getElem?_eq_getElem hn,Option.getD_some] at h
 have:=List.set_getElem_self hn
 rwa [h] at this
theorem LdAdd.top {ys v zs:List Int} {i t:Nat} {ov:Int} (h:LdAdd ys v i t zs ov):zs[i+t]?.getD 0=ys[i+t]?.getD 0:=by
 have:=congrArg (fun l=>l[0]?.getD 0) h.2.2.2
 simpa only [List.getElem?_drop,Nat.add_zero] using this
def nr13Γ:List (FuncId×Con):=(206,conLead64)::(91,conShort)::nr9Γ
theorem nr13Γ_ok:OkΓ nr13Γ:=by
 simp only [OkΓ,nr13Γ,List.forall_mem_cons]
 exact ⟨⟨enters_of func206 (by kernel_rfl) rfl,lead64_ok⟩,⟨enters_of func91 (by kernel_rfl) rfl,short_ok⟩,nr9Γ_ok⟩
def nr13E:List (FuncId×ECon):=(207,conMovE)::nr9E
theorem nr13E_ok:OkE nr13E:=by
 simp only [OkE,nr13E,List.forall_mem_cons]
 exact ⟨⟨enters_of func207 (by kernel_rfl) rfl,movE_ok⟩,nr9E_ok⟩
def nr13P:=nr9P
theorem nr13P_ok:OkP nr13P:=nr9P_ok
def nr13F:=nr9F
theorem nr13F_ok:OkF nr13F:=nr9F_ok
def nr13:G:={ τ:=nrT,Γ:=nr13Γ,E:=nr13E,Pn:=nr13P,E2:=nr13F }
theorem nr13_good:nr13.good prog:=good_of_all (nrT_ok _ rfl) nr13Γ_ok nr13E_ok nr13P_ok nr13F_ok
theorem nr13_all:(∀ t,nr13.td t=(look nrT t).getD .other)∧nr13.y=false∧nr13.Γ=nr13Γ∧nr13.E=nr13E∧nr13.Pn=nr13P∧nr13.E2=nr13F∧nr13.fz=[]∧nr13.te=false∧nr13.bo=false∧nr13.pm=false:=⟨fun _=>rfl,rfl,rfl,rfl,rfl,rfl,rfl,rfl,rfl,rfl⟩
def nr13_S:=And.intro (And.intro @nrT.eq_1 (And.intro @nr13Γ.eq_1 (And.intro @nr13E.eq_1 (And.intro @nr13P.eq_1 (And.intro @nr13F.eq_1 (And.intro @conLead64_eq (And.intro @conShort_eq (@conMovE.eq_1)))))))) nr9_S
def conLong:Con:=⟨fun args=>(match args with
 | [.s (.sl (.int .i64) a _),.s (.sl (.int .i64) b _)]=>canon a∧canon b∧2≤b.length∧b.length≤a.length∧a.length≤4096
 | _=>False),fun args=>match args with
 | [.s (.sl (.int .i64) a _),.s (.sl (.int .i64) b _)]=>.tup [aS tI (dig (vl a / vl b)) false,aS tI (dig (vl a % vl b)) false]
 | _=>.v (.s .any)⟩
theorem conLong_eq (a:List (Ty.T tI)) (exa:Bool) (b:List (Ty.T tI)) (exb:Bool):conLong.pre [.s (.sl tI a exa),.s (.sl tI b exb)]=(canon a∧canon b∧2≤b.length∧b.length≤a.length∧a.length≤4096)∧conLong.val [.s (.sl tI a exa),.s (.sl tI b exb)]=.tup [aS tI (dig (vl a / vl b)) false,aS tI (dig (vl a % vl b)) false]:=⟨rfl,rfl⟩
theorem fl_map (l:List Int):(Ty.int .i64).flats l=l.map (SV.int .i64):=by
 induction l with
 | nil=>rfl
 | cons x l ih=>simp [Ty.flats,Ty.flat,ih]
theorem fl_take2 (l:List Int) (m:Nat):List.take m ((Ty.int .i64).flats l)++(Ty.int .i64).flats [0,0]=(Ty.int .i64).flats (l.take m++[0,0]):=by
 rw [fl_map,fl_map,fl_map,List.map_append,List.map_take]
theorem vl_pad (xs:List Int) (n:Nat):vl (xs++List.replicate n 0)=vl xs:=by rw [vl_append,vl_rep,Nat.mul_zero,Nat.add_zero]
theorem long_ok:PureOk prog 184 conLong:=by
 refine pureOkD (L:={ live:=[0,1,4,5,6,7,8,9,10,11,12,13,14,15,16,17,18,53,116,120,121,122,164,168,169,170],frz:=[(3,[7]),(33,[8]),(34,[4])] }) nr13_good rfl nr_mixed func184 rfl conLong 2 (by decide) (by kernel_rfl) ?_
 intro args hpre hlens
 simp only [conLong] at hpre
 split at hpre
 case h_2=>exact hpre.elim
 rename_i a ea b eb
 simp only [lenS] at hlens
 refine ⟨rfl,?_⟩
 simp -dsimp -implicitDefEqProofs [f184,conLong_eq,nr13_all,nr13_S,inI64]
 obtain ⟨ha,hb,hb2,hba,hal⟩:=hpre
 change List Int at a; change List Int at b
 have hx:=canon_last hb (by omega)
 have hw:IntKind.u64.wrap (b[b.length - 1]?.getD 0)=b[b.length - 1]?.getD 0:=by rw [IntKind.wrap_u64]; omega
 obtain ⟨n1,n2,n3⟩:=ld_norm hb (by omega)
 rw [hw]
 generalize lenN (b[b.length - 1]?.getD 0).toNat=L at *
 have e1:64 - (L:Int) - 34=((30 - L:Nat):Int):=by omega
 rw [e1,Int.toNat_natCast]
 generalize hn:30 - L=n at *
 have hmx:10000≤maxLen:=by simp only [maxLen]; omega
 refine ⟨⟨by omega,by omega⟩,⟨by omega,by omega⟩,⟨by omega,by omega⟩,⟨by omega,by omega⟩,⟨hb.1,by omega,by omega,by omega⟩,fun xs hxo hxl hxv=>⟨xs,rfl,rfl,⟨ha.1,by omega,by omega,by omega⟩,fun ys hyo hyl hyv => ?_⟩⟩
 have hxt:trimL xs=dig (vl b*2 ^ n):=by rw [← dig_vl hxo,hxv]
 have hyt:trimL ys=dig (vl a*2 ^ n):=by rw [← dig_vl hyo,hyv]
 have hly:a.length≤(dig (vl a*2 ^ n)).length∧(dig (vl a*2 ^ n)).length≤a.length+1:=by
  refine ⟨?_,by rw [← hyt]; have:=trimL_len ys; omega⟩
  have:¬ (dig (vl a*2 ^ n)).length≤a.length - 1:=by
   rw [dig_len]
   intro h
   have h5:¬ a.length≤a.length - 1:=by omega
   rw [canon_len ha] at h5
   have:vl a*1≤vl a*2 ^ n:=Nat.mul_le_mul_left _ (Nat.pow_pos (by decide))
   omega
  omega
 have hq:((a.length:Int) - (b.length:Int)+1).toNat=a.length - b.length+1:=by omega
 have hmax:max ((a.length:Int) - (b.length:Int)+1) 0 - 1=((a.length - b.length+1:Nat):Int) - 1:=by omega
 rw [fl_take2,← trimL_take ys,← trimL_take xs,Nat.min_eq_left (trimL_len xs),Nat.min_eq_left (trimL_len ys),hxt,hyt,n3,hq,hmax]
 refine ⟨⟨rfl,by omega,by omega⟩,⟨by omega,by omega⟩,⟨rfl,by omega,by omega⟩,⟨by omega,by omega⟩,⟨by omega,by omega⟩,⟨by omega,by omega,by omega⟩,⟨by omega,by omega⟩,?_⟩
 have hV:vl (dig (vl b*2 ^ n))=vl b*2 ^ n:=vl_dig _
 have hW:vl (dig (vl a*2 ^ n))=vl a*2 ^ n:=vl_dig _
 have hvo:=canon_dig (vl b*2 ^ n)
 have hWo:=okD_dig (vl a*2 ^ n)
 have hV0:vl a*2 ^ n<1073741824 ^ (a.length - b.length+1)*(vl b*2 ^ n):=by
  have h1:=vl_lt ha.1
  have h2:¬ vl b<1073741824 ^ (b.length - 1):=fun h=>by have:=(canon_len hb).2 h; omega
  have h3:1073741824 ^ a.length=1073741824 ^ (a.length - b.length+1)*1073741824 ^ (b.length - 1):=by rw [← Nat.pow_add]; congr 1; omega
  have h4:1073741824 ^ (a.length - b.length+1)*1073741824 ^ (b.length - 1)≤1073741824 ^ (a.length - b.length+1)*vl b:=Nat.mul_le_mul_left _ (by omega)
  rw [← Nat.mul_assoc]
  exact Nat.mul_lt_mul_of_pos_right (by omega) (Nat.pow_pos (by decide))
 have hp2:=pow2_le (k:=n) (by omega) (by omega)
 rw [Int.toNat_natCast] at hp2
 generalize dig (vl b*2 ^ n)=v at *
 generalize dig (vl a*2 ^ n)=w at *
 refine WpD.loop (L:={ live:=[0,1,4,5,6,7,8,9,10,11,12,13,14,15,16,17,18,53,116,120,121,122,164,168,169,170],frz:=[(3,[7]),(33,[8]),(34,[4])] }) nr13_good X0_ok nr_mixed (by kernel_rfl)
  (fun p:Nat×List Int×List Int=>⟨[(4,⟨true,.v (.s (.own tI 3 (a.length - b.length+1)))⟩),(5,vS tI [] true),(6,vI n),(7,vS tI v false),(8,⟨true,.v (.s (.pre tI 2 (w.length+2) (a.length+1)))⟩),(9,vI b.length),(10,vI ((p.1:Int) - 1))],[.dead,.dead,.arr true (tI.flats p.2.1),.arr true (tI.flats p.2.2)]⟩)
  (fun p=>p.1≤a.length - b.length+1∧p.2.1.length=w.length+2∧okD p.2.1∧p.2.2.length=a.length - b.length+1∧okD p.2.2∧vl p.2.1+1073741824 ^ p.1*(vl (p.2.2.drop p.1)*vl v)=vl w∧vl p.2.1<1073741824 ^ p.1*vl v) (fun p=>p.1) (a.length - b.length+1,w++[0,0],List.replicate (a.length - b.length+1) 0)
  ⟨by omega,by simp,okD_append.2 ⟨hWo,by simp [okD]⟩,List.length_replicate,okD_rep _,?_,?_⟩ (Turn.le (by simp -dsimp -implicitDefEqProofs)) ?_
 ·
  show vl (w++List.replicate 2 0)+1073741824 ^ (a.length - b.length+1)*(vl (List.drop (a.length - b.length+1) (List.replicate (a.length - b.length+1) 0))*vl v)=vl w
  rw [vl_pad,List.drop_eq_nil_of_le (by rw [List.length_replicate]; exact Nat.le_refl _),show vl []=0 from rfl,Nat.zero_mul,Nat.mul_zero,Nat.add_zero]
 ·
  show vl (w++List.replicate 2 0)<1073741824 ^ (a.length - b.length+1)*vl v
  rw [vl_pad,hW,hV]
  exact hV0
 rintro ⟨j,us,q⟩ ⟨hj,hul,huo,hql,hqo,hinv,hlt⟩
 simp only at hj hul huo hql hqo hinv hlt
 have hvl:=vl_lt hvo.1
 rw [n3] at hvl
 have hbp:0<vl b:=(vl_pos hb).2 (by omega)
 rcases Nat.eq_zero_or_pos j with rfl | hj0
 ·
  simp -dsimp -implicitDefEqProofs [conLong_eq,nr13_all,nr13_S,inI64]
  rw [Nat.pow_zero,Nat.one_mul,List.drop_zero,hV,hW] at hinv
  rw [Nat.pow_zero,Nat.one_mul] at hlt
  have hh:=ld_head (m:=a.length+1) huo (by omega) (Nat.lt_of_lt_of_le (Nat.lt_trans hlt hvl) (Nat.pow_le_pow_right (by decide) (by omega)))
  rw [hV] at hlt
  obtain ⟨d1,d2⟩:=ld_last hbp (by omega) hinv hlt
  have e2:((2:Int) ^ n)=((2 ^ n:Nat):Int):=by rw [Int.natCast_pow]; rfl
  have hto:=okD_trim (okD_take huo (a.length+1))
  have htl:=trimL_len (us.take (a.length+1))
  rw [List.length_take] at htl
  refine ⟨us,rfl,hul.symm,⟨⟨by omega,.inr (by show n<64; omega)⟩,by omega,by omega⟩,⟨hto,by omega,by omega⟩,q,rfl,hql.symm,?_,?_⟩
  ·
   rw [← dig_vl hqo,d1]
  ·
   rw [vl_trim,hh,e2,Int.toNat_natCast,d2]
 ·
  obtain ⟨i,rfl⟩:∃ i,j=i+1:=⟨j - 1,by omega⟩
  have hib:i+b.length<us.length:=by omega
  have t0:((i:Int)+(b.length:Int)).toNat=i+b.length:=by omega
  have f0:=fl_at (xs:=us) (j:=i+b.length) hib
  have f1:=fl_at (xs:=us) (j:=i+b.length - 1) (by omega)
  have f2:=fl_at (xs:=us) (j:=i+b.length - 2) (by omega)
  simp -dsimp -implicitDefEqProofs [conLong_eq,t0,f0,f1,f2,nr13_all,nr13_S,inI64]
  obtain ⟨X,X',x1,x2,x3,x4,x5⟩:=ld_top (k:=b.length) hb2 huo hib hlt hvl
  obtain ⟨V',y1,y2⟩:=ld_vtop (by omega) hvo.1
  have b0:=okD_get huo hib
  have b1:=okD_get huo (i:=i+b.length - 1) (by omega)
  have b2:=okD_get huo (i:=i+b.length - 2) (by omega)
  have c1:=canon_last hvo (by omega)
  have c2:=okD_get hvo.1 (i:=v.length - 2) (by omega)
  rw [n3] at y1 y2 c1 c2
  obtain ⟨u0,h0⟩:∃ u:Nat,us[i+b.length]?.getD 0=u:=⟨(us[i+b.length]?.getD 0).toNat,by omega⟩
  obtain ⟨u1,h1⟩:∃ u:Nat,us[i+b.length - 1]?.getD 0=u:=⟨(us[i+b.length - 1]?.getD 0).toNat,by omega⟩
  obtain ⟨u2,h2⟩:∃ u:Nat,us[i+b.length - 2]?.getD 0=u:=⟨(us[i+b.length - 2]?.getD 0).toNat,by omega⟩
  obtain ⟨v1,h3⟩:∃ u:Nat,v[b.length - 1]?.getD 0=u:=⟨(v[b.length - 1]?.getD 0).toNat,by omega⟩
  obtain ⟨v2,h4⟩:∃ u:Nat,v[b.length - 2]?.getD 0=u:=⟨(v[b.length - 2]?.getD 0).toNat,by omega⟩
  rw [h0,h1,h2,Int.toNat_natCast,Int.toNat_natCast,Int.toNat_natCast] at x3
  rw [h3,h4,Int.toNat_natCast,Int.toNat_natCast] at y1
  rw [h0] at b0
  rw [h1] at b1
  rw [h2] at b2
  rw [h3] at c1
  rw [h4] at c2
  rw [h0,h1,h3]
  have et:((u0:Int)*1073741824+(u1:Int)).tdiv (v1:Int)=(((u0*1073741824+u1) / v1:Nat):Int):=by
   rw [show (u0:Int)*1073741824+(u1:Int)=((u0*1073741824+u1:Nat):Int) by omega]; exact Int.ofNat_tdiv _ _
  rw [et]
  obtain ⟨g1,g2,g3,g4,g5⟩:=ld_guess0 x3 x4 y1 y2 (by omega) (by omega) (by omega) (by omega) (by omega) x5 rfl
  have eg:(if (1073741823:Int)<(((u0*1073741824+u1) / v1:Nat):Int) then (1073741823:Int) else (((u0*1073741824+u1) / v1:Nat):Int))=((if (u0*1073741824+u1) / v1≤1073741823 then (u0*1073741824+u1) / v1 else 1073741823:Nat):Int):=by
   split <;> split <;> omega
  rw [eg]
  have hdv:(u0*1073741824+u1) / v1≤u0*1073741824+u1:=Nat.div_le_self _ _
  generalize (if (u0*1073741824+u1) / v1≤1073741823 then (u0*1073741824+u1) / v1 else 1073741823)=g0 at *
  generalize (u0*1073741824+u1) / v1=gd at *
  refine ⟨⟨by omega,by omega⟩,⟨hul,by omega,by omega⟩,⟨hul,hib⟩,⟨by decide,by omega,by omega⟩,⟨by omega,by omega⟩,⟨by omega,by omega⟩,⟨hul,by omega,by omega⟩,⟨hul,by omega⟩,⟨by omega,by omega,by omega,by omega⟩,⟨by omega,by omega⟩,⟨by omega,by omega⟩,⟨by omega,by omega,by omega⟩,?_⟩
  refine WpD.loop (L:={ live:=[0,1,4,5,6,7,8,9,10,11,12,13,14,15,16,17,18,53,116,120,121,122,164,168,169,170],frz:=[(3,[7]),(33,[8]),(34,[4])] }) nr13_good X0_ok nr_mixed (by kernel_rfl)
   (fun g:Nat=>⟨[(4,⟨true,.v (.s (.own tI 3 (a.length - b.length+1)))⟩),(5,vS tI [] true),(6,vI n),(7,vS tI v false),(8,⟨true,.v (.s (.pre tI 2 (w.length+2) (a.length+1)))⟩),(9,vI b.length),(10,vI i),(11,vI ((u0*1073741824+u1:Nat):Int)),(12,vI g)],[.dead,.dead,.arr true (tI.flats us),.arr true (tI.flats q)]⟩)
   (fun g=>X<(g+1)*vl v∧g≤1073741823∧g*v1≤u0*1073741824+u1∧u0*1073741824+u1<g*v1+2147483648) (fun g=>g) g0 ⟨g1,g2,g3,g4⟩ (Turn.le (by simp -dsimp -implicitDefEqProofs)) ?_
  clear g1 g2 g3 g4 eg hdv et
  rintro g ⟨g1,g2,g3,g4⟩
  have t2:((i:Int)+(b.length:Int) - 2).toNat=i+b.length - 2:=by omega
  have t3:((b.length:Int) - 2).toNat=b.length - 2:=by omega
  simp -dsimp -implicitDefEqProofs [conLong_eq,t0,t2,t3,f0,f1,f2,n3,h2,h3,h4,nr13_all,nr13_S,inI64]
  have hgw:g*v2≤1152921502459363329:=Nat.le_trans (Nat.mul_le_mul g2 (show v2≤1073741823 by omega)) (by decide)
  have hgz:=Nat.zero_le (g*v2)
  have hgy:=Nat.zero_le (g*v1)
  have p1:(g:Int)*(v1:Int)=((g*v1:Nat):Int):=(Int.natCast_mul _ _).symm
  have p2:(g:Int)*(v2:Int)=((g*v2:Nat):Int):=(Int.natCast_mul _ _).symm
  rw [p1,p2]
  refine ⟨⟨by omega,by omega⟩,⟨by omega,by omega⟩,⟨by omega,by omega⟩,⟨by omega,by omega⟩,⟨by omega,by omega⟩,⟨by omega,by omega⟩,⟨by omega,by omega⟩,⟨by decide,by omega,by omega⟩,⟨by omega,by omega⟩,⟨by omega,by omega⟩,⟨hul,by omega,by omega⟩,⟨hul,by omega⟩,⟨by omega,by omega,by omega⟩,
   fun h=>⟨h,by omega,by omega⟩,fun h=>⟨h,by omega,by omega⟩,fun h=>⟨h,by omega,by omega⟩,fun h=>⟨h,by omega,by omega⟩,fun hA hB => ?_,fun hE => ?_⟩
  ·
   obtain ⟨s1,s2⟩:=ld_guessS (h:=u0*1073741824+u1) (g:=g) x3 x4 y1 g3 (ld_castA g3 hA)
   obtain ⟨k,rfl⟩:∃ k,g=k+1:=⟨g - 1,by omega⟩
   have e1:(k+1)*v1=k*v1+v1:=by rw [Nat.add_mul,Nat.one_mul]
   rw [e1] at g3 g4 hB
   have e2:((k+1:Nat):Int) - 1=(k:Int):=by omega
   exact ⟨⟨by omega,by omega⟩,k,⟨s2,by omega,by omega,by omega⟩,by omega,TurnT.le (by simp -dsimp -implicitDefEqProofs [e2])⟩
  have hE2:=ld_castB g3 hgw (fun h=>by have:=hE h; omega)
  have x6:=ld_guessE (h:=u0*1073741824+u1) x3 y1 y2 (by omega) g2 g3 hE2
  clear hE hE2 hgw hgz hgy p1 p2 g3 g4 x3 y1 c1 c2 b1 b2
  refine WpD.loop (L:={ live:=[0,1,4,5,6,7,8,9,10,11,12,13,14,15,16,17,18,53,116,120,121,122,164,168,169,170],frz:=[(3,[7]),(33,[8]),(34,[4])] }) nr13_good X0_ok nr_mixed (by kernel_rfl)
   (fun p:Nat×List Int×Int=>⟨[(4,⟨true,.v (.s (.own tI 3 (a.length - b.length+1)))⟩),(5,vS tI [] true),(6,vI n),(7,vS tI v false),(8,⟨true,.v (.s (.pre tI 2 (w.length+2) (a.length+1)))⟩),(9,vI b.length),(10,vI i),(12,vI g),(13,vI p.2.2),(120,vI b.length),(121,vI p.1)],[.dead,.dead,.arr true (tI.flats p.2.1),.arr true (tI.flats q)]⟩)
   (fun p=>p.1≤b.length∧p.2.1.length=w.length+2∧LdSub us v i g p.1 p.2.1 p.2.2) (fun p=>b.length - p.1) (0,us,0)
   ⟨Nat.zero_le _,hul,LdSub.zero huo⟩ (Turn.le (by simp -dsimp -implicitDefEqProofs)) ?_
  rintro ⟨t,ys,ow⟩ ⟨ht,hyl,hsub⟩
  simp only at ht hyl hsub
  have hyo:=hsub.1
  have how:=hsub.2.1
  rcases Nat.lt_or_ge t b.length with htl | htl
  ·
   have e1:((i:Int)+(t:Int)).toNat=i+t:=by omega
   have hfl:=fl_at (xs:=ys) (j:=i+t) (by omega)
   have etv:v[t]'(by omega)=v[t]?.getD 0:=by rw [List.getElem?_eq_getElem (by omega)]; rfl
   obtain ⟨s1,s2,s3⟩:=hsub.step (s:=ys[i+t]?.getD 0 - (g:Int)*v[t]?.getD 0+ow) hvo.1 (by omega) (by omega) g2 rfl
   have hy:=okD_get hyo (i:=i+t) (by omega)
   simp -dsimp -implicitDefEqProofs [conLong_eq,e1,hfl,htl,n3,nr13_all,nr13_S,inI64]
   rw [etv,Int.fdiv_eq_ediv_of_nonneg _ (by decide),fl_set (by omega)]
   generalize ys[i+t]?.getD 0 - (g:Int)*v[t]?.getD 0+ow=s at *
   refine ⟨⟨by omega,by omega⟩,⟨hyl,by omega,by omega⟩,⟨hyl,by omega⟩,⟨by omega,by omega⟩,⟨by omega,by omega⟩,⟨by omega,by omega⟩,⟨by omega,by omega⟩,by decide,⟨hyl,by omega,by omega⟩,⟨hyl,by omega⟩,⟨by omega,by omega⟩,
    t+1,ys.set (i+t) (s % 1073741824),s / 1073741824,⟨by omega,by rw [List.length_set]; exact hyl,s1⟩,by omega,TurnT.le (by simp -dsimp -implicitDefEqProofs)⟩
  ·
   obtain rfl:t=b.length:=by omega
   have htn:¬ b.length<b.length:=by omega
   have hfl:=fl_at (xs:=ys) (j:=i+b.length) (by omega)
   have hd1:ys[i+b.length]?.getD 0=u0:=by
    have:=congrArg (fun l=>l[0]?.getD 0) hsub.2.2.2
    simp only [List.getElem?_drop,Nat.add_zero] at this
    rw [this,h0]
   rw [hd1] at hfl
   have hset:=fl_set (xs:=ys) (j:=i+b.length) (v:=(u0:Int)+ow) (by omega)
   have hget:=fl_at (xs:=ys.set (i+b.length) ((u0:Int)+ow)) (j:=i+b.length) (by rw [List.length_set]; omega)
   rw [List.getElem?_set_self (by omega),Option.getD_some] at hget
   simp -dsimp -implicitDefEqProofs [conLong_eq,t0,hfl,htn,n3,hset,hget,nr13_all,nr13_S,inI64]
   have hz:=hsub.2.2.1
   rw [List.take_of_length_le (by omega)] at hz
   have hgi:i<q.length:=by omega
   refine ⟨⟨by omega,by omega⟩,⟨hyl,by omega,by omega⟩,⟨hyl,by omega⟩,⟨by omega,by omega⟩,⟨hyl,by omega,by omega⟩,⟨hyl,by omega⟩,⟨by omega,by omega⟩,⟨hyl,by omega,by omega⟩,⟨hyl,by omega⟩,fun hneg=>⟨⟨by omega,by omega⟩,?_⟩,fun hpos => ?_⟩
   ·
    obtain ⟨k1,k2⟩:=ld_fin2 huo hyo (by omega) hib hsub.2.2.2 hz x1 x6 hlt hvl (by rw [h0]; exact hneg)
    rw [h0] at k2
    generalize hc:(u0:Int)+ow=c at *
    refine WpD.loop (L:={ live:=[0,1,4,5,6,7,8,9,10,11,12,13,14,15,16,17,18,53,116,120,121,122,164,168,169,170],frz:=[(3,[7]),(33,[8]),(34,[4])] }) nr13_good X0_ok nr_mixed (by kernel_rfl)
     (fun p:Nat×List Int×Int=>⟨[(4,⟨true,.v (.s (.own tI 3 (a.length - b.length+1)))⟩),(5,vS tI [] true),(6,vI n),(7,vS tI v false),(8,⟨true,.v (.s (.pre tI 2 (w.length+2) (a.length+1)))⟩),(9,vI b.length),(10,vI i),(12,vI ((g:Int) - 1)),(16,vI p.2.2),(168,vI b.length),(169,vI p.1)],[.dead,.dead,.arr true (tI.flats (p.2.1.set (i+b.length) c)),.arr true (tI.flats q)]⟩)
     (fun p=>p.1≤b.length∧p.2.1.length=w.length+2∧LdAdd (ys.set (i+b.length) 0) v i p.1 p.2.1 p.2.2) (fun p=>b.length - p.1) (0,ys.set (i+b.length) 0,0)
     ⟨Nat.zero_le _,by rw [List.length_set]; exact hyl,LdAdd.zero k1⟩ (Turn.le (by simp -dsimp -implicitDefEqProofs [List.set_set])) ?_
    rintro ⟨t,zs,ov⟩ ⟨ht,hzl,hadd⟩
    simp only at ht hzl hadd
    have hov:=hadd.2.1
    rcases Nat.lt_or_ge t b.length with htl | htl
    ·
     have e1:((i:Int)+(t:Int)).toNat=i+t:=by omega
     have hfl:=fl_at (xs:=zs.set (i+b.length) c) (j:=i+t) (by rw [List.length_set]; omega)
     rw [List.getElem?_set_ne (by omega)] at hfl
     have etv:v[t]'(by omega)=v[t]?.getD 0:=by rw [List.getElem?_eq_getElem (by omega)]; rfl
     obtain ⟨s1,s2,s3,s4⟩:=hadd.step (s:=zs[i+t]?.getD 0+v[t]?.getD 0+ov) hvo.1 (by omega) (by omega) rfl
     have hset:=fl_set (xs:=zs.set (i+b.length) c) (j:=i+t) (by rw [List.length_set]; omega)
     simp only [List.set_comm _ _ (show i+b.length≠i+t by omega)] at hset
     simp -dsimp -implicitDefEqProofs [conLong_eq,e1,hfl,htl,n3,hset,nr13_all,nr13_S,inI64]
     rw [etv,Int.fdiv_eq_ediv_of_nonneg _ (by decide)]
     generalize zs[i+t]?.getD 0+v[t]?.getD 0+ov=s at *
     exact ⟨⟨by omega,by omega⟩,⟨hzl,by omega,by omega⟩,⟨hzl,by omega⟩,⟨by omega,by omega⟩,⟨by omega,by omega⟩,⟨by omega,by omega⟩,by decide,⟨hzl,by omega,by omega⟩,⟨hzl,by omega⟩,⟨by omega,by omega⟩,
      t+1,zs.set (i+t) (s % 1073741824),s / 1073741824,⟨by omega,by rw [List.length_set]; exact hzl,s1⟩,by omega,TurnT.le (by simp -dsimp -implicitDefEqProofs)⟩
    ·
     obtain rfl:t=b.length:=by omega
     have htn:¬ b.length<b.length:=by omega
     have hzt:=hadd.top
     rw [List.getElem?_set_self (by omega),Option.getD_some] at hzt
     obtain ⟨m1,m2,m3,m4⟩:=k2 zs ov hadd.1 (by omega) hadd.2.2.2 hov (by have:=hadd.2.2.1; rwa [List.take_of_length_le (by omega)] at this)
     have hfl:=fl_at (xs:=zs.set (i+b.length) c) (j:=i+b.length) (by rw [List.length_set]; omega)
     rw [List.getElem?_set_self (by omega),Option.getD_some] at hfl
     have hset:=fl_set (xs:=zs.set (i+b.length) c) (j:=i+b.length) (v:=0) (by rw [List.length_set]; omega)
     rw [List.set_set,set_zero_same (by omega) hzt] at hset
     have hqs:=fl_set (xs:=q) (j:=i) (v:=((g - 1:Nat):Int)) (by omega)
     have hg1:(g:Int) - 1=((g - 1:Nat):Int):=by omega
     simp -dsimp -implicitDefEqProofs [conLong_eq,t0,hfl,htn,n3,hset,m1,hg1,nr13_all,nr13_S,inI64]
     rw [hqs]
     exact ⟨⟨by omega,by omega⟩,⟨hzl,by omega,by omega⟩,⟨hzl,by omega⟩,⟨hzl,by omega,by omega⟩,⟨hzl,by omega⟩,⟨hql,by omega⟩,⟨hql,by omega⟩,⟨by omega,by omega⟩,
      i,zs,q.set i ((g - 1:Nat):Int),⟨by omega,hzl,hadd.1,by rw [List.length_set]; exact hql,okD_set hqo (by omega),ld_quot hgi hinv m3,m4⟩,by omega,TurnT.le (by simp -dsimp -implicitDefEqProofs)⟩
   ·
    skip
    obtain ⟨m2,m3,m4⟩:=ld_fin1 hyo (by omega) hib (hd1.trans h0.symm) hz x1 x2 g1 (by rw [h0]; exact hpos) (by omega)
    rw [h0] at m2 m3 m4
    rw [fl_set (xs:=q) (j:=i) (v:=(g:Int)) (by omega)]
    exact ⟨⟨hql,by omega⟩,⟨hql,by omega⟩,⟨by omega,by omega⟩,
      i,ys.set (i+b.length) ((u0:Int)+ow),q.set i (g:Int),⟨by omega,by rw [List.length_set]; exact hyl,m2,by rw [List.length_set]; exact hql,okD_set hqo (by omega),ld_quot hgi hinv m3,m4⟩,by omega,TurnT.le (by simp -dsimp -implicitDefEqProofs)⟩
def nr14Γ:List (FuncId×Con):=(184,conLong)::nr13Γ
theorem nr14Γ_ok:OkΓ nr14Γ:=by
 simp only [OkΓ,nr14Γ,List.forall_mem_cons]
 exact ⟨⟨enters_of func184 (by kernel_rfl) rfl,long_ok⟩,nr13Γ_ok⟩
def nr14E:=nr13E
theorem nr14E_ok:OkE nr14E:=nr13E_ok
def nr14P:=nr13P
theorem nr14P_ok:OkP nr14P:=nr13P_ok
def nr14F:=nr13F
theorem nr14F_ok:OkF nr14F:=nr13F_ok
def nr14:G:={ τ:=nrT,Γ:=nr14Γ,E:=nr14E,Pn:=nr14P,E2:=nr14F }
theorem nr14_good:nr14.good prog:=good_of_all (nrT_ok _ rfl) nr14Γ_ok nr14E_ok nr14P_ok nr14F_ok
theorem nr14_all:(∀ t,nr14.td t=(look nrT t).getD .other)∧nr14.y=false∧nr14.Γ=nr14Γ∧nr14.E=nr14E∧nr14.Pn=nr14P∧nr14.E2=nr14F∧nr14.fz=[]∧nr14.te=false∧nr14.bo=false∧nr14.pm=false:=⟨fun _=>rfl,rfl,rfl,rfl,rfl,rfl,rfl,rfl,rfl,rfl⟩
def nr14_S:=And.intro (And.intro @nrT.eq_1 (And.intro @nr14Γ.eq_1 (And.intro @nr14E.eq_1 (And.intro @nr14P.eq_1 (And.intro @nr14F.eq_1 (@conLong_eq)))))) nr13_S
def conDiv:Con:=⟨fun args=>(match args with
 | [.s (.sl (.int .i64) a _),.s (.sl (.int .i64) b _)]=>canon a∧canon b∧1≤b.length∧a.length≤2048∧b.length≤2048
 | _=>False),fun args=>match args with
 | [.s (.sl (.int .i64) a _),.s (.sl (.int .i64) b _)]=>.tup [aS tI (dig (vl a / vl b)) false,aS tI (dig (vl a % vl b)) false]
 | _=>.v (.s .any)⟩
theorem conDiv_eq (a:List (Ty.T tI)) (exa:Bool) (b:List (Ty.T tI)) (exb:Bool):conDiv.pre [.s (.sl tI a exa),.s (.sl tI b exb)]=(canon a∧canon b∧1≤b.length∧a.length≤2048∧b.length≤2048)∧conDiv.val [.s (.sl tI a exa),.s (.sl tI b exb)]=.tup [aS tI (dig (vl a / vl b)) false,aS tI (dig (vl a % vl b)) false]:=⟨rfl,rfl⟩
theorem ndiv_ok:PureOk prog 150 conDiv:=by
 refine pureOkD (L:={ live:=[0,1,4,5,6,7,8,14] }) nr14_good rfl nr_mixed func150 rfl conDiv 2 (by decide) (by kernel_rfl) ?_
 intro args hpre hlens
 simp only [conDiv] at hpre
 split at hpre
 case h_2=>exact hpre.elim
 rename_i a ea b eb
 simp only [lenS] at hlens
 refine ⟨rfl,?_⟩
 simp -dsimp -implicitDefEqProofs [f150,conDiv_eq,nr14_all,nr14_S,inI64]
 obtain ⟨ha,hb,hb1,hal,hbl⟩:=hpre
 change List Int at a; change List Int at b
 refine ⟨⟨ha,hb⟩,fun h => ?_,fun h=>⟨fun h1 => ?_,fun h1 => ?_⟩⟩
 ·
  have hl:=cmpN_neg.1 h
  rw [Nat.div_eq_of_lt hl,Nat.mod_eq_of_lt hl,dig_zero,canon_eq ha]
  exact ⟨rfl,rfl⟩
 ·
  have h0:=canon_last hb (by omega)
  rw [show b.length - 1=0 by omega] at h0
  obtain ⟨d,rfl⟩:∃ d,b=[d]:=List.length_eq_one_iff.1 (by omega)
  have e1:([d]:List Int)[0]?.getD 0=d:=rfl
  rw [e1] at h0 ⊢
  obtain ⟨n,rfl⟩:∃ n:Nat,d=n:=⟨d.toNat,by omega⟩
  have hmx:max (n:Int) 0=n:=by omega
  have hmod:=Nat.mod_lt (vl a) (show 0<n by omega)
  rw [vl_one,Int.toNat_natCast,hmx,← Int.natCast_emod]
  refine ⟨by omega,⟨ha.1,⟨by omega,by omega⟩,by omega⟩,rfl,?_⟩
  rw [← dig_vl (okD_cons.2 ⟨⟨by omega,by omega⟩,okD_nil⟩),vl_one,Int.toNat_natCast]
 ·
  refine ⟨ha,hb,by omega,?_,by omega⟩
  apply Classical.byContradiction
  intro hc
  have:=cmpN_lt (vl_len ha hb (by omega))
  omega
def conBigN:Con:=⟨fun args=>(match args with
 | [.s (.bool ng),.s (.sl (.int .i64) m _)]=>(trimL m).length≤2048
 | _=>False),fun args=>match args with
 | [.s (.bool ng),.s (.sl (.int .i64) m _)]=>.v (.agg [.bool (ng&&decide (trimL m≠[])),.sl tI (trimL m) false])
 | _=>.v (.s .any)⟩
theorem conBigN_eq (ng:Bool) (m:List (Ty.T tI)) (exm:Bool):conBigN.pre [.s (.bool ng),.s (.sl tI m exm)]=((trimL m).length≤2048)∧conBigN.val [.s (.bool ng),.s (.sl tI m exm)]=.v (.agg [.bool (ng&&decide (trimL m≠[])),.sl tI (trimL m) false]):=⟨rfl,rfl⟩
theorem nbig_ok:PureOk prog 148 conBigN:=by
 refine pureOkD (L:={ live:=[0,1,4,9],fin:=[(3,[])] }) nr14_good rfl nr_mixed func148 rfl conBigN 2 (by decide) (by kernel_rfl) ?_
 intro args hpre hlens
 simp only [conBigN] at hpre
 split at hpre
 case h_2=>exact hpre.elim
 rename_i ng m em
 simp only [lenS] at hlens
 refine ⟨rfl,?_⟩
 simp -dsimp -implicitDefEqProofs [f148,conBigN_eq,nr14_all,nr14_S,inI64]
 refine ⟨by omega,fun _ => ?_⟩
 cases trimL m <;> simp
abbrev tBig:Ty:=.cons .bool (.cons (.slice (.int .i64)) .nil)
def okB (x:tBig.T):Prop:=okBig x.1 x.2.1
def conChk:Con:=⟨fun args=>(match args with
 | [.s (.sl (.cons .bool (.cons (.slice (.int .i64)) .nil)) l _)]=>∀ x∈l,okB x
 | _=>False),fun args=>match args with
 | [.s (.sl (.cons .bool (.cons (.slice (.int .i64)) .nil)) l _)]=>.tup []
 | _=>.v (.s .any)⟩
theorem conChk_eq (l:List (Ty.T tBig)) (exl:Bool):conChk.pre [.s (.sl tBig l exl)]=(∀ x∈l,okB x)∧conChk.val [.s (.sl tBig l exl)]=.tup []:=⟨rfl,rfl⟩
def nr15Γ:List (FuncId×Con):=(90,conNCheck)::nr14Γ
theorem nr15Γ_ok:OkΓ nr15Γ:=by
 simp only [OkΓ,nr15Γ,List.forall_mem_cons]
 exact ⟨⟨enters_of func90 (by kernel_rfl) rfl,ncheck_ok⟩,nr14Γ_ok⟩
def nr15E:=nr14E
theorem nr15E_ok:OkE nr15E:=nr14E_ok
def nr15P:=nr14P
theorem nr15P_ok:OkP nr15P:=nr14P_ok
def nr15F:=nr14F
theorem nr15F_ok:OkF nr15F:=nr14F_ok
def nr15:G:={ τ:=nrT,Γ:=nr15Γ,E:=nr15E,Pn:=nr15P,E2:=nr15F }
theorem nr15_good:nr15.good prog:=good_of_all (nrT_ok _ rfl) nr15Γ_ok nr15E_ok nr15P_ok nr15F_ok
theorem nr15_all:(∀ t,nr15.td t=(look nrT t).getD .other)∧nr15.y=false∧nr15.Γ=nr15Γ∧nr15.E=nr15E∧nr15.Pn=nr15P∧nr15.E2=nr15F∧nr15.fz=[]∧nr15.te=false∧nr15.bo=false∧nr15.pm=false:=⟨fun _=>rfl,rfl,rfl,rfl,rfl,rfl,rfl,rfl,rfl,rfl⟩
def nr15_S:=And.intro (And.intro @nrT.eq_1 (And.intro @nr15Γ.eq_1 (And.intro @nr15E.eq_1 (And.intro @nr15P.eq_1 (And.intro @nr15F.eq_1 (@conNCheck_eq)))))) nr14_S
theorem nchk_ok:PureOk prog 110 conChk:=by
 refine pureOkD (L:={ live:=[0,3,4,5,6,7,8,14],fin:=[(5,[])] }) nr15_good rfl nr_mixed func110 rfl conChk 1 (by decide) (by kernel_rfl) ?_
 intro args hpre hlens
 simp only [conChk] at hpre
 split at hpre
 case h_2=>exact hpre.elim
 rename_i l el
 simp only [lenS] at hlens
 refine ⟨rfl,?_⟩
 simp -dsimp -implicitDefEqProofs [f110,conChk_eq,nr15_all,nr15_S,inI64]
 refine WpD.loop (L:={ live:=[0,3,4,5,6,7,8,14],fin:=[(5,[])] }) nr15_good X0_ok nr_mixed (by kernel_rfl)
  (fun i:Nat=>⟨[(5,vS tBig l el),(6,vI l.length),(7,vI i)],[]⟩)
  (fun i=>i≤l.length) (fun i=>l.length - i) 0 (Nat.zero_le _) (Turn.le (by simp -dsimp -implicitDefEqProofs)) ?_
 intro i hi
 rcases Nat.lt_or_ge i l.length with hil | hge
 ·
  have h0:natErr l[i].1 l[i].2.1=0:=natErr_0.2 (hpre _ (List.getElem_mem hil))
  simp -dsimp -implicitDefEqProofs [conChk_eq,hil,h0,nr15_all,nr15_S,inI64]
  exact ⟨⟨by omega,by omega⟩,i+1,by omega,by omega,TurnT.trunc X0_ok (hp:=[]) (junk:=[_]) (by simp) (by simp only [List.length_cons,List.length_nil,List.all_cons,List.all_nil,arr_below,Bool.and_true] <;> simp [Blk.below,SV.below]) (by simp -dsimp -implicitDefEqProofs []) (by simp [envBelow,RV.below,AV.below,SV.below])⟩
 ·
  have hn:¬ i<l.length:=by omega
  simp -dsimp -implicitDefEqProofs [conChk_eq,hn,nr15_all,nr15_S,inI64]
def nr16Γ:List (FuncId×Con):=(110,conChk)::(148,conBigN)::(150,conDiv)::(149,conTimes)::nr15Γ
theorem nr16Γ_ok:OkΓ nr16Γ:=by
 simp only [OkΓ,nr16Γ,List.forall_mem_cons]
 exact ⟨⟨enters_of func110 (by kernel_rfl) rfl,nchk_ok⟩,⟨enters_of func148 (by kernel_rfl) rfl,nbig_ok⟩,⟨enters_of func150 (by kernel_rfl) rfl,ndiv_ok⟩,⟨enters_of func149 (by kernel_rfl) rfl,nmul_ok⟩,nr15Γ_ok⟩
def nr16E:=nr15E
theorem nr16E_ok:OkE nr16E:=nr15E_ok
def nr16P:=nr15P
theorem nr16P_ok:OkP nr16P:=nr15P_ok
def nr16F:=nr15F
theorem nr16F_ok:OkF nr16F:=nr15F_ok
def nr16:G:={ τ:=nrT,Γ:=nr16Γ,E:=nr16E,Pn:=nr16P,E2:=nr16F }
theorem nr16_good:nr16.good prog:=good_of_all (nrT_ok _ rfl) nr16Γ_ok nr16E_ok nr16P_ok nr16F_ok
theorem nr16_all:(∀ t,nr16.td t=(look nrT t).getD .other)∧nr16.y=false∧nr16.Γ=nr16Γ∧nr16.E=nr16E∧nr16.Pn=nr16P∧nr16.E2=nr16F∧nr16.fz=[]∧nr16.te=false∧nr16.bo=false∧nr16.pm=false:=⟨fun _=>rfl,rfl,rfl,rfl,rfl,rfl,rfl,rfl,rfl,rfl⟩
def nr16_S:=And.intro (And.intro @nrT.eq_1 (And.intro @nr16Γ.eq_1 (And.intro @nr16E.eq_1 (And.intro @nr16P.eq_1 (And.intro @nr16F.eq_1 (And.intro @conChk_eq (And.intro @conBigN_eq (And.intro @conDiv_eq (@conTimes_eq))))))))) nr15_S
def conGcdN:Con:=⟨fun args=>(match args with
 | [.agg [.bool n1,.sl (.int .i64) m1 _],.agg [.bool n2,.sl (.int .i64) m2 _]]=>okBig n1 m1∧okBig n2 m2
 | _=>False),fun args=>match args with
 | [.agg [.bool n1,.sl (.int .i64) m1 _],.agg [.bool n2,.sl (.int .i64) m2 _]]=>.tup [.agg [.bool false,.sl tI (dig (Nat.gcd (vl m1) (vl m2))) false],aI 0]
 | _=>.v (.s .any)⟩
theorem conGcdN_eq (n1:Bool) (m1:List (Ty.T tI)) (exm1:Bool) (n2:Bool) (m2:List (Ty.T tI)) (exm2:Bool):conGcdN.pre [.agg [.bool n1,.sl tI m1 exm1],.agg [.bool n2,.sl tI m2 exm2]]=(okBig n1 m1∧okBig n2 m2)∧conGcdN.val [.agg [.bool n1,.sl tI m1 exm1],.agg [.bool n2,.sl tI m2 exm2]]=.tup [.agg [.bool false,.sl tI (dig (Nat.gcd (vl m1) (vl m2))) false],aI 0]:=⟨rfl,rfl⟩
theorem gcdn_ok:PureOk prog 105 conGcdN:=by
 refine pureDefD (L:={ live:=[0,1,2,3,4,5,6,7,9,20] }) nr16_good rfl nr_mixed (dl_cons ⟨enters_of func109 (by kernel_rfl) rfl,caught_ok natCaught⟩ dl_nil) func105 rfl conGcdN 2 (by decide) (by kernel_rfl) ?_
 intro args hpre hlens
 simp only [conGcdN] at hpre
 split at hpre
 case h_2=>exact hpre.elim
 rename_i n1 m1 e1 n2 m2 e2
 simp only [lenS] at hlens
 refine ⟨rfl,?_⟩
 simp -dsimp -implicitDefEqProofs [f105,conGcdN_eq,nr16_all,nr16_S,inI64]
 change List Int at m1; change List Int at m2
 obtain ⟨h1,h2⟩:=hpre
 refine ⟨⟨h1,h2⟩,?_⟩
 refine WpD.loop (L:={ live:=[0,1,2,3,4,5,6,7,9,20] }) nr16_good X0_ok nr_mixed (by kernel_rfl)
  (fun p:TwoL=>⟨[(4,⟨true,.v (.s (.box 2 0))⟩),(5,⟨true,.v (.s (.box 3 0))⟩),(6,vS tI p.x p.ex),(7,vS tI p.y p.ey)],[.cells [.bool n1,.sl tI m1 e1],.cells [.bool n2,.sl tI m2 e2],.cells [.bool false,.sl tI [] true],.cells [.int .i64 0]]⟩)
  (fun p=>canon p.x∧canon p.y∧p.x.length≤2048∧p.y.length≤2048∧Nat.gcd (vl p.x) (vl p.y)=Nat.gcd (vl m1) (vl m2)) (fun p=>vl p.y) ⟨m1,e1,m2,e2⟩ ⟨h1.1,h2.1,h1.2.1,h2.2.1,rfl⟩ (Turn.le (by simp -dsimp -implicitDefEqProofs)) ?_
 rintro ⟨x,ex,y,ey⟩ ⟨hx,hy,hxl,hyl,hg⟩
 simp only at hx hy hxl hyl hg
 rcases Nat.eq_zero_or_pos y.length with h0 | h0
 ·
  obtain rfl:=List.length_eq_zero_iff.1 h0
  have hv:vl x=Nat.gcd (vl m1) (vl m2):=by rw [← hg]; simp [vl]
  simp -dsimp -implicitDefEqProofs [conGcdN_eq,trim_canon hx,nr16_all,nr16_S,inI64]
  rw [← hv,canon_eq hx]
  exact ⟨hxl,rfl⟩
 ·
  have hvp:=(vl_pos hy).2 h0
  simp -dsimp -implicitDefEqProofs [conGcdN_eq,nr16_all,nr16_S,inI64]
  refine ⟨fun _=>⟨⟨hx,hy,h0,hxl,hyl⟩,⟨y,ey,dig (vl x % vl y),false⟩,⟨hy,canon_dig _,hyl,?_,?_⟩,?_,TurnT.le (by simp -dsimp -implicitDefEqProofs)⟩,fun h=>absurd h (by intro he; rw [he] at h0; exact absurd h0 (by decide))⟩
  ·
   show (dig _).length≤2048
   exact dig_le (Nat.lt_trans (Nat.mod_lt _ hvp) (vl_lt hy.1)) hyl
  ·
   show Nat.gcd (vl y) (vl (dig _))=_
   rw [vl_dig,← hg,Nat.gcd_comm (vl y),← Nat.gcd_rec,Nat.gcd_comm]
  ·
   show vl (dig _)<vl y
   rw [vl_dig]; exact Nat.mod_lt _ hvp
def conMulN:Con:=⟨fun args=>(match args with
 | [.agg [.bool n1,.sl (.int .i64) m1 _],.agg [.bool n2,.sl (.int .i64) m2 _]]=>okBig n1 m1∧okBig n2 m2∧m1.length+m2.length≤2048
 | _=>False),fun args=>match args with
 | [.agg [.bool n1,.sl (.int .i64) m1 _],.agg [.bool n2,.sl (.int .i64) m2 _]]=>.tup [.agg [.bool ((n1 != n2)&&decide (dig (vl m1*vl m2)≠[])),.sl tI (dig (vl m1*vl m2)) false],aI 0]
 | _=>.v (.s .any)⟩
theorem conMulN_eq (n1:Bool) (m1:List (Ty.T tI)) (exm1:Bool) (n2:Bool) (m2:List (Ty.T tI)) (exm2:Bool):conMulN.pre [.agg [.bool n1,.sl tI m1 exm1],.agg [.bool n2,.sl tI m2 exm2]]=(okBig n1 m1∧okBig n2 m2∧m1.length+m2.length≤2048)∧conMulN.val [.agg [.bool n1,.sl tI m1 exm1],.agg [.bool n2,.sl tI m2 exm2]]=.tup [.agg [.bool ((n1 != n2)&&decide (dig (vl m1*vl m2)≠[])),.sl tI (dig (vl m1*vl m2)) false],aI 0]:=⟨rfl,rfl⟩
theorem muln_ok:PureOk prog 104 conMulN:=by
 refine pureDefD (L:={ live:=[0,1,2,3,4,5] }) nr16_good rfl nr_mixed (dl_cons ⟨enters_of func109 (by kernel_rfl) rfl,caught_ok natCaught⟩ dl_nil) func104 rfl conMulN 2 (by decide) (by kernel_rfl) ?_
 intro args hpre hlens
 simp only [conMulN] at hpre
 split at hpre
 case h_2=>exact hpre.elim
 rename_i n1 m1 e1 n2 m2 e2
 simp only [lenS] at hlens
 refine ⟨rfl,?_⟩
 simp -dsimp -implicitDefEqProofs [f104,conMulN_eq,nr16_all,nr16_S,inI64]
 change List Int at m1; change List Int at m2
 obtain ⟨h1,h2,h3⟩:=hpre
 have hd:trimL (dig (vl m1*vl m2))=dig (vl m1*vl m2):=trim_canon (canon_dig _)
 rw [hd]
 refine ⟨⟨h1,h2⟩,⟨h1.1.1,h2.1.1,h1.2.1,h2.2.1⟩,?_,rfl,rfl⟩
 have e1:=vl_lt h1.1.1
 have e2:=vl_lt h2.1.1
 have e3:vl m1*vl m2<1073741824 ^ m1.length*1073741824 ^ m2.length:=Nat.mul_lt_mul'' e1 e2
 rw [← Nat.pow_add] at e3
 exact dig_le e3 h3
def conCmpN2:Con:=⟨fun args=>(match args with
 | [.agg [.bool n1,.sl (.int .i64) m1 _],.agg [.bool n2,.sl (.int .i64) m2 _]]=>okBig n1 m1∧okBig n2 m2
 | _=>False),fun args=>match args with
 | [.agg [.bool n1,.sl (.int .i64) m1 _],.agg [.bool n2,.sl (.int .i64) m2 _]]=>.tup [aI (cmpZ (sgn n1 m1) (sgn n2 m2)),aI 0]
 | _=>.v (.s .any)⟩
theorem conCmpN2_eq (n1:Bool) (m1:List (Ty.T tI)) (exm1:Bool) (n2:Bool) (m2:List (Ty.T tI)) (exm2:Bool):conCmpN2.pre [.agg [.bool n1,.sl tI m1 exm1],.agg [.bool n2,.sl tI m2 exm2]]=(okBig n1 m1∧okBig n2 m2)∧conCmpN2.val [.agg [.bool n1,.sl tI m1 exm1],.agg [.bool n2,.sl tI m2 exm2]]=.tup [aI (cmpZ (sgn n1 m1) (sgn n2 m2)),aI 0]:=⟨rfl,rfl⟩
theorem cmpn_ok:PureOk prog 63 conCmpN2:=by
 refine pureDefD (L:={ live:=[0,1,2,3,4,5,10,22,25] }) nr16_good rfl nr_mixed (dl_cons ⟨enters_of func109 (by kernel_rfl) rfl,caught_ok natCaught⟩ dl_nil) func63 rfl conCmpN2 2 (by decide) (by kernel_rfl) ?_
 intro args hpre hlens
 simp only [conCmpN2] at hpre
 split at hpre
 case h_2=>exact hpre.elim
 rename_i n1 m1 e1 n2 m2 e2
 simp only [lenS] at hlens
 refine ⟨rfl,?_⟩
 simp -dsimp -implicitDefEqProofs [f63,conCmpN2_eq,nr16_all,nr16_S,inI64]
 change List Int at m1; change List Int at m2
 obtain ⟨h1,h2⟩:=hpre
 have hp1:n1=true→0<vl m1:=fun e=>(vl_pos h1.1).2 (List.length_pos_iff.2 (h1.2.2 e))
 have hp2:n2=true→0<vl m2:=fun e=>(vl_pos h2.1).2 (List.length_pos_iff.2 (h2.2.2 e))
 refine ⟨⟨h1,h2⟩,fun a b=>⟨⟨h2.1,h1.1⟩,?_⟩,fun h=>⟨fun a => ?_,fun a=>⟨fun b => ?_,fun b=>⟨⟨h1.1,h2.1⟩,?_⟩⟩⟩⟩
 ·
  subst a b
  rw [sgn_true,sgn_true,cmpZ_neg,cmpZ_nat]
 ·
  obtain rfl:=h a
  subst a
  have:=hp1 rfl
  rw [sgn_true,sgn_false,cmpZ_lt (by omega)]
 ·
  subst a b
  have:=hp2 rfl
  rw [sgn_true,sgn_false,cmpZ_gt (by omega)]
 ·
  subst a b
  rw [sgn_false,sgn_false,cmpZ_nat]
abbrev tRat:Ty:=.cons tBig (.cons tBig .nil)
def okRat (n1:Bool) (m1:List Int) (n2:Bool) (m2:List Int):Prop:=okBig n1 m1∧okBig n2 m2∧n2=false∧m2≠[]∧Nat.gcd (vl m1) (vl m2)=1
def okR (x:tRat.T):Prop:=okRat x.1.1 x.1.2.1 x.2.1.1 x.2.1.2.1
noncomputable instance (n1:Bool) (m1:List Int) (n2:Bool) (m2:List Int):Decidable (okRat n1 m1 n2 m2):=Classical.propDecidable _
def ratErr (n1:Bool) (m1:List Int) (n2:Bool) (m2:List Int):Int:=if okRat n1 m1 n2 m2 then 0 else 100
theorem ratErr_0 {n1:Bool} {m1:List Int} {n2:Bool} {m2:List Int}:ratErr n1 m1 n2 m2=0↔okRat n1 m1 n2 m2:=by
 unfold ratErr
 split <;> simp_all
def nr17Γ:List (FuncId×Con):=(105,conGcdN)::(104,conMulN)::(63,conCmpN2)::(136,conPosi)::nr16Γ
theorem nr17Γ_ok:OkΓ nr17Γ:=by
 simp only [OkΓ,nr17Γ,List.forall_mem_cons]
 exact ⟨⟨enters_of func105 (by kernel_rfl) rfl,gcdn_ok⟩,⟨enters_of func104 (by kernel_rfl) rfl,muln_ok⟩,⟨enters_of func63 (by kernel_rfl) rfl,cmpn_ok⟩,⟨enters_of func136 (by kernel_rfl) rfl,posi_ok⟩,nr16Γ_ok⟩
def nr17E:=nr16E
theorem nr17E_ok:OkE nr17E:=nr16E_ok
def nr17P:=nr16P
theorem nr17P_ok:OkP nr17P:=nr16P_ok
def nr17F:=nr16F
theorem nr17F_ok:OkF nr17F:=nr16F_ok
def nr17:G:={ τ:=nrT,Γ:=nr17Γ,E:=nr17E,Pn:=nr17P,E2:=nr17F }
theorem nr17_good:nr17.good prog:=good_of_all (nrT_ok _ rfl) nr17Γ_ok nr17E_ok nr17P_ok nr17F_ok
theorem nr17_all:(∀ t,nr17.td t=(look nrT t).getD .other)∧nr17.y=false∧nr17.Γ=nr17Γ∧nr17.E=nr17E∧nr17.Pn=nr17P∧nr17.E2=nr17F∧nr17.fz=[]∧nr17.te=false∧nr17.bo=false∧nr17.pm=false:=⟨fun _=>rfl,rfl,rfl,rfl,rfl,rfl,rfl,rfl,rfl,rfl⟩
def nr17_S:=And.intro (And.intro @nrT.eq_1 (And.intro @nr17Γ.eq_1 (And.intro @nr17E.eq_1 (And.intro @nr17P.eq_1 (And.intro @nr17F.eq_1 (And.intro @conGcdN_eq (And.intro @conMulN_eq (And.intro @conCmpN2_eq (@conPosi_eq))))))))) nr16_S
def conRatC:Con:=⟨fun args=>(match args with
 | [.agg [.bool n1,.sl (.int .i64) m1 _,.bool n2,.sl (.int .i64) m2 _]]=>True
 | _=>False),fun args=>match args with
 | [.agg [.bool n1,.sl (.int .i64) m1 _,.bool n2,.sl (.int .i64) m2 _]]=>.v (aI (ratErr n1 m1 n2 m2))
 | _=>.v (.s .any)⟩
theorem conRatC_eq (n1:Bool) (m1:List (Ty.T tI)) (exm1:Bool) (n2:Bool) (m2:List (Ty.T tI)) (exm2:Bool):conRatC.pre [.agg [.bool n1,.sl tI m1 exm1,.bool n2,.sl tI m2 exm2]]=(True)∧conRatC.val [.agg [.bool n1,.sl tI m1 exm1,.bool n2,.sl tI m2 exm2]]=.v (aI (ratErr n1 m1 n2 m2)):=⟨rfl,rfl⟩
theorem ratc_ok:PureOk prog 89 conRatC:=by
 refine pureOkD (L:={ live:=[0,1,2,3,20,39] }) nr17_good rfl nr_mixed func89 rfl conRatC 1 (by decide) (by kernel_rfl) ?_
 intro args hpre hlens
 simp only [conRatC] at hpre
 split at hpre
 case h_2=>exact hpre.elim
 rename_i n1 m1 e1 n2 m2 e2
 simp only [lenS] at hlens
 refine ⟨rfl,?_⟩
 simp -dsimp -implicitDefEqProofs [f89,conRatC_eq,nr17_all,nr17_S,inI64]
 change List Int at m1; change List Int at m2
 have hok:okRat n1 m1 n2 m2↔(natErr n1 m1=0∧natErr n2 m2=0∧n2=false∧m2≠[]∧Nat.gcd (vl m1) (vl m2)=1):=by
  rw [natErr_0,natErr_0]; rfl
 refine ⟨fun h => ?_,fun h1 h2 h3 h4=>⟨⟨natErr_0.1 h1,natErr_0.1 h2⟩,fun h=>⟨h,by omega⟩,fun h => ?_,fun h5 h6 => ?_⟩⟩
 ·
  unfold ratErr
  rw [if_neg]
  rw [hok]
  rintro ⟨q1,q2,q3,q4,_⟩
  rcases h with h | h | h
  ·
   rcases h with h | h
   ·
    exact h q1
   ·
    exact h q2
  ·
   rw [h] at q3; cases q3
  ·
   exact q4 h
 ·
  unfold ratErr
  rw [if_neg]
  rw [hok]
  rintro ⟨_,_,_,_,q⟩
  rw [q,dig_one] at h
  rcases h with h | h
  ·
   exact h rfl
  ·
   exact h rfl
 ·
  unfold ratErr
  rw [if_pos]
  rw [hok]
  refine ⟨h1,h2,h3,h4,?_⟩
  have hv:=vl_dig (Nat.gcd (vl m1) (vl m2))
  generalize dig (Nat.gcd (vl m1) (vl m2))=d at *
  obtain ⟨x,rfl⟩:=List.length_eq_one_iff.1 (show d.length=1 by omega)
  have h6:x=1:=h6
  rw [← hv,vl_one,h6]
  rfl
def conNeed:Con:=⟨fun args=>(match args with
 | [.s (.bool ok),.s (.int .i64 e)]=>ok=true
 | _=>False),fun args=>match args with
 | [.s (.bool ok),.s (.int _ e)]=>.tup []
 | _=>.v (.s .any)⟩
theorem conNeed_eq (ok:Bool) (e:Int):conNeed.pre [.s (.bool ok),.s (.int .i64 e)]=(ok=true)∧conNeed.val [.s (.bool ok),.s (.int .i64 e)]=.tup []:=⟨rfl,rfl⟩
theorem need_ok:PureOk prog 88 conNeed:=by
 refine pureOkD (L:={ live:=[0,1,5],fin:=[(1,[])] }) nr0_good rfl nr_mixed func88 rfl conNeed 2 (by decide) (by kernel_rfl) ?_
 intro args hpre hlens
 simp only [conNeed] at hpre
 split at hpre
 case h_2=>exact hpre.elim
 rename_i ok e
 simp only [lenS] at hlens
 refine ⟨rfl,?_⟩
 simp -dsimp -implicitDefEqProofs [f88,conNeed_eq,nr0_all,nr0_S,inI64]
 exact hpre
def panNeed:PCon:=⟨fun args=>(match args with
 | [.s (.bool ok),.s (.int .i64 e)]=>ok=false
 | _=>False),fun args=>match args with
 | [.s (.bool ok),.s (.int _ e)]=>.iface 30 (.int .i64 e)
 | _=>undef⟩
theorem panNeed_when (ok:Bool) (e:Int):panNeed.when [.s (.bool ok),.s (.int .i64 e)]=(ok=false):=rfl
theorem panNeed_what (ok:Bool) (e:Int):panNeed.what [.s (.bool ok),.s (.int .i64 e)]=.iface 30 (.int .i64 e):=rfl
theorem needp_ok:PanOk prog 88 panNeed:=by
 refine panDefD (L:={ live:=[0,1,5],fin:=[(1,[])] }) nr0_good rfl nr_mixed dl_nil func88 rfl panNeed 2 (by decide) (by kernel_rfl) ?_
 intro args hpre hlens
 simp only [panNeed] at hpre
 split at hpre
 case h_2=>exact hpre.elim
 rename_i ok e
 simp only [lenS] at hlens
 refine ⟨rfl,?_⟩
 simp -dsimp -implicitDefEqProofs [f88,panNeed_what,nr0_all,nr0_S,inI64]
 exact hpre
def nr18Γ:List (FuncId×Con):=(89,conRatC)::(88,conNeed)::nr17Γ
theorem nr18Γ_ok:OkΓ nr18Γ:=by
 simp only [OkΓ,nr18Γ,List.forall_mem_cons]
 exact ⟨⟨enters_of func89 (by kernel_rfl) rfl,ratc_ok⟩,⟨enters_of func88 (by kernel_rfl) rfl,need_ok⟩,nr17Γ_ok⟩
def nr18E:=nr17E
theorem nr18E_ok:OkE nr18E:=nr17E_ok
def nr18P:List (FuncId×PCon):=(88,panNeed)::nr17P
theorem nr18P_ok:OkP nr18P:=by
 simp only [OkP,nr18P,List.forall_mem_cons]
 exact ⟨⟨enters_of func88 (by kernel_rfl) rfl,needp_ok⟩,nr17P_ok⟩
def nr18F:=nr17F
theorem nr18F_ok:OkF nr18F:=nr17F_ok
def nr18:G:={ τ:=nrT,Γ:=nr18Γ,E:=nr18E,Pn:=nr18P,E2:=nr18F }
theorem nr18_good:nr18.good prog:=good_of_all (nrT_ok _ rfl) nr18Γ_ok nr18E_ok nr18P_ok nr18F_ok
theorem nr18_all:(∀ t,nr18.td t=(look nrT t).getD .other)∧nr18.y=false∧nr18.Γ=nr18Γ∧nr18.E=nr18E∧nr18.Pn=nr18P∧nr18.E2=nr18F∧nr18.fz=[]∧nr18.te=false∧nr18.bo=false∧nr18.pm=false:=⟨fun _=>rfl,rfl,rfl,rfl,rfl,rfl,rfl,rfl,rfl,rfl⟩
def nr18_S:=And.intro (And.intro @nrT.eq_1 (And.intro @nr18Γ.eq_1 (And.intro @nr18E.eq_1 (And.intro @nr18P.eq_1 (And.intro @nr18F.eq_1 (And.intro @conRatC_eq (And.intro @conNeed_eq (And.intro @panNeed_when (@panNeed_what))))))))) nr17_S
def conDidB:Con:=⟨fun args=>(match args with
 | [.agg [.bool n,.sl (.int .i64) m _],.s (.int .i64 e)]=>e=0
 | _=>False),fun args=>match args with
 | [.agg [.bool n,.sl (.int .i64) m _],.s (.int _ e)]=>.v (.agg [.bool n,.sl tI m false])
 | _=>.v (.s .any)⟩
theorem conDidB_eq (n:Bool) (m:List (Ty.T tI)) (exm:Bool) (e:Int):conDidB.pre [.agg [.bool n,.sl tI m exm],.s (.int .i64 e)]=(e=0)∧conDidB.val [.agg [.bool n,.sl tI m exm],.s (.int .i64 e)]=.v (.agg [.bool n,.sl tI m false]):=⟨rfl,rfl⟩
theorem didb_ok:PureOk prog 103 conDidB:=by
 refine pureOkD (L:={ live:=[0,1,2,4] }) nr18_good rfl nr_mixed func103 rfl conDidB 2 (by decide) (by kernel_rfl) ?_
 intro args hpre hlens
 simp only [conDidB] at hpre
 split at hpre
 case h_2=>exact hpre.elim
 rename_i n m em e
 simp only [lenS] at hlens
 refine ⟨rfl,?_⟩
 simp -dsimp -implicitDefEqProofs [f103,conDidB_eq,nr18_all,nr18_S,inI64]
 exact hpre
def conDidI:Con:=⟨fun args=>(match args with
 | [.s (.int .i64 x),.s (.int .i64 e)]=>e=0
 | _=>False),fun args=>match args with
 | [.s (.int _ x),.s (.int _ e)]=>.v (aI x)
 | _=>.v (.s .any)⟩
theorem conDidI_eq (x:Int) (e:Int):conDidI.pre [.s (.int .i64 x),.s (.int .i64 e)]=(e=0)∧conDidI.val [.s (.int .i64 x),.s (.int .i64 e)]=.v (aI x):=⟨rfl,rfl⟩
theorem didi_ok:PureOk prog 62 conDidI:=by
 refine pureOkD (L:={ live:=[0,1,4] }) nr18_good rfl nr_mixed func62 rfl conDidI 2 (by decide) (by kernel_rfl) ?_
 intro args hpre hlens
 simp only [conDidI] at hpre
 split at hpre
 case h_2=>exact hpre.elim
 rename_i x e
 simp only [lenS] at hlens
 refine ⟨rfl,?_⟩
 simp -dsimp -implicitDefEqProofs [f62,conDidI_eq,nr18_all,nr18_S,inI64]
 exact hpre
def conValid:Con:=⟨fun args=>(match args with
 | [.s (.sl (.cons (.cons .bool (.cons (.slice (.int .i64)) .nil)) (.cons (.cons .bool (.cons (.slice (.int .i64)) .nil)) .nil)) l _)]=>∀ x∈l,okR x
 | _=>False),fun args=>match args with
 | [.s (.sl (.cons (.cons .bool (.cons (.slice (.int .i64)) .nil)) (.cons (.cons .bool (.cons (.slice (.int .i64)) .nil)) .nil)) l _)]=>.tup []
 | _=>.v (.s .any)⟩
theorem conValid_eq (l:List (Ty.T tRat)) (exl:Bool):conValid.pre [.s (.sl tRat l exl)]=(∀ x∈l,okR x)∧conValid.val [.s (.sl tRat l exl)]=.tup []:=⟨rfl,rfl⟩
theorem valid_ok:PureOk prog 52 conValid:=by
 refine pureOkD (L:={ live:=[0,3,4,5,6,7] }) nr18_good rfl nr_mixed func52 rfl conValid 1 (by decide) (by kernel_rfl) ?_
 intro args hpre hlens
 simp only [conValid] at hpre
 split at hpre
 case h_2=>exact hpre.elim
 rename_i l el
 simp only [lenS] at hlens
 refine ⟨rfl,?_⟩
 simp -dsimp -implicitDefEqProofs [f52,conValid_eq,nr18_all,nr18_S,inI64]
 refine WpD.loop (L:={ live:=[0,3,4,5,6,7] }) nr18_good X0_ok nr_mixed (by kernel_rfl)
  (fun i:Nat=>⟨[(4,vS tRat l el),(5,vI l.length),(6,vI i)],[]⟩)
  (fun i=>i≤l.length) (fun i=>l.length - i) 0 (Nat.zero_le _) (Turn.le (by simp -dsimp -implicitDefEqProofs)) ?_
 intro i hi
 rcases Nat.lt_or_ge i l.length with hil | hge
 ·
  have h0:ratErr l[i].1.1 l[i].1.2.1 l[i].2.1.1 l[i].2.1.2.1=0:=ratErr_0.2 (hpre _ (List.getElem_mem hil))
  simp -dsimp -implicitDefEqProofs [conValid_eq,hil,h0,nr18_all,nr18_S,inI64]
  exact ⟨⟨by omega,by omega⟩,i+1,by omega,by omega,TurnT.trunc X0_ok (hp:=[]) (junk:=[_]) (by simp) (by simp only [List.length_cons,List.length_nil,List.all_cons,List.all_nil,arr_below,Bool.and_true] <;> simp [Blk.below,SV.below]) (by simp -dsimp -implicitDefEqProofs []) (by simp [envBelow,RV.below,AV.below,SV.below])⟩
 ·
  have hn:¬ i<l.length:=by omega
  simp -dsimp -implicitDefEqProofs [conValid_eq,hn,nr18_all,nr18_S,inI64]
def panValid:PCon:=⟨fun args=>(match args with
 | [.s (.sl (.cons (.cons .bool (.cons (.slice (.int .i64)) .nil)) (.cons (.cons .bool (.cons (.slice (.int .i64)) .nil)) .nil)) l _)]=>¬ ∀ x∈l,okR x
 | _=>False),fun args=>match args with
 | [.s (.sl (.cons (.cons .bool (.cons (.slice (.int .i64)) .nil)) (.cons (.cons .bool (.cons (.slice (.int .i64)) .nil)) .nil)) l _)]=>.iface 30 (.int .i64 100)
 | _=>undef⟩
theorem panValid_when (l:List (Ty.T tRat)) (exl:Bool):panValid.when [.s (.sl tRat l exl)]=(¬ ∀ x∈l,okR x):=rfl
theorem panValid_what (l:List (Ty.T tRat)) (exl:Bool):panValid.what [.s (.sl tRat l exl)]=.iface 30 (.int .i64 100):=rfl
theorem validp_ok:PanOk prog 52 panValid:=by
 refine panDefD (L:={ live:=[0,3,4,5,6,7],fin:=[(3,[])] }) nr18_good rfl nr_mixed dl_nil func52 rfl panValid 1 (by decide) (by kernel_rfl) ?_
 intro args hpre hlens
 simp only [panValid] at hpre
 split at hpre
 case h_2=>exact hpre.elim
 rename_i l el
 simp only [lenS] at hlens
 refine ⟨rfl,?_⟩
 simp -dsimp -implicitDefEqProofs [f52,panValid_what,nr18_all,nr18_S,inI64]
 refine WpD.loop (L:={ live:=[0,3,4,5,6,7],fin:=[(3,[])] }) nr18_good X0_ok nr_mixed (by kernel_rfl)
  (fun i:Nat=>⟨[(4,vS tRat l el),(5,vI l.length),(6,vI i)],[]⟩)
  (fun i=>i≤l.length∧∀ j (h:j<l.length),j<i→okR l[j]) (fun i=>l.length - i) 0 ⟨Nat.zero_le _,fun j _ h=>absurd h (by omega)⟩ (Turn.le (by simp -dsimp -implicitDefEqProofs)) ?_
 rintro i ⟨hi,hj⟩
 rcases Nat.lt_or_ge i l.length with hil | hge
 ·
  have h0:ratErr l[i].1.1 l[i].1.2.1 l[i].2.1.1 l[i].2.1.2.1=0↔okR l[i]:=ratErr_0
  simp -dsimp -implicitDefEqProofs [panValid_what,hil,h0,nr18_all,nr18_S,inI64]
  refine fun hok=>⟨hok,⟨by omega,by omega⟩,i+1,⟨by omega,fun j h1 h2 => ?_⟩,by omega,TurnT.trunc X0_ok (hp:=[]) (junk:=[_]) (by simp) (by simp only [List.length_cons,List.length_nil,List.all_cons,List.all_nil,arr_below,Bool.and_true] <;> simp [Blk.below,SV.below]) (by simp -dsimp -implicitDefEqProofs []) (by simp [envBelow,RV.below,AV.below,SV.below])⟩
  rcases Nat.lt_or_ge j i with h3 | h3
  ·
   exact hj j h1 h3
  ·
   obtain rfl:j=i:=by omega
   exact hok
 ·
  refine absurd (fun x hx => ?_) hpre
  obtain ⟨j,hjl,rfl⟩:=List.mem_iff_getElem.1 hx
  exact hj j hjl (by omega)
def mulB (x y:tBig.T):tBig.T:=((x.1 != y.1)&&decide (dig (vl x.2.1*vl y.2.1)≠[]),dig (vl x.2.1*vl y.2.1),())
def mulOk (x y:tBig.T):Prop:=okB x∧okB y∧List.length x.2.1+List.length y.2.1≤2048
def zB:tBig.T:=(false,[],())
def prodT (l:List tBig.T) (k:Nat):List tBig.T:=(List.range k).map fun k=>mulB (l[2*k]?.getD zB) (l[2*k+1]?.getD zB)
def prodL (l:List tBig.T):List tBig.T:=prodT l (l.length / 2)
theorem prodT_len (l:List tBig.T) (k:Nat):(prodT l k).length=k:=by simp [prodT]
theorem prodT_succ (l:List tBig.T) (k:Nat):prodT l (k+1)=prodT l k++[mulB (l[2*k]?.getD zB) (l[2*k+1]?.getD zB)]:=by simp [prodT,List.range_succ]
theorem prodL_four (a b c d:tBig.T):prodL [a,b,c,d]=[mulB a b,mulB c d]:=by simp [prodL,prodT,List.range_succ]
theorem okB_mulB {x y:tBig.T} (h:mulOk x y):okB (mulB x y):=by
 obtain ⟨h1,h2,h3⟩:=h
 refine ⟨canon_dig _,?_,fun e => ?_⟩
 ·
  show (dig _).length≤2048
  have e3:vl x.2.1*vl y.2.1<1073741824 ^ (List.length x.2.1)*1073741824 ^ (List.length y.2.1):=Nat.mul_lt_mul'' (vl_lt h1.1.1) (vl_lt h2.1.1)
  rw [← Nat.pow_add] at e3
  exact dig_le e3 h3
 ·
  simp only [mulB,Bool.and_eq_true,decide_eq_true_eq] at e
  exact e.2
def nr19Γ:List (FuncId×Con):=(103,conDidB)::(62,conDidI)::(52,conValid)::nr18Γ
theorem nr19Γ_ok:OkΓ nr19Γ:=by
 simp only [OkΓ,nr19Γ,List.forall_mem_cons]
 exact ⟨⟨enters_of func103 (by kernel_rfl) rfl,didb_ok⟩,⟨enters_of func62 (by kernel_rfl) rfl,didi_ok⟩,⟨enters_of func52 (by kernel_rfl) rfl,valid_ok⟩,nr18Γ_ok⟩
def nr19E:=nr18E
theorem nr19E_ok:OkE nr19E:=nr18E_ok
def nr19P:List (FuncId×PCon):=(52,panValid)::nr18P
theorem nr19P_ok:OkP nr19P:=by
 simp only [OkP,nr19P,List.forall_mem_cons]
 exact ⟨⟨enters_of func52 (by kernel_rfl) rfl,validp_ok⟩,nr18P_ok⟩
def nr19F:=nr18F
theorem nr19F_ok:OkF nr19F:=nr18F_ok
def nr19:G:={ τ:=nrT,Γ:=nr19Γ,E:=nr19E,Pn:=nr19P,E2:=nr19F }
theorem nr19_good:nr19.good prog:=good_of_all (nrT_ok _ rfl) nr19Γ_ok nr19E_ok nr19P_ok nr19F_ok
theorem nr19_all:(∀ t,nr19.td t=(look nrT t).getD .other)∧nr19.y=false∧nr19.Γ=nr19Γ∧nr19.E=nr19E∧nr19.Pn=nr19P∧nr19.E2=nr19F∧nr19.fz=[]∧nr19.te=false∧nr19.bo=false∧nr19.pm=false:=⟨fun _=>rfl,rfl,rfl,rfl,rfl,rfl,rfl,rfl,rfl,rfl⟩
def nr19_S:=And.intro (And.intro @nrT.eq_1 (And.intro @nr19Γ.eq_1 (And.intro @nr19E.eq_1 (And.intro @nr19P.eq_1 (And.intro @nr19F.eq_1 (And.intro @conDidB_eq (And.intro @conDidI_eq (And.intro @conValid_eq (And.intro @panValid_when (@panValid_what)))))))))) nr18_S
def conProd:Con:=⟨fun args=>(match args with
 | [.s (.sl (.cons .bool (.cons (.slice (.int .i64)) .nil)) l _)]=>l.length≤100∧∀ k,k<l.length / 2→mulOk (l[2*k]?.getD zB) (l[2*k+1]?.getD zB)
 | _=>False),fun args=>match args with
 | [.s (.sl (.cons .bool (.cons (.slice (.int .i64)) .nil)) l _)]=>.v (aS tBig (prodL l) false)
 | _=>.v (.s .any)⟩
theorem conProd_eq (l:List (Ty.T tBig)) (exl:Bool):conProd.pre [.s (.sl tBig l exl)]=(l.length≤100∧∀ k,k<l.length / 2→mulOk (l[2*k]?.getD zB) (l[2*k+1]?.getD zB))∧conProd.val [.s (.sl tBig l exl)]=.v (aS tBig (prodL l) false):=⟨rfl,rfl⟩
theorem prod_ok:PureOk prog 59 conProd:=by
 refine pureOkD (L:={ live:=[0,2,3,8],fl:=[(4,[(3,0),(4,0),(8,0),(9,0),(14,0)])] }) nr19_good rfl nr_mixed func59 rfl conProd 1 (by decide) (by kernel_rfl) ?_
 intro args hpre hlens
 simp only [conProd] at hpre
 split at hpre
 case h_2=>exact hpre.elim
 rename_i l el
 simp only [lenS] at hlens
 refine ⟨rfl,?_⟩
 simp -dsimp -implicitDefEqProofs [f59,conProd_eq,nr19_all,nr19_S,inI64]
 obtain ⟨hl,hp⟩:=hpre
 have hmx:10000≤maxLen:=by simp only [maxLen]; omega
 refine WpD.turn _ (Turn.virt (k:=2) (t:=tBig) (xs:=[]) (by simp [look])) ?_
 refine WpD.loop (L:={ live:=[0,2,3,8],fl:=[(4,[(3,0),(4,0),(8,0),(9,0),(14,0)])] }) nr19_good X0_ok nr_mixed (by kernel_rfl)
  (fun k:Nat=>⟨[(0,vS tBig l el),(2,⟨true,.v (.s (.own tBig 0 (prodT l k).length))⟩),(3,vI (2*k:Nat))],[.arr (decide (0<(prodT l k).length)) (tBig.flats (prodT l k))]⟩)
  (fun k=>k≤l.length / 2) (fun k=>l.length / 2 - k) 0 (Nat.zero_le _) (Turn.le (by simp -dsimp -implicitDefEqProofs [prodT])) ?_
 intro k hk
 have hlen:=prodT_len l k
 rcases Nat.lt_or_ge k (l.length / 2) with hkl | hge
 ·
  have h0:=hp k hkl
  have e1:(2*(k:Int)+1).toNat=2*k+1:=by omega
  have e2:(2*(k:Int)).toNat=2*k:=by omega
  simp -dsimp -implicitDefEqProofs [conProd_eq,e1,e2,nr19_all,nr19_S,inI64]
  have e3:2*((k:Int)+1)=2*(k:Int)+2:=by omega
  rw [hlen]
  refine ⟨⟨by omega,by omega⟩,fun h=>⟨⟨⟨by omega,by omega⟩,⟨by omega,by omega⟩,⟨by omega,by omega⟩,⟨h0.1,h0.2.1,h0.2.2⟩,⟨by omega,by omega⟩,⟨by omega,by omega⟩,k+1,by omega,by omega,TurnT.le ?_⟩,⟨by omega,by omega⟩,by omega,by omega⟩,fun h=>absurd h (by omega)⟩
  simp -dsimp -implicitDefEqProofs [prodT_succ,hlen,e3,mulB,zB]
 ·
  obtain rfl:k=l.length / 2:=by omega
  simp -dsimp -implicitDefEqProofs [conProd_eq,nr19_all,nr19_S,inI64]
  exact ⟨⟨by omega,by omega⟩,by omega,fun _=>rfl⟩
def nr20Γ:List (FuncId×Con):=(59,conProd)::nr19Γ
theorem nr20Γ_ok:OkΓ nr20Γ:=by
 simp only [OkΓ,nr20Γ,List.forall_mem_cons]
 exact ⟨⟨enters_of func59 (by kernel_rfl) rfl,prod_ok⟩,nr19Γ_ok⟩
def nr20E:=nr19E
theorem nr20E_ok:OkE nr20E:=nr19E_ok
def nr20P:=nr19P
theorem nr20P_ok:OkP nr20P:=nr19P_ok
def nr20F:=nr19F
theorem nr20F_ok:OkF nr20F:=nr19F_ok
def nr20:G:={ τ:=nrT,Γ:=nr20Γ,E:=nr20E,Pn:=nr20P,E2:=nr20F }
theorem nr20_good:nr20.good prog:=good_of_all (nrT_ok _ rfl) nr20Γ_ok nr20E_ok nr20P_ok nr20F_ok
theorem nr20_all:(∀ t,nr20.td t=(look nrT t).getD .other)∧nr20.y=false∧nr20.Γ=nr20Γ∧nr20.E=nr20E∧nr20.Pn=nr20P∧nr20.E2=nr20F∧nr20.fz=[]∧nr20.te=false∧nr20.bo=false∧nr20.pm=false:=⟨fun _=>rfl,rfl,rfl,rfl,rfl,rfl,rfl,rfl,rfl,rfl⟩
def nr20_S:=And.intro (And.intro @nrT.eq_1 (And.intro @nr20Γ.eq_1 (And.intro @nr20E.eq_1 (And.intro @nr20P.eq_1 (And.intro @nr20F.eq_1 (@conProd_eq)))))) nr19_S
def ratCmp (n1:Bool) (m1 l1:List Int) (n2:Bool) (m2 l2:List Int):Int:=cmpZ (sgn n1 m1*(vl l2:Int)) (sgn n2 m2*(vl l1:Int))
def cmpR (x y:tRat.T):Int:=cmpZ (sgn x.1.1 x.1.2.1*(vl y.2.1.2.1:Int)) (sgn y.1.1 y.1.2.1*(vl x.2.1.2.1:Int))
noncomputable instance (x:tRat.T):Decidable (okR x):=Classical.propDecidable _
theorem sgn_mulB {n1:Bool} {m1:List Int} {n2:Bool} {m2:List Int}:sgn ((n1 != n2)&&decide (dig (vl m1*vl m2)≠[])) (dig (vl m1*vl m2))=sgn n1 m1*sgn n2 m2:=by
 have hz:dig (vl m1*vl m2)=[]↔vl m1*vl m2=0:=dig_nil
 have hc:((vl m1*vl m2:Nat):Int)=(vl m1:Int)*vl m2:=Int.natCast_mul _ _
 by_cases h:vl m1*vl m2=0
 ·
  rw [hz.2 h]
  rw [h] at hc
  cases n1 <;> cases n2 <;> simp [sgn,vl,← hc,Int.neg_mul,Int.mul_neg]
 ·
  have hne:dig (vl m1*vl m2)≠[]:=fun e=>h (hz.1 e)
  cases n1 <;> cases n2 <;> simp [sgn,vl_dig,hne,hc,Int.neg_mul,Int.mul_neg]
def conCmpR:Con:=⟨fun args=>(match args with
 | [.agg [.bool n1,.sl (.int .i64) m1 _,.bool n2,.sl (.int .i64) m2 _],.agg [.bool k1,.sl (.int .i64) l1 _,.bool k2,.sl (.int .i64) l2 _]]=>(okRat n1 m1 n2 m2∧okRat k1 l1 k2 l2→m1.length+l2.length≤2048∧l1.length+m2.length≤2048)
 | _=>False),fun args=>match args with
 | [.agg [.bool n1,.sl (.int .i64) m1 _,.bool n2,.sl (.int .i64) m2 _],.agg [.bool k1,.sl (.int .i64) l1 _,.bool k2,.sl (.int .i64) l2 _]]=>.tup [aI (if okRat n1 m1 n2 m2∧okRat k1 l1 k2 l2 then ratCmp n1 m1 m2 k1 l1 l2 else 0),aI (if okRat n1 m1 n2 m2∧okRat k1 l1 k2 l2 then 0 else 100)]
 | _=>.v (.s .any)⟩
theorem conCmpR_eq (n1:Bool) (m1:List (Ty.T tI)) (exm1:Bool) (n2:Bool) (m2:List (Ty.T tI)) (exm2:Bool) (k1:Bool) (l1:List (Ty.T tI)) (exl1:Bool) (k2:Bool) (l2:List (Ty.T tI)) (exl2:Bool):conCmpR.pre [.agg [.bool n1,.sl tI m1 exm1,.bool n2,.sl tI m2 exm2],.agg [.bool k1,.sl tI l1 exl1,.bool k2,.sl tI l2 exl2]]=((okRat n1 m1 n2 m2∧okRat k1 l1 k2 l2→m1.length+l2.length≤2048∧l1.length+m2.length≤2048))∧conCmpR.val [.agg [.bool n1,.sl tI m1 exm1,.bool n2,.sl tI m2 exm2],.agg [.bool k1,.sl tI l1 exl1,.bool k2,.sl tI l2 exl2]]=.tup [aI (if okRat n1 m1 n2 m2∧okRat k1 l1 k2 l2 then ratCmp n1 m1 m2 k1 l1 l2 else 0),aI (if okRat n1 m1 n2 m2∧okRat k1 l1 k2 l2 then 0 else 100)]:=⟨rfl,rfl⟩
theorem cmpr_ok:PureOk prog 24 conCmpR:=by
 refine pureDefD (L:={ live:=[0,1,2,3,4,5,6],fin:=[(2,[])],fl:=[(4,[(1,0),(2,0),(4,0),(5,0)])] }) nr20_good rfl nr_mixed (dl_cons ⟨enters_of func51 (by kernel_rfl) rfl,caught_ok ratioCaught⟩ dl_nil) func24 rfl conCmpR 2 (by decide) (by kernel_rfl) ?_
 intro args hpre hlens
 simp only [conCmpR] at hpre
 split at hpre
 case h_2=>exact hpre.elim
 rename_i n1 m1 e1 n2 m2 e2 k1 l1 f1 k2 l2 f2
 simp only [lenS] at hlens
 refine ⟨rfl,?_⟩
 simp -dsimp -implicitDefEqProofs [f24,conCmpR_eq,nr20_all,nr20_S,inI64]
 change List Int at m1; change List Int at m2; change List Int at l1; change List Int at l2
 have hoR:∀ {a:Bool} {b:List Int} {c:Bool} {d:List Int},okR ((a,b,()),(c,d,()),())=okRat a b c d:=fun {a b c d}=>rfl
 simp only [hoR]
 refine ⟨fun h=>⟨fun a b=>absurd b (h a),h⟩,fun a b=>⟨⟨a,b⟩,?_,?_⟩⟩
 ·
  intro k hk
  obtain ⟨z1,z2⟩:=hpre ⟨a,b⟩
  rcases k with _ | _ | k
  ·
   exact ⟨a.1,b.2.1,z1⟩
  ·
   exact ⟨b.1,a.2.1,z2⟩
  ·
   omega
 ·
  obtain ⟨z1,z2⟩:=hpre ⟨a,b⟩
  have o1:okB (mulB (n1,m1,()) (k2,l2,())):=okB_mulB ⟨a.1,b.2.1,z1⟩
  have o2:okB (mulB (k1,l1,()) (n2,m2,())):=okB_mulB ⟨b.1,a.2.1,z2⟩
  rw [prodL_four,if_pos ⟨a,b⟩]
  obtain rfl:=a.2.2.1
  obtain rfl:=b.2.2.1
  refine ⟨⟨Nat.succ_pos _,by show (1:Int)<2; decide,⟨o1,o2⟩,?_,a,b⟩,Nat.succ_pos _,by show (1:Int)<2; decide⟩
  show cmpZ (sgn ((n1 != false)&&decide (dig (vl m1*vl l2)≠[])) (dig (vl m1*vl l2))) (sgn ((k1 != false)&&decide (dig (vl l1*vl m2)≠[])) (dig (vl l1*vl m2)))=_
  rw [sgn_mulB,sgn_mulB]
  rfl
theorem cmpZ_zero {a b:Int}:cmpZ a b=0↔a=b:=by
 unfold cmpZ
 split
 ·
  simp; omega
 ·
  split
  ·
   simp; omega
  ·
   simp; omega
theorem mul9_of {x y:tBig.T} (h:mulOk x y):mulErr x.1 x.2.1 y.1 y.2.1=0∧mulD x.1 x.2.1 y.1 y.2.1=dig (vl x.2.1*vl y.2.1):=by
 have h1:twoErr x.1 x.2.1 y.1 y.2.1=0:=twoErr_0.2 ⟨h.1,h.2.1⟩
 have h2:(dig (vl x.2.1*vl y.2.1)).length≤2048:=(okB_mulB h).2.1
 unfold mulErr mulD limE limD
 rw [if_pos h1,if_pos h1,if_pos h2,if_pos h2]
 exact ⟨rfl,rfl⟩
def nr21Γ:List (FuncId×Con):=(127,conGcd9)::(118,conCmp9)::(119,conMul9)::(108,conMake9)::(126,conZero)::nr7Γ
theorem nr21Γ_ok:OkΓ nr21Γ:=by
 simp only [OkΓ,nr21Γ,List.forall_mem_cons]
 exact ⟨⟨enters_of func127 (by kernel_rfl) rfl,gcd9_ok⟩,⟨enters_of func118 (by kernel_rfl) rfl,cmp9_ok⟩,⟨enters_of func119 (by kernel_rfl) rfl,mul9_ok⟩,⟨enters_of func108 (by kernel_rfl) rfl,make9_ok⟩,⟨enters_of func126 (by kernel_rfl) rfl,zero_ok⟩,nr7Γ_ok⟩
def nr21E:=nr7E
theorem nr21E_ok:OkE nr21E:=nr7E_ok
def nr21P:=nr7P
theorem nr21P_ok:OkP nr21P:=nr7P_ok
def nr21F:=nr7F
theorem nr21F_ok:OkF nr21F:=nr7F_ok
def nr21:G:={ τ:=nrT,Γ:=nr21Γ,E:=nr21E,Pn:=nr21P,E2:=nr21F }
theorem nr21_good:nr21.good prog:=good_of_all (nrT_ok _ rfl) nr21Γ_ok nr21E_ok nr21P_ok nr21F_ok
theorem nr21_all:(∀ t,nr21.td t=(look nrT t).getD .other)∧nr21.y=false∧nr21.Γ=nr21Γ∧nr21.E=nr21E∧nr21.Pn=nr21P∧nr21.E2=nr21F∧nr21.fz=[]∧nr21.te=false∧nr21.bo=false∧nr21.pm=false:=⟨fun _=>rfl,rfl,rfl,rfl,rfl,rfl,rfl,rfl,rfl,rfl⟩
def nr21_S:=And.intro (And.intro @nrT.eq_1 (And.intro @nr21Γ.eq_1 (And.intro @nr21E.eq_1 (And.intro @nr21P.eq_1 (And.intro @nr21F.eq_1 (And.intro @conGcd9_eq (And.intro @conCmp9_eq (And.intro @conMul9_eq (And.intro @conMake9_eq (@conZero_eq)))))))))) nr7_S
theorem rratc_ok:PureOk prog 82 conRatC:=by
 refine pureOkD (L:={ live:=[0,1,2,3,5,26,42] }) nr21_good rfl nr_mixed func82 rfl conRatC 1 (by decide) (by kernel_rfl) ?_
 intro args hpre hlens
 simp only [conRatC] at hpre
 split at hpre
 case h_2=>exact hpre.elim
 rename_i n1 m1 e1 n2 m2 e2
 simp only [lenS] at hlens
 refine ⟨rfl,?_⟩
 simp -dsimp -implicitDefEqProofs [f82,conRatC_eq,nr21_all,nr21_S,inI64]
 change List Int at m1; change List Int at m2
 have hok:okRat n1 m1 n2 m2↔(natErr n1 m1=0∧natErr n2 m2=0∧n2=false∧m2≠[]∧Nat.gcd (vl m1) (vl m2)=1):=by
  rw [natErr_0,natErr_0]; rfl
 have hb:natErr n1 m1=0→natErr n2 m2=0→¬ m2=[]→(cmpV9 false (gcdD n1 m1 n2 m2) false (dig 1)=0↔Nat.gcd (vl m1) (vl m2)=1):=fun h1 h2 h3=>by
  have o1:=natErr_0.1 h1
  have o2:=natErr_0.1 h2
  have ht:twoErr n1 m1 n2 m2=0:=twoErr_0.2 ⟨o1,o2⟩
  have hp:0<vl m2:=(vl_pos o2.1).2 (List.length_pos_iff.2 h3)
  have hg:okBig false (dig (Nat.gcd (vl m1) (vl m2))):=by
   refine ⟨canon_dig _,?_,fun h=>by cases h⟩
   exact dig_same o2.1 (Nat.le_of_dvd hp (Nat.gcd_dvd_right _ _)) o2.2.1
  have h1':okBig false (dig 1):=⟨canon_dig _,by rw [dig_one]; decide,fun h=>by cases h⟩
  unfold cmpV9 gcdD
  rw [if_pos ht,if_pos (twoErr_0.2 ⟨hg,h1'⟩),sgn_false,sgn_false,vl_dig,vl_dig,cmpZ_zero]
  omega
 refine ⟨fun h => ?_,fun h1 h2 h4 h3=>⟨fun h => ?_,fun h => ?_⟩⟩
 ·
  unfold ratErr
  rw [if_neg]
  rw [hok]
  rintro ⟨q1,q2,q3,q4,_⟩
  rcases h with (h | h) | h
  ·
   rcases h with h | h
   ·
    exact h q1
   ·
    exact h q2
  ·
   exact q4 h
  ·
   rw [h] at q3; cases q3
 ·
  unfold ratErr
  rw [if_neg]
  rw [hok]
  rintro ⟨_,_,_,_,q⟩
  exact h ((hb h1 h2 h4).2 q)
 ·
  unfold ratErr
  rw [if_pos]
  rw [hok]
  exact ⟨h1,h2,h3,h4,(hb h1 h2 h4).1 h⟩
def conRInt:Con:=⟨fun args=>(match args with
 | [.s (.int .i64 n)]=>inI64 n
 | _=>False),fun args=>match args with
 | [.s (.int _ n)]=>.v (.agg [.bool (decide (n<0)),.sl tI (dig n.natAbs) false,.bool false,.sl tI [1] false])
 | _=>.v (.s .any)⟩
theorem conRInt_eq (n:Int):conRInt.pre [.s (.int .i64 n)]=(inI64 n)∧conRInt.val [.s (.int .i64 n)]=.v (.agg [.bool (decide (n<0)),.sl tI (dig n.natAbs) false,.bool false,.sl tI [1] false]):=⟨rfl,rfl⟩
theorem rint_ok:PureOk prog 73 conRInt:=by
 refine pureOkD (L:={ live:=[0,2] }) nr21_good rfl nr_mixed func73 rfl conRInt 1 (by decide) (by kernel_rfl) ?_
 intro args hpre hlens
 simp only [conRInt] at hpre
 split at hpre
 case h_2=>exact hpre.elim
 rename_i n
 simp only [lenS] at hlens
 refine ⟨rfl,?_⟩
 simp -dsimp -implicitDefEqProofs [f73,conRInt_eq,nr21_all,nr21_S,inI64]
 exact ⟨hpre,dig_one⟩
def nr22Γ:List (FuncId×Con):=(82,conRatC)::(73,conRInt)::nr21Γ
theorem nr22Γ_ok:OkΓ nr22Γ:=by
 simp only [OkΓ,nr22Γ,List.forall_mem_cons]
 exact ⟨⟨enters_of func82 (by kernel_rfl) rfl,rratc_ok⟩,⟨enters_of func73 (by kernel_rfl) rfl,rint_ok⟩,nr21Γ_ok⟩
def nr22E:=nr21E
theorem nr22E_ok:OkE nr22E:=nr21E_ok
def nr22P:=nr21P
theorem nr22P_ok:OkP nr22P:=nr21P_ok
def nr22F:=nr21F
theorem nr22F_ok:OkF nr22F:=nr21F_ok
def nr22:G:={ τ:=nrT,Γ:=nr22Γ,E:=nr22E,Pn:=nr22P,E2:=nr22F }
theorem nr22_good:nr22.good prog:=good_of_all (nrT_ok _ rfl) nr22Γ_ok nr22E_ok nr22P_ok nr22F_ok
theorem nr22_all:(∀ t,nr22.td t=(look nrT t).getD .other)∧nr22.y=false∧nr22.Γ=nr22Γ∧nr22.E=nr22E∧nr22.Pn=nr22P∧nr22.E2=nr22F∧nr22.fz=[]∧nr22.te=false∧nr22.bo=false∧nr22.pm=false:=⟨fun _=>rfl,rfl,rfl,rfl,rfl,rfl,rfl,rfl,rfl,rfl⟩
def nr22_S:=And.intro (And.intro @nrT.eq_1 (And.intro @nr22Γ.eq_1 (And.intro @nr22E.eq_1 (And.intro @nr22P.eq_1 (And.intro @nr22F.eq_1 (And.intro @conRatC_eq (@conRInt_eq))))))) nr21_S
def conRVal:Con:=⟨fun args=>(match args with
 | [.agg [.bool n1,.sl (.int .i64) m1 _,.bool n2,.sl (.int .i64) m2 _],.agg [.bool k1,.sl (.int .i64) l1 _,.bool k2,.sl (.int .i64) l2 _]]=>True
 | _=>False),fun args=>match args with
 | [.agg [.bool n1,.sl (.int .i64) m1 _,.bool n2,.sl (.int .i64) m2 _],.agg [.bool k1,.sl (.int .i64) l1 _,.bool k2,.sl (.int .i64) l2 _]]=>.v (aB (decide (okRat n1 m1 n2 m2∧okRat k1 l1 k2 l2)))
 | _=>.v (.s .any)⟩
theorem conRVal_eq (n1:Bool) (m1:List (Ty.T tI)) (exm1:Bool) (n2:Bool) (m2:List (Ty.T tI)) (exm2:Bool) (k1:Bool) (l1:List (Ty.T tI)) (exl1:Bool) (k2:Bool) (l2:List (Ty.T tI)) (exl2:Bool):conRVal.pre [.agg [.bool n1,.sl tI m1 exm1,.bool n2,.sl tI m2 exm2],.agg [.bool k1,.sl tI l1 exl1,.bool k2,.sl tI l2 exl2]]=(True)∧conRVal.val [.agg [.bool n1,.sl tI m1 exm1,.bool n2,.sl tI m2 exm2],.agg [.bool k1,.sl tI l1 exl1,.bool k2,.sl tI l2 exl2]]=.v (aB (decide (okRat n1 m1 n2 m2∧okRat k1 l1 k2 l2))):=⟨rfl,rfl⟩
theorem rval_ok:PureOk prog 116 conRVal:=by
 refine pureOkD (L:={ live:=[0,1,2,3,4] }) nr22_good rfl nr_mixed func116 rfl conRVal 2 (by decide) (by kernel_rfl) ?_
 intro args hpre hlens
 simp only [conRVal] at hpre
 split at hpre
 case h_2=>exact hpre.elim
 rename_i n1 m1 e1 n2 m2 e2 k1 l1 f1 k2 l2 f2
 simp only [lenS] at hlens
 refine ⟨rfl,?_⟩
 simp -dsimp -implicitDefEqProofs [f116,conRVal_eq,nr22_all,nr22_S,inI64]
 change List Int at m1; change List Int at m2; change List Int at l1; change List Int at l2
 rw [Bool.eq_iff_iff]
 simp [ratErr_0]
def conCross:Con:=⟨fun args=>(match args with
 | [.agg [.bool n1,.sl (.int .i64) m1 _,.bool n2,.sl (.int .i64) m2 _],.agg [.bool k1,.sl (.int .i64) l1 _,.bool k2,.sl (.int .i64) l2 _]]=>mulOk (n1,m1,()) (k2,l2,())∧mulOk (k1,l1,()) (n2,m2,())
 | _=>False),fun args=>match args with
 | [.agg [.bool n1,.sl (.int .i64) m1 _,.bool n2,.sl (.int .i64) m2 _],.agg [.bool k1,.sl (.int .i64) l1 _,.bool k2,.sl (.int .i64) l2 _]]=>.tup [.agg [.bool (mulB (n1,m1,()) (k2,l2,())).1,.sl tI (mulB (n1,m1,()) (k2,l2,())).2.1 false],.agg [.bool (mulB (k1,l1,()) (n2,m2,())).1,.sl tI (mulB (k1,l1,()) (n2,m2,())).2.1 false],aI 0]
 | _=>.v (.s .any)⟩
theorem conCross_eq (n1:Bool) (m1:List (Ty.T tI)) (exm1:Bool) (n2:Bool) (m2:List (Ty.T tI)) (exm2:Bool) (k1:Bool) (l1:List (Ty.T tI)) (exl1:Bool) (k2:Bool) (l2:List (Ty.T tI)) (exl2:Bool):conCross.pre [.agg [.bool n1,.sl tI m1 exm1,.bool n2,.sl tI m2 exm2],.agg [.bool k1,.sl tI l1 exl1,.bool k2,.sl tI l2 exl2]]=(mulOk (n1,m1,()) (k2,l2,())∧mulOk (k1,l1,()) (n2,m2,()))∧conCross.val [.agg [.bool n1,.sl tI m1 exm1,.bool n2,.sl tI m2 exm2],.agg [.bool k1,.sl tI l1 exl1,.bool k2,.sl tI l2 exl2]]=.tup [.agg [.bool (mulB (n1,m1,()) (k2,l2,())).1,.sl tI (mulB (n1,m1,()) (k2,l2,())).2.1 false],.agg [.bool (mulB (k1,l1,()) (n2,m2,())).1,.sl tI (mulB (k1,l1,()) (n2,m2,())).2.1 false],aI 0]:=⟨rfl,rfl⟩
theorem cross_ok:PureOk prog 117 conCross:=by
 refine pureOkD (L:={ live:=[0,1,2,3,4,5,6,7,8,9,10,32],fl:=[(5,[(0,0),(1,0),(1,3)])] }) nr22_good rfl nr_mixed func117 rfl conCross 2 (by decide) (by kernel_rfl) ?_
 intro args hpre hlens
 simp only [conCross] at hpre
 split at hpre
 case h_2=>exact hpre.elim
 rename_i n1 m1 e1 n2 m2 e2 k1 l1 f1 k2 l2 f2
 simp only [lenS] at hlens
 refine ⟨rfl,?_⟩
 simp -dsimp -implicitDefEqProofs [f117,conCross_eq,nr22_all,nr22_S,inI64]
 change List Int at m1; change List Int at m2; change List Int at l1; change List Int at l2
 obtain ⟨a1,a2⟩:=mul9_of hpre.1
 obtain ⟨b1,b2⟩:=mul9_of hpre.2
 refine ⟨⟨a1,b1⟩,fun _ _ => ?_⟩
 simp only at a2 b2
 rw [a2,b2]
 simp [mulB]
def nr23Γ:List (FuncId×Con):=(116,conRVal)::(117,conCross)::nr22Γ
theorem nr23Γ_ok:OkΓ nr23Γ:=by
 simp only [OkΓ,nr23Γ,List.forall_mem_cons]
 exact ⟨⟨enters_of func116 (by kernel_rfl) rfl,rval_ok⟩,⟨enters_of func117 (by kernel_rfl) rfl,cross_ok⟩,nr22Γ_ok⟩
def nr23E:=nr22E
theorem nr23E_ok:OkE nr23E:=nr22E_ok
def nr23P:=nr22P
theorem nr23P_ok:OkP nr23P:=nr22P_ok
def nr23F:=nr22F
theorem nr23F_ok:OkF nr23F:=nr22F_ok
def nr23:G:={ τ:=nrT,Γ:=nr23Γ,E:=nr23E,Pn:=nr23P,E2:=nr23F }
theorem nr23_good:nr23.good prog:=good_of_all (nrT_ok _ rfl) nr23Γ_ok nr23E_ok nr23P_ok nr23F_ok
theorem nr23_all:(∀ t,nr23.td t=(look nrT t).getD .other)∧nr23.y=false∧nr23.Γ=nr23Γ∧nr23.E=nr23E∧nr23.Pn=nr23P∧nr23.E2=nr23F∧nr23.fz=[]∧nr23.te=false∧nr23.bo=false∧nr23.pm=false:=⟨fun _=>rfl,rfl,rfl,rfl,rfl,rfl,rfl,rfl,rfl,rfl⟩
def nr23_S:=And.intro (And.intro @nrT.eq_1 (And.intro @nr23Γ.eq_1 (And.intro @nr23E.eq_1 (And.intro @nr23P.eq_1 (And.intro @nr23F.eq_1 (And.intro @conRVal_eq (@conCross_eq))))))) nr22_S
theorem rcmpr_ok:PureOk prog 74 conCmpR:=by
 refine pureOkD (L:={ live:=[0,1,2,3,4,5,6,7,8,12,21] }) nr23_good rfl nr_mixed func74 rfl conCmpR 2 (by decide) (by kernel_rfl) ?_
 intro args hpre hlens
 simp only [conCmpR] at hpre
 split at hpre
 case h_2=>exact hpre.elim
 rename_i n1 m1 e1 n2 m2 e2 k1 l1 f1 k2 l2 f2
 simp only [lenS] at hlens
 refine ⟨rfl,?_⟩
 simp -dsimp -implicitDefEqProofs [f74,conCmpR_eq,nr23_all,nr23_S,inI64]
 change List Int at m1; change List Int at m2; change List Int at l1; change List Int at l2
 refine ⟨fun h=>⟨fun a b => ?_,fun a b => ?_⟩,fun a b=>⟨?_,?_,?_⟩⟩
 ·
  rcases h with h | h
  ·
   exact absurd a h
  ·
   exact absurd b h
 ·
  rcases h with h | h
  ·
   exact absurd a h
  ·
   exact absurd b h
 ·
  obtain ⟨z1,z2⟩:=hpre ⟨a,b⟩
  exact ⟨⟨a.1,b.2.1,z1⟩,⟨b.1,a.2.1,z2⟩⟩
 ·
  obtain ⟨z1,z2⟩:=hpre ⟨a,b⟩
  have o1:okB (mulB (n1,m1,()) (k2,l2,())):=okB_mulB ⟨a.1,b.2.1,z1⟩
  have o2:okB (mulB (k1,l1,()) (n2,m2,())):=okB_mulB ⟨b.1,a.2.1,z2⟩
  rw [if_pos ⟨a,b⟩]
  unfold cmpV9
  rw [if_pos (twoErr_0.2 ⟨o1,o2⟩)]
  obtain rfl:=a.2.2.1
  obtain rfl:=b.2.2.1
  show cmpZ (sgn ((n1 != false)&&decide (dig (vl m1*vl l2)≠[])) (dig (vl m1*vl l2))) (sgn ((k1 != false)&&decide (dig (vl l1*vl m2)≠[])) (dig (vl l1*vl m2)))=_
  rw [sgn_mulB,sgn_mulB]
  rfl
 ·
  obtain ⟨z1,z2⟩:=hpre ⟨a,b⟩
  have o1:okB (mulB (n1,m1,()) (k2,l2,())):=okB_mulB ⟨a.1,b.2.1,z1⟩
  have o2:okB (mulB (k1,l1,()) (n2,m2,())):=okB_mulB ⟨b.1,a.2.1,z2⟩
  rw [if_pos ⟨a,b⟩]
  exact twoErr_0.2 ⟨o1,o2⟩
def fewB (m:List Int) (n:Int):Bool:=decide ((m.length:Int)≤n∨2048<m.length∧m.length≤2052)
def conFewB:Con:=⟨fun args=>(match args with
 | [.agg [.bool ng,.sl (.int .i64) m _],.s (.int .i64 n)]=>True
 | _=>False),fun args=>match args with
 | [.agg [.bool ng,.sl (.int .i64) m _],.s (.int _ n)]=>.v (aB (fewB m n))
 | _=>.v (.s .any)⟩
theorem conFewB_eq (ng:Bool) (m:List (Ty.T tI)) (exm:Bool) (n:Int):conFewB.pre [.agg [.bool ng,.sl tI m exm],.s (.int .i64 n)]=(True)∧conFewB.val [.agg [.bool ng,.sl tI m exm],.s (.int .i64 n)]=.v (aB (fewB m n)):=⟨rfl,rfl⟩
theorem fewb_ok:PureOk prog 64 conFewB:=by
 refine pureOkD (L:={ live:=[0,1,2,4] }) nr0_good rfl nr_mixed func64 rfl conFewB 2 (by decide) (by kernel_rfl) ?_
 intro args hpre hlens
 simp only [conFewB] at hpre
 split at hpre
 case h_2=>exact hpre.elim
 rename_i ng m em n
 simp only [lenS] at hlens
 refine ⟨rfl,?_⟩
 simp -dsimp -implicitDefEqProofs [f64,conFewB_eq,nr0_all,nr0_S,inI64]
 refine ⟨fun h=>⟨h,fun h2=>⟨h,h2⟩⟩,?_⟩
 rw [fewB,Bool.eq_iff_iff]
 simp
 omega
def conFewR:Con:=⟨fun args=>(match args with
 | [.agg [.bool n1,.sl (.int .i64) m1 _,.bool n2,.sl (.int .i64) m2 _],.s (.int .i64 n)]=>True
 | _=>False),fun args=>match args with
 | [.agg [.bool n1,.sl (.int .i64) m1 _,.bool n2,.sl (.int .i64) m2 _],.s (.int _ n)]=>.v (aB (fewB m1 n&&fewB m2 n))
 | _=>.v (.s .any)⟩
theorem conFewR_eq (n1:Bool) (m1:List (Ty.T tI)) (exm1:Bool) (n2:Bool) (m2:List (Ty.T tI)) (exm2:Bool) (n:Int):conFewR.pre [.agg [.bool n1,.sl tI m1 exm1,.bool n2,.sl tI m2 exm2],.s (.int .i64 n)]=(True)∧conFewR.val [.agg [.bool n1,.sl tI m1 exm1,.bool n2,.sl tI m2 exm2],.s (.int .i64 n)]=.v (aB (fewB m1 n&&fewB m2 n)):=⟨rfl,rfl⟩
def nr24Γ:List (FuncId×Con):=(64,conFewB)::nr0Γ
theorem nr24Γ_ok:OkΓ nr24Γ:=by
 simp only [OkΓ,nr24Γ,List.forall_mem_cons]
 exact ⟨⟨enters_of func64 (by kernel_rfl) rfl,fewb_ok⟩,nr0Γ_ok⟩
def nr24E:=nr0E
theorem nr24E_ok:OkE nr24E:=nr0E_ok
def nr24P:=nr0P
theorem nr24P_ok:OkP nr24P:=nr0P_ok
def nr24F:=nr0F
theorem nr24F_ok:OkF nr24F:=nr0F_ok
def nr24:G:={ τ:=nrT,Γ:=nr24Γ,E:=nr24E,Pn:=nr24P,E2:=nr24F }
theorem nr24_good:nr24.good prog:=good_of_all (nrT_ok _ rfl) nr24Γ_ok nr24E_ok nr24P_ok nr24F_ok
theorem nr24_all:(∀ t,nr24.td t=(look nrT t).getD .other)∧nr24.y=false∧nr24.Γ=nr24Γ∧nr24.E=nr24E∧nr24.Pn=nr24P∧nr24.E2=nr24F∧nr24.fz=[]∧nr24.te=false∧nr24.bo=false∧nr24.pm=false:=⟨fun _=>rfl,rfl,rfl,rfl,rfl,rfl,rfl,rfl,rfl,rfl⟩
def nr24_S:=And.intro (And.intro @nrT.eq_1 (And.intro @nr24Γ.eq_1 (And.intro @nr24E.eq_1 (And.intro @nr24P.eq_1 (And.intro @nr24F.eq_1 (@conFewB_eq)))))) nr0_S
theorem fewr_ok:PureOk prog 25 conFewR:=by
 refine pureOkD (L:={ live:=[0,1,2,4] }) nr24_good rfl nr_mixed func25 rfl conFewR 2 (by decide) (by kernel_rfl) ?_
 intro args hpre hlens
 simp only [conFewR] at hpre
 split at hpre
 case h_2=>exact hpre.elim
 rename_i n1 m1 e1 n2 m2 e2 n
 simp only [lenS] at hlens
 refine ⟨rfl,?_⟩
 simp -dsimp -implicitDefEqProofs [f25,conFewR_eq,nr24_all,nr24_S,inI64]
 skip
theorem drop_cons {s:ByteArray} {c:Int} (h0:0<s.size) (h:byteAt s 0=c):(strL (s.extract 1 s.size)).dropWhile (fun b=>decide (b=c))=(strL s).dropWhile fun b=>decide (b=c):=by
 have hl:=strL_len s
 rw [byteAt_strL] at h
 rw [strL_extract,List.take_of_length_le (by omega)]
 generalize strL s=l at *
 cases l with
 | nil=>simp at hl; omega
 | cons a l =>
  obtain rfl:a=c:=h
  rw [List.dropWhile_cons_of_pos (by simp)]
  rfl
theorem drop_stop {s:ByteArray} {c:Int} (h:¬ (0<s.size∧byteAt s 0=c)):bytesS ((strL s).dropWhile fun b=>decide (b=c))=s:=by
 have hl:=strL_len s
 have e:(strL s).dropWhile (fun b=>decide (b=c))=strL s:=by
  rw [byteAt_strL] at h
  generalize strL s=l at *
  cases l with
  | nil=>rfl
  | cons a l =>
   rw [List.dropWhile_cons_of_neg]
   simp only [List.length_cons] at hl
   intro q
   exact h ⟨by omega,by simpa using q⟩
 rw [e,bytesS_strL]
def conTrimB:Con:=⟨fun args=>(match args with
 | [.s (.str s),.s (.int .u8 c)]=>True
 | _=>False),fun args=>match args with
 | [.s (.str s),.s (.int _ c)]=>.v (.s (.str (bytesS ((strL s).dropWhile fun b=>decide (b=c)))))
 | _=>.v (.s .any)⟩
theorem conTrimB_eq (s:ByteArray) (c:Int):conTrimB.pre [.s (.str s),.s (.int .u8 c)]=(True)∧conTrimB.val [.s (.str s),.s (.int .u8 c)]=.v (.s (.str (bytesS ((strL s).dropWhile fun b=>decide (b=c))))):=⟨rfl,rfl⟩
theorem trimb_ok:PureOk prog 141 conTrimB:=by
 refine pureOkD (L:={ live:=[0,1,4,13] }) nr20_good rfl nr_mixed func141 rfl conTrimB 2 (by decide) (by kernel_rfl) ?_
 intro args hpre hlens
 simp only [conTrimB] at hpre
 split at hpre
 case h_2=>exact hpre.elim
 rename_i s c
 simp only [lenS] at hlens
 refine ⟨rfl,?_⟩
 simp -dsimp -implicitDefEqProofs [f141,conTrimB_eq,nr20_all,nr20_S,inI64]
 refine WpD.loop (L:={ live:=[0,1,4,13] }) nr20_good X0_ok nr_mixed (by kernel_rfl)
  (fun z:ByteArray=>⟨[(0,⟨true,.v (.s (.str z))⟩),(1,⟨true,.v (.s (.int .u8 c))⟩)],[]⟩)
  (fun z=>(strL z).dropWhile (fun b=>decide (b=c))=(strL s).dropWhile fun b=>decide (b=c)) (fun z=>z.size) s rfl (Turn.le (by simp -dsimp -implicitDefEqProofs)) ?_
 intro z hz
 by_cases hd:0<z.size∧byteAt z 0=c
 ·
  simp -dsimp -implicitDefEqProofs [conTrimB_eq,hd.1,hd.2,nr20_all,nr20_S,inI64]
  have h0:=hd.1
  have hsz:(z.extract 1 z.size).size=z.size - 1:=by
   rw [← strL_len,strL_extract,List.length_drop,List.length_take,strL_len]; omega
  exact ⟨by omega,z.extract 1 z.size,by rw [drop_cons hd.1 hd.2]; exact hz,by omega,TurnT.le (by simp -dsimp -implicitDefEqProofs)⟩
 ·
  have hs:=drop_stop hd
  rw [hz] at hs
  simp -dsimp -implicitDefEqProofs [conTrimB_eq,nr20_all,nr20_S,inI64]
  exact ⟨fun h1 h2=>absurd ⟨h1,h2⟩ hd,fun _=>hs.symm⟩
abbrev t8:Ty:=.int .u8
def tx1Γ:List (FuncId×Con):=(141,conTrimB)::nr20Γ
theorem tx1Γ_ok:OkΓ tx1Γ:=by
 simp only [OkΓ,tx1Γ,List.forall_mem_cons]
 exact ⟨⟨enters_of func141 (by kernel_rfl) rfl,trimb_ok⟩,nr20Γ_ok⟩
def tx1E:=nr20E
theorem tx1E_ok:OkE tx1E:=nr20E_ok
def tx1P:=nr20P
theorem tx1P_ok:OkP tx1P:=nr20P_ok
def tx1F:=nr20F
theorem tx1F_ok:OkF tx1F:=nr20F_ok
def tx1:G:={ τ:=nrT,Γ:=tx1Γ,E:=tx1E,Pn:=tx1P,E2:=tx1F }
theorem tx1_good:tx1.good prog:=good_of_all (nrT_ok _ rfl) tx1Γ_ok tx1E_ok tx1P_ok tx1F_ok
theorem tx1_all:(∀ t,tx1.td t=(look nrT t).getD .other)∧tx1.y=false∧tx1.Γ=tx1Γ∧tx1.E=tx1E∧tx1.Pn=tx1P∧tx1.E2=tx1F∧tx1.fz=[]∧tx1.te=false∧tx1.bo=false∧tx1.pm=false:=⟨fun _=>rfl,rfl,rfl,rfl,rfl,rfl,rfl,rfl,rfl,rfl⟩
def tx1_S:=And.intro (And.intro @nrT.eq_1 (And.intro @tx1Γ.eq_1 (And.intro @tx1E.eq_1 (And.intro @tx1P.eq_1 (And.intro @tx1F.eq_1 (@conTrimB_eq)))))) nr20_S
def trimZ (l:List Int):List Int:=l.dropWhile fun b=>decide (b=48)
theorem bytesS_nil {s:ByteArray} (h:s.data.toList=[]):s=bytesS []:=str_ext (by rw [h]; rfl)
def conTrimL:Con:=⟨fun args=>(match args with
 | [.s (.str s),.s (.str c)]=>c=⟨#[48]⟩
 | _=>False),fun args=>match args with
 | [.s (.str s),.s (.str c)]=>.v (.s (.str (bytesS (trimZ (strL s)))))
 | _=>.v (.s .any)⟩
theorem conTrimL_eq (s:ByteArray) (c:ByteArray):conTrimL.pre [.s (.str s),.s (.str c)]=(c=⟨#[48]⟩)∧conTrimL.val [.s (.str s),.s (.str c)]=.v (.s (.str (bytesS (trimZ (strL s))))):=⟨rfl,rfl⟩
theorem triml_ok:PureOk prog 93 conTrimL:=by
 refine pureOkD (L:={ live:=[0,1,4,5,6,12,21,31] }) tx1_good rfl nr_mixed func93 rfl conTrimL 2 (by decide) (by kernel_rfl) ?_
 intro args hpre hlens
 simp only [conTrimL] at hpre
 split at hpre
 case h_2=>exact hpre.elim
 rename_i s c
 simp only [lenS] at hlens
 subst hpre
 refine ⟨rfl,?_⟩
 simp -dsimp -implicitDefEqProofs [f93,conTrimL_eq,tx1_all,tx1_S,inI64]
 have e1:(ByteArray.mk #[48]).size=1:=rfl
 have e2:byteAt (ByteArray.mk #[48]) 0=48:=rfl
 refine ⟨fun h => ?_,fun h=>⟨fun _=>⟨by rw [e1]; rfl,by rw [e1]; decide⟩,fun _ _=>⟨by rw [e1]; decide,by rw [e2]; rfl⟩,by rw [e1]; rfl,by rw [e2]; decide⟩⟩
 obtain rfl:=bytesS_nil (s:=s) (by rw [h])
 rfl
theorem fl_get {k:IntKind} {xs:List Int} {j:Nat} (h:j<xs.length):((Ty.int k).flats xs)[j]?=some (.int k (xs[j]?.getD 0)):=by
 rw [flats_int_get,List.getElem?_eq_getElem h]
 rfl
theorem fl_setk {k:IntKind} {xs:List Int} {j:Nat} (h:j<xs.length) (v:Int):List.take j ((Ty.int k).flats xs)++SV.int k v::List.drop (j+1) ((Ty.int k).flats xs)=(Ty.int k).flats (xs.set j v):=by
 have e:∀ l:List Int,(Ty.int k).flats l=l.map (SV.int k):=fun l=>by
  induction l with
  | nil=>rfl
  | cons x l ih=>simp [Ty.flats,Ty.flat,ih]
 rw [e,e,List.map_set,List.set_eq_take_append_cons_drop,if_pos (by simpa using h)]
def turned (xs ys:List Int) (p:Nat):Prop:=ys.length=xs.length∧∀ k,k<xs.length→ys[k]?=if k<p∨xs.length - 1 - k<p then xs[xs.length - 1 - k]? else xs[k]?
theorem turned_0 (xs:List Int):turned xs xs 0:=⟨rfl,fun k _=>by simp⟩
theorem turned_step {xs ys:List Int} {p:Nat} (h:turned xs ys p) (hp:2*p+1<xs.length):turned xs ((ys.set p (ys[xs.length - 1 - p]?.getD 0)).set (xs.length - 1 - p) (ys[p]?.getD 0)) (p+1):=by
 obtain ⟨h1,h2⟩:=h
 refine ⟨by simp [h1],fun k hk => ?_⟩
 have e1:=h2 p (by omega)
 have e2:=h2 (xs.length - 1 - p) (by omega)
 rw [if_neg (by omega)] at e1 e2
 rw [e1,e2]
 by_cases k1:xs.length - 1 - p=k
 ·
  subst k1
  rw [List.getElem?_set_self (by simp [h1]; omega),if_pos (by omega)]
  rw [show xs.length - 1 - (xs.length - 1 - p)=p by omega,List.getElem?_eq_getElem (by omega)]
  rfl
 ·
  rw [List.getElem?_set_ne k1]
  by_cases k2:p=k
  ·
   subst k2
   rw [List.getElem?_set_self (by omega),if_pos (by omega),List.getElem?_eq_getElem (by omega)]
   rfl
  ·
   rw [List.getElem?_set_ne k2,h2 k hk]
   by_cases k3:k<p∨xs.length - 1 - k<p
   ·
    rw [if_pos k3,if_pos (by omega)]
   ·
    rw [if_neg k3,if_neg (by omega)]
theorem turned_end {xs ys:List Int} {p:Nat} (h:turned xs ys p) (hp:xs.length≤2*p+1):ys=xs.reverse:=by
 obtain ⟨h1,h2⟩:=h
 refine List.ext_getElem? fun k => ?_
 by_cases hk:k<xs.length
 ·
  rw [h2 k hk,List.getElem?_reverse hk]
  split
  ·
   rfl
  ·
   rw [show xs.length - 1 - k=k by omega]
 ·
  rw [List.getElem?_eq_none (by omega),List.getElem?_eq_none (by rw [List.length_reverse]; omega)]
def conRevB:ECon:={ wp:=fun args hp K=>match args,hp with
 | [.s (.own (.int .u8) 0 n)],[.arr al cs]=>∃ xs:List Int,cs=t8.flats xs∧n=xs.length∧(al=true∨xs=[])∧xs.length≤1000000∧K (.tup []) [.arr al (t8.flats xs.reverse)]
 | _,_=>False }
theorem revB_ok:EffOk prog 92 conRevB:=by
 refine effOkD (L:={ live:=[0,2,3,9],fl:=[(3,[(6,0),(7,0),(10,0),(11,0),(12,0),(14,14)])] }) tx1_good rfl nr_mixed func92 rfl conRevB 1 (by decide) (by kernel_rfl) ?_
 intro args hp K hpre hlens
 simp only [conRevB] at hpre
 split at hpre
 case h_2=>exact hpre.elim
 rename_i n al cs
 obtain ⟨xs0,rfl,rfl,hal,hl,hK⟩:=hpre; obtain ⟨xs,rfl⟩:∃ y:List Int,y=xs0:=⟨xs0,rfl⟩
 refine ⟨rfl,?_⟩
 simp -dsimp -implicitDefEqProofs [f92,tx1_all,tx1_S,inI64]
 refine ⟨by omega,?_⟩
 refine WpD.loop (L:={ live:=[0,2,3,9],fl:=[(3,[(6,0),(7,0),(10,0),(11,0),(12,0),(14,14)])] }) tx1_good X0_ok nr_mixed (by kernel_rfl)
  (fun q:Nat×List Int=>⟨[(0,⟨true,.v (.s (.own t8 0 xs.length))⟩),(2,vI q.1),(3,vI ((xs.length:Int) - 1 - q.1))],[.arr al (t8.flats q.2)]⟩)
  (fun q=>turned xs q.2 q.1) (fun q=>xs.length - q.1) (0,xs) (turned_0 xs) (Turn.le (by simp -dsimp -implicitDefEqProofs)) ?_
 rintro ⟨p,ys⟩ ht
 simp only at ht
 by_cases hp:2*p+1<xs.length
 ·
  have hy:=ht.1
  have r1:=fl_get (k:=.u8) (xs:=ys) (j:=p) (by omega)
  have r2:=fl_get (k:=.u8) (xs:=ys) (j:=xs.length - 1 - p) (by omega)
  have m1:min p xs.length=p:=by omega
  have m2:min (xs.length - 1 - p) xs.length=xs.length - 1 - p:=by omega
  have hal:al=true:=by
   rcases hal with h | h
   ·
    exact h
   ·
    subst h; simp at hp
  subst hal
  simp -dsimp -implicitDefEqProofs [hy,r1,r2,m1,m2,tx1_all,tx1_S,inI64]
  rw [fl_setk (by omega),fl_setk (by rw [List.length_set]; omega)]
  refine ⟨fun _=>⟨?_,by omega,by omega,by omega,by omega⟩,fun h=>by omega⟩
  and_intros
  all_goals try omega
  refine ⟨p+1,_,turned_step ht hp,by omega,TurnT.le ?_⟩
  rw [show (xs.length:Int) - 1 - p - 1=(xs.length:Int) - 1 - ((p+1:Nat):Int) by omega]
  simp -dsimp -implicitDefEqProofs
 ·
  have:=turned_end ht (by omega)
  subst this
  simp -dsimp -implicitDefEqProofs [tx1_all,tx1_S,inI64]
  exact ⟨fun h=>by omega,fun _=>hK⟩
def tx2Γ:List (FuncId×Con):=(93,conTrimL)::tx1Γ
theorem tx2Γ_ok:OkΓ tx2Γ:=by
 simp only [OkΓ,tx2Γ,List.forall_mem_cons]
 exact ⟨⟨enters_of func93 (by kernel_rfl) rfl,triml_ok⟩,tx1Γ_ok⟩
def tx2E:List (FuncId×ECon):=(92,conRevB)::tx1E
theorem tx2E_ok:OkE tx2E:=by
 simp only [OkE,tx2E,List.forall_mem_cons]
 exact ⟨⟨enters_of func92 (by kernel_rfl) rfl,revB_ok⟩,tx1E_ok⟩
def tx2P:=tx1P
theorem tx2P_ok:OkP tx2P:=tx1P_ok
def tx2F:=tx1F
theorem tx2F_ok:OkF tx2F:=tx1F_ok
def tx2:G:={ τ:=nrT,Γ:=tx2Γ,E:=tx2E,Pn:=tx2P,E2:=tx2F }
theorem tx2_good:tx2.good prog:=good_of_all (nrT_ok _ rfl) tx2Γ_ok tx2E_ok tx2P_ok tx2F_ok
theorem tx2_all:(∀ t,tx2.td t=(look nrT t).getD .other)∧tx2.y=false∧tx2.Γ=tx2Γ∧tx2.E=tx2E∧tx2.Pn=tx2P∧tx2.E2=tx2F∧tx2.fz=[]∧tx2.te=false∧tx2.bo=false∧tx2.pm=false:=⟨fun _=>rfl,rfl,rfl,rfl,rfl,rfl,rfl,rfl,rfl,rfl⟩
def tx2_S:=And.intro (And.intro @nrT.eq_1 (And.intro @tx2Γ.eq_1 (And.intro @tx2E.eq_1 (And.intro @tx2P.eq_1 (And.intro @tx2F.eq_1 (And.intro @conTrimL_eq (@conRevB.eq_1))))))) tx1_S
def txtL (ng:Bool) (n:Nat):List Int:=if n=0 then [48] else (if ng=true then [45] else [])++decL n
def txtS (ng:Bool) (m:List Int):ByteArray:=if okBig ng m then bytesS (txtL ng (vl m)) else ⟨#[]⟩
theorem dec_bound {ng:Bool} {m:List Int} {i:Nat} (h:okBig ng m) (hi:0<vl m / 10 ^ i):i≤61440:=by
 have h1:10 ^ i≤vl m:=by
  rcases Nat.lt_or_ge (vl m) (10 ^ i) with q | q
  ·
   rw [Nat.div_eq_of_lt q] at hi; omega
  ·
   exact q
 have h2:=vl_lt h.1.1
 have h3:(1073741824:Nat) ^ m.length=2 ^ (30*m.length):=(Nat.pow_mul 2 30 m.length).symm
 have h4:2 ^ i≤10 ^ i:=Nat.pow_le_pow_left (by decide) i
 rw [h3] at h2
 rcases Nat.lt_or_ge (30*m.length) i with q | q
 ·
  exfalso
  have h5:2 ^ (30*m.length)≤2 ^ i:=Nat.pow_le_pow_right (by decide) (Nat.le_of_lt q)
  exact absurd (Nat.lt_of_le_of_lt (Nat.le_trans (Nat.le_trans h5 h4) h1) h2) (Nat.lt_irrefl _)
 ·
  have:=h.2.1
  omega
theorem padL_ok:∀ (k n:Nat),okBytes (padL k n)
 | 0,_=>fun c hc=>by cases hc
 | k+1,n=>fun c hc=>by
  rw [padL] at hc
  rcases List.mem_append.1 hc with h | h
  ·
   exact padL_ok k _ c h
  ·
   rw [List.mem_singleton] at h; omega
theorem bytes_nil {l:List Int}:(bytesS l).data=#[]↔l=[]:=by
 constructor
 ·
  intro h
  have:=bytesS_size l
  rw [show (bytesS l).size=(bytesS l).data.size from rfl,h] at this
  exact List.eq_nil_of_length_eq_zero this.symm
 ·
  rintro rfl; rfl
theorem decBk_snoc (i r:Nat):decBk (i+1) r=decBk i r++[48+((r / 10 ^ i % 10:Nat):Int)]:=by rw [decBk_add i 1]; rfl
theorem decBk_nine (j n:Nat):decBk (9*(j+1)) n=decBk (9*j) n++decBk 9 (n / 10 ^ (9*j) % 10 ^ 9):=by
 rw [show 9*(j+1)=9*j+9 by omega,decBk_add,decBk_mod]
def conTextN:Con:=⟨fun args=>(match args with
 | [.agg [.bool ng,.sl (.int .i64) m _]]=>True
 | _=>False),fun args=>match args with
 | [.agg [.bool ng,.sl (.int .i64) m _]]=>.tup [.s (.str (txtS ng m)),aI (natErr ng m)]
 | _=>.v (.s .any)⟩
theorem conTextN_eq (ng:Bool) (m:List (Ty.T tI)) (exm:Bool):conTextN.pre [.agg [.bool ng,.sl tI m exm]]=(True)∧conTextN.val [.agg [.bool ng,.sl tI m exm]]=.tup [.s (.str (txtS ng m)),aI (natErr ng m)]:=⟨rfl,rfl⟩
theorem txt_end {ng em:Bool} {m:List Int} {n:Nat} (hok:okBig ng m) (h:natErr ng m=0) (hn:n=vl m) (hle:(decL n).length≤100000) :
  ((bytesS (decL n)).data=#[]→RV.tup [.s (.str ⟨#[48]⟩),.s (.int .i64 0)]=conTextN.val [.agg [.bool ng,.sl tI m em]]) ∧
  (¬ (bytesS (decL n)).data=#[]→(ng=true→(ByteArray.mk #[45]).size+(bytesS (decL n)).size≤maxLen∧RV.tup [.s (.str (⟨#[45]⟩++bytesS (decL n))),.s (.int .i64 0)]=conTextN.val [.agg [.bool ng,.sl tI m em]]) ∧
   (ng=false→RV.tup [.s (.str (bytesS (decL n))),.s (.int .i64 0)]=conTextN.val [.agg [.bool ng,.sl tI m em]])):=by
 have hv:txtS ng m=bytesS (txtL ng (vl m)):=if_pos hok
 have hval:conTextN.val [.agg [.bool ng,.sl tI m em]]=.tup [.s (.str (txtS ng m)),aI (natErr ng m)]:=rfl
 rw [hval,h,hv,← hn,txtL]
 refine ⟨fun h0 => ?_,fun h0 => ?_⟩
 ·
  have:n=0:=by
   by_cases hn0:n=0
   ·
    exact hn0
   ·
    exact absurd (bytes_nil.1 h0) (decL_ne hn0)
  rw [if_pos this]; rfl
 ·
  have hn0:n≠0:=fun e=>h0 (bytes_nil.2 (by rw [e,decL_zero]))
  rw [if_neg hn0]
  refine ⟨fun e=>⟨?_,?_⟩,fun e => ?_⟩
  ·
   rw [bytesS_size]
   show 1+_≤maxLen
   simp only [maxLen]; omega
  ·
   rw [if_pos e]
   show RV.tup [AV.s (.str (bytesS [45]++_)),_]=_
   rw [bytesS_append]
  ·
   rw [if_neg (by rw [e]; decide)]; rfl
theorem textn_ok:PureOk prog 54 conTextN:=by
 refine pureOkD (L:={ live:=[0,1,2,3,4,5,6,7,11,17,23,24,40,43],frz:=[(15,[5])] }) tx2_good rfl nr_mixed func54 rfl conTextN 1 (by decide) (by kernel_rfl) ?_
 intro args hpre hlens
 simp only [conTextN] at hpre
 split at hpre
 case h_2=>exact hpre.elim
 rename_i ng m em
 simp only [lenS] at hlens
 refine ⟨rfl,?_⟩
 simp -dsimp -implicitDefEqProofs [f54,conTextN_eq,tx2_all,tx2_S,inI64]
 change List Int at m
 refine ⟨fun h => ?_,fun h => ?_⟩
 ·
  have:¬ okBig ng m:=fun q=>h (if_pos q)
  rw [txtS,if_neg this]
 have hok:okBig ng m:=by
  by_cases q:okBig ng m
  ·
   exact q
  ·
   rw [natErr,if_neg q] at h; cases h
 obtain ⟨n,hn⟩:∃ n,n=vl m:=⟨_,rfl⟩
 have hd0:dig n=m:=by rw [hn]; exact canon_eq hok.1
 refine WpD.turn _ (Turn.virt (k:=5) (t:=t8) (xs:=[]) (by simp [look])) ?_
 refine WpD.loop (L:={ live:=[0,1,2,3,4,5,6,7,11,17,23,24,40,43],frz:=[(15,[5])] }) tx2_good X0_ok nr_mixed (by kernel_rfl)
  (fun j:Nat=>⟨[(1,⟨true,.v (.s (.box 0 0))⟩),(5,⟨true,.v (.s (.own t8 1 (9*j)))⟩),(6,vS tI (dig (n / 10 ^ (9*j))) (em&&decide (j=0)))],[.cells [.bool ng,.sl tI m em],.arr (decide (0<9*j)) (t8.flats (decBk (9*j) n))]⟩)
  (fun j=>9*j≤61449) (fun j=>n / 10 ^ (9*j)) 0 (by omega) ?_ ?_
 ·
  simp only [Nat.mul_zero,Nat.pow_zero,Nat.div_one,hd0,decBk,decide_true,Bool.and_true]
  exact Turn.le (by simp -dsimp -implicitDefEqProofs)
 intro j hj
 obtain ⟨q,hq⟩:∃ q,q=n / 10 ^ (9*j):=⟨_,rfl⟩
 by_cases hq0:q=0
 ·
  rw [← hq,hq0,dig_zero]
  have hr:(decBk (9*j) n).reverse.reverse=decBk (9*j) n:=List.reverse_reverse _
  have hlt:n<10 ^ (9*j):=by
   rcases Nat.lt_or_ge n (10 ^ (9*j)) with h | h
   ·
    exact h
   ·
    have:=Nat.div_pos h (Nat.pow_pos (by decide)); omega
  have ht:trimZ (strL (bytesS (decBk (9*j) n).reverse))=decL n:=by
   rw [decBk_rev,strL_bytesS (padL_ok _ _)]
   exact pad_dec _ _ hlt
  have hdl:(decBk (9*j) n).length=9*j:=decBk_len _ _
  simp -dsimp -implicitDefEqProofs [tx2_all,tx2_S,inI64]
  refine ⟨_,rfl,hdl.symm,?_,by omega,_,rfl,by rw [List.length_reverse,hdl],?_⟩
  ·
   rcases Nat.eq_zero_or_pos j with rfl | h
   ·
    exact .inr rfl
   ·
    exact .inl h
  rw [ht]
  exact txt_end hok h hn (by have:=decL_len _ _ hlt; have hb:9*j≤61449:=hj; omega)
 ·
  have hlen:(dig q).length≤2048:=dig_same hok.1 (by rw [← hn,hq]; exact Nat.div_le_self _ _) hok.2.1
  have hne:dig q≠[]:=fun h=>hq0 (dig_nil.1 h)
  have hb:9*j≤61440:=dec_bound hok (by rw [← hn,← hq]; omega)
  rw [← hq]
  simp -dsimp -implicitDefEqProofs [vl_dig,tx2_all,tx2_S,inI64]
  refine ⟨fun _=>⟨⟨okD_dig q,by omega⟩,?_⟩,fun h=>absurd h hne⟩
  obtain ⟨r,hr⟩:∃ r,r=q % 1000000000:=⟨_,rfl⟩
  have hr':(q:Int) % 1000000000=(r:Int):=by omega
  rw [hr']
  refine WpD.loop (L:={ live:=[0,1,2,3,4,5,6,7,11,17,23,24,40,43],frz:=[(15,[5])] }) tx2_good X0_ok nr_mixed (by kernel_rfl)
   (fun i:Nat=>⟨[(1,⟨true,.v (.s (.box 0 0))⟩),(5,⟨true,.v (.s (.own t8 1 (9*j+i)))⟩),(6,vS tI (dig (q / 1000000000)) false),(7,vI (r / 10 ^ i:Nat)),(23,vI i)],[.cells [.bool ng,.sl tI m em],.arr (decide (0<j)||decide (0<i)) (t8.flats (decBk (9*j) n++decBk i r))]⟩)
   (fun i=>i≤9) (fun i=>9 - i) 0 (by omega) (Turn.le (by simp -dsimp -implicitDefEqProofs [decBk])) ?_
  intro i hi
  have hdl:(decBk (9*j) n).length=9*j:=decBk_len _ _
  have hdi:(decBk i r).length=i:=decBk_len _ _
  have hs:=decBk_snoc i r
  have hn:=decBk_nine j n
  rw [← hq,show q % 10 ^ 9=r from hr.symm] at hn
  obtain ⟨d,hd⟩:∃ d,d=r / 10 ^ i:=⟨_,rfl⟩
  have hd1:(r:Int) / 10 ^ (i+1)=(d:Int) / 10:=by
   have:r / 10 ^ (i+1)=d / 10:=by rw [hd,Nat.div_div_eq_div_mul,Nat.pow_succ]
   simpa using congrArg (Int.ofNat ·) this
  have hdr:d≤r:=by rw [hd]; exact Nat.div_le_self _ _
  rw [← hd] at hs ⊢
  have et:((d:Nat):Int).tmod 10=((d % 10:Nat):Int):=Int.ofNat_tmod _ _
  have ew:IntKind.u8.wrap (48+((d % 10:Nat):Int))=48+((d % 10:Nat):Int):=by
   show (48+((d % 10:Nat):Int)) % 256=_
   omega
  simp -dsimp -implicitDefEqProofs [tx2_all,tx2_S,inI64]
  rw [et,ew]
  refine ⟨fun h9=>⟨by omega,⟨by omega,by omega,by simp only [maxLen]; omega⟩,by omega,by omega,i+1,by omega,by omega,TurnT.le ?_⟩,fun h9=>⟨j+1,by omega,?_,TurnT.le ?_⟩⟩
  ·
   rw [hd1,hs]
   simp -dsimp -implicitDefEqProofs [Nat.add_assoc]
  ·
   rw [show 9*(j+1)=9*j+9 by omega,Nat.pow_add,← Nat.div_div_eq_div_mul,← hq]
   exact Nat.div_lt_self (by omega) (by decide)
  ·
   obtain rfl:i=9:=by omega
   have e9:n / 10 ^ (9*(j+1))=q / 1000000000:=by
    rw [show 9*(j+1)=9*j+9 by omega,Nat.pow_add,← Nat.div_div_eq_div_mul,← hq]
   rw [e9,hn]
   simp -dsimp -implicitDefEqProofs [Nat.mul_add]
end Go.Am
