/- Part 10 of the proof's base. -/
import Derived.Test.YtejcoioabaejlaaGreatDoorK9
set_option linter.all false
noncomputable section
namespace Go.Am
set_option maxHeartbeats 4000000
def bitN (s i:Nat):Nat:=s / 2 ^ i % 2
def cntN (s:Nat):Nat→Nat
 | 0=>0
 | i+1=>cntN s i+bitN s i
theorem bitN_le (s i:Nat):bitN s i≤1:=by unfold bitN; omega
theorem cntN_le (s:Nat):∀ n,cntN s n≤n
 | 0=>Nat.le_refl _
 | n+1=>by have:=cntN_le s n; have:=bitN_le s n; rw [cntN]; omega
def encN (p:Nat→Bool):Nat→Nat
 | 0=>0
 | i+1=>encN p i+if p i=true then 2 ^ i else 0
theorem encN_lt (p:Nat→Bool):∀ n,encN p n<2 ^ n
 | 0=>by simp [encN]
 | n+1=>by
  have:=encN_lt p n
  rw [encN,Nat.pow_succ]
  split <;> omega
theorem bit_encN (p:Nat→Bool):∀ n j,j<n→bitN (encN p n) j=if p j=true then 1 else 0
 | 0,j,h=>by omega
 | n+1,j,h=>by
  have hlt:=encN_lt p n
  rw [encN]
  rcases Nat.lt_succ_iff_lt_or_eq.1 h with h' | rfl
  ·
   have ih:=bit_encN p n j h'
   unfold bitN at ih ⊢
   split
   ·
    have e:2 ^ n=2 ^ j*(2*2 ^ (n - j - 1)):=by
     rw [← Nat.mul_assoc,← Nat.pow_succ,← Nat.pow_add]
     congr 1; omega
    rw [e,Nat.add_mul_div_left _ _ (Nat.pow_pos (by decide)),Nat.add_mul_mod_self_left]
    exact ih
   ·
    simpa using ih
  ·
   unfold bitN
   split
   ·
    rw [Nat.add_div_right _ (Nat.pow_pos (by decide)),Nat.div_eq_of_lt hlt]
   ·
    rw [Nat.add_zero,Nat.div_eq_of_lt hlt]
def partL (l:List tTst.T) (s:Nat):List tTst.T:=((List.range l.length).filter fun j=>bitN s j==1).map fun j=>l[j]?.getD dT
theorem cnt_filter (s:Nat):∀ n,((List.range n).filter fun j=>bitN s j==1).length=cntN s n
 | 0=>rfl
 | n+1=>by
  rw [List.range_succ,List.filter_append,List.length_append,cnt_filter s n,cntN]
  congr 1
  have:=bitN_le s n
  by_cases h:bitN s n=1
  ·
   simp [h]
  ·
   have h0:bitN s n=0:=by omega
   simp [h0]
theorem partL_len (l:List tTst.T) (s:Nat):(partL l s).length=cntN s l.length:=by unfold partL; rw [List.length_map,cnt_filter]
theorem partL_mem {l:List tTst.T} {s:Nat} {x:tTst.T}:x∈partL l s↔∃ j,∃ h:j<l.length,bitN s j=1∧l[j]=x:=by
 unfold partL
 rw [List.mem_map]
 constructor
 ·
  rintro ⟨j,hj,rfl⟩
  obtain ⟨h1,h2⟩:=List.mem_filter.1 hj
  have hjl:=List.mem_range.1 h1
  exact ⟨j,hjl,by simpa using h2,by rw [List.getElem?_eq_getElem hjl]; rfl⟩
 ·
  rintro ⟨j,hj,hb,rfl⟩
  exact ⟨j,List.mem_filter.2 ⟨List.mem_range.2 hj,by simpa using hb⟩,by rw [List.getElem?_eq_getElem hj]; rfl⟩
theorem partL_nodup {l:List tTst.T} (h:l.Nodup) (s:Nat):(partL l s).Nodup:=by
 unfold partL
 unfold List.Nodup
 rw [List.pairwise_map]
 have h1:((List.range l.length).filter fun j=>bitN s j==1).Pairwise (· < ·):=List.Pairwise.filter _ List.pairwise_lt_range
 refine h1.imp_of_mem fun {i j} hi hj hij => ?_
 have hil:=List.mem_range.1 (List.mem_filter.1 hi).1
 have hjl:=List.mem_range.1 (List.mem_filter.1 hj).1
 rw [List.getElem?_eq_getElem hil,List.getElem?_eq_getElem hjl]
 exact List.pairwise_iff_getElem.1 h i j hil hjl hij
def refN (l:List tTst.T) (a:tRat.T) (s:Nat):Prop:=∃ j,∃ h:j<l.length,bitN s j=1∧fitF (cntN s l.length:Int) l[j] a=true
theorem parts_closed {l:List tTst.T} {a:tRat.T} (hf:famP l) {k:Nat} (hk:k<l.length) :
  (∀ s,1≤s→s<2 ^ l.length→bitN s k=1→refN l a s)↔closedP (okA a) l l[k]:=by
 classical
 have hnd:=nodup_of_nos (fam_ok hf).2
 constructor
 ·
  intro h S hS hsub hkS
  obtain ⟨p,hp⟩:∃ p:Nat→Bool,∀ j (h:j<l.length),p j=true↔l[j]∈S:=⟨fun j=>decide (∃ h:j<l.length,l[j]∈S),fun j hj=>by simp [hj]⟩
  have hb:∀ j,(h:j<l.length)→(bitN (encN p l.length) j=1↔l[j]∈S):=fun j hj=>by
   rw [bit_encN p _ j hj,← hp j hj]
   split <;> simp_all
  have h1:1≤encN p l.length:=by
   rcases Nat.eq_zero_or_pos (encN p l.length) with h0 | h0
   ·
    have:=(hb k hk).2 hkS
    rw [h0] at this
    simp [bitN] at this
   ·
    exact h0
  obtain ⟨j,hj,hbj,hfj⟩:=h _ h1 (encN_lt p _) ((hb k hk).2 hkS)
  have hlen:cntN (encN p l.length) l.length=S.length:=by
   rw [← partL_len]
   refine Nat.le_antisymm (nodup_len (partL_nodup hnd _) fun y hy => ?_) (nodup_len hS fun y hy => ?_)
   ·
    obtain ⟨i,hi,hbi,rfl⟩:=partL_mem.1 hy
    exact (hb i hi).1 hbi
   ·
    obtain ⟨i,hi,rfl⟩:=List.mem_iff_getElem.1 (hsub y hy)
    exact partL_mem.2 ⟨i,hi,(hb i hi).2 hy,rfl⟩
  rw [hlen] at hfj
  exact ⟨l[j],(hb j hj).1 hbj,hf.2 _ (List.getElem_mem hj),hfj⟩
 ·
  intro h s h1 h2 hb
  obtain ⟨y,hy,ho⟩:=h (partL l s) (partL_nodup hnd s) (fun y hy=>by
   obtain ⟨i,hi,_,rfl⟩:=partL_mem.1 hy
   exact List.getElem_mem hi) (partL_mem.2 ⟨k,hk,hb,rfl⟩)
  obtain ⟨i,hi,hbi,rfl⟩:=partL_mem.1 hy
  rw [partL_len] at ho
  exact ⟨i,hi,hbi,ho.2⟩
theorem fit_level {n:Int} {x:tTst.T} {a b:tRat.T} (hx:tstOk x) (hda:(0:Int)<(vl a.2.1.2.1:Int)) (h:cmpR a b≤0) (hf:fitF n x a=true):fitF n x b=true:=by
 rw [fitF_iff] at hf ⊢
 have h:sgn a.1.1 a.1.2.1*(vl b.2.1.2.1:Int)≤sgn b.1.1 b.1.2.1*(vl a.2.1.2.1:Int):=cmpZ_le.1 h
 have hdx:=tst_den hx
 have hdb:(0:Int)≤(vl b.2.1.2.1:Int):=by omega
 generalize sgn x.2.1.1.1 x.2.1.1.2.1=Nx at *
 generalize sgn a.1.1 a.1.2.1=Na at *
 generalize sgn b.1.1 b.1.2.1=Nb at *
 generalize (vl x.2.1.2.1.2.1:Int)=Dx at *
 generalize (vl a.2.1.2.1:Int)=Da at *
 generalize (vl b.2.1.2.1:Int)=Db at *
 have s1:n*Nx*Da*Db≤Na*Dx*Db:=Int.mul_le_mul_of_nonneg_right hf hdb
 have s2:Na*Db*Dx≤Nb*Da*Dx:=Int.mul_le_mul_of_nonneg_right h (by omega)
 have e1:Na*Dx*Db=Na*Db*Dx:=by rw [Int.mul_assoc,Int.mul_comm Dx,← Int.mul_assoc]
 have e2:n*Nx*Da*Db=n*Nx*Db*Da:=by rw [Int.mul_assoc,Int.mul_comm Da,← Int.mul_assoc]
 have e3:Nb*Da*Dx=Nb*Dx*Da:=by rw [Int.mul_assoc,Int.mul_comm Da,← Int.mul_assoc]
 rw [e1,e2] at s1
 rw [e3] at s2
 exact Int.le_of_mul_le_mul_right (Int.le_trans s1 s2) hda
theorem fit_one {x:tTst.T} {a:tRat.T}:fitF 1 x a=true↔cmpR x.2.1 a≤0:=by
 rw [fitF_iff,Int.one_mul]
 exact cmpZ_le.symm
section
variable {l:List tTst.T} {a:tRat.T} (hf:famP l)
include hf
theorem closed_level {b:tRat.T} {x:tTst.T} (hda:(0:Int)<(vl a.2.1.2.1:Int)) (h:cmpR a b≤0) (hc:closedP (okA a) l x):closedP (okA b) l x :=
 closedP_map (fun y=>y) (fun y hy=>hy) (fun y _ z _ e=>e) (fun n y hy ho=>⟨ho.1,fit_level ho.1 hda h ho.2⟩) hc
theorem closed_all {x:tTst.T} (hx:x∈l) (h:fitF (l.length:Int) x a=true):closedP (okA a) l x:=fun S hS hsub hxS =>
 ⟨x,hxS,okA_mono a l.length S.length x (nodup_len hS hsub) ⟨hf.2 x hx,h⟩⟩
theorem closed_one {x:tTst.T} (hx:x∈l) (hc:closedP (okA a) l x):cmpR x.2.1 a≤0:=by
 obtain ⟨y,hy,ho⟩:=hc [x] (by simp) (fun y hy=>by obtain rfl:=List.mem_singleton.1 hy; exact hx) (by simp)
 obtain rfl:=List.mem_singleton.1 hy
 exact fit_one.1 ho.2
theorem closed_eq {x y:tTst.T} (hx:x∈l) (hy:y∈l) (he:cmpR x.2.1 y.2.1=0) (hc:closedP (okA a) l x):closedP (okA a) l y:=by
 classical
 intro S hS hsub hyS
 have hxo:=hf.2 x hx
 have hyo:=hf.2 y hy
 have he':=ordr_rat.anti _ _ hxo.1.1 hyo.1.1
 by_cases hxS:x∈S
 ·
  obtain ⟨z,hz,ho⟩:=hc S hS hsub hxS
  exact ⟨z,hz,ho⟩
 ·
  have hlen:=List.length_pos_of_mem hyS
  obtain ⟨z,hz,ho⟩:=hc (x::S.erase y) (List.nodup_cons.2 ⟨fun h=>hxS (List.mem_of_mem_erase h),hS.sublist List.erase_sublist⟩) (fun z hz=>by
   rcases List.mem_cons.1 hz with rfl | hz
   ·
    exact hx
   ·
    exact hsub z (List.mem_of_mem_erase hz)) (by simp)
  rw [List.length_cons,List.length_erase_of_mem hyS,Nat.sub_add_cancel hlen] at ho
  rcases List.mem_cons.1 hz with rfl | hz
  ·
   exact ⟨y,hyS,okA_le a _ hyo (show cmpR _ _≤0 by omega) ho⟩
  ·
   exact ⟨z,List.mem_of_mem_erase hz,ho⟩
end
theorem nos_of {l:List Int} (h:∀ x∈l,0≤x∧x≤1048576) (hp:l.Pairwise (· < ·)):okNos l:=by
 intro j hj
 refine ⟨?_,fun h0 => ?_⟩
 ·
  rw [List.getElem?_eq_getElem hj]
  exact h _ (List.getElem_mem hj)
 ·
  rw [List.getElem?_eq_getElem hj,List.getElem?_eq_getElem (show j - 1<l.length by omega)]
  exact List.pairwise_iff_getElem.1 hp (j - 1) j (by omega) hj (by omega)
theorem nos_rng {l:List Int} (h:okNos l):∀ x∈l,0≤x∧x≤1048576:=by
 intro x hx
 obtain ⟨j,hj,rfl⟩:=List.mem_iff_getElem.1 hx
 have:=(h j hj).1
 rw [List.getElem?_eq_getElem hj] at this
 exact this
theorem fam_without {l:List tTst.T} (hf:famP l) {l':List tTst.T} (hs:l'.Sublist l):famP l' :=
 ⟨nos_of (fun x hx=>nos_rng hf.1 x ((hs.map _).mem hx)) ((nos_pair hf.1).sublist (hs.map _)),fun x hx=>hf.2 x (hs.mem hx)⟩
theorem closed_less {l:List tTst.T} {a p:tRat.T} {k:Nat} (hk:k<l.length) (hf:famP l) (hf':famP (l.set k (l[k].1,p,()))) (h:cmpR p l[k].2.1≤0) {x:tTst.T} (hx:x∈l) (hc:closedP (okA a) l x) :
  ∃ x'∈l.set k (l[k].1,p,()),x'.1=x.1∧closedP (okA a) (l.set k (l[k].1,p,())) x':=by
 obtain ⟨f,hfd⟩:∃ f:tTst.T→tTst.T,∀ y,f y=if y.1=l[k].1 then l[k] else y:=⟨_,fun _=>rfl⟩
 have hnd:=(fam_ok hf).2
 have hmem:∀ y∈l.set k (l[k].1,p,()),f y∈l∧(f y).1=y.1:=by
  intro y hy
  rw [hfd]
  split
  ·
   rename_i e; exact ⟨List.getElem_mem hk,e.symm⟩
  ·
   rename_i e
   refine ⟨?_,rfl⟩
   rcases List.mem_or_eq_of_mem_set hy with h | rfl
   ·
    exact h
   ·
    exact absurd rfl e
 have hlk:(l[k].1,p,())∈l.set k (l[k].1,p,()):=List.mem_set hk _
 have hok':=hf'.2 _ hlk
 obtain ⟨x',hx',hxx⟩:∃ x'∈l.set k (l[k].1,p,()),f x'=x:=by
  obtain ⟨j,hj,rfl⟩:=List.mem_iff_getElem.1 hx
  by_cases hjk:k=j
  ·
   subst hjk
   exact ⟨_,hlk,by rw [hfd,if_pos rfl]⟩
  ·
   refine ⟨l[j],?_,?_⟩
   ·
    have:(l.set k (l[k].1,p,()))[j]'(by rw [List.length_set]; exact hj)=l[j]:=List.getElem_set_ne hjk _
    rw [← this]
    exact List.getElem_mem _
   ·
    rw [hfd,if_neg]
    intro e
    have:=nos_inj hnd (List.getElem_mem hj) (List.getElem_mem hk) e
    have h2:=nodup_of_nos hnd
    rcases Nat.lt_trichotomy j k with h' | h' | h'
    ·
     exact List.pairwise_iff_getElem.1 h2 j k hj hk h' this
    ·
     exact hjk h'.symm
    ·
     exact List.pairwise_iff_getElem.1 h2 k j hk hj h' this.symm
 refine ⟨x',hx',by rw [← hxx,(hmem x' hx').2],?_⟩
 rw [← hxx] at hc
 refine closedP_map f (fun y hy=>(hmem y hy).1) (fun y hy z hz e => ?_) (fun n y hy ho => ?_) hc
 ·
  have e1:y.1=z.1:=by rw [← (hmem y hy).2,← (hmem z hz).2,e]
  exact nos_inj (fam_ok hf').2 hy hz e1
 ·
  rw [hfd] at ho
  split at ho
  ·
   rename_i e
   have hyk:y=(l[k].1,p,()):=nos_inj (fam_ok hf').2 hy hlk e
   subst hyk
   exact okA_le a n hok' h ho
  ·
   exact ⟨hf'.2 y hy,ho.2⟩
end Go.Am
namespace Go.Am
set_option maxHeartbeats 8000000
set_option maxRecDepth 20000
open Go.RowKit Go.Proofs
attribute [local simp] thenKD_normal thenKD_exit thenKD_goto thenKD_ret inBlockKD_normal inBlockKD_exit inBlockKD_goto inBlockKD_ret noGotoKD_normal noGotoKD_exit noGotoKD_goto noGotoKD_ret roundKD_normal roundKD_exit roundKD_goto roundKD_ret frzSlotsD_nil frzSlotsD_cons frzSlotD_eq yieldVCD_trace opVCD_eq vcOpsD_nil vcOpsD_cons vcAllD_zero vcAllD_succ allAtD_nil allAtD_cons readyAux edgA vcD_skip vcD_label vcD_exit vcD_goto vcD_ret vcD_region vcD_seq vcD_seqC vcD_cond vcCondD_bool vcD_block vcD_scope vcD_loop vcD_rangeFunc yieldOf isMem isMem0 keepE envLe St.le psE yieldAV round_td round_y round_Γ vI vB vS aI aB aS look getE oper opRV putE allOk okOps Op.operands Call.operands pEv qEv mEv constRV coe RV.av loadEv loadCs takeAt indexAddrEv fieldAddrEv binEv intEv arith unEv gcond pickEv argsEv callVal callEv capAV_mk lenArgs lenEv minEv extractEv convEv funcEv allBox bound sliceEv lookupEv TD.isBool allocEv boxEv storeEv spl plainTD appendEv appendArgs makeMapEv mapUpdateEv buildEv buildSliceEv fillSV zsvOf sizeTD Ty.parses parses_flats' coeA flats_length AV.good AV.cells AV.pure SV.pure av_int av_bool av_str av_slice av_cons av_fld0 av_fld1 av_fld2 av_fld3 av_fld4 Ty.of Ty.dflt Ty.parse Ty.flat Ty.zsv Ty.fld Ty.get Ty.off Ty.nfld Ty.size coeTy junk Blk.look argEnv resEv resOk resVs oneRV retOk frzAs frzAV frzL frzSV boxCaps boxCap SV.sig sigs RV.scalar AV.scalar SV.scalar nope effVCD_eq effOf SV.ids AV.ids dedup SV.ren AV.ren RV.ren idx outId mergeB Blk.pureB flats_pure flat_pure epsSlotsD_nil epsSlotsD_cons epsSlotD_eq allEp D.parts_fnOf fvParts retEff round_E av_fn G.ye isCutD_nil isCutD_cons firstReg_region firstReg_seq firstReg_skip firstReg_ret firstReg_label firstReg_exit firstReg_goto firstReg_cond firstReg_block firstReg_scope firstReg_loop firstReg_rf eptrOf_mk flOfD_nil flOfD_cons vcFlD_cons vcFlD_nil flPairs_nil flPairs_cons vcFrD_nil vcFrD_cons makeSliceEv vcCondD_ib fzEv unfl_flats isFz round_fz panVCD_eq panOf isShift strIdxEv ifaceEv nilChkEv sliceAnyEv sliceOwnEv sliceSufEv appendEv0 appendEv1 Ty.beq Ty.isAgg round_Pn vcDefD_seqR vcDefD_seqS vcDefD_seqC vcDefD_seqB vcDefD_seqL vcDefD_seqF vcDefD_seqSc vcDefD_region vcDefD_ret vcDefD_cond vcDefD_block vcDefD_loop thenKD_panic inBlockKD_panic noGotoKD_panic exitOk_normal exitOk_ret exitOk_panic exitOk_exit runDefs_none runDefs_some runDefs_cons defRegD defReg2D isDefer defOf caughtCon unfl_cons D.bpart_bndOf D.parts_bndOf AV.sig zapEv capArgs capEv
attribute [local simp ←] flats_append
theorem few_rat {n1:Bool} {m1:List Int} {n2:Bool} {m2:List Int} (h1:fewB m1 20=true) (h2:fewB m2 20=true) (h:okRat n1 m1 n2 m2):m1.length≤20∧m2.length≤20:=by
 have a1:=h.1.2.1
 have a2:=h.2.1.2.1
 unfold fewB at h1 h2
 rw [decide_eq_true_eq] at h1 h2
 omega
def conFAlone:Con:=⟨fun args=>(match args with
 | [.s (.sl (.cons (.int .i64) (.cons (.cons (.cons .bool (.cons (.slice (.int .i64)) .nil)) (.cons (.cons .bool (.cons (.slice (.int .i64)) .nil)) .nil)) .nil)) l _),.agg [.bool k1,.sl (.int .i64) l1 _,.bool k2,.sl (.int .i64) l2 _]]=>True
 | _=>False),fun args=>match args with
 | [.s (.sl (.cons (.int .i64) (.cons (.cons (.cons .bool (.cons (.slice (.int .i64)) .nil)) (.cons (.cons .bool (.cons (.slice (.int .i64)) .nil)) .nil)) .nil)) l _),.agg [.bool k1,.sl (.int .i64) l1 _,.bool k2,.sl (.int .i64) l2 _]]=>.v (aB true)
 | _=>.v (.s .any)⟩
theorem conFAlone_eq (l:List (Ty.T tTst)) (exl:Bool) (k1:Bool) (l1:List (Ty.T tI)) (exl1:Bool) (k2:Bool) (l2:List (Ty.T tI)) (exl2:Bool):conFAlone.pre [.s (.sl tTst l exl),.agg [.bool k1,.sl tI l1 exl1,.bool k2,.sl tI l2 exl2]]=(True)∧conFAlone.val [.s (.sl tTst l exl),.agg [.bool k1,.sl tI l1 exl1,.bool k2,.sl tI l2 exl2]]=.v (aB true):=⟨rfl,rfl⟩
theorem falone_ok:PureOk Tryz.prog 8 conFAlone:=by
 refine pureOkD (L:={ live:=[0,1,3,4,5,6,7,8,9,10,11,12,13,14,15,16,18,22,30,34,101,105,144],fl:=[(11,[(1,0),(1,13),(5,0),(5,13),(6,0),(6,13),(7,0),(7,13)])] }) fl2_good rfl nr_mixed Tryz.func8 rfl conFAlone 2 (by decide) (by kernel_rfl) ?_
 intro args hpre hlens
 simp only [conFAlone] at hpre
 split at hpre
 case h_2=>exact hpre.elim
 rename_i l el k1 l1 f1 k2 l2 f2
 simp only [allLen,AV.lenOk,SV.lenOk,Ty.lenOk,maxLen,and_true,implies_true,true_and,List.forall_mem_cons,List.not_mem_nil,false_implies] at hlens
 refine ⟨rfl,?_⟩
 simp -dsimp -implicitDefEqProofs [Tryz.f8,conFAlone_eq,fl2_all,flT,fl2Γ,fl2E,fl2P,fl1Γ,fl1E,fl1P,fl0Γ,fl0E,fl0P,fa25Γ,fa25E,fa25P,fa24Γ,fa24E,fa24P,fa23Γ,fa23E,fa23P,fa22Γ,fa22E,fa22P,fa21Γ,fa21E,fa21P,fa20Γ,fa20E,fa20P,fa19Γ,fa19E,fa19P,fa18Γ,fa18E,fa18P,fa17Γ,fa17E,fa17P,fa16Γ,fa16E,fa16P,fa15Γ,fa15E,fa15P,fa14Γ,fa14E,fa14P,fa13Γ,fa13E,fa13P,fa12Γ,fa12E,fa12P,fa11Γ,fa11E,fa11P,fa10Γ,fa10E,fa10P,fa9Γ,fa9E,fa9P,fa8Γ,fa8E,fa8P,fa7Γ,fa7E,fa7P,fa3Γ,fa3E,fa3P,fa2Γ,fa2E,fa2P,fa1Γ,fa1E,fa1P,nr20Γ,nr20E,nr20P,nr19Γ,nr19E,nr19P,nr18Γ,nr18E,nr18P,nr17Γ,nr17E,nr17P,nr16Γ,nr16E,nr16P,nr15Γ,nr15E,nr15P,nr14Γ,nr14E,nr14P,nr13Γ,nr13E,nr13P,nr9Γ,nr9E,nr9P,nr8Γ,nr8E,nr8P,nr7Γ,nr7E,nr7P,nr6Γ,nr6E,nr6P,nr5Γ,nr5E,nr5P,nr4Γ,nr4E,nr4P,nr3Γ,nr3E,nr3P,nr0Γ,nr0E,nr0P,conSane43_pre,conSane43_val,conSameI_eq,conFewF_eq,conHas_eq,conNum_eq,conComE_eq,conFound_eq,conClosed_eq,conFoundR_eq,conClosedR_eq,conFewR_eq,conWrongF_eq,conLeast,conIdxTI_pre,conIdxTI_val,conCT_pre,conCT_val,conSorted,conFindI_eq,conColF,conSort,conSrtd_eq,conValT_pre,conValT_val,conSofT,conSrtT,conColT,conPdqT,conInsT,conOrI_eq,conCmpI_eq,conLen_eq,conLen64_eq,conChkF_eq,conNumE_eq,conRisI_eq,conRisT_eq,conLvl_eq,conKeyI_eq,conKeyT_eq,conShrtF_eq,conMost_eq,conTimesR_eq,conFits_eq,conWhole_eq,conOrdR_eq,conMkR_eq,conMulR_eq,conCmpR_eq,conRatC_eq,conRInt_eq,conOf_eq,conLow_eq,conDivX_eq,conMakeN_eq,conProd_eq,conDidB_eq,conDidI_eq,conValid_eq,panValid_when,panValid_what,conNeed_eq,panNeed_when,panNeed_what,conGcdN_eq,conMulN_eq,conCmpN2_eq,conPosi_eq,conChk_eq,conBigN_eq,conDiv_eq,conTimes_eq,conNCheck_eq,conLong_eq,conLead64_eq,conShort_eq,conMovE,conTrim_eq,conAt_eq,conNCmp_eq,conBack_eq,conOf9_eq,conDivide_eq,conLess9_eq,conTwo_eq,conRCheck_eq,conRCmpD_eq,inI64]
 obtain ⟨l1,rfl⟩:∃ y:List Int,y=l1:=⟨l1,rfl⟩; obtain ⟨l2,rfl⟩:∃ y:List Int,y=l2:=⟨l2,rfl⟩
 intro hfew
 have h12:=fun hc=>few_12 (k1:=k1) (k2:=k2) hfew hc
 refine ⟨h12,fun hc => ?_⟩
 obtain ⟨F,hF⟩:∃ F,F=foundV l k1 l1 k2 l2:=⟨_,rfl⟩
 rw [← hF]
 obtain ⟨_,hf,hl⟩:=chkF_0.1 hc
 have hl12:=h12 hc
 have ha:=lvl_ok0 hl
 have hmem:∀ j (hj:j<l.length),l[j].1∈F↔closedP (okA (mkA k1 l1 k2 l2)) l l[j]:=fun j hj=>by rw [hF]; exact found_mem hc (List.getElem_mem hj)
 refine WpD.loop (L:={ live:=[0,1,3,4,5,6,7,8,9,10,11,12,13,14,15,16,18,22,30,34,101,105,144],fl:=[(11,[(1,0),(1,13),(5,0),(5,13),(6,0),(6,13),(7,0),(7,13)])] }) fl2_good X0_ok nr_mixed (by kernel_rfl)
  (fun i:Nat=>⟨[(0,vS tTst l el),(3,⟨true,.v (.s (.box 0 0))⟩),(5,vS tI F false),(7,vI i)],[.cells [.bool k1,.sl tI l1 f1,.bool k2,.sl tI l2 f2]]⟩)
  (fun i=>i≤l.length) (fun i=>l.length - i) 0 (Nat.zero_le _) (Turn.le (by simp -dsimp -implicitDefEqProofs)) ?_
 intro i hi
 rcases Nat.lt_or_ge i l.length with hil | hge
 ·
  have hto:=hf.2 _ (List.getElem_mem hil)
  have htp:=times_pre (n:=(l.length:Int)) (by omega) (by omega) hto.1 ha
  have htf:=times_fit (n:=(l.length:Int)) (k1:=k1) (l1:=l1) (l2:=l2) (by omega) hto.1
  rw [Int.natAbs_natCast] at htp htf
  have hR1:=htp.1.1
  have hRi:okRat l[i].2.1.1.1 l[i].2.1.1.2.1 l[i].2.1.2.1.1 l[i].2.1.2.1.2.1:=hto.1.1
  have hRa:=ha.1
  have hw:=okRat_whole (n:=l.length) (by omega)
  have hdl:(dig l.length).length≤1:=dig_le (k:=1) (by omega) (Nat.le_refl _)
  simp -dsimp -implicitDefEqProofs [conFAlone_eq,hil,lowN_one,lowD_one,vl_dig,vl_one1,hR1,hRi,hRa,hw,fl2_all,flT,fl2Γ,fl2E,fl2P,fl1Γ,fl1E,fl1P,fl0Γ,fl0E,fl0P,fa25Γ,fa25E,fa25P,fa24Γ,fa24E,fa24P,fa23Γ,fa23E,fa23P,fa22Γ,fa22E,fa22P,fa21Γ,fa21E,fa21P,fa20Γ,fa20E,fa20P,fa19Γ,fa19E,fa19P,fa18Γ,fa18E,fa18P,fa17Γ,fa17E,fa17P,fa16Γ,fa16E,fa16P,fa15Γ,fa15E,fa15P,fa14Γ,fa14E,fa14P,fa13Γ,fa13E,fa13P,fa12Γ,fa12E,fa12P,fa11Γ,fa11E,fa11P,fa10Γ,fa10E,fa10P,fa9Γ,fa9E,fa9P,fa8Γ,fa8E,fa8P,fa7Γ,fa7E,fa7P,fa3Γ,fa3E,fa3P,fa2Γ,fa2E,fa2P,fa1Γ,fa1E,fa1P,nr20Γ,nr20E,nr20P,nr19Γ,nr19E,nr19P,nr18Γ,nr18E,nr18P,nr17Γ,nr17E,nr17P,nr16Γ,nr16E,nr16P,nr15Γ,nr15E,nr15P,nr14Γ,nr14E,nr14P,nr13Γ,nr13E,nr13P,nr9Γ,nr9E,nr9P,nr8Γ,nr8E,nr8P,nr7Γ,nr7E,nr7P,nr6Γ,nr6E,nr6P,nr5Γ,nr5E,nr5P,nr4Γ,nr4E,nr4P,nr3Γ,nr3E,nr3P,nr0Γ,nr0E,nr0P,conSane43_pre,conSane43_val,conSameI_eq,conFewF_eq,conHas_eq,conNum_eq,conComE_eq,conFound_eq,conClosed_eq,conFoundR_eq,conClosedR_eq,conFewR_eq,conWrongF_eq,conLeast,conIdxTI_pre,conIdxTI_val,conCT_pre,conCT_val,conSorted,conFindI_eq,conColF,conSort,conSrtd_eq,conValT_pre,conValT_val,conSofT,conSrtT,conColT,conPdqT,conInsT,conOrI_eq,conCmpI_eq,conLen_eq,conLen64_eq,conChkF_eq,conNumE_eq,conRisI_eq,conRisT_eq,conLvl_eq,conKeyI_eq,conKeyT_eq,conShrtF_eq,conMost_eq,conTimesR_eq,conFits_eq,conWhole_eq,conOrdR_eq,conMkR_eq,conMulR_eq,conCmpR_eq,conRatC_eq,conRInt_eq,conOf_eq,conLow_eq,conDivX_eq,conMakeN_eq,conProd_eq,conDidB_eq,conDidI_eq,conValid_eq,panValid_when,panValid_what,conNeed_eq,panNeed_when,panNeed_what,conGcdN_eq,conMulN_eq,conCmpN2_eq,conPosi_eq,conChk_eq,conBigN_eq,conDiv_eq,conTimes_eq,conNCheck_eq,conLong_eq,conLead64_eq,conShort_eq,conMovE,conTrim_eq,conAt_eq,conNCmp_eq,conBack_eq,conOf9_eq,conDivide_eq,conLess9_eq,conTwo_eq,conRCheck_eq,conRCmpD_eq,inI64]
  have hC:ratCmp (l[i].2.1.1.1 && !decide (lowN (l.length*vl l[i].2.1.1.2.1) (vl l[i].2.1.2.1.2.1)=[])) (lowN (l.length*vl l[i].2.1.1.2.1) (vl l[i].2.1.2.1.2.1)) (lowD (l.length*vl l[i].2.1.1.2.1) (vl l[i].2.1.2.1.2.1)) k1 l1 l2≤0→l[i].1∈F:=fun h=>by
   rw [decide_eq_true h] at htf
   exact (hmem i hil).2 (closed_all hf (List.getElem_mem hil) htf.symm)
  have hD:0<ratCmp l[i].2.1.1.1 l[i].2.1.1.2.1 l[i].2.1.2.1.2.1 k1 l1 l2→¬ l[i].1∈F:=fun h hm=>by
   have h1:cmpR l[i].2.1 (mkA k1 l1 k2 l2)≤0:=closed_one hf (List.getElem_mem hil) ((hmem i hil).1 hm)
   have h2:0<cmpR l[i].2.1 (mkA k1 l1 k2 l2):=h
   omega
  have hlo:=hto.1.2
  have hla:=ha.2
  refine ⟨by omega,⟨by omega,by omega⟩,htp.2,⟨by omega,by omega⟩,fun h=>⟨h,fun h2=>⟨h,h2⟩⟩,fun _ => ?_,⟨hC,hD⟩,fun _ _ => ?_⟩
  ·
   rcases Int.lt_or_le 0 (ratCmp (l[i].2.1.1.1 && !decide (lowN (l.length*vl l[i].2.1.1.2.1) (vl l[i].2.1.2.1.2.1)=[])) (lowN (l.length*vl l[i].2.1.1.2.1) (vl l[i].2.1.2.1.2.1)) (lowD (l.length*vl l[i].2.1.1.2.1) (vl l[i].2.1.2.1.2.1)) k1 l1 l2) with h | h
   ·
    exact .inl h
   ·
    exact .inr (hC h)
  refine WpD.loop (L:={ live:=[0,1,3,4,5,6,7,8,9,10,11,12,13,14,15,16,18,22,30,34,101,105,144],fl:=[(11,[(1,0),(1,13),(5,0),(5,13),(6,0),(6,13),(7,0),(7,13)])] }) fl2_good X0_ok nr_mixed (by kernel_rfl)
   (fun k:Nat=>⟨[(0,vS tTst l el),(3,⟨true,.v (.s (.box 0 0))⟩),(5,vS tI F false),(7,vI i),(14,vI k)],[.cells [.bool k1,.sl tI l1 f1,.bool k2,.sl tI l2 f2],.cells [.bool (l[i].2.1.1.1 && !decide (lowN (l.length*vl l[i].2.1.1.2.1) (vl l[i].2.1.2.1.2.1)=[])),.sl tI (lowN (l.length*vl l[i].2.1.1.2.1) (vl l[i].2.1.2.1.2.1)) false,.bool false,.sl tI (lowD (l.length*vl l[i].2.1.1.2.1) (vl l[i].2.1.2.1.2.1)) false]]⟩)
   (fun k=>k≤l.length) (fun k=>l.length - k) 0 (Nat.zero_le _) (Turn.le (by simp -dsimp -implicitDefEqProofs)) ?_
  intro k hk
  rcases Nat.lt_or_ge k l.length with hkl | hkg
  ·
   have htk:=hf.2 _ (List.getElem_mem hkl)
   have hRk:okRat l[k].2.1.1.1 l[k].2.1.1.2.1 l[k].2.1.2.1.1 l[k].2.1.2.1.2.1:=htk.1.1
   have hlk:=htk.1.2
   have hE:ratCmp l[i].2.1.1.1 l[i].2.1.1.2.1 l[i].2.1.2.1.2.1 l[k].2.1.1.1 l[k].2.1.1.2.1 l[k].2.1.2.1.2.1=0→(l[i].1∈F↔l[k].1∈F):=fun h=>by
    have h1:cmpR l[i].2.1 l[k].2.1=0:=h
    have h2:=ordr_rat.anti _ _ hto.1.1 htk.1.1
    rw [hmem i hil,hmem k hkl]
    exact ⟨closed_eq hf (List.getElem_mem hil) (List.getElem_mem hkl) h1,closed_eq hf (List.getElem_mem hkl) (List.getElem_mem hil) (by omega)⟩
   clear htp htf hR1 hC hD
   simp -dsimp -implicitDefEqProofs [conFAlone_eq,hil,hkl,hRi,hRk,fl2_all,flT,fl2Γ,fl2E,fl2P,fl1Γ,fl1E,fl1P,fl0Γ,fl0E,fl0P,fa25Γ,fa25E,fa25P,fa24Γ,fa24E,fa24P,fa23Γ,fa23E,fa23P,fa22Γ,fa22E,fa22P,fa21Γ,fa21E,fa21P,fa20Γ,fa20E,fa20P,fa19Γ,fa19E,fa19P,fa18Γ,fa18E,fa18P,fa17Γ,fa17E,fa17P,fa16Γ,fa16E,fa16P,fa15Γ,fa15E,fa15P,fa14Γ,fa14E,fa14P,fa13Γ,fa13E,fa13P,fa12Γ,fa12E,fa12P,fa11Γ,fa11E,fa11P,fa10Γ,fa10E,fa10P,fa9Γ,fa9E,fa9P,fa8Γ,fa8E,fa8P,fa7Γ,fa7E,fa7P,fa3Γ,fa3E,fa3P,fa2Γ,fa2E,fa2P,fa1Γ,fa1E,fa1P,nr20Γ,nr20E,nr20P,nr19Γ,nr19E,nr19P,nr18Γ,nr18E,nr18P,nr17Γ,nr17E,nr17P,nr16Γ,nr16E,nr16P,nr15Γ,nr15E,nr15P,nr14Γ,nr14E,nr14P,nr13Γ,nr13E,nr13P,nr9Γ,nr9E,nr9P,nr8Γ,nr8E,nr8P,nr7Γ,nr7E,nr7P,nr6Γ,nr6E,nr6P,nr5Γ,nr5E,nr5P,nr4Γ,nr4E,nr4P,nr3Γ,nr3E,nr3P,nr0Γ,nr0E,nr0P,conSane43_pre,conSane43_val,conSameI_eq,conFewF_eq,conHas_eq,conNum_eq,conComE_eq,conFound_eq,conClosed_eq,conFoundR_eq,conClosedR_eq,conFewR_eq,conWrongF_eq,conLeast,conIdxTI_pre,conIdxTI_val,conCT_pre,conCT_val,conSorted,conFindI_eq,conColF,conSort,conSrtd_eq,conValT_pre,conValT_val,conSofT,conSrtT,conColT,conPdqT,conInsT,conOrI_eq,conCmpI_eq,conLen_eq,conLen64_eq,conChkF_eq,conNumE_eq,conRisI_eq,conRisT_eq,conLvl_eq,conKeyI_eq,conKeyT_eq,conShrtF_eq,conMost_eq,conTimesR_eq,conFits_eq,conWhole_eq,conOrdR_eq,conMkR_eq,conMulR_eq,conCmpR_eq,conRatC_eq,conRInt_eq,conOf_eq,conLow_eq,conDivX_eq,conMakeN_eq,conProd_eq,conDidB_eq,conDidI_eq,conValid_eq,panValid_when,panValid_what,conNeed_eq,panNeed_when,panNeed_what,conGcdN_eq,conMulN_eq,conCmpN2_eq,conPosi_eq,conChk_eq,conBigN_eq,conDiv_eq,conTimes_eq,conNCheck_eq,conLong_eq,conLead64_eq,conShort_eq,conMovE,conTrim_eq,conAt_eq,conNCmp_eq,conBack_eq,conOf9_eq,conDivide_eq,conLess9_eq,conTwo_eq,conRCheck_eq,conRCmpD_eq,inI64]
   exact ⟨⟨by omega,by omega⟩,hE,fun _=>⟨⟨by omega,by omega⟩,k+1,by omega,by omega,TurnT.le (by simp -dsimp -implicitDefEqProofs)⟩⟩
  ·
   have hn:¬ k<l.length:=by omega
   simp -dsimp -implicitDefEqProofs [hn,fl2_all,flT,fl2Γ,fl2E,fl2P,fl1Γ,fl1E,fl1P,fl0Γ,fl0E,fl0P,fa25Γ,fa25E,fa25P,fa24Γ,fa24E,fa24P,fa23Γ,fa23E,fa23P,fa22Γ,fa22E,fa22P,fa21Γ,fa21E,fa21P,fa20Γ,fa20E,fa20P,fa19Γ,fa19E,fa19P,fa18Γ,fa18E,fa18P,fa17Γ,fa17E,fa17P,fa16Γ,fa16E,fa16P,fa15Γ,fa15E,fa15P,fa14Γ,fa14E,fa14P,fa13Γ,fa13E,fa13P,fa12Γ,fa12E,fa12P,fa11Γ,fa11E,fa11P,fa10Γ,fa10E,fa10P,fa9Γ,fa9E,fa9P,fa8Γ,fa8E,fa8P,fa7Γ,fa7E,fa7P,fa3Γ,fa3E,fa3P,fa2Γ,fa2E,fa2P,fa1Γ,fa1E,fa1P,nr20Γ,nr20E,nr20P,nr19Γ,nr19E,nr19P,nr18Γ,nr18E,nr18P,nr17Γ,nr17E,nr17P,nr16Γ,nr16E,nr16P,nr15Γ,nr15E,nr15P,nr14Γ,nr14E,nr14P,nr13Γ,nr13E,nr13P,nr9Γ,nr9E,nr9P,nr8Γ,nr8E,nr8P,nr7Γ,nr7E,nr7P,nr6Γ,nr6E,nr6P,nr5Γ,nr5E,nr5P,nr4Γ,nr4E,nr4P,nr3Γ,nr3E,nr3P,nr0Γ,nr0E,nr0P,conSane43_pre,conSane43_val,conSameI_eq,conFewF_eq,conHas_eq,conNum_eq,conComE_eq,conFound_eq,conClosed_eq,conFoundR_eq,conClosedR_eq,conFewR_eq,conWrongF_eq,conLeast,conIdxTI_pre,conIdxTI_val,conCT_pre,conCT_val,conSorted,conFindI_eq,conColF,conSort,conSrtd_eq,conValT_pre,conValT_val,conSofT,conSrtT,conColT,conPdqT,conInsT,conOrI_eq,conCmpI_eq,conLen_eq,conLen64_eq,conChkF_eq,conNumE_eq,conRisI_eq,conRisT_eq,conLvl_eq,conKeyI_eq,conKeyT_eq,conShrtF_eq,conMost_eq,conTimesR_eq,conFits_eq,conWhole_eq,conOrdR_eq,conMkR_eq,conMulR_eq,conCmpR_eq,conRatC_eq,conRInt_eq,conOf_eq,conLow_eq,conDivX_eq,conMakeN_eq,conProd_eq,conDidB_eq,conDidI_eq,conValid_eq,panValid_when,panValid_what,conNeed_eq,panNeed_when,panNeed_what,conGcdN_eq,conMulN_eq,conCmpN2_eq,conPosi_eq,conChk_eq,conBigN_eq,conDiv_eq,conTimes_eq,conNCheck_eq,conLong_eq,conLead64_eq,conShort_eq,conMovE,conTrim_eq,conAt_eq,conNCmp_eq,conBack_eq,conOf9_eq,conDivide_eq,conLess9_eq,conTwo_eq,conRCheck_eq,conRCmpD_eq,inI64]
   exact ⟨⟨by omega,by omega⟩,i+1,by omega,by omega,TurnT.trunc X0_ok (hp:=[_]) (junk:=[_]) (by simp) (by simp only [List.length_cons,List.length_nil,List.all_cons,List.all_nil,arr_below,Bool.and_true] <;> simp [Blk.below,SV.below]) (by simp -dsimp -implicitDefEqProofs []) (by simp [envBelow,RV.below,AV.below,SV.below])⟩
 ·
  have hn:¬ i<l.length:=by omega
  simp -dsimp -implicitDefEqProofs [conFAlone_eq,hn,fl2_all,flT,fl2Γ,fl2E,fl2P,fl1Γ,fl1E,fl1P,fl0Γ,fl0E,fl0P,fa25Γ,fa25E,fa25P,fa24Γ,fa24E,fa24P,fa23Γ,fa23E,fa23P,fa22Γ,fa22E,fa22P,fa21Γ,fa21E,fa21P,fa20Γ,fa20E,fa20P,fa19Γ,fa19E,fa19P,fa18Γ,fa18E,fa18P,fa17Γ,fa17E,fa17P,fa16Γ,fa16E,fa16P,fa15Γ,fa15E,fa15P,fa14Γ,fa14E,fa14P,fa13Γ,fa13E,fa13P,fa12Γ,fa12E,fa12P,fa11Γ,fa11E,fa11P,fa10Γ,fa10E,fa10P,fa9Γ,fa9E,fa9P,fa8Γ,fa8E,fa8P,fa7Γ,fa7E,fa7P,fa3Γ,fa3E,fa3P,fa2Γ,fa2E,fa2P,fa1Γ,fa1E,fa1P,nr20Γ,nr20E,nr20P,nr19Γ,nr19E,nr19P,nr18Γ,nr18E,nr18P,nr17Γ,nr17E,nr17P,nr16Γ,nr16E,nr16P,nr15Γ,nr15E,nr15P,nr14Γ,nr14E,nr14P,nr13Γ,nr13E,nr13P,nr9Γ,nr9E,nr9P,nr8Γ,nr8E,nr8P,nr7Γ,nr7E,nr7P,nr6Γ,nr6E,nr6P,nr5Γ,nr5E,nr5P,nr4Γ,nr4E,nr4P,nr3Γ,nr3E,nr3P,nr0Γ,nr0E,nr0P,conSane43_pre,conSane43_val,conSameI_eq,conFewF_eq,conHas_eq,conNum_eq,conComE_eq,conFound_eq,conClosed_eq,conFoundR_eq,conClosedR_eq,conFewR_eq,conWrongF_eq,conLeast,conIdxTI_pre,conIdxTI_val,conCT_pre,conCT_val,conSorted,conFindI_eq,conColF,conSort,conSrtd_eq,conValT_pre,conValT_val,conSofT,conSrtT,conColT,conPdqT,conInsT,conOrI_eq,conCmpI_eq,conLen_eq,conLen64_eq,conChkF_eq,conNumE_eq,conRisI_eq,conRisT_eq,conLvl_eq,conKeyI_eq,conKeyT_eq,conShrtF_eq,conMost_eq,conTimesR_eq,conFits_eq,conWhole_eq,conOrdR_eq,conMkR_eq,conMulR_eq,conCmpR_eq,conRatC_eq,conRInt_eq,conOf_eq,conLow_eq,conDivX_eq,conMakeN_eq,conProd_eq,conDidB_eq,conDidI_eq,conValid_eq,panValid_when,panValid_what,conNeed_eq,panNeed_when,panNeed_what,conGcdN_eq,conMulN_eq,conCmpN2_eq,conPosi_eq,conChk_eq,conBigN_eq,conDiv_eq,conTimes_eq,conNCheck_eq,conLong_eq,conLead64_eq,conShort_eq,conMovE,conTrim_eq,conAt_eq,conNCmp_eq,conBack_eq,conOf9_eq,conDivide_eq,conLess9_eq,conTwo_eq,conRCheck_eq,conRCmpD_eq,inI64]
theorem shr_nat (s i:Nat):(s:Int).fdiv (2 ^ i)=((s / 2 ^ i:Nat):Int):=by
 have e:((2:Int) ^ i)=((2 ^ i:Nat):Int):=by rw [Int.natCast_pow]; rfl
 rw [e,Int.fdiv_eq_ediv_of_nonneg _ (Int.natCast_nonneg _)]; rfl
theorem bit_int (s i:Nat):(s:Int).fdiv (2 ^ i) % 2=((bitN s i:Nat):Int):=by
 rw [shr_nat]; unfold bitN; omega
structure PrtS where
 s:Nat
 all:List Bool
def PrtS.ok (l:List tTst.T) (a:tRat.T) (p:PrtS):Prop:=(1≤p.s∧p.s≤2 ^ l.length)∧p.all.length=l.length∧∀ i (h:i<l.length),p.all[i]?.getD false=true↔∀ s,1≤s→s<p.s→bitN s i=1→refN l a s
structure RefS where
 i:Nat
 b:Bool
def RefS.ok (l:List tTst.T) (a:tRat.T) (m set:Nat) (p:RefS):Prop:=p.i≤l.length∧(p.b=true↔∃ j,∃ h:j<l.length,j<p.i∧bitN set j=1∧fitF (m:Int) l[j] a=true)
structure AllS where
 i:Nat
 al:List Bool
def AllS.ok (n set:Nat) (b:Bool) (all:List Bool) (p:AllS):Prop:=p.i≤n∧p.al.length=n∧∀ j,j<n→p.al[j]?.getD false=(all[j]?.getD false&&(decide (p.i≤j)||(decide (bitN set j=0)||b)))
theorem pow_8 {n:Nat} (h:n≤8):2 ^ n≤256:=by
 have:(2:Nat) ^ n≤2 ^ 8:=Nat.pow_le_pow_right (by decide) h
 simpa using this
theorem rep_step {n i:Nat} (h:i<n):(List.replicate i true++List.replicate (n - i) false).set i true=List.replicate (i+1) true++List.replicate (n - (i+1)) false:=by
 have e:n - i=(n - (i+1))+1:=by omega
 rw [e,List.replicate_succ,List.set_append_right _ _ (by simp)]
 simp only [List.length_replicate,Nat.sub_self,List.set_cons_zero]
 rw [List.replicate_succ',List.append_assoc]
 rfl
def conFParts:Con:=⟨fun args=>(match args with
 | [.s (.sl (.cons (.int .i64) (.cons (.cons (.cons .bool (.cons (.slice (.int .i64)) .nil)) (.cons (.cons .bool (.cons (.slice (.int .i64)) .nil)) .nil)) .nil)) l _),.agg [.bool k1,.sl (.int .i64) l1 _,.bool k2,.sl (.int .i64) l2 _]]=>True
 | _=>False),fun args=>match args with
 | [.s (.sl (.cons (.int .i64) (.cons (.cons (.cons .bool (.cons (.slice (.int .i64)) .nil)) (.cons (.cons .bool (.cons (.slice (.int .i64)) .nil)) .nil)) .nil)) l _),.agg [.bool k1,.sl (.int .i64) l1 _,.bool k2,.sl (.int .i64) l2 _]]=>.v (aB true)
 | _=>.v (.s .any)⟩
theorem conFParts_eq (l:List (Ty.T tTst)) (exl:Bool) (k1:Bool) (l1:List (Ty.T tI)) (exl1:Bool) (k2:Bool) (l2:List (Ty.T tI)) (exl2:Bool):conFParts.pre [.s (.sl tTst l exl),.agg [.bool k1,.sl tI l1 exl1,.bool k2,.sl tI l2 exl2]]=(True)∧conFParts.val [.s (.sl tTst l exl),.agg [.bool k1,.sl tI l1 exl1,.bool k2,.sl tI l2 exl2]]=.v (aB true):=⟨rfl,rfl⟩
theorem fparts_ok:PureOk Tryz.prog 6 conFParts:=by
 refine pureOkD (L:={ live:=[0,1,3,4,5,6,7,8,9,10,11,12,13,14,15,16,17,18,19,21,30,38,45,55,61,73,98,114,137,151],fl:=[(25,[(4,0),(4,12),(5,0),(5,12),(6,0),(6,12)])] }) fl2_good rfl nr_mixed Tryz.func6 rfl conFParts 2 (by decide) (by kernel_rfl) ?_
 intro args hpre hlens
 simp only [conFParts] at hpre
 split at hpre
 case h_2=>exact hpre.elim
 rename_i l el k1 l1 f1 k2 l2 f2
 simp only [allLen,AV.lenOk,SV.lenOk,Ty.lenOk,maxLen,and_true,implies_true,true_and,List.forall_mem_cons,List.not_mem_nil,false_implies] at hlens
 refine ⟨rfl,?_⟩
 simp -dsimp -implicitDefEqProofs [Tryz.f6,conFParts_eq,fl2_all,flT,fl2Γ,fl2E,fl2P,fl1Γ,fl1E,fl1P,fl0Γ,fl0E,fl0P,fa25Γ,fa25E,fa25P,fa24Γ,fa24E,fa24P,fa23Γ,fa23E,fa23P,fa22Γ,fa22E,fa22P,fa21Γ,fa21E,fa21P,fa20Γ,fa20E,fa20P,fa19Γ,fa19E,fa19P,fa18Γ,fa18E,fa18P,fa17Γ,fa17E,fa17P,fa16Γ,fa16E,fa16P,fa15Γ,fa15E,fa15P,fa14Γ,fa14E,fa14P,fa13Γ,fa13E,fa13P,fa12Γ,fa12E,fa12P,fa11Γ,fa11E,fa11P,fa10Γ,fa10E,fa10P,fa9Γ,fa9E,fa9P,fa8Γ,fa8E,fa8P,fa7Γ,fa7E,fa7P,fa3Γ,fa3E,fa3P,fa2Γ,fa2E,fa2P,fa1Γ,fa1E,fa1P,nr20Γ,nr20E,nr20P,nr19Γ,nr19E,nr19P,nr18Γ,nr18E,nr18P,nr17Γ,nr17E,nr17P,nr16Γ,nr16E,nr16P,nr15Γ,nr15E,nr15P,nr14Γ,nr14E,nr14P,nr13Γ,nr13E,nr13P,nr9Γ,nr9E,nr9P,nr8Γ,nr8E,nr8P,nr7Γ,nr7E,nr7P,nr6Γ,nr6E,nr6P,nr5Γ,nr5E,nr5P,nr4Γ,nr4E,nr4P,nr3Γ,nr3E,nr3P,nr0Γ,nr0E,nr0P,conSane43_pre,conSane43_val,conSameI_eq,conFewF_eq,conHas_eq,conNum_eq,conComE_eq,conFound_eq,conClosed_eq,conFoundR_eq,conClosedR_eq,conFewR_eq,conWrongF_eq,conLeast,conIdxTI_pre,conIdxTI_val,conCT_pre,conCT_val,conSorted,conFindI_eq,conColF,conSort,conSrtd_eq,conValT_pre,conValT_val,conSofT,conSrtT,conColT,conPdqT,conInsT,conOrI_eq,conCmpI_eq,conLen_eq,conLen64_eq,conChkF_eq,conNumE_eq,conRisI_eq,conRisT_eq,conLvl_eq,conKeyI_eq,conKeyT_eq,conShrtF_eq,conMost_eq,conTimesR_eq,conFits_eq,conWhole_eq,conOrdR_eq,conMkR_eq,conMulR_eq,conCmpR_eq,conRatC_eq,conRInt_eq,conOf_eq,conLow_eq,conDivX_eq,conMakeN_eq,conProd_eq,conDidB_eq,conDidI_eq,conValid_eq,panValid_when,panValid_what,conNeed_eq,panNeed_when,panNeed_what,conGcdN_eq,conMulN_eq,conCmpN2_eq,conPosi_eq,conChk_eq,conBigN_eq,conDiv_eq,conTimes_eq,conNCheck_eq,conLong_eq,conLead64_eq,conShort_eq,conMovE,conTrim_eq,conAt_eq,conNCmp_eq,conBack_eq,conOf9_eq,conDivide_eq,conLess9_eq,conTwo_eq,conRCheck_eq,conRCmpD_eq,inI64]
 obtain ⟨l1,rfl⟩:∃ y:List Int,y=l1:=⟨l1,rfl⟩; obtain ⟨l2,rfl⟩:∃ y:List Int,y=l2:=⟨l2,rfl⟩
 intro hfew h8
 have h12:=fun hc=>few_12 (k1:=k1) (k2:=k2) hfew hc
 refine ⟨h12,fun hc=>⟨by omega,?_⟩⟩
 obtain ⟨F,hF⟩:∃ F,F=foundV l k1 l1 k2 l2:=⟨_,rfl⟩
 rw [← hF]
 obtain ⟨_,hf,hl⟩:=chkF_0.1 hc
 have ha:=lvl_ok0 hl
 have hn8:l.length≤8:=by omega
 have hpw:=pow_8 hn8
 have hmem:∀ j (hj:j<l.length),l[j].1∈F↔closedP (okA (mkA k1 l1 k2 l2)) l l[j]:=fun j hj=>by rw [hF]; exact found_mem hc (List.getElem_mem hj)
 refine WpD.loop (L:={ live:=[0,1,3,4,5,6,7,8,9,10,11,12,13,14,15,16,17,18,19,21,30,38,45,55,61,73,98,114,137,151],fl:=[(25,[(4,0),(4,12),(5,0),(5,12),(6,0),(6,12)])] }) fl2_good X0_ok nr_mixed (by kernel_rfl)
  (fun i:Nat=>⟨[(0,vS tTst l el),(3,⟨true,.v (.s (.box 0 0))⟩),(5,vS tI F false),(7,⟨true,.v (.s (.own .bool 1 l.length))⟩),(8,vI i)],[.cells [.bool k1,.sl tI l1 f1,.bool k2,.sl tI l2 f2],.arr true (Ty.bool.flats (List.replicate i true++List.replicate (l.length - i) false))]⟩)
  (fun i=>i≤l.length) (fun i=>l.length - i) 0 (Nat.zero_le _) (Turn.le (by simp -dsimp -implicitDefEqProofs)) ?_
 intro i hi
 rcases Nat.lt_or_ge i l.length with hil | hge
 ·
  have hrl:(List.replicate i true++List.replicate (l.length - i) false).length=l.length:=by simp; omega
  have hst:=rep_step hil
  obtain ⟨R,hR⟩:∃ R,R=List.replicate i true++List.replicate (l.length - i) false:=⟨_,rfl⟩
  rw [← hR] at hrl hst ⊢
  simp -dsimp -implicitDefEqProofs [hil,hrl,fl2_all,flT,fl2Γ,fl2E,fl2P,fl1Γ,fl1E,fl1P,fl0Γ,fl0E,fl0P,fa25Γ,fa25E,fa25P,fa24Γ,fa24E,fa24P,fa23Γ,fa23E,fa23P,fa22Γ,fa22E,fa22P,fa21Γ,fa21E,fa21P,fa20Γ,fa20E,fa20P,fa19Γ,fa19E,fa19P,fa18Γ,fa18E,fa18P,fa17Γ,fa17E,fa17P,fa16Γ,fa16E,fa16P,fa15Γ,fa15E,fa15P,fa14Γ,fa14E,fa14P,fa13Γ,fa13E,fa13P,fa12Γ,fa12E,fa12P,fa11Γ,fa11E,fa11P,fa10Γ,fa10E,fa10P,fa9Γ,fa9E,fa9P,fa8Γ,fa8E,fa8P,fa7Γ,fa7E,fa7P,fa3Γ,fa3E,fa3P,fa2Γ,fa2E,fa2P,fa1Γ,fa1E,fa1P,nr20Γ,nr20E,nr20P,nr19Γ,nr19E,nr19P,nr18Γ,nr18E,nr18P,nr17Γ,nr17E,nr17P,nr16Γ,nr16E,nr16P,nr15Γ,nr15E,nr15P,nr14Γ,nr14E,nr14P,nr13Γ,nr13E,nr13P,nr9Γ,nr9E,nr9P,nr8Γ,nr8E,nr8P,nr7Γ,nr7E,nr7P,nr6Γ,nr6E,nr6P,nr5Γ,nr5E,nr5P,nr4Γ,nr4E,nr4P,nr3Γ,nr3E,nr3P,nr0Γ,nr0E,nr0P,conSane43_pre,conSane43_val,conSameI_eq,conFewF_eq,conHas_eq,conNum_eq,conComE_eq,conFound_eq,conClosed_eq,conFoundR_eq,conClosedR_eq,conFewR_eq,conWrongF_eq,conLeast,conIdxTI_pre,conIdxTI_val,conCT_pre,conCT_val,conSorted,conFindI_eq,conColF,conSort,conSrtd_eq,conValT_pre,conValT_val,conSofT,conSrtT,conColT,conPdqT,conInsT,conOrI_eq,conCmpI_eq,conLen_eq,conLen64_eq,conChkF_eq,conNumE_eq,conRisI_eq,conRisT_eq,conLvl_eq,conKeyI_eq,conKeyT_eq,conShrtF_eq,conMost_eq,conTimesR_eq,conFits_eq,conWhole_eq,conOrdR_eq,conMkR_eq,conMulR_eq,conCmpR_eq,conRatC_eq,conRInt_eq,conOf_eq,conLow_eq,conDivX_eq,conMakeN_eq,conProd_eq,conDidB_eq,conDidI_eq,conValid_eq,panValid_when,panValid_what,conNeed_eq,panNeed_when,panNeed_what,conGcdN_eq,conMulN_eq,conCmpN2_eq,conPosi_eq,conChk_eq,conBigN_eq,conDiv_eq,conTimes_eq,conNCheck_eq,conLong_eq,conLead64_eq,conShort_eq,conMovE,conTrim_eq,conAt_eq,conNCmp_eq,conBack_eq,conOf9_eq,conDivide_eq,conLess9_eq,conTwo_eq,conRCheck_eq,conRCmpD_eq,inI64]
  refine ⟨by omega,⟨by omega,by omega⟩,i+1,by omega,by omega,?_⟩
  rw [flb_set (by omega),hst]
  exact TurnT.le (by simp -dsimp -implicitDefEqProofs)
 have hn:¬ i<l.length:=by omega
 obtain rfl:i=l.length:=by omega
 have hRt:List.replicate l.length true++List.replicate (l.length - l.length) false=List.replicate l.length true:=by simp
 rw [hRt]
 simp -dsimp -implicitDefEqProofs [hn,fl2_all,flT,fl2Γ,fl2E,fl2P,fl1Γ,fl1E,fl1P,fl0Γ,fl0E,fl0P,fa25Γ,fa25E,fa25P,fa24Γ,fa24E,fa24P,fa23Γ,fa23E,fa23P,fa22Γ,fa22E,fa22P,fa21Γ,fa21E,fa21P,fa20Γ,fa20E,fa20P,fa19Γ,fa19E,fa19P,fa18Γ,fa18E,fa18P,fa17Γ,fa17E,fa17P,fa16Γ,fa16E,fa16P,fa15Γ,fa15E,fa15P,fa14Γ,fa14E,fa14P,fa13Γ,fa13E,fa13P,fa12Γ,fa12E,fa12P,fa11Γ,fa11E,fa11P,fa10Γ,fa10E,fa10P,fa9Γ,fa9E,fa9P,fa8Γ,fa8E,fa8P,fa7Γ,fa7E,fa7P,fa3Γ,fa3E,fa3P,fa2Γ,fa2E,fa2P,fa1Γ,fa1E,fa1P,nr20Γ,nr20E,nr20P,nr19Γ,nr19E,nr19P,nr18Γ,nr18E,nr18P,nr17Γ,nr17E,nr17P,nr16Γ,nr16E,nr16P,nr15Γ,nr15E,nr15P,nr14Γ,nr14E,nr14P,nr13Γ,nr13E,nr13P,nr9Γ,nr9E,nr9P,nr8Γ,nr8E,nr8P,nr7Γ,nr7E,nr7P,nr6Γ,nr6E,nr6P,nr5Γ,nr5E,nr5P,nr4Γ,nr4E,nr4P,nr3Γ,nr3E,nr3P,nr0Γ,nr0E,nr0P,conSane43_pre,conSane43_val,conSameI_eq,conFewF_eq,conHas_eq,conNum_eq,conComE_eq,conFound_eq,conClosed_eq,conFoundR_eq,conClosedR_eq,conFewR_eq,conWrongF_eq,conLeast,conIdxTI_pre,conIdxTI_val,conCT_pre,conCT_val,conSorted,conFindI_eq,conColF,conSort,conSrtd_eq,conValT_pre,conValT_val,conSofT,conSrtT,conColT,conPdqT,conInsT,conOrI_eq,conCmpI_eq,conLen_eq,conLen64_eq,conChkF_eq,conNumE_eq,conRisI_eq,conRisT_eq,conLvl_eq,conKeyI_eq,conKeyT_eq,conShrtF_eq,conMost_eq,conTimesR_eq,conFits_eq,conWhole_eq,conOrdR_eq,conMkR_eq,conMulR_eq,conCmpR_eq,conRatC_eq,conRInt_eq,conOf_eq,conLow_eq,conDivX_eq,conMakeN_eq,conProd_eq,conDidB_eq,conDidI_eq,conValid_eq,panValid_when,panValid_what,conNeed_eq,panNeed_when,panNeed_what,conGcdN_eq,conMulN_eq,conCmpN2_eq,conPosi_eq,conChk_eq,conBigN_eq,conDiv_eq,conTimes_eq,conNCheck_eq,conLong_eq,conLead64_eq,conShort_eq,conMovE,conTrim_eq,conAt_eq,conNCmp_eq,conBack_eq,conOf9_eq,conDivide_eq,conLess9_eq,conTwo_eq,conRCheck_eq,conRCmpD_eq,inI64]
 refine WpD.loop (L:={ live:=[0,1,3,4,5,6,7,8,9,10,11,12,13,14,15,16,17,18,19,21,30,38,45,55,61,73,98,114,137,151],fl:=[(25,[(4,0),(4,12),(5,0),(5,12),(6,0),(6,12)])] }) fl2_good X0_ok nr_mixed (by kernel_rfl)
  (fun p:PrtS=>⟨[(0,vS tTst l el),(3,⟨true,.v (.s (.box 0 0))⟩),(5,vS tI F false),(7,⟨true,.v (.s (.own .bool 1 l.length))⟩),(9,vI p.s)],[.cells [.bool k1,.sl tI l1 f1,.bool k2,.sl tI l2 f2],.arr true (Ty.bool.flats p.all)]⟩)
  (PrtS.ok l (mkA k1 l1 k2 l2)) (fun p=>2 ^ l.length - p.s) ⟨1,List.replicate l.length true⟩ ⟨⟨Nat.le_refl _,Nat.pow_pos (by decide)⟩,by simp,fun i hi=>by simp [hi]; omega⟩ (Turn.le (by simp -dsimp -implicitDefEqProofs)) ?_
 rintro ⟨set,all⟩ ⟨⟨hs1,hs2⟩,hal,hinv⟩
 simp only at hs1 hs2 hal hinv
 obtain ⟨P,hP⟩:∃ P,P=2 ^ l.length:=⟨_,rfl⟩
 have hPi:(2:Int) ^ l.length=(P:Int):=by rw [hP,Int.natCast_pow]; rfl
 rw [← hP] at hs2 hpw
 have hP1:1≤P:=by rw [hP]; exact Nat.pow_pos (by decide)
 rcases Nat.lt_or_ge set P with hsl | hsg
 ·
  simp -dsimp -implicitDefEqProofs [hPi,hsl,fl2_all,flT,fl2Γ,fl2E,fl2P,fl1Γ,fl1E,fl1P,fl0Γ,fl0E,fl0P,fa25Γ,fa25E,fa25P,fa24Γ,fa24E,fa24P,fa23Γ,fa23E,fa23P,fa22Γ,fa22E,fa22P,fa21Γ,fa21E,fa21P,fa20Γ,fa20E,fa20P,fa19Γ,fa19E,fa19P,fa18Γ,fa18E,fa18P,fa17Γ,fa17E,fa17P,fa16Γ,fa16E,fa16P,fa15Γ,fa15E,fa15P,fa14Γ,fa14E,fa14P,fa13Γ,fa13E,fa13P,fa12Γ,fa12E,fa12P,fa11Γ,fa11E,fa11P,fa10Γ,fa10E,fa10P,fa9Γ,fa9E,fa9P,fa8Γ,fa8E,fa8P,fa7Γ,fa7E,fa7P,fa3Γ,fa3E,fa3P,fa2Γ,fa2E,fa2P,fa1Γ,fa1E,fa1P,nr20Γ,nr20E,nr20P,nr19Γ,nr19E,nr19P,nr18Γ,nr18E,nr18P,nr17Γ,nr17E,nr17P,nr16Γ,nr16E,nr16P,nr15Γ,nr15E,nr15P,nr14Γ,nr14E,nr14P,nr13Γ,nr13E,nr13P,nr9Γ,nr9E,nr9P,nr8Γ,nr8E,nr8P,nr7Γ,nr7E,nr7P,nr6Γ,nr6E,nr6P,nr5Γ,nr5E,nr5P,nr4Γ,nr4E,nr4P,nr3Γ,nr3E,nr3P,nr0Γ,nr0E,nr0P,conSane43_pre,conSane43_val,conSameI_eq,conFewF_eq,conHas_eq,conNum_eq,conComE_eq,conFound_eq,conClosed_eq,conFoundR_eq,conClosedR_eq,conFewR_eq,conWrongF_eq,conLeast,conIdxTI_pre,conIdxTI_val,conCT_pre,conCT_val,conSorted,conFindI_eq,conColF,conSort,conSrtd_eq,conValT_pre,conValT_val,conSofT,conSrtT,conColT,conPdqT,conInsT,conOrI_eq,conCmpI_eq,conLen_eq,conLen64_eq,conChkF_eq,conNumE_eq,conRisI_eq,conRisT_eq,conLvl_eq,conKeyI_eq,conKeyT_eq,conShrtF_eq,conMost_eq,conTimesR_eq,conFits_eq,conWhole_eq,conOrdR_eq,conMkR_eq,conMulR_eq,conCmpR_eq,conRatC_eq,conRInt_eq,conOf_eq,conLow_eq,conDivX_eq,conMakeN_eq,conProd_eq,conDidB_eq,conDidI_eq,conValid_eq,panValid_when,panValid_what,conNeed_eq,panNeed_when,panNeed_what,conGcdN_eq,conMulN_eq,conCmpN2_eq,conPosi_eq,conChk_eq,conBigN_eq,conDiv_eq,conTimes_eq,conNCheck_eq,conLong_eq,conLead64_eq,conShort_eq,conMovE,conTrim_eq,conAt_eq,conNCmp_eq,conBack_eq,conOf9_eq,conDivide_eq,conLess9_eq,conTwo_eq,conRCheck_eq,conRCmpD_eq,inI64]
  refine ⟨⟨⟨by omega,.inl (by omega)⟩,by omega⟩,?_⟩
  refine WpD.loop (L:={ live:=[0,1,3,4,5,6,7,8,9,10,11,12,13,14,15,16,17,18,19,21,30,38,45,55,61,73,98,114,137,151],fl:=[(25,[(4,0),(4,12),(5,0),(5,12),(6,0),(6,12)])] }) fl2_good X0_ok nr_mixed (by kernel_rfl)
   (fun i:Nat=>⟨[(0,vS tTst l el),(3,⟨true,.v (.s (.box 0 0))⟩),(5,vS tI F false),(7,⟨true,.v (.s (.own .bool 1 l.length))⟩),(9,vI set),(10,vI (cntN set i)),(11,vI i)],[.cells [.bool k1,.sl tI l1 f1,.bool k2,.sl tI l2 f2],.arr true (Ty.bool.flats all)]⟩)
   (fun i=>i≤l.length) (fun i=>l.length - i) 0 (Nat.zero_le _) (Turn.le (by simp -dsimp -implicitDefEqProofs [cntN])) ?_
  intro i hi
  have hb:=bit_int set i
  have hble:=bitN_le set i
  have hcle:=cntN_le set i
  rcases Nat.lt_or_ge i l.length with hil | hge
  ·
   have hc1:cntN set (i+1)=cntN set i+bitN set i:=rfl
   simp -dsimp -implicitDefEqProofs [hil,hb,fl2_all,flT,fl2Γ,fl2E,fl2P,fl1Γ,fl1E,fl1P,fl0Γ,fl0E,fl0P,fa25Γ,fa25E,fa25P,fa24Γ,fa24E,fa24P,fa23Γ,fa23E,fa23P,fa22Γ,fa22E,fa22P,fa21Γ,fa21E,fa21P,fa20Γ,fa20E,fa20P,fa19Γ,fa19E,fa19P,fa18Γ,fa18E,fa18P,fa17Γ,fa17E,fa17P,fa16Γ,fa16E,fa16P,fa15Γ,fa15E,fa15P,fa14Γ,fa14E,fa14P,fa13Γ,fa13E,fa13P,fa12Γ,fa12E,fa12P,fa11Γ,fa11E,fa11P,fa10Γ,fa10E,fa10P,fa9Γ,fa9E,fa9P,fa8Γ,fa8E,fa8P,fa7Γ,fa7E,fa7P,fa3Γ,fa3E,fa3P,fa2Γ,fa2E,fa2P,fa1Γ,fa1E,fa1P,nr20Γ,nr20E,nr20P,nr19Γ,nr19E,nr19P,nr18Γ,nr18E,nr18P,nr17Γ,nr17E,nr17P,nr16Γ,nr16E,nr16P,nr15Γ,nr15E,nr15P,nr14Γ,nr14E,nr14P,nr13Γ,nr13E,nr13P,nr9Γ,nr9E,nr9P,nr8Γ,nr8E,nr8P,nr7Γ,nr7E,nr7P,nr6Γ,nr6E,nr6P,nr5Γ,nr5E,nr5P,nr4Γ,nr4E,nr4P,nr3Γ,nr3E,nr3P,nr0Γ,nr0E,nr0P,conSane43_pre,conSane43_val,conSameI_eq,conFewF_eq,conHas_eq,conNum_eq,conComE_eq,conFound_eq,conClosed_eq,conFoundR_eq,conClosedR_eq,conFewR_eq,conWrongF_eq,conLeast,conIdxTI_pre,conIdxTI_val,conCT_pre,conCT_val,conSorted,conFindI_eq,conColF,conSort,conSrtd_eq,conValT_pre,conValT_val,conSofT,conSrtT,conColT,conPdqT,conInsT,conOrI_eq,conCmpI_eq,conLen_eq,conLen64_eq,conChkF_eq,conNumE_eq,conRisI_eq,conRisT_eq,conLvl_eq,conKeyI_eq,conKeyT_eq,conShrtF_eq,conMost_eq,conTimesR_eq,conFits_eq,conWhole_eq,conOrdR_eq,conMkR_eq,conMulR_eq,conCmpR_eq,conRatC_eq,conRInt_eq,conOf_eq,conLow_eq,conDivX_eq,conMakeN_eq,conProd_eq,conDidB_eq,conDidI_eq,conValid_eq,panValid_when,panValid_what,conNeed_eq,panNeed_when,panNeed_what,conGcdN_eq,conMulN_eq,conCmpN2_eq,conPosi_eq,conChk_eq,conBigN_eq,conDiv_eq,conTimes_eq,conNCheck_eq,conLong_eq,conLead64_eq,conShort_eq,conMovE,conTrim_eq,conAt_eq,conNCmp_eq,conBack_eq,conOf9_eq,conDivide_eq,conLess9_eq,conTwo_eq,conRCheck_eq,conRCmpD_eq,inI64]
   refine ⟨⟨by omega,.inl (by omega)⟩,⟨by omega,by omega⟩,⟨by omega,by omega⟩,i+1,by omega,by omega,?_⟩
   rw [hc1]
   exact TurnT.le (by simp -dsimp -implicitDefEqProofs)
  have hn:¬ i<l.length:=by omega
  obtain rfl:i=l.length:=by omega
  obtain ⟨m,hm⟩:∃ m,m=cntN set l.length:=⟨_,rfl⟩
  rw [← hm] at hcle ⊢
  simp -dsimp -implicitDefEqProofs [hn,fl2_all,flT,fl2Γ,fl2E,fl2P,fl1Γ,fl1E,fl1P,fl0Γ,fl0E,fl0P,fa25Γ,fa25E,fa25P,fa24Γ,fa24E,fa24P,fa23Γ,fa23E,fa23P,fa22Γ,fa22E,fa22P,fa21Γ,fa21E,fa21P,fa20Γ,fa20E,fa20P,fa19Γ,fa19E,fa19P,fa18Γ,fa18E,fa18P,fa17Γ,fa17E,fa17P,fa16Γ,fa16E,fa16P,fa15Γ,fa15E,fa15P,fa14Γ,fa14E,fa14P,fa13Γ,fa13E,fa13P,fa12Γ,fa12E,fa12P,fa11Γ,fa11E,fa11P,fa10Γ,fa10E,fa10P,fa9Γ,fa9E,fa9P,fa8Γ,fa8E,fa8P,fa7Γ,fa7E,fa7P,fa3Γ,fa3E,fa3P,fa2Γ,fa2E,fa2P,fa1Γ,fa1E,fa1P,nr20Γ,nr20E,nr20P,nr19Γ,nr19E,nr19P,nr18Γ,nr18E,nr18P,nr17Γ,nr17E,nr17P,nr16Γ,nr16E,nr16P,nr15Γ,nr15E,nr15P,nr14Γ,nr14E,nr14P,nr13Γ,nr13E,nr13P,nr9Γ,nr9E,nr9P,nr8Γ,nr8E,nr8P,nr7Γ,nr7E,nr7P,nr6Γ,nr6E,nr6P,nr5Γ,nr5E,nr5P,nr4Γ,nr4E,nr4P,nr3Γ,nr3E,nr3P,nr0Γ,nr0E,nr0P,conSane43_pre,conSane43_val,conSameI_eq,conFewF_eq,conHas_eq,conNum_eq,conComE_eq,conFound_eq,conClosed_eq,conFoundR_eq,conClosedR_eq,conFewR_eq,conWrongF_eq,conLeast,conIdxTI_pre,conIdxTI_val,conCT_pre,conCT_val,conSorted,conFindI_eq,conColF,conSort,conSrtd_eq,conValT_pre,conValT_val,conSofT,conSrtT,conColT,conPdqT,conInsT,conOrI_eq,conCmpI_eq,conLen_eq,conLen64_eq,conChkF_eq,conNumE_eq,conRisI_eq,conRisT_eq,conLvl_eq,conKeyI_eq,conKeyT_eq,conShrtF_eq,conMost_eq,conTimesR_eq,conFits_eq,conWhole_eq,conOrdR_eq,conMkR_eq,conMulR_eq,conCmpR_eq,conRatC_eq,conRInt_eq,conOf_eq,conLow_eq,conDivX_eq,conMakeN_eq,conProd_eq,conDidB_eq,conDidI_eq,conValid_eq,panValid_when,panValid_what,conNeed_eq,panNeed_when,panNeed_what,conGcdN_eq,conMulN_eq,conCmpN2_eq,conPosi_eq,conChk_eq,conBigN_eq,conDiv_eq,conTimes_eq,conNCheck_eq,conLong_eq,conLead64_eq,conShort_eq,conMovE,conTrim_eq,conAt_eq,conNCmp_eq,conBack_eq,conOf9_eq,conDivide_eq,conLess9_eq,conTwo_eq,conRCheck_eq,conRCmpD_eq,inI64]
  refine WpD.loop (L:={ live:=[0,1,3,4,5,6,7,8,9,10,11,12,13,14,15,16,17,18,19,21,30,38,45,55,61,73,98,114,137,151],fl:=[(25,[(4,0),(4,12),(5,0),(5,12),(6,0),(6,12)])] }) fl2_good X0_ok nr_mixed (by kernel_rfl)
   (fun p:RefS=>⟨[(0,vS tTst l el),(3,⟨true,.v (.s (.box 0 0))⟩),(5,vS tI F false),(7,⟨true,.v (.s (.own .bool 1 l.length))⟩),(9,vI set),(10,vI m),(12,vB p.b),(13,vI p.i)],[.cells [.bool k1,.sl tI l1 f1,.bool k2,.sl tI l2 f2],.arr true (Ty.bool.flats all)]⟩)
   (RefS.ok l (mkA k1 l1 k2 l2) m set) (fun p=>l.length - p.i) ⟨0,false⟩ ⟨Nat.zero_le _,by simp⟩ (Turn.le (by simp -dsimp -implicitDefEqProofs)) ?_
  rintro ⟨i,b⟩ ⟨hi,hbi⟩
  simp only at hi hbi
  rcases Nat.lt_or_ge i l.length with hil | hge
  ·
   have hto:=hf.2 _ (List.getElem_mem hil)
   have htp:=times_pre (n:=(m:Int)) (by omega) (by omega) hto.1 ha
   have htf:=times_fit (n:=(m:Int)) (k1:=k1) (l1:=l1) (l2:=l2) (by omega) hto.1
   rw [Int.natAbs_natCast] at htp htf
   have hR1:=htp.1.1
   have hRi:okRat l[i].2.1.1.1 l[i].2.1.1.2.1 l[i].2.1.2.1.1 l[i].2.1.2.1.2.1:=hto.1.1
   have hRa:=ha.1
   have hw:=okRat_whole (n:=m) (by omega)
   have hdl:(dig m).length≤1:=dig_le (k:=1) (by omega) (Nat.le_refl _)
   have hb:=bit_int set i
   simp -dsimp -implicitDefEqProofs [conFParts_eq,hil,hb,lowN_one,lowD_one,vl_dig,vl_one1,hR1,hRi,hRa,hw,-Bool.exists_bool,-Bool.forall_bool,fl2_all,flT,fl2Γ,fl2E,fl2P,fl1Γ,fl1E,fl1P,fl0Γ,fl0E,fl0P,fa25Γ,fa25E,fa25P,fa24Γ,fa24E,fa24P,fa23Γ,fa23E,fa23P,fa22Γ,fa22E,fa22P,fa21Γ,fa21E,fa21P,fa20Γ,fa20E,fa20P,fa19Γ,fa19E,fa19P,fa18Γ,fa18E,fa18P,fa17Γ,fa17E,fa17P,fa16Γ,fa16E,fa16P,fa15Γ,fa15E,fa15P,fa14Γ,fa14E,fa14P,fa13Γ,fa13E,fa13P,fa12Γ,fa12E,fa12P,fa11Γ,fa11E,fa11P,fa10Γ,fa10E,fa10P,fa9Γ,fa9E,fa9P,fa8Γ,fa8E,fa8P,fa7Γ,fa7E,fa7P,fa3Γ,fa3E,fa3P,fa2Γ,fa2E,fa2P,fa1Γ,fa1E,fa1P,nr20Γ,nr20E,nr20P,nr19Γ,nr19E,nr19P,nr18Γ,nr18E,nr18P,nr17Γ,nr17E,nr17P,nr16Γ,nr16E,nr16P,nr15Γ,nr15E,nr15P,nr14Γ,nr14E,nr14P,nr13Γ,nr13E,nr13P,nr9Γ,nr9E,nr9P,nr8Γ,nr8E,nr8P,nr7Γ,nr7E,nr7P,nr6Γ,nr6E,nr6P,nr5Γ,nr5E,nr5P,nr4Γ,nr4E,nr4P,nr3Γ,nr3E,nr3P,nr0Γ,nr0E,nr0P,conSane43_pre,conSane43_val,conSameI_eq,conFewF_eq,conHas_eq,conNum_eq,conComE_eq,conFound_eq,conClosed_eq,conFoundR_eq,conClosedR_eq,conFewR_eq,conWrongF_eq,conLeast,conIdxTI_pre,conIdxTI_val,conCT_pre,conCT_val,conSorted,conFindI_eq,conColF,conSort,conSrtd_eq,conValT_pre,conValT_val,conSofT,conSrtT,conColT,conPdqT,conInsT,conOrI_eq,conCmpI_eq,conLen_eq,conLen64_eq,conChkF_eq,conNumE_eq,conRisI_eq,conRisT_eq,conLvl_eq,conKeyI_eq,conKeyT_eq,conShrtF_eq,conMost_eq,conTimesR_eq,conFits_eq,conWhole_eq,conOrdR_eq,conMkR_eq,conMulR_eq,conCmpR_eq,conRatC_eq,conRInt_eq,conOf_eq,conLow_eq,conDivX_eq,conMakeN_eq,conProd_eq,conDidB_eq,conDidI_eq,conValid_eq,panValid_when,panValid_what,conNeed_eq,panNeed_when,panNeed_what,conGcdN_eq,conMulN_eq,conCmpN2_eq,conPosi_eq,conChk_eq,conBigN_eq,conDiv_eq,conTimes_eq,conNCheck_eq,conLong_eq,conLead64_eq,conShort_eq,conMovE,conTrim_eq,conAt_eq,conNCmp_eq,conBack_eq,conOf9_eq,conDivide_eq,conLess9_eq,conTwo_eq,conRCheck_eq,conRCmpD_eq,inI64]
   have hlo:=hto.1.2
   have hla:=ha.2
   have hble:=bitN_le set i
   refine ⟨by omega,⟨by omega,by omega⟩,htp.2,fun h=>⟨h,by omega,.inl (by omega)⟩,fun h=>⟨h,fun h2=>⟨h,h2⟩⟩,⟨by omega,by omega⟩,⟨i+1,(b||decide (((bitN set i:Nat):Int)=1)&&fitF (m:Int) l[i] (mkA k1 l1 k2 l2))⟩,⟨hil,?_⟩,by show l.length - (i+1)<_; omega,?_⟩
   ·
    show (b||decide (((bitN set i:Nat):Int)=1)&&fitF (m:Int) l[i] (mkA k1 l1 k2 l2))=true↔∃ j,∃ h:j<l.length,j<i+1∧bitN set j=1∧fitF (m:Int) l[j] (mkA k1 l1 k2 l2)=true
    rw [Bool.or_eq_true,Bool.and_eq_true,decide_eq_true_eq,hbi]
    constructor
    ·
     rintro (⟨j,hj,hji,q⟩ | ⟨q1,q2⟩)
     ·
      exact ⟨j,hj,by omega,q⟩
     ·
      exact ⟨i,hil,by omega,by omega,q2⟩
    ·
     rintro ⟨j,hj,hji,q⟩
     rcases Nat.lt_succ_iff_lt_or_eq.1 hji with h' | rfl
     ·
      exact .inl ⟨j,hj,h',q⟩
     ·
      exact .inr ⟨by omega,q.2⟩
   ·
    rw [show fitF (m:Int) l[i] (mkA k1 l1 k2 l2)=_ from htf.symm]
    exact TurnT.trunc X0_ok (hp:=[_,_]) (junk:=[_]) (by simp) (by simp only [List.length_cons,List.length_nil,List.all_cons,List.all_nil,arr_below,Bool.and_true] <;> simp [Blk.below,SV.below]) (by simp -dsimp -implicitDefEqProofs []) (by simp [envBelow,RV.below,AV.below,SV.below])
  have hn2:¬ i<l.length:=by omega
  obtain rfl:i=l.length:=by omega
  have hbr:b=true↔refN l (mkA k1 l1 k2 l2) set:=by
   rw [hbi]
   unfold refN
   rw [← hm]
   exact ⟨fun ⟨j,h,_,q⟩=>⟨j,h,q⟩,fun ⟨j,h,q⟩=>⟨j,h,h,q⟩⟩
  simp -dsimp -implicitDefEqProofs [hn2,fl2_all,flT,fl2Γ,fl2E,fl2P,fl1Γ,fl1E,fl1P,fl0Γ,fl0E,fl0P,fa25Γ,fa25E,fa25P,fa24Γ,fa24E,fa24P,fa23Γ,fa23E,fa23P,fa22Γ,fa22E,fa22P,fa21Γ,fa21E,fa21P,fa20Γ,fa20E,fa20P,fa19Γ,fa19E,fa19P,fa18Γ,fa18E,fa18P,fa17Γ,fa17E,fa17P,fa16Γ,fa16E,fa16P,fa15Γ,fa15E,fa15P,fa14Γ,fa14E,fa14P,fa13Γ,fa13E,fa13P,fa12Γ,fa12E,fa12P,fa11Γ,fa11E,fa11P,fa10Γ,fa10E,fa10P,fa9Γ,fa9E,fa9P,fa8Γ,fa8E,fa8P,fa7Γ,fa7E,fa7P,fa3Γ,fa3E,fa3P,fa2Γ,fa2E,fa2P,fa1Γ,fa1E,fa1P,nr20Γ,nr20E,nr20P,nr19Γ,nr19E,nr19P,nr18Γ,nr18E,nr18P,nr17Γ,nr17E,nr17P,nr16Γ,nr16E,nr16P,nr15Γ,nr15E,nr15P,nr14Γ,nr14E,nr14P,nr13Γ,nr13E,nr13P,nr9Γ,nr9E,nr9P,nr8Γ,nr8E,nr8P,nr7Γ,nr7E,nr7P,nr6Γ,nr6E,nr6P,nr5Γ,nr5E,nr5P,nr4Γ,nr4E,nr4P,nr3Γ,nr3E,nr3P,nr0Γ,nr0E,nr0P,conSane43_pre,conSane43_val,conSameI_eq,conFewF_eq,conHas_eq,conNum_eq,conComE_eq,conFound_eq,conClosed_eq,conFoundR_eq,conClosedR_eq,conFewR_eq,conWrongF_eq,conLeast,conIdxTI_pre,conIdxTI_val,conCT_pre,conCT_val,conSorted,conFindI_eq,conColF,conSort,conSrtd_eq,conValT_pre,conValT_val,conSofT,conSrtT,conColT,conPdqT,conInsT,conOrI_eq,conCmpI_eq,conLen_eq,conLen64_eq,conChkF_eq,conNumE_eq,conRisI_eq,conRisT_eq,conLvl_eq,conKeyI_eq,conKeyT_eq,conShrtF_eq,conMost_eq,conTimesR_eq,conFits_eq,conWhole_eq,conOrdR_eq,conMkR_eq,conMulR_eq,conCmpR_eq,conRatC_eq,conRInt_eq,conOf_eq,conLow_eq,conDivX_eq,conMakeN_eq,conProd_eq,conDidB_eq,conDidI_eq,conValid_eq,panValid_when,panValid_what,conNeed_eq,panNeed_when,panNeed_what,conGcdN_eq,conMulN_eq,conCmpN2_eq,conPosi_eq,conChk_eq,conBigN_eq,conDiv_eq,conTimes_eq,conNCheck_eq,conLong_eq,conLead64_eq,conShort_eq,conMovE,conTrim_eq,conAt_eq,conNCmp_eq,conBack_eq,conOf9_eq,conDivide_eq,conLess9_eq,conTwo_eq,conRCheck_eq,conRCmpD_eq,inI64]
  refine WpD.loop (L:={ live:=[0,1,3,4,5,6,7,8,9,10,11,12,13,14,15,16,17,18,19,21,30,38,45,55,61,73,98,114,137,151],fl:=[(25,[(4,0),(4,12),(5,0),(5,12),(6,0),(6,12)])] }) fl2_good X0_ok nr_mixed (by kernel_rfl)
   (fun p:AllS=>⟨[(0,vS tTst l el),(3,⟨true,.v (.s (.box 0 0))⟩),(5,vS tI F false),(7,⟨true,.v (.s (.own .bool 1 l.length))⟩),(9,vI set),(12,vB b),(18,vI p.i)],[.cells [.bool k1,.sl tI l1 f1,.bool k2,.sl tI l2 f2],.arr true (Ty.bool.flats p.al)]⟩)
   (AllS.ok l.length set b all) (fun p=>l.length - p.i) ⟨0,all⟩ ⟨Nat.zero_le _,hal,fun j _=>by simp⟩ (Turn.le (by simp -dsimp -implicitDefEqProofs)) ?_
  rintro ⟨i,al⟩ ⟨hi,hall,hai⟩
  simp only at hi hall hai
  rcases Nat.lt_or_ge i l.length with hil | hge
  ·
   have hb:=bit_int set i
   have f1:=flb_atI (xs:=al) (j:=i) (by omega)
   have hgi:al[i]?.getD false=al[i]'(by omega):=by rw [List.getElem?_eq_getElem (by omega)]; rfl
   have hble:=bitN_le set i
   simp -dsimp -implicitDefEqProofs [conFParts_eq,hil,hb,f1,hall,fl2_all,flT,fl2Γ,fl2E,fl2P,fl1Γ,fl1E,fl1P,fl0Γ,fl0E,fl0P,fa25Γ,fa25E,fa25P,fa24Γ,fa24E,fa24P,fa23Γ,fa23E,fa23P,fa22Γ,fa22E,fa22P,fa21Γ,fa21E,fa21P,fa20Γ,fa20E,fa20P,fa19Γ,fa19E,fa19P,fa18Γ,fa18E,fa18P,fa17Γ,fa17E,fa17P,fa16Γ,fa16E,fa16P,fa15Γ,fa15E,fa15P,fa14Γ,fa14E,fa14P,fa13Γ,fa13E,fa13P,fa12Γ,fa12E,fa12P,fa11Γ,fa11E,fa11P,fa10Γ,fa10E,fa10P,fa9Γ,fa9E,fa9P,fa8Γ,fa8E,fa8P,fa7Γ,fa7E,fa7P,fa3Γ,fa3E,fa3P,fa2Γ,fa2E,fa2P,fa1Γ,fa1E,fa1P,nr20Γ,nr20E,nr20P,nr19Γ,nr19E,nr19P,nr18Γ,nr18E,nr18P,nr17Γ,nr17E,nr17P,nr16Γ,nr16E,nr16P,nr15Γ,nr15E,nr15P,nr14Γ,nr14E,nr14P,nr13Γ,nr13E,nr13P,nr9Γ,nr9E,nr9P,nr8Γ,nr8E,nr8P,nr7Γ,nr7E,nr7P,nr6Γ,nr6E,nr6P,nr5Γ,nr5E,nr5P,nr4Γ,nr4E,nr4P,nr3Γ,nr3E,nr3P,nr0Γ,nr0E,nr0P,conSane43_pre,conSane43_val,conSameI_eq,conFewF_eq,conHas_eq,conNum_eq,conComE_eq,conFound_eq,conClosed_eq,conFoundR_eq,conClosedR_eq,conFewR_eq,conWrongF_eq,conLeast,conIdxTI_pre,conIdxTI_val,conCT_pre,conCT_val,conSorted,conFindI_eq,conColF,conSort,conSrtd_eq,conValT_pre,conValT_val,conSofT,conSrtT,conColT,conPdqT,conInsT,conOrI_eq,conCmpI_eq,conLen_eq,conLen64_eq,conChkF_eq,conNumE_eq,conRisI_eq,conRisT_eq,conLvl_eq,conKeyI_eq,conKeyT_eq,conShrtF_eq,conMost_eq,conTimesR_eq,conFits_eq,conWhole_eq,conOrdR_eq,conMkR_eq,conMulR_eq,conCmpR_eq,conRatC_eq,conRInt_eq,conOf_eq,conLow_eq,conDivX_eq,conMakeN_eq,conProd_eq,conDidB_eq,conDidI_eq,conValid_eq,panValid_when,panValid_what,conNeed_eq,panNeed_when,panNeed_what,conGcdN_eq,conMulN_eq,conCmpN2_eq,conPosi_eq,conChk_eq,conBigN_eq,conDiv_eq,conTimes_eq,conNCheck_eq,conLong_eq,conLead64_eq,conShort_eq,conMovE,conTrim_eq,conAt_eq,conNCmp_eq,conBack_eq,conOf9_eq,conDivide_eq,conLess9_eq,conTwo_eq,conRCheck_eq,conRCmpD_eq,inI64]
   refine ⟨fun h=>⟨h,by omega,.inl (by omega)⟩,fun h=>⟨h,fun h2=>⟨h,by omega⟩⟩,by omega,⟨by omega,by omega⟩,⟨i+1,al.set i (al[i]'(by omega)&&(decide (bitN set i=0)||b))⟩,⟨hil,by simp [hall],?_⟩,by show l.length - (i+1)<_; omega,?_⟩
   ·
    intro j hj
    show (al.set i (al[i]'(by omega)&&(decide (bitN set i=0)||b)))[j]?.getD false=(all[j]?.getD false&&(decide (i+1≤j)||(decide (bitN set j=0)||b)))
    by_cases hji:j=i
    ·
     subst hji
     rw [List.getElem?_set_self (by omega),Option.getD_some,← hgi,hai j hj]
     have e1:decide (j≤j)=true:=by simp
     have e2:decide (j+1≤j)=false:=by simp
     rw [e1,e2,Bool.true_or,Bool.and_true,Bool.false_or]
    ·
     rw [List.getElem?_set_ne (by omega),hai j hj]
     have e1:decide (i≤j)=decide (i+1≤j):=decide_eq_decide.2 (by omega)
     rw [e1]
   ·
    rw [flb_set (by omega)]
    exact TurnT.le (by simp -dsimp -implicitDefEqProofs)
  have hn3:¬ i<l.length:=by omega
  obtain rfl:i=l.length:=by omega
  simp -dsimp -implicitDefEqProofs [hn3,fl2_all,flT,fl2Γ,fl2E,fl2P,fl1Γ,fl1E,fl1P,fl0Γ,fl0E,fl0P,fa25Γ,fa25E,fa25P,fa24Γ,fa24E,fa24P,fa23Γ,fa23E,fa23P,fa22Γ,fa22E,fa22P,fa21Γ,fa21E,fa21P,fa20Γ,fa20E,fa20P,fa19Γ,fa19E,fa19P,fa18Γ,fa18E,fa18P,fa17Γ,fa17E,fa17P,fa16Γ,fa16E,fa16P,fa15Γ,fa15E,fa15P,fa14Γ,fa14E,fa14P,fa13Γ,fa13E,fa13P,fa12Γ,fa12E,fa12P,fa11Γ,fa11E,fa11P,fa10Γ,fa10E,fa10P,fa9Γ,fa9E,fa9P,fa8Γ,fa8E,fa8P,fa7Γ,fa7E,fa7P,fa3Γ,fa3E,fa3P,fa2Γ,fa2E,fa2P,fa1Γ,fa1E,fa1P,nr20Γ,nr20E,nr20P,nr19Γ,nr19E,nr19P,nr18Γ,nr18E,nr18P,nr17Γ,nr17E,nr17P,nr16Γ,nr16E,nr16P,nr15Γ,nr15E,nr15P,nr14Γ,nr14E,nr14P,nr13Γ,nr13E,nr13P,nr9Γ,nr9E,nr9P,nr8Γ,nr8E,nr8P,nr7Γ,nr7E,nr7P,nr6Γ,nr6E,nr6P,nr5Γ,nr5E,nr5P,nr4Γ,nr4E,nr4P,nr3Γ,nr3E,nr3P,nr0Γ,nr0E,nr0P,conSane43_pre,conSane43_val,conSameI_eq,conFewF_eq,conHas_eq,conNum_eq,conComE_eq,conFound_eq,conClosed_eq,conFoundR_eq,conClosedR_eq,conFewR_eq,conWrongF_eq,conLeast,conIdxTI_pre,conIdxTI_val,conCT_pre,conCT_val,conSorted,conFindI_eq,conColF,conSort,conSrtd_eq,conValT_pre,conValT_val,conSofT,conSrtT,conColT,conPdqT,conInsT,conOrI_eq,conCmpI_eq,conLen_eq,conLen64_eq,conChkF_eq,conNumE_eq,conRisI_eq,conRisT_eq,conLvl_eq,conKeyI_eq,conKeyT_eq,conShrtF_eq,conMost_eq,conTimesR_eq,conFits_eq,conWhole_eq,conOrdR_eq,conMkR_eq,conMulR_eq,conCmpR_eq,conRatC_eq,conRInt_eq,conOf_eq,conLow_eq,conDivX_eq,conMakeN_eq,conProd_eq,conDidB_eq,conDidI_eq,conValid_eq,panValid_when,panValid_what,conNeed_eq,panNeed_when,panNeed_what,conGcdN_eq,conMulN_eq,conCmpN2_eq,conPosi_eq,conChk_eq,conBigN_eq,conDiv_eq,conTimes_eq,conNCheck_eq,conLong_eq,conLead64_eq,conShort_eq,conMovE,conTrim_eq,conAt_eq,conNCmp_eq,conBack_eq,conOf9_eq,conDivide_eq,conLess9_eq,conTwo_eq,conRCheck_eq,conRCmpD_eq,inI64]
  refine ⟨⟨by omega,by omega⟩,⟨set+1,al⟩,⟨⟨by show 1≤set+1; omega,by show set+1≤2 ^ l.length; omega⟩,hall,?_⟩,by show 2 ^ l.length - (set+1)<_; omega,TurnT.le (by simp -dsimp -implicitDefEqProofs)⟩
  intro j hj
  show al[j]?.getD false=true↔∀ s,1≤s→s<set+1→bitN s j=1→refN l (mkA k1 l1 k2 l2) s
  have hble:=bitN_le set j
  have e1:decide (l.length≤j)=false:=by simp; omega
  rw [hai j hj,e1,Bool.false_or,Bool.and_eq_true,Bool.or_eq_true,decide_eq_true_eq,hinv j hj,hbr]
  constructor
  ·
   rintro ⟨h1,h2⟩ s q1 q2 q3
   rcases Nat.lt_succ_iff_lt_or_eq.1 q2 with h' | rfl
   ·
    exact h1 s q1 h' q3
   ·
    rcases h2 with h2 | h2
    ·
     omega
    ·
     exact h2
  ·
   intro h
   refine ⟨fun s q1 q2 q3=>h s q1 (by omega) q3,?_⟩
   rcases Nat.lt_or_ge 0 (bitN set j) with h' | h'
   ·
    exact .inr (h set hs1 (by omega) (by omega))
   ·
    exact .inl (by omega)
 ·
  have hsn:¬ set<P:=by omega
  simp -dsimp -implicitDefEqProofs [hPi,hsn,fl2_all,flT,fl2Γ,fl2E,fl2P,fl1Γ,fl1E,fl1P,fl0Γ,fl0E,fl0P,fa25Γ,fa25E,fa25P,fa24Γ,fa24E,fa24P,fa23Γ,fa23E,fa23P,fa22Γ,fa22E,fa22P,fa21Γ,fa21E,fa21P,fa20Γ,fa20E,fa20P,fa19Γ,fa19E,fa19P,fa18Γ,fa18E,fa18P,fa17Γ,fa17E,fa17P,fa16Γ,fa16E,fa16P,fa15Γ,fa15E,fa15P,fa14Γ,fa14E,fa14P,fa13Γ,fa13E,fa13P,fa12Γ,fa12E,fa12P,fa11Γ,fa11E,fa11P,fa10Γ,fa10E,fa10P,fa9Γ,fa9E,fa9P,fa8Γ,fa8E,fa8P,fa7Γ,fa7E,fa7P,fa3Γ,fa3E,fa3P,fa2Γ,fa2E,fa2P,fa1Γ,fa1E,fa1P,nr20Γ,nr20E,nr20P,nr19Γ,nr19E,nr19P,nr18Γ,nr18E,nr18P,nr17Γ,nr17E,nr17P,nr16Γ,nr16E,nr16P,nr15Γ,nr15E,nr15P,nr14Γ,nr14E,nr14P,nr13Γ,nr13E,nr13P,nr9Γ,nr9E,nr9P,nr8Γ,nr8E,nr8P,nr7Γ,nr7E,nr7P,nr6Γ,nr6E,nr6P,nr5Γ,nr5E,nr5P,nr4Γ,nr4E,nr4P,nr3Γ,nr3E,nr3P,nr0Γ,nr0E,nr0P,conSane43_pre,conSane43_val,conSameI_eq,conFewF_eq,conHas_eq,conNum_eq,conComE_eq,conFound_eq,conClosed_eq,conFoundR_eq,conClosedR_eq,conFewR_eq,conWrongF_eq,conLeast,conIdxTI_pre,conIdxTI_val,conCT_pre,conCT_val,conSorted,conFindI_eq,conColF,conSort,conSrtd_eq,conValT_pre,conValT_val,conSofT,conSrtT,conColT,conPdqT,conInsT,conOrI_eq,conCmpI_eq,conLen_eq,conLen64_eq,conChkF_eq,conNumE_eq,conRisI_eq,conRisT_eq,conLvl_eq,conKeyI_eq,conKeyT_eq,conShrtF_eq,conMost_eq,conTimesR_eq,conFits_eq,conWhole_eq,conOrdR_eq,conMkR_eq,conMulR_eq,conCmpR_eq,conRatC_eq,conRInt_eq,conOf_eq,conLow_eq,conDivX_eq,conMakeN_eq,conProd_eq,conDidB_eq,conDidI_eq,conValid_eq,panValid_when,panValid_what,conNeed_eq,panNeed_when,panNeed_what,conGcdN_eq,conMulN_eq,conCmpN2_eq,conPosi_eq,conChk_eq,conBigN_eq,conDiv_eq,conTimes_eq,conNCheck_eq,conLong_eq,conLead64_eq,conShort_eq,conMovE,conTrim_eq,conAt_eq,conNCmp_eq,conBack_eq,conOf9_eq,conDivide_eq,conLess9_eq,conTwo_eq,conRCheck_eq,conRCmpD_eq,inI64]
  refine ⟨⟨⟨by omega,.inl (by omega)⟩,by omega⟩,?_⟩
  obtain rfl:set=P:=by omega
  refine WpD.loop (L:={ live:=[0,1,3,4,5,6,7,8,9,10,11,12,13,14,15,16,17,18,19,21,30,38,45,55,61,73,98,114,137,151],fl:=[(25,[(4,0),(4,12),(5,0),(5,12),(6,0),(6,12)])] }) fl2_good X0_ok nr_mixed (by kernel_rfl)
   (fun i:Nat=>⟨[(0,vS tTst l el),(5,vS tI F false),(7,⟨true,.v (.s (.own .bool 1 l.length))⟩),(19,vI i)],[.cells [.bool k1,.sl tI l1 f1,.bool k2,.sl tI l2 f2],.arr true (Ty.bool.flats all)]⟩)
   (fun i=>i≤l.length) (fun i=>l.length - i) 0 (Nat.zero_le _) (Turn.le (by simp -dsimp -implicitDefEqProofs)) ?_
  intro i hi
  rcases Nat.lt_or_ge i l.length with hil | hge
  ·
   have f1:=flb_atI (xs:=all) (j:=i) (by omega)
   have hmi:=hmem i hil
   have hpi:all[i]?.getD false=true↔l[i].1∈F:=by
    rw [hmi,← parts_closed hf hil,hinv i hil,hP]
   have hgi:all[i]?.getD false=all[i]'(by omega):=by rw [List.getElem?_eq_getElem (by omega)]; rfl
   rw [hgi] at hpi
   have hai:all[i]'(by omega)=decide (l[i].1∈F):=by
    rw [Bool.eq_iff_iff,hpi,decide_eq_true_eq]
   simp -dsimp -implicitDefEqProofs [conFParts_eq,hil,f1,hal,fl2_all,flT,fl2Γ,fl2E,fl2P,fl1Γ,fl1E,fl1P,fl0Γ,fl0E,fl0P,fa25Γ,fa25E,fa25P,fa24Γ,fa24E,fa24P,fa23Γ,fa23E,fa23P,fa22Γ,fa22E,fa22P,fa21Γ,fa21E,fa21P,fa20Γ,fa20E,fa20P,fa19Γ,fa19E,fa19P,fa18Γ,fa18E,fa18P,fa17Γ,fa17E,fa17P,fa16Γ,fa16E,fa16P,fa15Γ,fa15E,fa15P,fa14Γ,fa14E,fa14P,fa13Γ,fa13E,fa13P,fa12Γ,fa12E,fa12P,fa11Γ,fa11E,fa11P,fa10Γ,fa10E,fa10P,fa9Γ,fa9E,fa9P,fa8Γ,fa8E,fa8P,fa7Γ,fa7E,fa7P,fa3Γ,fa3E,fa3P,fa2Γ,fa2E,fa2P,fa1Γ,fa1E,fa1P,nr20Γ,nr20E,nr20P,nr19Γ,nr19E,nr19P,nr18Γ,nr18E,nr18P,nr17Γ,nr17E,nr17P,nr16Γ,nr16E,nr16P,nr15Γ,nr15E,nr15P,nr14Γ,nr14E,nr14P,nr13Γ,nr13E,nr13P,nr9Γ,nr9E,nr9P,nr8Γ,nr8E,nr8P,nr7Γ,nr7E,nr7P,nr6Γ,nr6E,nr6P,nr5Γ,nr5E,nr5P,nr4Γ,nr4E,nr4P,nr3Γ,nr3E,nr3P,nr0Γ,nr0E,nr0P,conSane43_pre,conSane43_val,conSameI_eq,conFewF_eq,conHas_eq,conNum_eq,conComE_eq,conFound_eq,conClosed_eq,conFoundR_eq,conClosedR_eq,conFewR_eq,conWrongF_eq,conLeast,conIdxTI_pre,conIdxTI_val,conCT_pre,conCT_val,conSorted,conFindI_eq,conColF,conSort,conSrtd_eq,conValT_pre,conValT_val,conSofT,conSrtT,conColT,conPdqT,conInsT,conOrI_eq,conCmpI_eq,conLen_eq,conLen64_eq,conChkF_eq,conNumE_eq,conRisI_eq,conRisT_eq,conLvl_eq,conKeyI_eq,conKeyT_eq,conShrtF_eq,conMost_eq,conTimesR_eq,conFits_eq,conWhole_eq,conOrdR_eq,conMkR_eq,conMulR_eq,conCmpR_eq,conRatC_eq,conRInt_eq,conOf_eq,conLow_eq,conDivX_eq,conMakeN_eq,conProd_eq,conDidB_eq,conDidI_eq,conValid_eq,panValid_when,panValid_what,conNeed_eq,panNeed_when,panNeed_what,conGcdN_eq,conMulN_eq,conCmpN2_eq,conPosi_eq,conChk_eq,conBigN_eq,conDiv_eq,conTimes_eq,conNCheck_eq,conLong_eq,conLead64_eq,conShort_eq,conMovE,conTrim_eq,conAt_eq,conNCmp_eq,conBack_eq,conOf9_eq,conDivide_eq,conLess9_eq,conTwo_eq,conRCheck_eq,conRCmpD_eq,inI64]
   exact ⟨hai,fun _=>⟨by omega,i+1,by omega,by omega,TurnT.le (by simp -dsimp -implicitDefEqProofs [hai])⟩⟩
  ·
   have hn3:¬ i<l.length:=by omega
   simp -dsimp -implicitDefEqProofs [conFParts_eq,hn3,fl2_all,flT,fl2Γ,fl2E,fl2P,fl1Γ,fl1E,fl1P,fl0Γ,fl0E,fl0P,fa25Γ,fa25E,fa25P,fa24Γ,fa24E,fa24P,fa23Γ,fa23E,fa23P,fa22Γ,fa22E,fa22P,fa21Γ,fa21E,fa21P,fa20Γ,fa20E,fa20P,fa19Γ,fa19E,fa19P,fa18Γ,fa18E,fa18P,fa17Γ,fa17E,fa17P,fa16Γ,fa16E,fa16P,fa15Γ,fa15E,fa15P,fa14Γ,fa14E,fa14P,fa13Γ,fa13E,fa13P,fa12Γ,fa12E,fa12P,fa11Γ,fa11E,fa11P,fa10Γ,fa10E,fa10P,fa9Γ,fa9E,fa9P,fa8Γ,fa8E,fa8P,fa7Γ,fa7E,fa7P,fa3Γ,fa3E,fa3P,fa2Γ,fa2E,fa2P,fa1Γ,fa1E,fa1P,nr20Γ,nr20E,nr20P,nr19Γ,nr19E,nr19P,nr18Γ,nr18E,nr18P,nr17Γ,nr17E,nr17P,nr16Γ,nr16E,nr16P,nr15Γ,nr15E,nr15P,nr14Γ,nr14E,nr14P,nr13Γ,nr13E,nr13P,nr9Γ,nr9E,nr9P,nr8Γ,nr8E,nr8P,nr7Γ,nr7E,nr7P,nr6Γ,nr6E,nr6P,nr5Γ,nr5E,nr5P,nr4Γ,nr4E,nr4P,nr3Γ,nr3E,nr3P,nr0Γ,nr0E,nr0P,conSane43_pre,conSane43_val,conSameI_eq,conFewF_eq,conHas_eq,conNum_eq,conComE_eq,conFound_eq,conClosed_eq,conFoundR_eq,conClosedR_eq,conFewR_eq,conWrongF_eq,conLeast,conIdxTI_pre,conIdxTI_val,conCT_pre,conCT_val,conSorted,conFindI_eq,conColF,conSort,conSrtd_eq,conValT_pre,conValT_val,conSofT,conSrtT,conColT,conPdqT,conInsT,conOrI_eq,conCmpI_eq,conLen_eq,conLen64_eq,conChkF_eq,conNumE_eq,conRisI_eq,conRisT_eq,conLvl_eq,conKeyI_eq,conKeyT_eq,conShrtF_eq,conMost_eq,conTimesR_eq,conFits_eq,conWhole_eq,conOrdR_eq,conMkR_eq,conMulR_eq,conCmpR_eq,conRatC_eq,conRInt_eq,conOf_eq,conLow_eq,conDivX_eq,conMakeN_eq,conProd_eq,conDidB_eq,conDidI_eq,conValid_eq,panValid_when,panValid_what,conNeed_eq,panNeed_when,panNeed_what,conGcdN_eq,conMulN_eq,conCmpN2_eq,conPosi_eq,conChk_eq,conBigN_eq,conDiv_eq,conTimes_eq,conNCheck_eq,conLong_eq,conLead64_eq,conShort_eq,conMovE,conTrim_eq,conAt_eq,conNCmp_eq,conBack_eq,conOf9_eq,conDivide_eq,conLess9_eq,conTwo_eq,conRCheck_eq,conRCmpD_eq,inI64]
end Go.Am
namespace Go.Am
def regionOkF (y:Bool×List FuncId) (N:Nat) (ops:List Oper) (draw:Bool):Bool :=
 ops.all (fun o=>match o.dst with | some d=>d<N | none=>true)&&(!draw||(drawOk y ops ops.length||(List.range (ops.length+1)).any fun m=>drawOk y ops m))
theorem regionOkF_eq (y:Bool×List FuncId) (N:Nat) (ops:List Oper) (draw:Bool):regionOkF y N ops draw=regionOk y N ops draw:=by
 unfold regionOkF regionOk
 congr 2
 cases h:drawOk y ops ops.length
 ·
  rw [Bool.false_or]
 ·
  rw [Bool.true_or,eq_comm,List.any_eq_true]
  exact ⟨ops.length,List.mem_range.2 (Nat.lt_succ_self _),h⟩
def codeOkF (L:Cfg) (y:Bool×List FuncId) (N:Nat):Code→Bool
 | .region id ops draw=>if draw&&L.all.contains id then dstOk N ops.toList else if (look L.fin id).isSome then !draw&&dstOk N ops.toList else match L.qy.contains id with
  | true=>(match draw,look L.fl id with
   | true,some ps=>regionFl (false,y.2) N ops.toList ps
   | _,_=>regionOkF (false,y.2) N ops.toList draw)
  | false=>match draw,look L.fl id with
   | true,some ps=>regionFl y N ops.toList ps
   | _,_=>regionOkF y N ops.toList draw
 | .seq a b=>codeOkF L y N a&&codeOkF L y N b
 | .cond _ a b=>codeOkF L y N a&&codeOkF L y N b
 | .block _ c=>codeOkF L y N c
 | .scope c=>codeOkF L y N c
 | .loop c=>codeOkF L y N c
 | .rangeFunc _ _ a b=>codeOkF L y N a&&codeOkF L y N b
 | _=>true
theorem codeOkF_eq (L:Cfg) (y:Bool×List FuncId) (N:Nat):∀ c:Code,codeOkF L y N c=codeOk' L y N c
 | .region id ops draw=>by
  simp only [codeOkF,codeOk',regionOkF_eq]
  rfl
 | .seq a b=>by rw [codeOkF,codeOk',codeOkF_eq L y N a,codeOkF_eq L y N b]
 | .cond _ a b=>by rw [codeOkF,codeOk',codeOkF_eq L y N a,codeOkF_eq L y N b]
 | .block _ c=>by rw [codeOkF,codeOk',codeOkF_eq L y N c]
 | .scope c=>by rw [codeOkF,codeOk',codeOkF_eq L y N c]
 | .loop c=>by rw [codeOkF,codeOk',codeOkF_eq L y N c]
 | .rangeFunc _ _ a b=>by rw [codeOkF,codeOk',codeOkF_eq L y N a,codeOkF_eq L y N b]
 | .skip=>rfl
 | .exit _=>rfl
 | .label _=>rfl
 | .goto _=>rfl
 | .ret=>rfl
 | .refuse _=>rfl
theorem codeOkF_ok {L:Cfg} {y:Bool×List FuncId} {N:Nat} {c:Code} (h:codeOkF L y N c=true):codeOk' L y N c=true:=by rw [← codeOkF_eq]; exact h
end Go.Am
namespace Go.Am
set_option maxHeartbeats 8000000
set_option maxRecDepth 20000
open Go.RowKit Go.Proofs
attribute [local simp] thenKD_normal thenKD_exit thenKD_goto thenKD_ret inBlockKD_normal inBlockKD_exit inBlockKD_goto inBlockKD_ret noGotoKD_normal noGotoKD_exit noGotoKD_goto noGotoKD_ret roundKD_normal roundKD_exit roundKD_goto roundKD_ret frzSlotsD_nil frzSlotsD_cons frzSlotD_eq yieldVCD_trace opVCD_eq vcOpsD_nil vcOpsD_cons vcAllD_zero vcAllD_succ allAtD_nil allAtD_cons readyAux edgA vcD_skip vcD_label vcD_exit vcD_goto vcD_ret vcD_region vcD_seq vcD_seqC vcD_cond vcCondD_bool vcD_block vcD_scope vcD_loop vcD_rangeFunc yieldOf isMem isMem0 keepE envLe St.le psE yieldAV round_td round_y round_Γ vI vB vS aI aB aS look getE oper opRV putE allOk okOps Op.operands Call.operands pEv qEv mEv constRV coe RV.av loadEv loadCs takeAt indexAddrEv fieldAddrEv binEv intEv arith unEv gcond pickEv argsEv callVal callEv capAV_mk lenArgs lenEv minEv extractEv convEv funcEv allBox bound sliceEv lookupEv TD.isBool allocEv boxEv storeEv spl plainTD appendEv appendArgs makeMapEv mapUpdateEv buildEv buildSliceEv fillSV zsvOf sizeTD Ty.parses parses_flats' coeA flats_length AV.good AV.cells AV.pure SV.pure av_int av_bool av_str av_slice av_cons av_fld0 av_fld1 av_fld2 av_fld3 av_fld4 Ty.of Ty.dflt Ty.parse Ty.flat Ty.zsv Ty.fld Ty.get Ty.off Ty.nfld Ty.size coeTy junk Blk.look argEnv resEv resOk resVs oneRV retOk frzAs frzAV frzL frzSV boxCaps boxCap SV.sig sigs RV.scalar AV.scalar SV.scalar nope effVCD_eq effOf SV.ids AV.ids dedup SV.ren AV.ren RV.ren idx outId mergeB Blk.pureB flats_pure flat_pure epsSlotsD_nil epsSlotsD_cons epsSlotD_eq allEp D.parts_fnOf fvParts retEff round_E av_fn G.ye isCutD_nil isCutD_cons firstReg_region firstReg_seq firstReg_skip firstReg_ret firstReg_label firstReg_exit firstReg_goto firstReg_cond firstReg_block firstReg_scope firstReg_loop firstReg_rf eptrOf_mk flOfD_nil flOfD_cons vcFlD_cons vcFlD_nil flPairs_nil flPairs_cons vcFrD_nil vcFrD_cons makeSliceEv vcCondD_ib fzEv unfl_flats isFz round_fz panVCD_eq panOf isShift strIdxEv ifaceEv nilChkEv sliceAnyEv sliceOwnEv sliceSufEv appendEv0 appendEv1 Ty.beq Ty.isAgg round_Pn vcDefD_seqR vcDefD_seqS vcDefD_seqC vcDefD_seqB vcDefD_seqL vcDefD_seqF vcDefD_seqSc vcDefD_region vcDefD_ret vcDefD_cond vcDefD_block vcDefD_loop thenKD_panic inBlockKD_panic noGotoKD_panic exitOk_normal exitOk_ret exitOk_panic exitOk_exit runDefs_none runDefs_some runDefs_cons defRegD defReg2D isDefer defOf caughtCon unfl_cons D.bpart_bndOf D.parts_bndOf AV.sig zapEv capArgs capEv
attribute [local simp ←] flats_append
theorem flats_put {l:List tTst.T} {k:Nat} (h:k<l.length) (k1:Bool) (l1:List Int) (k2:Bool) (l2:List Int) :
  (tTst.flats l).take (k*5+1)++SV.bool k1::SV.sl tI l1 false::SV.bool k2::SV.sl tI l2 false::(tTst.flats l).drop (k*5+1+4)=tTst.flats (l.set k (l[k].1,mkA k1 l1 k2 l2,())):=by
 have hs:tTst.size=5:=rfl
 rw [← flats_set tTst h,hs]
 have e1:(tTst.flats l).take (k*5+1)=(tTst.flats l).take (k*5)++[SV.int .i64 l[k].1]:=by
  have h2:=flats_at tTst h
  rw [hs] at h2
  rw [List.take_add]
  congr 1
  have:((tTst.flats l).drop (k*5)).take 1=(((tTst.flats l).drop (k*5)).take 5).take 1:=by rw [List.take_take]; rfl
  rw [this,h2]
  rfl
 rw [e1,List.append_assoc]
 rfl
theorem wrap8 {a:Int} (h:0≤a∧a≤255):IntKind.i64.wrap a=a:=by
 simp only [IntKind.wrap]
 have e:a % 2 ^ IntKind.i64.bits=a:=Int.emod_eq_of_lt h.1 (Int.lt_of_le_of_lt h.2 (by decide))
 rw [e,if_neg]
 rintro q
 have h2:=of_decide_eq_true (Bool.and_eq_true _ _▸q).2
 have h3:(2:Int) ^ (IntKind.i64.bits - 1)=9223372036854775808:=by decide
 omega
def conFMore:Con:=⟨fun args=>(match args with
 | [.s (.sl (.cons (.int .i64) (.cons (.cons (.cons .bool (.cons (.slice (.int .i64)) .nil)) (.cons (.cons .bool (.cons (.slice (.int .i64)) .nil)) .nil)) .nil)) l _),.agg [.bool k1,.sl (.int .i64) l1 _,.bool k2,.sl (.int .i64) l2 _],.agg [.bool k3,.sl (.int .i64) l3 _,.bool k4,.sl (.int .i64) l4 _],.agg [.bool k5,.sl (.int .i64) l5 false,.bool k6,.sl (.int .i64) l6 false],.s (.int .u8 az)]=>0≤az∧az≤255
 | _=>False),fun args=>match args with
 | [.s (.sl (.cons (.int .i64) (.cons (.cons (.cons .bool (.cons (.slice (.int .i64)) .nil)) (.cons (.cons .bool (.cons (.slice (.int .i64)) .nil)) .nil)) .nil)) l _),.agg [.bool k1,.sl (.int .i64) l1 _,.bool k2,.sl (.int .i64) l2 _],.agg [.bool k3,.sl (.int .i64) l3 _,.bool k4,.sl (.int .i64) l4 _],.agg [.bool k5,.sl (.int .i64) l5 false,.bool k6,.sl (.int .i64) l6 false],.s (.int _ az)]=>.v (aB true)
 | _=>.v (.s .any)⟩
theorem conFMore_eq (l:List (Ty.T tTst)) (exl:Bool) (k1:Bool) (l1:List (Ty.T tI)) (exl1:Bool) (k2:Bool) (l2:List (Ty.T tI)) (exl2:Bool) (k3:Bool) (l3:List (Ty.T tI)) (exl3:Bool) (k4:Bool) (l4:List (Ty.T tI)) (exl4:Bool) (k5:Bool) (l5:List Int) (k6:Bool) (l6:List Int) (az:Int):conFMore.pre [.s (.sl tTst l exl),.agg [.bool k1,.sl tI l1 exl1,.bool k2,.sl tI l2 exl2],.agg [.bool k3,.sl tI l3 exl3,.bool k4,.sl tI l4 exl4],.agg [.bool k5,.sl tI l5 false,.bool k6,.sl tI l6 false],.s (.int .u8 az)]=(0≤az∧az≤255)∧conFMore.val [.s (.sl tTst l exl),.agg [.bool k1,.sl tI l1 exl1,.bool k2,.sl tI l2 exl2],.agg [.bool k3,.sl tI l3 exl3,.bool k4,.sl tI l4 exl4],.agg [.bool k5,.sl tI l5 false,.bool k6,.sl tI l6 false],.s (.int .u8 az)]=.v (aB true):=⟨rfl,rfl⟩
theorem fmore_ok:PureOk Tryz.prog 7 conFMore:=by
 refine pureOkD (L:={ live:=[0,1,2,3,4,6,7,8,10,11,12,13,14,15,16,17,18,19,20,21,22,23,24,25,26,28,47,75,122,126,181],frz:=[(13,[18]),(16,[23])],fl:=[(15,[(3,0),(8,0),(8,5)])] }) fl2_good rfl nr_mixed Tryz.func7 rfl conFMore 5 (by decide) (codeOkF_ok (by kernel_rfl)) ?_
 intro args hpre hlens
 simp only [conFMore] at hpre
 split at hpre
 case h_2=>exact hpre.elim
 rename_i l el k1 l1 f1 k2 l2 f2 k3 l3 f3 k4 l4 f4 k5 l5 k6 l6 az
 simp only [allLen,AV.lenOk,SV.lenOk,Ty.lenOk,maxLen,and_true,implies_true,true_and,List.forall_mem_cons,List.not_mem_nil,false_implies] at hlens
 refine ⟨rfl,?_⟩
 simp -dsimp -implicitDefEqProofs [Tryz.f7,conFMore_eq,fl2_all,flT,fl2Γ,fl2E,fl2P,fl1Γ,fl1E,fl1P,fl0Γ,fl0E,fl0P,fa25Γ,fa25E,fa25P,fa24Γ,fa24E,fa24P,fa23Γ,fa23E,fa23P,fa22Γ,fa22E,fa22P,fa21Γ,fa21E,fa21P,fa20Γ,fa20E,fa20P,fa19Γ,fa19E,fa19P,fa18Γ,fa18E,fa18P,fa17Γ,fa17E,fa17P,fa16Γ,fa16E,fa16P,fa15Γ,fa15E,fa15P,fa14Γ,fa14E,fa14P,fa13Γ,fa13E,fa13P,fa12Γ,fa12E,fa12P,fa11Γ,fa11E,fa11P,fa10Γ,fa10E,fa10P,fa9Γ,fa9E,fa9P,fa8Γ,fa8E,fa8P,fa7Γ,fa7E,fa7P,fa3Γ,fa3E,fa3P,fa2Γ,fa2E,fa2P,fa1Γ,fa1E,fa1P,nr20Γ,nr20E,nr20P,nr19Γ,nr19E,nr19P,nr18Γ,nr18E,nr18P,nr17Γ,nr17E,nr17P,nr16Γ,nr16E,nr16P,nr15Γ,nr15E,nr15P,nr14Γ,nr14E,nr14P,nr13Γ,nr13E,nr13P,nr9Γ,nr9E,nr9P,nr8Γ,nr8E,nr8P,nr7Γ,nr7E,nr7P,nr6Γ,nr6E,nr6P,nr5Γ,nr5E,nr5P,nr4Γ,nr4E,nr4P,nr3Γ,nr3E,nr3P,nr0Γ,nr0E,nr0P,conSane43_pre,conSane43_val,conSameI_eq,conFewF_eq,conHas_eq,conNum_eq,conComE_eq,conFound_eq,conClosed_eq,conFoundR_eq,conClosedR_eq,conFewR_eq,conWrongF_eq,conLeast,conIdxTI_pre,conIdxTI_val,conCT_pre,conCT_val,conSorted,conFindI_eq,conColF,conSort,conSrtd_eq,conValT_pre,conValT_val,conSofT,conSrtT,conColT,conPdqT,conInsT,conOrI_eq,conCmpI_eq,conLen_eq,conLen64_eq,conChkF_eq,conNumE_eq,conRisI_eq,conRisT_eq,conLvl_eq,conKeyI_eq,conKeyT_eq,conShrtF_eq,conMost_eq,conTimesR_eq,conFits_eq,conWhole_eq,conOrdR_eq,conMkR_eq,conMulR_eq,conCmpR_eq,conRatC_eq,conRInt_eq,conOf_eq,conLow_eq,conDivX_eq,conMakeN_eq,conProd_eq,conDidB_eq,conDidI_eq,conValid_eq,panValid_when,panValid_what,conNeed_eq,panNeed_when,panNeed_what,conGcdN_eq,conMulN_eq,conCmpN2_eq,conPosi_eq,conChk_eq,conBigN_eq,conDiv_eq,conTimes_eq,conNCheck_eq,conLong_eq,conLead64_eq,conShort_eq,conMovE,conTrim_eq,conAt_eq,conNCmp_eq,conBack_eq,conOf9_eq,conDivide_eq,conLess9_eq,conTwo_eq,conRCheck_eq,conRCmpD_eq,inI64]
 intro hw1 hw2 hw3 hne
 have hlp:0<l.length:=List.length_pos_iff.2 hne
 obtain ⟨k,hk,hkl⟩:∃ k:Nat,(IntKind.i64.wrap az).tmod (l.length:Int)=k∧k<l.length:=by
  rw [wrap8 hpre]
  refine ⟨(az.tmod l.length).toNat,?_,?_⟩
  ·
   rw [Int.toNat_of_nonneg (Int.tmod_nonneg _ hpre.1)]
  ·
   have h1:=Int.tmod_nonneg (l.length:Int) hpre.1
   have h2:=Int.tmod_lt_of_pos az (b:=(l.length:Int)) (by omega)
   omega
 have e1:((k:Int)+1).toNat=k+1:=by omega
 simp only [hk,Int.toNat_natCast,e1,List.getElem?_eq_getElem hkl,Option.getD_some]
 have hw1':=few_len hw1
 have hw2':=few_len hw2
 have hw3':=few_len hw3
 refine ⟨fun hc=>few_12 (k1:=k1) (k2:=k2) hw1 hc,fun hc => ?_,fun hr1 hr2 => ?_,?_⟩
 ·
  have h2:=(chkF_0.1 hc).1
  omega
 ·
  have a1:=few_rat hw1'.2.2.1 hw1'.2.2.2 hr1
  have a2:=few_rat hw2'.2.2.1 hw2'.2.2.2 hr2
  omega
 intro hc hcb hra hrb
 have h12:l.length≤12:=few_12 (k1:=k1) (k2:=k2) hw1 hc
 obtain ⟨_,hf,hl⟩:=chkF_0.1 hc
 have ha:=lvl_ok0 hl
 obtain ⟨ls,hls⟩:∃ ls,ls=l.set k (l[k].1,mkA k5 l5 k6 l6,()):=⟨_,rfl⟩
 have hlsl:ls.length=l.length:=by rw [hls,List.length_set]
 obtain ⟨wo,hwo⟩:∃ wo,wo=l.take k++l.drop (k+1):=⟨_,rfl⟩
 have hwol:wo.length+1=l.length:=by rw [hwo]; simp; omega
 have hws:wo.Sublist l:=by
  rw [hwo]
  conv=>rhs; rw [← List.take_append_drop k l]
  exact List.Sublist.append (List.Sublist.refl _) (by rw [show k+1=k+1 from rfl,← List.drop_drop]; exact List.drop_sublist _ _)
 have hcw:chkF wo k1 l1 k2 l2=0:=chkF_0.2 ⟨by omega,fam_without hf hws,hl⟩
 have hpl:okRat k5 l5 k6 l6→okRat l[k].2.1.1.1 l[k].2.1.1.2.1 l[k].2.1.2.1.1 l[k].2.1.2.1.2.1→l5.length+List.length l[k].2.1.2.1.2.1≤2048∧List.length l[k].2.1.1.2.1+l6.length≤2048:=fun hr1 hr2=>by
  have a1:=few_rat hw3'.2.2.1 hw3'.2.2.2 hr1
  have a3:=hw1'.2.1 _ (List.getElem_mem hkl)
  unfold fewT at a3
  rw [Bool.and_eq_true] at a3
  have a2:=few_rat a3.1 a3.2 hr2
  omega
 have hmx:l.length≤maxLen:=by unfold maxLen; omega
 have b1:(0:Int)≤k∧(k:Int)≤l.length:=by omega
 have b2:(0:Int)≤(k:Int)+1∧(k:Int)+1≤l.length:=by omega
 refine ⟨hne,⟨by omega,hmx⟩,⟨hne,by omega,by omega⟩,by omega,ls,by rw [hls]; exact flats_put hkl k5 l5 k6 l6,hlsl.symm,fun hc2 => ?_,by omega,hpl,⟨b1,⟨by omega,by unfold maxLen; omega⟩,by omega,b2,⟨by omega,by unfold maxLen; omega⟩,wo,by rw [hwo],by omega,fun _=>by omega,hcw,fun _ => ?_⟩,b1,b2⟩
 ·
  omega
 rw [if_pos ⟨hra,hrb⟩]
 obtain ⟨F,hF⟩:∃ F,F=foundV l k1 l1 k2 l2:=⟨_,rfl⟩
 obtain ⟨F2,hF2⟩:∃ F,F=foundV l k3 l3 k4 l4:=⟨_,rfl⟩
 obtain ⟨F3,hF3⟩:∃ F,F=foundV ls k1 l1 k2 l2:=⟨_,rfl⟩
 obtain ⟨F4,hF4⟩:∃ F,F=foundV wo k1 l1 k2 l2:=⟨_,rfl⟩
 obtain ⟨c1,hc1⟩:∃ c,c=ratCmp k1 l1 l2 k3 l3 l4:=⟨_,rfl⟩
 obtain ⟨c2,hc2⟩:∃ c,c=(if okRat k5 l5 k6 l6∧okRat l[k].2.1.1.1 l[k].2.1.1.2.1 l[k].2.1.2.1.1 l[k].2.1.2.1.2.1 then ratCmp k5 l5 l6 l[k].2.1.1.1 l[k].2.1.1.2.1 l[k].2.1.2.1.2.1 else 0):=⟨_,rfl⟩
 obtain ⟨e4,he4⟩:∃ c,c=chkF ls k1 l1 k2 l2:=⟨_,rfl⟩
 obtain ⟨e5,he5⟩:∃ c,c=(if okRat k5 l5 k6 l6∧okRat l[k].2.1.1.1 l[k].2.1.1.2.1 l[k].2.1.2.1.1 l[k].2.1.2.1.2.1 then (0:Int) else 100):=⟨_,rfl⟩
 rw [← hF,← hF2,← hF3,← hF4,← hc1,← hc2,← he4,← he5]
 have hg1:c1≤0→∀ x∈F,x∈F2:=fun hle x hx=>by
  rw [hF] at hx
  obtain ⟨y,hy,rfl⟩:=found_of hx
  rw [hF2]
  rw [hc1] at hle
  have hle':cmpR (mkA k1 l1 k2 l2) (mkA k3 l3 k4 l4)≤0:=hle
  exact (found_mem hcb hy).2 (closed_level hf (Int.ofNat_lt.2 (okRat_pos hra)) hle' ((found_mem hc hy).1 hx))
 have hg2:e4=0→e5=0→c2≤0→∀ x∈F,x∈F3:=fun h4 h5 hle x hx=>by
  rw [he5] at h5
  split at h5
  case isFalse=>cases h5
  rename_i hr
  rw [if_pos hr] at hc2
  rw [hF] at hx
  obtain ⟨y,hy,rfl⟩:=found_of hx
  obtain ⟨_,hf',_⟩:=chkF_0.1 (he4▸h4)
  rw [hls] at hf'
  rw [hc2] at hle
  have hle':cmpR (mkA k5 l5 k6 l6) l[k].2.1≤0:=hle
  obtain ⟨y',hy',e,hcl⟩:=closed_less hkl hf hf' hle' hy ((found_mem hc hy).1 hx)
  rw [hF3,← e]
  rw [← hls] at hy' hcl
  exact (found_mem (he4▸h4) hy').2 hcl
 have hg3:∀ x∈F,¬ x=l[k].1→x∈F4:=fun x hx hne=>by
  rw [hF] at hx
  obtain ⟨y,hy,rfl⟩:=found_of hx
  have hyw:y∈wo:=by
   rw [hwo]
   obtain ⟨j,hj,rfl⟩:=List.mem_iff_getElem.1 hy
   rcases Nat.lt_trichotomy j k with h' | rfl | h'
   ·
    exact List.mem_append_left _ (List.mem_iff_getElem.2 ⟨j,by rw [List.length_take]; omega,List.getElem_take⟩)
   ·
    exact absurd rfl hne
   ·
    exact List.mem_append_right _ (List.mem_iff_getElem.2 ⟨j - (k+1),by rw [List.length_drop]; omega,by rw [List.getElem_drop]; congr 1; omega⟩)
  rw [hF4]
  exact (found_mem hcw hyw).2 (closedP_congr (fun z hz=>hws.mem hz) ((found_mem hc hy).1 hx))
 have hFn:F.length≤12:=by
  have hn1:F.Nodup:=by
   rw [hF]
   exact found_pair.imp fun {a b} h e=>by omega
  have h1:=nodup_len hn1 (T:=nosL l) fun x hx=>by
   rw [hF] at hx
   obtain ⟨y,hy,rfl⟩:=found_of hx
   exact List.mem_map_of_mem hy
  rw [nosL_len] at h1
  omega
 clear hpl hc hcb
 refine WpD.loop (L:={ live:=[0,1,2,3,4,6,7,8,10,11,12,13,14,15,16,17,18,19,20,21,22,23,24,25,26,28,47,75,122,126,181],frz:=[(13,[18]),(16,[23])],fl:=[(15,[(3,0),(8,0),(8,5)])] }) fl2_good X0_ok nr_mixed (codeOkF_ok (by kernel_rfl))
  (fun i:Nat=>⟨[(0,vS tTst l el),(11,vS tI F false),(13,vS tI F2 false),(15,vI c1),(17,vI k),(19,vS tI F3 false),(20,vI e4),(21,vI c2),(22,vI e5),(24,vS tI F4 false),(26,vI i)],[.cells [.bool k1,.sl tI l1 f1,.bool k2,.sl tI l2 f2],.cells [.bool k3,.sl tI l3 f3,.bool k4,.sl tI l4 f4],.cells [.bool k5,.sl tI l5 false,.bool k6,.sl tI l6 false],.dead,.dead]⟩)
  (fun i=>i≤F.length) (fun i=>F.length - i) 0 (Nat.zero_le _) (Turn.le (by simp -dsimp -implicitDefEqProofs)) ?_
 intro i hi
 rcases Nat.lt_or_ge i F.length with hil | hge
 ·
  have k1':=fun h=>hg1 h _ (List.getElem_mem hil)
  have k2':=fun h h' h''=>hg2 h h' h'' _ (List.getElem_mem hil)
  have k3':=hg3 _ (List.getElem_mem hil)
  simp -dsimp -implicitDefEqProofs [conFMore_eq,hil,List.getElem?_eq_getElem hkl,fl2_all,flT,fl2Γ,fl2E,fl2P,fl1Γ,fl1E,fl1P,fl0Γ,fl0E,fl0P,fa25Γ,fa25E,fa25P,fa24Γ,fa24E,fa24P,fa23Γ,fa23E,fa23P,fa22Γ,fa22E,fa22P,fa21Γ,fa21E,fa21P,fa20Γ,fa20E,fa20P,fa19Γ,fa19E,fa19P,fa18Γ,fa18E,fa18P,fa17Γ,fa17E,fa17P,fa16Γ,fa16E,fa16P,fa15Γ,fa15E,fa15P,fa14Γ,fa14E,fa14P,fa13Γ,fa13E,fa13P,fa12Γ,fa12E,fa12P,fa11Γ,fa11E,fa11P,fa10Γ,fa10E,fa10P,fa9Γ,fa9E,fa9P,fa8Γ,fa8E,fa8P,fa7Γ,fa7E,fa7P,fa3Γ,fa3E,fa3P,fa2Γ,fa2E,fa2P,fa1Γ,fa1E,fa1P,nr20Γ,nr20E,nr20P,nr19Γ,nr19E,nr19P,nr18Γ,nr18E,nr18P,nr17Γ,nr17E,nr17P,nr16Γ,nr16E,nr16P,nr15Γ,nr15E,nr15P,nr14Γ,nr14E,nr14P,nr13Γ,nr13E,nr13P,nr9Γ,nr9E,nr9P,nr8Γ,nr8E,nr8P,nr7Γ,nr7E,nr7P,nr6Γ,nr6E,nr6P,nr5Γ,nr5E,nr5P,nr4Γ,nr4E,nr4P,nr3Γ,nr3E,nr3P,nr0Γ,nr0E,nr0P,conSane43_pre,conSane43_val,conSameI_eq,conFewF_eq,conHas_eq,conNum_eq,conComE_eq,conFound_eq,conClosed_eq,conFoundR_eq,conClosedR_eq,conFewR_eq,conWrongF_eq,conLeast,conIdxTI_pre,conIdxTI_val,conCT_pre,conCT_val,conSorted,conFindI_eq,conColF,conSort,conSrtd_eq,conValT_pre,conValT_val,conSofT,conSrtT,conColT,conPdqT,conInsT,conOrI_eq,conCmpI_eq,conLen_eq,conLen64_eq,conChkF_eq,conNumE_eq,conRisI_eq,conRisT_eq,conLvl_eq,conKeyI_eq,conKeyT_eq,conShrtF_eq,conMost_eq,conTimesR_eq,conFits_eq,conWhole_eq,conOrdR_eq,conMkR_eq,conMulR_eq,conCmpR_eq,conRatC_eq,conRInt_eq,conOf_eq,conLow_eq,conDivX_eq,conMakeN_eq,conProd_eq,conDidB_eq,conDidI_eq,conValid_eq,panValid_when,panValid_what,conNeed_eq,panNeed_when,panNeed_what,conGcdN_eq,conMulN_eq,conCmpN2_eq,conPosi_eq,conChk_eq,conBigN_eq,conDiv_eq,conTimes_eq,conNCheck_eq,conLong_eq,conLead64_eq,conShort_eq,conMovE,conTrim_eq,conAt_eq,conNCmp_eq,conBack_eq,conOf9_eq,conDivide_eq,conLess9_eq,conTwo_eq,conRCheck_eq,conRCmpD_eq,inI64]
  have p1:0<c1∨F[i]∈F2:=by
   rcases Int.lt_or_le 0 c1 with h | h
   ·
    exact .inl h
   ·
    exact .inr (k1' h)
  have p2:((¬e4=0∨¬e5=0)∨0<c2)∨F[i]∈F3:=by
   by_cases h4:e4=0
   ·
    by_cases h5:e5=0
    ·
     rcases Int.lt_or_le 0 c2 with h | h
     ·
      exact .inl (.inr h)
     ·
      exact .inr (k2' h4 h5 h)
    ·
     exact .inl (.inl (.inr h5))
   ·
    exact .inl (.inl (.inl h4))
  exact ⟨fun h=>⟨h,fun a=>⟨h,a⟩⟩,fun h=>⟨h,fun a b=>⟨h,a,b⟩⟩,fun h=>⟨h,fun a b c=>⟨h,⟨a,b⟩,c⟩⟩,fun _=>p1,fun h h'=>⟨⟨h,h'⟩,hkl⟩,fun h h'=>⟨⟨h,h'⟩,fun a=>⟨⟨h,h'⟩,a⟩⟩,fun _ _=>⟨p1,p2⟩,⟨⟨k1',k2'⟩,k3'⟩,fun _ _ _=>⟨⟨by omega,by omega⟩,i+1,by omega,by omega,TurnT.le (by simp -dsimp -implicitDefEqProofs)⟩⟩
 ·
  have hn:¬ i<F.length:=by omega
  simp -dsimp -implicitDefEqProofs [conFMore_eq,hn,fl2_all,flT,fl2Γ,fl2E,fl2P,fl1Γ,fl1E,fl1P,fl0Γ,fl0E,fl0P,fa25Γ,fa25E,fa25P,fa24Γ,fa24E,fa24P,fa23Γ,fa23E,fa23P,fa22Γ,fa22E,fa22P,fa21Γ,fa21E,fa21P,fa20Γ,fa20E,fa20P,fa19Γ,fa19E,fa19P,fa18Γ,fa18E,fa18P,fa17Γ,fa17E,fa17P,fa16Γ,fa16E,fa16P,fa15Γ,fa15E,fa15P,fa14Γ,fa14E,fa14P,fa13Γ,fa13E,fa13P,fa12Γ,fa12E,fa12P,fa11Γ,fa11E,fa11P,fa10Γ,fa10E,fa10P,fa9Γ,fa9E,fa9P,fa8Γ,fa8E,fa8P,fa7Γ,fa7E,fa7P,fa3Γ,fa3E,fa3P,fa2Γ,fa2E,fa2P,fa1Γ,fa1E,fa1P,nr20Γ,nr20E,nr20P,nr19Γ,nr19E,nr19P,nr18Γ,nr18E,nr18P,nr17Γ,nr17E,nr17P,nr16Γ,nr16E,nr16P,nr15Γ,nr15E,nr15P,nr14Γ,nr14E,nr14P,nr13Γ,nr13E,nr13P,nr9Γ,nr9E,nr9P,nr8Γ,nr8E,nr8P,nr7Γ,nr7E,nr7P,nr6Γ,nr6E,nr6P,nr5Γ,nr5E,nr5P,nr4Γ,nr4E,nr4P,nr3Γ,nr3E,nr3P,nr0Γ,nr0E,nr0P,conSane43_pre,conSane43_val,conSameI_eq,conFewF_eq,conHas_eq,conNum_eq,conComE_eq,conFound_eq,conClosed_eq,conFoundR_eq,conClosedR_eq,conFewR_eq,conWrongF_eq,conLeast,conIdxTI_pre,conIdxTI_val,conCT_pre,conCT_val,conSorted,conFindI_eq,conColF,conSort,conSrtd_eq,conValT_pre,conValT_val,conSofT,conSrtT,conColT,conPdqT,conInsT,conOrI_eq,conCmpI_eq,conLen_eq,conLen64_eq,conChkF_eq,conNumE_eq,conRisI_eq,conRisT_eq,conLvl_eq,conKeyI_eq,conKeyT_eq,conShrtF_eq,conMost_eq,conTimesR_eq,conFits_eq,conWhole_eq,conOrdR_eq,conMkR_eq,conMulR_eq,conCmpR_eq,conRatC_eq,conRInt_eq,conOf_eq,conLow_eq,conDivX_eq,conMakeN_eq,conProd_eq,conDidB_eq,conDidI_eq,conValid_eq,panValid_when,panValid_what,conNeed_eq,panNeed_when,panNeed_what,conGcdN_eq,conMulN_eq,conCmpN2_eq,conPosi_eq,conChk_eq,conBigN_eq,conDiv_eq,conTimes_eq,conNCheck_eq,conLong_eq,conLead64_eq,conShort_eq,conMovE,conTrim_eq,conAt_eq,conNCmp_eq,conBack_eq,conOf9_eq,conDivide_eq,conLess9_eq,conTwo_eq,conRCheck_eq,conRCmpD_eq,inI64]
end Go.Am
namespace Go.Am
open Go.RowKit Go.Proofs
def conFSpecW:Con:=⟨fun args=>∃ (l:List tTst.T) (x:tRat.T) (no:Int),args=[.s (.sl tTst l false),.agg (tRat.flat x),.s (.int .i64 no)],fun _=>.v (aB true)⟩
theorem fspec_okW:PureOk Tryz.prog 3 conFSpecW:=by
 refine PureOk.of fun args hpre => ?_
 obtain ⟨l,⟨⟨n1,m1,⟨⟩⟩,⟨n2,m2,⟨⟩⟩,⟨⟩⟩,no,rfl⟩:=hpre
 exact ⟨conFSpec,fspec_ok,trivial,rfl⟩
def conFSameW:Con:=⟨fun args=>∃ (l:List tTst.T) (x:tRat.T),args=[.s (.sl tTst l false),.agg (tRat.flat x)],fun _=>.v (aB true)⟩
theorem fsame_okW:PureOk Tryz.prog 5 conFSameW:=by
 refine PureOk.of fun args hpre => ?_
 obtain ⟨l,⟨⟨n1,m1,⟨⟩⟩,⟨n2,m2,⟨⟩⟩,⟨⟩⟩,rfl⟩:=hpre
 exact ⟨conFSame,fsame_ok,trivial,rfl⟩
theorem falone_okW:PureOk Tryz.prog 8 conFSameW:=by
 refine PureOk.of fun args hpre => ?_
 obtain ⟨l,⟨⟨n1,m1,⟨⟩⟩,⟨n2,m2,⟨⟩⟩,⟨⟩⟩,rfl⟩:=hpre
 exact ⟨conFAlone,falone_ok,trivial,rfl⟩
theorem fparts_okW:PureOk Tryz.prog 6 conFSameW:=by
 refine PureOk.of fun args hpre => ?_
 obtain ⟨l,⟨⟨n1,m1,⟨⟩⟩,⟨n2,m2,⟨⟩⟩,⟨⟩⟩,rfl⟩:=hpre
 exact ⟨conFParts,fparts_ok,trivial,rfl⟩
def conFMoreW:Con:=⟨fun args=>∃ (l:List tTst.T) (x y z:tRat.T) (az:Int),(0≤az∧az≤255)∧args=[.s (.sl tTst l false),.agg (tRat.flat x),.agg (tRat.flat y),.agg (tRat.flat z),.s (.int .u8 az)],fun _=>.v (aB true)⟩
theorem fmore_okW:PureOk Tryz.prog 7 conFMoreW:=by
 refine PureOk.of fun args hpre => ?_
 obtain ⟨l,⟨⟨n1,m1,⟨⟩⟩,⟨n2,m2,⟨⟩⟩,⟨⟩⟩,⟨⟨n3,m3,⟨⟩⟩,⟨n4,m4,⟨⟩⟩,⟨⟩⟩,⟨⟨n5,m5,⟨⟩⟩,⟨n6,m6,⟨⟩⟩,⟨⟩⟩,az,h,rfl⟩:=hpre
 exact ⟨conFMore,fmore_ok,h,rfl⟩
end Go.Am
namespace Go.Am
open Go.RowKit
mutual
def TyOf (P:Program):Ty→TypeId→Prop
 | .int k,T=>P.underlying T=some (.int k)
 | .bool,T=>P.underlying T=some .bool
 | .str,T=>P.underlying T=some .string
 | .slice t,T=>∃ e,P.underlying T=some (.slice e)∧0<t.size∧P.cellsOf e=t.size∧TyOf P t e
 | .nil,_=>False
 | .fn,_=>False
 | .cons t r,T=>∃ (fs:Array Field) (f:Field) (l:List Field),P.underlying T=some (.struct fs)∧fs.toList=f::l∧f.offset=0∧P.cellsOf f.type=t.size∧TyOf P t f.type∧FieldsOf P r l t.size∧P.cellsOf T=t.size+r.size
def FieldsOf (P:Program):Ty→List Field→Nat→Prop
 | .nil,l,_=>l=[]
 | .cons t r,l,off=>∃ (f:Field) (l':List Field),l=f::l'∧f.offset=off∧P.cellsOf f.type=t.size∧TyOf P t f.type∧FieldsOf P r l' (off+t.size)
 | _,_,_=>False
end
mutual
def tyOfB (P:Program):Ty→TypeId→Bool
 | .int k,T=>match P.underlying T with | some (.int k')=>decide (k'=k) | _=>false
 | .bool,T=>match P.underlying T with | some .bool=>true | _=>false
 | .str,T=>match P.underlying T with | some .string=>true | _=>false
 | .slice t,T=>match P.underlying T with | some (.slice e)=>decide (0<t.size)&&decide (P.cellsOf e=t.size)&&tyOfB P t e | _=>false
 | .nil,_=>false
 | .fn,_=>false
 | .cons t r,T=>match P.underlying T with
  | some (.struct fs)=>match fs.toList with
   | f::l=>decide (f.offset=0)&&decide (P.cellsOf f.type=t.size)&&tyOfB P t f.type&&fieldsOfB P r l t.size&&decide (P.cellsOf T=t.size+r.size)
   | []=>false
  | _=>false
def fieldsOfB (P:Program):Ty→List Field→Nat→Bool
 | .nil,l,_=>match l with | []=>true | _::_=>false
 | .cons t r,l,off=>match l with
  | f::l'=>decide (f.offset=off)&&decide (P.cellsOf f.type=t.size)&&tyOfB P t f.type&&fieldsOfB P r l' (off+t.size)
  | []=>false
 | .int _,_,_=>false
 | .bool,_,_=>false
 | .str,_,_=>false
 | .slice _,_,_=>false
 | .fn,_,_=>false
end
mutual
theorem tyOf_of_B {P:Program}:∀ (ty:Ty) (T:TypeId),tyOfB P ty T=true→TyOf P ty T
 | .int k,T,h=>by
  simp only [tyOfB] at h
  split at h
  ·
   rename_i k' hk
   simp only [TyOf,hk]
   rw [of_decide_eq_true h]
  ·
   cases h
 | .bool,T,h=>by
  simp only [tyOfB] at h
  split at h
  ·
   rename_i hk; simpa only [TyOf] using hk
  ·
   cases h
 | .str,T,h=>by
  simp only [tyOfB] at h
  split at h
  ·
   rename_i hk; simpa only [TyOf] using hk
  ·
   cases h
 | .slice t,T,h=>by
  simp only [tyOfB] at h
  split at h
  ·
   rename_i e hk
   simp only [Bool.and_eq_true,decide_eq_true_eq] at h
   simp only [TyOf]
   exact ⟨e,hk,h.1.1,h.1.2,tyOf_of_B t e h.2⟩
  ·
   cases h
 | .nil,T,h=>by simp [tyOfB] at h
 | .fn,T,h=>by simp [tyOfB] at h
 | .cons t r,T,h=>by
  simp only [tyOfB] at h
  split at h
  ·
   rename_i fs hk
   split at h
   ·
    rename_i f l hl
    simp only [Bool.and_eq_true,decide_eq_true_eq] at h
    simp only [TyOf]
    exact ⟨fs,f,l,hk,hl,h.1.1.1.1,h.1.1.1.2,tyOf_of_B t _ h.1.1.2,fieldsOf_of_B r l _ h.1.2,h.2⟩
   ·
    cases h
  ·
   cases h
theorem fieldsOf_of_B {P:Program}:∀ (ty:Ty) (l:List Field) (off:Nat),fieldsOfB P ty l off=true→FieldsOf P ty l off
 | .nil,l,off,h=>by
  cases l with
  | nil=>simp only [FieldsOf]
  | cons f l=>simp [fieldsOfB] at h
 | .cons t r,l,off,h=>by
  cases l with
  | nil=>simp [fieldsOfB] at h
  | cons f l =>
   simp only [fieldsOfB,Bool.and_eq_true,decide_eq_true_eq] at h
   simp only [FieldsOf]
   exact ⟨f,l,rfl,h.1.1.1,h.1.1.2,tyOf_of_B t _ h.1.2,fieldsOf_of_B r l _ h.2⟩
 | .int _,l,off,h=>by simp [fieldsOfB] at h
 | .bool,l,off,h=>by simp [fieldsOfB] at h
 | .str,l,off,h=>by simp [fieldsOfB] at h
 | .slice _,l,off,h=>by simp [fieldsOfB] at h
 | .fn,l,off,h=>by simp [fieldsOfB] at h
end
section
variable {H:Type} {enc:TypeId×Value→H} {P:Program} {w:World} {base:Nat} {spare:Nat→Bool} {held:Bool}
theorem choose_list {α:Type} (n:Nat) (p:Nat→α→Prop) (h:∀ i,i<n→∃ x,p i x):∃ xs:List α,xs.length=n∧∀ i x,xs[i]?=some x→p i x:=by
 induction n with
 | zero=>exact ⟨[],rfl,fun i x h=>by simp at h⟩
 | succ n ih =>
  obtain ⟨xs,h1,h2⟩:=ih fun i hi=>h i (by omega)
  obtain ⟨x,hx⟩:=h n (by omega)
  refine ⟨xs++[x],by simp [h1],fun i y hy => ?_⟩
  rw [List.getElem?_append] at hy
  split at hy
  ·
   exact h2 i y hy
  ·
   obtain ⟨h3,h4⟩:=List.getElem?_eq_some_iff.1 hy
   rw [List.length_singleton] at h3
   have h5:i=n:=by omega
   subst h5
   rw [List.getElem_singleton] at h4
   rw [← h4]; exact hx
def Ty.inR:(t:Ty)→t.T→Prop
 | .int k,n=>k.min≤n∧n≤k.max
 | .slice t,xs=>∀ x∈xs,t.inR x
 | .cons t r,x=>t.inR x.1∧r.inR x.2
 | .bool,_=>True
 | .str,s=>s.size≤maxLen
 | .nil,_=>True
 | .fn,_=>True
mutual
theorem trod_rep:∀ (ty:Ty) (T:TypeId) (fuel:Nat) (cs:List Value) (x:DataW H×List MemPlace),TyOf P ty T→DataW.trod enc P w base spare held fuel T cs=some x→∃ v:ty.T,rep w (fun _=>False) ty v cs∧ty.inR v
 | .int k,T,fuel,cs,x,ht,h=>by
  obtain ⟨n,rfl,_,hw⟩:=DataW.trod_int (by simpa only [TyOf] using ht) h
  exact ⟨n,by simp only [rep],by simpa [Lit.wf,Ty.inR] using hw⟩
 | .bool,T,fuel,cs,x,ht,h=>by
  obtain ⟨n,rfl,_⟩:=DataW.trod_bool (by simpa only [TyOf] using ht) h
  exact ⟨n,by simp only [rep],trivial⟩
 | .str,T,fuel,cs,x,ht,h=>by
  obtain ⟨n,rfl,_,hs⟩:=DataW.trod_string (by simpa only [TyOf] using ht) h
  exact ⟨n,by simp only [rep],hs⟩
 | .slice t,T,fuel,cs,x,ht,h=>by
  simp only [TyOf] at ht
  obtain ⟨e,h1,h2,h3,h4⟩:=ht
  rcases DataW.trod_slice h1 h with ⟨rfl,_⟩ | ⟨a,len,cap,elems,rest,n,_,rfl,_,hb,hl,hm,hlen,hel,_,_⟩
  ·
   exact ⟨[],by simp only [rep]; exact ⟨none,0,rfl,Nat.le_refl _,Nat.zero_le _,.inl rfl⟩,fun x hx=>by cases hx⟩
  ·
   have each:∀ i,i<len→∃ v:t.T,∃ cs',cs'.length=t.size∧rep w (fun _=>False) t v cs'∧t.inR v∧∀ j u,cs'[j]?=some u→w.cell? ((a.add (i*t.size)).add j)=some u:=by
    intro i hi
    have hi':=hel i hi
    rw [List.getElem?_eq_getElem (by omega),h3] at hi'
    simp only [Option.bind_eq_some_iff] at hi'
    obtain ⟨cs',q1,q2⟩:=hi'
    obtain ⟨v,hv,hvr⟩:=trod_rep t e n cs' _ h4 q2
    obtain ⟨_,q3,q4⟩:=World.cells?_some q1
    refine ⟨v,cs',q3,hv,hvr,fun j u hj => ?_⟩
    have hjl:=(List.getElem?_eq_some_iff.1 hj).1
    rw [q4 j (by omega)]; exact hj
   obtain ⟨xs,hxl,hxs⟩:=choose_list len _ each
   refine ⟨xs,?_,fun x hx=>by
    obtain ⟨i,hi⟩:=List.getElem?_of_mem hx
    obtain ⟨_,_,_,hr,_⟩:=hxs i x hi
    exact hr⟩
   simp only [rep]
   refine ⟨some a,cap,by rw [hxl],by omega,hm,?_⟩
   rcases Nat.eq_zero_or_pos len with h0 | h0
   ·
    left; exact List.length_eq_zero_iff.1 (by omega)
   ·
    right
    have ⟨cs0,c1,c2,_,c3⟩:=hxs 0 xs[0] (List.getElem?_eq_getElem (by omega))
    have hu:cs0[0]?=some cs0[0]:=List.getElem?_eq_getElem (by omega)
    have hc:=c3 0 _ hu
    have ha0:(a.add (0*t.size)).add 0=a:=by simp [Addr.add]
    rw [ha0] at hc
    have hsp:a.spot=none:=by
     unfold World.cell? at hc
     split at hc
     ·
      split at hc
      ·
       cases hc
      ·
       rename_i hs; simpa using hs
     ·
      cases hc
    have hblk:a.block<w.heap.size:=by
     unfold World.cell? at hc
     split at hc
     ·
      rename_i hh; exact (Array.getElem?_eq_some_iff.1 hh).1
     ·
      cases hc
    obtain ⟨blk,off,sp⟩:=a
    simp only at hsp hblk
    subst hsp
    refine ⟨blk,off,rfl,fun h=>h,hblk,fun i x hx => ?_⟩
    obtain ⟨cs',c1,c2,_,c3⟩:=hxs i x hx
    refine ⟨cs',c1,c2,fun j u hj => ?_⟩
    have:=c3 j u hj
    rw [addr_add,addr_add] at this
    exact this
 | .nil,T,fuel,cs,x,ht,h=>by simp only [TyOf] at ht
 | .fn,T,fuel,cs,x,ht,h=>by simp only [TyOf] at ht
 | .cons t r,T,fuel,cs,x,ht,h=>by
  simp only [TyOf] at ht
  obtain ⟨fs,f,l,h1,h2,h3,h4,h5,h6,h7⟩:=ht
  obtain ⟨xs,n,_,_,hcl,hxl,hx⟩:=DataW.trod_struct h1 h
  have hget:∀ (i:Nat) (g:Field),(f::l)[i]?=some g→∃ y,DataW.trod enc P w base spare held n g.type ((cs.drop g.offset).take (P.cellsOf g.type))=some y:=by
   intro i g hg
   rw [← h2,Array.getElem?_toList] at hg
   have hi:=(Array.getElem?_eq_some_iff.1 hg).1
   have:=hx i g hg
   rw [List.getElem?_eq_getElem (by omega)] at this
   exact ⟨_,this⟩
  obtain ⟨y,hy⟩:=hget 0 f rfl
  rw [h3,h4] at hy
  obtain ⟨v,hv,hvr⟩:=trod_rep t f.type n _ _ h5 hy
  obtain ⟨u,hu,hur⟩:=trod_fields r l t.size n cs h6 (fun i g hg=>hget (i+1) g (by simpa using hg))
  refine ⟨(v,u),?_,hvr,hur⟩
  simp only [rep]
  refine ⟨cs.take t.size,cs.drop t.size,(List.take_append_drop _ _).symm,by simpa using hv,?_⟩
  rw [List.take_of_length_le (by rw [List.length_drop,hcl,h7]; omega)] at hu
  exact hu
theorem trod_fields:∀ (ty:Ty) (l:List Field) (off n:Nat) (cs:List Value),FieldsOf P ty l off→(∀ (i:Nat) (g:Field),l[i]?=some g→∃ y,DataW.trod enc P w base spare held n g.type ((cs.drop g.offset).take (P.cellsOf g.type))=some y) →
  ∃ v:ty.T,rep w (fun _=>False) ty v ((cs.drop off).take ty.size)∧ty.inR v
 | .nil,l,off,n,cs,h,_=>⟨(),by simp only [rep]; simp,trivial⟩
 | .cons t r,l,off,n,cs,h,hget=>by
  simp only [FieldsOf] at h
  obtain ⟨f,l',rfl,h1,h2,h3,h4⟩:=h
  obtain ⟨y,hy⟩:=hget 0 f rfl
  rw [h1,h2] at hy
  obtain ⟨v,hv,hvr⟩:=trod_rep t f.type n _ _ h3 hy
  obtain ⟨u,hu,hur⟩:=trod_fields r l' (off+t.size) n cs h4 (fun i g hg=>hget (i+1) g (by simpa using hg))
  refine ⟨(v,u),?_,hvr,hur⟩
  simp only [rep]
  refine ⟨_,_,?_,hv,hu⟩
  rw [List.take_add,List.drop_drop]
 | .int _,l,off,n,cs,h,_=>by simp only [FieldsOf] at h
 | .bool,l,off,n,cs,h,_=>by simp only [FieldsOf] at h
 | .str,l,off,n,cs,h,_=>by simp only [FieldsOf] at h
 | .slice _,l,off,n,cs,h,_=>by simp only [FieldsOf] at h
 | .fn,l,off,n,cs,h,_=>by simp only [FieldsOf] at h
end
end
end Go.Am
namespace Go.Am
open Go.RowKit Go.ChangeShapes Go.WideShapes
def argOf:Sigma Ty.T→AV
 | ⟨.int k,n⟩=>.s (.int k n)
 | ⟨.bool,b⟩=>.s (.bool b)
 | ⟨.str,s⟩=>.s (.str s)
 | ⟨.slice t,xs⟩=>.s (.sl t xs false)
 | ⟨.nil,_⟩=>.agg []
 | ⟨.cons t r,x⟩=>.agg ((Ty.cons t r).flat x)
 | ⟨.fn,x⟩=>.s (.fv x)
def argIn (x:Sigma Ty.T):Prop:=x.1.inR x.2
theorem okWide_intIn {P:Program} {w:World} {r:Reach} {base:Nat} {t:TypeId} {v:Value} {k:IntKind} (ht:P.underlying t=some (.int k)) (h:Value.okWide P w r base t v):∃ n,v=.int k n∧k.has n:=by
 simp only [Value.okWide,ht,Cell.okWide] at h
 cases v <;> simp_all [Cell.ok]
section
variable {H:Type} {enc:TypeId×Value→H} {P:Program} {W:World} {base:Nat} {spare:Nat→Bool} {held:Bool}
theorem trod_arg {ty:Ty} {T:TypeId} {r:Reach} {b0:Nat} {v:Value} {d:DataW H} {ps:List MemPlace} (ht:TyOf P ty T) (hok:Value.okWide P W r b0 T v) (h:DataW.Trod enc P W base spare held T v d ps) :
  ∃ x:ty.T,relAV W (fun _=>False) [] [] (argOf ⟨ty,x⟩) v∧argIn ⟨ty,x⟩:=by
 obtain ⟨fuel,hf⟩:=h
 obtain ⟨x,hx,hxr⟩:=trod_rep ty T fuel _ _ ht hf
 refine ⟨x,?_⟩
 cases ty with
 | int k =>
  simp only [TyOf] at ht
  obtain ⟨n,rfl,hin⟩:=okWide_intIn ht hok
  simp [rep,Value.cells] at hx
  subst hx
  exact ⟨rfl,hxr⟩
 | bool =>
  simp only [TyOf] at ht
  obtain ⟨n,rfl⟩:=okWide_bool ht hok
  simp [rep,Value.cells] at hx
  exact ⟨by simp [argOf,relAV,relSV,hx],hxr⟩
 | str =>
  simp only [TyOf] at ht
  obtain ⟨n,rfl⟩:=okWide_string ht hok
  simp [rep,Value.cells] at hx
  exact ⟨by simp [argOf,relAV,relSV,hx],hxr⟩
 | slice t =>
  simp only [TyOf] at ht
  obtain ⟨e,h1,_⟩:=ht
  obtain ⟨a,len,cap,rfl⟩:=okWide_slice h1 hok
  simp only [rep,Value.cells] at hx
  obtain ⟨a',c,hc,h2,h3,h4⟩:=hx
  have hc':Value.slice a len cap=Value.slice a' x.length c:=by simpa using hc
  simp only [argOf,relAV,relSV]
  exact ⟨⟨a',c,hc',h2,h3,(fun h=>by cases h),h4⟩,hxr⟩
 | nil=>simp only [TyOf] at ht
 | fn=>simp only [TyOf] at ht
 | cons t r' =>
  have ht':=ht
  simp only [TyOf] at ht
  obtain ⟨fs,f,l,h1,_⟩:=ht
  obtain ⟨cs,rfl,_⟩:=okWide_struct h1 hok
  have hx':=rep_flat (bs:=[]) (hp:=[]) _ _ _ hx
  simp only [argOf,relAV]
  refine ⟨⟨cs.toList,by simp,?_⟩,hxr⟩
  simpa [Value.cells] using hx'
theorem trodAll_args:∀ {tys:List Ty} {Ts:List TypeId} {r:Reach} {b0:Nat} {vs:List Value} {ds:List (DataW H)} {ps:List MemPlace},All2 (TyOf P) tys Ts →
  (∀ (j:Nat) t v,Ts[j]?=some t→vs[j]?=some v→Value.okWide P W r b0 t v)→DataW.TrodAll enc P W base spare held Ts vs ds ps →
  ∃ xs:List (Sigma Ty.T),xs.map (·.1)=tys∧All2 (relAV W (fun _=>False) [] []) (xs.map argOf) vs∧∀ x∈xs,argIn x:=by
 intro tys Ts r b0 vs ds ps ht
 induction ht generalizing vs ds ps with
 | nil =>
  intro _ h
  obtain ⟨rfl,_,_⟩:=trodAll_nil h
  exact ⟨[],rfl,.nil,by simp⟩
 | cons h1 _ ih =>
  intro hok h
  obtain ⟨v,vs',d,ds',p,q,rfl,rfl,rfl,h2,h3⟩:=trodAll_cons h
  obtain ⟨x,hx,hi⟩:=trod_arg h1 (hok 0 _ _ rfl rfl) h2
  obtain ⟨xs,e,hxs,his⟩:=ih (fun j t u h h'=>hok (j+1) t u (by simpa using h) (by simpa using h')) h3
  exact ⟨⟨_,x⟩::xs,by simp [e],.cons hx hxs,by simp only [List.forall_mem_cons]; exact ⟨hi,his⟩⟩
theorem trodAll_stays (hl:laidOutB P=true):∀ {Ts:List TypeId} {W':World} {sp:Nat→Bool} {vs:List Value} {ds:List (DataW H)} {ps:List MemPlace},(∀ T∈Ts,P.readableRec T=true∧T<P.types.size) →
  DataW.TrodAll enc P W 0 (fun _=>true) true Ts vs ds ps→(∀ p∈ps,W.sameAt W' p)→(∀ p∈ps,sp p.block=true)→DataW.TrodAll enc P W' 0 sp true Ts vs ds ps
 | [],W',sp,vs,ds,ps,_,h,_,_=>by
  obtain ⟨rfl,rfl,rfl⟩:=trodAll_nil h
  exact trodAll_mk0
 | T::Ts,W',sp,vs,ds,ps,hr,h,h1,h2=>by
  obtain ⟨v,vs',d,ds',p,q,rfl,rfl,rfl,h3,h4⟩:=trodAll_cons h
  exact trodAll_cons_mk (WideElems.Trod_stays hl (hr T (by simp)).1 (hr T (by simp)).2 h3 (fun x hx=>h1 x (by simp [hx])) (fun x hx=>h2 x (by simp [hx])))
   (trodAll_stays hl (fun t ht=>hr t (by simp [ht])) h4 (fun x hx=>h1 x (by simp [hx])) (fun x hx=>h2 x (by simp [hx])))
end
theorem post_same {H:Type} {enc:TypeId×Value→H} {P:Program} {f:Func} {s:ChangeSpec} {apart fresh handsOn again:Bool} {W W':World} {args:Array Value} {v:Value} {ds gs:List (DataW H)} {before pa pv:List MemPlace}
  (hW:DataW.Whole enc P f.params.toList s.vars apart W args.toList ds gs before)
  (hres:∀ (b:Nat) (sp:Nat→Bool) (hd:Bool),DataW.TrodAll enc P W' b sp hd f.resultTypes.toList (v.resultList f.resultTypes.size) (s.fn H (ds++gs)).results [])
  (hargs:∀ sp:Nat→Bool,(∀ p∈before,sp p.block=true)→DataW.TrodAll enc P W' 0 sp true f.params.toList args.toList (s.fn H (ds++gs)).args pa)
  (hvars:∀ sp:Nat→Bool,(∀ p∈before,sp p.block=true)→DataW.TrodVars enc P W' sp s.vars (s.fn H (ds++gs)).vars pv)
  (hps:before=pa++pv) (hk:W.keptBut W' (·∈before)) (hfz:∀ p:Addr,p.block<W.heap.size→W'.frozen? p=W.frozen? p)
  (hok:∀ (j:Nat) (t:TypeId) (r:Value),f.resultTypes[j]?=some t→(v.resultList f.resultTypes.size)[j]?=some r→Value.okWide P W' .any 0 t r) :
  s.post enc P f apart fresh handsOn again W args v W':=by
 have hlt:∀ p∈before,p.block<W.heap.size:=fun p hp=>hW.lt p hp
 have hold:∀ p∈before,(fun b=>decide (b<W.heap.size)) p.block=true:=fun p hp=>by simpa using hlt p hp
 refine ⟨ds,gs,before,[],pa,pv,hW,hres _ _ _,hargs _ hold,hvars _ hold,World.keptBut_mono (fun p hp=>⟨hp,?_⟩) hk,fun _ => ?_⟩
 ·
  rw [hps,List.mem_append] at hp
  exact Or.inr hp
 ·
  obtain ⟨_,_,_,_,_,hz,hn⟩:=hW
  refine ⟨hok,_,_,([]++pa)++pv,⟨[]++pa,pv,trodAll_append (hargs _ (fun _ _=>rfl)) (hres _ _ _),hvars _ (fun _ _=>rfl),rfl,?_,?_⟩,?_⟩
  ·
   intro b off hp
   have hp':MemPlace.cell b off∈before:=by rw [hps]; simpa using hp
   rw [hfz _ (hlt _ hp')]
   exact hz b off hp'
  ·
   intro ha
   have:=hn ha
   rw [hps] at this
   simpa using this
  ·
   intro p hp _
   rw [hps]
   simpa using hp
theorem law_contract {P:Program} {f:FuncId} {fn:Func} {con:Con} {s:ChangeSpec} {tys:List Ty} {T:TypeId} (apart:Bool)
  (hp:PureOk P f con) (hpre:∀ xs:List (Sigma Ty.T),xs.map (·.1)=tys→(∀ x∈xs,argIn x)→con.pre (xs.map argOf)) (hval:∀ args,con.val args=.v (.s (.bool true)))
  (ht:All2 (TyOf P) tys fn.params.toList) (hr:∀ T∈fn.params.toList,P.readableRec T=true∧T<P.types.size) (hl:laidOutB P=true)
  (hres:fn.resultTypes=#[T]) (hT:P.underlying T=some .bool) (hv:s.vars=[])
  {H:Type} (enc:TypeId×Value→H) (hs:∀ ds:List (DataW H),ds.length=tys.length→(s.fn H ds).results=[.lit (.bool true)]∧(s.fn H ds).args=ds∧(s.fn H ds).vars=[])
  (W:World) (base:Nat) (args:Array Value) (ds gs:List (DataW H)) (before:List MemPlace)
  (hok:∀ (j:Nat) t v,fn.params[j]?=some t→args[j]?=some v→Value.okWide P W .any base t v)
  (hW:DataW.Whole enc P fn.params.toList s.vars apart W args.toList ds gs before) :
  Calls P f args W fun e W'=>∃ v,e=.returned v∧s.post enc P fn apart true false false W args v W':=by
 have hW':=hW
 obtain ⟨p,q,hA,hV,rfl,_,_⟩:=hW
 rw [hv] at hV
 obtain ⟨rfl,rfl⟩:=trodVars_none hV
 simp only [List.append_nil] at hW'
 obtain ⟨xs,e,hxs,his⟩:=trodAll_args ht (fun j t v h h'=>hok j t v (by simpa [Array.getElem?_toList] using h) (by simpa [Array.getElem?_toList] using h')) hA
 have hlen:ds.length=tys.length:=by
  have h1:=ht.length
  have h2:∀ {Ts:List TypeId} {vs:List Value} {ds:List (DataW H)} {ps:List MemPlace},DataW.TrodAll enc P W 0 (fun _=>true) true Ts vs ds ps→ds.length=Ts.length:=by
   intro Ts
   induction Ts with
   | nil=>intro vs ds ps h; obtain ⟨_,rfl,_⟩:=trodAll_nil h; rfl
   | cons t Ts ih=>intro vs ds ps h; obtain ⟨v,vs',d,ds',p,q,rfl,rfl,rfl,h3,h4⟩:=trodAll_cons h; simp [ih h4]
  rw [h2 hA,h1]
 obtain ⟨h1,h2,h3⟩:=hs ds hlen
 have hc:=hp W (fun _=>False) (xs.map argOf) args.toList (hpre xs e his) (fun _ h=>h.elim) hxs
 rw [Array.toArray_toList] at hc
 refine hc.mono fun o W' ⟨v,he,hv',hb,_⟩ => ?_
 rw [hval] at hv'
 simp only [relRV,relAV,relSV] at hv'
 subst hv'
 subst he
 have hlt:∀ x∈p,x.block<W.heap.size:=fun x hx=>by simpa using hW'.lt x hx
 refine ⟨_,rfl,post_same (pa:=p) (pv:=[]) hW' (fun b sp hd => ?_) (fun sp hsp => ?_) (fun sp _ => ?_) (by simp) (hb.frame _) (fun q hq=>hb.frozen hq) (ok_one hres rfl (okWide_bool_mk hT _))⟩
 ·
  rw [List.append_nil,h1,hres]
  exact trodAll_cons_mk (shut_bool hT _) trodAll_mk0
 ·
  rw [List.append_nil,h2]
  exact trodAll_stays hl hr hA (fun x hx=>hb.same (hlt x hx)) hsp
 ·
  rw [List.append_nil,h3,hv]
  rfl
end Go.Am
