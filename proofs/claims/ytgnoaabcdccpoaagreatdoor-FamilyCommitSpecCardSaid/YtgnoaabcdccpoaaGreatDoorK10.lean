/- Part 10 of the proof's base. -/
import Derived.Test.YtgnoaabcdccpoaaGreatDoorK9
set_option linter.all false
noncomputable section
namespace Go.Am
set_option maxHeartbeats 8000000
set_option maxRecDepth 20000
open Go.RowKit Go.Proofs Go.Proofs.Tryz
attribute [local simp ←] flats_append
attribute [local simp] thenKD_normal thenKD_exit thenKD_goto thenKD_ret inBlockKD_normal inBlockKD_exit inBlockKD_goto inBlockKD_ret noGotoKD_normal noGotoKD_exit noGotoKD_goto noGotoKD_ret roundKD_normal roundKD_exit roundKD_goto roundKD_ret frzSlotsD_nil frzSlotsD_cons frzSlotD_eq yieldVCD_trace opVCD_eq vcOpsD_nil vcOpsD_cons vcAllD_zero vcAllD_succ allAtD_nil allAtD_cons readyAux edgA vcD_skip vcD_label vcD_exit vcD_goto vcD_ret vcD_region vcD_seq vcD_seqC vcD_cond vcCondD_bool vcD_block vcD_scope vcD_loop vcD_rangeFunc yieldOf isMem isMem0 keepE envLe St.le psE yieldAV round_td round_y round_Γ vI vB vS aI aB aS look getE oper opRV putE allOk okOps Op.operands Call.operands pEv qEv mEv constRV coe RV.av loadEv loadCs takeAt indexAddrEv fieldAddrEv binEv intEv arith unEv gcond pickEv argsEv callVal callEv capAV_mk lenArgs lenEv minEv extractEv convEv funcEv allBox bound sliceEv lookupEv TD.isBool allocEv boxEv storeEv spl plainTD appendEv appendArgs makeMapEv mapUpdateEv buildEv buildSliceEv fillSV zsvOf sizeTD Ty.parses parses_flats' coeA flats_length AV.good AV.cells AV.pure SV.pure av_int av_bool av_str av_slice av_cons av_fld0 av_fld1 av_fld2 av_fld3 av_fld4 Ty.of Ty.dflt Ty.parse Ty.flat Ty.zsv Ty.fld Ty.un Ty.unv Ty.snoc Ty.snocV hd_mk kids_mk hd_dflt kids_dflt Ty.get Ty.off Ty.nfld Ty.size coeTy junk Blk.look argEnv resEv resOk resVs oneRV retOk frzAs frzAV frzL frzSV boxCaps boxCap SV.sig sigs RV.scalar AV.scalar SV.scalar nope effVCD_eq effOf SV.ids AV.ids dedup SV.ren AV.ren RV.ren idx outId mergeB Blk.pureB flats_pure flat_pure epsSlotsD_nil epsSlotsD_cons epsSlotD_eq allEp D.parts_fnOf fvParts retEff round_E av_fn G.ye isCutD_nil isCutD_cons firstReg_region firstReg_seq firstReg_skip firstReg_ret firstReg_label firstReg_exit firstReg_goto firstReg_cond firstReg_block firstReg_scope firstReg_loop firstReg_rf eptrOf_mk flOfD_nil flOfD_cons vcFlD_cons vcFlD_nil flPairs_nil flPairs_cons vcFrD_nil vcFrD_cons makeSliceEv vcCondD_ib fzEv unfl_flats isFz round_fz panVCD_eq panOf isShift strIdxEv ifaceEv nilChkEv sliceAnyEv sliceOwnEv sliceSufEv appendEv0 appendEv1 Ty.beq Ty.isAgg round_Pn vcDefD_seqR vcDefD_seqS vcDefD_seqC vcDefD_seqB vcDefD_seqL vcDefD_seqF vcDefD_seqSc vcDefD_region vcDefD_ret vcDefD_cond vcDefD_block vcDefD_loop thenKD_panic inBlockKD_panic noGotoKD_panic exitOk_normal exitOk_ret exitOk_panic exitOk_exit runDefs_none runDefs_some runDefs_cons defRegD defReg2D isDefer defOf caughtCon unfl_cons D.bpart_bndOf D.parts_bndOf AV.sig zapEv capArgs capEv effVC2D_eq effSelD_eq effOf2 effOf2V borAt borAll borAV borSV borIds selOf reachB closedB Blk.sound Blk.ids Blk.ren Blk.scalarB retEff2 retEff2S round_E2 round_te round_bo round_pm andEv orEv xorEv bitsEv utop cvEv callAny callBor slicePartEv makePartEv copyEv copyArgs boundEv globs vcPiD_nil vcPiD_cons piOpD_eq appStrEv
def bc0Γ:List (FuncId×Con):=[]
theorem bc0Γ_ok:OkΓ bc0Γ:=by simp [bc0Γ]
def bc0E:List (FuncId×ECon):=[]
theorem bc0E_ok:OkE bc0E:=by simp [bc0E]
def bc0P:List (FuncId×PCon):=[]
theorem bc0P_ok:OkP bc0P:=by simp [bc0P]
def bc0F:List (FuncId×ECon2):=[]
theorem bc0F_ok:OkF bc0F:=by simp [bc0F]
def bc0:G:={ τ:=dgT,Γ:=bc0Γ,E:=bc0E,Pn:=bc0P,E2:=bc0F }
theorem bc0_good:bc0.good prog:=good_of_all (dgT_ok _ rfl) bc0Γ_ok bc0E_ok bc0P_ok bc0F_ok
theorem bc0_all:(∀ t,bc0.td t=(look dgT t).getD .other)∧bc0.y=false∧bc0.Γ=bc0Γ∧bc0.E=bc0E∧bc0.Pn=bc0P∧bc0.E2=bc0F∧bc0.fz=[]∧bc0.te=false∧bc0.bo=false∧bc0.pm=false:=⟨fun _=>rfl,rfl,rfl,rfl,rfl,rfl,rfl,rfl,rfl,rfl⟩
def bc0_S:=And.intro @dgT.eq_1 (And.intro @bc0Γ.eq_1 (And.intro @bc0E.eq_1 (And.intro @bc0P.eq_1 (@bc0F.eq_1))))
def conGrB:ECon:={ wp:=fun args hp K=>match args,hp with
 | [.s (.sl (.int .u8) [] true),.s (.int .i64 n)],[]=>(0≤n∧n≤1000000)∧(n=0→K (.v (.s (.sl (.int .u8) [] true))) [])∧(0<n→K (.v (.s (.pre (.int .u8) 0 n.toNat 0))) [.arr true (Ty.flats (.int .u8) (List.replicate n.toNat (Ty.dflt (.int .u8))))])
 | _,_=>False }
theorem conGrB_ok:EffOk prog 102 conGrB:=by
 refine effOkD (L:={ live:=[0,1,4,6,16] }) bc0_good rfl nr_mixed func102 rfl conGrB 2 (by decide) (by kernel_rfl) ?_
 intro args hp K hpre hlens
 simp only [conGrB] at hpre
 split at hpre
 case h_2=>exact hpre.elim
 rename_i n
 obtain ⟨⟨h0,h1⟩,hK0,hK1⟩:=hpre
 refine ⟨rfl,?_⟩
 simp -dsimp -implicitDefEqProofs [f102,bc0_all,bc0_S,inI64]
 exact ⟨h0,fun _=>⟨⟨by omega,by omega⟩,fun hn=>⟨⟨hn,by omega,by simp only [maxLen]; omega⟩,by omega,hK1 hn⟩,fun hn=>hK0 (by omega)⟩⟩
def bc1Γ:=bc0Γ
theorem bc1Γ_ok:OkΓ bc1Γ:=bc0Γ_ok
def bc1E:List (FuncId×ECon):=(102,conGrB)::bc0E
theorem bc1E_ok:OkE bc1E:=by
 simp only [OkE,bc1E,List.forall_mem_cons]
 exact ⟨⟨enters_of func102 (by kernel_rfl) rfl,conGrB_ok⟩,bc0E_ok⟩
def bc1P:=bc0P
theorem bc1P_ok:OkP bc1P:=bc0P_ok
def bc1F:=bc0F
theorem bc1F_ok:OkF bc1F:=bc0F_ok
def bc1:G:={ τ:=dgT,Γ:=bc1Γ,E:=bc1E,Pn:=bc1P,E2:=bc1F }
theorem bc1_good:bc1.good prog:=good_of_all (dgT_ok _ rfl) bc1Γ_ok bc1E_ok bc1P_ok bc1F_ok
theorem bc1_all:(∀ t,bc1.td t=(look dgT t).getD .other)∧bc1.y=false∧bc1.Γ=bc1Γ∧bc1.E=bc1E∧bc1.Pn=bc1P∧bc1.E2=bc1F∧bc1.fz=[]∧bc1.te=false∧bc1.bo=false∧bc1.pm=false:=⟨fun _=>rfl,rfl,rfl,rfl,rfl,rfl,rfl,rfl,rfl,rfl⟩
def bc1_S:=And.intro (And.intro @dgT.eq_1 (And.intro @bc1Γ.eq_1 (And.intro @bc1E.eq_1 (And.intro @bc1P.eq_1 (And.intro @bc1F.eq_1 (@conGrB.eq_1)))))) bc0_S
def conCB_len (xs:List (List (Ty.T (.int .u8)))) (i:Nat):Nat:=(xs.take i).flatten.length
theorem conCB_take {xs:List (List (Ty.T (.int .u8)))} {i:Nat} (h:i<xs.length):(xs.take (i+1)).flatten=(xs.take i).flatten++xs[i]:=by
 rw [List.take_add_one,List.flatten_append,List.getElem?_eq_getElem h]
 simp
theorem conCB_succ {xs:List (List (Ty.T (.int .u8)))} {i:Nat} (h:i<xs.length):conCB_len xs (i+1)=conCB_len xs i+xs[i].length:=by
 unfold conCB_len
 rw [conCB_take h,List.length_append]
theorem conCB_le {xs:List (List (Ty.T (.int .u8)))} (i:Nat):conCB_len xs i≤xs.flatten.length:=by
 unfold conCB_len
 conv=>rhs; rw [← List.take_append_drop i xs,List.flatten_append,List.length_append]
 omega
def conCB:Con:=⟨fun args=>(match args with
 | [.s (.sl (.slice (.int .u8)) xs _)]=>xs.length≤1000∧xs.flatten.length≤1000000
 | _=>False),fun args=>match args with
 | [.s (.sl (.slice (.int .u8)) xs _)]=>.v (.s (.sl (.int .u8) xs.flatten false))
 | _=>.v (.s .any)⟩
theorem conCB_pre (xs:List (List (Ty.T (.int .u8)))) (ex:Bool):conCB.pre [.s (.sl (.slice (.int .u8)) xs ex)]=(xs.length≤1000∧xs.flatten.length≤1000000):=rfl
theorem conCB_val (xs:List (List (Ty.T (.int .u8)))) (ex:Bool):conCB.val [.s (.sl (.slice (.int .u8)) xs ex)]=.v (.s (.sl (.int .u8) xs.flatten false)):=rfl
theorem conCB_ok:PureOk prog 58 conCB:=by
 refine pureOkD (L:={ live:=[0,2,3,5,6,8,9,10,11,12,20,25,26,27,28] }) bc1_good rfl nr_mixed func58 rfl conCB 1 (by decide) (by kernel_rfl) ?_
 intro args hpre hlens
 simp only [conCB] at hpre
 split at hpre
 case h_2=>exact hpre.elim
 rename_i xs ex
 simp only [lenS] at hlens
 refine ⟨rfl,?_⟩
 simp -dsimp -implicitDefEqProofs [f58,conCB_val,conCB_val,bc1_all,bc1_S,inI64]
 obtain ⟨hxl,hfl⟩:=hpre
 obtain ⟨xs,rfl⟩:∃ ys:List (List (Ty.T (.int .u8))),ys=xs:=⟨xs,rfl⟩
 refine WpD.loop (L:={ live:=[0,2,3,5,6,8,9,10,11,12,20,25,26,27,28] }) bc1_good X0_ok nr_mixed (by kernel_rfl)
  (fun i:Nat=>⟨[(0,vS (.slice (.int .u8)) xs ex),(3,vI (conCB_len xs i)),(9,vS (.slice (.int .u8)) xs ex),(10,vI xs.length),(11,vI i)],[]⟩)
  (fun i=>i≤xs.length) (fun i=>xs.length - i) 0 (Nat.zero_le _) (Turn.le (by simp -dsimp -implicitDefEqProofs [conCB_len])) ?_
 intro i hi
 have hle:=conCB_le (xs:=xs) i
 rcases Nat.lt_or_ge i xs.length with hil | hge
 ·
  have e2:=conCB_succ hil
  have hle1:=conCB_le (xs:=xs) (i+1)
  have e3:((conCB_len xs i:Nat):Int)+(List.length xs[i]:Int)=((conCB_len xs (i+1):Nat):Int):=by rw [e2]; omega
  simp -dsimp -implicitDefEqProofs [hil,e3,bc1_all,bc1_S,inI64]
  exact ⟨by omega,⟨by omega,by omega⟩,i+1,by omega,by omega,TurnT.le (by simp -dsimp -implicitDefEqProofs)⟩
 ·
  have hn:¬ i<xs.length:=by omega
  obtain rfl:i=xs.length:=by omega
  obtain ⟨N,hN⟩:∃ N,N=xs.flatten.length:=⟨_,rfl⟩
  have hall:conCB_len xs xs.length=N:=by unfold conCB_len; rw [List.take_length,hN]
  simp -dsimp -implicitDefEqProofs [hn,hall,bc1_all,bc1_S,inI64]
  refine ⟨by omega,fun h0 => ?_,fun h0 => ?_⟩
  ·
   refine WpD.loop (L:={ live:=[0,2,3,5,6,8,9,10,11,12,20,25,26,27,28] }) bc1_good X0_ok nr_mixed (by kernel_rfl)
    (fun i:Nat=>if i=0 then ⟨[(0,vS (.slice (.int .u8)) xs ex),(6,vS (.int .u8) [] true),(25,vS (.slice (.int .u8)) xs ex),(26,vI xs.length),(27,vI 0)],[]⟩ else ⟨[(0,vS (.slice (.int .u8)) xs ex),(6,⟨true,.v (.s (.own (.int .u8) 0 0))⟩),(25,vS (.slice (.int .u8)) xs ex),(26,vI xs.length),(27,vI i)],[.arr false (Ty.flats (.int .u8) [])]⟩)
    (fun i=>i≤xs.length) (fun i=>xs.length - i) 0 (Nat.zero_le _) (Turn.le (by simp -dsimp -implicitDefEqProofs)) ?_
   intro i hi
   have hz:∀ l∈xs,l=[]:=by
    intro l hl
    have:l.length≤xs.flatten.length:=(List.sublist_flatten_of_mem hl).length_le
    exact List.length_eq_zero_iff.1 (by omega)
   rcases Nat.lt_or_ge i xs.length with hil | hge
   ·
    have e1:=hz _ (List.getElem_mem hil)
    rcases Nat.eq_zero_or_pos i with rfl | hp
    ·
     simp -dsimp -implicitDefEqProofs [hil,e1,bc1_all,bc1_S,inI64]
     exact ⟨1,by omega,by omega,TurnT.le (by simp -dsimp -implicitDefEqProofs)⟩
    ·
     have hp0:¬ i=0:=by omega
     simp -dsimp -implicitDefEqProofs [hil,e1,hp0,bc1_all,bc1_S,inI64]
     refine ⟨⟨by omega,by omega⟩,i+1,by omega,by omega,?_⟩
     rw [if_neg (by omega)]
     exact TurnT.le (by simp -dsimp -implicitDefEqProofs)
   ·
    have hn:¬ i<xs.length:=by omega
    have hfe:xs.flatten=[]:=List.eq_nil_of_length_eq_zero (by omega)
    rcases Nat.eq_zero_or_pos i with rfl | hp
    ·
     simp -dsimp -implicitDefEqProofs [hn,bc1_all,bc1_S,inI64]
     rw [conCB_val,hfe]
    ·
     have hp0:¬ i=0:=by omega
     simp -dsimp -implicitDefEqProofs [hn,hp0,bc1_all,bc1_S,inI64]
     rw [conCB_val,hfe]
  ·
   refine WpD.loop (L:={ live:=[0,2,3,5,6,8,9,10,11,12,20,25,26,27,28] }) bc1_good X0_ok nr_mixed (by kernel_rfl)
    (fun i:Nat=>if i=0 then ⟨[(0,vS (.slice (.int .u8)) xs ex),(6,⟨true,.v (.s (.pre (.int .u8) 0 N 0))⟩),(25,vS (.slice (.int .u8)) xs ex),(26,vI xs.length),(27,vI 0)],[.arr true (Ty.flats (.int .u8) (List.replicate N (Ty.dflt (.int .u8))))]⟩ else ⟨[(0,vS (.slice (.int .u8)) xs ex),(6,⟨true,.v (.s (.own (.int .u8) 1 (conCB_len xs i)))⟩),(25,vS (.slice (.int .u8)) xs ex),(26,vI xs.length),(27,vI i)],[.dead,.arr true (Ty.flats (.int .u8) (xs.take i).flatten)]⟩)
    (fun i=>i≤xs.length) (fun i=>xs.length - i) 0 (Nat.zero_le _) (Turn.le (by simp -dsimp -implicitDefEqProofs)) ?_
   intro i hi
   rcases Nat.lt_or_ge i xs.length with hil | hge
   ·
    have e2:=conCB_succ hil
    have hle1:=conCB_le (xs:=xs) (i+1)
    have hle0:=conCB_le (xs:=xs) i
    have hl:(xs.take i).flatten.length=conCB_len xs i:=rfl
    rcases Nat.eq_zero_or_pos i with rfl | hp
    ·
     simp -dsimp -implicitDefEqProofs [hil,hl,-List.length_flatten,bc1_all,bc1_S,inI64]
     have z0:conCB_len xs 0=0:=rfl
     have z1:conCB_len xs 1=xs[0].length:=by rw [e2,z0,Nat.zero_add]
     have z2:(xs.take 1).flatten=xs[0]:=by have:=conCB_take hil; simpa using this
     refine ⟨⟨by omega,by simp only [maxLen]; omega⟩,1,by omega,by omega,?_⟩
     rw [if_neg (by omega),z1,z2]
     exact TurnT.le (by simp -dsimp -implicitDefEqProofs)
    ·
     have hp0:¬ i=0:=by omega
     simp -dsimp -implicitDefEqProofs [hil,hp0,hl,-List.length_flatten,bc1_all,bc1_S,inI64]
     refine ⟨⟨by omega,by simp only [maxLen]; omega⟩,⟨by omega,by omega⟩,i+1,by omega,by omega,?_⟩
     rw [if_neg (by omega),e2,conCB_take hil]
     exact TurnT.le (by simp -dsimp -implicitDefEqProofs)
   ·
    have hn:¬ i<xs.length:=by omega
    have hp0:¬ i=0:=by
     intro e
     obtain rfl:=List.eq_nil_of_length_eq_zero (show xs.length=0 by omega)
     simp at hN
     omega
    obtain rfl:i=xs.length:=by omega
    have hta:xs.take xs.length=xs:=List.take_length
    have hpa:Ty.parses (.int .u8) N (Ty.flats (.int .u8) xs.flatten)=some xs.flatten:=parses_flats' hN.symm
    simp -dsimp -implicitDefEqProofs [hn,hp0,hall,hta,hpa,hN.symm,conCB_val,-List.length_flatten,bc1_all,bc1_S,inI64]
def dg7Γ:List (FuncId×Con):=(57,conSumR)::(58,conCB)::dg5Γ
theorem dg7Γ_ok:OkΓ dg7Γ:=by
 simp only [OkΓ,dg7Γ,List.forall_mem_cons]
 exact ⟨⟨enters_of func57 (by kernel_rfl) rfl,sum_ok⟩,⟨enters_of func58 (by kernel_rfl) rfl,conCB_ok⟩,dg5Γ_ok⟩
def dg7E:=dg5E
theorem dg7E_ok:OkE dg7E:=dg5E_ok
def dg7P:=dg5P
theorem dg7P_ok:OkP dg7P:=dg5P_ok
def dg7F:=dg5F
theorem dg7F_ok:OkF dg7F:=dg5F_ok
def dg7:G:={ τ:=dgT,Γ:=dg7Γ,E:=dg7E,Pn:=dg7P,E2:=dg7F }
theorem dg7_good:dg7.good prog:=good_of_all (dgT_ok _ rfl) dg7Γ_ok dg7E_ok dg7P_ok dg7F_ok
theorem dg7_all:(∀ t,dg7.td t=(look dgT t).getD .other)∧dg7.y=false∧dg7.Γ=dg7Γ∧dg7.E=dg7E∧dg7.Pn=dg7P∧dg7.E2=dg7F∧dg7.fz=[]∧dg7.te=false∧dg7.bo=false∧dg7.pm=false:=⟨fun _=>rfl,rfl,rfl,rfl,rfl,rfl,rfl,rfl,rfl,rfl⟩
def dg7_S:=And.intro (And.intro @dgT.eq_1 (And.intro @dg7Γ.eq_1 (And.intro @dg7E.eq_1 (And.intro @dg7P.eq_1 (And.intro @dg7F.eq_1 (And.intro @conSumR_eq (And.intro @conCB_pre (@conCB_val)))))))) dg5_S
def conTagP:Con:=⟨fun args=>(match args with
 | [.s (.str s),.s (.sl (.int .u8) m _)]=>s.size≤1000000000∧(∀ x∈m,in8 x)∧m.length≤900000
 | _=>False),fun args=>match args with
 | [.s (.str s),.s (.sl (.int .u8) m _)]=>.v (.agg (t8.flats (tagL s m)))
 | _=>.v (.s .any)⟩
theorem conTagP_eq (s:ByteArray) (m:List (Ty.T (.int .u8))) (exm:Bool):conTagP.pre [.s (.str s),.s (.sl (.int .u8) m exm)]=(s.size≤1000000000∧(∀ x∈m,in8 x)∧m.length≤900000)∧conTagP.val [.s (.str s),.s (.sl (.int .u8) m exm)]=.v (.agg (t8.flats (tagL s m))):=⟨rfl,rfl⟩
theorem tagp_ok:PureOk prog 20 conTagP:=by
 refine pureOkD (L:={ live:=[0,1,4,5],eps:=[(2,[5])] }) dg7_good rfl nr_mixed func20 rfl conTagP 2 (by decide) (by kernel_rfl) ?_
 intro args hpre hlens
 simp only [conTagP] at hpre
 split at hpre
 case h_2=>exact hpre.elim
 rename_i s m ex
 simp only [lenS] at hlens
 obtain ⟨hs,h8,hl⟩:=hpre; obtain ⟨x,y,O,hO⟩:∃ x y O,x::y::O=shaSum (strL s):=⟨_,_,_,rfl⟩; have hol:O.length=30:=by (have:=sha_len (strL s); rw [← hO] at this; simp only [List.length_cons] at this; omega)
 have ho8:∀ z∈x::y::O,in8 z:=hO▸sha_in8 _; have hsl:=strL_length s; have hfl:(t8.flats O).length=30:=by rw [flats_length,hol]; rfl
 have hft:List.take 30 (t8.flats O)=t8.flats O:=List.take_of_length_le (by omega)
 have hp32:t8.parses 32 (.int .u8 x::.int .u8 y::t8.flats O)=some (x::y::O):=parses_flats' (t:=t8) (xs:=x::y::O) (by simp [hol])
 have hf2:t8.flats (x::y::O)=.int .u8 x::.int .u8 y::t8.flats O:=rfl
 have hp0:t8.parses 0 []=some []:=rfl
 have htO:List.take 30 O=O:=List.take_of_length_le (by omega)
 have hun:t8.unfl (32+m.length) (.int .u8 x::.int .u8 y::t8.flats (O++m))=some (x::y::(O++m)):=unfl_flats (t:=t8) (xs:=x::y::(O++m)) (by simp [hol]; omega)
 have hf3:t8.flats (x::y::(O++m))=.int .u8 x::.int .u8 y::t8.flats (O++m):=rfl
 have hfe:t8.flats []=[]:=rfl
 have hps:(Ty.slice t8).parses 2 [.sl t8 (x::y::O) false,.sl t8 m ex]=some [x::y::O,m]:=rfl
 refine ⟨rfl,?_⟩
 simp -dsimp -implicitDefEqProofs [f20,conTagP_eq,conSumR_eq,strL_length,← hO,hol,hft,hp32,hf2,hp0,htO,hun,sha_len,take_sha,frzL_int,hf3,hfe,List.nil_append,hol,-Ty.parses,-sigs,sigs_eqs,sigC_some,sigs_ints,flat_repsV,hps,dg7_all,dg7_S,inI64]
 have hm:3000000000≤maxLen:=by simp only [maxLen]; omega
 refine ⟨by omega,⟨strL_in8 s,hs⟩,by omega,by omega,⟨⟨ho8 x (by simp),ho8 y (by simp),fun a ha=>ha.elim (fun q=>ho8 a (by simp [q])) (h8 a)⟩,by omega⟩,?_⟩
 unfold tagL
 rw [← hO]
 rfl
def cw0Γ:List (FuncId×Con):=(97,conUnsR)::cd0Γ
theorem cw0Γ_ok:OkΓ cw0Γ:=by
 simp only [OkΓ,cw0Γ,List.forall_mem_cons]
 exact ⟨⟨enters_of func97 (by kernel_rfl) rfl,uns_ok⟩,cd0Γ_ok⟩
def cw0E:List (FuncId×ECon):=(96,conNumlE)::cd0E
theorem cw0E_ok:OkE cw0E:=by
 simp only [OkE,cw0E,List.forall_mem_cons]
 exact ⟨⟨enters_of func96 (by kernel_rfl) rfl,numle_ok⟩,cd0E_ok⟩
def cw0P:=cd0P
theorem cw0P_ok:OkP cw0P:=cd0P_ok
def cw0F:=cd0F
theorem cw0F_ok:OkF cw0F:=cd0F_ok
def cw0:G:={ τ:=cdT,Γ:=cw0Γ,E:=cw0E,Pn:=cw0P,E2:=cw0F }
theorem cw0_good:cw0.good prog:=good_of_all (cdT_ok _ rfl) cw0Γ_ok cw0E_ok cw0P_ok cw0F_ok
theorem cw0_all:(∀ t,cw0.td t=(look cdT t).getD .other)∧cw0.y=false∧cw0.Γ=cw0Γ∧cw0.E=cw0E∧cw0.Pn=cw0P∧cw0.E2=cw0F∧cw0.fz=[]∧cw0.te=false∧cw0.bo=false∧cw0.pm=false:=⟨fun _=>rfl,rfl,rfl,rfl,rfl,rfl,rfl,rfl,rfl,rfl⟩
def cw0_S:=And.intro (And.intro @cdT.eq_1 (And.intro @cw0Γ.eq_1 (And.intro @cw0E.eq_1 (And.intro @cw0P.eq_1 (And.intro @cw0F.eq_1 (And.intro @conUnsR_eq (@conNumlE.eq_1))))))) cd0_S
def cw00Γ:List (FuncId×Con):=(94,(conFrmd 1000))::cd0Γ
theorem cw00Γ_ok:OkΓ cw00Γ:=by
 simp only [OkΓ,cw00Γ,List.forall_mem_cons]
 exact ⟨⟨enters_of func94 (by kernel_rfl) rfl,(frmd_ok _)⟩,cd0Γ_ok⟩
def cw00E:=cd0E
theorem cw00E_ok:OkE cw00E:=cd0E_ok
def cw00P:=cd0P
theorem cw00P_ok:OkP cw00P:=cd0P_ok
def cw00F:=cd0F
theorem cw00F_ok:OkF cw00F:=cd0F_ok
def cw00:G:={ τ:=cdT,Γ:=cw00Γ,E:=cw00E,Pn:=cw00P,E2:=cw00F }
theorem cw00_good:cw00.good prog:=good_of_all (cdT_ok _ rfl) cw00Γ_ok cw00E_ok cw00P_ok cw00F_ok
theorem cw00_all:(∀ t,cw00.td t=(look cdT t).getD .other)∧cw00.y=false∧cw00.Γ=cw00Γ∧cw00.E=cw00E∧cw00.Pn=cw00P∧cw00.E2=cw00F∧cw00.fz=[]∧cw00.te=false∧cw00.bo=false∧cw00.pm=false:=⟨fun _=>rfl,rfl,rfl,rfl,rfl,rfl,rfl,rfl,rfl,rfl⟩
def cw00_S:=And.intro (And.intro @cdT.eq_1 (And.intro @cw00Γ.eq_1 (And.intro @cw00E.eq_1 (And.intro @cw00P.eq_1 (And.intro @cw00F.eq_1 (@conFrmd_eq)))))) cd0_S
def conCodK:Con:=⟨fun args=>(match args with
 | [.agg [.int .i64 k,.int .i64 n,.str s,.sl (.tree (.cons (.int .i64) (.cons (.int .i64) (.cons .str .nil)))) l _]]=>depV (mkV k n s l)≤16∧formV (mkV k n s l)=true
 | _=>False),fun args=>match args with
 | [.agg [.int _ k,.int _ n,.str s,.sl (.tree (.cons (.int .i64) (.cons (.int .i64) (.cons .str .nil)))) l _]]=>.v (aI 0)
 | _=>.v (.s .any)⟩
theorem conCodK_eq (k:Int) (n:Int) (s:ByteArray) (l:List (Ty.T (.tree (.cons tI (.cons tI (.cons .str .nil)))))) (exl:Bool):conCodK.pre [.agg [.int .i64 k,.int .i64 n,.str s,.sl (.tree (.cons tI (.cons tI (.cons .str .nil)))) l exl]]=(depV (mkV k n s l)≤16∧formV (mkV k n s l)=true)∧conCodK.val [.agg [.int .i64 k,.int .i64 n,.str s,.sl (.tree (.cons tI (.cons tI (.cons .str .nil)))) l exl]]=.v (aI 0):=⟨rfl,rfl⟩
theorem codk_ok:PureOk prog 55 conCodK:=by
 refine pureOkD (L:={ live:=[0,1,2,3,4,10,13] }) cw00_good rfl nr_mixed func55 rfl conCodK 1 (by decide) (by kernel_rfl) ?_
 intro args hpre hlens
 simp only [conCodK] at hpre
 split at hpre
 case h_2=>exact hpre.elim
 rename_i k n s l e
 simp only [lenS] at hlens
 refine ⟨rfl,?_⟩
 simp -dsimp -implicitDefEqProofs [f55,conCodK_eq,cw00_all,cw00_S,inI64]
 exact ⟨⟨by omega,hpre.2⟩,by omega⟩
def okE (m:Nat) (k n:Int) (s:ByteArray) (l:List DV):Prop:=depV (mkV k n s l)<m∧formV (mkV k n s l)=true∧RngV (mkV k n s l)∧(encL (mkV k n s l)).length≤100000000
def conW12 (k0:Int):ECon2:={ wp:=fun args hp K=>match args,hp with
 | [.s (.own (.int .u8) 0 m),.agg [.int .i64 k,.int .i64 n,.str s,.sl (.tree (.cons (.int .i64) (.cons (.int .i64) (.cons .str .nil)))) l _]],[.arr true cs]=>∃ xs:List Int,cs=t8.flats xs∧m=xs.length∧k=k0∧okE 1000 k n s l∧xs.length≤400000000 ∧
   K (.v (.s (.own t8 0 (xs++encL (mkV k n s l)).length))) [.arr true (t8.flats (xs++encL (mkV k n s l)))]
 | [.s (.sl (.int .u8) [] true),.agg [.int .i64 k,.int .i64 n,.str s,.sl (.tree (.cons (.int .i64) (.cons (.int .i64) (.cons .str .nil)))) l _]],[]=>k=k0∧okE 1000 k n s l∧K (.v (.s (.own t8 0 (encL (mkV k n s l)).length))) [.arr true (t8.flats (encL (mkV k n s l)))]
 | _,_=>False }
theorem own_app {xs:List Int} {ys zs:List Int} {K:RV→List Blk→Prop} (h:K (.v (.s (.own t8 0 (xs++ys).length))) [.arr true (t8.flats (xs++ys))]) (e:xs++ys=zs):K (.v (.s (.own t8 0 zs.length))) [.arr true (t8.flats zs)]:=by rw [← e]; exact h
theorem w1_ok:EffOk2 prog 95 (conW12 1):=by
 refine effOk2D (L:={ live:=[0,1,3,4],eps:=[(1,[3])],pi:=[(1,[(0,false),(1,false),(3,true),(4,true),(2,false),(5,false),(6,false),(7,false)])] }) cw0_good rfl nr_mixed func95 rfl (conW12 1) 2 (by decide) (by kernel_rfl) ?_
 have hm:2000000000≤maxLen:=by simp only [maxLen]; omega
 intro args hp K hpre hlens
 simp only [conW12] at hpre
 split at hpre
 ·
  rename_i m k n s l e cs
  obtain ⟨xs,rfl,rfl,rfl,⟨hd,hf,hr,hl⟩,hx,hK⟩:=hpre
  obtain ⟨hn,hrl⟩:=rng_mk hr
  have hu:=unsV_lt hn
  rw [enc_1] at hK hl
  refine ⟨rfl,?_⟩
  simp -dsimp -implicitDefEqProofs [f95,-sigs,sigs_eqs,sigC_some,cw0_all,cw0_S,inI64]
  refine ⟨⟨by omega,by omega⟩,hn,xs++[1],rfl,by simp,by omega,by simp; omega,?_⟩
  rw [← List.length_append]
  exact own_app hK (by simp)
 ·
  rename_i k n s l e
  obtain ⟨rfl,⟨hd,hf,hr,hl⟩,hK⟩:=hpre
  obtain ⟨hn,hrl⟩:=rng_mk hr
  have hu:=unsV_lt hn
  rw [enc_1] at hK hl
  refine ⟨rfl,?_⟩
  simp -dsimp -implicitDefEqProofs [f95,-sigs,sigs_eqs,sigC_some,cw0_all,cw0_S,inI64]
  refine ⟨by omega,hn,[1],rfl,rfl,by omega,by decide,?_⟩
  rw [← List.length_append]
  exact hK
 ·
  exact hpre.elim
theorem own_app3 {xs:List Int} {a:Int} {ys zs ws:List Int} {K:RV→List Blk→Prop} (h:K (.v (.s (.own t8 0 ws.length))) [.arr true (t8.flats ws)]) (e:(xs++[a])++(ys++zs)=ws):K (.v (.s (.own t8 0 ((xs++[a]).length+ys.length+zs.length)))) [.arr true (t8.flats ((xs++[a])++(ys++zs)))]:=by
 rw [e,Nat.add_assoc,← List.length_append,← List.length_append,e]; exact h
theorem w2_ok:EffOk2 prog 98 (conW12 2):=by
 refine effOk2D (L:={ live:=[0,1,3,4],eps:=[(1,[3])],pi:=[(1,[(0,false),(1,false),(3,true),(4,true),(5,true),(6,true),(8,true),(9,true),(2,false),(7,false),(10,false),(11,false)])] }) cw0_good rfl nr_mixed func98 rfl (conW12 2) 2 (by decide) (by kernel_rfl) ?_
 have hm:2000000000≤maxLen:=by simp only [maxLen]; omega
 intro args hp K hpre hlens
 simp only [conW12] at hpre
 split at hpre
 ·
  rename_i m k n s l e cs
  obtain ⟨xs,rfl,rfl,rfl,⟨hd,hf,hr,hl⟩,hx,hK⟩:=hpre
  rw [enc_2] at hK hl
  rw [List.length_cons,List.length_append,strL_length] at hl
  have w1:IntKind.u64.wrap (s.size:Int)=(s.size:Int):=wrap64 (by omega) (by omega)
  refine ⟨rfl,?_⟩
  simp -dsimp -implicitDefEqProofs [f98,-sigs,sigs_eqs,sigC_some,cw0_all,cw0_S,inI64]
  rw [w1,Int.toNat_natCast]
  refine ⟨⟨by omega,by omega⟩,xs++[2],rfl,by simp,by omega,by omega,by simp; omega,⟨by simp; omega,by simp; omega⟩,?_⟩
  rw [← strL_length s]
  exact own_app3 hK (by rw [strL_length]; simp)
 ·
  rename_i k n s l e
  obtain ⟨rfl,⟨hd,hf,hr,hl⟩,hK⟩:=hpre
  rw [enc_2] at hK hl
  rw [List.length_cons,List.length_append,strL_length] at hl
  have w1:IntKind.u64.wrap (s.size:Int)=(s.size:Int):=wrap64 (by omega) (by omega)
  refine ⟨rfl,?_⟩
  simp -dsimp -implicitDefEqProofs [f98,-sigs,sigs_eqs,sigC_some,cw0_all,cw0_S,inI64]
  rw [w1,Int.toNat_natCast]
  refine ⟨by omega,[2],rfl,rfl,by omega,by omega,by decide,⟨by simp; omega,by simp; omega⟩,?_⟩
  rw [← strL_length s]
  exact own_app3 (xs:=[]) hK (by rw [strL_length]; rfl)
 ·
  exact hpre.elim
def cw1Γ:=cw0Γ
theorem cw1Γ_ok:OkΓ cw1Γ:=cw0Γ_ok
def cw1E:=cw0E
theorem cw1E_ok:OkE cw1E:=cw0E_ok
def cw1P:=cw0P
theorem cw1P_ok:OkP cw1P:=cw0P_ok
def cw1F:List (FuncId×ECon2):=(95,(conW12 1))::(98,(conW12 2))::cw0F
theorem cw1F_ok:OkF cw1F:=by
 simp only [OkF,cw1F,List.forall_mem_cons]
 exact ⟨⟨enters_of func95 (by kernel_rfl) rfl,w1_ok⟩,⟨enters_of func98 (by kernel_rfl) rfl,w2_ok⟩,cw0F_ok⟩
def cw1:G:={ τ:=cdT,Γ:=cw1Γ,E:=cw1E,Pn:=cw1P,E2:=cw1F,te:=true }
theorem cw1_good:cw1.good prog:=good_of_all (cdT_ok _ rfl) cw1Γ_ok cw1E_ok cw1P_ok cw1F_ok
theorem cw1_all:(∀ t,cw1.td t=(look cdT t).getD .other)∧cw1.y=false∧cw1.Γ=cw1Γ∧cw1.E=cw1E∧cw1.Pn=cw1P∧cw1.E2=cw1F∧cw1.fz=[]∧cw1.te=true∧cw1.bo=false∧cw1.pm=false:=⟨fun _=>rfl,rfl,rfl,rfl,rfl,rfl,rfl,rfl,rfl,rfl⟩
def cw1_S:=And.intro (And.intro @cdT.eq_1 (And.intro @cw1Γ.eq_1 (And.intro @cw1E.eq_1 (And.intro @cw1P.eq_1 (And.intro @cw1F.eq_1 (@conW12.eq_1)))))) cw0_S
theorem rng2:List.range 2=[0,1]:=rfl
theorem rng3:List.range 3=[0,1,2]:=rfl
theorem EffOk2.never {P:Program} {f:FuncId} {c:ECon2} (h:∀ args hp K,¬ c.wp args hp K):EffOk2 P f c:=by
 intro w M0 bs hp args vs K hp'
 exact absurd hp' (h _ _ _)
def conW3 (m:Nat):ECon2:={ wp:=fun args hp K=>match args,hp with
 | [.s (.own (.int .u8) 0 n0),.agg [.int .i64 k,.int .i64 n,.str s,.sl (.tree (.cons (.int .i64) (.cons (.int .i64) (.cons .str .nil)))) l _],.s (.box 1 0)],[.arr true cs,.cells [.box 2 0],.cells [f0,.fnp g1 [],.fnp g2 [],.fn g3 [1]]]=>∃ xs:List Int,cs=t8.flats xs∧n0=xs.length∧k=3∧okE m k n s l∧xs.length+(encL (mkV k n s l)).length≤400000000∧g1=95∧g2=98∧g3=99∧f0=.fv .nofn ∧
   K (.v (.s (.own t8 0 (xs++encL (mkV k n s l)).length))) [.arr true (t8.flats (xs++encL (mkV k n s l))),.cells [.box 2 0],.cells [.fv .nofn,.fnp g1 [],.fnp g2 [],.fn g3 [1]]]
 | [.s (.sl (.int .u8) [] true),.agg [.int .i64 k,.int .i64 n,.str s,.sl (.tree (.cons (.int .i64) (.cons (.int .i64) (.cons .str .nil)))) l _],.s (.box 0 0)],[.cells [.box 1 0],.cells [f0,.fnp g1 [],.fnp g2 [],.fn g3 [0]]]=>k=3∧okE m k n s l∧g1=95∧g2=98∧g3=99∧f0=.fv .nofn ∧
   K (.v (.s (.own t8 2 (encL (mkV k n s l)).length))) [.cells [.box 1 0],.cells [.fv .nofn,.fnp g1 [],.fnp g2 [],.fn g3 [0]],.arr true (t8.flats (encL (mkV k n s l)))]
 | _,_=>False }
theorem w3_ok:∀ m:Nat,EffOk2 prog 99 (conW3 m):=by
 intro m
 induction m with
 | zero =>
  refine EffOk2.never fun args hp K h => ?_
  simp only [conW3] at h
  split at h
  ·
   obtain ⟨xs,rfl,rfl,rfl,⟨hd,_⟩,_⟩:=h
   exact absurd hd (by omega)
  ·
   obtain ⟨rfl,⟨hd,_⟩,_⟩:=h
   exact absurd hd (by omega)
  ·
   exact h
 | succ m ih =>
 have hgR:(cw1.add2 99 (conW3 m)).good prog:=add2_good cw1_good (enters_of func99 (by kernel_rfl) rfl) ih
 refine effOk2D (L:={ live:=[0,1,2,4,5,7,17,18,19,20],eps:=[(1,[4])],pi:=[(1,[(0,false),(1,false),(3,true),(4,true),(5,true),(6,true),(2,false),(7,false),(8,false)]),(5,[(0,false),(1,false),(2,false),(3,false),(4,false),(5,false),(6,false),(7,false),(8,false),(9,false),(10,false)])] }) hgR rfl nr_mixed func99 rfl (conW3 (m+1)) 3 (by decide) (by kernel_rfl) ?_
 have hm:2000000000≤maxLen:=by simp only [maxLen]; omega
 intro args hp K hpre hlens
 simp only [conW3] at hpre
 split at hpre
 ·
  rename_i m k n s l e f0 g1 g2 g3 cs
  obtain ⟨xs,rfl,rfl,rfl,⟨hd,hf,hr,hl⟩,hx,rfl,rfl,rfl,rfl,hK⟩:=hpre
  refine ⟨rfl,?_⟩
  obtain ⟨hn,hrl⟩:=rng_mk hr
  have he:=enc_3 (k:=3) (n:=n) (s:=s) (l:=l) (by decide) (by decide)
  rw [he] at hl hx hK
  rw [List.length_cons,List.length_append] at hl hx
  have hll:=encK_len l
  have hfk:=(form_kid hf (by decide) (by decide)).2
  have w1:IntKind.u64.wrap (l.length:Int)=(l.length:Int):=wrap64 (by omega) (by omega)
  simp -dsimp -implicitDefEqProofs [f99,add2_all,-sigs,sigs_eqs,sigC_some,cw1_all,cw1_S,inI64]
  rw [w1,Int.toNat_natCast]
  refine ⟨⟨by omega,by omega⟩,xs++[3],rfl,by simp,by omega,by omega,by simp; omega,?_⟩
  refine WpD.loop (L:={ live:=[0,1,2,4,5,7,17,18,19,20],eps:=[(1,[4])],pi:=[(1,[(0,false),(1,false),(3,true),(4,true),(5,true),(6,true),(2,false),(7,false),(8,false)]),(5,[(0,false),(1,false),(2,false),(3,false),(4,false),(5,false),(6,false),(7,false),(8,false),(9,false),(10,false)])] }) hgR X0_ok (by kernel_rfl) nr_mixed
   (fun i:Nat=>⟨[(0,⟨true,.v (.s (.own t8 0 ((xs++[3]).length+(numL l.length).length+(encK (l.take i)).length)))⟩),(2,⟨true,.v (.s (.box 1 0))⟩),(17,vS tV l false),(18,vI l.length),(19,vI i)],[.arr true (t8.flats ((xs++[3])++(numL l.length++encK (l.take i)))),.cells [.box 2 0],.cells ([SV.fv D.nofn,SV.fnp 95 [],SV.fnp 98 [],SV.fn 99 [1]]:List SV),.dead]⟩)
   (fun i=>i≤l.length) (fun i=>l.length - i) 0 (Nat.zero_le _) (Turn.le (by simp -dsimp -implicitDefEqProofs [encK])) ?_
  intro i hi
  have hle:=flat_le (l:=l) i
  by_cases hil:i<l.length
  ·
   obtain ⟨k',n',s',l',hkd⟩:∃ k' n' s' l',l[i]=mkV k' n' s' l':=⟨_,_,_,_,(mkV_eta _).symm⟩
   have hx:l[i]?=some (mkV k' n' s' l'):=by rw [List.getElem?_eq_getElem hil,hkd]
   have hmem:=List.getElem_mem hil
   rw [hkd] at hmem
   have hdk:=dep_kid rfl hd hmem
   have hfx:=hfk _ hmem
   have hrx:=hrl _ hmem
   have hle2:=flat_le (l:=l) (i+1)
   have hs:=flat_snoc hil
   rw [hs,List.length_append,hkd] at hle2
   rw [hkd] at hs
   have hhd:hV.hd (mkV k' n' s' l')=(k',n',s',()):=hd_mk hV _ _
   have hkk:(mkV k' n' s' l').kids=l':=kids_mk hV _ _
   have e0:xs++3::(numL l.length++encK (l.take i))++encL (mkV k' n' s' l')=xs++3::(numL l.length++encK (l.take (i+1))):=by rw [hs]; simp
   have e1:(xs++3::(numL l.length++encK (l.take i))).length+(encL (mkV k' n' s' l')).length=xs.length+1+(numL l.length).length+(encK (l.take (i+1))).length:=by rw [← List.length_append,e0]; simp only [List.length_append,List.length_cons]; omega
   rcases form_k hfx with ⟨rfl,rfl,rfl⟩ | ⟨rfl,rfl,rfl⟩ | ⟨rfl,rfl,rfl,_⟩
   ·
    have hok:okE 1000 1 n' ⟨#[]⟩ []:=⟨by rw [dep_3,if_neg (by decide)]; decide,hfx,hrx,by omega⟩
    simp -dsimp -implicitDefEqProofs [add2_all,rng2,rng3,conW12,conW3,hx,hhd,hkk,cw1_all,cw1_S,inI64]
    refine ⟨fun _=>⟨hil,_,rfl,by simp; omega,hok,by simp; omega,⟨by omega,by omega⟩,i+1,by omega,by omega,?_⟩,fun q=>by omega⟩
    rw [e1,e0]
    refine TurnT.trans (TurnT.le (s':=⟨[(0,⟨true,.v (.s (.own t8 0 (xs.length+1+(numL l.length).length+(encK (l.take (i+1))).length)))⟩),(2,⟨true,.v (.s (.box 1 0))⟩),(17,vS tV l false),(18,vI l.length),(19,vI ((i:Int)+1))],[.arr true (t8.flats (xs++3::(numL l.length++encK (l.take (i+1))))),.cells [.box 2 0],.cells ([SV.fv D.nofn,SV.fnp 95 [],SV.fnp 98 [],SV.fn 99 [1]]:List SV),.dead,_]⟩) (by simp -dsimp -implicitDefEqProofs; rfl)) ?_
    exact TurnT.trunc X0_ok (hp:=[.arr true (t8.flats (xs++3::(numL l.length++encK (l.take (i+1))))),.cells [.box 2 0],.cells ([SV.fv D.nofn,SV.fnp 95 [],SV.fnp 98 [],SV.fn 99 [1]]:List SV),.dead]) (junk:=[_]) (by simp) (by simp only [List.length_cons,List.length_nil,List.all_cons,List.all_nil,arr_below,Bool.and_true] <;> simp [Blk.below,SV.below]) (by simp -dsimp -implicitDefEqProofs []) (by simp [envBelow,RV.below,AV.below,SV.below])
   ·
    have hok:okE 1000 2 0 s' []:=⟨by rw [dep_3,if_neg (by decide)]; decide,hfx,hrx,by omega⟩
    simp -dsimp -implicitDefEqProofs [add2_all,rng2,rng3,conW12,conW3,hx,hhd,hkk,cw1_all,cw1_S,inI64]
    refine ⟨fun _=>⟨hil,_,rfl,by simp; omega,hok,by simp; omega,⟨by omega,by omega⟩,i+1,by omega,by omega,?_⟩,fun q=>by omega⟩
    rw [e1,e0]
    refine TurnT.trans (TurnT.le (s':=⟨[(0,⟨true,.v (.s (.own t8 0 (xs.length+1+(numL l.length).length+(encK (l.take (i+1))).length)))⟩),(2,⟨true,.v (.s (.box 1 0))⟩),(17,vS tV l false),(18,vI l.length),(19,vI ((i:Int)+1))],[.arr true (t8.flats (xs++3::(numL l.length++encK (l.take (i+1))))),.cells [.box 2 0],.cells ([SV.fv D.nofn,SV.fnp 95 [],SV.fnp 98 [],SV.fn 99 [1]]:List SV),.dead,_]⟩) (by simp -dsimp -implicitDefEqProofs; rfl)) ?_
    exact TurnT.trunc X0_ok (hp:=[.arr true (t8.flats (xs++3::(numL l.length++encK (l.take (i+1))))),.cells [.box 2 0],.cells ([SV.fv D.nofn,SV.fnp 95 [],SV.fnp 98 [],SV.fn 99 [1]]:List SV),.dead]) (junk:=[_]) (by simp) (by simp only [List.length_cons,List.length_nil,List.all_cons,List.all_nil,arr_below,Bool.and_true] <;> simp [Blk.below,SV.below]) (by simp -dsimp -implicitDefEqProofs []) (by simp [envBelow,RV.below,AV.below,SV.below])
   ·
    have hok:okE m 3 0 ⟨#[]⟩ l':=⟨by omega,hfx,hrx,by omega⟩
    simp -dsimp -implicitDefEqProofs [add2_all,rng2,rng3,conW12,conW3,hx,hhd,hkk,cw1_all,cw1_S,inI64]
    refine ⟨fun _=>⟨hil,_,rfl,by simp; omega,hok,by simp; omega,⟨by omega,by omega⟩,i+1,by omega,by omega,?_⟩,fun q=>by omega⟩
    rw [e1,e0]
    refine TurnT.trans (TurnT.le (s':=⟨[(0,⟨true,.v (.s (.own t8 0 (xs.length+1+(numL l.length).length+(encK (l.take (i+1))).length)))⟩),(2,⟨true,.v (.s (.box 1 0))⟩),(17,vS tV l false),(18,vI l.length),(19,vI ((i:Int)+1))],[.arr true (t8.flats (xs++3::(numL l.length++encK (l.take (i+1))))),.cells [.box 2 0],.cells ([SV.fv D.nofn,SV.fnp 95 [],SV.fnp 98 [],SV.fn 99 [1]]:List SV),.dead,_]⟩) (by simp -dsimp -implicitDefEqProofs; rfl)) ?_
    exact TurnT.trunc X0_ok (hp:=[.arr true (t8.flats (xs++3::(numL l.length++encK (l.take (i+1))))),.cells [.box 2 0],.cells ([SV.fv D.nofn,SV.fnp 95 [],SV.fnp 98 [],SV.fn 99 [1]]:List SV),.dead]) (junk:=[_]) (by simp) (by simp only [List.length_cons,List.length_nil,List.all_cons,List.all_nil,arr_below,Bool.and_true] <;> simp [Blk.below,SV.below]) (by simp -dsimp -implicitDefEqProofs []) (by simp [envBelow,RV.below,AV.below,SV.below])
  ·
   have hx:l[i]?=none:=List.getElem?_eq_none (by omega)
   have ht:l.take i=l:=List.take_of_length_le (by omega)
   rw [ht]
   simp -dsimp -implicitDefEqProofs [add2_all,rng2,rng3,hx,cw1_all,cw1_S,inI64]
   refine ⟨fun q=>by omega,fun _ => ?_⟩
   rw [show xs.length+1+(numL l.length).length+(encK l).length=(xs++3::(numL l.length++encK l)).length by simp; omega]
   exact hK
 ·
  rename_i k n s l e f0 g1 g2 g3
  obtain ⟨rfl,⟨hd,hf,hr,hl⟩,rfl,rfl,rfl,rfl,hK⟩:=hpre
  refine ⟨rfl,?_⟩
  obtain ⟨hn,hrl⟩:=rng_mk hr
  have he:=enc_3 (k:=3) (n:=n) (s:=s) (l:=l) (by decide) (by decide)
  rw [he] at hl hK
  rw [List.length_cons,List.length_append] at hl
  have hll:=encK_len l
  have hfk:=(form_kid hf (by decide) (by decide)).2
  have w1:IntKind.u64.wrap (l.length:Int)=(l.length:Int):=wrap64 (by omega) (by omega)
  simp -dsimp -implicitDefEqProofs [f99,add2_all,-sigs,sigs_eqs,sigC_some,cw1_all,cw1_S,inI64]
  rw [w1,Int.toNat_natCast]
  refine ⟨by omega,[3],rfl,rfl,by omega,by omega,by decide,?_⟩
  refine WpD.loop (L:={ live:=[0,1,2,4,5,7,17,18,19,20],eps:=[(1,[4])],pi:=[(1,[(0,false),(1,false),(3,true),(4,true),(5,true),(6,true),(2,false),(7,false),(8,false)]),(5,[(0,false),(1,false),(2,false),(3,false),(4,false),(5,false),(6,false),(7,false),(8,false),(9,false),(10,false)])] }) hgR X0_ok (by kernel_rfl) nr_mixed
   (fun i:Nat=>⟨[(0,⟨true,.v (.s (.own t8 3 ([(3:Int)].length+(numL l.length).length+(encK (l.take i)).length)))⟩),(2,⟨true,.v (.s (.box 0 0))⟩),(17,vS tV l false),(18,vI l.length),(19,vI i)],[.cells [.box 1 0],.cells ([SV.fv D.nofn,SV.fnp 95 [],SV.fnp 98 [],SV.fn 99 [0]]:List SV),.dead,.arr true (t8.flats ([(3:Int)]++(numL l.length++encK (l.take i))))]⟩)
   (fun i=>i≤l.length) (fun i=>l.length - i) 0 (Nat.zero_le _) (Turn.le (by simp -dsimp -implicitDefEqProofs [encK])) ?_
  intro i hi
  have hle:=flat_le (l:=l) i
  by_cases hil:i<l.length
  ·
   obtain ⟨k',n',s',l',hkd⟩:∃ k' n' s' l',l[i]=mkV k' n' s' l':=⟨_,_,_,_,(mkV_eta _).symm⟩
   have hx:l[i]?=some (mkV k' n' s' l'):=by rw [List.getElem?_eq_getElem hil,hkd]
   have hmem:=List.getElem_mem hil
   rw [hkd] at hmem
   have hdk:=dep_kid rfl hd hmem
   have hfx:=hfk _ hmem
   have hrx:=hrl _ hmem
   have hle2:=flat_le (l:=l) (i+1)
   have hs:=flat_snoc hil
   rw [hs,List.length_append,hkd] at hle2
   rw [hkd] at hs
   have hhd:hV.hd (mkV k' n' s' l')=(k',n',s',()):=hd_mk hV _ _
   have hkk:(mkV k' n' s' l').kids=l':=kids_mk hV _ _
   have e0:3::(numL l.length++encK (l.take i))++encL (mkV k' n' s' l')=[(3:Int)]++(numL l.length++encK (l.take (i+1))):=by rw [hs]; simp
   have e1:(3::(numL l.length++encK (l.take i))).length+(encL (mkV k' n' s' l')).length=[(3:Int)].length+(numL l.length).length+(encK (l.take (i+1))).length:=by rw [← List.length_append,e0]; simp only [List.length_append]; omega
   rcases form_k hfx with ⟨rfl,rfl,rfl⟩ | ⟨rfl,rfl,rfl⟩ | ⟨rfl,rfl,rfl,_⟩
   ·
    have hok:okE 1000 1 n' ⟨#[]⟩ []:=⟨by rw [dep_3,if_neg (by decide)]; decide,hfx,hrx,by omega⟩
    simp -dsimp -implicitDefEqProofs [add2_all,rng2,rng3,conW12,conW3,hx,hhd,hkk,cw1_all,cw1_S,inI64]
    refine ⟨fun _=>⟨hil,_,rfl,by simp; omega,hok,by simp; omega,⟨by omega,by omega⟩,i+1,by omega,by omega,?_⟩,fun q=>by omega⟩
    rw [e1,e0]
    refine TurnT.trans (TurnT.le (s':=⟨[(0,⟨true,.v (.s (.own t8 3 ([(3:Int)].length+(numL l.length).length+(encK (l.take (i+1))).length)))⟩),(2,⟨true,.v (.s (.box 0 0))⟩),(17,vS tV l false),(18,vI l.length),(19,vI ((i:Int)+1))],[.cells [.box 1 0],.cells ([SV.fv D.nofn,SV.fnp 95 [],SV.fnp 98 [],SV.fn 99 [0]]:List SV),.dead,.arr true (t8.flats ([(3:Int)]++(numL l.length++encK (l.take (i+1))))),_]⟩) (by simp -dsimp -implicitDefEqProofs; rfl)) ?_
    exact TurnT.trunc X0_ok (hp:=[.cells [.box 1 0],.cells ([SV.fv D.nofn,SV.fnp 95 [],SV.fnp 98 [],SV.fn 99 [0]]:List SV),.dead,.arr true (t8.flats ([(3:Int)]++(numL l.length++encK (l.take (i+1)))))]) (junk:=[_]) (by simp) (by simp only [List.length_cons,List.length_nil,List.all_cons,List.all_nil,arr_below,Bool.and_true] <;> simp [Blk.below,SV.below]) (by simp -dsimp -implicitDefEqProofs []) (by simp [envBelow,RV.below,AV.below,SV.below])
   ·
    have hok:okE 1000 2 0 s' []:=⟨by rw [dep_3,if_neg (by decide)]; decide,hfx,hrx,by omega⟩
    simp -dsimp -implicitDefEqProofs [add2_all,rng2,rng3,conW12,conW3,hx,hhd,hkk,cw1_all,cw1_S,inI64]
    refine ⟨fun _=>⟨hil,_,rfl,by simp; omega,hok,by simp; omega,⟨by omega,by omega⟩,i+1,by omega,by omega,?_⟩,fun q=>by omega⟩
    rw [e1,e0]
    refine TurnT.trans (TurnT.le (s':=⟨[(0,⟨true,.v (.s (.own t8 3 ([(3:Int)].length+(numL l.length).length+(encK (l.take (i+1))).length)))⟩),(2,⟨true,.v (.s (.box 0 0))⟩),(17,vS tV l false),(18,vI l.length),(19,vI ((i:Int)+1))],[.cells [.box 1 0],.cells ([SV.fv D.nofn,SV.fnp 95 [],SV.fnp 98 [],SV.fn 99 [0]]:List SV),.dead,.arr true (t8.flats ([(3:Int)]++(numL l.length++encK (l.take (i+1))))),_]⟩) (by simp -dsimp -implicitDefEqProofs; rfl)) ?_
    exact TurnT.trunc X0_ok (hp:=[.cells [.box 1 0],.cells ([SV.fv D.nofn,SV.fnp 95 [],SV.fnp 98 [],SV.fn 99 [0]]:List SV),.dead,.arr true (t8.flats ([(3:Int)]++(numL l.length++encK (l.take (i+1)))))]) (junk:=[_]) (by simp) (by simp only [List.length_cons,List.length_nil,List.all_cons,List.all_nil,arr_below,Bool.and_true] <;> simp [Blk.below,SV.below]) (by simp -dsimp -implicitDefEqProofs []) (by simp [envBelow,RV.below,AV.below,SV.below])
   ·
    have hok:okE m 3 0 ⟨#[]⟩ l':=⟨by omega,hfx,hrx,by omega⟩
    simp -dsimp -implicitDefEqProofs [add2_all,rng2,rng3,conW12,conW3,hx,hhd,hkk,cw1_all,cw1_S,inI64]
    refine ⟨fun _=>⟨hil,_,rfl,by simp; omega,hok,by simp; omega,⟨by omega,by omega⟩,i+1,by omega,by omega,?_⟩,fun q=>by omega⟩
    rw [e1,e0]
    refine TurnT.trans (TurnT.le (s':=⟨[(0,⟨true,.v (.s (.own t8 3 ([(3:Int)].length+(numL l.length).length+(encK (l.take (i+1))).length)))⟩),(2,⟨true,.v (.s (.box 0 0))⟩),(17,vS tV l false),(18,vI l.length),(19,vI ((i:Int)+1))],[.cells [.box 1 0],.cells ([SV.fv D.nofn,SV.fnp 95 [],SV.fnp 98 [],SV.fn 99 [0]]:List SV),.dead,.arr true (t8.flats ([(3:Int)]++(numL l.length++encK (l.take (i+1))))),_]⟩) (by simp -dsimp -implicitDefEqProofs; rfl)) ?_
    exact TurnT.trunc X0_ok (hp:=[.cells [.box 1 0],.cells ([SV.fv D.nofn,SV.fnp 95 [],SV.fnp 98 [],SV.fn 99 [0]]:List SV),.dead,.arr true (t8.flats ([(3:Int)]++(numL l.length++encK (l.take (i+1)))))]) (junk:=[_]) (by simp) (by simp only [List.length_cons,List.length_nil,List.all_cons,List.all_nil,arr_below,Bool.and_true] <;> simp [Blk.below,SV.below]) (by simp -dsimp -implicitDefEqProofs []) (by simp [envBelow,RV.below,AV.below,SV.below])
  ·
   have hx:l[i]?=none:=List.getElem?_eq_none (by omega)
   have ht:l.take i=l:=List.take_of_length_le (by omega)
   rw [ht]
   simp -dsimp -implicitDefEqProofs [add2_all,rng2,rng3,hx,cw1_all,cw1_S,inI64]
   refine ⟨fun q=>by omega,fun _ => ?_⟩
   rw [show 1+(numL l.length).length+(encK l).length=(3::(numL l.length++encK l)).length by simp; omega]
   exact hK
 ·
  exact hpre.elim
def conNewW:ECon2:={ wp:=fun args hp K=>match args,hp with
 | [],[]=>K (.v (.s (.box 0 0))) [.cells [.fv .nofn,.fnp 95 [],.fnp 98 [],.fn 99 [1]],.cells [.box 0 0]]
 | _,_=>False }
theorem neww_ok:EffOk2 prog 56 conNewW:=by
 refine effOk2D (L:={ live:=[0,1] }) cw0_good rfl nr_mixed func56 rfl conNewW 0 (by decide) (by kernel_rfl) ?_
 intro args hp K hpre hlens
 simp only [conNewW] at hpre
 split at hpre
 case h_2=>exact hpre.elim
 refine ⟨rfl,?_⟩
 simp -dsimp -implicitDefEqProofs [f56,rng2,rng3,cw0_all,cw0_S,inI64]
 exact hpre
def cw2Γ:List (FuncId×Con):=(55,conCodK)::cw00Γ
theorem cw2Γ_ok:OkΓ cw2Γ:=by
 simp only [OkΓ,cw2Γ,List.forall_mem_cons]
 exact ⟨⟨enters_of func55 (by kernel_rfl) rfl,codk_ok⟩,cw00Γ_ok⟩
def cw2E:=cw00E
theorem cw2E_ok:OkE cw2E:=cw00E_ok
def cw2P:=cw00P
theorem cw2P_ok:OkP cw2P:=cw00P_ok
def cw2F:List (FuncId×ECon2):=(56,conNewW)::(95,(conW12 1))::(98,(conW12 2))::(99,(conW3 17))::cw00F
theorem cw2F_ok:OkF cw2F:=by
 simp only [OkF,cw2F,List.forall_mem_cons]
 exact ⟨⟨enters_of func56 (by kernel_rfl) rfl,neww_ok⟩,⟨enters_of func95 (by kernel_rfl) rfl,w1_ok⟩,⟨enters_of func98 (by kernel_rfl) rfl,w2_ok⟩,⟨enters_of func99 (by kernel_rfl) rfl,(w3_ok 17)⟩,cw00F_ok⟩
def cw2:G:={ τ:=cdT,Γ:=cw2Γ,E:=cw2E,Pn:=cw2P,E2:=cw2F,te:=true }
theorem cw2_good:cw2.good prog:=good_of_all (cdT_ok _ rfl) cw2Γ_ok cw2E_ok cw2P_ok cw2F_ok
theorem cw2_all:(∀ t,cw2.td t=(look cdT t).getD .other)∧cw2.y=false∧cw2.Γ=cw2Γ∧cw2.E=cw2E∧cw2.Pn=cw2P∧cw2.E2=cw2F∧cw2.fz=[]∧cw2.te=true∧cw2.bo=false∧cw2.pm=false:=⟨fun _=>rfl,rfl,rfl,rfl,rfl,rfl,rfl,rfl,rfl,rfl⟩
def cw2_S:=And.intro (And.intro @cdT.eq_1 (And.intro @cw2Γ.eq_1 (And.intro @cw2E.eq_1 (And.intro @cw2P.eq_1 (And.intro @cw2F.eq_1 (And.intro @conCodK_eq (And.intro @conNewW.eq_1 (And.intro @conW12.eq_1 (@conW3.eq_1))))))))) cw00_S
theorem encod_ok:PureOk prog 19 conEncod:=by
 refine pureOkD (L:={ live:=[0,1,2,3,4,8],eps:=[(4,[1])],pi:=[(4,[(1,true),(2,true),(7,true),(0,false),(3,false),(4,false),(5,false),(6,false),(8,false),(9,false),(10,false)])] }) cw2_good rfl nr_mixed func19 rfl conEncod 1 (by decide) (by kernel_rfl) ?_
 intro args hpre hlens
 simp only [conEncod] at hpre
 split at hpre
 case h_2=>exact hpre.elim
 rename_i k n s l e
 obtain ⟨hd,hf,hr,hlen⟩:=hpre
 have hd2:depV (mkV k n s l)<1000:=by omega
 have hd3:depV (mkV k n s l)<17:=by omega
 rcases form_k hf with ⟨rfl,rfl,rfl⟩ | ⟨rfl,rfl,rfl⟩ | ⟨rfl,rfl,rfl,_⟩
 all_goals refine ⟨rfl,?_⟩
 ·
  simp -dsimp -implicitDefEqProofs [f19,conEncod_eq,conCodK_eq,conNewW,conW12,conW3,rng2,rng3,-sigs,sigs_eqs,sigC_some,cw2_all,cw2_S,inI64]
  exact ⟨⟨hd,hf⟩,by omega,hf,hr,hlen⟩
 ·
  simp -dsimp -implicitDefEqProofs [f19,conEncod_eq,conCodK_eq,conNewW,conW12,conW3,rng2,rng3,-sigs,sigs_eqs,sigC_some,cw2_all,cw2_S,inI64]
  exact ⟨⟨hd,hf⟩,by omega,hf,hr,hlen⟩
 ·
  simp -dsimp -implicitDefEqProofs [f19,conEncod_eq,conCodK_eq,conNewW,conW12,conW3,rng2,rng3,-sigs,sigs_eqs,sigC_some,cw2_all,cw2_S,inI64]
  exact ⟨⟨hd,hf⟩,by omega,hf,hr,hlen⟩
def conMakeN:Con:=⟨fun args=>(match args with
 | [.s (.int .i64 n)]=>0≤n∧n<9223372036854775808
 | _=>False),fun args=>match args with
 | [.s (.int _ n)]=>.v (.agg [.bool false,.sl tI (dig n.natAbs) false])
 | _=>.v (.s .any)⟩
theorem conMakeN_eq (n:Int):conMakeN.pre [.s (.int .i64 n)]=(0≤n∧n<9223372036854775808)∧conMakeN.val [.s (.int .i64 n)]=.v (.agg [.bool false,.sl tI (dig n.natAbs) false]):=⟨rfl,rfl⟩
theorem nmake_ok:PureOk prog 156 conMakeN:=by
 refine pureOkD (L:={ live:=[0,2,3,4,9,13] }) nr0_good rfl nr_mixed func156 rfl conMakeN 1 (by decide) (by kernel_rfl) ?_
 intro args hpre hlens
 simp only [conMakeN] at hpre
 split at hpre
 case h_2=>exact hpre.elim
 rename_i n
 simp only [lenS] at hlens
 refine ⟨rfl,?_⟩
 simp -dsimp -implicitDefEqProofs [f156,conMakeN_eq,nr0_all,nr0_S,inI64]
 obtain ⟨hn,hb⟩:=hpre
 refine ⟨hn,fun _ => ?_⟩
 have hw:IntKind.u64.wrap n=(n.natAbs:Int):=by
  have h0:IntKind.u64.wrap n=n % 18446744073709551616:=rfl
  rw [h0]; omega
 rw [hw]
 refine WpD.turn _ (Turn.virt (k:=3) (t:=tI) (xs:=[]) (by simp [look])) ?_
 refine WpD.loop (L:={ live:=[0,2,3,4,9,13] }) nr0_good X0_ok nr_mixed (by kernel_rfl)
  (fun p:List Int×Nat=>⟨[(0,vI n),(2,⟨true,.v (.s (.box 0 0))⟩),(3,⟨true,.v (.s (.own tI 1 p.1.length))⟩),(4,⟨true,.v (.s (.int .u64 p.2))⟩)],[.cells [.bool false,.sl tI [] true],.arr (decide (0<p.1.length)) (tI.flats p.1)]⟩)
  (fun p=>okD p.1∧vl p.1+1073741824 ^ p.1.length*p.2=n.natAbs∧(p.2=0→canon p.1)) (fun p=>p.2) ([],n.natAbs) ⟨okD_nil,by simp [vl],fun _=>canon_nil⟩ (Turn.le (by simp -dsimp -implicitDefEqProofs)) ?_
 rintro ⟨out,k⟩ ⟨ho,hv,hc⟩
 simp only at ho hv hc
 have hmx:4096≤maxLen:=by simp only [maxLen]; omega
 rcases Nat.eq_zero_or_pos k with rfl | hk
 ·
  simp -dsimp -implicitDefEqProofs [conMakeN_eq,nr0_all,nr0_S,inI64]
  rw [← canon_eq (hc rfl)]
  simp at hv
  rw [hv]
  exact ⟨hn,rfl⟩
 ·
  have hk0:¬ k=0:=by omega
  simp -dsimp -implicitDefEqProofs [conMakeN_eq,hk0,nr0_all,nr0_S,inI64]
  have e1:IntKind.i64.wrap ((k:Int) % 1073741824)=((k % 1073741824:Nat):Int):=by
   rw [IntWalk.i64_in _ (by omega)]; omega
  have e2:(k:Int).fdiv 1073741824=((k / 1073741824:Nat):Int):=by rw [Int.fdiv_eq_ediv_of_nonneg _ (by decide)]; omega
  have hl:out.length≤2:=by
   apply Classical.byContradiction
   intro h3
   have h1:1073741824 ^ 3≤1073741824 ^ out.length:=Nat.pow_le_pow_right (by decide) (by omega)
   have h4:=Nat.mul_le_mul_left (1073741824 ^ out.length) hk
   simp only [Nat.reducePow] at h1
   omega
  have e4:(k:Int).tmod 1073741824=((k % 1073741824:Nat):Int):=by rw [Int.tmod_eq_emod_of_nonneg (by omega)]; omega
  obtain ⟨s1,s2⟩:=make_step (k:=(k:Int)) (n:=n) ho (by rw [Int.natAbs_natCast]; exact hv) (((k % 1073741824:Nat):Int)) (by rw [e4,if_neg (by omega)])
  have e3:((k:Int).tdiv 1073741824).natAbs=k / 1073741824:=by rw [Int.natAbs_tdiv]; rfl
  rw [e3] at s2
  intro _
  rw [e1,e2]
  exact ⟨⟨by omega,by omega⟩,by decide,out++[((k % 1073741824:Nat):Int)],k / 1073741824,⟨s1,s2,fun h0=>canon_snoc s1 (by omega)⟩,by omega,TurnT.le (by simp -dsimp -implicitDefEqProofs)⟩
def conDivX:Con:=⟨fun args=>(match args with
 | [.agg [.bool n1,.sl (.int .i64) m1 _],.agg [.bool n2,.sl (.int .i64) m2 _]]=>okBig n1 m1∧okBig n2 m2∧0<vl m2∧vl m2 ∣ vl m1
 | _=>False),fun args=>match args with
 | [.agg [.bool n1,.sl (.int .i64) m1 _],.agg [.bool n2,.sl (.int .i64) m2 _]]=>.tup [.agg [.bool ((n1 != n2)&&decide (dig (vl m1 / vl m2)≠[])),.sl tI (dig (vl m1 / vl m2)) false],.agg [.bool false,.sl tI [] false],aI 0]
 | _=>.v (.s .any)⟩
theorem conDivX_eq (n1:Bool) (m1:List (Ty.T tI)) (exm1:Bool) (n2:Bool) (m2:List (Ty.T tI)) (exm2:Bool):conDivX.pre [.agg [.bool n1,.sl tI m1 exm1],.agg [.bool n2,.sl tI m2 exm2]]=(okBig n1 m1∧okBig n2 m2∧0<vl m2∧vl m2 ∣ vl m1)∧conDivX.val [.agg [.bool n1,.sl tI m1 exm1],.agg [.bool n2,.sl tI m2 exm2]]=.tup [.agg [.bool ((n1 != n2)&&decide (dig (vl m1 / vl m2)≠[])),.sl tI (dig (vl m1 / vl m2)) false],.agg [.bool false,.sl tI [] false],aI 0]:=⟨rfl,rfl⟩
theorem div9_ok:PureOk prog 154 conDivX:=by
 refine pureOkD (L:={ live:=[0,1,2,3,4,5,6,7,8,9,10,11,12,13,18,25,42,70],fl:=[(14,[(0,0),(1,0),(1,3)])] }) nr7_good rfl nr_mixed func154 rfl conDivX 2 (by decide) (by kernel_rfl) ?_
 intro args hpre hlens
 simp only [conDivX] at hpre
 split at hpre
 case h_2=>exact hpre.elim
 rename_i n1 m1 e1 n2 m2 e2
 simp only [lenS] at hlens
 refine ⟨rfl,?_⟩
 simp -dsimp -implicitDefEqProofs [f154,conDivX_eq,nr7_all,nr7_S,inI64]
 change List Int at m1; change List Int at m2
 obtain ⟨h1,h2,h3,h4⟩:=hpre
 have ht:twoErr n1 m1 n2 m2=0:=twoErr_0.2 ⟨h1,h2⟩
 have hm:vl m1 % vl m2=0:=Nat.mod_eq_zero_of_dvd h4
 have hq:(dig (vl m1 / vl m2)).length≤2048:=dig_same h1.1 (Nat.div_le_self _ _) h1.2.1
 have hne:¬ m2=[]:=fun e=>by rw [e] at h3; exact absurd h3 (by decide)
 rw [hm,dig_zero,vl_dig]
 refine ⟨fun h=>absurd ht h,fun _=>⟨hne,fun _=>⟨⟨h1.1,h2.1,h3,h1.2.1,h2.2.1⟩,fun _=>rfl,fun _=>⟨(canon_dig _).1,okD_nil,⟨?_,?_⟩,fun _ _=>⟨⟨?_,?_⟩,?_⟩⟩⟩⟩⟩
 all_goals simp [limE,limD,hq,vl,dig_zero]
theorem div1_raw (n:Nat) (p:Addr) (v1 v2:Value) (w:World) (hc:w.cell? p=some (.int .i64 0)):CallsDIn (FW none) n prog 151 #[.pointer (some p),v1,v2] .returning w fun e u' w'=>e=.returned (.tuple #[])∧u'=.returning∧w'=w:=by
 refine callsDIn_of_wpSIn func151 rfl trivial fun c₀ cs hu => ?_
 apply wpSIn_seq
 apply wpSIn_region
 simp [wpOpsSIn,go_sem,hu,Tryz.ntmps151,Exit.thenS,hc]
 refine wpSIn_cond (t:=false) (by simp [Act.eval,Array.replicate]) ?_
 simp only [Bool.false_eq_true,if_false]
 refine wpSIn_of_wpIn rfl (wpIn_skip ?_)
 cases c₀
 simp_all [bodyPostS,results,Tryz.results151]
def divIdle:DCon:=⟨fun m args hp=>match m,args with
 | none,[.s (.box id 0),_,_]=>match Blk.look hp id with
  | .cells [.int .i64 0]=>some hp
  | _=>none
 | _,_=>none⟩
theorem div1_ok:DefCOk prog 151 divIdle:=by
 intro n w M0 bs hp hp' args vs m hrun hr hargs
 simp only [divIdle] at hrun
 split at hrun
 ·
  rename_i id _ _
  split at hrun
  ·
   rename_i hl
   injection hrun with hrun; subst hrun
   obtain ⟨b,cur,e,h1,h2,h3,h4⟩:=hr.cells id _ hl
   cases hargs with
   | cons ha h' =>
    cases h' with
    | cons hb h'' =>
     cases h'' with
     | cons hc hnil =>
      cases hnil
      obtain ⟨b',hb',rfl⟩:=ha.2 _ hl
      rw [h1] at hb'; cases hb'
      obtain ⟨u,k1,k2,k3⟩:=h4 0 _ rfl
      obtain rfl:u=.int .i64 0:=k3
      have hsz:cur.size=1:=by simpa using h3.symm
      have hcell:w.cell? ⟨b,0,none⟩=some (.int .i64 0):=by simp [World.cell?,h2,k1]
      obtain ⟨q1,q2⟩:=div1_raw n ⟨b,0,none⟩ _ _ w hcell
      refine ⟨q1,fun c cs hc hroom => ?_⟩
      obtain ⟨e',u',w',fr,⟨rfl,rfl,rfl⟩,rest⟩:=q2 c cs hc hroom
      exact ⟨_,_,_,fr,⟨⟨_,rfl⟩,rfl,hr,Step.refl _ _ _ _⟩,rest⟩
  ·
   cases hrun
 ·
  cases hrun
theorem ndivx_ok:PureOk prog 106 conDivX:=by
 refine pureDefD (L:={ live:=[0,1,2,3,4,5,6,7,8,17,34],fl:=[(5,[(0,0),(1,0),(1,3)]),(8,[(1,0),(3,0),(4,0)])] }) nr16_good rfl nr_mixed (dl_cons ⟨enters_of func109 (by kernel_rfl) rfl,caught_ok natCaught⟩ (dl_cons ⟨enters_of func151 (by kernel_rfl) rfl,div1_ok⟩ dl_nil)) func106 rfl conDivX 2 (by decide) (by kernel_rfl) ?_
 intro args hpre hlens
 simp only [conDivX] at hpre
 split at hpre
 case h_2=>exact hpre.elim
 rename_i n1 m1 e1 n2 m2 e2
 simp only [lenS] at hlens
 refine ⟨rfl,?_⟩
 simp -dsimp -implicitDefEqProofs [f106,conDivX_eq,divIdle,nr16_all,nr16_S,inI64]
 change List Int at m1; change List Int at m2
 obtain ⟨h1,h2,h3,h4⟩:=hpre
 have hm:vl m1 % vl m2=0:=Nat.mod_eq_zero_of_dvd h4
 have hq:(dig (vl m1 / vl m2)).length≤2048:=dig_same h1.1 (Nat.div_le_self _ _) h1.2.1
 have hne:¬ m2=[]:=fun e=>by rw [e] at h3; exact absurd h3 (by decide)
 have ht0:trimL []=[]:=trim_canon canon_nil
 rw [hm,dig_zero,trim_canon (canon_dig _),ht0]
 exact ⟨⟨h1,h2⟩,hne,fun _=>⟨⟨h1.1,h2.1,List.length_pos_iff.2 hne,h1.2.1,h2.2.1⟩,fun _=>rfl,fun _=>⟨hq,by decide,⟨rfl,rfl⟩,rfl⟩⟩⟩
def fa1Γ:List (FuncId×Con):=(106,conDivX)::(156,conMakeN)::nr20Γ
theorem fa1Γ_ok:OkΓ fa1Γ:=by
 simp only [OkΓ,fa1Γ,List.forall_mem_cons]
 exact ⟨⟨enters_of func106 (by kernel_rfl) rfl,ndivx_ok⟩,⟨enters_of func156 (by kernel_rfl) rfl,nmake_ok⟩,nr20Γ_ok⟩
def fa1E:=nr20E
theorem fa1E_ok:OkE fa1E:=nr20E_ok
def fa1P:=nr20P
theorem fa1P_ok:OkP fa1P:=nr20P_ok
def fa1F:=nr20F
theorem fa1F_ok:OkF fa1F:=nr20F_ok
def fa1:G:={ τ:=nrT,Γ:=fa1Γ,E:=fa1E,Pn:=fa1P,E2:=fa1F }
theorem fa1_good:fa1.good prog:=good_of_all (nrT_ok _ rfl) fa1Γ_ok fa1E_ok fa1P_ok fa1F_ok
theorem fa1_all:(∀ t,fa1.td t=(look nrT t).getD .other)∧fa1.y=false∧fa1.Γ=fa1Γ∧fa1.E=fa1E∧fa1.Pn=fa1P∧fa1.E2=fa1F∧fa1.fz=[]∧fa1.te=false∧fa1.bo=false∧fa1.pm=false:=⟨fun _=>rfl,rfl,rfl,rfl,rfl,rfl,rfl,rfl,rfl,rfl⟩
def fa1_S:=And.intro (And.intro @nrT.eq_1 (And.intro @fa1Γ.eq_1 (And.intro @fa1E.eq_1 (And.intro @fa1P.eq_1 (And.intro @fa1F.eq_1 (And.intro @conDivX_eq (@conMakeN_eq))))))) nr20_S
def lowN (a d:Nat):List Int:=dig (a / Nat.gcd a d)
def lowD (a d:Nat):List Int:=dig (d / Nat.gcd a d)
theorem gcd_pos {a d:Nat} (h:0<d):0<Nat.gcd a d:=Nat.gcd_pos_of_pos_right a h
def conLow:Con:=⟨fun args=>(match args with
 | [.agg [.bool n1,.sl (.int .i64) m1 _,.bool n2,.sl (.int .i64) m2 _]]=>okBig n1 m1∧okBig n2 m2∧n2=false∧0<vl m2
 | _=>False),fun args=>match args with
 | [.agg [.bool n1,.sl (.int .i64) m1 _,.bool n2,.sl (.int .i64) m2 _]]=>.v (.agg [.bool (n1&&decide (lowN (vl m1) (vl m2)≠[])),.sl tI (lowN (vl m1) (vl m2)) false,.bool false,.sl tI (lowD (vl m1) (vl m2)) false])
 | _=>.v (.s .any)⟩
theorem conLow_eq (n1:Bool) (m1:List (Ty.T tI)) (exm1:Bool) (n2:Bool) (m2:List (Ty.T tI)) (exm2:Bool):conLow.pre [.agg [.bool n1,.sl tI m1 exm1,.bool n2,.sl tI m2 exm2]]=(okBig n1 m1∧okBig n2 m2∧n2=false∧0<vl m2)∧conLow.val [.agg [.bool n1,.sl tI m1 exm1,.bool n2,.sl tI m2 exm2]]=.v (.agg [.bool (n1&&decide (lowN (vl m1) (vl m2)≠[])),.sl tI (lowN (vl m1) (vl m2)) false,.bool false,.sl tI (lowD (vl m1) (vl m2)) false]):=⟨rfl,rfl⟩
theorem low_ok:PureOk prog 60 conLow:=by
 refine pureOkD (L:={ live:=[0,1,2,3,4,7,39] }) fa1_good rfl nr_mixed func60 rfl conLow 1 (by decide) (by kernel_rfl) ?_
 intro args hpre hlens
 simp only [conLow] at hpre
 split at hpre
 case h_2=>exact hpre.elim
 rename_i n1 m1 e1 n2 m2 e2
 simp only [lenS] at hlens
 refine ⟨rfl,?_⟩
 simp -dsimp -implicitDefEqProofs [f60,conLow_eq,fa1_all,fa1_S,inI64]
 change List Int at m1; change List Int at m2
 obtain ⟨h1,h2,rfl,h4⟩:=hpre
 have hg:=gcd_pos (a:=vl m1) h4
 have og:okBig false (dig (Nat.gcd (vl m1) (vl m2))):=⟨canon_dig _,dig_same h2.1 (Nat.le_of_dvd h4 (Nat.gcd_dvd_right _ _)) h2.2.1,fun h=>(by cases h)⟩
 rw [vl_dig]
 exact ⟨⟨h1,h2⟩,⟨h1,og,hg,Nat.gcd_dvd_left _ _⟩,⟨h2,og,hg,Nat.gcd_dvd_right _ _⟩,fun h=>(by cases h),fun _=>⟨rfl,rfl,fun h=>(by cases h),rfl⟩⟩
def fa2Γ:List (FuncId×Con):=(60,conLow)::fa1Γ
theorem fa2Γ_ok:OkΓ fa2Γ:=by
 simp only [OkΓ,fa2Γ,List.forall_mem_cons]
 exact ⟨⟨enters_of func60 (by kernel_rfl) rfl,low_ok⟩,fa1Γ_ok⟩
def fa2E:=fa1E
theorem fa2E_ok:OkE fa2E:=fa1E_ok
def fa2P:=fa1P
theorem fa2P_ok:OkP fa2P:=fa1P_ok
def fa2F:=fa1F
theorem fa2F_ok:OkF fa2F:=fa1F_ok
def fa2:G:={ τ:=nrT,Γ:=fa2Γ,E:=fa2E,Pn:=fa2P,E2:=fa2F }
theorem fa2_good:fa2.good prog:=good_of_all (nrT_ok _ rfl) fa2Γ_ok fa2E_ok fa2P_ok fa2F_ok
theorem fa2_all:(∀ t,fa2.td t=(look nrT t).getD .other)∧fa2.y=false∧fa2.Γ=fa2Γ∧fa2.E=fa2E∧fa2.Pn=fa2P∧fa2.E2=fa2F∧fa2.fz=[]∧fa2.te=false∧fa2.bo=false∧fa2.pm=false:=⟨fun _=>rfl,rfl,rfl,rfl,rfl,rfl,rfl,rfl,rfl,rfl⟩
def fa2_S:=And.intro (And.intro @nrT.eq_1 (And.intro @fa2Γ.eq_1 (And.intro @fa2E.eq_1 (And.intro @fa2P.eq_1 (And.intro @fa2F.eq_1 (@conLow_eq)))))) fa1_S
def conOf:Con:=⟨fun args=>(match args with
 | [.agg [.bool n1,.sl (.int .i64) m1 _],.agg [.bool n2,.sl (.int .i64) m2 _]]=>okBig n1 m1∧okBig n2 m2∧n2=false∧0<vl m2
 | _=>False),fun args=>match args with
 | [.agg [.bool n1,.sl (.int .i64) m1 _],.agg [.bool n2,.sl (.int .i64) m2 _]]=>.tup [.agg [.bool (n1&&decide (lowN (vl m1) (vl m2)≠[])),.sl tI (lowN (vl m1) (vl m2)) false,.bool false,.sl tI (lowD (vl m1) (vl m2)) false],aI 0]
 | _=>.v (.s .any)⟩
theorem conOf_eq (n1:Bool) (m1:List (Ty.T tI)) (exm1:Bool) (n2:Bool) (m2:List (Ty.T tI)) (exm2:Bool):conOf.pre [.agg [.bool n1,.sl tI m1 exm1],.agg [.bool n2,.sl tI m2 exm2]]=(okBig n1 m1∧okBig n2 m2∧n2=false∧0<vl m2)∧conOf.val [.agg [.bool n1,.sl tI m1 exm1],.agg [.bool n2,.sl tI m2 exm2]]=.tup [.agg [.bool (n1&&decide (lowN (vl m1) (vl m2)≠[])),.sl tI (lowN (vl m1) (vl m2)) false,.bool false,.sl tI (lowD (vl m1) (vl m2)) false],aI 0]:=⟨rfl,rfl⟩
theorem of_ok:PureOk prog 155 conOf:=by
 refine pureDefD (L:={ live:=[0,1,2,3,4,5] }) fa2_good rfl nr_mixed (dl_cons ⟨enters_of func51 (by kernel_rfl) rfl,caught_ok ratioCaught⟩ dl_nil) func155 rfl conOf 2 (by decide) (by kernel_rfl) ?_
 intro args hpre hlens
 simp only [conOf] at hpre
 split at hpre
 case h_2=>exact hpre.elim
 rename_i n1 m1 e1 n2 m2 e2
 simp only [lenS] at hlens
 refine ⟨rfl,?_⟩
 simp -dsimp -implicitDefEqProofs [f155,conOf_eq,fa2_all,fa2_S,inI64]
 change List Int at m1; change List Int at m2
 obtain ⟨h1,h2,rfl,h4⟩:=hpre
 exact ⟨⟨natErr_0.2 h1,natErr_0.2 h2⟩,(vl_pos h2.1).1 h4,h1,h2,rfl,h4⟩
def fa3Γ:List (FuncId×Con):=(155,conOf)::fa2Γ
theorem fa3Γ_ok:OkΓ fa3Γ:=by
 simp only [OkΓ,fa3Γ,List.forall_mem_cons]
 exact ⟨⟨enters_of func155 (by kernel_rfl) rfl,of_ok⟩,fa2Γ_ok⟩
def fa3E:=fa2E
theorem fa3E_ok:OkE fa3E:=fa2E_ok
def fa3P:=fa2P
theorem fa3P_ok:OkP fa3P:=fa2P_ok
def fa3F:=fa2F
theorem fa3F_ok:OkF fa3F:=fa2F_ok
def fa3:G:={ τ:=nrT,Γ:=fa3Γ,E:=fa3E,Pn:=fa3P,E2:=fa3F }
theorem fa3_good:fa3.good prog:=good_of_all (nrT_ok _ rfl) fa3Γ_ok fa3E_ok fa3P_ok fa3F_ok
theorem fa3_all:(∀ t,fa3.td t=(look nrT t).getD .other)∧fa3.y=false∧fa3.Γ=fa3Γ∧fa3.E=fa3E∧fa3.Pn=fa3P∧fa3.E2=fa3F∧fa3.fz=[]∧fa3.te=false∧fa3.bo=false∧fa3.pm=false:=⟨fun _=>rfl,rfl,rfl,rfl,rfl,rfl,rfl,rfl,rfl,rfl⟩
def fa3_S:=And.intro (And.intro @nrT.eq_1 (And.intro @fa3Γ.eq_1 (And.intro @fa3E.eq_1 (And.intro @fa3P.eq_1 (And.intro @fa3F.eq_1 (@conOf_eq)))))) fa2_S
def conMkR:Con:=⟨fun args=>(match args with
 | [.s (.int .i64 n),.s (.int .i64 d)]=>(0≤n∧n<9223372036854775808)∧0<d∧d<9223372036854775808
 | _=>False),fun args=>match args with
 | [.s (.int _ n),.s (.int _ d)]=>.tup [.agg [.bool false,.sl tI (lowN n.natAbs d.natAbs) false,.bool false,.sl tI (lowD n.natAbs d.natAbs) false],aI 0]
 | _=>.v (.s .any)⟩
theorem conMkR_eq (n:Int) (d:Int):conMkR.pre [.s (.int .i64 n),.s (.int .i64 d)]=((0≤n∧n<9223372036854775808)∧0<d∧d<9223372036854775808)∧conMkR.val [.s (.int .i64 n),.s (.int .i64 d)]=.tup [.agg [.bool false,.sl tI (lowN n.natAbs d.natAbs) false,.bool false,.sl tI (lowD n.natAbs d.natAbs) false],aI 0]:=⟨rfl,rfl⟩
theorem mkr_ok:PureOk prog 112 conMkR:=by
 refine pureOkD (L:={ live:=[0,1,4,5] }) fa3_good rfl nr_mixed func112 rfl conMkR 2 (by decide) (by kernel_rfl) ?_
 intro args hpre hlens
 simp only [conMkR] at hpre
 split at hpre
 case h_2=>exact hpre.elim
 rename_i n d
 simp only [lenS] at hlens
 refine ⟨rfl,?_⟩
 simp -dsimp -implicitDefEqProofs [f112,conMkR_eq,fa3_all,fa3_S,inI64]
 obtain ⟨⟨q1,q2⟩,q3,q4⟩:=hpre
 have od:∀ x:Int,0≤x→x<9223372036854775808→okBig false (dig x.natAbs):=fun x h0 h1=>⟨canon_dig _,dig_le (k:=3) (by simp only [Nat.reducePow]; omega) (by decide),fun h=>(by cases h)⟩
 simp only [vl_dig]
 exact ⟨⟨q1,q2⟩,⟨by omega,q4⟩,⟨od n q1 q2,od d (by omega) q4,by omega⟩,trivial,trivial⟩
def conMulR:Con:=⟨fun args=>(match args with
 | [.agg [.bool n1,.sl (.int .i64) m1 _,.bool n2,.sl (.int .i64) m2 _],.agg [.bool k1,.sl (.int .i64) l1 _,.bool k2,.sl (.int .i64) l2 _]]=>okRat n1 m1 n2 m2∧okRat k1 l1 k2 l2∧m1.length+l1.length≤2048∧m2.length+l2.length≤2048
 | _=>False),fun args=>match args with
 | [.agg [.bool n1,.sl (.int .i64) m1 _,.bool n2,.sl (.int .i64) m2 _],.agg [.bool k1,.sl (.int .i64) l1 _,.bool k2,.sl (.int .i64) l2 _]]=>.tup [.agg [.bool ((n1 != k1)&&decide (lowN (vl m1*vl l1) (vl m2*vl l2)≠[])),.sl tI (lowN (vl m1*vl l1) (vl m2*vl l2)) false,.bool false,.sl tI (lowD (vl m1*vl l1) (vl m2*vl l2)) false],aI 0]
 | _=>.v (.s .any)⟩
theorem conMulR_eq (n1:Bool) (m1:List (Ty.T tI)) (exm1:Bool) (n2:Bool) (m2:List (Ty.T tI)) (exm2:Bool) (k1:Bool) (l1:List (Ty.T tI)) (exl1:Bool) (k2:Bool) (l2:List (Ty.T tI)) (exl2:Bool):conMulR.pre [.agg [.bool n1,.sl tI m1 exm1,.bool n2,.sl tI m2 exm2],.agg [.bool k1,.sl tI l1 exl1,.bool k2,.sl tI l2 exl2]]=(okRat n1 m1 n2 m2∧okRat k1 l1 k2 l2∧m1.length+l1.length≤2048∧m2.length+l2.length≤2048)∧conMulR.val [.agg [.bool n1,.sl tI m1 exm1,.bool n2,.sl tI m2 exm2],.agg [.bool k1,.sl tI l1 exl1,.bool k2,.sl tI l2 exl2]]=.tup [.agg [.bool ((n1 != k1)&&decide (lowN (vl m1*vl l1) (vl m2*vl l2)≠[])),.sl tI (lowN (vl m1*vl l1) (vl m2*vl l2)) false,.bool false,.sl tI (lowD (vl m1*vl l1) (vl m2*vl l2)) false],aI 0]:=⟨rfl,rfl⟩
theorem mulr_ok:PureOk prog 22 conMulR:=by
 refine pureDefD (L:={ live:=[0,1,2,3,4,5,6],fl:=[(4,[(1,0),(2,0),(4,0),(5,0),(6,0),(7,0)])] }) fa2_good rfl nr_mixed (dl_cons ⟨enters_of func51 (by kernel_rfl) rfl,caught_ok ratioCaught⟩ dl_nil) func22 rfl conMulR 2 (by decide) (by kernel_rfl) ?_
 intro args hpre hlens
 simp only [conMulR] at hpre
 split at hpre
 case h_2=>exact hpre.elim
 rename_i n1 m1 e1 n2 m2 e2 k1 l1 f1 k2 l2 f2
 simp only [lenS] at hlens
 refine ⟨rfl,?_⟩
 simp -dsimp -implicitDefEqProofs [f22,conMulR_eq,fa2_all,fa2_S,inI64]
 change List Int at m1; change List Int at m2; change List Int at l1; change List Int at l2
 obtain ⟨h1,h2,h3,h4⟩:=hpre
 rw [prodL_four]
 have o1:mulOk (n1,m1,()) (k1,l1,()):=⟨h1.1,h2.1,h3⟩
 have o2:mulOk (n2,m2,()) (k2,l2,()):=⟨h1.2.1,h2.2.1,h4⟩
 have b1:=okB_mulB o1
 have b2:=okB_mulB o2
 have p1:0<vl m2:=(vl_pos h1.2.1.1).2 (List.length_pos_iff.2 h1.2.2.2.1)
 have p2:0<vl l2:=(vl_pos h2.2.1.1).2 (List.length_pos_iff.2 h2.2.2.2.1)
 have hk:∀ k:Nat,k<2→mulOk ([(n1,m1,()),(k1,l1,()),(n2,m2,()),(k2,l2,())][2*k]?.getD zB) ([(k1,l1,()),(n2,m2,()),(k2,l2,())][2*k]?.getD zB):=fun k hk=>by
  rcases k with _ | _ | k
  ·
   exact o1
  ·
   exact o2
  ·
   omega
 obtain rfl:=h1.2.2.1
 obtain rfl:=h2.2.2.1
 have hs:(((n1 != k1)&&decide (dig (vl m1*vl l1)≠[])) && !decide (lowN (vl m1*vl l1) (vl m2*vl l2)=[]))=(n1 != k1 && !decide (lowN (vl m1*vl l1) (vl m2*vl l2)=[])):=by
  by_cases hz:dig (vl m1*vl l1)=[]
  ·
   have h0:=dig_nil.1 hz
   have e:lowN (vl m1*vl l1) (vl m2*vl l2)=[]:=by unfold lowN; rw [h0,Nat.zero_div,dig_zero]
   rw [decide_eq_true e]; simp
  ·
   rw [decide_eq_true hz,Bool.and_true]
 refine ⟨⟨h1,h2⟩,hk,⟨Nat.succ_pos _,by show (1:Int)<2; decide,⟨b1,b2,rfl,?_⟩,?_,?_,?_⟩,Nat.succ_pos _,by show (1:Int)<2; decide⟩
 ·
  show 0<vl (dig (vl m2*vl l2))
  rw [vl_dig]; exact Nat.mul_pos p1 p2
 ·
  show (((n1 != k1)&&decide (dig (vl m1*vl l1)≠[])) && !decide (lowN (vl (dig (vl m1*vl l1))) (vl (dig (vl m2*vl l2)))=[]))=_
  rw [vl_dig,vl_dig]; exact hs
 ·
  show lowN (vl (dig (vl m1*vl l1))) (vl (dig (vl m2*vl l2)))=_
  rw [vl_dig,vl_dig]
 ·
  show lowD (vl (dig (vl m1*vl l1))) (vl (dig (vl m2*vl l2)))=_
  rw [vl_dig,vl_dig]
def fa4Γ:List (FuncId×Con):=(154,conDivX)::nr23Γ
theorem fa4Γ_ok:OkΓ fa4Γ:=by
 simp only [OkΓ,fa4Γ,List.forall_mem_cons]
 exact ⟨⟨enters_of func154 (by kernel_rfl) rfl,div9_ok⟩,nr23Γ_ok⟩
def fa4E:=nr23E
theorem fa4E_ok:OkE fa4E:=nr23E_ok
def fa4P:=nr23P
theorem fa4P_ok:OkP fa4P:=nr23P_ok
def fa4F:=nr23F
theorem fa4F_ok:OkF fa4F:=nr23F_ok
def fa4:G:={ τ:=nrT,Γ:=fa4Γ,E:=fa4E,Pn:=fa4P,E2:=fa4F }
theorem fa4_good:fa4.good prog:=good_of_all (nrT_ok _ rfl) fa4Γ_ok fa4E_ok fa4P_ok fa4F_ok
theorem fa4_all:(∀ t,fa4.td t=(look nrT t).getD .other)∧fa4.y=false∧fa4.Γ=fa4Γ∧fa4.E=fa4E∧fa4.Pn=fa4P∧fa4.E2=fa4F∧fa4.fz=[]∧fa4.te=false∧fa4.bo=false∧fa4.pm=false:=⟨fun _=>rfl,rfl,rfl,rfl,rfl,rfl,rfl,rfl,rfl,rfl⟩
def fa4_S:=And.intro (And.intro @nrT.eq_1 (And.intro @fa4Γ.eq_1 (And.intro @fa4E.eq_1 (And.intro @fa4P.eq_1 (And.intro @fa4F.eq_1 (@conDivX_eq)))))) nr23_S
theorem rof_ok:PureOk prog 107 conOf:=by
 refine pureOkD (L:={ live:=[0,1,2,3,4,5,6,8,11,21,24,47] }) fa4_good rfl nr_mixed func107 rfl conOf 2 (by decide) (by kernel_rfl) ?_
 intro args hpre hlens
 simp only [conOf] at hpre
 split at hpre
 case h_2=>exact hpre.elim
 rename_i n1 m1 e1 n2 m2 e2
 simp only [lenS] at hlens
 refine ⟨rfl,?_⟩
 simp -dsimp -implicitDefEqProofs [f107,conOf_eq,fa4_all,fa4_S,inI64]
 change List Int at m1; change List Int at m2
 obtain ⟨h1,h2,rfl,h4⟩:=hpre
 have hg:=gcd_pos (a:=vl m1) h4
 have hne:¬ m2=[]:=fun e=>by rw [e] at h4; exact absurd h4 (by decide)
 have og:okBig false (dig (Nat.gcd (vl m1) (vl m2))):=⟨canon_dig _,dig_same h2.1 (Nat.le_of_dvd h4 (Nat.gcd_dvd_right _ _)) h2.2.1,fun h=>(by cases h)⟩
 have hd:gcdD n1 m1 false m2=dig (Nat.gcd (vl m1) (vl m2)):=by unfold gcdD; rw [if_pos (twoErr_0.2 ⟨h1,h2⟩)]
 rw [hd,vl_dig]
 exact ⟨⟨natErr_0.2 h1,natErr_0.2 h2⟩,fun _ _=>⟨hne,fun _=>⟨⟨h1,og,hg,Nat.gcd_dvd_left _ _⟩,⟨h2,og,hg,Nat.gcd_dvd_right _ _⟩,fun h=>(by cases h),fun _=>⟨rfl,rfl,fun h=>(by cases h),rfl⟩⟩⟩⟩
def fa5Γ:List (FuncId×Con):=(107,conOf)::fa4Γ
theorem fa5Γ_ok:OkΓ fa5Γ:=by
 simp only [OkΓ,fa5Γ,List.forall_mem_cons]
 exact ⟨⟨enters_of func107 (by kernel_rfl) rfl,rof_ok⟩,fa4Γ_ok⟩
def fa5E:=fa4E
theorem fa5E_ok:OkE fa5E:=fa4E_ok
def fa5P:=fa4P
theorem fa5P_ok:OkP fa5P:=fa4P_ok
def fa5F:=fa4F
theorem fa5F_ok:OkF fa5F:=fa4F_ok
def fa5:G:={ τ:=nrT,Γ:=fa5Γ,E:=fa5E,Pn:=fa5P,E2:=fa5F }
theorem fa5_good:fa5.good prog:=good_of_all (nrT_ok _ rfl) fa5Γ_ok fa5E_ok fa5P_ok fa5F_ok
theorem fa5_all:(∀ t,fa5.td t=(look nrT t).getD .other)∧fa5.y=false∧fa5.Γ=fa5Γ∧fa5.E=fa5E∧fa5.Pn=fa5P∧fa5.E2=fa5F∧fa5.fz=[]∧fa5.te=false∧fa5.bo=false∧fa5.pm=false:=⟨fun _=>rfl,rfl,rfl,rfl,rfl,rfl,rfl,rfl,rfl,rfl⟩
def fa5_S:=And.intro (And.intro @nrT.eq_1 (And.intro @fa5Γ.eq_1 (And.intro @fa5E.eq_1 (And.intro @fa5P.eq_1 (And.intro @fa5F.eq_1 (@conOf_eq)))))) fa4_S
theorem rmk_ok:PureOk prog 61 conMkR:=by
 refine pureOkD (L:={ live:=[0,1,4,5] }) fa5_good rfl nr_mixed func61 rfl conMkR 2 (by decide) (by kernel_rfl) ?_
 intro args hpre hlens
 simp only [conMkR] at hpre
 split at hpre
 case h_2=>exact hpre.elim
 rename_i n d
 simp only [lenS] at hlens
 refine ⟨rfl,?_⟩
 simp -dsimp -implicitDefEqProofs [f61,conMkR_eq,fa5_all,fa5_S,inI64]
 obtain ⟨⟨q1,q2⟩,q3,q4⟩:=hpre
 have od:∀ x:Int,0≤x→x<9223372036854775808→okBig (decide (x<0)) (dig x.natAbs):=fun x h0 h1=>⟨canon_dig _,dig_le (k:=3) (by simp only [Nat.reducePow]; omega) (by decide),fun h=>absurd (of_decide_eq_true h) (by omega)⟩
 simp only [vl_dig]
 exact ⟨⟨by omega,by omega⟩,⟨by omega,by omega⟩,⟨od n q1 q2,od d (by omega) q4,by omega,by omega⟩,fun h=>absurd h (by omega),trivial,trivial⟩
structure Ordr {α:Type} (D:α→Prop) (c:α→α→Int):Prop where
 anti:∀ x y,D x→D y→c y x = - c x y
 trans:∀ x y z,D x→D y→D z→c x y≤0→c y z≤0→c x z≤0
theorem Ordr.strict {α:Type} {D:α→Prop} {c:α→α→Int} (h:Ordr D c) {x y z:α} (hx:D x) (hy:D y) (hz:D z) (h1:c x y≤0) (h2:c y z≤0) (h3:c x y<0∨c y z<0):c x z<0:=by
 have a1:=h.anti x y hx hy
 have a2:=h.anti y z hy hz
 have a3:=h.anti x z hx hz
 have t1:=h.trans x y z hx hy hz h1 h2
 rcases Int.lt_or_eq_of_le t1 with t | t
 ·
  exact t
 ·
  exfalso
  rcases h3 with h3 | h3
  ·
   have:=h.trans y z x hy hz hx h2 (by omega)
   omega
  ·
   have:=h.trans z x y hz hx hy (by omega) h1
   omega
theorem Ordr.eqv {α:Type} {D:α→Prop} {c:α→α→Int} (h:Ordr D c) {x y z:α} (hx:D x) (hy:D y) (hz:D z) (h1:c x y=0) (h2:c y z=0):c x z=0:=by
 have a1:=h.anti x y hx hy
 have a2:=h.anti y z hy hz
 have a3:=h.anti x z hx hz
 have t1:=h.trans x y z hx hy hz (by omega) (by omega)
 have t2:=h.trans z y x hz hy hx (by omega) (by omega)
 omega
theorem Ordr.zero {α:Type} (D:α→Prop):Ordr D (fun _ _=>0):=⟨fun _ _ _ _=>rfl,fun _ _ _ _ _ _ _ _=>Int.le_refl _⟩
theorem Ordr.lex {α:Type} {D:α→Prop} {c d:α→α→Int} (hc:Ordr D c) (hd:Ordr D d):Ordr D (fun x y=>if c x y=0 then d x y else c x y):=by
 refine ⟨fun x y hx hy => ?_,fun x y z hx hy hz h1 h2 => ?_⟩
 ·
  have a1:=hc.anti x y hx hy
  have a2:=hd.anti x y hx hy
  split <;> split <;> omega
 ·
  have s1:=@Ordr.strict _ _ _ hc x y z hx hy hz
  have e1:=@Ordr.eqv _ _ _ hc x y z hx hy hz
  by_cases q1:c x y=0
  ·
   by_cases q2:c y z=0
   ·
    rw [if_pos q1] at h1
    rw [if_pos q2] at h2
    rw [if_pos (e1 q1 q2)]
    exact hd.trans x y z hx hy hz h1 h2
   ·
    rw [if_neg q2] at h2
    have:=s1 (by omega) h2 (.inr (by omega))
    rw [if_neg (by omega)]
    omega
  ·
   rw [if_neg q1] at h1
   by_cases q2:c y z=0
   ·
    have:=s1 h1 (by omega) (.inl (by omega))
    rw [if_neg (by omega)]
    omega
   ·
    rw [if_neg q2] at h2
    have:=s1 h1 h2 (.inl (by omega))
    rw [if_neg (by omega)]
    omega
theorem Ordr.pull {α β:Type} {D:α→Prop} {c:α→α→Int} (h:Ordr D c) (f:β→α) {E:β→Prop} (hf:∀ x,E x→D (f x)):Ordr E (fun x y=>c (f x) (f y)) :=
 ⟨fun x y hx hy=>h.anti _ _ (hf x hx) (hf y hy),fun x y z hx hy hz=>h.trans _ _ _ (hf x hx) (hf y hy) (hf z hz)⟩
theorem Ordr.congr {α:Type} {D:α→Prop} {c d:α→α→Int} (h:Ordr D c) (he:∀ x y,D x→D y→d x y=c x y):Ordr D d :=
 ⟨fun x y hx hy=>by rw [he _ _ hy hx,he _ _ hx hy]; exact h.anti x y hx hy,fun x y z hx hy hz h1 h2=>by rw [he _ _ hx hz]; rw [he _ _ hx hy] at h1; rw [he _ _ hy hz] at h2; exact h.trans x y z hx hy hz h1 h2⟩
theorem cmpZ_le {a b:Int}:cmpZ a b≤0↔a≤b:=by
 unfold cmpZ
 split
 ·
  constructor <;> intro <;> omega
 ·
  split
  ·
   constructor <;> intro <;> omega
  ·
   constructor <;> intro <;> omega
theorem cmpZ_anti (a b:Int):cmpZ b a = - cmpZ a b:=by
 rcases Int.lt_trichotomy a b with h | h | h
 ·
  rw [cmpZ_lt h,cmpZ_gt h]; rfl
 ·
  subst h; rw [cmpZ_zero.2 rfl]; rfl
 ·
  rw [cmpZ_gt h,cmpZ_lt h]
theorem ordr_int {α:Type} (D:α→Prop) (f:α→Int):Ordr D (fun x y=>cmpZ (f x) (f y)) :=
 ⟨fun x y _ _=>cmpZ_anti _ _,fun x y z _ _ _ h1 h2=>cmpZ_le.2 (Int.le_trans (cmpZ_le.1 h1) (cmpZ_le.1 h2))⟩
theorem cross_le {p1 q1 p2 q2 p3 q3:Int} (h1:0<q1) (h2:0<q2) (h3:0<q3) (a:p1*q2≤p2*q1) (b:p2*q3≤p3*q2):p1*q3≤p3*q1:=by
 have e1:p1*q2*q3≤p2*q1*q3:=Int.mul_le_mul_of_nonneg_right a (by omega)
 have e2:p2*q3*q1≤p3*q2*q1:=Int.mul_le_mul_of_nonneg_right b (by omega)
 have e3:(p1*q3)*q2≤(p3*q1)*q2:=by
  have f1:p1*q3*q2=p1*q2*q3:=by rw [Int.mul_assoc,Int.mul_comm q3,← Int.mul_assoc]
  have f2:p2*q1*q3=p2*q3*q1:=by rw [Int.mul_assoc,Int.mul_comm q1,← Int.mul_assoc]
  have f3:p3*q1*q2=p3*q2*q1:=by rw [Int.mul_assoc,Int.mul_comm q1,← Int.mul_assoc]
  omega
 exact Int.le_of_mul_le_mul_right e3 h2
theorem okR_den {x:tRat.T} (h:okR x):(0:Int)<(vl x.2.1.2.1:Int):=by
 have:0<vl x.2.1.2.1:=(vl_pos h.2.1.1).2 (List.length_pos_iff.2 h.2.2.2.1)
 omega
theorem ordr_rat:Ordr okR cmpR :=
 ⟨fun x y _ _=>cmpZ_anti _ _,fun x y z hx hy hz h1 h2=>cmpZ_le.2 (cross_le (okR_den hx) (okR_den hy) (okR_den hz) (cmpZ_le.1 h1) (cmpZ_le.1 h2))⟩
theorem Ordr.mono {α:Type} {D E:α→Prop} {c:α→α→Int} (h:Ordr D c) (he:∀ x,E x→D x):Ordr E c :=
 ⟨fun x y hx hy=>h.anti x y (he x hx) (he y hy),fun x y z hx hy hz=>h.trans x y z (he x hx) (he y hy) (he z hz)⟩
theorem insert_sorted {α:Type} {D:α→Prop} {c:α→α→Int} (ho:Ordr D c) {x:α} (hx:D x):∀ ys:List α,(∀ y∈ys,D y)→ys.Pairwise (fun a b=>c a b≤0)→∃ zs:List α,zs.Perm (x::ys)∧zs.Pairwise (fun a b=>c a b≤0)
 | [],_,_=>⟨[x],List.Perm.refl _,by simp⟩
 | y::ys,hd,hp=>by
  obtain ⟨h1,h2⟩:=List.pairwise_cons.1 hp
  have hy:D y:=hd y (by simp)
  by_cases h:c x y≤0
  ·
   refine ⟨x::y::ys,List.Perm.refl _,List.pairwise_cons.2 ⟨fun z hz => ?_,hp⟩⟩
   rcases List.mem_cons.1 hz with rfl | hz
   ·
    exact h
   ·
    exact ho.trans _ _ _ hx hy (hd z (by simp [hz])) h (h1 z hz)
  ·
   obtain ⟨zs,q1,q2⟩:=insert_sorted ho hx ys (fun z hz=>hd z (by simp [hz])) h2
   refine ⟨y::zs,(List.Perm.cons y q1).trans (List.Perm.swap _ _ _),List.pairwise_cons.2 ⟨fun z hz => ?_,q2⟩⟩
   rcases List.mem_cons.1 (q1.mem_iff.1 hz) with rfl | hz
   ·
    have:=ho.anti _ _ hx hy
    omega
   ·
    exact h1 z hz
theorem exists_sorted {α:Type} {D:α→Prop} {c:α→α→Int} (ho:Ordr D c):∀ l:List α,(∀ x∈l,D x)→∃ ys:List α,ys.Perm l∧ys.Pairwise (fun a b=>c a b≤0)
 | [],_=>⟨[],List.Perm.refl _,by simp⟩
 | x::l,hd=>by
  obtain ⟨ys,h1,h2⟩:=exists_sorted ho l (fun z hz=>hd z (by simp [hz]))
  obtain ⟨zs,q1,q2⟩:=insert_sorted ho (hd x (by simp)) ys (fun z hz=>hd z (List.mem_cons_of_mem _ (h1.mem_iff.1 hz))) h2
  exact ⟨zs,q1.trans (List.Perm.cons x h1),q2⟩
theorem lowN_one (a:Nat):lowN a 1=dig a:=by unfold lowN; rw [Nat.gcd_one_right,Nat.div_one]
theorem lowD_one (a:Nat):lowD a 1=[1]:=by unfold lowD; rw [Nat.gcd_one_right,Nat.div_one,dig_one]
theorem okBig_dig {n k:Nat} (h:n<1073741824 ^ k) (hk:k≤2048):okBig false (dig n):=⟨canon_dig _,dig_le h hk,fun h=>(by cases h)⟩
theorem okBig_one:okBig false [1]:=by rw [← dig_one]; exact okBig_dig (k:=1) (by decide) (by decide)
theorem okRat_whole {n:Nat} (h:n<9223372036854775808):okRat false (dig n) false [1] :=
 ⟨okBig_dig (k:=3) (by simp only [Nat.reducePow]; omega) (by decide),okBig_one,rfl,by simp,by rw [vl_one]; exact Nat.gcd_one_right _⟩
theorem vl_one1:vl [1]=1:=by rw [vl_one]; rfl
theorem sgn_abs (s:Bool) (m:List Int):sgn s m=if s=true then - (vl m:Int) else (vl m:Int):=by cases s <;> simp [sgn]
theorem low_len1 {a d k:Nat} (h:a<1073741824 ^ k):(lowN a d).length≤k:=dig_len.2 (Nat.lt_of_le_of_lt (Nat.div_le_self _ _) h)
theorem low_len2 {a d k:Nat} (h:d<1073741824 ^ k):(lowD a d).length≤k:=dig_len.2 (Nat.lt_of_le_of_lt (Nat.div_le_self _ _) h)
theorem okRat_low {s:Bool} {a d k1 k2:Nat} (hd:0<d) (h1:a<1073741824 ^ k1) (hk1:k1≤2048) (h2:d<1073741824 ^ k2) (hk2:k2≤2048):okRat (s&&decide (lowN a d≠[])) (lowN a d) false (lowD a d):=by
 have hg:=gcd_pos (a:=a) hd
 have p2:0<d / Nat.gcd a d:=Nat.div_pos (Nat.le_of_dvd hd (Nat.gcd_dvd_right _ _)) hg
 refine ⟨⟨canon_dig _,Nat.le_trans (low_len1 h1) hk1,fun h => ?_⟩,⟨canon_dig _,Nat.le_trans (low_len2 h2) hk2,fun h=>by cases h⟩,rfl,fun h => ?_,?_⟩
 ·
  simp only [Bool.and_eq_true,decide_eq_true_eq] at h
  exact h.2
 ·
  have:=dig_nil.1 h
  omega
 ·
  unfold lowN lowD
  rw [vl_dig,vl_dig]
  rw [Nat.gcd_div (Nat.gcd_dvd_left a d) (Nat.gcd_dvd_right a d),Nat.div_self hg]
theorem small_mul {n:Nat} {m:List Int} (hn:n≤1000) (hm:okD m):n*vl m<1073741824 ^ (m.length+1):=by
 have h1:=vl_lt hm
 have h2:n*vl m≤1000*vl m:=Nat.mul_le_mul_right _ hn
 rw [Nat.pow_succ]
 generalize 1073741824 ^ m.length=X at *
 omega
def okS (n1:Bool) (m1:List Int) (n2:Bool) (m2:List Int):Prop:=okRat n1 m1 n2 m2∧m1.length≤512∧m2.length≤512
noncomputable instance (n1:Bool) (m1:List Int) (n2:Bool) (m2:List Int):Decidable (okS n1 m1 n2 m2):=Classical.propDecidable _
theorem okRat_pos {n1:Bool} {m1:List Int} {n2:Bool} {m2:List Int} (h:okRat n1 m1 n2 m2):0<vl m2:=(vl_pos h.2.1.1).2 (List.length_pos_iff.2 h.2.2.2.1)
theorem low_le {K L:Int} {a d:Nat} {s:Bool} (hd:0<d):sgn (s&&decide (lowN a d≠[])) (lowN a d)*L≤K*(vl (lowD a d):Int)↔(if s=true then - (a:Int) else (a:Int))*L≤K*(d:Int):=by
 have hg:=gcd_pos (a:=a) hd
 have hx:Nat.gcd a d*(a / Nat.gcd a d)=a:=Nat.mul_div_cancel' (Nat.gcd_dvd_left a d)
 have hy:Nat.gcd a d*(d / Nat.gcd a d)=d:=Nat.mul_div_cancel' (Nat.gcd_dvd_right a d)
 have v1:vl (lowN a d)=a / Nat.gcd a d:=vl_dig _
 have v2:vl (lowD a d)=d / Nat.gcd a d:=vl_dig _
 have hs:sgn (s&&decide (lowN a d≠[])) (lowN a d)=if s=true then - ((a / Nat.gcd a d:Nat):Int) else ((a / Nat.gcd a d:Nat):Int):=by
  cases s
  ·
   simp [sgn_abs,v1]
  ·
   by_cases h:lowN a d=[]
   ·
    have h0:a / Nat.gcd a d=0:=dig_nil.1 h
    rw [h,h0]
    simp [sgn,vl]
   ·
    simp [sgn_abs,v1,h]
 rw [hs,v2]
 have key:∀ g x y:Nat,0<g→((if s=true then - (x:Int) else (x:Int))*L≤K*(y:Int)↔(if s=true then - ((g*x:Nat):Int) else ((g*x:Nat):Int))*L≤K*((g*y:Nat):Int)):=by
  intro g x y hg
  have e1:K*((g*y:Nat):Int)=(g:Int)*(K*y):=by rw [Int.natCast_mul,← Int.mul_assoc,Int.mul_comm K,Int.mul_assoc]
  have e2:(if s=true then - ((g*x:Nat):Int) else ((g*x:Nat):Int))*L=(g:Int)*((if s=true then - (x:Int) else (x:Int))*L):=by
   cases s
   ·
    simp only [Bool.false_eq_true,if_false,Int.natCast_mul,Int.mul_assoc]
   ·
    simp only [if_true,Int.natCast_mul,Int.neg_mul,Int.mul_neg,Int.mul_assoc]
  rw [e1,e2]
  have hg':(0:Int)<g:=by omega
  exact ⟨fun h=>Int.mul_le_mul_of_nonneg_left h (by omega),fun h=>Int.le_of_mul_le_mul_left h hg'⟩
 have:=key _ (a / Nat.gcd a d) (d / Nat.gcd a d) hg
 rw [hx,hy] at this
 exact this
def fa7Γ:List (FuncId×Con):=(112,conMkR)::(22,conMulR)::(24,conCmpR)::(61,conMkR)::(74,conCmpR)::(82,conRatC)::(73,conRInt)::fa3Γ
theorem fa7Γ_ok:OkΓ fa7Γ:=by
 simp only [OkΓ,fa7Γ,List.forall_mem_cons]
 exact ⟨⟨enters_of func112 (by kernel_rfl) rfl,mkr_ok⟩,⟨enters_of func22 (by kernel_rfl) rfl,mulr_ok⟩,⟨enters_of func24 (by kernel_rfl) rfl,cmpr_ok⟩,⟨enters_of func61 (by kernel_rfl) rfl,rmk_ok⟩,⟨enters_of func74 (by kernel_rfl) rfl,rcmpr_ok⟩,⟨enters_of func82 (by kernel_rfl) rfl,rratc_ok⟩,⟨enters_of func73 (by kernel_rfl) rfl,rint_ok⟩,fa3Γ_ok⟩
def fa7E:=fa3E
theorem fa7E_ok:OkE fa7E:=fa3E_ok
def fa7P:=fa3P
theorem fa7P_ok:OkP fa7P:=fa3P_ok
def fa7F:=fa3F
theorem fa7F_ok:OkF fa7F:=fa3F_ok
def fa7:G:={ τ:=nrT,Γ:=fa7Γ,E:=fa7E,Pn:=fa7P,E2:=fa7F }
theorem fa7_good:fa7.good prog:=good_of_all (nrT_ok _ rfl) fa7Γ_ok fa7E_ok fa7P_ok fa7F_ok
theorem fa7_all:(∀ t,fa7.td t=(look nrT t).getD .other)∧fa7.y=false∧fa7.Γ=fa7Γ∧fa7.E=fa7E∧fa7.Pn=fa7P∧fa7.E2=fa7F∧fa7.fz=[]∧fa7.te=false∧fa7.bo=false∧fa7.pm=false:=⟨fun _=>rfl,rfl,rfl,rfl,rfl,rfl,rfl,rfl,rfl,rfl⟩
def fa7_S:=And.intro (And.intro @nrT.eq_1 (And.intro @fa7Γ.eq_1 (And.intro @fa7E.eq_1 (And.intro @fa7P.eq_1 (And.intro @fa7F.eq_1 (And.intro @conMkR_eq (And.intro @conMulR_eq (And.intro @conCmpR_eq (And.intro @conRatC_eq (@conRInt_eq)))))))))) fa3_S
def conWhole:Con:=⟨fun args=>(match args with
 | [.s (.int .i64 n)]=>0≤n∧n<9223372036854775808
 | _=>False),fun args=>match args with
 | [.s (.int _ n)]=>.v (.agg [.bool false,.sl tI (dig n.natAbs) false,.bool false,.sl tI [1] false])
 | _=>.v (.s .any)⟩
theorem conWhole_eq (n:Int):conWhole.pre [.s (.int .i64 n)]=(0≤n∧n<9223372036854775808)∧conWhole.val [.s (.int .i64 n)]=.v (.agg [.bool false,.sl tI (dig n.natAbs) false,.bool false,.sl tI [1] false]):=⟨rfl,rfl⟩
theorem whole_ok:PureOk prog 66 conWhole:=by
 refine pureOkD (L:={ live:=[0,2,3] }) fa7_good rfl nr_mixed func66 rfl conWhole 1 (by decide) (by kernel_rfl) ?_
 intro args hpre hlens
 simp only [conWhole] at hpre
 split at hpre
 case h_2=>exact hpre.elim
 rename_i n
 simp only [lenS] at hlens
 refine ⟨rfl,?_⟩
 simp -dsimp -implicitDefEqProofs [f66,conWhole_eq,fa7_all,fa7_S,inI64]
 obtain ⟨h0,h1⟩:=hpre
 rw [lowN_one,lowD_one]
 exact ⟨⟨h0,h1⟩,rfl,rfl⟩
def conOrdR:Con:=⟨fun args=>(match args with
 | [.agg [.bool n1,.sl (.int .i64) m1 _,.bool n2,.sl (.int .i64) m2 _],.agg [.bool k1,.sl (.int .i64) l1 _,.bool k2,.sl (.int .i64) l2 _]]=>(okRat n1 m1 n2 m2∧okRat k1 l1 k2 l2)∧m1.length+l2.length≤2048∧l1.length+m2.length≤2048
 | _=>False),fun args=>match args with
 | [.agg [.bool n1,.sl (.int .i64) m1 _,.bool n2,.sl (.int .i64) m2 _],.agg [.bool k1,.sl (.int .i64) l1 _,.bool k2,.sl (.int .i64) l2 _]]=>.v (aI (ratCmp n1 m1 m2 k1 l1 l2))
 | _=>.v (.s .any)⟩
theorem conOrdR_eq (n1:Bool) (m1:List (Ty.T tI)) (exm1:Bool) (n2:Bool) (m2:List (Ty.T tI)) (exm2:Bool) (k1:Bool) (l1:List (Ty.T tI)) (exl1:Bool) (k2:Bool) (l2:List (Ty.T tI)) (exl2:Bool):conOrdR.pre [.agg [.bool n1,.sl tI m1 exm1,.bool n2,.sl tI m2 exm2],.agg [.bool k1,.sl tI l1 exl1,.bool k2,.sl tI l2 exl2]]=((okRat n1 m1 n2 m2∧okRat k1 l1 k2 l2)∧m1.length+l2.length≤2048∧l1.length+m2.length≤2048)∧conOrdR.val [.agg [.bool n1,.sl tI m1 exm1,.bool n2,.sl tI m2 exm2],.agg [.bool k1,.sl tI l1 exl1,.bool k2,.sl tI l2 exl2]]=.v (aI (ratCmp n1 m1 m2 k1 l1 l2)):=⟨rfl,rfl⟩
theorem ord_ok:PureOk prog 37 conOrdR:=by
 refine pureOkD (L:={ live:=[0,1,2,3,4,5] }) fa7_good rfl nr_mixed func37 rfl conOrdR 2 (by decide) (by kernel_rfl) ?_
 intro args hpre hlens
 simp only [conOrdR] at hpre
 split at hpre
 case h_2=>exact hpre.elim
 rename_i n1 m1 e1 n2 m2 e2 k1 l1 f1 k2 l2 f2
 simp only [lenS] at hlens
 refine ⟨rfl,?_⟩
 simp -dsimp -implicitDefEqProofs [f37,conOrdR_eq,fa7_all,fa7_S,inI64]
 obtain ⟨h1,h2⟩:=hpre
 exact ⟨fun _ _=>h2,fun h=>absurd h1.2 (h h1.1)⟩
def fa8Γ:List (FuncId×Con):=(66,conWhole)::(37,conOrdR)::fa7Γ
theorem fa8Γ_ok:OkΓ fa8Γ:=by
 simp only [OkΓ,fa8Γ,List.forall_mem_cons]
 exact ⟨⟨enters_of func66 (by kernel_rfl) rfl,whole_ok⟩,⟨enters_of func37 (by kernel_rfl) rfl,ord_ok⟩,fa7Γ_ok⟩
def fa8E:=fa7E
theorem fa8E_ok:OkE fa8E:=fa7E_ok
def fa8P:=fa7P
theorem fa8P_ok:OkP fa8P:=fa7P_ok
def fa8F:=fa7F
theorem fa8F_ok:OkF fa8F:=fa7F_ok
def fa8:G:={ τ:=nrT,Γ:=fa8Γ,E:=fa8E,Pn:=fa8P,E2:=fa8F }
theorem fa8_good:fa8.good prog:=good_of_all (nrT_ok _ rfl) fa8Γ_ok fa8E_ok fa8P_ok fa8F_ok
theorem fa8_all:(∀ t,fa8.td t=(look nrT t).getD .other)∧fa8.y=false∧fa8.Γ=fa8Γ∧fa8.E=fa8E∧fa8.Pn=fa8P∧fa8.E2=fa8F∧fa8.fz=[]∧fa8.te=false∧fa8.bo=false∧fa8.pm=false:=⟨fun _=>rfl,rfl,rfl,rfl,rfl,rfl,rfl,rfl,rfl,rfl⟩
def fa8_S:=And.intro (And.intro @nrT.eq_1 (And.intro @fa8Γ.eq_1 (And.intro @fa8E.eq_1 (And.intro @fa8P.eq_1 (And.intro @fa8F.eq_1 (And.intro @conWhole_eq (@conOrdR_eq))))))) fa7_S
def fitB (n:Int) (n1:Bool) (m1 m2:List Int) (k1:Bool) (l1 l2:List Int):Bool:=decide (n*sgn n1 m1*(vl l2:Int)≤sgn k1 l1*(vl m2:Int))
theorem fit_low {n:Int} {n1:Bool} {m1 m2:List Int} {k1:Bool} {l1 l2:List Int} (hn:0≤n) (hd:0<vl m2) :
  decide (ratCmp (n1&&decide (lowN (n.natAbs*vl m1) (vl m2)≠[])) (lowN (n.natAbs*vl m1) (vl m2)) (lowD (n.natAbs*vl m1) (vl m2)) k1 l1 l2≤0)=fitB n n1 m1 m2 k1 l1 l2:=by
 unfold fitB ratCmp
 refine decide_eq_decide.2 ?_
 rw [cmpZ_le,low_le hd,sgn_abs n1]
 have e:((n.natAbs*vl m1:Nat):Int)=n*(vl m1:Int):=by rw [Int.natCast_mul]; congr 1; omega
 rw [e]
 cases n1
 ·
  simp
 ·
  simp [Int.mul_neg]
def conFits:Con:=⟨fun args=>(match args with
 | [.s (.int .i64 n),.agg [.bool n1,.sl (.int .i64) m1 _,.bool n2,.sl (.int .i64) m2 _],.agg [.bool k1,.sl (.int .i64) l1 _,.bool k2,.sl (.int .i64) l2 _]]=>(0≤n∧n≤1000)∧okS n1 m1 n2 m2∧okS k1 l1 k2 l2
 | _=>False),fun args=>match args with
 | [.s (.int _ n),.agg [.bool n1,.sl (.int .i64) m1 _,.bool n2,.sl (.int .i64) m2 _],.agg [.bool k1,.sl (.int .i64) l1 _,.bool k2,.sl (.int .i64) l2 _]]=>.v (aB (fitB n n1 m1 m2 k1 l1 l2))
 | _=>.v (.s .any)⟩
theorem conFits_eq (n:Int) (n1:Bool) (m1:List (Ty.T tI)) (exm1:Bool) (n2:Bool) (m2:List (Ty.T tI)) (exm2:Bool) (k1:Bool) (l1:List (Ty.T tI)) (exl1:Bool) (k2:Bool) (l2:List (Ty.T tI)) (exl2:Bool):conFits.pre [.s (.int .i64 n),.agg [.bool n1,.sl tI m1 exm1,.bool n2,.sl tI m2 exm2],.agg [.bool k1,.sl tI l1 exl1,.bool k2,.sl tI l2 exl2]]=((0≤n∧n≤1000)∧okS n1 m1 n2 m2∧okS k1 l1 k2 l2)∧conFits.val [.s (.int .i64 n),.agg [.bool n1,.sl tI m1 exm1,.bool n2,.sl tI m2 exm2],.agg [.bool k1,.sl tI l1 exl1,.bool k2,.sl tI l2 exl2]]=.v (aB (fitB n n1 m1 m2 k1 l1 l2)):=⟨rfl,rfl⟩
theorem fits_ok:PureOk prog 38 conFits:=by
 refine pureOkD (L:={ live:=[0,1,2,4,5,6,7,8],fl:=[(1,[(2,0),(2,8)])] }) fa8_good rfl nr_mixed func38 rfl conFits 3 (by decide) (by kernel_rfl) ?_
 intro args hpre hlens
 simp only [conFits] at hpre
 split at hpre
 case h_2=>exact hpre.elim
 rename_i n n1 m1 e1 n2 m2 e2 k1 l1 f1 k2 l2 f2
 simp only [lenS] at hlens
 refine ⟨rfl,?_⟩
 simp -dsimp -implicitDefEqProofs [f38,conFits_eq,fa8_all,fa8_S,inI64]
 change List Int at m1; change List Int at m2; change List Int at l1; change List Int at l2
 obtain ⟨⟨h0,h1⟩,⟨a1,a2,a3⟩,b1,b2,b3⟩:=hpre
 have hw:=okRat_whole (n:=n.natAbs) (by omega)
 have hd:=okRat_pos a1
 have hdl:(dig n.natAbs).length≤1:=dig_le (k:=1) (by omega) (Nat.le_refl _)
 have hs:=small_mul (n:=n.natAbs) (m:=m1) (by omega) a1.1.1.1
 have hl:=okRat_low (s:=n1) (a:=n.natAbs*vl m1) (d:=vl m2) hd hs (by omega) (vl_lt a1.2.1.1.1) (by omega)
 have q1:=low_len1 (d:=vl m2) hs
 have q2:=low_len2 (a:=n.natAbs*vl m1) (vl_lt a1.2.1.1.1)
 have hf:=fit_low (n:=n) (n1:=n1) (m1:=m1) (m2:=m2) (k1:=k1) (l1:=l1) (l2:=l2) h0 hd
 rw [vl_dig,vl_one1,Nat.one_mul]
 rw [decide_not] at hl hf
 exact ⟨⟨h0,by omega⟩,⟨hw,a1,by omega,by omega⟩,⟨⟨hl,b1⟩,by omega,by omega⟩,hf⟩
def conMost:Con:=⟨fun args=>(match args with
 | [.agg [.bool n1,.sl (.int .i64) m1 _,.bool n2,.sl (.int .i64) m2 _],.agg [.bool k1,.sl (.int .i64) l1 _,.bool k2,.sl (.int .i64) l2 _]]=>(okRat n1 m1 n2 m2∧okRat k1 l1 k2 l2)∧m1.length+l2.length≤2048∧l1.length+m2.length≤2048
 | _=>False),fun args=>match args with
 | [.agg [.bool n1,.sl (.int .i64) m1 _,.bool n2,.sl (.int .i64) m2 _],.agg [.bool k1,.sl (.int .i64) l1 _,.bool k2,.sl (.int .i64) l2 _]]=>.v (aB (decide (ratCmp n1 m1 m2 k1 l1 l2≤0)))
 | _=>.v (.s .any)⟩
theorem conMost_eq (n1:Bool) (m1:List (Ty.T tI)) (exm1:Bool) (n2:Bool) (m2:List (Ty.T tI)) (exm2:Bool) (k1:Bool) (l1:List (Ty.T tI)) (exl1:Bool) (k2:Bool) (l2:List (Ty.T tI)) (exl2:Bool):conMost.pre [.agg [.bool n1,.sl tI m1 exm1,.bool n2,.sl tI m2 exm2],.agg [.bool k1,.sl tI l1 exl1,.bool k2,.sl tI l2 exl2]]=((okRat n1 m1 n2 m2∧okRat k1 l1 k2 l2)∧m1.length+l2.length≤2048∧l1.length+m2.length≤2048)∧conMost.val [.agg [.bool n1,.sl tI m1 exm1,.bool n2,.sl tI m2 exm2],.agg [.bool k1,.sl tI l1 exl1,.bool k2,.sl tI l2 exl2]]=.v (aB (decide (ratCmp n1 m1 m2 k1 l1 l2≤0))):=⟨rfl,rfl⟩
theorem most_ok:PureOk prog 31 conMost:=by
 refine pureOkD (L:={ live:=[0,1,2,3,4,5] }) fa8_good rfl nr_mixed func31 rfl conMost 2 (by decide) (by kernel_rfl) ?_
 intro args hpre hlens
 simp only [conMost] at hpre
 split at hpre
 case h_2=>exact hpre.elim
 rename_i n1 m1 e1 n2 m2 e2 k1 l1 f1 k2 l2 f2
 simp only [lenS] at hlens
 refine ⟨rfl,?_⟩
 simp -dsimp -implicitDefEqProofs [f31,conMost_eq,fa8_all,fa8_S,inI64]
 obtain ⟨h1,h2⟩:=hpre
 rw [if_pos h1]
 exact ⟨fun _ _=>h2,Iff.rfl⟩
def faT:List (TypeId×TD):=[(1,.func),(2,.sc tI),(3,.sc tI),(4,.sc .bool),(5,.sc (.int .u8)),(8,.struct (.cons tI (.cons tI (.cons .bool (.cons (.int .u8) .nil))))),(9,.sc .str),(22,.slice 52 (.cons tI (.cons tRat .nil)) 72),(23,.slice 3 tI 8),(25,.struct tBig),(27,.struct tRat),(30,.sc tI),(34,.func),(38,.arr 32 5 (.int .u8)),(43,.slice 45 (.tree (.cons tI (.cons tI (.cons .str .nil)))) 56),(45,.struct (.cons tI (.cons tI (.cons .str (.cons (.slice (.tree (.cons tI (.cons tI (.cons .str .nil))))) .nil))))),(46,.slice 5 (.int .u8) 1),(52,.struct (.cons tI (.cons tRat .nil))),(54,.slice 4 .bool 1),(64,.func),(65,.func),(71,.func),(78,.func),(85,.ptr),(97,.slice 25 tBig 32),(100,.struct (.cons tRat .nil)),(109,.func),(111,.func),(113,.func),(114,.func),(118,.func),(119,.slice 22 (.slice (.cons tI (.cons tRat .nil))) 24),(123,.slice 27 tRat 64),(136,.sc (.int .u64)),(138,.sc (.int .u32)),(156,.sc (.int .u64)),(195,.sc tI)]
theorem faT_ok (g:G) (hg:g.τ=faT):G.ok prog g:=by
 refine ok_of_all ?_
 rw [hg]
 simp only [faT,List.forall_mem_cons]
 exact ⟨⟨⟨_,_,_,underlying1⟩,by kernel_rfl⟩,
 ⟨by kernel_rfl,rfl,by kernel_rfl,rfl⟩,
 ⟨by kernel_rfl,rfl,by kernel_rfl,rfl⟩,
 ⟨by kernel_rfl,rfl,by kernel_rfl,rfl⟩,
 ⟨by kernel_rfl,rfl,by kernel_rfl,rfl⟩,
 ⟨fieldsOf prog 8,by kernel_rfl,by kernel_rfl,by kernel_rfl,by decide,by kernel_rfl⟩,
 ⟨by kernel_rfl,rfl,by kernel_rfl,rfl⟩,
 ⟨by kernel_rfl,by decide,by kernel_rfl,⟨cellsV (Ty.zcells (.cons tI (.cons tRat .nil))),by kernel_rfl,by kernel_rfl,by kernel_rfl⟩,by kernel_rfl⟩,
 ⟨by kernel_rfl,by decide,by kernel_rfl,⟨cellsV (Ty.zcells tI),by kernel_rfl,by kernel_rfl,by kernel_rfl⟩,by kernel_rfl⟩,
 ⟨fieldsOf prog 25,by kernel_rfl,by kernel_rfl,by kernel_rfl,by decide,by kernel_rfl⟩,
 ⟨fieldsOf prog 27,by kernel_rfl,by kernel_rfl,by kernel_rfl,by decide,by kernel_rfl⟩,
 ⟨by kernel_rfl,rfl,by kernel_rfl,rfl⟩,
 ⟨⟨_,_,_,underlying34⟩,by kernel_rfl⟩,
 ⟨by kernel_rfl,by kernel_rfl,by kernel_rfl⟩,
 ⟨by kernel_rfl,by decide,by kernel_rfl,⟨cellsV (Ty.zcells (.tree (.cons tI (.cons tI (.cons .str .nil))))),by kernel_rfl,by kernel_rfl,by kernel_rfl⟩,by kernel_rfl⟩,
 ⟨fieldsOf prog 45,by kernel_rfl,by kernel_rfl,by kernel_rfl,by decide,by kernel_rfl⟩,
 ⟨by kernel_rfl,by decide,by kernel_rfl,⟨cellsV (Ty.zcells (.int .u8)),by kernel_rfl,by kernel_rfl,by kernel_rfl⟩,by kernel_rfl⟩,
 ⟨fieldsOf prog 52,by kernel_rfl,by kernel_rfl,by kernel_rfl,by decide,by kernel_rfl⟩,
 ⟨by kernel_rfl,by decide,by kernel_rfl,⟨cellsV (Ty.zcells .bool),by kernel_rfl,by kernel_rfl,by kernel_rfl⟩,by kernel_rfl⟩,
 ⟨⟨_,_,_,underlying64⟩,by kernel_rfl⟩,
 ⟨⟨_,_,_,underlying65⟩,by kernel_rfl⟩,
 ⟨⟨_,_,_,underlying71⟩,by kernel_rfl⟩,
 ⟨⟨_,_,_,underlying78⟩,by kernel_rfl⟩,
 ⟨⟨_,underlying85⟩,by kernel_rfl⟩,
 ⟨by kernel_rfl,by decide,by kernel_rfl,⟨cellsV (Ty.zcells tBig),by kernel_rfl,by kernel_rfl,by kernel_rfl⟩,by kernel_rfl⟩,
 ⟨fieldsOf prog 100,by kernel_rfl,by kernel_rfl,by kernel_rfl,by decide,by kernel_rfl⟩,
 ⟨⟨_,_,_,underlying109⟩,by kernel_rfl⟩,
 ⟨⟨_,_,_,underlying111⟩,by kernel_rfl⟩,
 ⟨⟨_,_,_,underlying113⟩,by kernel_rfl⟩,
 ⟨⟨_,_,_,underlying114⟩,by kernel_rfl⟩,
 ⟨⟨_,_,_,underlying118⟩,by kernel_rfl⟩,
 ⟨by kernel_rfl,by decide,by kernel_rfl,⟨cellsV (Ty.zcells (.slice (.cons tI (.cons tRat .nil)))),by kernel_rfl,by kernel_rfl,by kernel_rfl⟩,by kernel_rfl⟩,
 ⟨by kernel_rfl,by decide,by kernel_rfl,⟨cellsV (Ty.zcells tRat),by kernel_rfl,by kernel_rfl,by kernel_rfl⟩,by kernel_rfl⟩,
 ⟨by kernel_rfl,rfl,by kernel_rfl,rfl⟩,
 ⟨by kernel_rfl,rfl,by kernel_rfl,rfl⟩,
 ⟨by kernel_rfl,rfl,by kernel_rfl,rfl⟩,
 ⟨by kernel_rfl,rfl,by kernel_rfl,rfl⟩,by simp⟩
abbrev tTst:Ty:=.cons (.int .i64) (.cons tRat .nil)
def dT:tTst.T:=(0,((false,[],()),(false,[],()),()),())
theorem cmpZ_lt0 {a b:Int}:cmpZ a b<0↔a<b:=by
 unfold cmpZ
 split
 ·
  simp; assumption
 ·
  split
  ·
   simp; omega
  ·
   simp; omega
theorem cmpZ_gt0 {a b:Int}:0<cmpZ a b↔b<a:=by
 unfold cmpZ
 split
 ·
  simp; omega
 ·
  split
  ·
   simp; omega
  ·
   simp; omega
theorem rat0 (n1:Bool) (m1 m2:List Int):ratCmp n1 m1 m2 false (dig 0) [1]=cmpZ (sgn n1 m1) 0:=by
 unfold ratCmp
 rw [dig_zero,vl_one1,sgn_false]
 simp [vl]
theorem rat1 (n1:Bool) (m1 m2:List Int):ratCmp n1 m1 m2 false (dig 1) [1]=cmpZ (sgn n1 m1) (vl m2):=by
 unfold ratCmp
 rw [dig_one,vl_one1,sgn_false,vl_one1]
 simp
theorem okRat_0:okRat false (dig 0) false [1]:=okRat_whole (n:=0) (by omega)
theorem okRat_1:okRat false (dig 1) false [1]:=okRat_whole (n:=1) (by omega)
theorem len_0:(dig 0).length=0:=by rw [dig_zero]; rfl
theorem len_1:(dig 1).length=1:=by rw [dig_one]; rfl
def fa9Γ:List (FuncId×Con):=(38,conFits)::fa8Γ
theorem fa9Γ_ok:OkΓ fa9Γ:=by
 simp only [OkΓ,fa9Γ,List.forall_mem_cons]
 exact ⟨⟨enters_of func38 (by kernel_rfl) rfl,fits_ok⟩,fa8Γ_ok⟩
def fa9E:=fa8E
theorem fa9E_ok:OkE fa9E:=fa8E_ok
def fa9P:=fa8P
theorem fa9P_ok:OkP fa9P:=fa8P_ok
def fa9F:=fa8F
theorem fa9F_ok:OkF fa9F:=fa8F_ok
def fa9:G:={ τ:=faT,Γ:=fa9Γ,E:=fa9E,Pn:=fa9P,E2:=fa9F }
theorem fa9_good:fa9.good prog:=good_of_all (faT_ok _ rfl) fa9Γ_ok fa9E_ok fa9P_ok fa9F_ok
theorem fa9_all:(∀ t,fa9.td t=(look faT t).getD .other)∧fa9.y=false∧fa9.Γ=fa9Γ∧fa9.E=fa9E∧fa9.Pn=fa9P∧fa9.E2=fa9F∧fa9.fz=[]∧fa9.te=false∧fa9.bo=false∧fa9.pm=false:=⟨fun _=>rfl,rfl,rfl,rfl,rfl,rfl,rfl,rfl,rfl,rfl⟩
def fa9_S:=And.intro (And.intro @faT.eq_1 (And.intro @fa9Γ.eq_1 (And.intro @fa9E.eq_1 (And.intro @fa9P.eq_1 (And.intro @fa9F.eq_1 (@conFits_eq)))))) fa8_S
def conShrtF:Con:=⟨fun args=>(match args with
 | [.agg [.bool n1,.sl (.int .i64) m1 _,.bool n2,.sl (.int .i64) m2 _]]=>True
 | _=>False),fun args=>match args with
 | [.agg [.bool n1,.sl (.int .i64) m1 _,.bool n2,.sl (.int .i64) m2 _]]=>.v (aB (decide (okS n1 m1 n2 m2)))
 | _=>.v (.s .any)⟩
theorem conShrtF_eq (n1:Bool) (m1:List (Ty.T tI)) (exm1:Bool) (n2:Bool) (m2:List (Ty.T tI)) (exm2:Bool):conShrtF.pre [.agg [.bool n1,.sl tI m1 exm1,.bool n2,.sl tI m2 exm2]]=(True)∧conShrtF.val [.agg [.bool n1,.sl tI m1 exm1,.bool n2,.sl tI m2 exm2]]=.v (aB (decide (okS n1 m1 n2 m2))):=⟨rfl,rfl⟩
theorem shrtf_ok:PureOk prog 65 conShrtF:=by
 refine pureOkD (L:={ live:=[0,1,2] }) fa9_good rfl nr_mixed func65 rfl conShrtF 1 (by decide) (by kernel_rfl) ?_
 intro args hpre hlens
 simp only [conShrtF] at hpre
 split at hpre
 case h_2=>exact hpre.elim
 rename_i n1 m1 e1 n2 m2 e2
 simp only [lenS] at hlens
 refine ⟨rfl,?_⟩
 simp -dsimp -implicitDefEqProofs [f65,conShrtF_eq,fa9_all,fa9_S,inI64]
 rw [← Bool.decide_and]
 refine decide_eq_decide.2 ?_
 unfold okS
 rw [ratErr_0]
 refine and_congr_right fun _ => ?_
 split <;> omega
theorem rshrtf_ok:PureOk prog 72 conShrtF:=by
 refine pureOkD (L:={ live:=[0,1,2] }) fa9_good rfl nr_mixed func72 rfl conShrtF 1 (by decide) (by kernel_rfl) ?_
 intro args hpre hlens
 simp only [conShrtF] at hpre
 split at hpre
 case h_2=>exact hpre.elim
 rename_i n1 m1 e1 n2 m2 e2
 simp only [lenS] at hlens
 refine ⟨rfl,?_⟩
 simp -dsimp -implicitDefEqProofs [f72,conShrtF_eq,fa9_all,fa9_S,inI64]
 rw [← Bool.decide_and,← Bool.decide_and]
 refine decide_eq_decide.2 ?_
 unfold okS
 rw [ratErr_0,and_assoc]
 refine and_congr_right fun _ => ?_
 omega
def lvlE (n1:Bool) (m1:List Int) (n2:Bool) (m2:List Int):Int:=if okS n1 m1 n2 m2 then (if 0<sgn n1 m1∧sgn n1 m1≤(vl m2:Int) then 0 else 1) else 100
theorem lvlE_100 {n1:Bool} {m1:List Int} {n2:Bool} {m2:List Int} (h:¬ okS n1 m1 n2 m2):lvlE n1 m1 n2 m2=100:=if_neg h
theorem lvlE_1 {n1:Bool} {m1:List Int} {n2:Bool} {m2:List Int} (h:okS n1 m1 n2 m2) (h2:¬ (0<sgn n1 m1∧sgn n1 m1≤(vl m2:Int))):lvlE n1 m1 n2 m2=1:=by unfold lvlE; rw [if_pos h,if_neg h2]
theorem lvlE_0 {n1:Bool} {m1:List Int} {n2:Bool} {m2:List Int}:lvlE n1 m1 n2 m2=0↔okS n1 m1 n2 m2∧0<sgn n1 m1∧sgn n1 m1≤(vl m2:Int):=by
 unfold lvlE
 split
 ·
  split <;> simp_all
 ·
  simp_all
def fa10Γ:List (FuncId×Con):=(65,conShrtF)::(72,conShrtF)::(31,conMost)::fa9Γ
theorem fa10Γ_ok:OkΓ fa10Γ:=by
 simp only [OkΓ,fa10Γ,List.forall_mem_cons]
 exact ⟨⟨enters_of func65 (by kernel_rfl) rfl,shrtf_ok⟩,⟨enters_of func72 (by kernel_rfl) rfl,rshrtf_ok⟩,⟨enters_of func31 (by kernel_rfl) rfl,most_ok⟩,fa9Γ_ok⟩
def fa10E:=fa9E
theorem fa10E_ok:OkE fa10E:=fa9E_ok
def fa10P:=fa9P
theorem fa10P_ok:OkP fa10P:=fa9P_ok
def fa10F:=fa9F
theorem fa10F_ok:OkF fa10F:=fa9F_ok
def fa10:G:={ τ:=faT,Γ:=fa10Γ,E:=fa10E,Pn:=fa10P,E2:=fa10F }
theorem fa10_good:fa10.good prog:=good_of_all (faT_ok _ rfl) fa10Γ_ok fa10E_ok fa10P_ok fa10F_ok
theorem fa10_all:(∀ t,fa10.td t=(look faT t).getD .other)∧fa10.y=false∧fa10.Γ=fa10Γ∧fa10.E=fa10E∧fa10.Pn=fa10P∧fa10.E2=fa10F∧fa10.fz=[]∧fa10.te=false∧fa10.bo=false∧fa10.pm=false:=⟨fun _=>rfl,rfl,rfl,rfl,rfl,rfl,rfl,rfl,rfl,rfl⟩
def fa10_S:=And.intro (And.intro @faT.eq_1 (And.intro @fa10Γ.eq_1 (And.intro @fa10E.eq_1 (And.intro @fa10P.eq_1 (And.intro @fa10F.eq_1 (And.intro @conShrtF_eq (@conMost_eq))))))) fa9_S
def conLvl:Con:=⟨fun args=>(match args with
 | [.agg [.bool n1,.sl (.int .i64) m1 _,.bool n2,.sl (.int .i64) m2 _]]=>True
 | _=>False),fun args=>match args with
 | [.agg [.bool n1,.sl (.int .i64) m1 _,.bool n2,.sl (.int .i64) m2 _]]=>.v (aI (lvlE n1 m1 n2 m2))
 | _=>.v (.s .any)⟩
theorem conLvl_eq (n1:Bool) (m1:List (Ty.T tI)) (exm1:Bool) (n2:Bool) (m2:List (Ty.T tI)) (exm2:Bool):conLvl.pre [.agg [.bool n1,.sl tI m1 exm1,.bool n2,.sl tI m2 exm2]]=(True)∧conLvl.val [.agg [.bool n1,.sl tI m1 exm1,.bool n2,.sl tI m2 exm2]]=.v (aI (lvlE n1 m1 n2 m2)):=⟨rfl,rfl⟩
theorem lvl_ok:PureOk prog 42 conLvl:=by
 refine pureOkD (L:={ live:=[0,1,2,3,7] }) fa10_good rfl nr_mixed func42 rfl conLvl 1 (by decide) (by kernel_rfl) ?_
 intro args hpre hlens
 simp only [conLvl] at hpre
 split at hpre
 case h_2=>exact hpre.elim
 rename_i n1 m1 e1 n2 m2 e2
 simp only [lenS] at hlens
 refine ⟨rfl,?_⟩
 simp -dsimp -implicitDefEqProofs [f42,conLvl_eq,rat0,rat1,len_0,len_1,cmpZ_lt0,cmpZ_le,cmpZ_gt0,fa10_all,fa10_S,inI64]
 change List Int at m1; change List Int at m2
 exact ⟨fun h=>(lvlE_100 h).symm,fun h=>⟨⟨⟨h.1,okRat_0⟩,by have:=h.2; omega,by have:=h.2; omega⟩,fun h1=>⟨h1,⟨h.1,okRat_1⟩,by have:=h.2; omega,by have:=h.2; omega⟩,fun h1=>(lvlE_1 h (by omega)).symm,fun h1 h2=>(lvlE_0.2 ⟨h,h1,h2⟩).symm⟩⟩
theorem rlvl_ok:PureOk prog 44 conLvl:=by
 refine pureOkD (L:={ live:=[0,1,2,5,14] }) fa10_good rfl nr_mixed func44 rfl conLvl 1 (by decide) (by kernel_rfl) ?_
 intro args hpre hlens
 simp only [conLvl] at hpre
 split at hpre
 case h_2=>exact hpre.elim
 rename_i n1 m1 e1 n2 m2 e2
 simp only [lenS] at hlens
 refine ⟨rfl,?_⟩
 simp -dsimp -implicitDefEqProofs [f44,conLvl_eq,rat0,rat1,len_0,len_1,cmpZ_lt0,cmpZ_le,cmpZ_gt0,fa10_all,fa10_S,inI64]
 change List Int at m1; change List Int at m2
 exact ⟨fun h=>(lvlE_100 h).symm,fun h=>⟨⟨⟨h.1,okRat_0⟩,by have:=h.2; omega,by have:=h.2; omega⟩,fun h1=>⟨h1,⟨h.1,okRat_1⟩,by have:=h.2; omega,by have:=h.2; omega⟩,fun h1=>(lvlE_1 h (by omega)).symm,fun h1 h2=>(lvlE_0.2 ⟨h,h1,h2⟩).symm⟩⟩
def nosAt (l:List Int) (j:Nat):Prop:=(0≤l[j]?.getD 0∧l[j]?.getD 0≤1048576)∧(0<j→l[j - 1]?.getD 0<l[j]?.getD 0)
def okNos (l:List Int):Prop:=∀ j,j<l.length→nosAt l j
noncomputable instance (l:List Int):Decidable (okNos l):=Classical.propDecidable _
theorem nos_step {l:List Int} {i:Nat} (h:∀ j,j<i→nosAt l j) (h1:nosAt l i):∀ j,j<i+1→nosAt l j:=by
 intro j hj
 rcases Nat.lt_succ_iff_lt_or_eq.1 hj with h' | rfl
 ·
  exact h j h'
 ·
  exact h1
theorem nos_not {l:List Int} {i:Nat} (hi:i<l.length) (h:¬ nosAt l i):¬ okNos l:=fun hk=>h (hk i hi)
def lastNo (l:List Int) (i:Nat):Int:=if i=0 then -1 else l[i - 1]?.getD 0
theorem lastNo_zero (l:List Int):lastNo l 0 = -1:=rfl
theorem lastNo_succ (l:List Int) (i:Nat):lastNo l (i+1)=l[i]?.getD 0:=rfl
theorem nos_iff {l:List Int} {i:Nat} (h:∀ j,j<i→nosAt l j):nosAt l i↔lastNo l i<l[i]?.getD 0∧l[i]?.getD 0≤1048576:=by
 unfold nosAt
 rcases Nat.eq_zero_or_pos i with rfl | h0
 ·
  rw [lastNo_zero]
  constructor
  ·
   rintro ⟨⟨a,b⟩,c⟩; omega
  ·
   rintro ⟨a,b⟩; exact ⟨⟨by omega,b⟩,fun h=>absurd h (by omega)⟩
 ·
  obtain ⟨k,rfl⟩:∃ k,i=k+1:=⟨i - 1,by omega⟩
  rw [lastNo_succ]
  have:=(h k (by omega)).1.1
  rw [Nat.add_sub_cancel]
  constructor
  ·
   rintro ⟨⟨a,b⟩,c⟩; exact ⟨c (by omega),b⟩
  ·
   rintro ⟨a,b⟩; exact ⟨⟨by omega,b⟩,fun _=>a⟩
def conKeyI:Con:=⟨fun args=>(match args with
 | [.s (.int .i64 n)]=>True
 | _=>False),fun args=>match args with
 | [.s (.int _ n)]=>.v (aI n)
 | _=>.v (.s .any)⟩
theorem conKeyI_eq (n:Int):conKeyI.pre [.s (.int .i64 n)]=(True)∧conKeyI.val [.s (.int .i64 n)]=.v (aI n):=⟨rfl,rfl⟩
theorem keyi_ok:PureOk prog 41 conKeyI:=by
 refine pureOkD (L:={ live:=[0,2] }) fa10_good rfl nr_mixed func41 rfl conKeyI 1 (by decide) (by kernel_rfl) ?_
 intro args hpre hlens
 simp only [conKeyI] at hpre
 split at hpre
 case h_2=>exact hpre.elim
 rename_i n
 simp only [lenS] at hlens
 refine ⟨rfl,?_⟩
 simp -dsimp -implicitDefEqProofs [f41,conKeyI_eq,fa10_all,fa10_S,inI64]
def conKeyT:Con:=⟨fun args=>(match args with
 | [.agg [.int .i64 no,.bool n1,.sl (.int .i64) m1 _,.bool n2,.sl (.int .i64) m2 _]]=>True
 | _=>False),fun args=>match args with
 | [.agg [.int _ no,.bool n1,.sl (.int .i64) m1 _,.bool n2,.sl (.int .i64) m2 _]]=>.v (aI no)
 | _=>.v (.s .any)⟩
theorem conKeyT_eq (no:Int) (n1:Bool) (m1:List (Ty.T tI)) (exm1:Bool) (n2:Bool) (m2:List (Ty.T tI)) (exm2:Bool):conKeyT.pre [.agg [.int .i64 no,.bool n1,.sl tI m1 exm1,.bool n2,.sl tI m2 exm2]]=(True)∧conKeyT.val [.agg [.int .i64 no,.bool n1,.sl tI m1 exm1,.bool n2,.sl tI m2 exm2]]=.v (aI no):=⟨rfl,rfl⟩
theorem keyt_ok:PureOk prog 68 conKeyT:=by
 refine pureOkD (L:={ live:=[0,1,2] }) fa10_good rfl nr_mixed func68 rfl conKeyT 1 (by decide) (by kernel_rfl) ?_
 intro args hpre hlens
 simp only [conKeyT] at hpre
 split at hpre
 case h_2=>exact hpre.elim
 rename_i no n1 m1 e1 n2 m2 e2
 simp only [lenS] at hlens
 refine ⟨rfl,?_⟩
 simp -dsimp -implicitDefEqProofs [f68,conKeyT_eq,fa10_all,fa10_S,inI64]
def fa11Γ:List (FuncId×Con):=(41,conKeyI)::(68,conKeyT)::fa10Γ
theorem fa11Γ_ok:OkΓ fa11Γ:=by
 simp only [OkΓ,fa11Γ,List.forall_mem_cons]
 exact ⟨⟨enters_of func41 (by kernel_rfl) rfl,keyi_ok⟩,⟨enters_of func68 (by kernel_rfl) rfl,keyt_ok⟩,fa10Γ_ok⟩
def fa11E:=fa10E
theorem fa11E_ok:OkE fa11E:=fa10E_ok
def fa11P:=fa10P
theorem fa11P_ok:OkP fa11P:=fa10P_ok
def fa11F:=fa10F
theorem fa11F_ok:OkF fa11F:=fa10F_ok
def fa11:G:={ τ:=faT,Γ:=fa11Γ,E:=fa11E,Pn:=fa11P,E2:=fa11F }
theorem fa11_good:fa11.good prog:=good_of_all (faT_ok _ rfl) fa11Γ_ok fa11E_ok fa11P_ok fa11F_ok
theorem fa11_all:(∀ t,fa11.td t=(look faT t).getD .other)∧fa11.y=false∧fa11.Γ=fa11Γ∧fa11.E=fa11E∧fa11.Pn=fa11P∧fa11.E2=fa11F∧fa11.fz=[]∧fa11.te=false∧fa11.bo=false∧fa11.pm=false:=⟨fun _=>rfl,rfl,rfl,rfl,rfl,rfl,rfl,rfl,rfl,rfl⟩
def fa11_S:=And.intro (And.intro @faT.eq_1 (And.intro @fa11Γ.eq_1 (And.intro @fa11E.eq_1 (And.intro @fa11P.eq_1 (And.intro @fa11F.eq_1 (And.intro @conKeyI_eq (@conKeyT_eq))))))) fa10_S
def conRisI:Con:=⟨fun args=>(match args with
 | [.s (.sl (.int .i64) l _),.s (.fnp f caps)]=>f=41∧caps=[]
 | _=>False),fun args=>match args with
 | [.s (.sl (.int .i64) l _),.s (.fnp f caps)]=>.v (aB (decide (okNos l)))
 | _=>.v (.s .any)⟩
theorem conRisI_eq (l:List (Ty.T tI)) (exl:Bool) (f:FuncId) (caps:List (Sigma Ty.T)):conRisI.pre [.s (.sl tI l exl),.s (.fnp f caps)]=(f=41∧caps=[])∧conRisI.val [.s (.sl tI l exl),.s (.fnp f caps)]=.v (aB (decide (okNos l))):=⟨rfl,rfl⟩
theorem risi_ok:PureOk prog 40 conRisI:=by
 refine pureOkD (L:={ live:=[0,1,4,5,7,8,9,10,11,12,24] }) fa11_good rfl nr_mixed func40 rfl conRisI 2 (by decide) (by kernel_rfl) ?_
 intro args hpre hlens
 simp only [conRisI] at hpre
 split at hpre
 case h_2=>exact hpre.elim
 rename_i l el f caps
 simp only [lenS] at hlens
 obtain ⟨rfl,rfl⟩:=hpre
 refine ⟨rfl,?_⟩
 simp -dsimp -implicitDefEqProofs [f40,conRisI_eq,fa11_all,fa11_S,inI64]
 change List Int at l
 refine WpD.loop (L:={ live:=[0,1,4,5,7,8,9,10,11,12,24] }) fa11_good X0_ok nr_mixed (by kernel_rfl)
  (fun i:Nat=>⟨[(1,⟨true,.v (.s (.fnp 41 []))⟩),(5,vI (lastNo l i)),(9,vS tI l el),(10,vI l.length),(11,vI i)],[]⟩)
  (fun i=>i≤l.length∧∀ j,j<i→nosAt l j) (fun i=>l.length - i) 0 ⟨Nat.zero_le _,fun j h=>absurd h (by omega)⟩ (Turn.le (by simp -dsimp -implicitDefEqProofs [lastNo_zero])) ?_
 rintro i ⟨hi,hj⟩
 rcases Nat.lt_or_ge i l.length with hil | hge
 ·
  have hli:l[i]=l[i]?.getD 0:=by rw [List.getElem?_eq_getElem hil]; rfl
  have hiff:=nos_iff hj
  rw [← hli] at hiff
  have hls:=lastNo_succ l i
  rw [← hli] at hls
  simp -dsimp -implicitDefEqProofs [conRisI_eq,hil,fa11_all,fa11_S,inI64]
  refine ⟨fun h=>nos_not hil fun hc => ?_,fun h1 h2=>⟨⟨by omega,by omega⟩,i+1,⟨by omega,nos_step hj (hiff.2 ⟨h1,h2⟩)⟩,by omega,?_⟩⟩
  ·
   have:=hiff.1 hc; omega
  ·
   rw [hls]; exact TurnT.le (by simp -dsimp -implicitDefEqProofs)
 ·
  have hn:¬ i<l.length:=by omega
  simp -dsimp -implicitDefEqProofs [conRisI_eq,hn,fa11_all,fa11_S,inI64]
  exact fun j h=>hj j (by omega)
def nosL (l:List tTst.T):List Int:=l.map fun x=>x.1
theorem nosL_len (l:List tTst.T):(nosL l).length=l.length:=by simp [nosL]
theorem nosL_get {l:List tTst.T} {i:Nat} (h:i<l.length):(nosL l)[i]?.getD 0=l[i].1:=by
 unfold nosL
 rw [List.getElem?_map,List.getElem?_eq_getElem h]
 rfl
def conRisT:Con:=⟨fun args=>(match args with
 | [.s (.sl (.cons (.int .i64) (.cons (.cons (.cons .bool (.cons (.slice (.int .i64)) .nil)) (.cons (.cons .bool (.cons (.slice (.int .i64)) .nil)) .nil)) .nil)) l _),.s (.fnp f caps)]=>f=68∧caps=[]
 | _=>False),fun args=>match args with
 | [.s (.sl (.cons (.int .i64) (.cons (.cons (.cons .bool (.cons (.slice (.int .i64)) .nil)) (.cons (.cons .bool (.cons (.slice (.int .i64)) .nil)) .nil)) .nil)) l _),.s (.fnp f caps)]=>.v (aB (decide (okNos (nosL l))))
 | _=>.v (.s .any)⟩
theorem conRisT_eq (l:List (Ty.T tTst)) (exl:Bool) (f:FuncId) (caps:List (Sigma Ty.T)):conRisT.pre [.s (.sl tTst l exl),.s (.fnp f caps)]=(f=68∧caps=[])∧conRisT.val [.s (.sl tTst l exl),.s (.fnp f caps)]=.v (aB (decide (okNos (nosL l)))):=⟨rfl,rfl⟩
theorem rist_ok:PureOk prog 67 conRisT:=by
 refine pureOkD (L:={ live:=[0,1,4,5,7,8,9,10,11,12,24] }) fa11_good rfl nr_mixed func67 rfl conRisT 2 (by decide) (by kernel_rfl) ?_
 intro args hpre hlens
 simp only [conRisT] at hpre
 split at hpre
 case h_2=>exact hpre.elim
 rename_i l el f caps
 simp only [lenS] at hlens
 obtain ⟨rfl,rfl⟩:=hpre
 refine ⟨rfl,?_⟩
 simp -dsimp -implicitDefEqProofs [f67,conRisT_eq,fa11_all,fa11_S,inI64]
 refine WpD.loop (L:={ live:=[0,1,4,5,7,8,9,10,11,12,24] }) fa11_good X0_ok nr_mixed (by kernel_rfl)
  (fun i:Nat=>⟨[(1,⟨true,.v (.s (.fnp 68 []))⟩),(5,vI (lastNo (nosL l) i)),(9,vS tTst l el),(10,vI l.length),(11,vI i)],[]⟩)
  (fun i=>i≤l.length∧∀ j,j<i→nosAt (nosL l) j) (fun i=>l.length - i) 0 ⟨Nat.zero_le _,fun j h=>absurd h (by omega)⟩ (Turn.le (by simp -dsimp -implicitDefEqProofs [lastNo_zero])) ?_
 rintro i ⟨hi,hj⟩
 have hnl:=nosL_len l
 rcases Nat.lt_or_ge i l.length with hil | hge
 ·
  have hli:=nosL_get hil
  have hiff:=nos_iff hj
  rw [hli] at hiff
  have hls:=lastNo_succ (nosL l) i
  rw [hli] at hls
  simp -dsimp -implicitDefEqProofs [conRisT_eq,hil,fa11_all,fa11_S,inI64]
  refine ⟨fun h=>nos_not (i:=i) (by omega) fun hc => ?_,fun h1 h2=>⟨⟨by omega,by omega⟩,i+1,⟨by omega,nos_step hj (hiff.2 ⟨h1,h2⟩)⟩,by omega,?_⟩⟩
  ·
   have:=hiff.1 hc; omega
  ·
   rw [hls]; exact TurnT.trunc X0_ok (hp:=[]) (junk:=[_]) (by simp) (by simp only [List.length_cons,List.length_nil,List.all_cons,List.all_nil,arr_below,Bool.and_true] <;> simp [Blk.below,SV.below]) (by simp -dsimp -implicitDefEqProofs []) (by simp [envBelow,RV.below,AV.below,SV.below])
 ·
  have hn:¬ i<l.length:=by omega
  simp -dsimp -implicitDefEqProofs [conRisT_eq,hn,fa11_all,fa11_S,inI64]
  exact fun j h=>hj j (by omega)
def pOk (n1:Bool) (m1:List Int) (n2:Bool) (m2:List Int):Prop:=okS n1 m1 n2 m2∧0≤sgn n1 m1∧sgn n1 m1≤(vl m2:Int)
def tstOk (x:tTst.T):Prop:=pOk x.2.1.1.1 x.2.1.1.2.1 x.2.1.2.1.1 x.2.1.2.1.2.1
def famP (l:List tTst.T):Prop:=okNos (nosL l)∧∀ x∈l,tstOk x
noncomputable instance (l:List tTst.T):Decidable (famP l):=Classical.propDecidable _
def chkF (l:List tTst.T) (k1:Bool) (l1:List Int) (k2:Bool) (l2:List Int):Int:=if 64<l.length then 2 else if famP l then lvlE k1 l1 k2 l2 else 430
theorem chkF_2 {l:List tTst.T} {k1:Bool} {l1:List Int} {k2:Bool} {l2:List Int} (h:64<l.length):chkF l k1 l1 k2 l2=2:=if_pos h
theorem chkF_430 {l:List tTst.T} {k1:Bool} {l1:List Int} {k2:Bool} {l2:List Int} (h:l.length≤64) (h2:¬ famP l):chkF l k1 l1 k2 l2=430:=by unfold chkF; rw [if_neg (by omega),if_neg h2]
theorem chkF_l {l:List tTst.T} {k1:Bool} {l1:List Int} {k2:Bool} {l2:List Int} (h:l.length≤64) (h2:famP l):chkF l k1 l1 k2 l2=lvlE k1 l1 k2 l2:=by unfold chkF; rw [if_neg (by omega),if_pos h2]
theorem chkF_0 {l:List tTst.T} {k1:Bool} {l1:List Int} {k2:Bool} {l2:List Int}:chkF l k1 l1 k2 l2=0↔l.length≤64∧famP l∧lvlE k1 l1 k2 l2=0:=by
 unfold chkF
 split
 ·
  simp; omega
 ·
  split
  ·
   simp_all
  ·
   simp_all
def fa12Γ:List (FuncId×Con):=(40,conRisI)::(67,conRisT)::(42,conLvl)::(44,conLvl)::fa11Γ
theorem fa12Γ_ok:OkΓ fa12Γ:=by
 simp only [OkΓ,fa12Γ,List.forall_mem_cons]
 exact ⟨⟨enters_of func40 (by kernel_rfl) rfl,risi_ok⟩,⟨enters_of func67 (by kernel_rfl) rfl,rist_ok⟩,⟨enters_of func42 (by kernel_rfl) rfl,lvl_ok⟩,⟨enters_of func44 (by kernel_rfl) rfl,rlvl_ok⟩,fa11Γ_ok⟩
def fa12E:=fa11E
theorem fa12E_ok:OkE fa12E:=fa11E_ok
def fa12P:=fa11P
theorem fa12P_ok:OkP fa12P:=fa11P_ok
def fa12F:=fa11F
theorem fa12F_ok:OkF fa12F:=fa11F_ok
def fa12:G:={ τ:=faT,Γ:=fa12Γ,E:=fa12E,Pn:=fa12P,E2:=fa12F }
theorem fa12_good:fa12.good prog:=good_of_all (faT_ok _ rfl) fa12Γ_ok fa12E_ok fa12P_ok fa12F_ok
theorem fa12_all:(∀ t,fa12.td t=(look faT t).getD .other)∧fa12.y=false∧fa12.Γ=fa12Γ∧fa12.E=fa12E∧fa12.Pn=fa12P∧fa12.E2=fa12F∧fa12.fz=[]∧fa12.te=false∧fa12.bo=false∧fa12.pm=false:=⟨fun _=>rfl,rfl,rfl,rfl,rfl,rfl,rfl,rfl,rfl,rfl⟩
def fa12_S:=And.intro (And.intro @faT.eq_1 (And.intro @fa12Γ.eq_1 (And.intro @fa12E.eq_1 (And.intro @fa12P.eq_1 (And.intro @fa12F.eq_1 (And.intro @conRisI_eq (And.intro @conRisT_eq (@conLvl_eq)))))))) fa11_S
def conChkF:Con:=⟨fun args=>(match args with
 | [.s (.sl (.cons (.int .i64) (.cons (.cons (.cons .bool (.cons (.slice (.int .i64)) .nil)) (.cons (.cons .bool (.cons (.slice (.int .i64)) .nil)) .nil)) .nil)) l _),.agg [.bool k1,.sl (.int .i64) l1 _,.bool k2,.sl (.int .i64) l2 _]]=>True
 | _=>False),fun args=>match args with
 | [.s (.sl (.cons (.int .i64) (.cons (.cons (.cons .bool (.cons (.slice (.int .i64)) .nil)) (.cons (.cons .bool (.cons (.slice (.int .i64)) .nil)) .nil)) .nil)) l _),.agg [.bool k1,.sl (.int .i64) l1 _,.bool k2,.sl (.int .i64) l2 _]]=>.v (aI (chkF l k1 l1 k2 l2))
 | _=>.v (.s .any)⟩
theorem conChkF_eq (l:List (Ty.T tTst)) (exl:Bool) (k1:Bool) (l1:List (Ty.T tI)) (exl1:Bool) (k2:Bool) (l2:List (Ty.T tI)) (exl2:Bool):conChkF.pre [.s (.sl tTst l exl),.agg [.bool k1,.sl tI l1 exl1,.bool k2,.sl tI l2 exl2]]=(True)∧conChkF.val [.s (.sl tTst l exl),.agg [.bool k1,.sl tI l1 exl1,.bool k2,.sl tI l2 exl2]]=.v (aI (chkF l k1 l1 k2 l2)):=⟨rfl,rfl⟩
theorem chkf_ok:PureOk prog 26 conChkF:=by
 refine pureOkD (L:={ live:=[0,1,3,4,6,9,10,11,12,13,16,38] }) fa12_good rfl nr_mixed func26 rfl conChkF 2 (by decide) (by kernel_rfl) ?_
 intro args hpre hlens
 simp only [conChkF] at hpre
 split at hpre
 case h_2=>exact hpre.elim
 rename_i l el k1 l1 f1 k2 l2 f2
 simp only [lenS] at hlens
 refine ⟨rfl,?_⟩
 simp -dsimp -implicitDefEqProofs [f26,conChkF_eq,fa12_all,fa12_S,inI64]
 change List Int at l1; change List Int at l2
 refine ⟨fun h=>(chkF_2 (by omega)).symm,fun hle => ?_⟩
 have hle':l.length≤64:=by omega
 refine WpD.loop (L:={ live:=[0,1,3,4,6,9,10,11,12,13,16,38] }) fa12_good X0_ok nr_mixed (by kernel_rfl)
  (fun i:Nat=>⟨[(0,vS tTst l el),(3,⟨true,.v (.s (.box 0 0))⟩),(4,vI 0),(10,vS tTst l el),(11,vI l.length),(12,vI i)],[.cells [.bool k1,.sl tI l1 f1,.bool k2,.sl tI l2 f2]]⟩)
  (fun i=>i≤l.length∧∀ j (h:j<l.length),j<i→tstOk l[j]) (fun i=>l.length - i) 0 ⟨Nat.zero_le _,fun j _ h=>absurd h (by omega)⟩ (Turn.le (by simp -dsimp -implicitDefEqProofs)) ?_
 rintro i ⟨hi,hj⟩
 rcases Nat.lt_or_ge i l.length with hil | hge
 ·
  have hnot:¬ tstOk l[i]→(430:Int)=chkF l k1 l1 k2 l2:=fun h=>(chkF_430 hle' fun hf=>h (hf.2 _ (List.getElem_mem hil))).symm
  simp -dsimp -implicitDefEqProofs [conChkF_eq,hil,rat0,rat1,len_0,len_1,cmpZ_lt0,cmpZ_le,cmpZ_gt0,fa12_all,fa12_S,inI64]
  refine ⟨fun h=>⟨fun _=>hnot fun q=>h q.1,fun h2=>absurd h2 h⟩,fun h=>⟨⟨⟨h.1,okRat_0⟩,by have:=h.2; omega,by have:=h.2; omega⟩,fun h1=>⟨fun _=>hnot fun q=>absurd q.2.1 (by omega),fun h2=>absurd h2 (by omega)⟩,fun h1=>⟨⟨⟨h.1,okRat_1⟩,by have:=h.2; omega,by have:=h.2; omega⟩,fun h2=>hnot fun q=>absurd q.2.2 (by omega),fun h2=>⟨⟨by omega,by omega⟩,i+1,⟨by omega,fun j q1 q2 => ?_⟩,by omega,TurnT.trunc X0_ok (hp:=[_]) (junk:=[_]) (by simp) (by simp only [List.length_cons,List.length_nil,List.all_cons,List.all_nil,arr_below,Bool.and_true] <;> simp [Blk.below,SV.below]) (by simp -dsimp -implicitDefEqProofs []) (by simp [envBelow,RV.below,AV.below,SV.below])⟩⟩⟩⟩
  rcases Nat.lt_succ_iff_lt_or_eq.1 q2 with h' | rfl
  ·
   exact hj j q1 h'
  ·
   exact ⟨h,h1,h2⟩
 ·
  have hn:¬ i<l.length:=by omega
  have hall:∀ x∈l,tstOk x:=fun x hx=>by
   obtain ⟨j,hjl,rfl⟩:=List.mem_iff_getElem.1 hx
   exact hj j hjl (by omega)
  simp -dsimp -implicitDefEqProofs [conChkF_eq,hn,fa12_all,fa12_S,inI64]
  exact ⟨fun h=>(chkF_430 hle' fun hf=>h hf.1).symm,fun h=>(chkF_l hle' ⟨h,hall⟩).symm⟩
def numE (l:List Int):Int:=if 64<l.length then 2 else if okNos l then 0 else 430
theorem numE_2 {l:List Int} (h:64<l.length):numE l=2:=if_pos h
theorem numE_430 {l:List Int} (h:l.length≤64) (h2:¬ okNos l):numE l=430:=by unfold numE; rw [if_neg (by omega),if_neg h2]
theorem numE_0 {l:List Int} (h:l.length≤64) (h2:okNos l):numE l=0:=by unfold numE; rw [if_neg (by omega),if_pos h2]
def conNumE:Con:=⟨fun args=>(match args with
 | [.s (.sl (.int .i64) l _)]=>True
 | _=>False),fun args=>match args with
 | [.s (.sl (.int .i64) l _)]=>.v (aI (numE l))
 | _=>.v (.s .any)⟩
theorem conNumE_eq (l:List (Ty.T tI)) (exl:Bool):conNumE.pre [.s (.sl tI l exl)]=(True)∧conNumE.val [.s (.sl tI l exl)]=.v (aI (numE l)):=⟨rfl,rfl⟩
theorem nume_ok:PureOk prog 43 conNumE:=by
 refine pureOkD (L:={ live:=[0,2,3,6,10,40] }) fa12_good rfl nr_mixed func43 rfl conNumE 1 (by decide) (by kernel_rfl) ?_
 intro args hpre hlens
 simp only [conNumE] at hpre
 split at hpre
 case h_2=>exact hpre.elim
 rename_i l el
 simp only [lenS] at hlens
 refine ⟨rfl,?_⟩
 simp -dsimp -implicitDefEqProofs [f43,conNumE_eq,fa12_all,fa12_S,inI64]
 change List Int at l
 refine ⟨fun h=>(numE_2 (by omega)).symm,fun hle => ?_⟩
 have hle':l.length≤64:=by omega
 refine WpD.loop (L:={ live:=[0,2,3,6,10,40] }) fa12_good X0_ok nr_mixed (by kernel_rfl)
  (fun i:Nat=>⟨[(0,vS tI l el),(3,vI i)],[]⟩)
  (fun i=>i≤l.length∧∀ j,j<i→nosAt l j) (fun i=>l.length - i) 0 ⟨Nat.zero_le _,fun j h=>absurd h (by omega)⟩ (Turn.le (by simp -dsimp -implicitDefEqProofs)) ?_
 rintro i ⟨hi,hj⟩
 rcases Nat.lt_or_ge i l.length with hil | hge
 ·
  have hli:l[i]=l[i]?.getD 0:=by rw [List.getElem?_eq_getElem hil]; rfl
  simp -dsimp -implicitDefEqProofs [conNumE_eq,hil,fa12_all,fa12_S,inI64]
  refine ⟨fun a b c=>⟨⟨⟨a,b⟩,c⟩,by omega,by omega⟩,fun a b c=>⟨⟨⟨a,b⟩,c⟩,by omega,by omega⟩,fun a b=>⟨⟨a,b⟩,fun c=>⟨⟨a,b⟩,c⟩⟩,fun h => ?_,fun a b c=>⟨⟨by omega,by omega⟩,i+1,⟨by omega,nos_step hj ⟨by rw [← hli]; exact ⟨a,b⟩,fun h=>by rw [← hli]; exact c h⟩⟩,by omega,TurnT.le (by simp -dsimp -implicitDefEqProofs)⟩⟩
  refine (numE_430 hle' (nos_not hil fun hc => ?_)).symm
  unfold nosAt at hc
  rw [← hli] at hc
  obtain ⟨⟨a,b⟩,c⟩:=hc
  rcases h with h | ⟨h1,h2⟩
  ·
   omega
  ·
   have:=c h1; omega
 ·
  have hn:¬ i<l.length:=by omega
  simp -dsimp -implicitDefEqProofs [conNumE_eq,hn,fa12_all,fa12_S,inI64]
  exact (numE_0 hle' fun j h=>hj j (by omega)).symm
def fa13Γ:List (FuncId×Con):=(26,conChkF)::(43,conNumE)::fa12Γ
theorem fa13Γ_ok:OkΓ fa13Γ:=by
 simp only [OkΓ,fa13Γ,List.forall_mem_cons]
 exact ⟨⟨enters_of func26 (by kernel_rfl) rfl,chkf_ok⟩,⟨enters_of func43 (by kernel_rfl) rfl,nume_ok⟩,fa12Γ_ok⟩
def fa13E:=fa12E
theorem fa13E_ok:OkE fa13E:=fa12E_ok
def fa13P:=fa12P
theorem fa13P_ok:OkP fa13P:=fa12P_ok
def fa13F:=fa12F
theorem fa13F_ok:OkF fa13F:=fa12F_ok
def fa13:G:={ τ:=faT,Γ:=fa13Γ,E:=fa13E,Pn:=fa13P,E2:=fa13F }
theorem fa13_good:fa13.good prog:=good_of_all (faT_ok _ rfl) fa13Γ_ok fa13E_ok fa13P_ok fa13F_ok
theorem fa13_all:(∀ t,fa13.td t=(look faT t).getD .other)∧fa13.y=false∧fa13.Γ=fa13Γ∧fa13.E=fa13E∧fa13.Pn=fa13P∧fa13.E2=fa13F∧fa13.fz=[]∧fa13.te=false∧fa13.bo=false∧fa13.pm=false:=⟨fun _=>rfl,rfl,rfl,rfl,rfl,rfl,rfl,rfl,rfl,rfl⟩
def fa13y:G:={ τ:=faT,Γ:=fa13Γ,E:=fa13E,Pn:=fa13P,E2:=fa13F,y:=true }
theorem fa13y_good:fa13y.good prog:=good_of_all (faT_ok _ rfl) fa13Γ_ok fa13E_ok fa13P_ok fa13F_ok
theorem fa13y_all:(∀ t,fa13y.td t=(look faT t).getD .other)∧fa13y.y=true∧fa13y.Γ=fa13Γ∧fa13y.E=fa13E∧fa13y.Pn=fa13P∧fa13y.E2=fa13F∧fa13y.fz=[]∧fa13y.te=false∧fa13y.bo=false∧fa13y.pm=false:=⟨fun _=>rfl,rfl,rfl,rfl,rfl,rfl,rfl,rfl,rfl,rfl⟩
theorem fa13y_q:fa13y.quiet=fa13:=rfl
def fa13_S:=And.intro (And.intro @faT.eq_1 (And.intro @fa13Γ.eq_1 (And.intro @fa13E.eq_1 (And.intro @fa13P.eq_1 (And.intro @fa13F.eq_1 (And.intro @conChkF_eq (@conNumE_eq))))))) fa12_S
end Go.Am
namespace Go.Am
set_option maxHeartbeats 8000000
theorem flats_take (t:Ty):∀ (xs:List t.T) (j:Nat),(t.flats xs).take (j*t.size)=t.flats (xs.take j)
 | xs,0=>by simp [Ty.flats]
 | [],j+1=>by simp [Ty.flats]
 | x::xs,j+1=>by
  have hl:=flat_length t x
  rw [List.take_succ_cons,Ty.flats,Ty.flats,Nat.succ_mul,Nat.add_comm,← hl,List.take_length_add_append,hl,flats_take t xs j]
theorem flats_drop (t:Ty):∀ (xs:List t.T) (j:Nat),(t.flats xs).drop (j*t.size)=t.flats (xs.drop j)
 | xs,0=>by simp
 | [],j+1=>by simp [Ty.flats]
 | x::xs,j+1=>by
  have hl:=flat_length t x
  rw [List.drop_succ_cons,Ty.flats,Nat.succ_mul,Nat.add_comm,← hl,List.drop_length_add_append,hl,flats_drop t xs j]
theorem flats_at (t:Ty) {xs:List t.T} {j:Nat} (h:j<xs.length):((t.flats xs).drop (j*t.size)).take t.size=t.flat xs[j]:=by
 rw [flats_drop,List.drop_eq_getElem_cons h,Ty.flats]
 have hl:=flat_length t xs[j]
 rw [List.take_append_of_le_length (by omega),List.take_of_length_le (by omega)]
theorem flats_set (t:Ty) {xs:List t.T} {j:Nat} (h:j<xs.length) (v:t.T):(t.flats xs).take (j*t.size)++(t.flat v++(t.flats xs).drop (j*t.size+t.size))=t.flats (xs.set j v):=by
 have e:j*t.size+t.size=(j+1)*t.size:=by rw [Nat.succ_mul]
 rw [e,flats_take,flats_drop,List.set_eq_take_append_cons_drop,if_pos h]
 have hc:∀ a b:List t.T,t.flats (a++b)=t.flats a++t.flats b:=fun a b=>by
  induction a with
  | nil=>rfl
  | cons x a ih=>simp [Ty.flats,ih]
 rw [hc,Ty.flats]
section
variable {α:Type} (c:α→α→Int) (d:α)
def srtTo (ys:List α) (i:Nat):Prop:=∀ p q,p<q→q<i→c (ys[p]?.getD d) (ys[q]?.getD d)≤0
def insP (ys:List α) (i j:Nat):Prop:=∀ p q,p<q→q≤i→q≠j→c (ys[p]?.getD d) (ys[q]?.getD d)≤0
variable {c d}
theorem ins_start {ys:List α} {i:Nat} (h:srtTo c d ys i):insP c d ys i i:=fun p q h1 h2 h3=>h p q h1 (by omega)
theorem ins_done {D:α→Prop} (ho:Ordr D c) {ys:List α} (hD:∀ x∈ys,D x) {i j:Nat} (hi:i<ys.length) (hj:j≤i) (h:insP c d ys i j) (he:j=0∨0≤c (ys[j]?.getD d) (ys[j - 1]?.getD d)):srtTo c d ys (i+1):=by
 have hm:∀ k,k<ys.length→D (ys[k]?.getD d):=fun k hk=>hD _ (by rw [List.getElem?_eq_getElem hk]; exact List.getElem_mem hk)
 intro p q h1 h2
 by_cases hq:q=j
 ·
  subst hq
  have h0:0≤c (ys[q]?.getD d) (ys[q - 1]?.getD d):=by
   rcases he with he | he
   ·
    omega
   ·
    exact he
  have a:=ho.anti _ _ (hm (q - 1) (by omega)) (hm q (by omega))
  by_cases hp:p=q - 1
  ·
   subst hp; omega
  ·
   have t1:=h p (q - 1) (by omega) (by omega) (by omega)
   exact ho.trans _ _ _ (hm p (by omega)) (hm (q - 1) (by omega)) (hm q (by omega)) t1 (by omega)
 ·
  exact h p q h1 (by omega) hq
theorem ins_swap {ys:List α} {i j:Nat} (hi:i<ys.length) (hj:j+1≤i) (h:insP c d ys i (j+1)) (he:c (ys[j+1]?.getD d) (ys[j]?.getD d)<0) :
  insP c d ((ys.set (j+1) (ys[j]?.getD d)).set j (ys[j+1]?.getD d)) i j:=by
 have e:∀ k,((ys.set (j+1) (ys[j]?.getD d)).set j (ys[j+1]?.getD d))[k]?.getD d=if k=j then ys[j+1]?.getD d else if k=j+1 then ys[j]?.getD d else ys[k]?.getD d:=by
  intro k
  by_cases h1:k=j
  ·
   subst h1
   rw [if_pos rfl,List.getElem?_set_self (by rw [List.length_set]; omega)]; rfl
  ·
   rw [if_neg h1,List.getElem?_set_ne (fun e=>h1 e.symm)]
   by_cases h2:k=j+1
   ·
    subst h2
    rw [if_pos rfl,List.getElem?_set_self (by omega)]; rfl
   ·
    rw [if_neg h2,List.getElem?_set_ne (fun e=>h2 e.symm)]
 intro p q h1 h2 h3
 rw [e,e]
 rw [if_neg h3]
 by_cases hq:q=j+1
 ·
  subst hq
  rw [if_pos rfl]
  by_cases hp:p=j
  ·
   subst hp; rw [if_pos rfl]; omega
  ·
   rw [if_neg hp,if_neg (by omega)]
   exact h p j (by omega) (by omega) (by omega)
 ·
  rw [if_neg hq]
  by_cases hp:p=j
  ·
   subst hp; rw [if_pos rfl]; exact h (p+1) q (by omega) h2 hq
  ·
   rw [if_neg hp]
   by_cases hp2:p=j+1
   ·
    subst hp2; rw [if_pos rfl]; exact h j q (by omega) h2 hq
   ·
    rw [if_neg hp2]; exact h p q h1 h2 hq
theorem swap_perm {ys:List α} {j:Nat} (h:j+1<ys.length):((ys.set (j+1) (ys[j]?.getD d)).set j (ys[j+1]?.getD d)).Perm ys:=by
 rw [List.getElem?_eq_getElem h,List.getElem?_eq_getElem (show j<ys.length by omega)]
 exact List.set_set_perm h (by omega)
theorem srt_all {ys:List α} (h:srtTo c d ys ys.length):ys.Pairwise fun x y=>c x y≤0:=by
 rw [List.pairwise_iff_getElem]
 intro p q hp hq hpq
 have:=h p q hpq hq
 rw [List.getElem?_eq_getElem hp,List.getElem?_eq_getElem hq] at this
 exact this
end
def cmpTo (Γ:List (FuncId×Con)) (t:Ty) (f:FuncId) (caps:List (Sigma Ty.T)) (cmp:t.T→t.T→Int) (D:t.T→Prop):Prop :=
 ∃ c,look Γ f=some c∧∀ x y,D x→D y→c.pre (t.av x::t.av y::caps.map capAV)∧c.val (t.av x::t.av y::caps.map capAV)=.v (.s (.int .i64 (cmp x y)))
end Go.Am
namespace Go.Am
set_option maxHeartbeats 8000000
set_option maxRecDepth 20000
open Go.RowKit Go.Proofs Go.Proofs.Tryz
attribute [local simp ←] flats_append
attribute [local simp] thenKD_normal thenKD_exit thenKD_goto thenKD_ret inBlockKD_normal inBlockKD_exit inBlockKD_goto inBlockKD_ret noGotoKD_normal noGotoKD_exit noGotoKD_goto noGotoKD_ret roundKD_normal roundKD_exit roundKD_goto roundKD_ret frzSlotsD_nil frzSlotsD_cons frzSlotD_eq yieldVCD_trace opVCD_eq vcOpsD_nil vcOpsD_cons vcAllD_zero vcAllD_succ allAtD_nil allAtD_cons readyAux edgA vcD_skip vcD_label vcD_exit vcD_goto vcD_ret vcD_region vcD_seq vcD_seqC vcD_cond vcCondD_bool vcD_block vcD_scope vcD_loop vcD_rangeFunc yieldOf isMem isMem0 keepE envLe St.le psE yieldAV round_td round_y round_Γ vI vB vS aI aB aS look getE oper opRV putE allOk okOps Op.operands Call.operands pEv qEv mEv constRV coe RV.av loadEv loadCs takeAt indexAddrEv fieldAddrEv binEv intEv arith unEv gcond pickEv argsEv callVal callEv capAV_mk lenArgs lenEv minEv extractEv convEv funcEv allBox bound sliceEv lookupEv TD.isBool allocEv boxEv storeEv spl plainTD appendEv appendArgs makeMapEv mapUpdateEv buildEv buildSliceEv fillSV zsvOf sizeTD Ty.parses parses_flats' coeA flats_length AV.good AV.cells AV.pure SV.pure av_int av_bool av_str av_slice av_cons av_fld0 av_fld1 av_fld2 av_fld3 av_fld4 Ty.of Ty.dflt Ty.parse Ty.flat Ty.zsv Ty.fld Ty.un Ty.unv Ty.snoc Ty.snocV hd_mk kids_mk hd_dflt kids_dflt Ty.get Ty.off Ty.nfld Ty.size coeTy junk Blk.look argEnv resEv resOk resVs oneRV retOk frzAs frzAV frzL frzSV boxCaps boxCap SV.sig sigs RV.scalar AV.scalar SV.scalar nope effVCD_eq effOf SV.ids AV.ids dedup SV.ren AV.ren RV.ren idx outId mergeB Blk.pureB flats_pure flat_pure epsSlotsD_nil epsSlotsD_cons epsSlotD_eq allEp D.parts_fnOf fvParts retEff round_E av_fn G.ye isCutD_nil isCutD_cons firstReg_region firstReg_seq firstReg_skip firstReg_ret firstReg_label firstReg_exit firstReg_goto firstReg_cond firstReg_block firstReg_scope firstReg_loop firstReg_rf eptrOf_mk flOfD_nil flOfD_cons vcFlD_cons vcFlD_nil flPairs_nil flPairs_cons vcFrD_nil vcFrD_cons makeSliceEv vcCondD_ib fzEv unfl_flats isFz round_fz panVCD_eq panOf isShift strIdxEv ifaceEv nilChkEv sliceAnyEv sliceOwnEv sliceSufEv appendEv0 appendEv1 Ty.beq Ty.isAgg round_Pn vcDefD_seqR vcDefD_seqS vcDefD_seqC vcDefD_seqB vcDefD_seqL vcDefD_seqF vcDefD_seqSc vcDefD_region vcDefD_ret vcDefD_cond vcDefD_block vcDefD_loop thenKD_panic inBlockKD_panic noGotoKD_panic exitOk_normal exitOk_ret exitOk_panic exitOk_exit runDefs_none runDefs_some runDefs_cons defRegD defReg2D isDefer defOf caughtCon unfl_cons D.bpart_bndOf D.parts_bndOf AV.sig zapEv capArgs capEv effVC2D_eq effSelD_eq effOf2 effOf2V borAt borAll borAV borSV borIds selOf reachB closedB Blk.sound Blk.ids Blk.ren Blk.scalarB retEff2 retEff2S round_E2 round_te round_bo round_pm andEv orEv xorEv bitsEv utop cvEv callAny callBor slicePartEv makePartEv copyEv copyArgs boundEv globs vcPiD_nil vcPiD_cons piOpD_eq appStrEv
def cmT:List (TypeId×TD):=[(3,.sc tI),(4,.sc .bool),(23,.slice 3 tI 8)]
theorem cmT_ok (g:G) (hg:g.τ=cmT):G.ok prog g:=by
 refine ok_of_all ?_
 rw [hg]
 simp only [cmT,List.forall_mem_cons]
 exact ⟨⟨by kernel_rfl,rfl,by kernel_rfl,rfl⟩,
 ⟨by kernel_rfl,rfl,by kernel_rfl,rfl⟩,
 ⟨by kernel_rfl,by decide,by kernel_rfl,⟨cellsV (Ty.zcells tI),by kernel_rfl,by kernel_rfl,by kernel_rfl⟩,by kernel_rfl⟩,by simp⟩
def cm0Γ:List (FuncId×Con):=[]
theorem cm0Γ_ok:OkΓ cm0Γ:=by simp [cm0Γ]
def cm0E:List (FuncId×ECon):=[]
theorem cm0E_ok:OkE cm0E:=by simp [cm0E]
def cm0P:List (FuncId×PCon):=[]
theorem cm0P_ok:OkP cm0P:=by simp [cm0P]
def cm0F:List (FuncId×ECon2):=[]
theorem cm0F_ok:OkF cm0F:=by simp [cm0F]
def cm0:G:={ τ:=cmT,Γ:=cm0Γ,E:=cm0E,Pn:=cm0P,E2:=cm0F }
theorem cm0_good:cm0.good prog:=good_of_all (cmT_ok _ rfl) cm0Γ_ok cm0E_ok cm0P_ok cm0F_ok
theorem cm0_all:(∀ t,cm0.td t=(look cmT t).getD .other)∧cm0.y=false∧cm0.Γ=cm0Γ∧cm0.E=cm0E∧cm0.Pn=cm0P∧cm0.E2=cm0F∧cm0.fz=[]∧cm0.te=false∧cm0.bo=false∧cm0.pm=false:=⟨fun _=>rfl,rfl,rfl,rfl,rfl,rfl,rfl,rfl,rfl,rfl⟩
def cm0_S:=And.intro @cmT.eq_1 (And.intro @cm0Γ.eq_1 (And.intro @cm0E.eq_1 (And.intro @cm0P.eq_1 (@cm0F.eq_1))))
def conNaT:Con:=⟨fun args=>(match args with
 | [.s (.int .i64 a)]=>True
 | _=>False),fun args=>match args with
 | [.s (.int _ a)]=>.v (aB false)
 | _=>.v (.s .any)⟩
theorem conNaT_eq (a:Int):conNaT.pre [.s (.int .i64 a)]=(True)∧conNaT.val [.s (.int .i64 a)]=.v (aB false):=⟨rfl,rfl⟩
theorem nat_ok:PureOk prog 124 conNaT:=by
 refine pureOkD (L:={ live:=[0,2] }) cm0_good rfl nr_mixed func124 rfl conNaT 1 (by decide) (by kernel_rfl) ?_
 intro args hpre hlens
 simp only [conNaT] at hpre
 split at hpre
 case h_2=>exact hpre.elim
 rename_i a
 simp only [lenS] at hlens
 refine ⟨rfl,?_⟩
 simp -dsimp -implicitDefEqProofs [f124,conNaT_eq,cm0_all,cm0_S,inI64]
def cm1Γ:List (FuncId×Con):=(124,conNaT)::cm0Γ
theorem cm1Γ_ok:OkΓ cm1Γ:=by
 simp only [OkΓ,cm1Γ,List.forall_mem_cons]
 exact ⟨⟨enters_of func124 (by kernel_rfl) rfl,nat_ok⟩,cm0Γ_ok⟩
def cm1E:=cm0E
theorem cm1E_ok:OkE cm1E:=cm0E_ok
def cm1P:=cm0P
theorem cm1P_ok:OkP cm1P:=cm0P_ok
def cm1F:=cm0F
theorem cm1F_ok:OkF cm1F:=cm0F_ok
def cm1:G:={ τ:=cmT,Γ:=cm1Γ,E:=cm1E,Pn:=cm1P,E2:=cm1F }
theorem cm1_good:cm1.good prog:=good_of_all (cmT_ok _ rfl) cm1Γ_ok cm1E_ok cm1P_ok cm1F_ok
theorem cm1_all:(∀ t,cm1.td t=(look cmT t).getD .other)∧cm1.y=false∧cm1.Γ=cm1Γ∧cm1.E=cm1E∧cm1.Pn=cm1P∧cm1.E2=cm1F∧cm1.fz=[]∧cm1.te=false∧cm1.bo=false∧cm1.pm=false:=⟨fun _=>rfl,rfl,rfl,rfl,rfl,rfl,rfl,rfl,rfl,rfl⟩
def cm1_S:=And.intro (And.intro @cmT.eq_1 (And.intro @cm1Γ.eq_1 (And.intro @cm1E.eq_1 (And.intro @cm1P.eq_1 (And.intro @cm1F.eq_1 (@conNaT_eq)))))) cm0_S
def conCmpI:Con:=⟨fun args=>(match args with
 | [.s (.int .i64 a),.s (.int .i64 b)]=>True
 | _=>False),fun args=>match args with
 | [.s (.int _ a),.s (.int _ b)]=>.v (aI (cmpZ a b))
 | _=>.v (.s .any)⟩
theorem conCmpI_eq (a:Int) (b:Int):conCmpI.pre [.s (.int .i64 a),.s (.int .i64 b)]=(True)∧conCmpI.val [.s (.int .i64 a),.s (.int .i64 b)]=.v (aI (cmpZ a b)):=⟨rfl,rfl⟩
theorem cmpi_ok:PureOk prog 80 conCmpI:=by
 refine pureOkD (L:={ live:=[0,1,4,5,6,11,12,13,16,19] }) cm1_good rfl nr_mixed func80 rfl conCmpI 2 (by decide) (by kernel_rfl) ?_
 intro args hpre hlens
 simp only [conCmpI] at hpre
 split at hpre
 case h_2=>exact hpre.elim
 rename_i a b
 simp only [lenS] at hlens
 refine ⟨rfl,?_⟩
 simp -dsimp -implicitDefEqProofs [f80,conCmpI_eq,cm1_all,cm1_S,inI64]
 refine ⟨fun h=>(cmpZ_lt h).symm,fun h=>⟨fun h2=>(cmpZ_gt h2).symm,fun h2 => ?_⟩⟩
 rw [Int.le_antisymm h h2]
 exact (cmpZ_zero.2 rfl).symm
def orI:List Int→Int
 | []=>0
 | x::r=>if x=0 then orI r else x
theorem orI_at {l:List Int} {i:Nat} (hi:i<l.length) (hz:∀ j,j<i→l[j]?.getD 0=0) (h:l[i]?.getD 0≠0):orI l=l[i]?.getD 0:=by
 induction l generalizing i with
 | nil=>simp at hi
 | cons x r ih =>
  cases i with
  | zero=>simp at h; simp [orI,h]
  | succ i =>
   have h0:x=0:=by have:=hz 0 (by omega); simpa using this
   subst h0
   simp only [orI,if_pos,List.getElem?_cons_succ] at h ⊢
   exact ih (by simpa using hi) (fun j hj=>by have:=hz (j+1) (by omega); simpa using this) h
theorem orI_none {l:List Int} (hz:∀ j,j<l.length→l[j]?.getD 0=0):orI l=0:=by
 induction l with
 | nil=>rfl
 | cons x r ih =>
  have h0:x=0:=by have:=hz 0 (by simp); simpa using this
  subst h0
  simp only [orI,if_pos]
  exact ih fun j hj=>by have:=hz (j+1) (by simpa using hj); simpa using this
def conOrI:Con:=⟨fun args=>(match args with
 | [.s (.sl (.int .i64) l _)]=>True
 | _=>False),fun args=>match args with
 | [.s (.sl (.int .i64) l _)]=>.v (aI (orI l))
 | _=>.v (.s .any)⟩
theorem conOrI_eq (l:List (Ty.T tI)) (exl:Bool):conOrI.pre [.s (.sl tI l exl)]=(True)∧conOrI.val [.s (.sl tI l exl)]=.v (aI (orI l)):=⟨rfl,rfl⟩
theorem ori_ok:PureOk prog 79 conOrI:=by
 refine pureOkD (L:={ live:=[0,2,3,5,6,7,8,9,14] }) cm0_good rfl nr_mixed func79 rfl conOrI 1 (by decide) (by kernel_rfl) ?_
 intro args hpre hlens
 simp only [conOrI] at hpre
 split at hpre
 case h_2=>exact hpre.elim
 rename_i l el
 simp only [lenS] at hlens
 refine ⟨rfl,?_⟩
 simp -dsimp -implicitDefEqProofs [f79,conOrI_eq,cm0_all,cm0_S,inI64]
 change List Int at l
 refine WpD.loop (L:={ live:=[0,2,3,5,6,7,8,9,14] }) cm0_good X0_ok nr_mixed (by kernel_rfl)
  (fun i:Nat=>⟨[(3,vI 0),(6,vS tI l el),(7,vI l.length),(8,vI i)],[]⟩)
  (fun i=>i≤l.length∧∀ j,j<i→l[j]?.getD 0=0) (fun i=>l.length - i) 0 ⟨Nat.zero_le _,fun j h=>absurd h (by omega)⟩ (Turn.le (by simp -dsimp -implicitDefEqProofs)) ?_
 rintro i ⟨hi,hz⟩
 simp -dsimp -implicitDefEqProofs [conOrI_eq,cm0_all,cm0_S,inI64]
 refine ⟨fun hil=>⟨hil,fun h=>(orI_at hil hz h).symm,fun h=>⟨⟨by omega,by omega⟩,i+1,⟨by omega,fun j hj => ?_⟩,by omega,TurnT.le (by simp -dsimp -implicitDefEqProofs)⟩⟩,fun h => ?_⟩
 ·
  rcases Nat.lt_succ_iff_lt_or_eq.1 hj with h' | rfl
  ·
   exact hz j h'
  ·
   exact h
 ·
  exact (orI_none fun j hj=>hz j (by omega)).symm
theorem orI_two (x y:Int):orI [x,y]=if x=0 then y else x:=by
 simp only [orI]
 split
 ·
  split
  ·
   rename_i h; exact h.symm
  ·
   rfl
 ·
  rfl
end Go.Am
