/- Part 9 of the proof's base. -/
import Derived.Test.YtgnoaabcdccpoaaGreatDoorK8
set_option linter.all false
noncomputable section
namespace Go.Am
set_option maxHeartbeats 8000000
set_option maxRecDepth 20000
open Go.RowKit Go.Proofs Go.Proofs.Tryz
attribute [local simp ←] flats_append
attribute [local simp] thenKD_normal thenKD_exit thenKD_goto thenKD_ret inBlockKD_normal inBlockKD_exit inBlockKD_goto inBlockKD_ret noGotoKD_normal noGotoKD_exit noGotoKD_goto noGotoKD_ret roundKD_normal roundKD_exit roundKD_goto roundKD_ret frzSlotsD_nil frzSlotsD_cons frzSlotD_eq yieldVCD_trace opVCD_eq vcOpsD_nil vcOpsD_cons vcAllD_zero vcAllD_succ allAtD_nil allAtD_cons readyAux edgA vcD_skip vcD_label vcD_exit vcD_goto vcD_ret vcD_region vcD_seq vcD_seqC vcD_cond vcCondD_bool vcD_block vcD_scope vcD_loop vcD_rangeFunc yieldOf isMem isMem0 keepE envLe St.le psE yieldAV round_td round_y round_Γ vI vB vS aI aB aS look getE oper opRV putE allOk okOps Op.operands Call.operands pEv qEv mEv constRV coe RV.av loadEv loadCs takeAt indexAddrEv fieldAddrEv binEv intEv arith unEv gcond pickEv argsEv callVal callEv capAV_mk lenArgs lenEv minEv extractEv convEv funcEv allBox bound sliceEv lookupEv TD.isBool allocEv boxEv storeEv spl plainTD appendEv appendArgs makeMapEv mapUpdateEv buildEv buildSliceEv fillSV zsvOf sizeTD Ty.parses parses_flats' coeA flats_length AV.good AV.cells AV.pure SV.pure av_int av_bool av_str av_slice av_cons av_fld0 av_fld1 av_fld2 av_fld3 av_fld4 Ty.of Ty.dflt Ty.parse Ty.flat Ty.zsv Ty.fld Ty.un Ty.unv Ty.snoc Ty.snocV hd_mk kids_mk hd_dflt kids_dflt Ty.get Ty.off Ty.nfld Ty.size coeTy junk Blk.look argEnv resEv resOk resVs oneRV retOk frzAs frzAV frzL frzSV boxCaps boxCap SV.sig sigs RV.scalar AV.scalar SV.scalar nope effVCD_eq effOf SV.ids AV.ids dedup SV.ren AV.ren RV.ren idx outId mergeB Blk.pureB flats_pure flat_pure epsSlotsD_nil epsSlotsD_cons epsSlotD_eq allEp D.parts_fnOf fvParts retEff round_E av_fn G.ye isCutD_nil isCutD_cons firstReg_region firstReg_seq firstReg_skip firstReg_ret firstReg_label firstReg_exit firstReg_goto firstReg_cond firstReg_block firstReg_scope firstReg_loop firstReg_rf eptrOf_mk flOfD_nil flOfD_cons vcFlD_cons vcFlD_nil flPairs_nil flPairs_cons vcFrD_nil vcFrD_cons makeSliceEv vcCondD_ib fzEv unfl_flats isFz round_fz panVCD_eq panOf isShift strIdxEv ifaceEv nilChkEv sliceAnyEv sliceOwnEv sliceSufEv appendEv0 appendEv1 Ty.beq Ty.isAgg round_Pn vcDefD_seqR vcDefD_seqS vcDefD_seqC vcDefD_seqB vcDefD_seqL vcDefD_seqF vcDefD_seqSc vcDefD_region vcDefD_ret vcDefD_cond vcDefD_block vcDefD_loop thenKD_panic inBlockKD_panic noGotoKD_panic exitOk_normal exitOk_ret exitOk_panic exitOk_exit runDefs_none runDefs_some runDefs_cons defRegD defReg2D isDefer defOf caughtCon unfl_cons D.bpart_bndOf D.parts_bndOf AV.sig zapEv capArgs capEv effVC2D_eq effSelD_eq effOf2 effOf2V borAt borAll borAV borSV borIds selOf reachB closedB Blk.sound Blk.ids Blk.ren Blk.scalarB retEff2 retEff2S round_E2 round_te round_bo round_pm andEv orEv xorEv bitsEv utop cvEv callAny callBor slicePartEv makePartEv copyEv copyArgs boundEv globs vcPiD_nil vcPiD_cons piOpD_eq appStrEv
theorem canon_ten:canon [10]:=by rw [show ([10]:List Int)=dig 10 by rw [dig_pos (by decide),show 10 / 1073741824=0 from rfl,dig_zero]; rfl]; exact canon_dig 10
theorem vl_ten:vl [10]=10:=rfl
theorem dig_first {x:Nat} (h:x<1073741824):(dig x)[0]?.getD 0=(x:Int):=by
 by_cases hx:x=0
 ·
  subst hx; rw [dig_zero]; rfl
 ·
  rw [dig_pos hx,Nat.mod_eq_of_lt h]; rfl
theorem rtextn_ok:PureOk prog 83 conTextN:=by
 refine pureOkD (L:={ live:=[0,1,2,3,4,5,6,7,8,12,18,35,37] }) nr7_good rfl nr_mixed func83 rfl conTextN 1 (by decide) (by kernel_rfl) ?_
 intro args hpre hlens
 simp only [conTextN] at hpre
 split at hpre
 case h_2=>exact hpre.elim
 rename_i ng m em
 simp only [lenS] at hlens
 refine ⟨rfl,?_⟩
 simp -dsimp -implicitDefEqProofs [f83,conTextN_eq,nr7_all,nr7_S,inI64]
 change List Int at m
 refine ⟨fun h => ?_,fun h => ?_⟩
 ·
  have:¬ okBig ng m:=fun q=>h (if_pos q)
  rw [txtS,if_neg this]
 have hok:okBig ng m:=by
  by_cases q:okBig ng m
  ·
   exact q
  ·
   rw [natErr,if_neg q] at h; cases h
 obtain ⟨n,hn⟩:∃ n,n=vl m:=⟨_,rfl⟩
 have hd0:dig n=m:=by rw [hn]; exact canon_eq hok.1
 refine WpD.loop (L:={ live:=[0,1,2,3,4,5,6,7,8,12,18,35,37] }) nr7_good X0_ok nr_mixed (by kernel_rfl)
  (fun j:Nat=>⟨[(1,⟨true,.v (.s (.box 0 0))⟩),(5,⟨true,.v (.s (.str (bytesS (decBk j n).reverse)))⟩),(6,vS tI (dig (n / 10 ^ j)) (em&&decide (j=0)))],[.cells [.bool ng,.sl tI m em]]⟩)
  (fun j=>j≤61441∧decL n=decL (n / 10 ^ j)++(decBk j n).reverse) (fun j=>n / 10 ^ j) 0 ⟨by omega,by simp [decBk]⟩ ?_ ?_
 ·
  simp only [Nat.pow_zero,Nat.div_one,hd0,decBk,decide_true,Bool.and_true]
  exact Turn.le (by simp -dsimp -implicitDefEqProofs; rfl)
 rintro j ⟨hj,hdec⟩
 obtain ⟨q,hq⟩:∃ q,q=n / 10 ^ j:=⟨_,rfl⟩
 have hdl:(decBk j n).length=j:=decBk_len _ _
 by_cases hq0:q=0
 ·
  rw [← hq,hq0,decL_zero,List.nil_append] at hdec
  rw [← hq,hq0,dig_zero]
  simp -dsimp -implicitDefEqProofs [nr7_all,nr7_S,inI64]
  rw [← hdec]
  exact txt_end hok h hn (by rw [hdec,List.length_reverse,hdl]; omega)
 ·
  have hlen:(dig q).length≤2048:=dig_same hok.1 (by rw [← hn,hq]; exact Nat.div_le_self _ _) hok.2.1
  have hne:dig q≠[]:=fun h=>hq0 (dig_nil.1 h)
  have hb:j≤61440:=dec_bound hok (by rw [← hn,← hq]; omega)
  have hf:=dig_first (x:=q % 10) (by omega)
  have hct:=canon_ten
  have hcq:=canon_dig q
  have hs:=decBk_snoc j n
  rw [← hq] at hs ⊢
  simp -dsimp -implicitDefEqProofs [vl_dig,vl_ten,hct,hcq,hf,nr7_all,nr7_S,inI64]
  have ew:IntKind.u8.wrap (48+(q:Int) % 10)=48+((q % 10:Nat):Int):=by
   show (48+(q:Int) % 10) % 256=_
   omega
  have e1:n / 10 ^ (j+1)=q / 10:=by rw [hq,Nat.div_div_eq_div_mul,Nat.pow_succ]
  rw [ew,bytesS_append]
  refine ⟨fun _=>⟨hlen,by omega,?_,j+1,⟨by omega,?_⟩,by rw [e1]; omega,?_⟩,fun h=>absurd h hne⟩
  ·
   rw [bytesS_size,bytesS_size,List.length_reverse,hdl]
   simp only [List.length_cons,List.length_nil,maxLen]; omega
  ·
   rw [hdec,← hq,decL_pos hq0,e1,hs,List.reverse_append,List.append_assoc]; rfl
  ·
   rw [e1,hs,List.reverse_append]
   exact TurnT.le (by simp -dsimp -implicitDefEqProofs)
def conDidS:Con:=⟨fun args=>(match args with
 | [.s (.str x),.s (.int .i64 e)]=>e=0
 | _=>False),fun args=>match args with
 | [.s (.str x),.s (.int _ e)]=>.v (.s (.str x))
 | _=>.v (.s .any)⟩
theorem conDidS_eq (x:ByteArray) (e:Int):conDidS.pre [.s (.str x),.s (.int .i64 e)]=(e=0)∧conDidS.val [.s (.str x),.s (.int .i64 e)]=.v (.s (.str x)):=⟨rfl,rfl⟩
theorem dids_ok:PureOk prog 53 conDidS:=by
 refine pureOkD (L:={ live:=[0,1,4] }) nr18_good rfl nr_mixed func53 rfl conDidS 2 (by decide) (by kernel_rfl) ?_
 intro args hpre hlens
 simp only [conDidS] at hpre
 split at hpre
 case h_2=>exact hpre.elim
 rename_i x e
 simp only [lenS] at hlens
 subst hpre
 refine ⟨rfl,?_⟩
 simp -dsimp -implicitDefEqProofs [f53,conDidS_eq,nr18_all,nr18_S,inI64]
def tx3Γ:List (FuncId×Con):=(54,conTextN)::(53,conDidS)::tx2Γ
theorem tx3Γ_ok:OkΓ tx3Γ:=by
 simp only [OkΓ,tx3Γ,List.forall_mem_cons]
 exact ⟨⟨enters_of func54 (by kernel_rfl) rfl,textn_ok⟩,⟨enters_of func53 (by kernel_rfl) rfl,dids_ok⟩,tx2Γ_ok⟩
def tx3E:=tx2E
theorem tx3E_ok:OkE tx3E:=tx2E_ok
def tx3P:=tx2P
theorem tx3P_ok:OkP tx3P:=tx2P_ok
def tx3F:=tx2F
theorem tx3F_ok:OkF tx3F:=tx2F_ok
def tx3:G:={ τ:=nrT,Γ:=tx3Γ,E:=tx3E,Pn:=tx3P,E2:=tx3F }
theorem tx3_good:tx3.good prog:=good_of_all (nrT_ok _ rfl) tx3Γ_ok tx3E_ok tx3P_ok tx3F_ok
theorem tx3_all:(∀ t,tx3.td t=(look nrT t).getD .other)∧tx3.y=false∧tx3.Γ=tx3Γ∧tx3.E=tx3E∧tx3.Pn=tx3P∧tx3.E2=tx3F∧tx3.fz=[]∧tx3.te=false∧tx3.bo=false∧tx3.pm=false:=⟨fun _=>rfl,rfl,rfl,rfl,rfl,rfl,rfl,rfl,rfl,rfl⟩
def tx3_S:=And.intro (And.intro @nrT.eq_1 (And.intro @tx3Γ.eq_1 (And.intro @tx3E.eq_1 (And.intro @tx3P.eq_1 (And.intro @tx3F.eq_1 (And.intro @conTextN_eq (@conDidS_eq))))))) tx2_S
def rtxL (n1:Bool) (m1 m2:List Int):List Int:=txtL n1 (vl m1)++(if vl m2=1 then [] else 47::decL (vl m2))
theorem txtL_one {n:Nat}:(bytesS (txtL false n)).data=#[49]↔n=1:=by
 have key:∀ l:List Int,okBytes l→((bytesS l).data=#[49]↔l=[49]):=fun l hl=>by
  constructor
  ·
   intro h
   have h1:=strL_bytesS hl
   rw [← h1,strL,h]; rfl
  ·
   rintro rfl; rfl
 have hok:okBytes (txtL false n):=by
  rw [txtL]
  split
  ·
   intro c hc; rw [List.mem_singleton] at hc; omega
  ·
   intro c hc
   have:=decL_rng n c (by simpa using hc)
   omega
 rw [key _ hok]
 constructor
 ·
  intro h
  rw [txtL] at h
  split at h
  ·
   cases h
  ·
   rename_i hn
   rw [if_neg (by decide),List.nil_append,decL_pos hn] at h
   have h2:=congrArg List.length h
   rw [List.length_append] at h2
   have h3:decL (n / 10)=[]:=List.eq_nil_of_length_eq_zero (by simpa using h2)
   have h4:n / 10=0:=by
    by_cases q:n / 10=0
    ·
     exact q
    ·
     exact absurd h3 (decL_ne q)
   rw [h3] at h
   injection h with h
   omega
 ·
  rintro rfl; rw [txtL,if_neg (by decide),decL_pos (by decide),show 1 / 10=0 from rfl,decL_zero]; rfl
theorem txtL_den {n:Nat} (h:0<n):txtL false n=decL n:=by rw [txtL,if_neg (by omega),if_neg (by decide),List.nil_append]
theorem txtL_len {ng:Bool} {m:List Int} (h:okBig ng m):(txtL ng (vl m)).length≤70000:=by
 have h2:(decL (vl m)).length≤61441:=by
  obtain ⟨k,hk⟩:∃ k,k=61441:=⟨_,rfl⟩
  suffices hs:(decL (vl m)).length≤k by omega
  refine decL_len k _ ?_
  rcases Nat.lt_or_ge (vl m) (10 ^ k) with q | q
  ·
   exact q
  ·
   have:=dec_bound (i:=k) h (Nat.div_pos q (Nat.pow_pos (by decide))); omega
 rw [txtL]
 split
 ·
  simp
 ·
  rw [List.length_append]
  split <;> simp <;> omega
def conRText:Con:=⟨fun args=>(match args with
 | [.agg [.bool n1,.sl (.int .i64) m1 _,.bool n2,.sl (.int .i64) m2 _]]=>okRat n1 m1 n2 m2
 | _=>False),fun args=>match args with
 | [.agg [.bool n1,.sl (.int .i64) m1 _,.bool n2,.sl (.int .i64) m2 _]]=>.tup [.s (.str (bytesS (rtxL n1 m1 m2))),aI 0]
 | _=>.v (.s .any)⟩
theorem conRText_eq (n1:Bool) (m1:List (Ty.T tI)) (exm1:Bool) (n2:Bool) (m2:List (Ty.T tI)) (exm2:Bool):conRText.pre [.agg [.bool n1,.sl tI m1 exm1,.bool n2,.sl tI m2 exm2]]=(okRat n1 m1 n2 m2)∧conRText.val [.agg [.bool n1,.sl tI m1 exm1,.bool n2,.sl tI m2 exm2]]=.tup [.s (.str (bytesS (rtxL n1 m1 m2))),aI 0]:=⟨rfl,rfl⟩
theorem rtx_facts {n1:Bool} {m1:List Int} {n2:Bool} {m2:List Int} (h:okRat n1 m1 n2 m2):txtS n1 m1=bytesS (txtL n1 (vl m1))∧txtS n2 m2=bytesS (txtL false (vl m2))∧((txtS n2 m2).data.toList=[49]↔vl m2=1) ∧
  (txtS n1 m1).size≤70000∧(txtS n2 m2).size≤70000∧(vl m2=1→txtS n1 m1=bytesS (rtxL n1 m1 m2))∧(vl m2≠1→bytesS (txtL n1 (vl m1))++(⟨#[47]⟩++bytesS (txtL false (vl m2)))=bytesS (rtxL n1 m1 m2)):=by
 obtain ⟨h1,h2,h3,h4,_⟩:=h
 have a1:txtS n1 m1=bytesS (txtL n1 (vl m1)):=if_pos h1
 have a2:txtS n2 m2=bytesS (txtL false (vl m2)):=by rw [txtS,if_pos h2,h3]
 have hp:0<vl m2:=(vl_pos h2.1).2 (List.length_pos_iff.2 h4)
 refine ⟨a1,a2,?_,?_,?_,fun e => ?_,fun e => ?_⟩
 ·
  rw [a2,← txtL_one]
  constructor
  ·
   intro h
   generalize (bytesS (txtL false (vl m2))).data=x at h ⊢
   obtain ⟨x⟩:=x
   simp only at h
   rw [h]
  ·
   intro h; rw [h]
 ·
  rw [a1,bytesS_size]; exact txtL_len h1
 ·
  rw [a2,bytesS_size,← h3]; exact txtL_len h2
 ·
  rw [a1,rtxL,if_pos e,List.append_nil]
 ·
  rw [rtxL,if_neg e,txtL_den hp]
  show _++(bytesS [47]++_)=_
  rw [bytesS_append,bytesS_append]; rfl
theorem rtext_ok:PureOk prog 18 conRText:=by
 refine pureDefD (L:={ live:=[0,1,2,3,4,21] }) tx3_good rfl nr_mixed (dl_cons ⟨enters_of func51 (by kernel_rfl) rfl,caught_ok ratioCaught⟩ dl_nil) func18 rfl conRText 1 (by decide) (by kernel_rfl) ?_
 intro args hpre hlens
 simp only [conRText] at hpre
 split at hpre
 case h_2=>exact hpre.elim
 rename_i n1 m1 e1 n2 m2 e2
 simp only [lenS] at hlens
 refine ⟨rfl,?_⟩
 simp -dsimp -implicitDefEqProofs [f18,conRText_eq,tx3_all,tx3_S,inI64]
 change List Int at m1; change List Int at m2
 obtain ⟨a1,a2,a3,a4,a5,a6,a7⟩:=rtx_facts hpre
 refine ⟨hpre,if_pos hpre.1,if_pos hpre.2.1,fun h=>⟨?_,?_,?_⟩,fun h=>a6 (a3.1 h)⟩
 ·
  show 1+_≤maxLen; simp only [maxLen]; omega
 ·
  show _+(1+_)≤maxLen; simp only [maxLen]; omega
 ·
  rw [a1,a2]; exact a7 fun q=>h (a3.2 q)
def tx4Γ:List (FuncId×Con):=(83,conTextN)::nr22Γ
theorem tx4Γ_ok:OkΓ tx4Γ:=by
 simp only [OkΓ,tx4Γ,List.forall_mem_cons]
 exact ⟨⟨enters_of func83 (by kernel_rfl) rfl,rtextn_ok⟩,nr22Γ_ok⟩
def tx4E:=nr22E
theorem tx4E_ok:OkE tx4E:=nr22E_ok
def tx4P:=nr22P
theorem tx4P_ok:OkP tx4P:=nr22P_ok
def tx4F:=nr22F
theorem tx4F_ok:OkF tx4F:=nr22F_ok
def tx4:G:={ τ:=nrT,Γ:=tx4Γ,E:=tx4E,Pn:=tx4P,E2:=tx4F }
theorem tx4_good:tx4.good prog:=good_of_all (nrT_ok _ rfl) tx4Γ_ok tx4E_ok tx4P_ok tx4F_ok
theorem tx4_all:(∀ t,tx4.td t=(look nrT t).getD .other)∧tx4.y=false∧tx4.Γ=tx4Γ∧tx4.E=tx4E∧tx4.Pn=tx4P∧tx4.E2=tx4F∧tx4.fz=[]∧tx4.te=false∧tx4.bo=false∧tx4.pm=false:=⟨fun _=>rfl,rfl,rfl,rfl,rfl,rfl,rfl,rfl,rfl,rfl⟩
def tx4_S:=And.intro (And.intro @nrT.eq_1 (And.intro @tx4Γ.eq_1 (And.intro @tx4E.eq_1 (And.intro @tx4P.eq_1 (And.intro @tx4F.eq_1 (@conTextN_eq)))))) nr22_S
theorem rrtext_ok:PureOk prog 45 conRText:=by
 refine pureOkD (L:={ live:=[0,1,2,3,4,6,10,24] }) tx4_good rfl nr_mixed func45 rfl conRText 1 (by decide) (by kernel_rfl) ?_
 intro args hpre hlens
 simp only [conRText] at hpre
 split at hpre
 case h_2=>exact hpre.elim
 rename_i n1 m1 e1 n2 m2 e2
 simp only [lenS] at hlens
 refine ⟨rfl,?_⟩
 simp -dsimp -implicitDefEqProofs [f45,conRText_eq,tx4_all,tx4_S,inI64]
 change List Int at m1; change List Int at m2
 obtain ⟨a1,a2,a3,a4,a5,a6,a7⟩:=rtx_facts hpre
 refine ⟨if_pos hpre,fun _=>⟨fun h=>a6 (a3.1 h),fun h=>⟨?_,?_,?_⟩⟩⟩
 ·
  show _+1≤maxLen; simp only [maxLen]; omega
 ·
  show _+1+_≤maxLen; simp only [maxLen]; omega
 ·
  rw [a1,a2,ByteArray.append_assoc]; exact a7 fun q=>h (a3.2 q)
def cdT:List (TypeId×TD):=[(1,.func),(2,.sc tI),(3,.sc tI),(4,.sc .bool),(5,.sc (.int .u8)),(9,.sc .str),(23,.slice 3 tI 8),(30,.sc tI),(43,.slice 45 (.tree (.cons tI (.cons tI (.cons .str .nil)))) 56),(45,.struct (.cons tI (.cons tI (.cons .str (.cons (.slice (.tree (.cons tI (.cons tI (.cons .str .nil))))) .nil))))),(46,.slice 5 (.int .u8) 1),(90,.func),(92,.struct (.cons .fn .nil)),(93,.ptr),(99,.struct (.cons tRat .nil)),(134,.arr 4 92 (.cons .fn .nil)),(136,.sc (.int .u64)),(156,.sc (.int .u64)),(182,.arr 4 4 .bool)]
theorem cdT_ok (g:G) (hg:g.τ=cdT):G.ok prog g:=by
 refine ok_of_all ?_
 rw [hg]
 simp only [cdT,List.forall_mem_cons]
 exact ⟨⟨⟨_,_,_,underlying1⟩,by kernel_rfl⟩,
 ⟨by kernel_rfl,rfl,by kernel_rfl,rfl⟩,
 ⟨by kernel_rfl,rfl,by kernel_rfl,rfl⟩,
 ⟨by kernel_rfl,rfl,by kernel_rfl,rfl⟩,
 ⟨by kernel_rfl,rfl,by kernel_rfl,rfl⟩,
 ⟨by kernel_rfl,rfl,by kernel_rfl,rfl⟩,
 ⟨by kernel_rfl,by decide,by kernel_rfl,⟨cellsV (Ty.zcells tI),by kernel_rfl,by kernel_rfl,by kernel_rfl⟩,by kernel_rfl⟩,
 ⟨by kernel_rfl,rfl,by kernel_rfl,rfl⟩,
 ⟨by kernel_rfl,by decide,by kernel_rfl,⟨cellsV (Ty.zcells (.tree (.cons tI (.cons tI (.cons .str .nil))))),by kernel_rfl,by kernel_rfl,by kernel_rfl⟩,by kernel_rfl⟩,
 ⟨fieldsOf prog 45,by kernel_rfl,by kernel_rfl,by kernel_rfl,by decide,by kernel_rfl⟩,
 ⟨by kernel_rfl,by decide,by kernel_rfl,⟨cellsV (Ty.zcells (.int .u8)),by kernel_rfl,by kernel_rfl,by kernel_rfl⟩,by kernel_rfl⟩,
 ⟨⟨_,_,_,underlying90⟩,by kernel_rfl⟩,
 ⟨fieldsOf prog 92,by kernel_rfl,by kernel_rfl,by kernel_rfl,by decide,by kernel_rfl⟩,
 ⟨⟨_,underlying93⟩,by kernel_rfl⟩,
 ⟨fieldsOf prog 99,by kernel_rfl,by kernel_rfl,by kernel_rfl,by decide,by kernel_rfl⟩,
 ⟨by kernel_rfl,by kernel_rfl,by kernel_rfl⟩,
 ⟨by kernel_rfl,rfl,by kernel_rfl,rfl⟩,
 ⟨by kernel_rfl,rfl,by kernel_rfl,rfl⟩,
 ⟨by kernel_rfl,by kernel_rfl,by kernel_rfl⟩,by simp⟩
def cd0Γ:List (FuncId×Con):=[]
theorem cd0Γ_ok:OkΓ cd0Γ:=by simp [cd0Γ]
def cd0E:List (FuncId×ECon):=[]
theorem cd0E_ok:OkE cd0E:=by simp [cd0E]
def cd0P:List (FuncId×PCon):=[]
theorem cd0P_ok:OkP cd0P:=by simp [cd0P]
def cd0F:List (FuncId×ECon2):=[]
theorem cd0F_ok:OkF cd0F:=by simp [cd0F]
def cd0:G:={ τ:=cdT,Γ:=cd0Γ,E:=cd0E,Pn:=cd0P,E2:=cd0F }
theorem cd0_good:cd0.good prog:=good_of_all (cdT_ok _ rfl) cd0Γ_ok cd0E_ok cd0P_ok cd0F_ok
theorem cd0_all:(∀ t,cd0.td t=(look cdT t).getD .other)∧cd0.y=false∧cd0.Γ=cd0Γ∧cd0.E=cd0E∧cd0.Pn=cd0P∧cd0.E2=cd0F∧cd0.fz=[]∧cd0.te=false∧cd0.bo=false∧cd0.pm=false:=⟨fun _=>rfl,rfl,rfl,rfl,rfl,rfl,rfl,rfl,rfl,rfl⟩
def cd0_S:=And.intro @cdT.eq_1 (And.intro @cd0Γ.eq_1 (And.intro @cd0E.eq_1 (And.intro @cd0P.eq_1 (@cd0F.eq_1))))
theorem wrap8 {x:Int} (h0:0≤x) (h:x<256):IntKind.u8.wrap x=x:=by
 show x % 256=x
 omega
theorem wrap64 {x:Int} (h0:0≤x) (h:x<18446744073709551616):IntKind.u64.wrap x=x:=by
 show x % 18446744073709551616=x
 omega
theorem own_one {t:Ty} {xs ys:List t.T} {n L:Nat} (h1:L=n) (h2:xs.length=n) (h3:xs=ys):∃ vs,(match Option.map AV.s (if L=n then Option.map (fun xs=>SV.sl t xs false) (t.parses n (t.flats xs)) else none),some ([]:List AV) with
  | some y,some s=>some (y::s)
  | _,_=>none)=some vs∧(match vs with
  | [x]=>RV.v x
  | l=>RV.tup l)=RV.v (.s (.sl t ys false)):=by
 subst h3
 rw [if_pos h1,parses_flats' h2]
 exact ⟨_,rfl,rfl⟩
def conNumR (m:Nat):Con:=⟨fun args=>(match args with
 | [.s (.int .u64 u)]=>0≤u∧u<m∧u<18446744073709551616
 | _=>False),fun args=>match args with
 | [.s (.int _ u)]=>.v (aS t8 (numL u.toNat) false)
 | _=>.v (.s .any)⟩
theorem conNumR_eq (m:Nat) (u:Int):(conNumR m).pre [.s (.int .u64 u)]=(0≤u∧u<m∧u<18446744073709551616)∧(conNumR m).val [.s (.int .u64 u)]=.v (aS t8 (numL u.toNat) false):=⟨rfl,rfl⟩
theorem numr_ok:∀ n,PureOk prog 132 (conNumR n)
 | 0=>PureOk.never fun args h=>by
  simp only [conNumR] at h
  split at h
  · exact absurd h (by omega)
  · exact h
 | n+1=>by
  have hgR:=add_good cd0_good (enters_of func132 (by kernel_rfl) rfl) (numr_ok n)
  refine pureOkD (L:={ live:=[0,2,4] }) hgR rfl nr_mixed func132 rfl (conNumR (n+1)) 1 (by decide) (by kernel_rfl) ?_
  intro args hpre hlens
  simp only [conNumR] at hpre
  split at hpre
  case h_2=>exact hpre.elim
  rename_i u
  simp only [lenS] at hlens
  refine ⟨rfl,?_⟩
  simp -dsimp -implicitDefEqProofs [f132,conNumR_eq,add_all,cd0_all,cd0_S,inI64]
  obtain ⟨h0,h1,h2⟩:=hpre
  have e1:u.tdiv 128=u / 128:=Int.tdiv_eq_ediv_of_nonneg h0
  have e2:u.tmod 128=u % 128:=Int.tmod_eq_emod_of_nonneg h0
  have e3:IntKind.u64.wrap (u / 128)=u / 128:=wrap64 (by omega) (by omega)
  have e4:IntKind.u64.wrap (u % 128+128)=u % 128+128:=wrap64 (by omega) (by omega)
  have e5:IntKind.u8.wrap (u % 128+128)=u % 128+128:=wrap8 (by omega) (by omega)
  rw [e1,e2,e3,e4,e5]
  have hl:=numL_len64 (u:=(u / 128).toNat) (by omega)
  refine ⟨fun h => ?_,fun h=>⟨⟨by omega,by omega,by omega⟩,⟨by omega,by simp only [maxLen]; omega⟩,own_one (by omega) (by rw [List.length_cons]; omega) ?_⟩⟩
  · rw [wrap8 h0 (by omega),numL_small (by omega),Int.toNat_of_nonneg h0]
  · rw [numL_great (u:=u.toNat) (by omega),show u.toNat / 128=(u / 128).toNat by omega,show ((u.toNat % 128+128:Nat):Int)=u % 128+128 by omega]
def conUnsR:Con:=⟨fun args=>(match args with
 | [.s (.int .i64 n)]=>inI64 n
 | _=>False),fun args=>match args with
 | [.s (.int _ n)]=>.v (.s (.int .u64 (unsV n:Nat)))
 | _=>.v (.s .any)⟩
theorem conUnsR_eq (n:Int):conUnsR.pre [.s (.int .i64 n)]=(inI64 n)∧conUnsR.val [.s (.int .i64 n)]=.v (.s (.int .u64 (unsV n:Nat))):=⟨rfl,rfl⟩
theorem unsr_ok:PureOk prog 133 conUnsR:=by
 refine pureOkD (L:={ live:=[0,2,4] }) cd0_good rfl nr_mixed func133 rfl conUnsR 1 (by decide) (by kernel_rfl) ?_
 intro args hpre hlens
 simp only [conUnsR] at hpre
 split at hpre
 case h_2=>exact hpre.elim
 rename_i n
 simp only [lenS] at hlens
 refine ⟨rfl,?_⟩
 simp -dsimp -implicitDefEqProofs [f133,conUnsR_eq,cd0_all,cd0_S,inI64]
 have hn:=hpre
 simp only [inI64] at hn
 unfold unsV
 refine ⟨fun h => ?_,fun h=>⟨by omega,by omega,?_⟩⟩
 ·
  rw [wrap64 (x:=n) h (by omega),wrap64 (by omega) (by omega),if_pos h]
  omega
 ·
  rw [wrap64 (x := -(n+1)) (by omega) (by omega),wrap64 (x:=2 * -(n+1)) (by omega) (by omega),wrap64 (by omega) (by omega),if_neg (by omega)]
  omega
theorem mkV_hd (x:DV):mkV (hV.hd x).1 (hV.hd x).2.1 (hV.hd x).2.2.1 x.kids=x:=mkV_eta x
theorem take_all {α:Type} {p:α→Prop} {l:List α} {i:Nat} (h:i<l.length) (ha:∀ x∈l.take i,p x) (hp:p l[i]):∀ x∈l.take (i+1),p x:=by
 intro x hx
 rw [List.take_succ_eq_append_getElem h] at hx
 rcases List.mem_append.1 hx with hx | hx
 ·
  exact ha x hx
 ·
  rw [List.mem_singleton] at hx; subst hx; exact hp
theorem form_0 {k n:Int} {s:ByteArray} {l:List DV}:(k=1→formV (mkV k n s l)=(decide (s.data.toList=[])&&l.isEmpty))∧(k=2→formV (mkV k n s l)=(decide (n=0)&&l.isEmpty)) ∧
  (k=3→formV (mkV k n s l)=(l.all formV&&(decide (n=0)&&decide (s.data.toList=[]))))∧(k≠1→k≠2→k≠3→formV (mkV k n s l)=false):=by
 rw [formV_eq,wK_mk,wN_mk,wS_mk,wL_mk]
 refine ⟨fun h=>if_pos h,fun h => ?_,fun h => ?_,fun h1 h2 h3 => ?_⟩
 ·
  rw [if_neg (by omega),if_pos h]
 ·
  rw [if_neg (by omega),if_neg (by omega),if_pos h]
 ·
  rw [if_neg h1,if_neg h2,if_neg h3]
theorem len_e0 {α:Type} (l:List α):((l.length:Int)==0)=l.isEmpty:=by cases l <;> simp; omega
theorem data_nil {s:ByteArray}:s.data.toList=[]↔s.data=#[]:=by
 constructor
 ·
  intro h; rw [← Array.toList_eq_nil_iff]; exact h
 ·
  intro h; rw [h]
theorem dep_kid {k n:Int} {s:ByteArray} {l:List DV} {m:Nat} (hk:k=3) (h:depV (mkV k n s l)<m+1) {x:DV} (hx:x∈l):depV x<m:=by
 have:=depV_kid (x:=mkV k n s l) (y:=x) (by rw [wK_mk]; exact hk) (by rw [wL_mk]; exact hx)
 omega
def conFormd (m:Nat):Con:=⟨fun args=>(match args with
 | [.agg [.int .i64 k,.int .i64 n,.str s,.sl (.tree (.cons (.int .i64) (.cons (.int .i64) (.cons .str .nil)))) l _]]=>depV (mkV k n s l)<m
 | _=>False),fun args=>match args with
 | [.agg [.int _ k,.int _ n,.str s,.sl (.tree (.cons (.int .i64) (.cons (.int .i64) (.cons .str .nil)))) l _]]=>.v (aB (formV (mkV k n s l)))
 | _=>.v (.s .any)⟩
theorem conFormd_eq (m:Nat) (k:Int) (n:Int) (s:ByteArray) (l:List (Ty.T (.tree (.cons tI (.cons tI (.cons .str .nil)))))) (exl:Bool):(conFormd m).pre [.agg [.int .i64 k,.int .i64 n,.str s,.sl (.tree (.cons tI (.cons tI (.cons .str .nil)))) l exl]]=(depV (mkV k n s l)<m)∧(conFormd m).val [.agg [.int .i64 k,.int .i64 n,.str s,.sl (.tree (.cons tI (.cons tI (.cons .str .nil)))) l exl]]=.v (aB (formV (mkV k n s l))):=⟨rfl,rfl⟩
theorem formd_ok:∀ n,PureOk prog 130 (conFormd n)
 | 0=>PureOk.never fun args h=>by
  simp only [conFormd] at h
  split at h
  · exact absurd h (by omega)
  · exact h
 | n+1=>by
  have hgR:=add_good cd0_good (enters_of func130 (by kernel_rfl) rfl) (formd_ok n)
  refine pureOkD (L:={ live:=[0,1,2,3,5,6,17,28,34,43] }) hgR rfl nr_mixed func130 rfl (conFormd (n+1)) 1 (by decide) (by kernel_rfl) ?_
  intro args hpre hlens
  simp only [conFormd] at hpre
  split at hpre
  case h_2=>exact hpre.elim
  rename_i k n s l e
  simp only [lenS] at hlens
  refine ⟨rfl,?_⟩
  simp -dsimp -implicitDefEqProofs [f130,conFormd_eq,add_all,cd0_all,cd0_S,inI64]
  obtain ⟨f1,f2,f3,f4⟩:=form_0 (k:=k) (n:=n) (s:=s) (l:=l)
  rw [len_e0]
  refine ⟨fun h => ?_,fun h1=>⟨fun h=>(f2 h).symm,fun h2=>⟨fun h => ?_,fun h=>f4 h1 h2 h⟩⟩⟩
  · rw [f1 h]; congr 1; rw [decide_eq_decide]; exact data_nil.symm
  refine WpD.loop (L:={ live:=[0,1,2,3,5,6,17,28,34,43] }) hgR X0_ok nr_mixed (by kernel_rfl)
    (fun i:Nat=>⟨[(1,⟨true,.v (.s (.box 0 0))⟩),(3,vI i)],[.cells [.int .i64 k,.int .i64 n,.str s,.sl tV l e]]⟩)
    (fun i=>i≤l.length∧∀ x∈l.take i,formV x=true) (fun i=>l.length - i) 0 ⟨Nat.zero_le _,by simp⟩ (Turn.le (by simp -dsimp -implicitDefEqProofs)) ?_
  rintro i ⟨hi,hall⟩
  by_cases hil:i<l.length
  · have hx:l[i]?=some l[i]:=List.getElem?_eq_getElem hil
    simp -dsimp -implicitDefEqProofs [add_all,conFormd_eq,hx,mkV_hd,cd0_all,cd0_S,inI64]
    refine ⟨fun _=>⟨hil,dep_kid h hpre (List.getElem_mem hil),fun q => ?_,fun q=>⟨by omega,i+1,⟨by omega,take_all hil hall q⟩,by omega,TurnT.le (by simp -dsimp -implicitDefEqProofs)⟩⟩,fun q=>by omega⟩
    rw [f3 h]
    have:l.all formV=false:=by
      rw [List.all_eq_false]
      exact ⟨l[i],List.getElem_mem hil,by rw [q]; decide⟩
    rw [this]; rfl
  · have hx:l[i]?=none:=List.getElem?_eq_none (by omega)
    simp -dsimp -implicitDefEqProofs [add_all,conFormd_eq,hx,cd0_all,cd0_S,inI64]
    refine ⟨fun q=>by omega,fun _ => ?_⟩
    have:l.all formV=true:=by
      rw [List.all_eq_true]
      intro x hx
      exact hall x (by rw [List.take_of_length_le (by omega)]; exact hx)
    rw [f3 h,this,Bool.true_and]
    congr 1
    rw [decide_eq_decide]; exact data_nil.symm
theorem dep_3 {k n:Int} {s:ByteArray} {l:List DV}:depV (mkV k n s l)=if k=3 then maxL (l.map depV)+1 else 0:=by rw [depV_eq,wK_mk,wL_mk]
theorem maxL_snoc {l:List DV} {i:Nat} (h:i<l.length):maxL ((l.map depV).take (i+1))=max (maxL ((l.map depV).take i)) (depV l[i]):=by
 have key:∀ (l:List Nat) (x:Nat),maxL (l++[x])=max (maxL l) x:=by
  intro l x
  unfold maxL
  induction l with
  | nil=>simp
  | cons a l ih=>rw [List.cons_append,List.foldr_cons,ih,List.foldr_cons,Nat.max_assoc]
 rw [List.take_succ_eq_append_getElem (by rw [List.length_map]; exact h),key,List.getElem_map]
def conDepth (m:Nat):Con:=⟨fun args=>(match args with
 | [.agg [.int .i64 k,.int .i64 n,.str s,.sl (.tree (.cons (.int .i64) (.cons (.int .i64) (.cons .str .nil)))) l _]]=>depV (mkV k n s l)<m∧m≤1000000
 | _=>False),fun args=>match args with
 | [.agg [.int _ k,.int _ n,.str s,.sl (.tree (.cons (.int .i64) (.cons (.int .i64) (.cons .str .nil)))) l _]]=>.v (aI (depV (mkV k n s l)))
 | _=>.v (.s .any)⟩
theorem conDepth_eq (m:Nat) (k:Int) (n:Int) (s:ByteArray) (l:List (Ty.T (.tree (.cons tI (.cons tI (.cons .str .nil)))))) (exl:Bool):(conDepth m).pre [.agg [.int .i64 k,.int .i64 n,.str s,.sl (.tree (.cons tI (.cons tI (.cons .str .nil)))) l exl]]=(depV (mkV k n s l)<m∧m≤1000000)∧(conDepth m).val [.agg [.int .i64 k,.int .i64 n,.str s,.sl (.tree (.cons tI (.cons tI (.cons .str .nil)))) l exl]]=.v (aI (depV (mkV k n s l))):=⟨rfl,rfl⟩
theorem depth_ok:∀ n,PureOk prog 131 (conDepth n)
 | 0=>PureOk.never fun args h=>by
  simp only [conDepth] at h
  split at h
  · exact absurd h (by omega)
  · exact h
 | n+1=>by
  have hgR:=add_good cd0_good (enters_of func131 (by kernel_rfl) rfl) (depth_ok n)
  refine pureOkD (L:={ live:=[0,1,2,3,4,7,12] }) hgR rfl nr_mixed func131 rfl (conDepth (n+1)) 1 (by decide) (by kernel_rfl) ?_
  intro args hpre hlens
  simp only [conDepth] at hpre
  split at hpre
  case h_2=>exact hpre.elim
  rename_i k n s l e
  simp only [lenS] at hlens
  refine ⟨rfl,?_⟩
  simp -dsimp -implicitDefEqProofs [f131,conDepth_eq,add_all,cd0_all,cd0_S,inI64]
  obtain ⟨hpre,hm⟩:=hpre
  rw [dep_3]
  refine ⟨fun h => ?_,fun h => ?_⟩
  · rw [if_neg h]; rfl
  refine WpD.loop (L:={ live:=[0,1,2,3,4,7,12] }) hgR X0_ok nr_mixed (by kernel_rfl)
    (fun i:Nat=>⟨[(1,⟨true,.v (.s (.box 0 0))⟩),(3,vI (maxL ((l.map depV).take i))),(4,vI i)],[.cells [.int .i64 k,.int .i64 n,.str s,.sl tV l e]]⟩)
    (fun i=>i≤l.length) (fun i=>l.length - i) 0 (Nat.zero_le _) (Turn.le (by simp -dsimp -implicitDefEqProofs [maxL])) ?_
  intro i hi
  by_cases hil:i<l.length
  · have hx:l[i]?=some l[i]:=List.getElem?_eq_getElem hil
    have hd:=dep_kid h hpre (List.getElem_mem hil)
    simp -dsimp -implicitDefEqProofs [add_all,conDepth_eq,hx,mkV_hd,cd0_all,cd0_S,inI64]
    refine ⟨fun _=>⟨hil,⟨hd,by omega⟩,⟨by omega,by omega⟩,i+1,by omega,by omega,TurnT.le ?_⟩,fun q=>by omega⟩
    have e1:(if maxL ((l.map depV).take i)<depV l[i] then ((depV l[i]:Nat):Int) else ((maxL ((l.map depV).take i):Nat):Int))=((maxL ((l.map depV).take (i+1)):Nat):Int):=by
      rw [maxL_snoc hil]
      split <;> omega
    rw [e1]
    simp -dsimp -implicitDefEqProofs
  · have hx:l[i]?=none:=List.getElem?_eq_none (by omega)
    have e1:(l.map depV).take i=l.map depV:=List.take_of_length_le (by rw [List.length_map]; omega)
    rw [e1]
    have hp3:=hpre
    rw [dep_3,if_pos h] at hp3
    simp -dsimp -implicitDefEqProofs [add_all,conDepth_eq,hx,cd0_all,cd0_S,inI64]
    refine ⟨fun q=>by omega,fun _=>⟨⟨by omega,by omega⟩,?_⟩⟩
    rw [dep_3,if_pos h]; omega
inductive RngV:DV→Prop where
 | mk (x:DV):inI64 (wN x)→(∀ y∈x.kids,RngV y)→RngV x
theorem rng_mk {k n:Int} {s:ByteArray} {l:List DV} (h:RngV (mkV k n s l)):inI64 n∧∀ y∈l,RngV y:=by
 cases h with
 | mk _ h1 h2=>rw [wN_mk] at h1; rw [wL_mk] at h2; exact ⟨h1,h2⟩
def conEnc1 (m:Nat):Con:=⟨fun args=>(match args with
 | [.agg [.int .i64 k,.int .i64 n,.str s,.sl (.tree (.cons (.int .i64) (.cons (.int .i64) (.cons .str .nil)))) l _]]=>depV (mkV k n s l)<m∧formV (mkV k n s l)=true∧RngV (mkV k n s l)∧(encL (mkV k n s l)).length≤100000000
 | _=>False),fun args=>match args with
 | [.agg [.int _ k,.int _ n,.str s,.sl (.tree (.cons (.int .i64) (.cons (.int .i64) (.cons .str .nil)))) l _]]=>.v (aS t8 (encL (mkV k n s l)) false)
 | _=>.v (.s .any)⟩
theorem conEnc1_eq (m:Nat) (k:Int) (n:Int) (s:ByteArray) (l:List (Ty.T (.tree (.cons tI (.cons tI (.cons .str .nil)))))) (exl:Bool):(conEnc1 m).pre [.agg [.int .i64 k,.int .i64 n,.str s,.sl (.tree (.cons tI (.cons tI (.cons .str .nil)))) l exl]]=(depV (mkV k n s l)<m∧formV (mkV k n s l)=true∧RngV (mkV k n s l)∧(encL (mkV k n s l)).length≤100000000)∧(conEnc1 m).val [.agg [.int .i64 k,.int .i64 n,.str s,.sl (.tree (.cons tI (.cons tI (.cons .str .nil)))) l exl]]=.v (aS t8 (encL (mkV k n s l)) false):=⟨rfl,rfl⟩
def cd1Γ:List (FuncId×Con):=(133,conUnsR)::(132,(conNumR 18446744073709551616))::cd0Γ
theorem cd1Γ_ok:OkΓ cd1Γ:=by
 simp only [OkΓ,cd1Γ,List.forall_mem_cons]
 exact ⟨⟨enters_of func133 (by kernel_rfl) rfl,unsr_ok⟩,⟨enters_of func132 (by kernel_rfl) rfl,(numr_ok _)⟩,cd0Γ_ok⟩
def cd1E:=cd0E
theorem cd1E_ok:OkE cd1E:=cd0E_ok
def cd1P:=cd0P
theorem cd1P_ok:OkP cd1P:=cd0P_ok
def cd1F:=cd0F
theorem cd1F_ok:OkF cd1F:=cd0F_ok
def cd1:G:={ τ:=cdT,Γ:=cd1Γ,E:=cd1E,Pn:=cd1P,E2:=cd1F }
theorem cd1_good:cd1.good prog:=good_of_all (cdT_ok _ rfl) cd1Γ_ok cd1E_ok cd1P_ok cd1F_ok
theorem cd1_all:(∀ t,cd1.td t=(look cdT t).getD .other)∧cd1.y=false∧cd1.Γ=cd1Γ∧cd1.E=cd1E∧cd1.Pn=cd1P∧cd1.E2=cd1F∧cd1.fz=[]∧cd1.te=false∧cd1.bo=false∧cd1.pm=false:=⟨fun _=>rfl,rfl,rfl,rfl,rfl,rfl,rfl,rfl,rfl,rfl⟩
def cd1_S:=And.intro (And.intro @cdT.eq_1 (And.intro @cd1Γ.eq_1 (And.intro @cd1E.eq_1 (And.intro @cd1P.eq_1 (And.intro @cd1F.eq_1 (And.intro @conUnsR_eq (@conNumR_eq))))))) cd0_S
theorem enc_1 {n:Int} {s:ByteArray} {l:List DV}:encL (mkV 1 n s l)=1::numL (unsV n):=by rw [encL_eq,wK_mk,wN_mk,if_pos rfl]
theorem enc_2 {n:Int} {s:ByteArray} {l:List DV}:encL (mkV 2 n s l)=2::(numL s.size++strL s):=by rw [encL_eq,wK_mk,wS_mk,if_neg (by decide),if_pos rfl]
def encK (l:List DV):List Int:=l.flatMap encL
theorem enc_3 {k n:Int} {s:ByteArray} {l:List DV} (h1:k≠1) (h2:k≠2):encL (mkV k n s l)=3::(numL l.length++encK l):=by rw [encL_eq,wK_mk,wL_mk,if_neg h1,if_neg h2]; rfl
theorem numL_ne (u:Nat):(numL u).isEmpty=false:=by rw [numL]; split <;> rfl
theorem form_kid {k n:Int} {s:ByteArray} {l:List DV} (h:formV (mkV k n s l)=true) (h1:k≠1) (h2:k≠2):k=3∧∀ x∈l,formV x=true:=by
 obtain ⟨f1,f2,f3,f4⟩:=form_0 (k:=k) (n:=n) (s:=s) (l:=l)
 by_cases h3:k=3
 ·
  rw [f3 h3] at h
  simp only [Bool.and_eq_true,List.all_eq_true] at h
  exact ⟨h3,h.1⟩
 ·
  rw [f4 h1 h2 h3] at h; cases h
theorem flat_snoc {l:List DV} {i:Nat} (h:i<l.length):encK (l.take (i+1))=encK (l.take i)++encL l[i]:=by
 unfold encK
 rw [List.take_succ_eq_append_getElem h,List.flatMap_append]; simp
theorem flat_le {l:List DV} (i:Nat):(encK (l.take i)).length≤(encK l).length:=by
 unfold encK
 conv=>rhs; rw [← List.take_append_drop i l,List.flatMap_append,List.length_append]
 omega
theorem encK_len (l:List DV):l.length≤(encK l).length:=by
 unfold encK
 induction l with
 | nil=>simp
 | cons x l ih =>
  have h1:1≤(encL x).length:=by rw [encL_eq]; split <;> (try split) <;> simp
  rw [List.flatMap_cons,List.length_append,List.length_cons]; omega
def sigC (t:Ty) (x:t.T):Option (Sigma Ty.T)→Option (Sigma Ty.T)
 | some ⟨u,y⟩=>some ⟨.cons t u,(x,y)⟩
 | none=>none
theorem sigC_some {t u:Ty} {x:t.T} {y:u.T}:sigC t x (some ⟨u,y⟩)=some ⟨.cons t u,(x,y)⟩:=rfl
theorem sigs_eqs:sigs []=some ⟨.nil,()⟩∧(∀ k n r,sigs (.int k n::r)=sigC (.int k) n (sigs r))∧(∀ b r,sigs (.bool b::r)=sigC .bool b (sigs r))∧(∀ s r,sigs (.str s::r)=sigC .str s (sigs r)) ∧
  (∀ (t:Ty) (xs:List t.T) e r,sigs (.sl t xs e::r)=sigC (.slice t) xs (sigs r)):=by
 refine ⟨rfl,fun k n r => ?_,fun b r => ?_,fun s r => ?_,fun t xs e r => ?_⟩ <;> (simp only [sigs,SV.sig]; cases sigs r <;> rfl)
theorem encr_ok:∀ n,PureOk prog 85 (conEnc1 n)
 | 0=>PureOk.never fun args h=>by
  simp only [conEnc1] at h
  split at h
  · exact absurd h (by omega)
  · exact h
 | n+1=>by
  have hgR:=add_good cd1_good (enters_of func85 (by kernel_rfl) rfl) (encr_ok n)
  refine pureOkD (L:={ live:=[0,1,2,3,4,6,7,15,38],eps:=[(5,[1])],pi:=[(5,[(0,false),(1,false),(2,false),(3,false),(4,false),(5,false),(7,true),(8,true),(6,false),(9,false),(10,false)])] }) hgR rfl nr_mixed func85 rfl (conEnc1 (n+1)) 1 (by decide) (by kernel_rfl) ?_
  intro args hpre hlens
  simp only [conEnc1] at hpre
  split at hpre
  case h_2=>exact hpre.elim
  rename_i k n s l e
  simp only [lenS] at hlens
  obtain ⟨hd,hf,hr,hlen⟩:=hpre
  refine ⟨rfl,?_⟩
  simp -dsimp -implicitDefEqProofs [f85,conEnc1_eq,add_all,numL_ne,strL_length,-sigs,sigs_eqs,sigC_some,cd1_all,cd1_S,inI64]
  obtain ⟨hn,hrl⟩:=rng_mk hr
  have hu:=unsV_lt hn
  have hn2:=hn
  simp only [inI64] at hn2
  have hm:1000000000≤maxLen:=by simp only [maxLen]; omega
  refine ⟨fun h => ?_,fun h1=>⟨fun h2 => ?_,fun h2 => ?_⟩⟩
  · subst h
    rw [enc_1,List.length_cons] at hlen
    exact ⟨hn2,by omega,by omega,own_one (by omega) (by rw [List.length_cons]; omega) enc_1.symm⟩
  · subst h2
    rw [enc_2,List.length_cons,List.length_append,strL_length] at hlen
    have w1:IntKind.u64.wrap (s.size:Int)=(s.size:Int):=wrap64 (by omega) (by omega)
    rw [w1,Int.toNat_natCast]
    exact ⟨by omega,by omega,by omega,own_one (by omega) (by rw [List.length_cons,List.length_append,strL_length]; omega) enc_2.symm⟩
  obtain ⟨h3,hfk⟩:=form_kid hf h1 h2
  have he:=enc_3 (n:=n) (s:=s) (l:=l) h1 h2
  rw [he,List.length_cons,List.length_append] at hlen
  have hll:=encK_len l
  have w1:IntKind.u64.wrap (l.length:Int)=(l.length:Int):=wrap64 (by omega) (by omega)
  rw [w1,Int.toNat_natCast]
  refine ⟨by omega,by omega,?_⟩
  refine WpD.loop (L:={ live:=[0,1,2,3,4,6,7,15,38],eps:=[(5,[1])],pi:=[(5,[(0,false),(1,false),(2,false),(3,false),(4,false),(5,false),(7,true),(8,true),(6,false),(9,false),(10,false)])] }) hgR X0_ok nr_mixed (by kernel_rfl)
    (fun i:Nat=>⟨[(1,⟨true,.v (.s (.box 0 0))⟩),(3,⟨true,.v (.s (.own t8 1 (1+(numL l.length).length+(encK (l.take i)).length)))⟩),(4,vI i)],[.cells [.int .i64 k,.int .i64 n,.str s,.sl tV l e],.arr true (t8.flats (3::(numL l.length++encK (l.take i))))]⟩)
    (fun i=>i≤l.length) (fun i=>l.length - i) 0 (Nat.zero_le _) (Turn.le (by simp -dsimp -implicitDefEqProofs [encK])) ?_
  intro i hi
  have hle:=flat_le (l:=l) i
  by_cases hil:i<l.length
  · have hx:l[i]?=some l[i]:=List.getElem?_eq_getElem hil
    have hdk:=dep_kid h3 hd (List.getElem_mem hil)
    have hfx:=hfk _ (List.getElem_mem hil)
    have hrx:=hrl _ (List.getElem_mem hil)
    have hle2:=flat_le (l:=l) (i+1)
    have hs:=flat_snoc hil
    rw [hs,List.length_append] at hle2
    simp -dsimp -implicitDefEqProofs [add_all,conEnc1_eq,hx,mkV_hd,cd1_all,cd1_S,inI64]
    refine ⟨fun _=>⟨hil,⟨hdk,hfx,hrx,by omega⟩,⟨by omega,by omega,by omega⟩,⟨by omega,by omega⟩,i+1,by omega,by omega,TurnT.le ?_⟩,fun q=>by omega⟩
    rw [hs]
    simp -dsimp -implicitDefEqProofs [Nat.add_assoc]
  · have hx:l[i]?=none:=List.getElem?_eq_none (by omega)
    have ht:l.take i=l:=List.take_of_length_le (by omega)
    rw [ht]
    simp -dsimp -implicitDefEqProofs [add_all,conEnc1_eq,hx,cd1_all,cd1_S,inI64]
    exact ⟨fun q=>by omega,fun _=>own_one (by omega) (by rw [List.length_cons,List.length_append]; omega) he.symm⟩
def cd2Γ:List (FuncId×Con):=(130,(conFormd 1000))::(131,(conDepth 1000))::(85,(conEnc1 1000))::cd1Γ
theorem cd2Γ_ok:OkΓ cd2Γ:=by
 simp only [OkΓ,cd2Γ,List.forall_mem_cons]
 exact ⟨⟨enters_of func130 (by kernel_rfl) rfl,(formd_ok _)⟩,⟨enters_of func131 (by kernel_rfl) rfl,(depth_ok _)⟩,⟨enters_of func85 (by kernel_rfl) rfl,(encr_ok _)⟩,cd1Γ_ok⟩
def cd2E:=cd1E
theorem cd2E_ok:OkE cd2E:=cd1E_ok
def cd2P:=cd1P
theorem cd2P_ok:OkP cd2P:=cd1P_ok
def cd2F:=cd1F
theorem cd2F_ok:OkF cd2F:=cd1F_ok
def cd2:G:={ τ:=cdT,Γ:=cd2Γ,E:=cd2E,Pn:=cd2P,E2:=cd2F }
theorem cd2_good:cd2.good prog:=good_of_all (cdT_ok _ rfl) cd2Γ_ok cd2E_ok cd2P_ok cd2F_ok
theorem cd2_all:(∀ t,cd2.td t=(look cdT t).getD .other)∧cd2.y=false∧cd2.Γ=cd2Γ∧cd2.E=cd2E∧cd2.Pn=cd2P∧cd2.E2=cd2F∧cd2.fz=[]∧cd2.te=false∧cd2.bo=false∧cd2.pm=false:=⟨fun _=>rfl,rfl,rfl,rfl,rfl,rfl,rfl,rfl,rfl,rfl⟩
def cd2_S:=And.intro (And.intro @cdT.eq_1 (And.intro @cd2Γ.eq_1 (And.intro @cd2E.eq_1 (And.intro @cd2P.eq_1 (And.intro @cd2F.eq_1 (And.intro @conFormd_eq (And.intro @conDepth_eq (@conEnc1_eq)))))))) cd1_S
def codE (x:DV):Int:=if formV x=true then (if 16<depV x then 2 else 0) else 1
theorem codE_eq {x:DV}:(formV x=false→codE x=1)∧(formV x=true→16<depV x→codE x=2)∧(formV x=true→¬ 16<depV x→codE x=0):=by
 unfold codE
 refine ⟨fun h=>by rw [if_neg (by rw [h]; decide)],fun h h2=>by rw [if_pos h,if_pos h2],fun h h2=>by rw [if_pos h,if_neg h2]⟩
def conCodC:Con:=⟨fun args=>(match args with
 | [.agg [.int .i64 k,.int .i64 n,.str s,.sl (.tree (.cons (.int .i64) (.cons (.int .i64) (.cons .str .nil)))) l _]]=>depV (mkV k n s l)<1000
 | _=>False),fun args=>match args with
 | [.agg [.int _ k,.int _ n,.str s,.sl (.tree (.cons (.int .i64) (.cons (.int .i64) (.cons .str .nil)))) l _]]=>.v (aI (codE (mkV k n s l)))
 | _=>.v (.s .any)⟩
theorem conCodC_eq (k:Int) (n:Int) (s:ByteArray) (l:List (Ty.T (.tree (.cons tI (.cons tI (.cons .str .nil)))))) (exl:Bool):conCodC.pre [.agg [.int .i64 k,.int .i64 n,.str s,.sl (.tree (.cons tI (.cons tI (.cons .str .nil)))) l exl]]=(depV (mkV k n s l)<1000)∧conCodC.val [.agg [.int .i64 k,.int .i64 n,.str s,.sl (.tree (.cons tI (.cons tI (.cons .str .nil)))) l exl]]=.v (aI (codE (mkV k n s l))):=⟨rfl,rfl⟩
theorem rcodc_ok:PureOk prog 84 conCodC:=by
 refine pureOkD (L:={ live:=[0,1,2,5,8] }) cd2_good rfl nr_mixed func84 rfl conCodC 1 (by decide) (by kernel_rfl) ?_
 intro args hpre hlens
 simp only [conCodC] at hpre
 split at hpre
 case h_2=>exact hpre.elim
 rename_i k n s l e
 simp only [lenS] at hlens
 refine ⟨rfl,?_⟩
 simp -dsimp -implicitDefEqProofs [f84,conCodC_eq,cd2_all,cd2_S,inI64]
 obtain ⟨c1,c2,c3⟩:=codE_eq (x:=mkV k n s l)
 exact ⟨hpre,fun h=>(c1 h).symm,fun h=>⟨hpre,fun h2=>(c2 h (by omega)).symm,fun h2=>(c3 h (by omega)).symm⟩⟩
def cd3Γ:List (FuncId×Con):=(84,conCodC)::cd2Γ
theorem cd3Γ_ok:OkΓ cd3Γ:=by
 simp only [OkΓ,cd3Γ,List.forall_mem_cons]
 exact ⟨⟨enters_of func84 (by kernel_rfl) rfl,rcodc_ok⟩,cd2Γ_ok⟩
def cd3E:=cd2E
theorem cd3E_ok:OkE cd3E:=cd2E_ok
def cd3P:=cd2P
theorem cd3P_ok:OkP cd3P:=cd2P_ok
def cd3F:=cd2F
theorem cd3F_ok:OkF cd3F:=cd2F_ok
def cd3:G:={ τ:=cdT,Γ:=cd3Γ,E:=cd3E,Pn:=cd3P,E2:=cd3F }
theorem cd3_good:cd3.good prog:=good_of_all (cdT_ok _ rfl) cd3Γ_ok cd3E_ok cd3P_ok cd3F_ok
theorem cd3_all:(∀ t,cd3.td t=(look cdT t).getD .other)∧cd3.y=false∧cd3.Γ=cd3Γ∧cd3.E=cd3E∧cd3.Pn=cd3P∧cd3.E2=cd3F∧cd3.fz=[]∧cd3.te=false∧cd3.bo=false∧cd3.pm=false:=⟨fun _=>rfl,rfl,rfl,rfl,rfl,rfl,rfl,rfl,rfl,rfl⟩
def cd3_S:=And.intro (And.intro @cdT.eq_1 (And.intro @cd3Γ.eq_1 (And.intro @cd3E.eq_1 (And.intro @cd3P.eq_1 (And.intro @cd3F.eq_1 (@conCodC_eq)))))) cd2_S
def conEncod:Con:=⟨fun args=>(match args with
 | [.agg [.int .i64 k,.int .i64 n,.str s,.sl (.tree (.cons (.int .i64) (.cons (.int .i64) (.cons .str .nil)))) l _]]=>depV (mkV k n s l)≤16∧formV (mkV k n s l)=true∧RngV (mkV k n s l)∧(encL (mkV k n s l)).length≤100000000
 | _=>False),fun args=>match args with
 | [.agg [.int _ k,.int _ n,.str s,.sl (.tree (.cons (.int .i64) (.cons (.int .i64) (.cons .str .nil)))) l _]]=>.tup [aS t8 (encL (mkV k n s l)) false,aI 0]
 | _=>.v (.s .any)⟩
theorem conEncod_eq (k:Int) (n:Int) (s:ByteArray) (l:List (Ty.T (.tree (.cons tI (.cons tI (.cons .str .nil)))))) (exl:Bool):conEncod.pre [.agg [.int .i64 k,.int .i64 n,.str s,.sl (.tree (.cons tI (.cons tI (.cons .str .nil)))) l exl]]=(depV (mkV k n s l)≤16∧formV (mkV k n s l)=true∧RngV (mkV k n s l)∧(encL (mkV k n s l)).length≤100000000)∧conEncod.val [.agg [.int .i64 k,.int .i64 n,.str s,.sl (.tree (.cons tI (.cons tI (.cons .str .nil)))) l exl]]=.tup [aS t8 (encL (mkV k n s l)) false,aI 0]:=⟨rfl,rfl⟩
theorem rencod_ok:PureOk prog 46 conEncod:=by
 refine pureOkD (L:={ live:=[0,1,2,3,4,8] }) cd3_good rfl nr_mixed func46 rfl conEncod 1 (by decide) (by kernel_rfl) ?_
 intro args hpre hlens
 simp only [conEncod] at hpre
 split at hpre
 case h_2=>exact hpre.elim
 rename_i k n s l e
 simp only [lenS] at hlens
 refine ⟨rfl,?_⟩
 simp -dsimp -implicitDefEqProofs [f46,conEncod_eq,cd3_all,cd3_S,inI64]
 obtain ⟨hd,hf,hr,hlen⟩:=hpre
 have c3:=codE_eq.2.2 hf (by omega)
 exact ⟨by omega,fun h=>absurd c3 h,fun _=>⟨by omega,hf,hr,hlen⟩⟩
def conVInt:Con:=⟨fun args=>(match args with
 | [.s (.int .i64 n)]=>True
 | _=>False),fun args=>match args with
 | [.s (.int _ n)]=>.v (.agg [.int .i64 1,.int .i64 n,.str ByteArray.empty,.sl tV [] false])
 | _=>.v (.s .any)⟩
theorem conVInt_eq (n:Int):conVInt.pre [.s (.int .i64 n)]=(True)∧conVInt.val [.s (.int .i64 n)]=.v (.agg [.int .i64 1,.int .i64 n,.str ByteArray.empty,.sl tV [] false]):=⟨rfl,rfl⟩
theorem vint_ok:PureOk prog 86 conVInt:=by
 refine pureOkD (L:={ live:=[0,2] }) cd0_good rfl nr_mixed func86 rfl conVInt 1 (by decide) (by kernel_rfl) ?_
 intro args hpre hlens
 simp only [conVInt] at hpre
 split at hpre
 case h_2=>exact hpre.elim
 rename_i n
 simp only [lenS] at hlens
 refine ⟨rfl,?_⟩
 simp -dsimp -implicitDefEqProofs [f86,conVInt_eq,cd0_all,cd0_S,inI64]
def conVText:Con:=⟨fun args=>(match args with
 | [.s (.str s)]=>True
 | _=>False),fun args=>match args with
 | [.s (.str s)]=>.v (.agg [.int .i64 2,.int .i64 0,.str s,.sl tV [] false])
 | _=>.v (.s .any)⟩
theorem conVText_eq (s:ByteArray):conVText.pre [.s (.str s)]=(True)∧conVText.val [.s (.str s)]=.v (.agg [.int .i64 2,.int .i64 0,.str s,.sl tV [] false]):=⟨rfl,rfl⟩
theorem vtext_ok:PureOk prog 49 conVText:=by
 refine pureOkD (L:={ live:=[0,2] }) cd0_good rfl nr_mixed func49 rfl conVText 1 (by decide) (by kernel_rfl) ?_
 intro args hpre hlens
 simp only [conVText] at hpre
 split at hpre
 case h_2=>exact hpre.elim
 rename_i s
 simp only [lenS] at hlens
 refine ⟨rfl,?_⟩
 simp -dsimp -implicitDefEqProofs [f49,conVText_eq,cd0_all,cd0_S,inI64]
def conVList:Con:=⟨fun args=>(match args with
 | [.s (.sl (.tree (.cons (.int .i64) (.cons (.int .i64) (.cons .str .nil)))) l _)]=>True
 | _=>False),fun args=>match args with
 | [.s (.sl (.tree (.cons (.int .i64) (.cons (.int .i64) (.cons .str .nil)))) l _)]=>.v (.agg [.int .i64 3,.int .i64 0,.str ByteArray.empty,.sl tV l false])
 | _=>.v (.s .any)⟩
theorem conVList_eq (l:List (Ty.T (.tree (.cons tI (.cons tI (.cons .str .nil)))))) (exl:Bool):conVList.pre [.s (.sl (.tree (.cons tI (.cons tI (.cons .str .nil)))) l exl)]=(True)∧conVList.val [.s (.sl (.tree (.cons tI (.cons tI (.cons .str .nil)))) l exl)]=.v (.agg [.int .i64 3,.int .i64 0,.str ByteArray.empty,.sl tV l false]):=⟨rfl,rfl⟩
theorem vlist_ok:PureOk prog 47 conVList:=by
 refine pureOkD (L:={ live:=[0,2] }) cd0_good rfl nr_mixed func47 rfl conVList 1 (by decide) (by kernel_rfl) ?_
 intro args hpre hlens
 simp only [conVList] at hpre
 split at hpre
 case h_2=>exact hpre.elim
 rename_i l el
 simp only [lenS] at hlens
 refine ⟨rfl,?_⟩
 simp -dsimp -implicitDefEqProofs [f47,conVList_eq,cd0_all,cd0_S,inI64]
def cd4Γ:List (FuncId×Con):=(86,conVInt)::cd0Γ
theorem cd4Γ_ok:OkΓ cd4Γ:=by
 simp only [OkΓ,cd4Γ,List.forall_mem_cons]
 exact ⟨⟨enters_of func86 (by kernel_rfl) rfl,vint_ok⟩,cd0Γ_ok⟩
def cd4E:=cd0E
theorem cd4E_ok:OkE cd4E:=cd0E_ok
def cd4P:=cd0P
theorem cd4P_ok:OkP cd4P:=cd0P_ok
def cd4F:=cd0F
theorem cd4F_ok:OkF cd4F:=cd0F_ok
def cd4:G:={ τ:=cdT,Γ:=cd4Γ,E:=cd4E,Pn:=cd4P,E2:=cd4F }
theorem cd4_good:cd4.good prog:=good_of_all (cdT_ok _ rfl) cd4Γ_ok cd4E_ok cd4P_ok cd4F_ok
theorem cd4_all:(∀ t,cd4.td t=(look cdT t).getD .other)∧cd4.y=false∧cd4.Γ=cd4Γ∧cd4.E=cd4E∧cd4.Pn=cd4P∧cd4.E2=cd4F∧cd4.fz=[]∧cd4.te=false∧cd4.bo=false∧cd4.pm=false:=⟨fun _=>rfl,rfl,rfl,rfl,rfl,rfl,rfl,rfl,rfl,rfl⟩
def cd4_S:=And.intro (And.intro @cdT.eq_1 (And.intro @cd4Γ.eq_1 (And.intro @cd4E.eq_1 (And.intro @cd4P.eq_1 (And.intro @cd4F.eq_1 (@conVInt_eq)))))) cd0_S
def intV (n:Int):DV:=mkV 1 n ByteArray.empty []
def conVInts:Con:=⟨fun args=>(match args with
 | [.s (.sl (.int .i64) l _)]=>l.length≤1000000
 | _=>False),fun args=>match args with
 | [.s (.sl (.int .i64) l _)]=>.v (.agg [.int .i64 3,.int .i64 0,.str ByteArray.empty,.sl tV (l.map intV) false])
 | _=>.v (.s .any)⟩
theorem conVInts_eq (l:List (Ty.T tI)) (exl:Bool):conVInts.pre [.s (.sl tI l exl)]=(l.length≤1000000)∧conVInts.val [.s (.sl tI l exl)]=.v (.agg [.int .i64 3,.int .i64 0,.str ByteArray.empty,.sl tV (l.map intV) false]):=⟨rfl,rfl⟩
theorem vints_ok:PureOk prog 48 conVInts:=by
 refine pureOkD (L:={ live:=[0,2,3,4,9] }) cd4_good rfl nr_mixed func48 rfl conVInts 1 (by decide) (by kernel_rfl) ?_
 intro args hpre hlens
 simp only [conVInts] at hpre
 split at hpre
 case h_2=>exact hpre.elim
 rename_i l el
 simp only [lenS] at hlens
 refine ⟨rfl,?_⟩
 simp -dsimp -implicitDefEqProofs [f48,conVInts_eq,cd4_all,cd4_S,inI64]
 change List Int at l
 have hm:1000000000≤maxLen:=by simp only [maxLen]; omega
 refine WpD.turn _ (Turn.virtBox (b:=1) (off:=3) (t:=tV) (xs:=[]) rfl rfl) ?_
 refine WpD.loop (L:={ live:=[0,2,3,4,9] }) cd4_good X0_ok nr_mixed (by kernel_rfl)
  (fun i:Nat=>⟨[(0,vS tI l el),(2,⟨true,.v (.s (.box 0 0))⟩),(3,⟨true,.v (.s (.box 1 0))⟩),(4,vI i)],[.cells [.int .i64 0,.int .i64 0,.str ByteArray.empty,.sl tV [] true],.cells [.int .i64 3,.int .i64 0,.str ByteArray.empty,.own tV 2 i],.arr (decide (0<i)) (tV.flats ((l.map intV).take i))]⟩)
  (fun i=>i≤l.length) (fun i=>l.length - i) 0 (Nat.zero_le _) (Turn.le (by simp -dsimp -implicitDefEqProofs)) ?_
 intro i hi
 by_cases hil:i<l.length
 ·
  have hx:l[i]?=some l[i]:=List.getElem?_eq_getElem hil
  have m1:min i l.length=i:=by omega
  have hs:(l.map intV).take (i+1)=(l.map intV).take i++[hV.mk (1,l[i],ByteArray.empty,()) []]:=by
   rw [List.take_succ_eq_append_getElem (by rw [List.length_map]; exact hil),List.getElem_map]; rfl
  simp -dsimp -implicitDefEqProofs [hx,m1,cd4_all,cd4_S,inI64]
  refine ⟨fun _=>⟨hil,⟨by omega,by omega⟩,⟨by omega,by omega⟩,i+1,by omega,by omega,TurnT.le ?_⟩,fun q=>by omega⟩
  rw [hs]
  simp -dsimp -implicitDefEqProofs
 ·
  have hx:l[i]?=none:=List.getElem?_eq_none (by omega)
  have ht:(l.map intV).take i=l.map intV:=List.take_of_length_le (by rw [List.length_map]; omega)
  rw [ht]
  simp -dsimp -implicitDefEqProofs [hx,cd4_all,cd4_S,inI64]
  refine ⟨fun q=>by omega,fun _ => ?_⟩
  rw [if_pos (by omega),parses_flats' (by rw [List.length_map]; omega)]
  exact ⟨_,rfl,rfl⟩
theorem form_k {k n:Int} {s:ByteArray} {l:List DV} (h:formV (mkV k n s l)=true):(k=1∧s=⟨#[]⟩∧l=[])∨(k=2∧n=0∧l=[])∨(k=3∧n=0∧s=⟨#[]⟩∧∀ x∈l,formV x=true):=by
 obtain ⟨f1,f2,f3,f4⟩:=form_0 (k:=k) (n:=n) (s:=s) (l:=l)
 have hd:s.data.toList=[]→s=⟨#[]⟩:=fun h=>by
  obtain ⟨d⟩:=s
  have:=data_nil.1 h
  simp only at this
  rw [this]
 by_cases h1:k=1
 ·
  rw [f1 h1] at h; simp only [Bool.and_eq_true,decide_eq_true_eq,List.isEmpty_iff] at h; exact .inl ⟨h1,hd h.1,h.2⟩
 ·
  by_cases h2:k=2
  ·
   rw [f2 h2] at h; simp only [Bool.and_eq_true,decide_eq_true_eq,List.isEmpty_iff] at h; exact .inr (.inl ⟨h2,h⟩)
  ·
   by_cases h3:k=3
   ·
    rw [f3 h3] at h; simp only [Bool.and_eq_true,decide_eq_true_eq,List.all_eq_true] at h; exact .inr (.inr ⟨h3,h.2.1,hd h.2.2,h.1⟩)
   ·
    rw [f4 h1 h2 h3] at h; cases h
def conFrmd (m:Nat):Con:=⟨fun args=>(match args with
 | [.agg [.int .i64 k,.int .i64 n,.str s,.sl (.tree (.cons (.int .i64) (.cons (.int .i64) (.cons .str .nil)))) l _]]=>depV (mkV k n s l)<m∧m≤1000000∧formV (mkV k n s l)=true
 | _=>False),fun args=>match args with
 | [.agg [.int _ k,.int _ n,.str s,.sl (.tree (.cons (.int .i64) (.cons (.int .i64) (.cons .str .nil)))) l _]]=>.tup [aI (depV (mkV k n s l)),aB true]
 | _=>.v (.s .any)⟩
theorem conFrmd_eq (m:Nat) (k:Int) (n:Int) (s:ByteArray) (l:List (Ty.T (.tree (.cons tI (.cons tI (.cons .str .nil)))))) (exl:Bool):(conFrmd m).pre [.agg [.int .i64 k,.int .i64 n,.str s,.sl (.tree (.cons tI (.cons tI (.cons .str .nil)))) l exl]]=(depV (mkV k n s l)<m∧m≤1000000∧formV (mkV k n s l)=true)∧(conFrmd m).val [.agg [.int .i64 k,.int .i64 n,.str s,.sl (.tree (.cons tI (.cons tI (.cons .str .nil)))) l exl]]=.tup [aI (depV (mkV k n s l)),aB true]:=⟨rfl,rfl⟩
theorem frmd_ok:∀ n,PureOk prog 94 (conFrmd n)
 | 0=>PureOk.never fun args h=>by
  simp only [conFrmd] at h
  split at h
  · exact absurd h (by omega)
  · exact h
 | n+1=>by
  have hgR:=add_good cd0_good (enters_of func94 (by kernel_rfl) rfl) (frmd_ok n)
  refine pureOkD (L:={ live:=[0,1,2,3,4,6,7,8,50,53,55,56,57,58,67] }) hgR rfl nr_mixed func94 rfl (conFrmd (n+1)) 1 (by decide) (by kernel_rfl) ?_
  intro args hpre hlens
  simp only [conFrmd] at hpre
  split at hpre
  case h_2=>exact hpre.elim
  rename_i k n0 s l e
  simp only [lenS] at hlens
  obtain ⟨hd,hm,hf⟩:=hpre; obtain ⟨n,rfl⟩:∃ n:Int,n=n0:=⟨n0,rfl⟩; rcases form_k hf with ⟨rfl,rfl,rfl⟩ | ⟨rfl,rfl,rfl⟩ | ⟨rfl,rfl,rfl,hfk⟩
  all_goals refine ⟨rfl,?_⟩
  all_goals simp -dsimp -implicitDefEqProofs [f94,conFrmd_eq,add_all,cd0_all,cd0_S,inI64]
  · rw [dep_3]; rfl
  · rw [dep_3]; rfl
  refine WpD.loop (L:={ live:=[0,1,2,3,4,6,7,8,50,53,55,56,57,58,67] }) hgR X0_ok nr_mixed (by kernel_rfl)
    (fun i:Nat=>⟨[(1,⟨true,.v (.s (.box 0 0))⟩),(2,vI (maxL ((l.map depV).take i))),(55,vS tV l e),(56,vI l.length),(57,vI i)],[.cells [.int .i64 3,.int .i64 0,.str ⟨#[]⟩,.sl tV l e],.cells [.bool false,.bool ((l.length:Int)==0),.bool ((l.length:Int)==0),.bool true]]⟩)
    (fun i=>i≤l.length) (fun i=>l.length - i) 0 (Nat.zero_le _) (Turn.le (by simp -dsimp -implicitDefEqProofs [maxL])) ?_
  intro i hi
  by_cases hil:i<l.length
  · have hx:l[i]?=some l[i]:=List.getElem?_eq_getElem hil
    have hdx:=dep_kid rfl hd (List.getElem_mem hil)
    have hfx:=hfk _ (List.getElem_mem hil)
    simp -dsimp -implicitDefEqProofs [add_all,conFrmd_eq,hx,mkV_hd,cd0_all,cd0_S,inI64]
    refine ⟨fun _=>⟨hil,⟨hdx,by omega,hfx⟩,⟨by omega,by omega⟩,i+1,by omega,by omega,?_⟩,fun q=>by omega⟩
    have e1:(if maxL ((l.map depV).take i)<depV l[i] then ((depV l[i]:Nat):Int) else ((maxL ((l.map depV).take i):Nat):Int))=((maxL ((l.map depV).take (i+1)):Nat):Int):=by
      rw [maxL_snoc hil]
      split <;> omega
    rw [e1]
    exact TurnT.trans (TurnT.le (s':=⟨[(1,⟨true,.v (.s (.box 0 0))⟩),(2,vI (maxL ((l.map depV).take (i+1)))),(55,vS tV l e),(56,vI l.length),(57,vI ((i:Int)+1))],[.cells [.int .i64 3,.int .i64 0,.str ⟨#[]⟩,.sl tV l e],.cells [.bool false,.bool ((l.length:Int)==0),.bool ((l.length:Int)==0),.bool true],_]⟩) (by simp -dsimp -implicitDefEqProofs; rfl)) (TurnT.trunc X0_ok (hp:=[_,_]) (junk:=[_]) (by simp) (by simp only [List.length_cons,List.length_nil,List.all_cons,List.all_nil,arr_below,Bool.and_true] <;> simp [Blk.below,SV.below]) (by simp -dsimp -implicitDefEqProofs []) (by simp [envBelow,RV.below,AV.below,SV.below]))
  · have hx:l[i]?=none:=List.getElem?_eq_none (by omega)
    have e1:(l.map depV).take i=l.map depV:=List.take_of_length_le (by rw [List.length_map]; omega)
    rw [e1]
    have hp3:=hd
    rw [dep_3,if_pos rfl] at hp3
    simp -dsimp -implicitDefEqProofs [add_all,conFrmd_eq,hx,cd0_all,cd0_S,inI64]
    refine ⟨fun q=>by omega,fun _=>⟨⟨by omega,by omega⟩,?_⟩⟩
    rw [dep_3,if_pos rfl]; rfl
theorem or128 {v:Int} (h:0≤v):(((v % 256).toNat ||| 128:Nat):Int)=v % 128+128:=by
 obtain ⟨x,hx⟩:∃ x,x=(v % 256).toNat:=⟨_,rfl⟩
 have h2:x<256:=by omega
 have h3:x ||| 128=x % 128+128:=by
  have:∀ y,y<256→y ||| 128=y % 128+128:=by decide
  exact this x h2
 rw [← hx,h3]; omega
def conNumlE:ECon:={ wp:=fun args hp K=>match args,hp with
 | [.s (.own (.int .u8) 0 n),.s (.int .u64 u)],[.arr true cs]=>∃ xs:List Int,cs=t8.flats xs∧n=xs.length∧0≤u∧u<18446744073709551616∧xs.length≤1000000000∧K (.v (.s (.own t8 0 (xs++numL u.toNat).length))) [.arr true (t8.flats (xs++numL u.toNat))]
 | _,_=>False }
theorem numle_ok:EffOk prog 96 conNumlE:=by
 refine effOkD (L:={ live:=[0,1,4,6] }) cd0_good rfl nr_mixed func96 rfl conNumlE 2 (by decide) (by kernel_rfl) ?_
 intro args hp K hpre hlens
 simp only [conNumlE] at hpre
 split at hpre
 case h_2=>exact hpre.elim
 rename_i n u cs
 obtain ⟨xs0,rfl,rfl,h0,h1,hl,hK⟩:=hpre; obtain ⟨xs,rfl⟩:∃ y:List Int,y=xs0:=⟨xs0,rfl⟩
 refine ⟨rfl,?_⟩
 simp -dsimp -implicitDefEqProofs [f96,conNumlE.eq_1,cd0_all,cd0_S,inI64]
 have hm:2000000000≤maxLen:=by simp only [maxLen]; omega
 refine WpD.loop (L:={ live:=[0,1,4,6] }) cd0_good X0_ok nr_mixed (by kernel_rfl)
  (fun q:List Int×Int=>⟨[(0,⟨true,.v (.s (.own t8 0 q.1.length))⟩),(1,⟨true,.v (.s (.int .u64 q.2))⟩)],[.arr true (t8.flats q.1)]⟩)
  (fun q=>0≤q.2∧q.2≤u∧q.1++numL q.2.toNat=xs++numL u.toNat) (fun q=>q.2.toNat) (xs,u) ⟨h0,Int.le_refl _,rfl⟩ (Turn.le (by simp -dsimp -implicitDefEqProofs)) ?_
 rintro ⟨ys,v⟩ ⟨v0,v1,hv⟩
 simp only at v0 v1 hv
 have hu10:=numL_len64 (u:=u.toNat) (by omega)
 have hyl:=congrArg List.length hv
 rw [List.length_append,List.length_append] at hyl
 have ew:IntKind.u8.wrap v=v % 256:=rfl
 have eo:(((v % 256).toNat ||| 128:Nat):Int)=v % 128+128:=or128 v0
 simp -dsimp -implicitDefEqProofs [ew,cd0_all,cd0_S,inI64]
 rw [eo]
 have ef:v.fdiv 128=v / 128:=Int.fdiv_eq_ediv_of_nonneg _ (by decide)
 rw [ef]
 refine ⟨fun h=>⟨⟨by omega,by omega⟩,⟨by omega,by omega⟩,ys++[v % 128+128],v / 128,⟨by omega,by omega,?_⟩,by omega,TurnT.le (by simp -dsimp -implicitDefEqProofs)⟩,fun h=>⟨⟨by omega,by omega⟩,?_⟩⟩
 ·
  rw [← hv,numL_great (u:=v.toNat) (by omega),show v.toNat / 128=(v / 128).toNat by omega,show ((v.toNat % 128+128:Nat):Int)=v % 128+128 by omega,List.append_assoc]; rfl
 ·
  rw [← hv,numL_small (u:=v.toNat) (by omega),show ((v.toNat:Nat):Int)=v % 256 by omega] at hK
  rw [List.length_append] at hK
  exact hK
theorem xor_ones {n x:Nat} (h:x<2 ^ n):x ^^^ (2 ^ n - 1)=2 ^ n - 1 - x:=by
 rw [show 2 ^ n - 1 - x=2 ^ n - (x+1) by omega]
 refine Nat.eq_of_testBit_eq fun i => ?_
 rw [Nat.testBit_xor,Nat.testBit_two_pow_sub_one,Nat.testBit_two_pow_sub_succ h]
 cases hx:x.testBit i with
 | false=>simp
 | true =>
  have:i<n:=by
   rcases Nat.lt_or_ge i n with q | q
   ·
    exact q
   ·
    rw [Nat.testBit_lt_two_pow (Nat.lt_of_lt_of_le h (Nat.pow_le_pow_right (by decide) q))] at hx; cases hx
  simp [this]
theorem uns_neg {n:Int} (h:n<0) (h2 : -9223372036854775808≤n):(((2*n+18446744073709551616).toNat ^^^ 18446744073709551615:Nat):Int)=(unsV n:Nat):=by
 have:=xor_ones (n:=64) (x:=(2*n+18446744073709551616).toNat) (by omega)
 rw [show (18446744073709551615:Nat)=2 ^ 64 - 1 by decide,this]
 unfold unsV
 rw [if_neg (by omega)]
 omega
theorem uns_ok:PureOk prog 97 conUnsR:=by
 refine pureOkD (L:={ live:=[0,2] }) cd0_good rfl nr_mixed func97 rfl conUnsR 1 (by decide) (by kernel_rfl) ?_
 intro args hpre hlens
 simp only [conUnsR] at hpre
 split at hpre
 case h_2=>exact hpre.elim
 rename_i n
 simp only [lenS] at hlens
 refine ⟨rfl,?_⟩
 simp -dsimp -implicitDefEqProofs [f97,conUnsR_eq,cd0_all,cd0_S,inI64]
 have hn:=hpre
 simp only [inI64] at hn
 have eb:(IntKind.i64.bits:Int)=64:=rfl
 have ew:∀ x,IntKind.u64.wrap x=x % 18446744073709551616:=fun x=>rfl
 rw [eb,ew,ew,ew]
 have ef:n.fdiv 9223372036854775808=n / 9223372036854775808:=Int.fdiv_eq_ediv_of_nonneg _ (by decide)
 rw [ef]
 refine ⟨by omega,by omega,?_⟩
 by_cases h:0≤n
 ·
  rw [show n / 9223372036854775808 % 18446744073709551616=0 by omega,show n % 18446744073709551616*2 % 18446744073709551616=2*n by omega]
  unfold unsV
  rw [if_pos h]
  simp; omega
 ·
  rw [show n / 9223372036854775808 % 18446744073709551616=18446744073709551615 by omega,show n % 18446744073709551616*2 % 18446744073709551616=2*n+18446744073709551616 by omega]
  exact uns_neg (by omega) (by omega)
def dgT:List (TypeId×TD):=[(1,.func),(2,.sc tI),(3,.sc tI),(4,.sc .bool),(5,.sc (.int .u8)),(6,.sc (.int .u8)),(7,.struct (.cons tI (.cons tI (.cons .bool (.cons (.int .u8) .nil))))),(8,.struct (.cons tI (.cons tI (.cons .bool (.cons (.int .u8) .nil))))),(9,.sc .str),(10,.sc .str),(11,.sc .str),(12,.sc (.int .u64)),(13,.struct (.cons .str (.cons (.int .u64) .nil))),(14,.struct (.cons .str (.cons (.int .u64) .nil))),(15,.ptr),(16,.ptr),(17,.ptr),(21,.sc (.int .i32)),(22,.slice 52 (.cons tI (.cons tRat .nil)) 72),(23,.slice 3 tI 8),(24,.struct tBig),(25,.struct tBig),(26,.struct tRat),(27,.struct tRat),(28,.func),(29,.func),(30,.sc tI),(32,.func),(34,.func),(35,.func),(36,.func),(37,.arr 32 5 (.int .u8)),(38,.arr 32 5 (.int .u8)),(40,.func),(42,.func),(43,.slice 45 (.tree (.cons tI (.cons tI (.cons .str .nil)))) 56),(44,.struct (.cons tI (.cons tI (.cons .str (.cons (.slice (.tree (.cons tI (.cons tI (.cons .str .nil))))) .nil))))),(45,.struct (.cons tI (.cons tI (.cons .str (.cons (.slice (.tree (.cons tI (.cons tI (.cons .str .nil))))) .nil))))),(46,.slice 5 (.int .u8) 1),(48,.func),(49,.func),(50,.func),(51,.struct (.cons tI (.cons tRat .nil))),(52,.struct (.cons tI (.cons tRat .nil))),(53,.func),(54,.slice 4 .bool 1),(56,.func),(57,.func),(59,.func),(60,.func),(61,.func),(62,.func),(63,.func),(100,.struct (.cons tRat .nil)),(129,.func),(136,.sc (.int .u64)),(138,.sc (.int .u32)),(139,.arr 8 138 (.int .u32)),(140,.arr 8 138 (.int .u32)),(142,.slice 46 (.slice (.int .u8)) 24),(156,.sc (.int .u64)),(183,.ptr),(184,.arr 64 138 (.int .u32)),(188,.slice 138 (.int .u32) 4)]
theorem dgT_ok (g:G) (hg:g.τ=dgT):G.ok prog g:=by
 refine ok_of_all ?_
 rw [hg]
 simp only [dgT,List.forall_mem_cons]
 exact ⟨⟨⟨_,_,_,underlying1⟩,by kernel_rfl⟩,
 ⟨by kernel_rfl,rfl,by kernel_rfl,rfl⟩,
 ⟨by kernel_rfl,rfl,by kernel_rfl,rfl⟩,
 ⟨by kernel_rfl,rfl,by kernel_rfl,rfl⟩,
 ⟨by kernel_rfl,rfl,by kernel_rfl,rfl⟩,
 ⟨by kernel_rfl,rfl,by kernel_rfl,rfl⟩,
 ⟨fieldsOf prog 7,by kernel_rfl,by kernel_rfl,by kernel_rfl,by decide,by kernel_rfl⟩,
 ⟨fieldsOf prog 8,by kernel_rfl,by kernel_rfl,by kernel_rfl,by decide,by kernel_rfl⟩,
 ⟨by kernel_rfl,rfl,by kernel_rfl,rfl⟩,
 ⟨by kernel_rfl,rfl,by kernel_rfl,rfl⟩,
 ⟨by kernel_rfl,rfl,by kernel_rfl,rfl⟩,
 ⟨by kernel_rfl,rfl,by kernel_rfl,rfl⟩,
 ⟨fieldsOf prog 13,by kernel_rfl,by kernel_rfl,by kernel_rfl,by decide,by kernel_rfl⟩,
 ⟨fieldsOf prog 14,by kernel_rfl,by kernel_rfl,by kernel_rfl,by decide,by kernel_rfl⟩,
 ⟨⟨_,underlying15⟩,by kernel_rfl⟩,
 ⟨⟨_,underlying16⟩,by kernel_rfl⟩,
 ⟨⟨_,underlying17⟩,by kernel_rfl⟩,
 ⟨by kernel_rfl,rfl,by kernel_rfl,rfl⟩,
 ⟨by kernel_rfl,by decide,by kernel_rfl,⟨cellsV (Ty.zcells (.cons tI (.cons tRat .nil))),by kernel_rfl,by kernel_rfl,by kernel_rfl⟩,by kernel_rfl⟩,
 ⟨by kernel_rfl,by decide,by kernel_rfl,⟨cellsV (Ty.zcells tI),by kernel_rfl,by kernel_rfl,by kernel_rfl⟩,by kernel_rfl⟩,
 ⟨fieldsOf prog 24,by kernel_rfl,by kernel_rfl,by kernel_rfl,by decide,by kernel_rfl⟩,
 ⟨fieldsOf prog 25,by kernel_rfl,by kernel_rfl,by kernel_rfl,by decide,by kernel_rfl⟩,
 ⟨fieldsOf prog 26,by kernel_rfl,by kernel_rfl,by kernel_rfl,by decide,by kernel_rfl⟩,
 ⟨fieldsOf prog 27,by kernel_rfl,by kernel_rfl,by kernel_rfl,by decide,by kernel_rfl⟩,
 ⟨⟨_,_,_,underlying28⟩,by kernel_rfl⟩,
 ⟨⟨_,_,_,underlying29⟩,by kernel_rfl⟩,
 ⟨by kernel_rfl,rfl,by kernel_rfl,rfl⟩,
 ⟨⟨_,_,_,underlying32⟩,by kernel_rfl⟩,
 ⟨⟨_,_,_,underlying34⟩,by kernel_rfl⟩,
 ⟨⟨_,_,_,underlying35⟩,by kernel_rfl⟩,
 ⟨⟨_,_,_,underlying36⟩,by kernel_rfl⟩,
 ⟨by kernel_rfl,by kernel_rfl,by kernel_rfl⟩,
 ⟨by kernel_rfl,by kernel_rfl,by kernel_rfl⟩,
 ⟨⟨_,_,_,underlying40⟩,by kernel_rfl⟩,
 ⟨⟨_,_,_,underlying42⟩,by kernel_rfl⟩,
 ⟨by kernel_rfl,by decide,by kernel_rfl,⟨cellsV (Ty.zcells (.tree (.cons tI (.cons tI (.cons .str .nil))))),by kernel_rfl,by kernel_rfl,by kernel_rfl⟩,by kernel_rfl⟩,
 ⟨fieldsOf prog 44,by kernel_rfl,by kernel_rfl,by kernel_rfl,by decide,by kernel_rfl⟩,
 ⟨fieldsOf prog 45,by kernel_rfl,by kernel_rfl,by kernel_rfl,by decide,by kernel_rfl⟩,
 ⟨by kernel_rfl,by decide,by kernel_rfl,⟨cellsV (Ty.zcells (.int .u8)),by kernel_rfl,by kernel_rfl,by kernel_rfl⟩,by kernel_rfl⟩,
 ⟨⟨_,_,_,underlying48⟩,by kernel_rfl⟩,
 ⟨⟨_,_,_,underlying49⟩,by kernel_rfl⟩,
 ⟨⟨_,_,_,underlying50⟩,by kernel_rfl⟩,
 ⟨fieldsOf prog 51,by kernel_rfl,by kernel_rfl,by kernel_rfl,by decide,by kernel_rfl⟩,
 ⟨fieldsOf prog 52,by kernel_rfl,by kernel_rfl,by kernel_rfl,by decide,by kernel_rfl⟩,
 ⟨⟨_,_,_,underlying53⟩,by kernel_rfl⟩,
 ⟨by kernel_rfl,by decide,by kernel_rfl,⟨cellsV (Ty.zcells .bool),by kernel_rfl,by kernel_rfl,by kernel_rfl⟩,by kernel_rfl⟩,
 ⟨⟨_,_,_,underlying56⟩,by kernel_rfl⟩,
 ⟨⟨_,_,_,underlying57⟩,by kernel_rfl⟩,
 ⟨⟨_,_,_,underlying59⟩,by kernel_rfl⟩,
 ⟨⟨_,_,_,underlying60⟩,by kernel_rfl⟩,
 ⟨⟨_,_,_,underlying61⟩,by kernel_rfl⟩,
 ⟨⟨_,_,_,underlying62⟩,by kernel_rfl⟩,
 ⟨⟨_,_,_,underlying63⟩,by kernel_rfl⟩,
 ⟨fieldsOf prog 100,by kernel_rfl,by kernel_rfl,by kernel_rfl,by decide,by kernel_rfl⟩,
 ⟨⟨_,_,_,underlying129⟩,by kernel_rfl⟩,
 ⟨by kernel_rfl,rfl,by kernel_rfl,rfl⟩,
 ⟨by kernel_rfl,rfl,by kernel_rfl,rfl⟩,
 ⟨by kernel_rfl,by kernel_rfl,by kernel_rfl⟩,
 ⟨by kernel_rfl,by kernel_rfl,by kernel_rfl⟩,
 ⟨by kernel_rfl,by decide,by kernel_rfl,⟨cellsV (Ty.zcells (.slice (.int .u8))),by kernel_rfl,by kernel_rfl,by kernel_rfl⟩,by kernel_rfl⟩,
 ⟨by kernel_rfl,rfl,by kernel_rfl,rfl⟩,
 ⟨⟨_,underlying183⟩,by kernel_rfl⟩,
 ⟨by kernel_rfl,by kernel_rfl,by kernel_rfl⟩,
 ⟨by kernel_rfl,by decide,by kernel_rfl,⟨cellsV (Ty.zcells (.int .u32)),by kernel_rfl,by kernel_rfl,by kernel_rfl⟩,by kernel_rfl⟩,by simp⟩
def dg0Γ:List (FuncId×Con):=[]
theorem dg0Γ_ok:OkΓ dg0Γ:=by simp [dg0Γ]
def dg0E:List (FuncId×ECon):=[]
theorem dg0E_ok:OkE dg0E:=by simp [dg0E]
def dg0P:List (FuncId×PCon):=[]
theorem dg0P_ok:OkP dg0P:=by simp [dg0P]
def dg0F:List (FuncId×ECon2):=[]
theorem dg0F_ok:OkF dg0F:=by simp [dg0F]
def dg0:G:={ τ:=dgT,Γ:=dg0Γ,E:=dg0E,Pn:=dg0P,E2:=dg0F }
theorem dg0_good:dg0.good prog:=good_of_all (dgT_ok _ rfl) dg0Γ_ok dg0E_ok dg0P_ok dg0F_ok
theorem dg0_all:(∀ t,dg0.td t=(look dgT t).getD .other)∧dg0.y=false∧dg0.Γ=dg0Γ∧dg0.E=dg0E∧dg0.Pn=dg0P∧dg0.E2=dg0F∧dg0.fz=[]∧dg0.te=false∧dg0.bo=false∧dg0.pm=false:=⟨fun _=>rfl,rfl,rfl,rfl,rfl,rfl,rfl,rfl,rfl,rfl⟩
def dg0_S:=And.intro @dgT.eq_1 (And.intro @dg0Γ.eq_1 (And.intro @dg0E.eq_1 (And.intro @dg0P.eq_1 (@dg0F.eq_1))))
theorem xorI_def (a b:Int):((a.toNat ^^^ b.toNat:Nat):Int)=xorI a b:=rfl
theorem andI_def (a b:Int):((a.toNat &&& b.toNat:Nat):Int)=andI a b:=rfl
theorem orW_def (a b:Int):((a.toNat ||| b.toNat:Nat):Int)=orW a b:=rfl
theorem w32_def (x:Int):IntKind.u32.wrap x=w32 x:=rfl
theorem bit32:((IntKind.u32.bits:Nat):Int)=32:=rfl
def conRor:Con:=⟨fun args=>(match args with
 | [.s (.int .u32 x),.s (.int .i64 k)]=>in32 x∧0<k∧k<32
 | _=>False),fun args=>match args with
 | [.s (.int _ x),.s (.int _ k)]=>.v (.s (.int .u32 (rorI x k)))
 | _=>.v (.s .any)⟩
theorem conRor_eq (x:Int) (k:Int):conRor.pre [.s (.int .u32 x),.s (.int .i64 k)]=(in32 x∧0<k∧k<32)∧conRor.val [.s (.int .u32 x),.s (.int .i64 k)]=.v (.s (.int .u32 (rorI x k))):=⟨rfl,rfl⟩
theorem ror_ok:PureOk prog 177 conRor:=by
 refine pureOkD (L:={ live:=[0,1,4] }) dg0_good rfl nr_mixed func177 rfl conRor 2 (by decide) (by kernel_rfl) ?_
 intro args hpre hlens
 simp only [conRor] at hpre
 split at hpre
 case h_2=>exact hpre.elim
 rename_i x k
 simp only [lenS] at hlens
 refine ⟨rfl,?_⟩
 simp -dsimp -implicitDefEqProofs [f177,conRor_eq,orW_def,w32_def,bit32,dg0_all,dg0_S,inI64]
 obtain ⟨hx,h0,h1⟩:=hpre
 have hs:=shr_in hx k.toNat
 have hw:=w32_in (x*2 ^ (32 - k).toNat)
 exact ⟨⟨by omega,by omega,by omega⟩,⟨by omega,by omega⟩,⟨by omega,by omega,by omega⟩,⟨hs.1,hs.2,hw.1,hw.2⟩,rfl⟩
def conRotL:Con:=⟨fun args=>(match args with
 | [.s (.int .u32 x),.s (.int .i64 k)]=>in32 x ∧ -32<k∧k<0
 | _=>False),fun args=>match args with
 | [.s (.int _ x),.s (.int _ k)]=>.v (.s (.int .u32 (rorI x (-k))))
 | _=>.v (.s .any)⟩
theorem conRotL_eq (x:Int) (k:Int):conRotL.pre [.s (.int .u32 x),.s (.int .i64 k)]=(in32 x ∧ -32<k∧k<0)∧conRotL.val [.s (.int .u32 x),.s (.int .i64 k)]=.v (.s (.int .u32 (rorI x (-k)))):=⟨rfl,rfl⟩
theorem rotl_ok:PureOk prog 146 conRotL:=by
 refine pureOkD (L:={ live:=[0,1,4,5] }) dg0_good rfl nr_mixed func146 rfl conRotL 2 (by decide) (by kernel_rfl) ?_
 intro args hpre hlens
 simp only [conRotL] at hpre
 split at hpre
 case h_2=>exact hpre.elim
 rename_i x k
 simp only [lenS] at hlens
 refine ⟨rfl,?_⟩
 simp -dsimp -implicitDefEqProofs [f146,conRotL_eq,orW_def,w32_def,bit32,dg0_all,dg0_S,inI64]
 obtain ⟨hx,h0,h1⟩:=hpre
 have w64:∀ x,IntKind.u64.wrap x=x % 18446744073709551616:=fun x=>rfl
 rw [w64,w64,show k % 18446744073709551616 % 32=32 - -k by omega,show (32 - (32 - -k)) % 18446744073709551616 = -k by omega]
 have hs:=shr_in hx (-k).toNat
 have hw:=w32_in (x*2 ^ (32 - -k).toNat)
 exact ⟨⟨by omega,by omega,by omega⟩,⟨by omega,by omega,by omega⟩,⟨hw.1,hw.2,hs.1,hs.2⟩,or_comm' _ _⟩
theorem or_I {x y:Int} (n:Nat) (hx:0≤x) (h0:0≤y) (h1:y<((2 ^ n:Nat):Int)):(x*((2 ^ n:Nat):Int)).toNat ||| y.toNat=(x*((2 ^ n:Nat):Int)+y).toNat:=by
 obtain ⟨a,rfl⟩:=Int.eq_ofNat_of_zero_le hx
 obtain ⟨b,rfl⟩:=Int.eq_ofNat_of_zero_le h0
 rw [← Int.natCast_mul,← Int.natCast_add,Int.toNat_natCast,Int.toNat_natCast,Int.toNat_natCast]
 exact or_shl n (by omega)
theorem or_w {a b c d:Int} (ha:in8 a) (hb:in8 b) (hc:in8 c) (hd:in8 d) :
  (w32 (w32 a*16777216)).toNat ||| (w32 (w32 b*65536)).toNat=(a*16777216+b*65536).toNat ∧
  (a*16777216+b*65536).toNat ||| (w32 (w32 c*256)).toNat=(a*16777216+b*65536+c*256).toNat ∧
  (a*16777216+b*65536+c*256).toNat ||| (w32 d).toNat=(a*16777216+b*65536+c*256+d).toNat:=by
 unfold in8 at ha hb hc hd
 unfold w32
 have e1:=or_I (x:=a) (y:=b*65536) 24 (by omega) (by omega) (by omega)
 have e2:=or_I (x:=a*256+b) (y:=c*256) 16 (by omega) (by omega) (by omega)
 have e3:=or_I (x:=a*65536+b*256+c) (y:=d) 8 (by omega) (by omega) (by omega)
 rw [show a % 4294967296*16777216 % 4294967296=a*((2 ^ 24:Nat):Int) by omega,show b % 4294967296*65536 % 4294967296=b*65536 by omega,show c % 4294967296*256 % 4294967296=c*256 by omega,show d % 4294967296=d by omega]
 refine ⟨?_,?_,?_⟩
 ·
  rw [e1]; congr 1
 ·
  rw [show a*16777216+b*65536=(a*256+b)*((2 ^ 16:Nat):Int) by omega,e2]
 ·
  rw [show a*16777216+b*65536+c*256=(a*65536+b*256+c)*((2 ^ 8:Nat):Int) by omega,e3]
def conWordR:Con:=⟨fun args=>(match args with
 | [.s (.sl (.int .u8) m _)]=>(∀ x∈m,in8 x)∧4≤m.length
 | _=>False),fun args=>match args with
 | [.s (.sl (.int .u8) m _)]=>.v (.s (.int .u32 (wrd m)))
 | _=>.v (.s .any)⟩
theorem conWordR_eq (m:List (Ty.T (.int .u8))) (exm:Bool):conWordR.pre [.s (.sl (.int .u8) m exm)]=((∀ x∈m,in8 x)∧4≤m.length)∧conWordR.val [.s (.sl (.int .u8) m exm)]=.v (.s (.int .u32 (wrd m))):=⟨rfl,rfl⟩
theorem wordr_ok:PureOk prog 176 conWordR:=by
 refine pureOkD (L:={ live:=[0,2] }) dg0_good rfl nr_mixed func176 rfl conWordR 1 (by decide) (by kernel_rfl) ?_
 intro args hpre hlens
 simp only [conWordR] at hpre
 split at hpre
 case h_2=>exact hpre.elim
 rename_i m e
 simp only [lenS] at hlens
 obtain ⟨h8,hl⟩:=hpre; obtain ⟨a,b,c,d,r,rfl⟩:∃ (a b c d:Int) (r:List Int),m=a::b::c::d::r:=by (match m,hl with | a::b::c::d::r,_=>exact ⟨a,b,c,d,r,rfl⟩)
 refine ⟨rfl,?_⟩
 simp -dsimp -implicitDefEqProofs [f176,conWordR_eq,w32_def,bit32,dg0_all,dg0_S,inI64]
 have ha:in8 a:=h8 a (by simp)
 have hb:in8 b:=h8 b (by simp)
 have hc:in8 c:=h8 c (by simp)
 have hd:in8 d:=h8 d (by simp)
 obtain ⟨o1,o2,o3⟩:=or_w ha hb hc hd
 rw [o1,o2,o3]
 have q1:=w32_in (w32 a*16777216)
 have q2:=w32_in (w32 b*65536)
 have q3:=w32_in (w32 c*256)
 have q4:=w32_in d
 unfold in8 at ha hb hc hd
 have hw:wrd (a::b::c::d::r)=a*16777216+b*65536+c*256+d:=rfl
 rw [hw]
 clear h8 o1 o2 o3 hw
 exact ⟨by omega,by omega,⟨q1.1,q1.2,q2.1,q2.2⟩,by omega,⟨by omega,q3.1,q3.2⟩,by omega,⟨by omega,q4.1,q4.2⟩,by omega⟩
def pwd (m:List Int) (i:Nat):Int:=(m.take i).foldl (fun v b=>v*256+b) 0
theorem pwd_succ {m:List Int} {i:Nat} (h:i<m.length):pwd m (i+1)=pwd m i*256+m[i]:=by
 unfold pwd
 rw [List.take_succ_eq_append_getElem h,List.foldl_append]
 rfl
theorem pwd_in {m:List Int} (h:∀ x∈m,in8 x):∀ {i:Nat},i≤m.length→0≤pwd m i∧pwd m i<((256 ^ i:Nat):Int)
 | 0,_=>by simp [pwd]
 | i+1,hi=>by
  obtain ⟨h0,h1⟩:=pwd_in h (i:=i) (by omega)
  have hx:=h _ (List.getElem_mem (show i<m.length by omega))
  rw [pwd_succ (by omega)]
  unfold in8 at hx
  rw [show ((256 ^ (i+1):Nat):Int)=((256 ^ i:Nat):Int)*256 by rw [Nat.pow_succ]; simp]
  omega
theorem word_ok:PureOk prog 145 conWordR:=by
 refine pureOkD (L:={ live:=[0,2,4,6,7,8,9] }) dg0_good rfl nr_mixed func145 rfl conWordR 1 (by decide) (by kernel_rfl) ?_
 intro args hpre hlens
 simp only [conWordR] at hpre
 split at hpre
 case h_2=>exact hpre.elim
 rename_i m e
 simp only [lenS] at hlens
 obtain ⟨h8,hl⟩:=hpre
 refine ⟨rfl,?_⟩
 simp -dsimp -implicitDefEqProofs [f145,conWordR_eq,w32_def,bit32,dg0_all,dg0_S,inI64]
 have hm:4≤maxLen:=by simp only [maxLen]; omega
 refine ⟨by omega,?_⟩
 have hne:m≠[]:=fun q=>by rw [q] at hl; exact absurd hl (by decide)
 have h4:min 4 m.length=4:=by omega
 refine WpD.loop (L:={ live:=[0,2,4,6,7,8,9] }) dg0_good X0_ok nr_mixed (by kernel_rfl)
  (fun i:Nat=>⟨[(2,⟨true,.v (.s (.int .u32 (pwd m i)))⟩),(6,⟨true,.v (.s (.sl t8 (m.take 4) false))⟩),(7,vI 4),(8,vI i)],[]⟩)
  (fun i=>i≤4) (fun i=>4 - i) 0 (Nat.zero_le _) (Turn.le (by simp -dsimp -implicitDefEqProofs [hne,pwd,h4])) ?_
 intro i hi
 by_cases hi4:i<4
 ·
  have hx:(m.take 4)[i]?=some (m[i]'(by omega)):=by rw [List.getElem?_take_of_lt hi4,List.getElem?_eq_getElem]
  have hx8:=h8 _ (List.getElem_mem (show i<m.length by omega))
  obtain ⟨p0,p1⟩:=pwd_in h8 (i:=i) (by omega)
  have p2:((256 ^ i:Nat):Int)≤16777216:=by
   have:=Nat.pow_le_pow_right (show 256>0 by decide) (show i≤3 by omega)
   omega
  have e1:w32 (pwd m i*256)=pwd m i*((2 ^ 8:Nat):Int):=by unfold w32; omega
  have e2:w32 (m[i]'(by omega))=m[i]'(by omega):=by unfold w32; unfold in8 at hx8; omega
  unfold in8 at hx8
  have e3:=or_I (x:=pwd m i) (y:=m[i]'(by omega)) 8 p0 hx8.1 (by omega)
  simp -dsimp -implicitDefEqProofs [conWordR_eq,w32_def,bit32,hx,e2,dg0_all,dg0_S,inI64]
  have e4:(((pwd m i*((2 ^ 8:Nat):Int)+m[i]'(by omega)).toNat:Nat):Int)=pwd m (i+1):=by rw [pwd_succ (m:=m) (i:=i) (by omega)]; omega
  rw [e1,e3,e4]
  exact ⟨fun _=>⟨by omega,⟨by omega,by omega,by omega,by omega⟩,⟨by omega,by omega⟩,i+1,by omega,by omega,TurnT.le (by simp -dsimp -implicitDefEqProofs)⟩,fun q=>by omega⟩
 ·
  obtain rfl:i=4:=by omega
  simp -dsimp -implicitDefEqProofs [conWordR_eq,w32_def,bit32,dg0_all,dg0_S,inI64]
  obtain ⟨a,b,c,d,r,rfl⟩:∃ (a b c d:Int) (r:List Int),m=a::b::c::d::r:=by (match m,hl with | a::b::c::d::r,_=>exact ⟨a,b,c,d,r,rfl⟩)
  show (((0*256+a)*256+b)*256+c)*256+d=a*16777216+b*65536+c*256+d
  omega
def conNumsR:Con:=⟨fun args=>(match args with
 | []=>True
 | _=>False),fun args=>match args with
 | []=>.v (.agg (t32.flats kNum))
 | _=>.v (.s .any)⟩
theorem conNumsR_eq  : conNumsR.pre []=(True)∧conNumsR.val []=.v (.agg (t32.flats kNum)):=⟨rfl,rfl⟩
theorem numsr_ok:PureOk prog 178 conNumsR:=by
 refine pureOkD (L:={ live:=[0] }) dg0_good rfl nr_mixed func178 rfl conNumsR 0 (by decide) (by kernel_rfl) ?_
 intro args hpre hlens
 simp only [conNumsR] at hpre
 split at hpre
 case h_2=>exact hpre.elim
 skip
 simp only [lenS] at hlens
 refine ⟨rfl,?_⟩
 simp -dsimp -implicitDefEqProofs [f178,conNumsR_eq,dg0_all,dg0_S,inI64]
 rfl
def dg1Γ:List (FuncId×Con):=(177,conRor)::(146,conRotL)::(176,conWordR)::(145,conWordR)::(178,conNumsR)::dg0Γ
theorem dg1Γ_ok:OkΓ dg1Γ:=by
 simp only [OkΓ,dg1Γ,List.forall_mem_cons]
 exact ⟨⟨enters_of func177 (by kernel_rfl) rfl,ror_ok⟩,⟨enters_of func146 (by kernel_rfl) rfl,rotl_ok⟩,⟨enters_of func176 (by kernel_rfl) rfl,wordr_ok⟩,⟨enters_of func145 (by kernel_rfl) rfl,word_ok⟩,⟨enters_of func178 (by kernel_rfl) rfl,numsr_ok⟩,dg0Γ_ok⟩
def dg1E:=dg0E
theorem dg1E_ok:OkE dg1E:=dg0E_ok
def dg1P:=dg0P
theorem dg1P_ok:OkP dg1P:=dg0P_ok
def dg1F:=dg0F
theorem dg1F_ok:OkF dg1F:=dg0F_ok
def dg1:G:={ τ:=dgT,Γ:=dg1Γ,E:=dg1E,Pn:=dg1P,E2:=dg1F }
theorem dg1_good:dg1.good prog:=good_of_all (dgT_ok _ rfl) dg1Γ_ok dg1E_ok dg1P_ok dg1F_ok
theorem dg1_all:(∀ t,dg1.td t=(look dgT t).getD .other)∧dg1.y=false∧dg1.Γ=dg1Γ∧dg1.E=dg1E∧dg1.Pn=dg1P∧dg1.E2=dg1F∧dg1.fz=[]∧dg1.te=false∧dg1.bo=false∧dg1.pm=false:=⟨fun _=>rfl,rfl,rfl,rfl,rfl,rfl,rfl,rfl,rfl,rfl⟩
def dg1_S:=And.intro (And.intro @dgT.eq_1 (And.intro @dg1Γ.eq_1 (And.intro @dg1E.eq_1 (And.intro @dg1P.eq_1 (And.intro @dg1F.eq_1 (And.intro @conRor_eq (And.intro @conRotL_eq (And.intro @conWordR_eq (@conNumsR_eq))))))))) dg0_S
def conRot3:Con:=⟨fun args=>(match args with
 | [.s (.int .u32 x),.s (.int .i64 a),.s (.int .i64 b),.s (.int .i64 c)]=>in32 x∧(0<a∧a<32)∧(0<b∧b<32)∧0<c∧c<32
 | _=>False),fun args=>match args with
 | [.s (.int _ x),.s (.int _ a),.s (.int _ b),.s (.int _ c)]=>.v (.s (.int .u32 (rot3 x a b c)))
 | _=>.v (.s .any)⟩
theorem conRot3_eq (x:Int) (a:Int) (b:Int) (c:Int):conRot3.pre [.s (.int .u32 x),.s (.int .i64 a),.s (.int .i64 b),.s (.int .i64 c)]=(in32 x∧(0<a∧a<32)∧(0<b∧b<32)∧0<c∧c<32)∧conRot3.val [.s (.int .u32 x),.s (.int .i64 a),.s (.int .i64 b),.s (.int .i64 c)]=.v (.s (.int .u32 (rot3 x a b c))):=⟨rfl,rfl⟩
theorem rot3_ok:PureOk prog 147 conRot3:=by
 refine pureOkD (L:={ live:=[0,1,2,3,8] }) dg1_good rfl nr_mixed func147 rfl conRot3 4 (by decide) (by kernel_rfl) ?_
 intro args hpre hlens
 simp only [conRot3] at hpre
 split at hpre
 case h_2=>exact hpre.elim
 rename_i x a b c
 simp only [lenS] at hlens
 refine ⟨rfl,?_⟩
 simp -dsimp -implicitDefEqProofs [f147,conRot3_eq,conRotL_eq,xorI_def,Int.neg_neg,dg1_all,dg1_S,inI64]
 obtain ⟨hx,ha,hb,hc⟩:=hpre
 have r1:=ror_in hx a
 have r2:=ror_in hx b
 have r3:=ror_in hx c
 have r4:=xor_in r1 r2
 exact ⟨by omega,⟨hx,by omega,by omega⟩,by omega,⟨hx,by omega,by omega⟩,⟨r1.1,r1.2,r2.1,r2.2⟩,by omega,⟨hx,by omega,by omega⟩,⟨r4.1,r4.2,r3.1,r3.2⟩,rfl⟩
def S8.sv (s:S8):List SV:=[.int .u32 s.a,.int .u32 s.b,.int .u32 s.c,.int .u32 s.d,.int .u32 s.e,.int .u32 s.f,.int .u32 s.g,.int .u32 s.h]
theorem S8.sv_eq (s:S8):s.sv=[.int .u32 s.a,.int .u32 s.b,.int .u32 s.c,.int .u32 s.d,.int .u32 s.e,.int .u32 s.f,.int .u32 s.g,.int .u32 s.h]:=rfl
def zz (n:Nat):List Int:=List.replicate n 0
theorem zz_succ (n:Nat):zz (n+1)=0::zz n:=rfl
theorem zz_len (n:Nat):(zz n).length=n:=List.length_replicate
theorem zz_set {W:List Int} (v:Int) {n:Nat} (h:W.length<n):(W++zz (n - W.length)).set W.length v=W++[v]++zz (n - (W.length+1)):=by
 rw [show n - W.length=(n - (W.length+1))+1 by omega,zz_succ,List.set_append_right _ _ (Nat.le_refl _),Nat.sub_self,List.set_cons_zero,List.append_assoc]
 rfl
theorem zz_get {W:List Int} {n j:Nat} (h:j<W.length):(t32.flats (W++zz n))[j]?=some (.int .u32 (W.getD j 0)):=by
 rw [fl_get (by rw [List.length_append]; omega),List.getElem?_append_left h,List.getD_eq_getElem?_getD]
theorem fl_put {W:List Int} (v:Int) {n:Nat} (h:W.length<n):List.take W.length (t32.flats (W++zz (n - W.length)))++.int .u32 v::List.drop (W.length+1) (t32.flats (W++zz (n - W.length)))=t32.flats (W++[v]++zz (n - (W.length+1))):=by
 rw [fl_setk (by rw [List.length_append,zz_len]; omega),zz_set v h]
def conBlkR:Con:=⟨fun args=>(match args with
 | [.agg [.int .u32 a,.int .u32 b,.int .u32 c,.int .u32 d,.int .u32 e,.int .u32 f,.int .u32 g,.int .u32 h],.s (.sl (.int .u8) m _)]=>(S8.mk a b c d e f g h).ok∧(∀ x∈m,in8 x)∧m.length=64
 | _=>False),fun args=>match args with
 | [.agg [.int .u32 a,.int .u32 b,.int .u32 c,.int .u32 d,.int .u32 e,.int .u32 f,.int .u32 g,.int .u32 h],.s (.sl (.int .u8) m _)]=>.v (.agg (S8.sv (blkS ⟨a,b,c,d,e,f,g,h⟩ m)))
 | _=>.v (.s .any)⟩
theorem conBlkR_eq (a b c d e f g h:Int) (m:List (Ty.T (.int .u8))) (exm:Bool):conBlkR.pre [.agg [.int .u32 a,.int .u32 b,.int .u32 c,.int .u32 d,.int .u32 e,.int .u32 f,.int .u32 g,.int .u32 h],.s (.sl (.int .u8) m exm)]=((S8.mk a b c d e f g h).ok∧(∀ x∈m,in8 x)∧m.length=64)∧conBlkR.val [.agg [.int .u32 a,.int .u32 b,.int .u32 c,.int .u32 d,.int .u32 e,.int .u32 f,.int .u32 g,.int .u32 h],.s (.sl (.int .u8) m exm)]=.v (.agg (S8.sv (blkS ⟨a,b,c,d,e,f,g,h⟩ m))):=⟨rfl,rfl⟩
def kSV:List SV:=t32.flats kNum
theorem kSV_len:kSV.length=64:=rfl
theorem nums2:conNumsR.val []=.v (.agg kSV):=rfl
theorem kSV_get {i:Nat} (h:i<64):kSV[i]?=some (.int .u32 (kNum.getD i 0)):=by
 unfold kSV
 rw [fl_get (by rw [kNum_len]; exact h),List.getD_eq_getElem?_getD]
attribute [irreducible] kSV
theorem get_in32 {W:List Int} (h:∀ x∈W,in32 x) (i:Nat):in32 (W[i]?.getD 0):=by
 cases q:W[i]? with
 | none=>exact ⟨by decide,by decide⟩
 | some x=>exact h x (List.mem_of_getElem? q)
structure RS where
 (s:S8) (i:Nat)
theorem zip_drop {W:List Int} {i:Nat} (hW:W.length=64) (h:i<64):(kNum.zip W).drop i=(kNum.getD i 0,W.getD i 0)::(kNum.zip W).drop (i+1):=by
 have hk:i<(kNum.zip W).length:=by rw [List.length_zip,kNum_len,hW]; omega
 rw [List.drop_eq_getElem_cons hk,List.getElem_zip]
 congr 1
 rw [List.getD_eq_getElem?_getD,List.getD_eq_getElem?_getD,List.getElem?_eq_getElem (by rw [kNum_len]; exact h),List.getElem?_eq_getElem (by omega)]
 rfl
theorem blkr_ok:PureOk prog 135 conBlkR:=by
 refine pureOkD (L:={ live:=[0,1,2,4,5,6,7,8,9,10,11,12,13,14,15,16,17,18,19,20,21,24,38,96] }) dg1_good rfl nr_mixed func135 rfl conBlkR 2 (by decide) (by kernel_rfl) ?_
 intro args hpre hlens
 simp only [conBlkR] at hpre
 split at hpre
 case h_2=>exact hpre.elim
 rename_i a b c d e f g h m ex
 simp only [lenS] at hlens
 obtain ⟨hs,h8,hl⟩:=hpre
 refine ⟨rfl,?_⟩
 simp -dsimp -implicitDefEqProofs [f135,conBlkR_eq,xorI_def,w32_def,andI_def,dg1_all,dg1_S,inI64]
 refine WpD.loop (L:={ live:=[0,1,2,4,5,6,7,8,9,10,11,12,13,14,15,16,17,18,19,20,21,24,38,96] }) dg1_good X0_ok nr_mixed (by kernel_rfl)
  (fun i:Nat=>⟨[(1,vS t8 m ex),(2,⟨true,.v (.s (.box 0 0))⟩),(4,⟨true,.v (.s (.box 1 0))⟩),(5,⟨true,.v (.s (.box 2 0))⟩),(6,vI i)],[.cells [.int .u32 a,.int .u32 b,.int .u32 c,.int .u32 d,.int .u32 e,.int .u32 f,.int .u32 g,.int .u32 h],.cells [.int .u32 0,.int .u32 0,.int .u32 0,.int .u32 0,.int .u32 0,.int .u32 0,.int .u32 0,.int .u32 0],.cells (t32.flats (wrds m i++zz (64 - i)))]⟩)
  (fun i=>i≤16) (fun i=>16 - i) 0 (Nat.zero_le _) (Turn.le (by simp -dsimp -implicitDefEqProofs; rfl)) ?_
 intro i hi
 by_cases hil:i<16
 ·
  have hd:List.drop (4*(i:Int)).toNat (List.take (4*(i:Int)+4).toNat m)=(m.drop (4*i)).take 4:=by
   rw [show (4*(i:Int)).toNat=4*i by omega,show (4*(i:Int)+4).toNat=4*i+4 by omega,List.drop_take,show 4*i+4 - 4*i=4 by omega]
  have hf:=fl_put (W:=wrds m i) (n:=64) (wrd ((m.drop (4*i)).take 4)) (by rw [wrds_len]; omega)
  rw [wrds_len,wrd_take 4 (by omega),← wrds_succ] at hf
  simp -dsimp -implicitDefEqProofs [conWordR_eq,hd,zz_len,wrds_len,wrd_take 4 (Nat.le_refl 4),hf,dg1_all,dg1_S,inI64]
  exact ⟨fun _=>⟨⟨by omega,by omega⟩,⟨by omega,by omega⟩,⟨by omega,by omega,by omega⟩,⟨fun x hx=>h8 x (List.mem_of_mem_drop (List.mem_of_mem_take hx)),by omega⟩,by omega,by omega,⟨by omega,by omega⟩,i+1,by omega,by omega,TurnT.le (by simp -dsimp -implicitDefEqProofs)⟩,fun q=>by omega⟩
 ·
  obtain rfl:i=16:=by omega
  simp -dsimp -implicitDefEqProofs [conWordR_eq,dg1_all,dg1_S,inI64]
  refine WpD.loop (L:={ live:=[0,1,2,4,5,6,7,8,9,10,11,12,13,14,15,16,17,18,19,20,21,24,38,96] }) dg1_good X0_ok nr_mixed (by kernel_rfl)
   (fun W:List Int=>⟨[(2,⟨true,.v (.s (.box 0 0))⟩),(4,⟨true,.v (.s (.box 1 0))⟩),(5,⟨true,.v (.s (.box 2 0))⟩),(7,vI W.length)],[.cells [.int .u32 a,.int .u32 b,.int .u32 c,.int .u32 d,.int .u32 e,.int .u32 f,.int .u32 g,.int .u32 h],.cells [.int .u32 0,.int .u32 0,.int .u32 0,.int .u32 0,.int .u32 0,.int .u32 0,.int .u32 0,.int .u32 0],.cells (t32.flats (W++zz (64 - W.length)))]⟩)
   (fun W=>16≤W.length∧W.length≤64∧(∀ x∈W,in32 x)∧schW W (64 - W.length)=schB m) (fun W=>64 - W.length) (wrds m 16) ⟨by rw [wrds_len]; omega,by rw [wrds_len]; omega,wrds_in h8 16,by rw [wrds_len]; rfl⟩ (Turn.le (by simp -dsimp -implicitDefEqProofs [wrds_len])) ?_
  intro W hW
  obtain ⟨hw16,hw64,hwi,hsch⟩:=hW
  by_cases hwl:W.length<64
  ·
   have hx:∀ k:Nat,0<k→k≤16→(t32.flats (W++zz (64 - W.length)))[((W.length:Int) - (k:Int)).toNat]?=some (.int .u32 (W.getD (W.length - k) 0)):=fun k h1 h2=>by
    rw [show ((W.length:Int) - (k:Int)).toNat=W.length - k by omega]
    exact zz_get (by omega)
   have hx15:(t32.flats (W++zz (64 - W.length)))[((W.length:Int) - 15).toNat]?=some (.int .u32 (W.getD (W.length - 15) 0)):=hx 15 (by decide) (by decide)
   have hx2:(t32.flats (W++zz (64 - W.length)))[((W.length:Int) - 2).toNat]?=some (.int .u32 (W.getD (W.length - 2) 0)):=hx 2 (by decide) (by decide)
   have hx16:(t32.flats (W++zz (64 - W.length)))[((W.length:Int) - 16).toNat]?=some (.int .u32 (W.getD (W.length - 16) 0)):=hx 16 (by decide) (by decide)
   have hx7:(t32.flats (W++zz (64 - W.length)))[((W.length:Int) - 7).toNat]?=some (.int .u32 (W.getD (W.length - 7) 0)):=hx 7 (by decide) (by decide)
   clear hx
   have hf:=fl_put (W:=W) (n:=64) (nxtW W) hwl
   have hnx:w32 (w32 (w32 (W[W.length - 16]?.getD 0+xorI (xorI (rorI (W[W.length - 15]?.getD 0) 7) (rorI (W[W.length - 15]?.getD 0) 18)) ((W[W.length - 15]?.getD 0).fdiv 8))+W[W.length - 7]?.getD 0)+xorI (xorI (rorI (W[W.length - 2]?.getD 0) 17) (rorI (W[W.length - 2]?.getD 0) 19)) ((W[W.length - 2]?.getD 0).fdiv 1024))=nxtW W:=by
    unfold nxtW sgm
    simp only [List.getD_eq_getElem?_getD]
    rfl
   have q15:=get_in32 hwi (W.length - 15)
   have q2:=get_in32 hwi (W.length - 2)
   have r1:=ror_in q15 7
   have r2:=ror_in q15 18
   have r3:=ror_in q2 17
   have r4:=ror_in q2 19
   have x1:=xor_in r1 r2
   have x2:=xor_in r3 r4
   have s1:in32 ((W[W.length - 15]?.getD 0).fdiv 8):=shr_in q15 3
   have s2:in32 ((W[W.length - 2]?.getD 0).fdiv 1024):=shr_in q2 10
   rw [show 64 - W.length=(64 - (W.length+1))+1 by omega,schW] at hsch
   simp -dsimp -implicitDefEqProofs [conRor_eq,xorI_def,w32_def,zz_len,hx15,hx2,hx16,hx7,hnx,hf,dg1_all,dg1_S,inI64]
   refine ⟨fun _=>⟨⟨by omega,by omega⟩,⟨by omega,by omega⟩,by omega,⟨by omega,by omega⟩,⟨by omega,by omega⟩,by omega,⟨by omega,by omega⟩,⟨by omega,by omega⟩,by omega,q15,⟨r1.1,r1.2,r2.1,r2.2⟩,⟨x1.1,x1.2,s1.1,s1.2⟩,⟨by omega,by omega⟩,⟨by omega,by omega⟩,by omega,q2,⟨r3.1,r3.2,r4.1,r4.2⟩,by decide,⟨x2.1,x2.2,s2.1,s2.2⟩,by omega,by omega,⟨by omega,by omega⟩,W++[nxtW W],⟨by rw [List.length_append]; omega,by rw [List.length_append,List.length_singleton]; omega,fun x hx => ?_,by rw [List.length_append,List.length_singleton]; exact hsch⟩,by rw [List.length_append,List.length_singleton]; omega,TurnT.le (by simp -dsimp -implicitDefEqProofs)⟩,fun q=>by omega⟩
   rcases List.mem_append.1 hx with q | q
   ·
    exact hwi x q
   ·
    rw [List.mem_singleton.1 q]; exact w32_in _
  ·
   have hwe:W.length=64:=by omega
   have hWs:W=schB m:=by rw [← hsch,hwe]; rfl
   have hz:zz (64 - W.length)=[]:=by rw [hwe]; rfl
   simp -dsimp -implicitDefEqProofs [nums2,kSV_len,hwe,hz,show zz 0=[] from rfl,List.append_nil,dg1_all,dg1_S,inI64]
   refine WpD.loop (L:={ live:=[0,1,2,4,5,6,7,8,9,10,11,12,13,14,15,16,17,18,19,20,21,24,38,96] }) dg1_good X0_ok nr_mixed (by kernel_rfl)
    (fun q:RS=>⟨[(2,⟨true,.v (.s (.box 0 0))⟩),(4,⟨true,.v (.s (.box 1 0))⟩),(5,⟨true,.v (.s (.box 2 0))⟩),(10,⟨true,.v (.s (.box 3 0))⟩),(11,⟨true,.v (.s (.int .u32 q.s.a))⟩),(12,⟨true,.v (.s (.int .u32 q.s.b))⟩),(13,⟨true,.v (.s (.int .u32 q.s.c))⟩),(14,⟨true,.v (.s (.int .u32 q.s.d))⟩),(15,⟨true,.v (.s (.int .u32 q.s.e))⟩),(16,⟨true,.v (.s (.int .u32 q.s.f))⟩),(17,⟨true,.v (.s (.int .u32 q.s.g))⟩),(18,⟨true,.v (.s (.int .u32 q.s.h))⟩),(19,vI q.i)],[.cells [.int .u32 a,.int .u32 b,.int .u32 c,.int .u32 d,.int .u32 e,.int .u32 f,.int .u32 g,.int .u32 h],.cells [.int .u32 0,.int .u32 0,.int .u32 0,.int .u32 0,.int .u32 0,.int .u32 0,.int .u32 0,.int .u32 0],.cells (t32.flats W),.cells kSV]⟩)
    (fun q=>q.i≤64∧q.s.ok∧rnds q.s ((kNum.zip W).drop q.i)=rnds ⟨a,b,c,d,e,f,g,h⟩ (kNum.zip W)) (fun q=>64 - q.i) ⟨⟨a,b,c,d,e,f,g,h⟩,0⟩ ⟨Nat.zero_le _,hs,rfl⟩ (Turn.le (by simp -dsimp -implicitDefEqProofs)) ?_
   rintro ⟨v,i⟩ ⟨hi64,hv,hr⟩
   simp only at hi64 hv hr
   by_cases hil:i<64
   ·
    have hk:=kSV_get hil
    have hw:(t32.flats W)[i]?=some (.int .u32 (W.getD i 0)):=by rw [fl_get (by omega),List.getD_eq_getElem?_getD]
    rw [zip_drop hwe hil,rnds] at hr
    generalize kNum.getD i 0=kk at hk hr
    generalize W.getD i 0=ww at hw hr
    have ht1:w32 (w32 (w32 (w32 (v.h+xorI (xorI (rorI v.e 6) (rorI v.e 11)) (rorI v.e 25))+xorI (andI v.e v.f) (andI (4294967295 - v.e) v.g))+kk)+ww)=tt1 v kk ww:=rfl
    have ht2:w32 (xorI (xorI (rorI v.a 2) (rorI v.a 13)) (rorI v.a 22)+xorI (xorI (andI v.a v.b) (andI v.a v.c)) (andI v.b v.c))=tt2 v:=rfl
    have hv':=hv
    obtain ⟨va,vb,vc,vd,ve,vf,vg,vh⟩:=hv'
    have p1:=ror_in ve 6
    have p2:=ror_in ve 11
    have p3:=ror_in ve 25
    have x1:=xor_in p1 p2
    have a1:=and_in (a:=v.e) vf
    have a2:=and_in (a:=4294967295 - v.e) vg
    have o1:=ror_in va 2
    have o2:=ror_in va 13
    have o3:=ror_in va 22
    have y1:=xor_in o1 o2
    have b1:=and_in (a:=v.a) vb
    have b2:=and_in (a:=v.a) vc
    have b3:=and_in (a:=v.b) vc
    have z1:=xor_in b1 b2
    simp -dsimp -implicitDefEqProofs [conRor_eq,xorI_def,w32_def,andI_def,kSV_len,hk,hw,hwe,ht1,ht2,dg1_all,dg1_S,inI64]
    exact ⟨fun _=>⟨ve,⟨p1.1,p1.2,p2.1,p2.2⟩,ve,⟨x1.1,x1.2,p3.1,p3.2⟩,⟨ve.1,ve.2,vf.1,vf.2⟩,⟨ve.1,ve.2⟩,⟨by have:=ve.2; omega,by have:=ve.1; omega,vg.1,vg.2⟩,⟨a1.1,a1.2,a2.1,a2.2⟩,by omega,hil,by omega,hil,va,⟨o1.1,o1.2,o2.1,o2.2⟩,va,⟨y1.1,y1.2,o3.1,o3.2⟩,⟨va.1,va.2,vb.1,vb.2⟩,⟨va.1,va.2,vc.1,vc.2⟩,⟨b1.1,b1.2,b2.1,b2.2⟩,⟨vb.1,vb.2,vc.1,vc.2⟩,⟨z1.1,z1.2,b3.1,b3.2⟩,⟨by omega,by omega⟩,⟨rnd v kk ww,i+1⟩,⟨by show i+1≤64; omega,rnd_ok hv _ _,hr⟩,by show 64 - (i+1)<_; omega,TurnT.le (by simp -dsimp -implicitDefEqProofs [rnd])⟩,fun q=>by omega⟩
   ·
    obtain rfl:i=64:=by omega
    simp -dsimp -implicitDefEqProofs [conBlkR_eq,w32_def,dg1_all,dg1_S,inI64]
    rw [List.drop_eq_nil_of_le (by rw [List.length_zip,kNum_len,hwe]; decide),rnds] at hr
    rw [blkS,← hWs,← hr]
    rfl
def dg2Γ:List (FuncId×Con):=(135,conBlkR)::(147,conRot3)::dg1Γ
theorem dg2Γ_ok:OkΓ dg2Γ:=by
 simp only [OkΓ,dg2Γ,List.forall_mem_cons]
 exact ⟨⟨enters_of func135 (by kernel_rfl) rfl,blkr_ok⟩,⟨enters_of func147 (by kernel_rfl) rfl,rot3_ok⟩,dg1Γ_ok⟩
def dg2E:=dg1E
theorem dg2E_ok:OkE dg2E:=dg1E_ok
def dg2P:=dg1P
theorem dg2P_ok:OkP dg2P:=dg1P_ok
def dg2F:=dg1F
theorem dg2F_ok:OkF dg2F:=dg1F_ok
def dg2_S:=And.intro (And.intro @dgT.eq_1 (And.intro @dg2Γ.eq_1 (And.intro @dg2E.eq_1 (And.intro @dg2P.eq_1 (And.intro @dg2F.eq_1 (And.intro @conBlkR_eq (@conRot3_eq))))))) dg1_S
theorem byt_len (n:Nat) (v:Int):(bytB n v).length=n:=by simp [bytB]
theorem byt_snoc {n k:Nat} {v:Int} (h:k<n):(bytB n v).take (k+1)=(bytB n v).take k++[(v.fdiv (2 ^ (8*(n - 1 - k)))) % 256]:=by
 have hk:k<(bytB n v).length:=by rw [byt_len]; exact h
 rw [List.take_succ_eq_append_getElem hk]
 congr 2
 simp [bytB]
def conPadR:Con:=⟨fun args=>(match args with
 | [.s (.sl (.int .u8) m _)]=>(∀ x∈m,in8 x)∧m.length≤1000000000
 | _=>False),fun args=>match args with
 | [.s (.sl (.int .u8) m _)]=>.v (aS t8 (shPad m) false)
 | _=>.v (.s .any)⟩
theorem conPadR_eq (m:List (Ty.T (.int .u8))) (exm:Bool):conPadR.pre [.s (.sl (.int .u8) m exm)]=((∀ x∈m,in8 x)∧m.length≤1000000000)∧conPadR.val [.s (.sl (.int .u8) m exm)]=.v (aS t8 (shPad m) false):=⟨rfl,rfl⟩
theorem padr_ok:PureOk prog 134 conPadR:=by
 refine pureOkD (L:={ live:=[0,2,3,4,5,14,23] }) dg1_good rfl nr_mixed func134 rfl conPadR 1 (by decide) (by kernel_rfl) ?_
 intro args hpre hlens
 simp only [conPadR] at hpre
 split at hpre
 case h_2=>exact hpre.elim
 rename_i m ex
 simp only [lenS] at hlens
 obtain ⟨h8,hl⟩:=hpre
 refine ⟨rfl,?_⟩
 simp -dsimp -implicitDefEqProofs [f134,conPadR_eq,dg1_all,dg1_S,inI64]
 have hm:3000000000≤maxLen:=by simp only [maxLen]; omega
 refine ⟨⟨by omega,by omega⟩,⟨by omega,by omega⟩,?_⟩
 have hZ:shZ m.length<64:=by unfold shZ; omega
 refine WpD.loop (L:={ live:=[0,2,3,4,5,14,23] }) dg1_good X0_ok nr_mixed (by kernel_rfl)
  (fun n:Nat=>⟨[(0,vS t8 m ex),(3,⟨true,.v (.s (.own t8 0 (m.length+1+n)))⟩)],[.arr true (t8.flats (m++128::zz n))]⟩)
  (fun n=>n≤shZ m.length) (fun n=>shZ m.length - n) 0 (Nat.zero_le _) (Turn.le (by simp -dsimp -implicitDefEqProofs [zz])) ?_
 intro n hn
 have ht:((m.length:Int)+1+(n:Int)).tmod 64=(((m.length+1+n) % 64:Nat):Int):=by
  rw [Int.tmod_eq_emod_of_nonneg (by omega)]; omega
 have hsn:zz n++[0]=zz (n+1):=by rw [show zz (n+1)=zz n++[0] from List.replicate_succ']
 by_cases hnz:n<shZ m.length
 ·
  have h56:((m.length:Int)+1+(n:Int)) % 64≠56:=by unfold shZ at hnz; omega
  simp -dsimp -implicitDefEqProofs [ht,hsn,zz_len,dg1_all,dg1_S,inI64]
  exact ⟨by omega,fun _=>⟨⟨by omega,by omega,by omega⟩,n+1,by omega,by omega,TurnT.le (by simp -dsimp -implicitDefEqProofs [Nat.add_assoc])⟩,fun q=>absurd q h56⟩
 ·
  obtain rfl:n=shZ m.length:=by omega
  have h56:(m.length+1+shZ m.length) % 64=56:=by unfold shZ; omega
  have wm:∀ x,IntKind.u64.wrap x=x % 18446744073709551616:=fun x=>rfl
  simp -dsimp -implicitDefEqProofs [ht,h56,zz_len,dg1_all,dg1_S,inI64]
  refine ⟨by omega,?_⟩
  rw [wm,wm,show (m.length:Int) % 18446744073709551616*8 % 18446744073709551616=(m.length:Int)*8 by omega]
  refine WpD.loop (L:={ live:=[0,2,3,4,5,14,23] }) dg1_good X0_ok nr_mixed (by kernel_rfl)
   (fun k:Nat=>⟨[(3,⟨true,.v (.s (.own t8 0 (m.length+1+shZ m.length+k)))⟩),(4,⟨true,.v (.s (.int .u64 ((m.length:Int)*8)))⟩),(5,vI (7 - (k:Int)))],[.arr true (t8.flats (m++128::(zz (shZ m.length)++(bytB 8 ((m.length:Int)*8)).take k)))]⟩)
   (fun k=>k≤8) (fun k=>8 - k) 0 (Nat.zero_le _) (Turn.le (by simp -dsimp -implicitDefEqProofs)) ?_
  intro k hk
  have w8:∀ x,IntKind.u8.wrap x=x % 256:=fun x=>rfl
  by_cases hk8:k<8
  ·
   have hb:(bytB 8 ((m.length:Int)*8)).take k++[((m.length:Int)*8).fdiv (2 ^ (8*(7 - k))) % 256]=(bytB 8 ((m.length:Int)*8)).take (k+1):=(byt_snoc (v:=(m.length:Int)*8) hk8).symm
   have e8:(8*(7 - (k:Int))).toNat=8*(7 - k):=by omega
   have eb:((IntKind.u64.bits:Nat):Int)=64:=rfl
   simp -dsimp -implicitDefEqProofs [e8,zz_len,byt_len,w8,hb,eb,dg1_all,dg1_S,inI64]
   exact ⟨fun _=>⟨⟨by omega,by omega⟩,⟨by omega,by omega,by omega⟩,⟨by omega,by omega,by omega⟩,⟨by omega,by omega⟩,k+1,by omega,by omega,TurnT.le (by simp -dsimp -implicitDefEqProofs [Nat.add_assoc]; omega)⟩,fun q=>by omega⟩
  ·
   have hk9:k=8:=by omega
   have hta:(bytB 8 ((m.length:Int)*8)).take k=bytB 8 ((m.length:Int)*8):=List.take_of_length_le (by rw [byt_len]; omega)
   rw [hta]
   simp -dsimp -implicitDefEqProofs [conPadR_eq,zz_len,byt_len,dg1_all,dg1_S,inI64]
   refine ⟨fun q=>by omega,fun _ => ?_⟩
   rw [if_pos (by omega),parses_flats' (by simp [zz_len,byt_len]; omega)]
   refine ⟨_,rfl,?_⟩
   unfold shPad zz
   simp
def dg3Γ:List (FuncId×Con):=(134,conPadR)::dg2Γ
theorem dg3Γ_ok:OkΓ dg3Γ:=by
 simp only [OkΓ,dg3Γ,List.forall_mem_cons]
 exact ⟨⟨enters_of func134 (by kernel_rfl) rfl,padr_ok⟩,dg2Γ_ok⟩
def dg3E:=dg2E
theorem dg3E_ok:OkE dg3E:=dg2E_ok
def dg3P:=dg2P
theorem dg3P_ok:OkP dg3P:=dg2P_ok
def dg3F:=dg2F
theorem dg3F_ok:OkF dg3F:=dg2F_ok
def dg3:G:={ τ:=dgT,Γ:=dg3Γ,E:=dg3E,Pn:=dg3P,E2:=dg3F }
theorem dg3_good:dg3.good prog:=good_of_all (dgT_ok _ rfl) dg3Γ_ok dg3E_ok dg3P_ok dg3F_ok
theorem dg3_all:(∀ t,dg3.td t=(look dgT t).getD .other)∧dg3.y=false∧dg3.Γ=dg3Γ∧dg3.E=dg3E∧dg3.Pn=dg3P∧dg3.E2=dg3F∧dg3.fz=[]∧dg3.te=false∧dg3.bo=false∧dg3.pm=false:=⟨fun _=>rfl,rfl,rfl,rfl,rfl,rfl,rfl,rfl,rfl,rfl⟩
def dg3_S:=And.intro (And.intro @dgT.eq_1 (And.intro @dg3Γ.eq_1 (And.intro @dg3E.eq_1 (And.intro @dg3P.eq_1 (And.intro @dg3F.eq_1 (@conPadR_eq)))))) dg2_S
theorem pad_len (m:List Int):(shPad m).length % 64=0∧m.length+9≤(shPad m).length∧(shPad m).length≤m.length+72:=by
 unfold shPad shZ
 simp only [List.length_append,List.length_replicate,byt_len,List.length_singleton]
 omega
theorem pad_in8 {m:List Int} (h:∀ x∈m,in8 x):∀ x∈shPad m,in8 x:=by
 intro x hx
 unfold shPad at hx
 simp only [List.mem_append,List.mem_singleton,List.mem_replicate,bytB,List.mem_map] at hx
 rcases hx with (q | rfl | ⟨_,rfl⟩) | ⟨i,_,rfl⟩
 ·
  exact h x q
 ·
  exact ⟨by decide,by decide⟩
 ·
  exact ⟨by decide,by decide⟩
 ·
  unfold in8; omega
theorem out_get (s:S8) {k:Nat} (h:k<32):(outB s)[k]?=some ((s.list.getD (k / 4) 0).fdiv (2 ^ (8*(3 - k % 4))) % 256):=by
 rcases (by omega:k=0∨k=1∨k=2∨k=3∨k=4∨k=5∨k=6∨k=7∨k=8∨k=9∨k=10∨k=11∨k=12∨k=13∨k=14∨k=15∨k=16∨k=17∨k=18∨k=19∨k=20∨k=21∨k=22∨k=23∨k=24∨k=25∨k=26∨k=27∨k=28∨k=29∨k=30∨k=31) with rfl | rfl | rfl | rfl | rfl | rfl | rfl | rfl | rfl | rfl | rfl | rfl | rfl | rfl | rfl | rfl | rfl | rfl | rfl | rfl | rfl | rfl | rfl | rfl | rfl | rfl | rfl | rfl | rfl | rfl | rfl | rfl <;> rfl
theorem out_len (s:S8):(outB s).length=32:=rfl
theorem out_snoc (s:S8) {k:Nat} (h:k<32):(outB s).take (k+1)=(outB s).take k++[(s.list.getD (k / 4) 0).fdiv (2 ^ (8*(3 - k % 4))) % 256]:=by
 have hk:k<(outB s).length:=by rw [out_len]; exact h
 rw [List.take_succ_eq_append_getElem hk]
 have:=out_get s h
 rw [List.getElem?_eq_getElem hk] at this
 injection this with this
 rw [this]
theorem fl_put8 {W:List Int} (v:Int) {n:Nat} (h:W.length<n):List.take W.length (t8.flats (W++zz (n - W.length)))++.int .u8 v::List.drop (W.length+1) (t8.flats (W++zz (n - W.length)))=t8.flats (W++[v]++zz (n - (W.length+1))):=by
 rw [fl_setk (by rw [List.length_append,zz_len]; omega),zz_set v h]
theorem frzL_int {hp:List Blk} {kd:IntKind}:∀ xs:List Int,frzL hp ((Ty.int kd).flats xs)=some ((Ty.int kd).flats xs)
 | []=>rfl
 | x::xs=>by
  rw [show (Ty.int kd).flats (x::xs)=.int kd x::(Ty.int kd).flats xs from rfl,frzL,frzL_int xs]
  rfl
def conSumR:Con:=⟨fun args=>(match args with
 | [.s (.sl (.int .u8) m _)]=>(∀ x∈m,in8 x)∧m.length≤1000000000
 | _=>False),fun args=>match args with
 | [.s (.sl (.int .u8) m _)]=>.v (.agg (t8.flats (shaSum m)))
 | _=>.v (.s .any)⟩
theorem conSumR_eq (m:List (Ty.T (.int .u8))) (exm:Bool):conSumR.pre [.s (.sl (.int .u8) m exm)]=((∀ x∈m,in8 x)∧m.length≤1000000000)∧conSumR.val [.s (.sl (.int .u8) m exm)]=.v (.agg (t8.flats (shaSum m))):=⟨rfl,rfl⟩
theorem sumr_ok:PureOk prog 87 conSumR:=by
 refine pureOkD (L:={ live:=[0,2,3,4,5,6,7,14,26] }) dg3_good rfl nr_mixed func87 rfl conSumR 1 (by decide) (by kernel_rfl) ?_
 intro args hpre hlens
 simp only [conSumR] at hpre
 split at hpre
 case h_2=>exact hpre.elim
 rename_i m ex
 simp only [lenS] at hlens
 obtain ⟨h8,hl⟩:=hpre
 refine ⟨rfl,?_⟩
 simp -dsimp -implicitDefEqProofs [f87,conSumR_eq,dg3_all,dg3_S,inI64]
 obtain ⟨p1,p2,p3⟩:=pad_len m
 have hp8:=pad_in8 h8
 have hsum:shaSum m=outB (shaL s0 (shPad m)):=rfl
 generalize shPad m=P at p1 p2 p3 hp8 hsum ⊢
 refine ⟨⟨h8,hl⟩,?_⟩
 refine WpD.loop (L:={ live:=[0,2,3,4,5,6,7,14,26] }) dg3_good X0_ok nr_mixed (by kernel_rfl)
  (fun q:RS=>⟨[(2,⟨true,.v (.s (.box 0 0))⟩),(3,⟨true,.v (.s (.box 1 0))⟩),(4,vS t8 P false),(5,vI q.i)],[.cells [.int .u8 0,.int .u8 0,.int .u8 0,.int .u8 0,.int .u8 0,.int .u8 0,.int .u8 0,.int .u8 0,.int .u8 0,.int .u8 0,.int .u8 0,.int .u8 0,.int .u8 0,.int .u8 0,.int .u8 0,.int .u8 0,.int .u8 0,.int .u8 0,.int .u8 0,.int .u8 0,.int .u8 0,.int .u8 0,.int .u8 0,.int .u8 0,.int .u8 0,.int .u8 0,.int .u8 0,.int .u8 0,.int .u8 0,.int .u8 0,.int .u8 0,.int .u8 0],.cells [.int .u32 q.s.a,.int .u32 q.s.b,.int .u32 q.s.c,.int .u32 q.s.d,.int .u32 q.s.e,.int .u32 q.s.f,.int .u32 q.s.g,.int .u32 q.s.h]]⟩)
  (fun q=>q.i≤P.length∧q.i % 64=0∧q.s.ok∧shaL q.s (P.drop q.i)=shaL s0 P) (fun q=>P.length - q.i) ⟨s0,0⟩ ⟨Nat.zero_le _,rfl,s0_ok,rfl⟩ (Turn.le (by simp -dsimp -implicitDefEqProofs [s0])) ?_
 rintro ⟨v,i⟩ ⟨hi,hi64,hv,hsha⟩
 simp only at hi hi64 hv hsha
 by_cases hil:i<P.length
 ·
  have hd:List.drop (i:Int).toNat (List.take ((i:Int)+64).toNat P)=(P.drop i).take 64:=by
   rw [show ((i:Int)+64).toNat=i+64 by omega,Int.toNat_natCast,List.drop_take,show i+64 - i=64 by omega]
  have hd2:List.drop i (List.take ((i:Int)+64).toNat P)=(P.drop i).take 64:=hd
  rw [shaL_step (by rw [List.length_drop]; omega),List.drop_drop] at hsha
  have hbl:blkS ⟨v.a,v.b,v.c,v.d,v.e,v.f,v.g,v.h⟩ ((P.drop i).take 64)=blkS v (P.drop i):=blkS_take v _
  have hok:=blkS_ok v (P.drop i)
  generalize blkS v (P.drop i)=u at hsha hbl hok
  have hP8:∀ x∈(P.drop i).take 64,in8 x:=fun x hx=>hp8 x (List.mem_of_mem_drop (List.mem_of_mem_take hx))
  have hPl:((P.drop i).take 64).length=64:=by rw [List.length_take,List.length_drop]; omega
  simp -dsimp -implicitDefEqProofs [conBlkR_eq,hd,hd2,hbl,S8.sv_eq,dg3_all,dg3_S,inI64]
  exact ⟨fun _=>⟨⟨by omega,by omega⟩,⟨by omega,by omega⟩,⟨hv,hP8,by omega⟩,⟨by omega,by omega⟩,⟨u,i+64⟩,⟨by show i+64≤_; omega,by show (i+64) % 64=0; omega,hok,hsha⟩,by show P.length - (i+64)<_; omega,TurnT.le (by simp -dsimp -implicitDefEqProofs)⟩,fun q=>by omega⟩
 ·
  obtain rfl:i=P.length:=by omega
  rw [List.drop_length,shaL_short (by decide)] at hsha
  rw [← hsha] at hsum
  simp -dsimp -implicitDefEqProofs [conBlkR_eq,dg3_all,dg3_S,inI64]
  refine WpD.loop (L:={ live:=[0,2,3,4,5,6,7,14,26] }) dg3_good X0_ok nr_mixed (by kernel_rfl)
   (fun k:Nat=>⟨[(2,⟨true,.v (.s (.box 0 0))⟩),(3,⟨true,.v (.s (.box 1 0))⟩),(6,⟨true,.v (.s (.box 2 0))⟩),(7,vI k)],[.cells [.int .u8 0,.int .u8 0,.int .u8 0,.int .u8 0,.int .u8 0,.int .u8 0,.int .u8 0,.int .u8 0,.int .u8 0,.int .u8 0,.int .u8 0,.int .u8 0,.int .u8 0,.int .u8 0,.int .u8 0,.int .u8 0,.int .u8 0,.int .u8 0,.int .u8 0,.int .u8 0,.int .u8 0,.int .u8 0,.int .u8 0,.int .u8 0,.int .u8 0,.int .u8 0,.int .u8 0,.int .u8 0,.int .u8 0,.int .u8 0,.int .u8 0,.int .u8 0],.cells (t32.flats v.list),.cells (t8.flats ((outB v).take k++zz (32 - k)))]⟩)
   (fun k=>k≤32) (fun k=>32 - k) 0 (Nat.zero_le _) (Turn.le (by simp -dsimp -implicitDefEqProofs; exact ⟨rfl,rfl⟩)) ?_
  intro k hk
  have w8:∀ x,IntKind.u8.wrap x=x % 256:=fun x=>rfl
  have eb:((IntKind.u32.bits:Nat):Int)=32:=rfl
  by_cases hk32:k<32
  ·
   have hx:(t32.flats v.list)[((k:Int) / 4).toNat]?=some (.int .u32 (v.list.getD (k / 4) 0)):=by rw [show ((k:Int) / 4).toNat=k / 4 by omega,fl_get (by show _<8; omega),List.getD_eq_getElem?_getD]
   have hlen:((outB v).take k).length=k:=by rw [List.length_take,out_len]; omega
   have hf:=fl_put8 (W:=(outB v).take k) (n:=32) ((v.list.getD (k / 4) 0).fdiv (2 ^ (8*(3 - k % 4))) % 256) (by rw [hlen]; omega)
   rw [hlen,← out_snoc v hk32] at hf
   generalize v.list.getD (k / 4) 0=wd at hx hf
   have e1:(k:Int).tdiv 4=((k / 4:Nat):Int):=by rw [Int.tdiv_eq_ediv_of_nonneg (by omega)]; omega
   have e2:(k:Int).tmod 4=((k % 4:Nat):Int):=by rw [Int.tmod_eq_emod_of_nonneg (by omega)]; omega
   have e3:(24 - 8*((k:Int) % 4)).toNat=8*(3 - k % 4):=by omega
   have vl:v.list.length=8:=rfl
   simp -dsimp -implicitDefEqProofs [w8,eb,hx,e1,e2,e3,vl,zz_len,out_len,hf,dg3_all,dg3_S,inI64]
   exact ⟨fun _=>⟨⟨by omega,by omega⟩,⟨by omega,by omega⟩,by omega,⟨by omega,by omega⟩,⟨by omega,by omega⟩,⟨by omega,by omega,by omega⟩,by omega,by omega,⟨by omega,by omega⟩,k+1,by omega,by omega,TurnT.le (by simp -dsimp -implicitDefEqProofs)⟩,fun q=>by omega⟩
  ·
   have hk9:k=32:=by omega
   have hta:(outB v).take k=outB v:=List.take_of_length_le (by rw [out_len]; omega)
   have hz:zz (32 - k)=[]:=by rw [hk9]; rfl
   rw [hta,hz,List.append_nil]
   have hol:=out_len v
   rw [hk9]
   generalize outB v=O at hol hsum
   have hfl:(t8.flats O).length=32:=by rw [flats_length,hol]; rfl
   have hft:List.take 32 (t8.flats O)=t8.flats O:=List.take_of_length_le (by omega)
   simp -dsimp -implicitDefEqProofs [conSumR_eq,hsum,hol,hft,frzL_int O,dg3_all,dg3_S,inI64]
   done
def dg4Γ:List (FuncId×Con):=(87,conSumR)::dg3Γ
theorem dg4Γ_ok:OkΓ dg4Γ:=by
 simp only [OkΓ,dg4Γ,List.forall_mem_cons]
 exact ⟨⟨enters_of func87 (by kernel_rfl) rfl,sumr_ok⟩,dg3Γ_ok⟩
def dg4E:=dg3E
theorem dg4E_ok:OkE dg4E:=dg3E_ok
def dg4P:=dg3P
theorem dg4P_ok:OkP dg4P:=dg3P_ok
def dg4F:=dg3F
theorem dg4F_ok:OkF dg4F:=dg3F_ok
def dg4_S:=And.intro (And.intro @dgT.eq_1 (And.intro @dg4Γ.eq_1 (And.intro @dg4E.eq_1 (And.intro @dg4P.eq_1 (And.intro @dg4F.eq_1 (@conSumR_eq)))))) dg3_S
def dg4zΓ:=dg4Γ
theorem dg4zΓ_ok:OkΓ dg4zΓ:=dg4Γ_ok
def dg4zE:=dg4E
theorem dg4zE_ok:OkE dg4zE:=dg4E_ok
def dg4zP:=dg4P
theorem dg4zP_ok:OkP dg4zP:=dg4P_ok
def dg4zF:=dg4F
theorem dg4zF_ok:OkF dg4zF:=dg4F_ok
def dg4z:G:={ τ:=dgT,Γ:=dg4zΓ,E:=dg4zE,Pn:=dg4zP,E2:=dg4zF,fz:=[11] }
theorem dg4z_good:dg4z.good prog:=good_of_all (dgT_ok _ rfl) dg4zΓ_ok dg4zE_ok dg4zP_ok dg4zF_ok
theorem dg4z_all:(∀ t,dg4z.td t=(look dgT t).getD .other)∧dg4z.y=false∧dg4z.Γ=dg4zΓ∧dg4z.E=dg4zE∧dg4z.Pn=dg4zP∧dg4z.E2=dg4zF∧dg4z.fz=[11]∧dg4z.te=false∧dg4z.bo=false∧dg4z.pm=false:=⟨fun _=>rfl,rfl,rfl,rfl,rfl,rfl,rfl,rfl,rfl,rfl⟩
def dg4z_S:=And.intro (And.intro @dgT.eq_1 (And.intro @dg4zΓ.eq_1 (And.intro @dg4zE.eq_1 (And.intro @dg4zP.eq_1 (@dg4zF.eq_1))))) dg4_S
def tagL (s:ByteArray) (m:List Int):List Int:=shaSum (shaSum (strL s)++m)
theorem sha_len (m:List Int):(shaSum m).length=32:=out_len _
theorem sha_in8 (m:List Int):∀ x∈shaSum m,in8 x:=by
 intro x hx
 unfold shaSum outB at hx
 simp only [List.mem_flatMap,bytB,List.mem_map] at hx
 obtain ⟨_,_,i,_,rfl⟩:=hx
 unfold in8; omega
theorem strL_in8 (s:ByteArray):∀ x∈strL s,in8 x:=by
 intro x hx
 simp only [strL,List.mem_map] at hx
 obtain ⟨b,_,rfl⟩:=hx
 have:=b.toNat_lt
 unfold in8; omega
theorem sigs_ints {k:IntKind}:∀ xs:List Int,sigs ((Ty.int k).flats xs)=some ⟨Ty.reps xs.length (.int k),Ty.repsV xs.length (.int k) xs⟩
 | []=>rfl
 | x::xs=>by
  rw [show (Ty.int k).flats (x::xs)=.int k x::(Ty.int k).flats xs from rfl,sigs_eqs.2.1,sigs_ints xs,sigC_some]
  rfl
theorem flat_repsV {k:IntKind}:∀ xs:List Int,(Ty.reps xs.length (.int k)).flat (Ty.repsV xs.length (.int k) xs)=(Ty.int k).flats xs
 | []=>rfl
 | x::xs=>by
  show SV.int k x::(Ty.reps xs.length (.int k)).flat (Ty.repsV xs.length (.int k) xs)=.int k x::(Ty.int k).flats xs
  rw [flat_repsV xs]
theorem take_sha (z:List Int):List.take 32 (t8.flats (shaSum z))=t8.flats (shaSum z):=List.take_of_length_le (by rw [flats_length,sha_len]; decide)
def conTagR:Con:=⟨fun args=>(match args with
 | [.s (.str s),.s (.sl (.int .u8) m _)]=>s.size≤1000000000∧(∀ x∈m,in8 x)∧m.length≤900000000
 | _=>False),fun args=>match args with
 | [.s (.str s),.s (.sl (.int .u8) m _)]=>.v (.agg (t8.flats (tagL s m)))
 | _=>.v (.s .any)⟩
theorem conTagR_eq (s:ByteArray) (m:List (Ty.T (.int .u8))) (exm:Bool):conTagR.pre [.s (.str s),.s (.sl (.int .u8) m exm)]=(s.size≤1000000000∧(∀ x∈m,in8 x)∧m.length≤900000000)∧conTagR.val [.s (.str s),.s (.sl (.int .u8) m exm)]=.v (.agg (t8.flats (tagL s m))):=⟨rfl,rfl⟩
theorem tagr_ok:PureOk prog 50 conTagR:=by
 refine pureOkD (L:={ live:=[0,1,4,5],eps:=[(2,[5])] }) dg4z_good rfl nr_mixed func50 rfl conTagR 2 (by decide) (by kernel_rfl) ?_
 intro args hpre hlens
 simp only [conTagR] at hpre
 split at hpre
 case h_2=>exact hpre.elim
 rename_i s m ex
 simp only [lenS] at hlens
 obtain ⟨hs,h8,hl⟩:=hpre; obtain ⟨x,y,O,hO⟩:∃ x y O,x::y::O=shaSum (strL s):=⟨_,_,_,rfl⟩; have hol:O.length=30:=by (have:=sha_len (strL s); rw [← hO] at this; simp only [List.length_cons] at this; omega)
 have ho8:∀ z∈x::y::O,in8 z:=hO▸sha_in8 _; have hsl:=strL_length s; have hfl:(t8.flats O).length=30:=by rw [flats_length,hol]; rfl
 have hft:List.take 30 (t8.flats O)=t8.flats O:=List.take_of_length_le (by omega)
 have hp32:t8.parses 32 (.int .u8 x::.int .u8 y::t8.flats O)=some (x::y::O):=parses_flats' (t:=t8) (xs:=x::y::O) (by simp [hol])
 have hf2:t8.flats (x::y::O)=.int .u8 x::.int .u8 y::t8.flats O:=rfl
 have hp0:t8.parses 0 []=some []:=rfl
 have htO:List.take 30 O=O:=List.take_of_length_le (by omega)
 have hun:t8.unfl (32+m.length) (.int .u8 x::.int .u8 y::t8.flats (O++m))=some (x::y::(O++m)):=unfl_flats (t:=t8) (xs:=x::y::(O++m)) (by simp [hol]; omega)
 have hf3:t8.flats (x::y::(O++m))=.int .u8 x::.int .u8 y::t8.flats (O++m):=rfl
 have hfe:t8.flats []=[]:=rfl
 refine ⟨rfl,?_⟩
 simp -dsimp -implicitDefEqProofs [f50,conTagR_eq,conSumR_eq,strL_length,← hO,hol,hft,hp32,hf2,hp0,htO,hun,sha_len,take_sha,frzL_int,hf3,hfe,List.nil_append,hol,-Ty.parses,-sigs,sigs_eqs,sigC_some,sigs_ints,flat_repsV,dg4z_all,dg4z_S,inI64]
 have hm:3000000000≤maxLen:=by simp only [maxLen]; omega
 refine ⟨by omega,⟨strL_in8 s,hs⟩,by omega,⟨⟨by omega,by omega⟩,by omega⟩,⟨⟨ho8 x (by simp),ho8 y (by simp),fun a ha=>ha.elim (fun q=>ho8 a (by simp [q])) (h8 a)⟩,by omega⟩,?_⟩
 unfold tagL
 rw [← hO]
 rfl
def putL (L:List Int) (off n:Nat) (v:Int) (i:Nat):List Int:=L.take (off+n - i)++(bytB n v).drop (n - i)++L.drop (off+n)
theorem putL_0 {L:List Int} {off n:Nat} {v:Int}:putL L off n v 0=L:=by
 unfold putL
 rw [Nat.sub_zero,Nat.sub_zero,List.drop_eq_nil_of_le (by rw [byt_len]; omega),List.append_nil,List.take_append_drop]
theorem putL_len {L:List Int} {off n i:Nat} {v:Int} (hi:i≤n) (h:off+n≤L.length):(putL L off n v i).length=L.length:=by
 unfold putL
 simp only [List.length_append,List.length_take,List.length_drop,byt_len]
 omega
theorem putL_set {L:List Int} {off n i:Nat} {v:Int} (hi:i<n) (h:off+n≤L.length):(putL L off n v i).set (off+(n - 1 - i)) ((v.fdiv (2 ^ (8*i))) % 256)=putL L off n v (i+1):=by
 unfold putL
 have hk:n - (i+1)<(bytB n v).length:=by rw [byt_len]; omega
 rw [List.drop_eq_getElem_cons hk,show n - (i+1)+1=n - i by omega]
 have hb:(bytB n v)[n - (i+1)]=(v.fdiv (2 ^ (8*i))) % 256:=by
  simp only [bytB,List.getElem_map,List.getElem_range]
  rw [show n - 1 - (n - (i+1))=i by omega]
 rw [hb]
 have ht:L.take (off+n - i)=L.take (off+n - (i+1))++[L[off+n - (i+1)]'(by omega)]:=by
  rw [show off+n - i=(off+n - (i+1))+1 by omega,List.take_succ_eq_append_getElem (by omega)]
 rw [ht,List.append_assoc,List.append_assoc]
 have hl:(L.take (off+n - (i+1))).length=off+(n - 1 - i):=by rw [List.length_take]; omega
 rw [← hl,List.set_append_right _ _ (Nat.le_refl _),Nat.sub_self]
 simp
def dg5Γ:List (FuncId×Con):=(147,conRot3)::dg1Γ
theorem dg5Γ_ok:OkΓ dg5Γ:=by
 simp only [OkΓ,dg5Γ,List.forall_mem_cons]
 exact ⟨⟨enters_of func147 (by kernel_rfl) rfl,rot3_ok⟩,dg1Γ_ok⟩
def dg5E:=dg1E
theorem dg5E_ok:OkE dg5E:=dg1E_ok
def dg5P:=dg1P
theorem dg5P_ok:OkP dg5P:=dg1P_ok
def dg5F:=dg1F
theorem dg5F_ok:OkF dg5F:=dg1F_ok
def dg5:G:={ τ:=dgT,Γ:=dg5Γ,E:=dg5E,Pn:=dg5P,E2:=dg5F }
theorem dg5_good:dg5.good prog:=good_of_all (dgT_ok _ rfl) dg5Γ_ok dg5E_ok dg5P_ok dg5F_ok
theorem dg5_all:(∀ t,dg5.td t=(look dgT t).getD .other)∧dg5.y=false∧dg5.Γ=dg5Γ∧dg5.E=dg5E∧dg5.Pn=dg5P∧dg5.E2=dg5F∧dg5.fz=[]∧dg5.te=false∧dg5.bo=false∧dg5.pm=false:=⟨fun _=>rfl,rfl,rfl,rfl,rfl,rfl,rfl,rfl,rfl,rfl⟩
def dg5_S:=And.intro (And.intro @dgT.eq_1 (And.intro @dg5Γ.eq_1 (And.intro @dg5E.eq_1 (And.intro @dg5P.eq_1 (And.intro @dg5F.eq_1 (@conRot3_eq)))))) dg1_S
def conPut:ECon2:={ wp:=fun args hp K=>match args,hp with
 | [.s (.part (.int .u8) 0 off n c),.s (.int .u64 v)],[.cells cs]=>∃ L:List Int,cs=t8.flats L∧off+n≤L.length∧n≤8∧L.length≤1000000∧K (.tup []) [.cells (t8.flats (putL L off n v n))]
 | _,_=>False }
theorem put_ok:EffOk2 prog 101 conPut:=by
 refine effOk2D (L:={ live:=[0,1,4,6,7,8] }) dg5_good rfl nr_mixed func101 rfl conPut 2 (by decide) (by kernel_rfl) ?_
 intro args hp K hpre hlens
 simp only [conPut] at hpre
 split at hpre
 case h_2=>exact hpre.elim
 rename_i off n c v cs
 obtain ⟨L0,rfl,ho,hn,hL,hK⟩:=hpre
 obtain ⟨L,rfl⟩:∃ y:List Int,y=L0:=⟨L0,rfl⟩
 refine ⟨rfl,?_⟩
 simp -dsimp -implicitDefEqProofs [f101,dg5_all,dg5_S,inI64]
 refine WpD.loop (L:={ live:=[0,1,4,6,7,8] }) dg5_good X0_ok nr_mixed (by kernel_rfl)
  (fun i:Nat=>⟨[(0,⟨true,.v (.s (.part t8 0 off n c))⟩),(1,⟨true,.v (.s (.int .u64 v))⟩),(6,vI n),(7,vI i)],[.cells (t8.flats (putL L off n v i))]⟩)
  (fun i=>i≤n) (fun i=>n - i) 0 (Nat.zero_le _) (Turn.le (by simp -dsimp -implicitDefEqProofs [putL_0])) ?_
 intro i hi
 have w8:∀ x,IntKind.u8.wrap x=x % 256:=fun x=>rfl
 have eb:((IntKind.u64.bits:Nat):Int)=64:=rfl
 have hpl:=putL_len (v:=v) hi ho
 by_cases hil:i<n
 ·
  have hs:=putL_set (v:=v) hil ho
  have hf:=fl_setk (k:=.u8) (xs:=putL L off n v i) (j:=off+(n - 1 - i)) (by rw [hpl]; omega) ((v.fdiv (2 ^ (8*i))) % 256)
  rw [hs] at hf
  have e1:((n:Int) - 1 - (i:Int)).toNat=n - 1 - i:=by omega
  have e2:(8*(i:Int)).toNat=8*i:=by omega
  simp -dsimp -implicitDefEqProofs [w8,eb,hpl,e1,e2,hf,dg5_all,dg5_S,inI64]
  exact ⟨fun _=>⟨⟨by omega,by omega⟩,⟨by omega,by omega⟩,⟨by omega,by omega⟩,⟨by omega,by omega,by omega⟩,⟨by omega,by omega⟩,by omega,⟨by omega,by omega⟩,i+1,by omega,by omega,TurnT.le (by simp -dsimp -implicitDefEqProofs)⟩,fun q=>by omega⟩
 ·
  obtain rfl:i=n:=by omega
  simp -dsimp -implicitDefEqProofs [hpl,dg5_all,dg5_S,inI64]
  exact hK
def gT:Ty:=.reps 64 t32
def gN:gT.T:=Ty.repsV 64 t32 digNums
theorem look_g1:look globs 1=some ⟨gT,gN⟩:=rfl
theorem glob_nums:t32.parses 64 (gT.flat gN)=some kNum:=rfl
theorem glob_nums2:t32.parses 64 ((⟨gT,gN⟩:Sigma Ty.T).fst.flat gN)=some kNum:=rfl
attribute [irreducible] gT gN
def addK (s v:S8) (k:Nat):List Int:=(add8 s v).list.take k++s.list.drop k
theorem addK_len {s v:S8} {k:Nat} (h:k≤8):(addK s v k).length=8:=by
 unfold addK
 rw [List.length_append,List.length_take,List.length_drop]
 show min k 8+(8 - k)=8
 omega
theorem addK_getD {s v:S8} {k:Nat} (h:k<8):(addK s v k)[k]?=some (s.list.getD k 0):=by
 rcases (by omega:k=0∨k=1∨k=2∨k=3∨k=4∨k=5∨k=6∨k=7) with rfl | rfl | rfl | rfl | rfl | rfl | rfl | rfl <;> rfl
theorem addK_get {s v:S8} {k:Nat} (h:k<8):(t32.flats (addK s v k))[k]?=some (.int .u32 (s.list.getD k 0)):=by
 rw [fl_get (by rw [addK_len (by omega)]; exact h),addK_getD h]; rfl
theorem addK_set {s v:S8} {k:Nat} (h:k<8):(addK s v k).set k (w32 (s.list.getD k 0+v.list.getD k 0))=addK s v (k+1):=by
 rcases (by omega:k=0∨k=1∨k=2∨k=3∨k=4∨k=5∨k=6∨k=7) with rfl | rfl | rfl | rfl | rfl | rfl | rfl | rfl <;> rfl
theorem addK_put {s v:S8} {k:Nat} (h:k<8):List.take k (t32.flats (addK s v k))++.int .u32 (w32 (s.list.getD k 0+v.list.getD k 0))::List.drop (k+1) (t32.flats (addK s v k))=t32.flats (addK s v (k+1)):=by
 rw [fl_setk (by rw [addK_len (by omega)]; exact h),addK_set h]
def conAbs:ECon2:={ bor:=[1],wp:=fun args hp K=>match args,hp with
 | [.s (.box 0 0),.s (.sl (.int .u8) m _)],[.cells [.int .u32 a,.int .u32 b,.int .u32 c,.int .u32 d,.int .u32 e,.int .u32 f,.int .u32 g,.int .u32 h]]=>(S8.mk a b c d e f g h).ok∧(∀ x∈m,in8 x)∧m.length=64∧K (.tup []) [.cells (S8.sv (blkS ⟨a,b,c,d,e,f,g,h⟩ m))]
 | _,_=>False }
theorem abs_ok:EffOk2 prog 100 conAbs:=by
 refine effOk2D (L:={ live:=[0,1,4,5,6,7,8,9,10,11,12,13,14,15,26,69,70,129,130],pi:=[(10,[(0,false),(1,false),(2,false),(3,false),(4,false),(5,false),(6,false),(7,false),(8,false),(9,false),(10,false),(11,false),(12,false),(13,false),(14,false),(15,false),(16,false),(17,false),(18,false),(19,false),(20,false),(21,false),(22,false),(23,false),(24,false),(25,false),(26,false),(27,false),(28,false),(29,false)]),(17,[(0,false),(1,false),(2,false)]),(24,[(0,false),(1,false),(2,false),(3,false),(4,false),(5,false),(6,false),(7,false),(8,false),(9,false),(10,false),(11,false)])] }) dg5_good rfl nr_mixed func100 rfl conAbs 2 (by decide) (by kernel_rfl) ?_
 intro args hp K hpre hlens
 simp only [conAbs] at hpre
 split at hpre
 case h_2=>exact hpre.elim
 rename_i m ex a b c d e f g h
 obtain ⟨hs,h8,hl,hK⟩:=hpre
 refine ⟨rfl,?_⟩
 simp -dsimp -implicitDefEqProofs [f100,dg5_all,dg5_S,inI64]
 refine WpD.loop (L:={ live:=[0,1,4,5,6,7,8,9,10,11,12,13,14,15,26,69,70,129,130],pi:=[(10,[(0,false),(1,false),(2,false),(3,false),(4,false),(5,false),(6,false),(7,false),(8,false),(9,false),(10,false),(11,false),(12,false),(13,false),(14,false),(15,false),(16,false),(17,false),(18,false),(19,false),(20,false),(21,false),(22,false),(23,false),(24,false),(25,false),(26,false),(27,false),(28,false),(29,false)]),(17,[(0,false),(1,false),(2,false)]),(24,[(0,false),(1,false),(2,false),(3,false),(4,false),(5,false),(6,false),(7,false),(8,false),(9,false),(10,false),(11,false)])] }) dg5_good X0_ok nr_mixed (by kernel_rfl)
  (fun i:Nat=>⟨[(0,⟨true,.v (.s (.box 0 0))⟩),(1,vS t8 m ex),(4,⟨true,.v (.s (.box 1 0))⟩),(14,vI i)],[.cells [.int .u32 a,.int .u32 b,.int .u32 c,.int .u32 d,.int .u32 e,.int .u32 f,.int .u32 g,.int .u32 h],.cells (t32.flats (wrds m i++zz (64 - i)))]⟩)
  (fun i=>i≤16) (fun i=>16 - i) 0 (Nat.zero_le _) (Turn.le (by simp -dsimp -implicitDefEqProofs; rfl)) ?_
 intro i hi
 by_cases hil:i<16
 ·
  have hd:List.drop (4*(i:Int)).toNat m=m.drop (4*i):=by rw [show (4*(i:Int)).toNat=4*i by omega]
  have hf:=fl_put (W:=wrds m i) (n:=64) (wrd (m.drop (4*i))) (by rw [wrds_len]; omega)
  rw [wrds_len,← wrds_succ] at hf
  simp -dsimp -implicitDefEqProofs [conWordR_eq,hd,zz_len,wrds_len,hf,dg5_all,dg5_S,inI64]
  exact ⟨fun _=>⟨⟨by omega,by omega⟩,⟨by omega,by omega⟩,⟨fun x hx=>h8 x (List.mem_of_mem_drop hx),by omega⟩,by omega,by omega,⟨by omega,by omega⟩,i+1,by omega,by omega,TurnT.le (by simp -dsimp -implicitDefEqProofs)⟩,fun q=>by omega⟩
 ·
  obtain rfl:i=16:=by omega
  simp -dsimp -implicitDefEqProofs [conWordR_eq,dg5_all,dg5_S,inI64]
  refine WpD.loop (L:={ live:=[0,1,4,5,6,7,8,9,10,11,12,13,14,15,26,69,70,129,130],pi:=[(10,[(0,false),(1,false),(2,false),(3,false),(4,false),(5,false),(6,false),(7,false),(8,false),(9,false),(10,false),(11,false),(12,false),(13,false),(14,false),(15,false),(16,false),(17,false),(18,false),(19,false),(20,false),(21,false),(22,false),(23,false),(24,false),(25,false),(26,false),(27,false),(28,false),(29,false)]),(17,[(0,false),(1,false),(2,false)]),(24,[(0,false),(1,false),(2,false),(3,false),(4,false),(5,false),(6,false),(7,false),(8,false),(9,false),(10,false),(11,false)])] }) dg5_good X0_ok nr_mixed (by kernel_rfl)
   (fun W:List Int=>⟨[(0,⟨true,.v (.s (.box 0 0))⟩),(4,⟨true,.v (.s (.box 1 0))⟩),(6,vI W.length)],[.cells [.int .u32 a,.int .u32 b,.int .u32 c,.int .u32 d,.int .u32 e,.int .u32 f,.int .u32 g,.int .u32 h],.cells (t32.flats (W++zz (64 - W.length)))]⟩)
   (fun W=>16≤W.length∧W.length≤64∧(∀ x∈W,in32 x)∧schW W (64 - W.length)=schB m) (fun W=>64 - W.length) (wrds m 16) ⟨by rw [wrds_len]; omega,by rw [wrds_len]; omega,wrds_in h8 16,by rw [wrds_len]; rfl⟩ (Turn.le (by simp -dsimp -implicitDefEqProofs [wrds_len])) ?_
  intro W hW
  obtain ⟨hw16,hw64,hwi,hsch⟩:=hW
  by_cases hwl:W.length<64
  ·
   have hx:∀ k:Nat,0<k→k≤16→(t32.flats (W++zz (64 - W.length)))[((W.length:Int) - (k:Int)).toNat]?=some (.int .u32 (W.getD (W.length - k) 0)):=fun k h1 h2=>by
    rw [show ((W.length:Int) - (k:Int)).toNat=W.length - k by omega]
    exact zz_get (by omega)
   have hx15:(t32.flats (W++zz (64 - W.length)))[((W.length:Int) - 15).toNat]?=some (.int .u32 (W.getD (W.length - 15) 0)):=hx 15 (by decide) (by decide)
   have hx2:(t32.flats (W++zz (64 - W.length)))[((W.length:Int) - 2).toNat]?=some (.int .u32 (W.getD (W.length - 2) 0)):=hx 2 (by decide) (by decide)
   have hx16:(t32.flats (W++zz (64 - W.length)))[((W.length:Int) - 16).toNat]?=some (.int .u32 (W.getD (W.length - 16) 0)):=hx 16 (by decide) (by decide)
   have hx7:(t32.flats (W++zz (64 - W.length)))[((W.length:Int) - 7).toNat]?=some (.int .u32 (W.getD (W.length - 7) 0)):=hx 7 (by decide) (by decide)
   clear hx
   have hf:=fl_put (W:=W) (n:=64) (nxtW W) hwl
   have hnx:w32 (w32 (w32 (W[W.length - 16]?.getD 0+xorI (xorI (rorI (W[W.length - 15]?.getD 0) 7) (rorI (W[W.length - 15]?.getD 0) 18)) ((W[W.length - 15]?.getD 0).fdiv 8))+W[W.length - 7]?.getD 0)+xorI (xorI (rorI (W[W.length - 2]?.getD 0) 17) (rorI (W[W.length - 2]?.getD 0) 19)) ((W[W.length - 2]?.getD 0).fdiv 1024))=nxtW W:=by
    unfold nxtW sgm
    simp only [List.getD_eq_getElem?_getD]
    rfl
   have q15:=get_in32 hwi (W.length - 15)
   have q2:=get_in32 hwi (W.length - 2)
   have r1:=ror_in q15 7
   have r2:=ror_in q15 18
   have r3:=ror_in q2 17
   have r4:=ror_in q2 19
   have x1:=xor_in r1 r2
   have x2:=xor_in r3 r4
   have s1:in32 ((W[W.length - 15]?.getD 0).fdiv 8):=shr_in q15 3
   have s2:in32 ((W[W.length - 2]?.getD 0).fdiv 1024):=shr_in q2 10
   rw [show 64 - W.length=(64 - (W.length+1))+1 by omega,schW] at hsch
   simp -dsimp -implicitDefEqProofs [conRotL_eq,xorI_def,w32_def,zz_len,hx15,hx2,hx16,hx7,hnx,hf,dg5_all,dg5_S,inI64]
   refine ⟨fun _=>⟨⟨by omega,by omega⟩,⟨by omega,by omega⟩,by omega,⟨by omega,by omega⟩,⟨by omega,by omega⟩,by omega,⟨by omega,by omega⟩,⟨by omega,by omega⟩,by omega,q15,⟨r1.1,r1.2,r2.1,r2.2⟩,⟨x1.1,x1.2,s1.1,s1.2⟩,⟨by omega,by omega⟩,⟨by omega,by omega⟩,by omega,q2,⟨r3.1,r3.2,r4.1,r4.2⟩,by decide,⟨x2.1,x2.2,s2.1,s2.2⟩,by omega,by omega,⟨by omega,by omega⟩,W++[nxtW W],⟨by rw [List.length_append]; omega,by rw [List.length_append,List.length_singleton]; omega,fun x hx => ?_,by rw [List.length_append,List.length_singleton]; exact hsch⟩,by rw [List.length_append,List.length_singleton]; omega,TurnT.le (by simp -dsimp -implicitDefEqProofs)⟩,fun q=>by omega⟩
   rcases List.mem_append.1 hx with q | q
   ·
    exact hwi x q
   ·
    rw [List.mem_singleton.1 q]; exact w32_in _
  ·
   have hwe:W.length=64:=by omega
   have hWs:W=schB m:=by rw [← hsch,hwe]; rfl
   have hz:zz (64 - W.length)=[]:=by rw [hwe]; rfl
   simp -dsimp -implicitDefEqProofs [hwe,hz,show zz 0=[] from rfl,List.append_nil,dg5_all,dg5_S,inI64]
   refine WpD.loop (L:={ live:=[0,1,4,5,6,7,8,9,10,11,12,13,14,15,26,69,70,129,130],pi:=[(10,[(0,false),(1,false),(2,false),(3,false),(4,false),(5,false),(6,false),(7,false),(8,false),(9,false),(10,false),(11,false),(12,false),(13,false),(14,false),(15,false),(16,false),(17,false),(18,false),(19,false),(20,false),(21,false),(22,false),(23,false),(24,false),(25,false),(26,false),(27,false),(28,false),(29,false)]),(17,[(0,false),(1,false),(2,false)]),(24,[(0,false),(1,false),(2,false),(3,false),(4,false),(5,false),(6,false),(7,false),(8,false),(9,false),(10,false),(11,false)])] }) dg5_good X0_ok nr_mixed (by kernel_rfl)
    (fun q:RS=>⟨[(0,⟨true,.v (.s (.box 0 0))⟩),(4,⟨true,.v (.s (.box 1 0))⟩),(9,⟨true,.v (.s (.box 2 0))⟩),(69,vI q.i)],[.cells [.int .u32 a,.int .u32 b,.int .u32 c,.int .u32 d,.int .u32 e,.int .u32 f,.int .u32 g,.int .u32 h],.cells (t32.flats W),.cells [.int .u32 q.s.a,.int .u32 q.s.b,.int .u32 q.s.c,.int .u32 q.s.d,.int .u32 q.s.e,.int .u32 q.s.f,.int .u32 q.s.g,.int .u32 q.s.h]]⟩)
    (fun q=>q.i≤64∧q.s.ok∧rnds q.s ((kNum.zip W).drop q.i)=rnds ⟨a,b,c,d,e,f,g,h⟩ (kNum.zip W)) (fun q=>64 - q.i) ⟨⟨a,b,c,d,e,f,g,h⟩,0⟩ ⟨Nat.zero_le _,hs,rfl⟩ (Turn.le (by simp -dsimp -implicitDefEqProofs)) ?_
   rintro ⟨v,i⟩ ⟨hi64,hv,hr⟩
   simp only at hi64 hv hr
   by_cases hil:i<64
   ·
    have hkl:kNum.length=64:=kNum_len
    have hw:(t32.flats W)[i]?=some (.int .u32 (W.getD i 0)):=by rw [fl_get (by omega),List.getD_eq_getElem?_getD]
    rw [zip_drop hwe hil,rnds] at hr
    have hkd:kNum[i]?.getD 0=kNum.getD i 0:=(List.getD_eq_getElem?_getD ..).symm
    generalize kNum.getD i 0=kk at hkd hr
    generalize W.getD i 0=ww at hw hr
    obtain ⟨va,vb,vc,vd,ve,vf,vg,vh⟩:=hv
    have hc:=ch_eq (f:=v.f) ve vg
    have hmj:=maj_eq v.a v.b v.c
    have ht1:w32 (w32 (w32 (w32 (v.h+rot3 v.e 6 11 25)+chI v.e v.f v.g)+kk)+ww)=tt1 v kk ww:=rfl
    have ht2:w32 (rot3 v.a 2 13 22+majI v.a v.b v.c)=tt2 v:=rfl
    simp -dsimp -implicitDefEqProofs [conRot3_eq,xorI_def,w32_def,andI_def,orW_def,glob_nums,glob_nums2,look_g1,-globs,-Ty.parses,hkl,hkd,hw,hwe,hc,hmj,ht1,ht2,dg5_all,dg5_S,inI64]
    have x1:=xor_in vf vg
    have x2:=and_in (a:=v.e) x1
    have x3:=or_in va vb
    have x4:=and_in (a:=v.a) vb
    have x5:=and_in (a:=v.c) x3
    have hm:2000000000≤maxLen:=by simp only [maxLen]; omega
    exact ⟨fun _=>⟨ve,⟨vf.1,vf.2,vg.1,vg.2⟩,⟨ve.1,ve.2,x1.1,x1.2⟩,⟨vg.1,vg.2,x2.1,x2.2⟩,by omega,hil,va,⟨va.1,va.2,vb.1,vb.2⟩,⟨vc.1,vc.2,x3.1,x3.2⟩,⟨x4.1,x4.2,x5.1,x5.2⟩,by omega,⟨by omega,by omega⟩,⟨rnd v kk ww,i+1⟩,⟨by show i+1≤64; omega,rnd_ok ⟨va,vb,vc,vd,ve,vf,vg,vh⟩ _ _,hr⟩,by show 64 - (i+1)<_; omega,TurnT.le (by simp -dsimp -implicitDefEqProofs [rnd])⟩,fun q=>by omega⟩
   ·
    obtain rfl:i=64:=by omega
    simp -dsimp -implicitDefEqProofs [w32_def,dg5_all,dg5_S,inI64]
    rw [List.drop_eq_nil_of_le (by rw [List.length_zip,kNum_len,hwe]; decide),rnds] at hr
    have hbk:blkS ⟨a,b,c,d,e,f,g,h⟩ m=add8 ⟨a,b,c,d,e,f,g,h⟩ v:=by rw [blkS,← hWs,← hr]
    rw [hbk] at hK
    refine WpD.loop (L:={ live:=[0,1,4,5,6,7,8,9,10,11,12,13,14,15,26,69,70,129,130],pi:=[(10,[(0,false),(1,false),(2,false),(3,false),(4,false),(5,false),(6,false),(7,false),(8,false),(9,false),(10,false),(11,false),(12,false),(13,false),(14,false),(15,false),(16,false),(17,false),(18,false),(19,false),(20,false),(21,false),(22,false),(23,false),(24,false),(25,false),(26,false),(27,false),(28,false),(29,false)]),(17,[(0,false),(1,false),(2,false)]),(24,[(0,false),(1,false),(2,false),(3,false),(4,false),(5,false),(6,false),(7,false),(8,false),(9,false),(10,false),(11,false)])] }) dg5_good X0_ok nr_mixed (by kernel_rfl)
     (fun k:Nat=>⟨[(0,⟨true,.v (.s (.box 0 0))⟩),(4,⟨true,.v (.s (.box 1 0))⟩),(9,⟨true,.v (.s (.box 2 0))⟩),(129,vI k)],[.cells (t32.flats (addK ⟨a,b,c,d,e,f,g,h⟩ v k)),.cells (t32.flats W),.cells (t32.flats v.list)]⟩)
     (fun k=>k≤8) (fun k=>8 - k) 0 (Nat.zero_le _) (Turn.le (by simp -dsimp -implicitDefEqProofs; exact ⟨rfl,rfl⟩)) ?_
    intro k hk
    by_cases hk8:k<8
    ·
     have g1:=addK_get (s:=⟨a,b,c,d,e,f,g,h⟩) (v:=v) hk8
     have g2:(t32.flats v.list)[k]?=some (.int .u32 (v.list.getD k 0)):=by rw [fl_get (by show k<8; exact hk8),List.getD_eq_getElem?_getD]
     have hf:=addK_put (s:=⟨a,b,c,d,e,f,g,h⟩) (v:=v) hk8
     have hal:=addK_len (s:=⟨a,b,c,d,e,f,g,h⟩) (v:=v) (k:=k) hk
     have hvl:v.list.length=8:=rfl
     generalize v.list.getD k 0=vk at g2 hf
     generalize (S8.mk a b c d e f g h).list.getD k 0=sk at g1 hf
     simp -dsimp -implicitDefEqProofs [w32_def,g1,g2,hf,hal,hvl,dg5_all,dg5_S,inI64]
     exact ⟨fun _=>⟨by omega,hk8,by omega,hk8,by omega,by omega,⟨by omega,by omega⟩,k+1,by omega,by omega,TurnT.le (by simp -dsimp -implicitDefEqProofs)⟩,fun q=>by omega⟩
    ·
     obtain rfl:k=8:=by omega
     simp -dsimp -implicitDefEqProofs [w32_def,dg5_all,dg5_S,inI64]
     exact hK
def dg6Γ:=dg5Γ
theorem dg6Γ_ok:OkΓ dg6Γ:=dg5Γ_ok
def dg6E:=dg5E
theorem dg6E_ok:OkE dg6E:=dg5E_ok
def dg6P:=dg5P
theorem dg6P_ok:OkP dg6P:=dg5P_ok
def dg6F:List (FuncId×ECon2):=(100,conAbs)::(101,conPut)::dg5F
theorem dg6F_ok:OkF dg6F:=by
 simp only [OkF,dg6F,List.forall_mem_cons]
 exact ⟨⟨enters_of func100 (by kernel_rfl) rfl,abs_ok⟩,⟨enters_of func101 (by kernel_rfl) rfl,put_ok⟩,dg5F_ok⟩
def dg6:G:={ τ:=dgT,Γ:=dg6Γ,E:=dg6E,Pn:=dg6P,E2:=dg6F,te:=true,bo:=true,pm:=true }
theorem dg6_good:dg6.good prog:=good_of_all (dgT_ok _ rfl) dg6Γ_ok dg6E_ok dg6P_ok dg6F_ok
theorem dg6_all:(∀ t,dg6.td t=(look dgT t).getD .other)∧dg6.y=false∧dg6.Γ=dg6Γ∧dg6.E=dg6E∧dg6.Pn=dg6P∧dg6.E2=dg6F∧dg6.fz=[]∧dg6.te=true∧dg6.bo=true∧dg6.pm=true:=⟨fun _=>rfl,rfl,rfl,rfl,rfl,rfl,rfl,rfl,rfl,rfl⟩
def dg6_S:=And.intro (And.intro @dgT.eq_1 (And.intro @dg6Γ.eq_1 (And.intro @dg6E.eq_1 (And.intro @dg6P.eq_1 (And.intro @dg6F.eq_1 (And.intro @conAbs.eq_1 (@conPut.eq_1))))))) dg5_S
theorem zz128:([0,0,0,0,0,0,0,0,0,0,0,0,0,0,0,0,0,0,0,0,0,0,0,0,0,0,0,0,0,0,0,0,0,0,0,0,0,0,0,0,0,0,0,0,0,0,0,0,0,0,0,0,0,0,0,0,0,0,0,0,0,0,0,0,0,0,0,0,0,0,0,0,0,0,0,0,0,0,0,0,0,0,0,0,0,0,0,0,0,0,0,0,0,0,0,0,0,0,0,0,0,0,0,0,0,0,0,0,0,0,0,0,0,0,0,0,0,0,0,0,0,0,0,0,0,0,0,0]:List Int)=zz 128:=rfl
theorem zz_drop (n k:Nat):(zz n).drop k=zz (n - k):=List.drop_replicate
theorem fl8_map:∀ l:List Int,t8.flats l=l.map (SV.int .u8)
 | []=>rfl
 | x::l=>by rw [List.map_cons,← fl8_map l]; rfl
theorem fl_zdrop (n k:Nat):List.drop k (t8.flats (zz n))=t8.flats (zz (n - k)):=by
 rw [fl8_map,fl8_map,← List.map_drop,zz_drop]
theorem put_take {L:List Int} {off:Nat} {v:Int}:(putL L off 8 v 8).take (off+8)=L.take off++bytB 8 v∨L.length<off:=by
 rcases Nat.lt_or_ge L.length off with q | q
 ·
  exact .inr q
 ·
  left
  unfold putL
  rw [show off+8 - 8=off by omega,Nat.sub_self,List.drop_zero,List.take_append_of_le_length (by rw [List.length_append,List.length_take,byt_len]; omega),List.take_of_length_le (by rw [List.length_append,List.length_take,byt_len]; omega)]
theorem tail_eq {m r:List Int} {N:Nat} (h:(m.length - r.length) % 64=0) (hr:r.length≤m.length) (hN:N=if 55<r.length then 128 else 64) (h64:r.length<64) :
  (putL (r++128::zz (127 - r.length)) (N - 8) 8 ((m.length:Int)*8) 8).take N=r++([128]++zz (shZ m.length)++bytB 8 ((m.length:Int)*8))∧m++([128]++zz (shZ m.length)++bytB 8 ((m.length:Int)*8))=shPad m:=by
 constructor
 ·
  have hN8:N=(N - 8)+8:=by split at hN <;> omega
  have hl:(r++128::zz (127 - r.length)).length=128:=by rw [List.length_append,List.length_cons,zz_len]; omega
  rw [hN8,show N - 8+8 - 8=N - 8 by omega]
  rcases put_take (L:=r++128::zz (127 - r.length)) (off:=N - 8) (v:=(m.length:Int)*8) with q | q
  ·
   rw [q]
   have hz:shZ m.length=N - 8 - (r.length+1):=by unfold shZ; split at hN <;> omega
   rw [List.take_append,List.take_of_length_le (show r.length≤N - 8 by split at hN <;> omega)]
   rw [show N - 8 - r.length=(N - 8 - (r.length+1))+1 by split at hN <;> omega,List.take_succ_cons,hz]
   unfold zz
   rw [List.take_replicate,show min (N - 8 - (r.length+1)) (127 - r.length)=N - 8 - (r.length+1) by split at hN <;> omega]
   simp
  ·
   rw [hl] at q; split at hN <;> omega
 ·
  unfold shPad zz
  simp
theorem out_put (u:S8) {k:Nat} (h:k<8):putL ((outB u).take (4*k)++zz (32 - 4*k)) (4*k) 4 (u.list.getD k 0) 4=(outB u).take (4*(k+1))++zz (32 - 4*(k+1)):=by
 rcases (by omega:k=0∨k=1∨k=2∨k=3∨k=4∨k=5∨k=6∨k=7) with rfl | rfl | rfl | rfl | rfl | rfl | rfl | rfl <;> rfl
theorem list_in {u:S8} (h:u.ok) (k:Nat):in32 (u.list.getD k 0):=by
 obtain ⟨h1,h2,h3,h4,h5,h6,h7,h8⟩:=h
 match k with
 | 0=>exact h1
 | 1=>exact h2
 | 2=>exact h3
 | 3=>exact h4
 | 4=>exact h5
 | 5=>exact h6
 | 6=>exact h7
 | 7=>exact h8
 | n+8=>exact ⟨by show (0:Int)≤0; decide,by show (0:Int)<_; decide⟩
theorem putL_in8 {L:List Int} {off n i:Nat} {v:Int} (h:∀ x∈L,in8 x):∀ x∈putL L off n v i,in8 x:=by
 intro x hx
 unfold putL at hx
 rcases List.mem_append.1 hx with q | q
 ·
  rcases List.mem_append.1 q with q | q
  ·
   exact h x (List.mem_of_mem_take q)
  ·
   have q:=List.mem_of_mem_drop q
   simp only [bytB,List.mem_map] at q
   obtain ⟨j,_,rfl⟩:=q
   unfold in8; omega
 ·
  exact h x (List.mem_of_mem_drop q)
structure PT where
 (s:S8) (off:Nat)
structure SS where
 (s:S8) (r:List Int) (x:Bool)
theorem sum_ok:PureOk prog 57 conSumR:=by
 refine pureOkD (L:={ live:=[0,2,3,4,5,6,7,8,14,31,46,53,54,55] }) dg6_good rfl nr_mixed func57 rfl conSumR 1 (by decide) (by kernel_rfl) ?_
 intro args hpre hlens
 simp only [conSumR] at hpre
 split at hpre
 case h_2=>exact hpre.elim
 rename_i m ex
 simp only [lenS] at hlens
 obtain ⟨h8,hl⟩:=hpre
 refine ⟨rfl,?_⟩
 simp -dsimp -implicitDefEqProofs [f57,conSumR_eq,dg6_all,dg6_S,inI64]
 refine WpD.loop (L:={ live:=[0,2,3,4,5,6,7,8,14,31,46,53,54,55] }) dg6_good X0_ok nr_mixed (by kernel_rfl)
  (fun q:SS=>⟨[(0,vS t8 m ex),(2,⟨true,.v (.s (.box 0 0))⟩),(3,⟨true,.v (.s (.box 1 0))⟩),(4,⟨true,.v (.s (.bbx 100 1 0))⟩),(5,vS t8 q.r q.x)],[.cells [.int .u8 0,.int .u8 0,.int .u8 0,.int .u8 0,.int .u8 0,.int .u8 0,.int .u8 0,.int .u8 0,.int .u8 0,.int .u8 0,.int .u8 0,.int .u8 0,.int .u8 0,.int .u8 0,.int .u8 0,.int .u8 0,.int .u8 0,.int .u8 0,.int .u8 0,.int .u8 0,.int .u8 0,.int .u8 0,.int .u8 0,.int .u8 0,.int .u8 0,.int .u8 0,.int .u8 0,.int .u8 0,.int .u8 0,.int .u8 0,.int .u8 0,.int .u8 0],.cells [.int .u32 q.s.a,.int .u32 q.s.b,.int .u32 q.s.c,.int .u32 q.s.d,.int .u32 q.s.e,.int .u32 q.s.f,.int .u32 q.s.g,.int .u32 q.s.h]]⟩)
  (fun q=>(∀ x∈q.r,in8 x)∧q.s.ok∧q.r.length≤m.length∧(m.length - q.r.length) % 64=0∧∀ t,shaL q.s (q.r++t)=shaL s0 (m++t)) (fun q=>q.r.length) ⟨s0,m,ex⟩ ⟨h8,s0_ok,Nat.le_refl _,by show (m.length - m.length) % 64=0; omega,fun t=>rfl⟩ (Turn.le (by simp -dsimp -implicitDefEqProofs [s0]; exact ⟨rfl,rfl,rfl,rfl,rfl,rfl,rfl,rfl⟩)) ?_
 rintro ⟨v,r,x⟩ ⟨hr8,hv,hrl,hrm,hsha⟩
 simp only at hr8 hv hrl hrm hsha
 by_cases hr64:64≤r.length
 ·
  obtain ⟨u,hu⟩:∃ u,u=blkS v (r.take 64):=⟨_,rfl⟩
  have hbl:blkS ⟨v.a,v.b,v.c,v.d,v.e,v.f,v.g,v.h⟩ (r.take 64)=u:=hu.symm
  have hok:u.ok:=hu▸blkS_ok v (r.take 64)
  have hsha':∀ t,shaL u (r.drop 64++t)=shaL s0 (m++t):=fun t=>by rw [← hsha t,shaL_step2 hr64,hu]
  simp -dsimp -implicitDefEqProofs [conAbs,hbl,S8.sv_eq,dg6_all,dg6_S,inI64]
  exact ⟨fun _=>⟨by omega,hv,fun z hz=>hr8 z (List.mem_of_mem_take hz),by omega,by omega,⟨u,r.drop 64,r.isEmpty&&x⟩,⟨fun z hz=>hr8 z (List.mem_of_mem_drop hz),hok,by show (r.drop 64).length≤_; rw [List.length_drop]; omega,by show (m.length - (r.drop 64).length) % 64=0; rw [List.length_drop]; omega,hsha'⟩,by show (r.drop 64).length<_; rw [List.length_drop]; omega,TurnT.le (by simp -dsimp -implicitDefEqProofs)⟩,fun q=>by omega⟩
 ·
  have hr1:r.length<64:=by omega
  have hmn:min 64 r.length=r.length:=by omega
  have hng:(64≤(r.length:Int))=False:=by simp; omega
  have ht64:List.take 64 r=r:=List.take_of_length_le (by omega)
  have hA:t8.flats r++t8.flats (zz (128 - r.length))=t8.flats (r++zz (128 - r.length)):=by rw [fl8_map,fl8_map,fl8_map,List.map_append]
  have hB:=fl_put8 (W:=r) (n:=128) 128 (by omega)
  by_cases h55:55<r.length
  ·
   have hg55:(55<(r.length:Int))=True:=by simp; omega
   simp -dsimp -implicitDefEqProofs [conAbs,conPut,hmn,hng,ht64,zz128,fl_zdrop,hA,hB,zz_len,hg55,dg6_all,dg6_S,inI64]
   have wm:∀ x,IntKind.u64.wrap x=x % 18446744073709551616:=fun x=>rfl
   have hm:2000000000≤maxLen:=by simp only [maxLen]; omega
   obtain ⟨te1,te2⟩:=tail_eq (N:=128) hrm hrl (by rw [if_pos h55]) hr1
   have hTl:=putL_len (L:=r++128::zz (127 - r.length)) (off:=128 - 8) (n:=8) (i:=8) (v:=(m.length:Int)*8) (Nat.le_refl _) (by rw [List.length_append,List.length_cons,zz_len]; omega)
   have hLl:(r++128::zz (127 - r.length)).length=128:=by rw [List.length_append,List.length_cons,zz_len]; omega
   rw [hLl] at hTl
   refine ⟨by omega,by omega,_,rfl,by omega,by omega,?_⟩
   rw [wm,wm,show (m.length:Int) % 18446744073709551616*8 % 18446744073709551616=(m.length:Int)*8 by omega]
   have hpad:=hsha ([128]++zz (shZ m.length)++bytB 8 ((m.length:Int)*8))
   rw [← te1,te2] at hpad
   change (putL (r++128::zz (127 - r.length)) (128 - 8) 8 ((m.length:Int)*8) 8).length=128 at hTl
   have hT8:∀ z∈putL (r++128::zz (127 - r.length)) (128 - 8) 8 ((m.length:Int)*8) 8,in8 z:=by
    refine putL_in8 fun z hz => ?_
    rcases List.mem_append.1 hz with q | q
    ·
     exact hr8 z q
    ·
     rcases List.mem_cons.1 q with q | q
     ·
      rw [q]; exact ⟨by decide,by decide⟩
     ·
      rw [(List.mem_replicate.1 q).2]; exact ⟨by decide,by decide⟩
   refine WpD.loop (L:={ live:=[0,2,3,4,5,6,7,8,14,31,46,53,54,55] }) dg6_good X0_ok nr_mixed (by kernel_rfl)
    (fun q:PT=>⟨[(2,⟨true,.v (.s (.box 0 0))⟩),(3,⟨true,.v (.s (.box 1 0))⟩),(4,⟨true,.v (.s (.bbx 100 1 0))⟩),(6,⟨true,.v (.s (.part t8 2 q.off (128 - q.off) (128 - q.off)))⟩)],[.cells [.int .u8 0,.int .u8 0,.int .u8 0,.int .u8 0,.int .u8 0,.int .u8 0,.int .u8 0,.int .u8 0,.int .u8 0,.int .u8 0,.int .u8 0,.int .u8 0,.int .u8 0,.int .u8 0,.int .u8 0,.int .u8 0,.int .u8 0,.int .u8 0,.int .u8 0,.int .u8 0,.int .u8 0,.int .u8 0,.int .u8 0,.int .u8 0,.int .u8 0,.int .u8 0,.int .u8 0,.int .u8 0,.int .u8 0,.int .u8 0,.int .u8 0,.int .u8 0],.cells [.int .u32 q.s.a,.int .u32 q.s.b,.int .u32 q.s.c,.int .u32 q.s.d,.int .u32 q.s.e,.int .u32 q.s.f,.int .u32 q.s.g,.int .u32 q.s.h],.cells (t8.flats (putL (r++128::zz (127 - r.length)) (128 - 8) 8 ((m.length:Int)*8) 8))]⟩)
    (fun q=>q.s.ok∧q.off≤128∧q.off % 64=0∧shaL q.s (((putL (r++128::zz (127 - r.length)) (128 - 8) 8 ((m.length:Int)*8) 8).take 128).drop q.off)=shaL s0 (shPad m)) (fun q=>128 - q.off) ⟨v,0⟩ ⟨hv,Nat.zero_le _,rfl,hpad⟩ (Turn.le (by simp -dsimp -implicitDefEqProofs)) ?_
   generalize putL (r++128::zz (127 - r.length)) (128 - 8) 8 ((m.length:Int)*8) 8=T at hTl hT8 hpad ⊢
   rintro ⟨u,off⟩ ⟨hu,ho,ho6,hush⟩
   simp only at hu ho ho6 hush
   by_cases hof:off<128
   ·
    have hprs:t8.parses 64 (List.take 64 (List.drop off (t8.flats T)))=some ((T.drop off).take 64):=by
     rw [fl8_map,← List.map_drop,← List.map_take,← fl8_map]
     exact parses_flats' (t:=t8) (by rw [List.length_take,List.length_drop]; omega)
    have hoff:off≤64:=by omega
    obtain ⟨u',hu'⟩:∃ u',u'=blkS u ((T.drop off).take 64):=⟨_,rfl⟩
    have hbl:blkS ⟨u.a,u.b,u.c,u.d,u.e,u.f,u.g,u.h⟩ ((T.drop off).take 64)=u':=hu'.symm
    have hok':u'.ok:=hu'▸blkS_ok u _
    have hXl:((T.take 128).drop off).length=128 - off:=by rw [List.length_drop,List.length_take]; omega
    have hX:((T.take 128).drop off).take 64=(T.drop off).take 64:=by rw [List.drop_take,List.take_take,show min 64 (128 - off)=64 by omega]
    rw [shaL_step (by rw [hXl]; omega),List.drop_drop,← blkS_take,hX,← hu'] at hush
    have hcc:(((128 - off:Nat):Int) - 64).toNat=128 - (off+64):=by omega
    have hcd:(((128 - off:Nat):Int) - 64).toNat=128 - (off+64):=by omega
    simp -dsimp -implicitDefEqProofs [conAbs,S8.sv_eq,hprs,-Ty.parses,hTl,hoff,hbl,hcc,hcd,dg6_all,dg6_S,inI64]
    exact ⟨fun _=>⟨by omega,hu,fun z hz=>hT8 z (List.mem_of_mem_drop (List.mem_of_mem_take hz)),by omega,by omega,⟨u',off+64⟩,⟨hok',by show off+64≤128; omega,by show (off+64) % 64=0; omega,hush⟩,by show 128 - (off+64)<_; omega,TurnT.le (by simp -dsimp -implicitDefEqProofs)⟩,fun q=>by omega⟩
   ·
    have hoe:off=128:=by omega
    have hdn:(T.take 128).drop off=[]:=List.drop_eq_nil_of_le (by rw [List.length_take]; omega)
    rw [hdn,shaL_short (by decide)] at hush
    have hsum:shaSum m=outB u:=by rw [hush]; rfl
    have hoz:128 - off=0:=by omega
    simp -dsimp -implicitDefEqProofs [conAbs,hoz,dg6_all,dg6_S,inI64]
    refine WpD.loop (L:={ live:=[0,2,3,4,5,6,7,8,14,31,46,53,54,55] }) dg6_good X0_ok nr_mixed (by kernel_rfl)
     (fun k:Nat=>⟨[(2,⟨true,.v (.s (.box 0 0))⟩),(53,⟨true,.v (.agg (t32.flats u.list))⟩),(54,vI k)],[.cells (t8.flats ((outB u).take (4*k)++zz (32 - 4*k))),.cells [.int .u32 u.a,.int .u32 u.b,.int .u32 u.c,.int .u32 u.d,.int .u32 u.e,.int .u32 u.f,.int .u32 u.g,.int .u32 u.h],.cells (t8.flats T)]⟩)
     (fun k=>k≤8) (fun k=>8 - k) 0 (Nat.zero_le _) (Turn.le (by simp -dsimp -implicitDefEqProofs; exact ⟨rfl,rfl⟩)) ?_
    intro k hk
    by_cases hk8:k<8
    ·
     have g2:(t32.flats u.list)[k]?=some (.int .u32 (u.list.getD k 0)):=by rw [fl_get (by show k<8; exact hk8),List.getD_eq_getElem?_getD]
     have hll:(t32.flats u.list).length=8:=rfl
     have hop:=out_put u hk8
     have hw:in32 (u.list.getD k 0):=list_in hu k
     have hin:(List.take (4*k) (outB u)++zz (32 - 4*k)).length=32:=by rw [List.length_append,List.length_take,zz_len,out_len]; omega
     generalize u.list.getD k 0=w at g2 hop hw
     have hw64:IntKind.u64.wrap w=w:=by rw [wm]; unfold in32 at hw; omega
     have e1:(4*(k:Int)).toNat=4*k:=by omega
     have e2:(4*(k:Int)+4 - 4*(k:Int)).toNat=4:=by omega
     simp -dsimp -implicitDefEqProofs [conPut,g2,hll,hw64,e1,e2,dg6_all,dg6_S,inI64]
     exact ⟨fun _=>⟨by omega,⟨by omega,by omega⟩,⟨by omega,by omega⟩,⟨by omega,by omega,by omega,by omega⟩,_,rfl,by rw [hin]; omega,by rw [hin]; decide,⟨by omega,by omega⟩,k+1,by omega,by omega,TurnT.le (by rw [hop]; simp -dsimp -implicitDefEqProofs)⟩,fun q=>by omega⟩
    ·
     have hk9:k=8:=by omega
     have hta:(outB u).take (4*k)=outB u:=List.take_of_length_le (by rw [out_len]; omega)
     have hz:zz (32 - 4*k)=[]:=by rw [hk9]; rfl
     rw [hta,hz,List.append_nil]
     have hol:=out_len u
     rw [hk9]
     generalize outB u=O at hol hsum
     have hft:List.take 32 (t8.flats O)=t8.flats O:=List.take_of_length_le (by rw [flats_length,hol]; decide)
     simp -dsimp -implicitDefEqProofs [conSumR_eq,hsum,hol,hft,frzL_int O,dg6_all,dg6_S,inI64]
     done
  ·
   have hg55:(55<(r.length:Int))=False:=by simp; omega
   simp -dsimp -implicitDefEqProofs [conAbs,conPut,hmn,hng,ht64,zz128,fl_zdrop,hA,hB,zz_len,hg55,dg6_all,dg6_S,inI64]
   have wm:∀ x,IntKind.u64.wrap x=x % 18446744073709551616:=fun x=>rfl
   have hm:2000000000≤maxLen:=by simp only [maxLen]; omega
   obtain ⟨te1,te2⟩:=tail_eq (N:=64) hrm hrl (by rw [if_neg h55]) hr1
   have hTl:=putL_len (L:=r++128::zz (127 - r.length)) (off:=64 - 8) (n:=8) (i:=8) (v:=(m.length:Int)*8) (Nat.le_refl _) (by rw [List.length_append,List.length_cons,zz_len]; omega)
   have hLl:(r++128::zz (127 - r.length)).length=128:=by rw [List.length_append,List.length_cons,zz_len]; omega
   rw [hLl] at hTl
   refine ⟨by omega,by omega,_,rfl,by omega,by omega,?_⟩
   rw [wm,wm,show (m.length:Int) % 18446744073709551616*8 % 18446744073709551616=(m.length:Int)*8 by omega]
   have hpad:=hsha ([128]++zz (shZ m.length)++bytB 8 ((m.length:Int)*8))
   rw [← te1,te2] at hpad
   change (putL (r++128::zz (127 - r.length)) (64 - 8) 8 ((m.length:Int)*8) 8).length=128 at hTl
   have hT8:∀ z∈putL (r++128::zz (127 - r.length)) (64 - 8) 8 ((m.length:Int)*8) 8,in8 z:=by
    refine putL_in8 fun z hz => ?_
    rcases List.mem_append.1 hz with q | q
    ·
     exact hr8 z q
    ·
     rcases List.mem_cons.1 q with q | q
     ·
      rw [q]; exact ⟨by decide,by decide⟩
     ·
      rw [(List.mem_replicate.1 q).2]; exact ⟨by decide,by decide⟩
   refine WpD.loop (L:={ live:=[0,2,3,4,5,6,7,8,14,31,46,53,54,55] }) dg6_good X0_ok nr_mixed (by kernel_rfl)
    (fun q:PT=>⟨[(2,⟨true,.v (.s (.box 0 0))⟩),(3,⟨true,.v (.s (.box 1 0))⟩),(4,⟨true,.v (.s (.bbx 100 1 0))⟩),(6,⟨true,.v (.s (.part t8 2 q.off (64 - q.off) (128 - q.off)))⟩)],[.cells [.int .u8 0,.int .u8 0,.int .u8 0,.int .u8 0,.int .u8 0,.int .u8 0,.int .u8 0,.int .u8 0,.int .u8 0,.int .u8 0,.int .u8 0,.int .u8 0,.int .u8 0,.int .u8 0,.int .u8 0,.int .u8 0,.int .u8 0,.int .u8 0,.int .u8 0,.int .u8 0,.int .u8 0,.int .u8 0,.int .u8 0,.int .u8 0,.int .u8 0,.int .u8 0,.int .u8 0,.int .u8 0,.int .u8 0,.int .u8 0,.int .u8 0,.int .u8 0],.cells [.int .u32 q.s.a,.int .u32 q.s.b,.int .u32 q.s.c,.int .u32 q.s.d,.int .u32 q.s.e,.int .u32 q.s.f,.int .u32 q.s.g,.int .u32 q.s.h],.cells (t8.flats (putL (r++128::zz (127 - r.length)) (64 - 8) 8 ((m.length:Int)*8) 8))]⟩)
    (fun q=>q.s.ok∧q.off≤64∧q.off % 64=0∧shaL q.s (((putL (r++128::zz (127 - r.length)) (64 - 8) 8 ((m.length:Int)*8) 8).take 64).drop q.off)=shaL s0 (shPad m)) (fun q=>64 - q.off) ⟨v,0⟩ ⟨hv,Nat.zero_le _,rfl,hpad⟩ (Turn.le (by simp -dsimp -implicitDefEqProofs)) ?_
   generalize putL (r++128::zz (127 - r.length)) (64 - 8) 8 ((m.length:Int)*8) 8=T at hTl hT8 hpad ⊢
   rintro ⟨u,off⟩ ⟨hu,ho,ho6,hush⟩
   simp only at hu ho ho6 hush
   by_cases hof:off<64
   ·
    have hprs:t8.parses 64 (List.take 64 (List.drop off (t8.flats T)))=some ((T.drop off).take 64):=by
     rw [fl8_map,← List.map_drop,← List.map_take,← fl8_map]
     exact parses_flats' (t:=t8) (by rw [List.length_take,List.length_drop]; omega)
    have hoff:off≤64:=by omega
    obtain ⟨u',hu'⟩:∃ u',u'=blkS u ((T.drop off).take 64):=⟨_,rfl⟩
    have hbl:blkS ⟨u.a,u.b,u.c,u.d,u.e,u.f,u.g,u.h⟩ ((T.drop off).take 64)=u':=hu'.symm
    have hok':u'.ok:=hu'▸blkS_ok u _
    have hXl:((T.take 64).drop off).length=64 - off:=by rw [List.length_drop,List.length_take]; omega
    have hX:((T.take 64).drop off).take 64=(T.drop off).take 64:=by rw [List.drop_take,List.take_take,show min 64 (64 - off)=64 by omega]
    rw [shaL_step (by rw [hXl]; omega),List.drop_drop,← blkS_take,hX,← hu'] at hush
    have hcc:(((128 - off:Nat):Int) - 64).toNat=128 - (off+64):=by omega
    have hcd:(((64 - off:Nat):Int) - 64).toNat=64 - (off+64):=by omega
    simp -dsimp -implicitDefEqProofs [conAbs,S8.sv_eq,hprs,-Ty.parses,hTl,hoff,hbl,hcc,hcd,dg6_all,dg6_S,inI64]
    exact ⟨fun _=>⟨by omega,hu,fun z hz=>hT8 z (List.mem_of_mem_drop (List.mem_of_mem_take hz)),by omega,by omega,⟨u',off+64⟩,⟨hok',by show off+64≤64; omega,by show (off+64) % 64=0; omega,hush⟩,by show 64 - (off+64)<_; omega,TurnT.le (by simp -dsimp -implicitDefEqProofs)⟩,fun q=>by omega⟩
   ·
    have hoe:off=64:=by omega
    have hdn:(T.take 64).drop off=[]:=List.drop_eq_nil_of_le (by rw [List.length_take]; omega)
    rw [hdn,shaL_short (by decide)] at hush
    have hsum:shaSum m=outB u:=by rw [hush]; rfl
    have hoz:64 - off=0:=by omega
    simp -dsimp -implicitDefEqProofs [conAbs,hoz,dg6_all,dg6_S,inI64]
    refine WpD.loop (L:={ live:=[0,2,3,4,5,6,7,8,14,31,46,53,54,55] }) dg6_good X0_ok nr_mixed (by kernel_rfl)
     (fun k:Nat=>⟨[(2,⟨true,.v (.s (.box 0 0))⟩),(53,⟨true,.v (.agg (t32.flats u.list))⟩),(54,vI k)],[.cells (t8.flats ((outB u).take (4*k)++zz (32 - 4*k))),.cells [.int .u32 u.a,.int .u32 u.b,.int .u32 u.c,.int .u32 u.d,.int .u32 u.e,.int .u32 u.f,.int .u32 u.g,.int .u32 u.h],.cells (t8.flats T)]⟩)
     (fun k=>k≤8) (fun k=>8 - k) 0 (Nat.zero_le _) (Turn.le (by simp -dsimp -implicitDefEqProofs; exact ⟨rfl,rfl⟩)) ?_
    intro k hk
    by_cases hk8:k<8
    ·
     have g2:(t32.flats u.list)[k]?=some (.int .u32 (u.list.getD k 0)):=by rw [fl_get (by show k<8; exact hk8),List.getD_eq_getElem?_getD]
     have hll:(t32.flats u.list).length=8:=rfl
     have hop:=out_put u hk8
     have hw:in32 (u.list.getD k 0):=list_in hu k
     have hin:(List.take (4*k) (outB u)++zz (32 - 4*k)).length=32:=by rw [List.length_append,List.length_take,zz_len,out_len]; omega
     generalize u.list.getD k 0=w at g2 hop hw
     have hw64:IntKind.u64.wrap w=w:=by rw [wm]; unfold in32 at hw; omega
     have e1:(4*(k:Int)).toNat=4*k:=by omega
     have e2:(4*(k:Int)+4 - 4*(k:Int)).toNat=4:=by omega
     simp -dsimp -implicitDefEqProofs [conPut,g2,hll,hw64,e1,e2,dg6_all,dg6_S,inI64]
     exact ⟨fun _=>⟨by omega,⟨by omega,by omega⟩,⟨by omega,by omega⟩,⟨by omega,by omega,by omega,by omega⟩,_,rfl,by rw [hin]; omega,by rw [hin]; decide,⟨by omega,by omega⟩,k+1,by omega,by omega,TurnT.le (by rw [hop]; simp -dsimp -implicitDefEqProofs)⟩,fun q=>by omega⟩
    ·
     have hk9:k=8:=by omega
     have hta:(outB u).take (4*k)=outB u:=List.take_of_length_le (by rw [out_len]; omega)
     have hz:zz (32 - 4*k)=[]:=by rw [hk9]; rfl
     rw [hta,hz,List.append_nil]
     have hol:=out_len u
     rw [hk9]
     generalize outB u=O at hol hsum
     have hft:List.take 32 (t8.flats O)=t8.flats O:=List.take_of_length_le (by rw [flats_length,hol]; decide)
     simp -dsimp -implicitDefEqProofs [conSumR_eq,hsum,hol,hft,frzL_int O,dg6_all,dg6_S,inI64]
     done
end Go.Am
