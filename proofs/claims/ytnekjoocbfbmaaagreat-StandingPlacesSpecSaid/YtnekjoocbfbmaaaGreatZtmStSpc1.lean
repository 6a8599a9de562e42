/- A last part of the proof's base. -/
import Derived.Test.YtnekjoocbfbmaaaGreatZ10
set_option linter.all false
noncomputable section
namespace Go.Am
open Go.RowKit
section
variable {P:Program} {g:G} {X:XT} {N:Nat} {w:World} {M M' M0:Nat→Prop} {bs:Bs} {hp:List Blk}
theorem relSV_evoM (he:Evo M M' w w) {x:SV} {v:Value} (h:relSV w M bs hp x v):relSV w M' bs hp x v:=by
 cases x with
 | sl t xs ex=>obtain ⟨a,c,h1,h2,h3,h4,h5⟩:=h; exact ⟨a,c,h1,h2,h3,h4,h5.evo he⟩
 | eptr t x=>obtain ⟨b,off,cs,h1,h2,h3,h4,h5⟩:=h; exact ⟨b,off,cs,h1,he.free b h3 h2,h3,rep_evo he _ _ _ h4,h5⟩
 | fnp f caps=>obtain ⟨ps,h1,h2⟩:=h; exact ⟨ps,h1,h2.imp fun c p hp=>hp.evo he⟩
 | fv x=>exact RepD.evo he h
 | own t id n =>
  obtain ⟨h1,h2⟩:=h
  refine ⟨h1,fun al cs hl=>⟨(h2 al cs hl).1,fun hlen => ?_⟩⟩
  rcases (h2 al cs hl).2 hlen with h | ⟨k1,xs,a,k2,k3,k4,k5,k6⟩
  ·
   exact .inl h
  ·
   exact .inr ⟨k1,xs,a,k2,k3,k4,k5,k6.evo he⟩
 | _=>exact h
theorem relAV_evoM (he:Evo M M' w w) {x:AV} {v:Value} (h:relAV w M bs hp x v):relAV w M' bs hp x v:=by
 cases x with
 | s x=>exact relSV_evoM he h
 | agg cs=>obtain ⟨vs,rfl,h⟩:=h; exact ⟨vs,rfl,h.imp fun x u hu=>⟨relSV_evoM he hu.1,hu.2⟩⟩
def envSel (sel:List Nat) (e:Env):Env→Prop
 | []=>True
 | (s,y)::r=>(∃ ok x,look e s=some ⟨ok,.v x⟩∧y=⟨ok,.v (x.ren (idx sel))⟩∧∀ id∈x.ids,id∈sel)∧envSel sel e r
theorem envSel_look {sel:List Nat} {e:Env}:∀ {e':Env} {s:Nat} {y:SL},envSel sel e e'→look e' s=some y→∃ ok x,look e s=some ⟨ok,.v x⟩∧y=⟨ok,.v (x.ren (idx sel))⟩∧∀ id∈x.ids,id∈sel
 | [],s,y,_,h=>by simp [look] at h
 | (k,z)::r,s,y,hb,h=>by
  simp only [look] at h
  split at h
  ·
   rename_i e1; subst e1; injection h with h; subst h; exact hb.1
  ·
   exact envSel_look hb.2 h
theorem TurnT.sel (sel:List Nat) {n:Nat} {e e':Env} {hp hp':List Blk} (h0:n=0) (hnd:sel.Nodup) (hlt:∀ id∈sel,id<hp.length) (hpure:∀ id∈sel,(Blk.look hp id).pureB=true) (hh:hp'=sel.map (Blk.look hp)) (he:envSel sel e e') :
  TurnT P g X N n ⟨e,hp⟩ ⟨e',hp'⟩:=by
 subst h0
 subst hh
 intro n0 w M0 bs a hr
 have hat:∀ j b,Bs.at (sel.map bs.at) j=some b→∃ id,sel[j]?=some id∧bs.at id=some b:=by
  intro j b h
  rw [at_map] at h
  cases hs:sel[j]? with
  | none=>rw [hs] at h; cases h
  | some id=>rw [hs] at h; exact ⟨id,rfl,h⟩
 have hsub:∀ b,b<w.heap.size→Mof M0 (sel.map bs.at) b→Mof M0 bs b:=by
  rintro b _ (h | ⟨j,h⟩)
  ·
   exact .inl h
  ·
   obtain ⟨id,_,h2⟩:=hat j b h
   exact .inr ⟨id,h2⟩
 have hev:Evo (Mof M0 bs) (Mof M0 (sel.map bs.at)) w w:=Evo.more w hsub
 have hr1:HR w M0 (sel.map bs.at) (sel.map (Blk.look hp)):=hr.hr.select sel hnd hpure hr.hr.m0 (fun id _ b hb=>hr.hr.out id b hb) hsub
 have hnt:∀ j l ys i st,Blk.look (sel.map (Blk.look hp)) j≠.trace l ys i st:=by
  intro j l ys i st h
  rw [look_map] at h
  cases hs:sel[j]? with
  | none=>rw [hs] at h; cases h
  | some id =>
   rw [hs] at h
   have:=hpure id (List.mem_of_getElem? hs)
   rw [show Blk.look hp id=_ from h] at this
   cases this
 have hx:XR X w M0 (sel.map bs.at) (sel.map (Blk.look hp)):=fun l ys i st ht=>absurd ht (hnt 0 l ys i st)
 have hσ:∀ id∈sel,Blk.look (sel.map (Blk.look hp)) (idx sel id)=Blk.look hp id∧Bs.at (sel.map bs.at) (idx sel id)=bs.at id∧idx sel id<(sel.map (Blk.look hp)).length:=by
  intro id hid
  have h1:=idx_spec sel id hid
  refine ⟨by rw [look_map,h1],by rw [at_map,h1]; rfl,?_⟩
  rw [List.length_map]
  exact (List.getElem?_eq_some_iff.1 h1).1
 refine ⟨sel.map bs.at,⟨hr1,hx,fun s y hs => ?_,hr.size,hr.df.evo hev⟩,fun w0 M00 bs0 hp0 hl hnx=>⟨hr1,hx,?_,hnx.eq⟩⟩
 ·
  obtain ⟨ok,x,h1,rfl,h2⟩:=envSel_look he hs
  have h3:=hr.env s _ h1
  refine ⟨fun ho => ?_,h3.2⟩
  have h4:relAV w (Mof M0 bs) bs hp x _:=h3.1 ho
  have h5:=relAV_ren (bs':=sel.map bs.at) (hp':=sel.map (Blk.look hp)) (σ:=idx sel) hr.hr.len (fun id hid _=>hσ id (h2 id hid)) h4
  exact relAV_evoM hev h5
 ·
  have hst:=hnx.st
  have hz:hp0.length=0:=by omega
  change Step g.y w0 (Mof M00 bs0) bs0 hp0 w (Mof M0 (sel.map bs.at)) (sel.map bs.at) (sel.map (Blk.look hp))
  refine ⟨hst.evo.trans hev,by omega,?_,?_,?_,fun hv => ?_⟩
  ·
   intro id cs h1 h2; omega
  ·
   intro id b k u es h1 h2
   have hlt:id<hp0.length:=look_lt (by rw [h2]; simp)
   omega
  ·
   intro id al cs hid h; omega
  ·
   have ho:=hst.only hv
   refine ⟨ho.old,fun b hb hn j hj => ?_,fun j l ys i st ht=>absurd ht (hnt j l ys i st)⟩
   obtain ⟨id,_,h2⟩:=hat j b hj
   exact ho.new b hb hn id h2
end
end Go.Am
namespace Go.Am
set_option maxHeartbeats 4000000
set_option maxRecDepth 20000
open Go.RowKit Go.Proofs
attribute [local simp] thenKD_normal thenKD_exit thenKD_goto thenKD_ret inBlockKD_normal inBlockKD_exit inBlockKD_goto inBlockKD_ret noGotoKD_normal noGotoKD_exit noGotoKD_goto noGotoKD_ret roundKD_normal roundKD_exit roundKD_goto roundKD_ret frzSlotsD_nil frzSlotsD_cons frzSlotD_eq yieldVCD_trace opVCD_eq vcOpsD_nil vcOpsD_cons vcAllD_zero vcAllD_succ allAtD_nil allAtD_cons readyAux edgA vcD_skip vcD_label vcD_exit vcD_goto vcD_ret vcD_region vcD_seq vcD_seqC vcD_cond vcCondD_bool vcD_block vcD_scope vcD_loop vcD_rangeFunc yieldOf isMem isMem0 keepE envLe St.le psE yieldAV round_td round_y round_Γ vI vB vS aI aB aS look getE oper opRV putE allOk okOps Op.operands Call.operands pEv qEv mEv constRV coe RV.av loadEv loadCs takeAt indexAddrEv fieldAddrEv binEv intEv arith unEv gcond pickEv argsEv callVal callEv capAV_mk lenArgs lenEv minEv extractEv convEv funcEv allBox bound sliceEv lookupEv TD.isBool allocEv boxEv storeEv spl plainTD appendEv appendArgs makeMapEv mapUpdateEv buildEv buildSliceEv fillSV zsvOf sizeTD Ty.parses parses_flats' coeA flats_length AV.good AV.cells AV.pure SV.pure av_int av_bool av_str av_slice av_cons av_fld0 av_fld1 av_fld2 av_fld3 av_fld4 Ty.of Ty.dflt Ty.parse Ty.flat Ty.zsv Ty.fld Ty.get Ty.off Ty.nfld Ty.size coeTy junk Blk.look argEnv resEv resOk resVs oneRV retOk frzAs frzAV frzL frzSV boxCaps boxCap SV.sig sigs RV.scalar AV.scalar SV.scalar nope effVCD_eq effOf SV.ids AV.ids dedup SV.ren AV.ren RV.ren idx outId mergeB Blk.pureB flats_pure flat_pure epsSlotsD_nil epsSlotsD_cons epsSlotD_eq allEp D.parts_fnOf fvParts retEff round_E av_fn G.ye isCutD_nil isCutD_cons firstReg_region firstReg_seq firstReg_skip firstReg_ret firstReg_label firstReg_exit firstReg_goto firstReg_cond firstReg_block firstReg_scope firstReg_loop firstReg_rf eptrOf_mk flOfD_nil flOfD_cons vcFlD_cons vcFlD_nil flPairs_nil flPairs_cons vcFrD_nil vcFrD_cons makeSliceEv vcCondD_ib fzEv unfl_flats isFz round_fz panVCD_eq panOf isShift strIdxEv ifaceEv nilChkEv sliceAnyEv sliceOwnEv sliceSufEv appendEv0 appendEv1 Ty.beq Ty.isAgg round_Pn vcDefD_seqR vcDefD_seqS vcDefD_seqC vcDefD_seqB vcDefD_seqL vcDefD_seqF vcDefD_seqSc vcDefD_region vcDefD_ret vcDefD_cond vcDefD_block vcDefD_loop thenKD_panic inBlockKD_panic noGotoKD_panic exitOk_normal exitOk_ret exitOk_panic exitOk_exit runDefs_none runDefs_some runDefs_cons defRegD isDefer defOf caughtCon unfl_cons D.bpart_bndOf D.parts_bndOf AV.sig
attribute [local simp ←] flats_append
def reT:List (TypeId×TD):=[(1,.func),(2,.sc tI),(3,.sc tI),(4,.sc .bool),(5,.sc (.int .u8)),(6,.sc (.int .u8)),(22,.slice 120 tKey 32),(23,.slice 46 tKd 144),(27,.sc tI),(39,.slice 3 tI 8),(41,.struct tBig),(43,.struct tRat),(44,.slice 43 tRat 64),(46,.struct tKd),(120,.struct tKey)]
theorem reT_ok (g:G) (hg:g.τ=reT):G.ok Tryz.prog g:=by
 refine ok_of_all ?_
 rw [hg]
 simp only [reT,List.forall_mem_cons]
 refine ⟨?_,?_,?_,?_,?_,?_,?_,?_,?_,?_,?_,?_,?_,?_,?_,by simp⟩
 ·
  exact ⟨⟨_,_,_,Tryz.underlying1⟩,by kernel_rfl⟩
 ·
  exact ⟨by kernel_rfl,rfl,by kernel_rfl,rfl⟩
 ·
  exact ⟨by kernel_rfl,rfl,by kernel_rfl,rfl⟩
 ·
  exact ⟨by kernel_rfl,rfl,by kernel_rfl,rfl⟩
 ·
  exact ⟨by kernel_rfl,rfl,by kernel_rfl,rfl⟩
 ·
  exact ⟨by kernel_rfl,rfl,by kernel_rfl,rfl⟩
 ·
  exact ⟨by kernel_rfl,by decide,by kernel_rfl,⟨cellsV (Ty.zcells tKey),by kernel_rfl,by kernel_rfl,by kernel_rfl⟩,by kernel_rfl⟩
 ·
  exact ⟨by kernel_rfl,by decide,by kernel_rfl,⟨cellsV (Ty.zcells tKd),by kernel_rfl,by kernel_rfl,by kernel_rfl⟩,by kernel_rfl⟩
 ·
  exact ⟨by kernel_rfl,rfl,by kernel_rfl,rfl⟩
 ·
  exact ⟨by kernel_rfl,by decide,by kernel_rfl,⟨cellsV (Ty.zcells tI),by kernel_rfl,by kernel_rfl,by kernel_rfl⟩,by kernel_rfl⟩
 ·
  exact ⟨fieldsOf Tryz.prog 41,by kernel_rfl,by kernel_rfl,by kernel_rfl,by decide,by kernel_rfl⟩
 ·
  exact ⟨fieldsOf Tryz.prog 43,by kernel_rfl,by kernel_rfl,by kernel_rfl,by decide,by kernel_rfl⟩
 ·
  exact ⟨by kernel_rfl,by decide,by kernel_rfl,⟨cellsV (Ty.zcells tRat),by kernel_rfl,by kernel_rfl,by kernel_rfl⟩,by kernel_rfl⟩
 ·
  exact ⟨fieldsOf Tryz.prog 46,by kernel_rfl,by kernel_rfl,by kernel_rfl,by decide,by kernel_rfl⟩
 ·
  exact ⟨fieldsOf Tryz.prog 120,by kernel_rfl,by kernel_rfl,by kernel_rfl,by decide,by kernel_rfl⟩
def re0Γ:List (FuncId×Con):=[]
theorem re0Γ_ok:∀ p∈re0Γ,(∀ (args:Array Value) (w:World),(callFunc p.1 args).run Tryz.prog w=.ok (.enter p.1 args) w)∧PureOk Tryz.prog p.1 p.2:=by simp [re0Γ]
def re0E:List (FuncId×ECon):=[]
theorem re0E_ok:∀ p∈re0E,(∀ (args:Array Value) (w:World),(callFunc p.1 args).run Tryz.prog w=.ok (.enter p.1 args) w)∧EffOk Tryz.prog p.1 p.2:=by simp [re0E]
def re0P:List (FuncId×PCon):=[]
theorem re0P_ok:∀ p∈re0P,(∀ (args:Array Value) (w:World),(callFunc p.1 args).run Tryz.prog w=.ok (.enter p.1 args) w)∧PanOk Tryz.prog p.1 p.2:=by simp [re0P]
def re0:G:={ τ:=reT,Γ:=re0Γ,E:=re0E,Pn:=re0P }
theorem re0_good:re0.good Tryz.prog:=good_of_all (reT_ok _ rfl) re0Γ_ok re0E_ok re0P_ok
theorem re0_all:(∀ t,re0.td t=(look reT t).getD .other)∧re0.y=false∧re0.Γ=re0Γ∧re0.E=re0E∧re0.Pn=re0P∧re0.fz=[]:=⟨fun _=>rfl,rfl,rfl,rfl,rfl,rfl⟩
def re1Γ:List (FuncId×Con):=(126,conRatC)::(127,conCmpR)::re0Γ
theorem re1Γ_ok:∀ p∈re1Γ,(∀ (args:Array Value) (w:World),(callFunc p.1 args).run Tryz.prog w=.ok (.enter p.1 args) w)∧PureOk Tryz.prog p.1 p.2:=by
 simp only [re1Γ,List.forall_mem_cons]
 exact ⟨⟨enters_of Tryz.func126 (by kernel_rfl) rfl,rratc_ok⟩,⟨enters_of Tryz.func127 (by kernel_rfl) rfl,rcmpr_ok⟩,re0Γ_ok⟩
def re1E:List (FuncId×ECon):=re0E
theorem re1E_ok:∀ p∈re1E,(∀ (args:Array Value) (w:World),(callFunc p.1 args).run Tryz.prog w=.ok (.enter p.1 args) w)∧EffOk Tryz.prog p.1 p.2:=by
 simp only [re1E]
 exact re0E_ok
def re1P:List (FuncId×PCon):=re0P
theorem re1P_ok:∀ p∈re1P,(∀ (args:Array Value) (w:World),(callFunc p.1 args).run Tryz.prog w=.ok (.enter p.1 args) w)∧PanOk Tryz.prog p.1 p.2:=by
 simp only [re1P]
 exact re0P_ok
def re1:G:={ τ:=reT,Γ:=re1Γ,E:=re1E,Pn:=re1P }
theorem re1_good:re1.good Tryz.prog:=good_of_all (reT_ok _ rfl) re1Γ_ok re1E_ok re1P_ok
theorem re1_all:(∀ t,re1.td t=(look reT t).getD .other)∧re1.y=false∧re1.Γ=re1Γ∧re1.E=re1E∧re1.Pn=re1P∧re1.fz=[]:=⟨fun _=>rfl,rfl,rfl,rfl,rfl,rfl⟩
def conRFew:Con:=⟨fun args=>(match args with
 | [.agg [.bool n1,.sl (.int .i64) m1 _,.bool n2,.sl (.int .i64) m2 _]]=>True
 | _=>False),fun args=>match args with
 | [.agg [.bool n1,.sl (.int .i64) m1 _,.bool n2,.sl (.int .i64) m2 _]]=>.v (aB (!oddR (mkR n1 m1 n2 m2)))
 | _=>.v (.s .any)⟩
theorem conRFew_eq (n1:Bool) (m1:List (Ty.T tI)) (exm1:Bool) (n2:Bool) (m2:List (Ty.T tI)) (exm2:Bool):conRFew.pre [.agg [.bool n1,.sl tI m1 exm1,.bool n2,.sl tI m2 exm2]]=(True)∧conRFew.val [.agg [.bool n1,.sl tI m1 exm1,.bool n2,.sl tI m2 exm2]]=.v (aB (!oddR (mkR n1 m1 n2 m2))):=⟨rfl,rfl⟩
theorem rfew_ok:PureOk Tryz.prog 93 conRFew:=by
 refine pureOkD (L:={ live:=[0,1,2] }) re1_good rfl nr_mixed Tryz.func93 rfl conRFew 1 (by decide) (by kernel_rfl) ?_
 intro args hpre hlens
 simp only [conRFew] at hpre
 split at hpre
 case h_2=>exact hpre.elim
 rename_i n1 m1 e1 n2 m2 e2
 simp only [allLen,AV.lenOk,SV.lenOk,Ty.lenOk,maxLen,and_true,implies_true,true_and,List.forall_mem_cons,List.not_mem_nil,false_implies] at hlens
 refine ⟨rfl,?_⟩
 simp -dsimp -implicitDefEqProofs [Tryz.f93,conRFew_eq,re1_all,reT,re1Γ,re1E,re1P,re0Γ,re0E,re0P,conRatC_eq,conCmpR_eq,inI64]
 obtain ⟨m1,rfl⟩:∃ y:List Int,y=m1:=⟨m1,rfl⟩; obtain ⟨m2,rfl⟩:∃ y:List Int,y=m2:=⟨m2,rfl⟩
 rw [Bool.eq_iff_iff]
 have h1:ratErr n1 m1 n2 m2=0↔okR (mkR n1 m1 n2 m2):=ratErr_0
 have h2:shortR (mkR n1 m1 n2 m2)↔m1.length≤1024∧m2.length≤1024:=Iff.rfl
 simp [oddR,h1,h2,and_assoc]
 omega
def conRtios:Con:=⟨fun args=>(match args with
 | [.agg [.bool n1,.sl (.int .i64) m1 _,.bool n2,.sl (.int .i64) m2 _],.agg [.bool k1,.sl (.int .i64) l1 _,.bool k2,.sl (.int .i64) l2 _]]=>(okR (mkR n1 m1 n2 m2)∧okR (mkR k1 l1 k2 l2))∧shortR (mkR n1 m1 n2 m2)∧shortR (mkR k1 l1 k2 l2)
 | _=>False),fun args=>match args with
 | [.agg [.bool n1,.sl (.int .i64) m1 _,.bool n2,.sl (.int .i64) m2 _],.agg [.bool k1,.sl (.int .i64) l1 _,.bool k2,.sl (.int .i64) l2 _]]=>.v (aI (cmpR (mkR n1 m1 n2 m2) (mkR k1 l1 k2 l2)))
 | _=>.v (.s .any)⟩
theorem conRtios_eq (n1:Bool) (m1:List (Ty.T tI)) (exm1:Bool) (n2:Bool) (m2:List (Ty.T tI)) (exm2:Bool) (k1:Bool) (l1:List (Ty.T tI)) (exl1:Bool) (k2:Bool) (l2:List (Ty.T tI)) (exl2:Bool):conRtios.pre [.agg [.bool n1,.sl tI m1 exm1,.bool n2,.sl tI m2 exm2],.agg [.bool k1,.sl tI l1 exl1,.bool k2,.sl tI l2 exl2]]=((okR (mkR n1 m1 n2 m2)∧okR (mkR k1 l1 k2 l2))∧shortR (mkR n1 m1 n2 m2)∧shortR (mkR k1 l1 k2 l2))∧conRtios.val [.agg [.bool n1,.sl tI m1 exm1,.bool n2,.sl tI m2 exm2],.agg [.bool k1,.sl tI l1 exl1,.bool k2,.sl tI l2 exl2]]=.v (aI (cmpR (mkR n1 m1 n2 m2) (mkR k1 l1 k2 l2))):=⟨rfl,rfl⟩
theorem rtios_ok:PureOk Tryz.prog 94 conRtios:=by
 refine pureOkD (L:={ live:=[0,1,2,3,4,5] }) re1_good rfl nr_mixed Tryz.func94 rfl conRtios 2 (by decide) (by kernel_rfl) ?_
 intro args hpre hlens
 simp only [conRtios] at hpre
 split at hpre
 case h_2=>exact hpre.elim
 rename_i n1 m1 e1 n2 m2 e2 k1 l1 f1 k2 l2 f2
 simp only [allLen,AV.lenOk,SV.lenOk,Ty.lenOk,maxLen,and_true,implies_true,true_and,List.forall_mem_cons,List.not_mem_nil,false_implies] at hlens
 refine ⟨rfl,?_⟩
 simp -dsimp -implicitDefEqProofs [Tryz.f94,conRtios_eq,re1_all,reT,re1Γ,re1E,re1P,re0Γ,re0E,re0P,conRatC_eq,conCmpR_eq,inI64]
 obtain ⟨m1,rfl⟩:∃ y:List Int,y=m1:=⟨m1,rfl⟩; obtain ⟨m2,rfl⟩:∃ y:List Int,y=m2:=⟨m2,rfl⟩; obtain ⟨l1,rfl⟩:∃ y:List Int,y=l1:=⟨l1,rfl⟩; obtain ⟨l2,rfl⟩:∃ y:List Int,y=l2:=⟨l2,rfl⟩
 obtain ⟨⟨o1,o2⟩,⟨a1,a2⟩,b1,b2⟩:=hpre
 simp only at a1 a2 b1 b2
 refine ⟨fun _ _=>⟨by omega,by omega⟩,?_⟩
 rw [if_pos (show okRat n1 m1 n2 m2∧okRat k1 l1 k2 l2 from ⟨o1,o2⟩)]
 rfl
def conInts:Con:=⟨fun args=>(match args with
 | [.s (.int .i64 a),.s (.int .i64 b)]=>True
 | _=>False),fun args=>match args with
 | [.s (.int _ a),.s (.int _ b)]=>.v (aI (cmpZ a b))
 | _=>.v (.s .any)⟩
theorem conInts_eq (a:Int) (b:Int):conInts.pre [.s (.int .i64 a),.s (.int .i64 b)]=(True)∧conInts.val [.s (.int .i64 a),.s (.int .i64 b)]=.v (aI (cmpZ a b)):=⟨rfl,rfl⟩
theorem ints_ok:PureOk Tryz.prog 128 conInts:=by
 refine pureOkD (L:={ live:=[0,1,4,7,10] }) re0_good rfl nr_mixed Tryz.func128 rfl conInts 2 (by decide) (by kernel_rfl) ?_
 intro args hpre hlens
 simp only [conInts] at hpre
 split at hpre
 case h_2=>exact hpre.elim
 rename_i a b
 simp only [allLen,AV.lenOk,SV.lenOk,Ty.lenOk,maxLen,and_true,implies_true,true_and,List.forall_mem_cons,List.not_mem_nil,false_implies] at hlens
 refine ⟨rfl,?_⟩
 simp -dsimp -implicitDefEqProofs [Tryz.f128,conInts_eq,re0_all,reT,re0Γ,re0E,re0P,inI64]
 refine ⟨fun h=>(cmpZ_lt h).symm,fun h=>⟨fun h2=>(cmpZ_gt h2).symm,fun h2 => ?_⟩⟩
 rw [Int.le_antisymm h h2]
 exact (cmpZ_zero.2 rfl).symm
def fairX (x:tKd.T):Prop:=(okR x.2.1∧shortR x.2.1)∧(∀ r∈x.2.2.1,okR r∧shortR r)∧∀ r∈x.2.2.2.1,okR r∧shortR r
theorem great_ok2 {a b:tRat.T} (ha:okR a) (hb:okR b):greatR a b=cmpR b a:=if_pos ⟨hb,ha⟩
def re2Γ:List (FuncId×Con):=(93,conRFew)::(94,conRtios)::(128,conInts)::re1Γ
theorem re2Γ_ok:∀ p∈re2Γ,(∀ (args:Array Value) (w:World),(callFunc p.1 args).run Tryz.prog w=.ok (.enter p.1 args) w)∧PureOk Tryz.prog p.1 p.2:=by
 simp only [re2Γ,List.forall_mem_cons]
 exact ⟨⟨enters_of Tryz.func93 (by kernel_rfl) rfl,rfew_ok⟩,⟨enters_of Tryz.func94 (by kernel_rfl) rfl,rtios_ok⟩,⟨enters_of Tryz.func128 (by kernel_rfl) rfl,ints_ok⟩,re1Γ_ok⟩
def re2E:List (FuncId×ECon):=re1E
theorem re2E_ok:∀ p∈re2E,(∀ (args:Array Value) (w:World),(callFunc p.1 args).run Tryz.prog w=.ok (.enter p.1 args) w)∧EffOk Tryz.prog p.1 p.2:=by
 simp only [re2E]
 exact re1E_ok
def re2P:List (FuncId×PCon):=re1P
theorem re2P_ok:∀ p∈re2P,(∀ (args:Array Value) (w:World),(callFunc p.1 args).run Tryz.prog w=.ok (.enter p.1 args) w)∧PanOk Tryz.prog p.1 p.2:=by
 simp only [re2P]
 exact re1P_ok
def re2:G:={ τ:=reT,Γ:=re2Γ,E:=re2E,Pn:=re2P }
theorem re2_good:re2.good Tryz.prog:=good_of_all (reT_ok _ rfl) re2Γ_ok re2E_ok re2P_ok
theorem re2_all:(∀ t,re2.td t=(look reT t).getD .other)∧re2.y=false∧re2.Γ=re2Γ∧re2.E=re2E∧re2.Pn=re2P∧re2.fz=[]:=⟨fun _=>rfl,rfl,rfl,rfl,rfl,rfl⟩
def conByK:Con:=⟨fun args=>(match args with
 | [.agg [.int .i64 kd,.str s,.int .i64 n],.agg [.int .i64 en,.bool n1,.sl (.int .i64) m1 _,.bool n2,.sl (.int .i64) m2 _,.sl (.cons (.cons .bool (.cons (.slice (.int .i64)) .nil)) (.cons (.cons .bool (.cons (.slice (.int .i64)) .nil)) .nil)) tot _,.sl (.cons (.cons .bool (.cons (.slice (.int .i64)) .nil)) (.cons (.cons .bool (.cons (.slice (.int .i64)) .nil)) .nil)) prv _,.int .i64 hi,.int .i64 bo,.int .i64 lo],.agg [.int .i64 en',.bool n1',.sl (.int .i64) m1' _,.bool n2',.sl (.int .i64) m2' _,.sl (.cons (.cons .bool (.cons (.slice (.int .i64)) .nil)) (.cons (.cons .bool (.cons (.slice (.int .i64)) .nil)) .nil)) tot' _,.sl (.cons (.cons .bool (.cons (.slice (.int .i64)) .nil)) (.cons (.cons .bool (.cons (.slice (.int .i64)) .nil)) .nil)) prv' _,.int .i64 hi',.int .i64 bo',.int .i64 lo']]=>(hasK (kd,s,n,()) (mkK en n1 m1 n2 m2 tot prv hi bo lo)=true∧hasK (kd,s,n,()) (mkK en' n1' m1' n2' m2' tot' prv' hi' bo' lo')=true)∧fairX (mkK en n1 m1 n2 m2 tot prv hi bo lo)∧fairX (mkK en' n1' m1' n2' m2' tot' prv' hi' bo' lo')
 | _=>False),fun args=>match args with
 | [.agg [.int _ kd,.str s,.int _ n],.agg [.int _ en,.bool n1,.sl (.int .i64) m1 _,.bool n2,.sl (.int .i64) m2 _,.sl (.cons (.cons .bool (.cons (.slice (.int .i64)) .nil)) (.cons (.cons .bool (.cons (.slice (.int .i64)) .nil)) .nil)) tot _,.sl (.cons (.cons .bool (.cons (.slice (.int .i64)) .nil)) (.cons (.cons .bool (.cons (.slice (.int .i64)) .nil)) .nil)) prv _,.int _ hi,.int _ bo,.int _ lo],.agg [.int _ en',.bool n1',.sl (.int .i64) m1' _,.bool n2',.sl (.int .i64) m2' _,.sl (.cons (.cons .bool (.cons (.slice (.int .i64)) .nil)) (.cons (.cons .bool (.cons (.slice (.int .i64)) .nil)) .nil)) tot' _,.sl (.cons (.cons .bool (.cons (.slice (.int .i64)) .nil)) (.cons (.cons .bool (.cons (.slice (.int .i64)) .nil)) .nil)) prv' _,.int _ hi',.int _ bo',.int _ lo']]=>.v (aI (firstK (kd,s,n,()) (mkK en n1 m1 n2 m2 tot prv hi bo lo) (mkK en' n1' m1' n2' m2' tot' prv' hi' bo' lo')))
 | _=>.v (.s .any)⟩
theorem conByK_eq (kd:Int) (s:ByteArray) (n:Int) (en:Int) (n1:Bool) (m1:List (Ty.T tI)) (exm1:Bool) (n2:Bool) (m2:List (Ty.T tI)) (exm2:Bool) (tot:List (Ty.T tRat)) (extot:Bool) (prv:List (Ty.T tRat)) (exprv:Bool) (hi:Int) (bo:Int) (lo:Int) (en':Int) (n1':Bool) (m1':List (Ty.T tI)) (exm1':Bool) (n2':Bool) (m2':List (Ty.T tI)) (exm2':Bool) (tot':List (Ty.T tRat)) (extot':Bool) (prv':List (Ty.T tRat)) (exprv':Bool) (hi':Int) (bo':Int) (lo':Int):conByK.pre [.agg [.int .i64 kd,.str s,.int .i64 n],.agg [.int .i64 en,.bool n1,.sl tI m1 exm1,.bool n2,.sl tI m2 exm2,.sl tRat tot extot,.sl tRat prv exprv,.int .i64 hi,.int .i64 bo,.int .i64 lo],.agg [.int .i64 en',.bool n1',.sl tI m1' exm1',.bool n2',.sl tI m2' exm2',.sl tRat tot' extot',.sl tRat prv' exprv',.int .i64 hi',.int .i64 bo',.int .i64 lo']]=((hasK (kd,s,n,()) (mkK en n1 m1 n2 m2 tot prv hi bo lo)=true∧hasK (kd,s,n,()) (mkK en' n1' m1' n2' m2' tot' prv' hi' bo' lo')=true)∧fairX (mkK en n1 m1 n2 m2 tot prv hi bo lo)∧fairX (mkK en' n1' m1' n2' m2' tot' prv' hi' bo' lo'))∧conByK.val [.agg [.int .i64 kd,.str s,.int .i64 n],.agg [.int .i64 en,.bool n1,.sl tI m1 exm1,.bool n2,.sl tI m2 exm2,.sl tRat tot extot,.sl tRat prv exprv,.int .i64 hi,.int .i64 bo,.int .i64 lo],.agg [.int .i64 en',.bool n1',.sl tI m1' exm1',.bool n2',.sl tI m2' exm2',.sl tRat tot' extot',.sl tRat prv' exprv',.int .i64 hi',.int .i64 bo',.int .i64 lo']]=.v (aI (firstK (kd,s,n,()) (mkK en n1 m1 n2 m2 tot prv hi bo lo) (mkK en' n1' m1' n2' m2' tot' prv' hi' bo' lo'))):=⟨rfl,rfl⟩
theorem byk_ok:PureOk Tryz.prog 95 conByK:=by
 refine pureOkD (L:={ live:=[0,1,2,3,4,5,6,8,9,24,39,46] }) re2_good rfl nr_mixed Tryz.func95 rfl conByK 3 (by decide) (by kernel_rfl) ?_
 intro args hpre hlens
 simp only [conByK] at hpre
 split at hpre
 case h_2=>exact hpre.elim
 rename_i kd s n en n1 m1 e1 n2 m2 e2 tot et prv ep hi bo lo en' n1' m1' e1' n2' m2' e2' tot' et' prv' ep' hi' bo' lo'
 simp only [allLen,AV.lenOk,SV.lenOk,Ty.lenOk,maxLen,and_true,implies_true,true_and,List.forall_mem_cons,List.not_mem_nil,false_implies] at hlens
 refine ⟨rfl,?_⟩
 simp -dsimp -implicitDefEqProofs [Tryz.f95,conByK_eq,re2_all,reT,re2Γ,re2E,re2P,re1Γ,re1E,re1P,re0Γ,re0E,re0P,conRFew_eq,conRtios_eq,conInts_eq,conRatC_eq,conCmpR_eq,inI64]
 obtain ⟨⟨hx,hy⟩,fx,fy⟩:=hpre
 refine ⟨fun h1 => ?_,fun h1=>⟨fun h2 => ?_,fun h2=>⟨fun h3 => ?_,fun h3=>⟨fun h4 => ?_,fun h4 => ?_⟩⟩⟩⟩
 ·
  subst h1
  have hx':inL n tot=true:=hx
  have hy':inL n tot'=true:=hy
  simp only [inL,Bool.and_eq_true,decide_eq_true_eq] at hx' hy'
  have mx:=fx.2.1 _ (mem_getD (d:=dR) hx'.1 hx'.2)
  have my:=fy.2.1 _ (mem_getD (d:=dR) hy'.1 hy'.2)
  exact ⟨⟨hy'.1,hy'.2⟩,⟨hx'.1,hx'.2⟩,⟨⟨my.1,mx.1⟩,my.2,mx.2⟩,(great_ok2 mx.1 my.1).symm⟩
 ·
  subst h2
  have hx':inL n prv=true:=hx
  have hy':inL n prv'=true:=hy
  simp only [inL,Bool.and_eq_true,decide_eq_true_eq] at hx' hy'
  have mx:=fx.2.2 _ (mem_getD (d:=dR) hx'.1 hx'.2)
  have my:=fy.2.2 _ (mem_getD (d:=dR) hy'.1 hy'.2)
  exact ⟨⟨hy'.1,hy'.2⟩,⟨hx'.1,hx'.2⟩,⟨⟨my.1,mx.1⟩,my.2,mx.2⟩,(great_ok2 mx.1 my.1).symm⟩
 ·
  subst h3; rfl
 ·
  subst h4; rfl
 ·
  unfold firstK
  rw [if_neg h1,if_neg h2,if_neg h3,if_neg h4]
theorem known_iff (k:tKey.T):known k=true↔k.1=1∨k.1=2∨k.1=3∨k.1=4∨k.1=6:=by
 unfold known kindOf kdMap
 simp only [mget,beq_iff_eq]
 by_cases h1:k.1=1
 ·
  simp [h1]
 ·
  by_cases h2:k.1=2
  ·
   simp [h2]
  ·
   by_cases h3:k.1=3
   ·
    simp [h3]
   ·
    by_cases h4:k.1=4
    ·
     simp [h4]
    ·
     by_cases h6:k.1=6
     ·
      simp [h6]
     ·
      simp [h1,h2,h3,h4,h6]
def conRPlain:Con:=⟨fun args=>(match args with
 | [.s (.sl (.cons (.int .i64) (.cons .str (.cons (.int .i64) .nil))) ks _)]=>True
 | _=>False),fun args=>match args with
 | [.s (.sl (.cons (.int .i64) (.cons .str (.cons (.int .i64) .nil))) ks _)]=>.v (aB (plainB ks))
 | _=>.v (.s .any)⟩
theorem conRPlain_eq (ks:List (Ty.T tKey)) (exks:Bool):conRPlain.pre [.s (.sl tKey ks exks)]=(True)∧conRPlain.val [.s (.sl tKey ks exks)]=.v (aB (plainB ks)):=⟨rfl,rfl⟩
theorem rplain_ok:PureOk Tryz.prog 54 conRPlain:=by
 refine pureOkD (L:={ live:=[0,2,3,4,8,33] }) re2_good rfl nr_mixed Tryz.func54 rfl conRPlain 1 (by decide) (by kernel_rfl) ?_
 intro args hpre hlens
 simp only [conRPlain] at hpre
 split at hpre
 case h_2=>exact hpre.elim
 rename_i ks ek
 simp only [allLen,AV.lenOk,SV.lenOk,Ty.lenOk,maxLen,and_true,implies_true,true_and,List.forall_mem_cons,List.not_mem_nil,false_implies] at hlens
 refine ⟨rfl,?_⟩
 simp -dsimp -implicitDefEqProofs [Tryz.f54,conRPlain_eq,re2_all,reT,re2Γ,re2E,re2P,re1Γ,re1E,re1P,re0Γ,re0E,re0P,conRFew_eq,conRtios_eq,conInts_eq,conRatC_eq,conCmpR_eq,inI64]
 refine WpD.loop (L:={ live:=[0,2,3,4,8,33] }) re2_good X0_ok nr_mixed (by kernel_rfl)
  (fun i:Nat=>⟨[(0,vS tKey ks ek),(2,vB false),(3,vI i)],[]⟩)
  (fun i=>i≤ks.length∧∀ j (h:j<ks.length),j<i→known ks[j]=true) (fun i=>ks.length - i) 0 ⟨Nat.zero_le _,fun j h hj=>absurd hj (by omega)⟩ (Turn.le (by simp -dsimp -implicitDefEqProofs)) ?_
 rintro i ⟨hi,hj⟩
 rcases Nat.lt_or_ge i ks.length with hil | hge
 ·
  have hk:=known_iff ks[i]
  simp -dsimp -implicitDefEqProofs [conRPlain_eq,hil,-Prod.forall,-Bool.forall_bool,-Prod.exists,-Bool.exists_bool,re2_all,reT,re2Γ,re2E,re2P,re1Γ,re1E,re1P,re0Γ,re0E,re0P,conRFew_eq,conRtios_eq,conInts_eq,conRatC_eq,conCmpR_eq,inI64]
  refine ⟨fun h1 h2 h3 h4 h6 => ?_,fun h=>⟨⟨by omega,by omega⟩,i+1,⟨by omega,fun j q1 q2 => ?_⟩,by omega,TurnT.le (by simp -dsimp -implicitDefEqProofs)⟩⟩
  ·
   have hf:known ks[i]=false:=by
    cases hq:known ks[i] with
    | false=>rfl
    | true =>
     rcases hk.1 hq with h | h | h | h | h
     ·
      exact absurd h h1
     ·
      exact absurd h h2
     ·
      exact absurd h h3
     ·
      exact absurd h h4
     ·
      exact absurd h h6
   have:ks.all known=false:=by
    rw [List.all_eq_false]
    exact ⟨ks[i],List.getElem_mem hil,by rw [hf]; decide⟩
   unfold plainB
   rw [this]; rfl
  ·
   rcases Nat.lt_succ_iff_lt_or_eq.1 q2 with h' | rfl
   ·
    exact hj j q1 h'
   ·
    refine hk.2 ?_
    by_cases a1:ks[j].1=1
    ·
     exact .inl a1
    by_cases a2:ks[j].1=2
    ·
     exact .inr (.inl a2)
    by_cases a3:ks[j].1=3
    ·
     exact .inr (.inr (.inl a3))
    by_cases a4:ks[j].1=4
    ·
     exact .inr (.inr (.inr (.inl a4)))
    ·
     exact .inr (.inr (.inr (.inr (h a1 a2 a3 a4))))
 ·
  have hn:¬ i<ks.length:=by omega
  simp -dsimp -implicitDefEqProofs [conRPlain_eq,hn,-Prod.forall,-Bool.forall_bool,-Prod.exists,-Bool.exists_bool,re2_all,reT,re2Γ,re2E,re2P,re1Γ,re1E,re1P,re0Γ,re0E,re0P,conRFew_eq,conRtios_eq,conInts_eq,conRatC_eq,conCmpR_eq,inI64]
  have:ks.all known=true:=by
   rw [List.all_eq_true]
   intro k hk
   obtain ⟨j,hjl,rfl⟩:=List.mem_iff_getElem.1 hk
   exact hj j hjl (by omega)
  unfold plainB
  rw [this,Bool.true_and]
  exact decide_eq_decide.2 (by omega)
theorem takeWhile_all {α:Type} {p:α→Bool}:∀ {l:List α},(∀ x∈l,p x=true)→l.takeWhile p=l
 | [],_=>rfl
 | x::r,h=>by rw [List.takeWhile_cons,if_pos (h x (by simp)),takeWhile_all fun y hy=>h y (by simp [hy])]
def rightB (ks:List tKey.T) (x:tKd.T):Bool := !oddR x.2.1&&(x.2.2.1.all (fun r => !oddR r)&&(x.2.2.2.1.all (fun r => !oddR r)&&ks.all fun k=>hasK k x))
theorem rightB_wrong {ks:List tKey.T} (hp:plainB ks=true) (x:tKd.T):rightB ks x = !wrongV (hasLs ks) x:=by
 have hk:ks.takeWhile known=ks:=by
  unfold plainB at hp
  rw [Bool.and_eq_true,List.all_eq_true] at hp
  exact takeWhile_all hp.1
 unfold rightB wrongV hasLs
 rw [hk,List.any_map,Bool.eq_iff_iff]
 simp only [Bool.and_eq_true,Bool.not_eq_true',List.all_eq_true,Bool.or_eq_false_iff,List.any_eq_false,Function.comp,keyOf_has]
 constructor
 ·
  rintro ⟨h1,h2,h3,h4⟩
  exact ⟨fun k hk=>by rw [h4 k hk]; decide,h1,fun r hr=>by rw [h2 r hr]; decide,fun r hr=>by rw [h3 r hr]; decide⟩
 ·
  rintro ⟨h1,h2,h3,h4⟩
  exact ⟨h2,fun r hr=>by simpa using h3 r hr,fun r hr=>by simpa using h4 r hr,fun k hk=>by simpa using h1 k hk⟩
theorem rightB_iff {ks:List tKey.T} {x:tKd.T}:rightB ks x=true↔oddR x.2.1=false∧(∀ r∈x.2.2.1,oddR r=false)∧(∀ r∈x.2.2.2.1,oddR r=false)∧∀ k∈ks,hasK k x=true:=by
 unfold rightB
 simp only [Bool.and_eq_true,Bool.not_eq_true',List.all_eq_true]
theorem rightB_no {ks:List tKey.T} {x:tKd.T} (h:rightB ks x=true→False):rightB ks x=false:=by
 cases hq:rightB ks x with
 | false=>rfl
 | true=>exact (h hq).elim
def conRRight:Con:=⟨fun args=>(match args with
 | [.s (.sl (.cons (.int .i64) (.cons .str (.cons (.int .i64) .nil))) ks _),.agg [.int .i64 en,.bool n1,.sl (.int .i64) m1 _,.bool n2,.sl (.int .i64) m2 _,.sl (.cons (.cons .bool (.cons (.slice (.int .i64)) .nil)) (.cons (.cons .bool (.cons (.slice (.int .i64)) .nil)) .nil)) tot _,.sl (.cons (.cons .bool (.cons (.slice (.int .i64)) .nil)) (.cons (.cons .bool (.cons (.slice (.int .i64)) .nil)) .nil)) prv _,.int .i64 gh,.int .i64 bo,.int .i64 lo]]=>True
 | _=>False),fun args=>match args with
 | [.s (.sl (.cons (.int .i64) (.cons .str (.cons (.int .i64) .nil))) ks _),.agg [.int _ en,.bool n1,.sl (.int .i64) m1 _,.bool n2,.sl (.int .i64) m2 _,.sl (.cons (.cons .bool (.cons (.slice (.int .i64)) .nil)) (.cons (.cons .bool (.cons (.slice (.int .i64)) .nil)) .nil)) tot _,.sl (.cons (.cons .bool (.cons (.slice (.int .i64)) .nil)) (.cons (.cons .bool (.cons (.slice (.int .i64)) .nil)) .nil)) prv _,.int _ gh,.int _ bo,.int _ lo]]=>.v (aB (rightB ks (mkK en n1 m1 n2 m2 tot prv gh bo lo)))
 | _=>.v (.s .any)⟩
theorem conRRight_eq (ks:List (Ty.T tKey)) (exks:Bool) (en:Int) (n1:Bool) (m1:List (Ty.T tI)) (exm1:Bool) (n2:Bool) (m2:List (Ty.T tI)) (exm2:Bool) (tot:List (Ty.T tRat)) (extot:Bool) (prv:List (Ty.T tRat)) (exprv:Bool) (gh:Int) (bo:Int) (lo:Int):conRRight.pre [.s (.sl tKey ks exks),.agg [.int .i64 en,.bool n1,.sl tI m1 exm1,.bool n2,.sl tI m2 exm2,.sl tRat tot extot,.sl tRat prv exprv,.int .i64 gh,.int .i64 bo,.int .i64 lo]]=(True)∧conRRight.val [.s (.sl tKey ks exks),.agg [.int .i64 en,.bool n1,.sl tI m1 exm1,.bool n2,.sl tI m2 exm2,.sl tRat tot extot,.sl tRat prv exprv,.int .i64 gh,.int .i64 bo,.int .i64 lo]]=.v (aB (rightB ks (mkK en n1 m1 n2 m2 tot prv gh bo lo))):=⟨rfl,rfl⟩
theorem rright_ok:PureOk Tryz.prog 55 conRRight:=by
 refine pureOkD (L:={ live:=[0,1,3,4,5,6,7,8,12,17,26,31,40,44,84] }) re2_good rfl nr_mixed Tryz.func55 rfl conRRight 2 (by decide) (by kernel_rfl) ?_
 intro args hpre hlens
 simp only [conRRight] at hpre
 split at hpre
 case h_2=>exact hpre.elim
 rename_i ks ek en n1 m1 e1 n2 m2 e2 tot et prv ep gh bo lo
 simp only [allLen,AV.lenOk,SV.lenOk,Ty.lenOk,maxLen,and_true,implies_true,true_and,List.forall_mem_cons,List.not_mem_nil,false_implies] at hlens
 refine ⟨rfl,?_⟩
 simp -dsimp -implicitDefEqProofs [Tryz.f55,conRRight_eq,-Prod.forall,-Bool.forall_bool,-Prod.exists,-Bool.exists_bool,re2_all,reT,re2Γ,re2E,re2P,re1Γ,re1E,re1P,re0Γ,re0E,re0P,conRFew_eq,conRtios_eq,conInts_eq,conRatC_eq,conCmpR_eq,inI64]
 refine ⟨fun h=>rightB_no fun hq=>(by have:=(rightB_iff.1 hq).1; rw [show oddR (mkK en n1 m1 n2 m2 tot prv gh bo lo).2.1=true from h] at this; cases this),fun hs => ?_⟩
 refine WpD.loop (L:={ live:=[0,1,3,4,5,6,7,8,12,17,26,31,40,44,84] }) re2_good X0_ok nr_mixed (by kernel_rfl)
  (fun i:Nat=>⟨[(0,vS tKey ks ek),(3,⟨true,.v (.s (.box 0 0))⟩),(4,vB false),(5,vI i)],[.cells [.int .i64 en,.bool n1,.sl tI m1 e1,.bool n2,.sl tI m2 e2,.sl tRat tot et,.sl tRat prv ep,.int .i64 gh,.int .i64 bo,.int .i64 lo]]⟩)
  (fun i=>i≤tot.length∧∀ j (h:j<tot.length),j<i→oddR tot[j]=false) (fun i=>tot.length - i) 0 ⟨Nat.zero_le _,fun j h hj=>absurd hj (by omega)⟩ (Turn.le (by simp -dsimp -implicitDefEqProofs)) ?_
 rintro i ⟨hi,hj⟩
 rcases Nat.lt_or_ge i tot.length with hil | hge
 ·
  simp -dsimp -implicitDefEqProofs [conRRight_eq,hil,-Prod.forall,-Bool.forall_bool,-Prod.exists,-Bool.exists_bool,re2_all,reT,re2Γ,re2E,re2P,re1Γ,re1E,re1P,re0Γ,re0E,re0P,conRFew_eq,conRtios_eq,conInts_eq,conRatC_eq,conCmpR_eq,inI64]
  refine ⟨fun h=>rightB_no fun hq => ?_,fun h=>⟨⟨by omega,by omega⟩,i+1,⟨by omega,fun j q1 q2 => ?_⟩,by omega,TurnT.le (by simp -dsimp -implicitDefEqProofs)⟩⟩
  ·
   have:=(rightB_iff.1 hq).2.1 tot[i] (List.getElem_mem hil)
   rw [show oddR tot[i]=true from h] at this; cases this
  ·
   rcases Nat.lt_succ_iff_lt_or_eq.1 q2 with h' | rfl
   ·
    exact hj j q1 h'
   ·
    exact h
 have hn:¬ i<tot.length:=by omega
 simp -dsimp -implicitDefEqProofs [hn,-Prod.forall,-Bool.forall_bool,-Prod.exists,-Bool.exists_bool,re2_all,reT,re2Γ,re2E,re2P,re1Γ,re1E,re1P,re0Γ,re0E,re0P,conRFew_eq,conRtios_eq,conInts_eq,conRatC_eq,conCmpR_eq,inI64]
 refine WpD.loop (L:={ live:=[0,1,3,4,5,6,7,8,12,17,26,31,40,44,84] }) re2_good X0_ok nr_mixed (by kernel_rfl)
  (fun k:Nat=>⟨[(0,vS tKey ks ek),(3,⟨true,.v (.s (.box 0 0))⟩),(4,vB false),(6,vI k)],[.cells [.int .i64 en,.bool n1,.sl tI m1 e1,.bool n2,.sl tI m2 e2,.sl tRat tot et,.sl tRat prv ep,.int .i64 gh,.int .i64 bo,.int .i64 lo]]⟩)
  (fun k=>k≤prv.length∧∀ j (h:j<prv.length),j<k→oddR prv[j]=false) (fun k=>prv.length - k) 0 ⟨Nat.zero_le _,fun j h hj=>absurd hj (by omega)⟩ (Turn.le (by simp -dsimp -implicitDefEqProofs)) ?_
 rintro k ⟨hk,hj2⟩
 rcases Nat.lt_or_ge k prv.length with hkl | hge2
 ·
  simp -dsimp -implicitDefEqProofs [conRRight_eq,hkl,-Prod.forall,-Bool.forall_bool,-Prod.exists,-Bool.exists_bool,re2_all,reT,re2Γ,re2E,re2P,re1Γ,re1E,re1P,re0Γ,re0E,re0P,conRFew_eq,conRtios_eq,conInts_eq,conRatC_eq,conCmpR_eq,inI64]
  refine ⟨fun h=>rightB_no fun hq => ?_,fun h=>⟨⟨by omega,by omega⟩,k+1,⟨by omega,fun j q1 q2 => ?_⟩,by omega,TurnT.le (by simp -dsimp -implicitDefEqProofs)⟩⟩
  ·
   have:=(rightB_iff.1 hq).2.2.1 prv[k] (List.getElem_mem hkl)
   rw [show oddR prv[k]=true from h] at this; cases this
  ·
   rcases Nat.lt_succ_iff_lt_or_eq.1 q2 with h' | rfl
   ·
    exact hj2 j q1 h'
   ·
    exact h
 have hn2:¬ k<prv.length:=by omega
 simp -dsimp -implicitDefEqProofs [hn2,-Prod.forall,-Bool.forall_bool,-Prod.exists,-Bool.exists_bool,re2_all,reT,re2Γ,re2E,re2P,re1Γ,re1E,re1P,re0Γ,re0E,re0P,conRFew_eq,conRtios_eq,conInts_eq,conRatC_eq,conCmpR_eq,inI64]
 refine WpD.loop (L:={ live:=[0,1,3,4,5,6,7,8,12,17,26,31,40,44,84] }) re2_good X0_ok nr_mixed (by kernel_rfl)
  (fun q:Nat=>⟨[(0,vS tKey ks ek),(3,⟨true,.v (.s (.box 0 0))⟩),(4,vB false),(7,vI q)],[.cells [.int .i64 en,.bool n1,.sl tI m1 e1,.bool n2,.sl tI m2 e2,.sl tRat tot et,.sl tRat prv ep,.int .i64 gh,.int .i64 bo,.int .i64 lo]]⟩)
  (fun q=>q≤ks.length∧∀ j (h:j<ks.length),j<q→hasK ks[j] (mkK en n1 m1 n2 m2 tot prv gh bo lo)=true) (fun q=>ks.length - q) 0 ⟨Nat.zero_le _,fun j h hj=>absurd hj (by omega)⟩ (Turn.le (by simp -dsimp -implicitDefEqProofs)) ?_
 rintro q ⟨hq,hj3⟩
 rcases Nat.lt_or_ge q ks.length with hql | hge3
 ·
  have hkq:hasK ks[q] (mkK en n1 m1 n2 m2 tot prv gh bo lo)=if ks[q].1=1 then inL ks[q].2.2.1 tot else if ks[q].1=2 then inL ks[q].2.2.1 prv else true:=rfl
  simp -dsimp -implicitDefEqProofs [conRRight_eq,hql,-Prod.forall,-Bool.forall_bool,-Prod.exists,-Bool.exists_bool,re2_all,reT,re2Γ,re2E,re2P,re1Γ,re1E,re1P,re0Γ,re0E,re0P,conRFew_eq,conRtios_eq,conInts_eq,conRatC_eq,conCmpR_eq,inI64]
  refine ⟨fun h=>⟨h,fun h2=>⟨h,h2⟩⟩,fun p h=>⟨⟨p,h⟩,fun r=>⟨⟨p,h⟩,r⟩⟩,fun p=>⟨p,fun h=>⟨p,h⟩⟩,fun h=>(Classical.em _).elim (fun e=>.inr (h e)) .inl,fun h=>rightB_no fun hr => ?_,fun g1 g2=>⟨⟨by omega,by omega⟩,q+1,⟨by omega,fun j q1 q2 => ?_⟩,by omega,?_⟩⟩
  ·
   have hh:=(rightB_iff.1 hr).2.2.2 ks[q] (List.getElem_mem hql)
   rw [hkq] at hh
   rcases h with ⟨h,h'⟩ | ⟨h,h'⟩
   ·
    rw [if_pos h] at hh
    simp only [inL,Bool.and_eq_true,decide_eq_true_eq] at hh
    rcases h' with h' | h'
    ·
     exact absurd hh.1 (Int.not_le.2 h')
    ·
     exact absurd hh.2 (Int.not_lt.2 h')
   ·
    rw [if_neg (by rw [h]; decide),if_pos h] at hh
    simp only [inL,Bool.and_eq_true,decide_eq_true_eq] at hh
    rcases h' with h' | h'
    ·
     exact absurd hh.1 (Int.not_le.2 h')
    ·
     exact absurd hh.2 (Int.not_lt.2 h')
  ·
   rcases Nat.lt_succ_iff_lt_or_eq.1 q2 with h' | rfl
   ·
    exact hj3 j q1 h'
   ·
    rw [hkq]
    split
    ·
     rename_i h; have:=g1 h; simp only [inL,Bool.and_eq_true,decide_eq_true_eq]; exact this
    ·
     split
     ·
      rename_i h; have:=g2 h; simp only [inL,Bool.and_eq_true,decide_eq_true_eq]; exact this
     ·
      rfl
  ·
   exact TurnT.trunc X0_ok (hp:=[.cells _]) (junk:=[_]) (by simp) (by simp only [List.length_cons,List.length_nil,List.all_cons,List.all_nil,arr_below,Bool.and_true] <;> simp [Blk.below,SV.below]) (by simp -dsimp -implicitDefEqProofs []) (by simp [envBelow,RV.below,AV.below,SV.below])
 ·
  have hn3:¬ q<ks.length:=by omega
  simp -dsimp -implicitDefEqProofs [conRRight_eq,hn3,-Prod.forall,-Bool.forall_bool,-Prod.exists,-Bool.exists_bool,re2_all,reT,re2Γ,re2E,re2P,re1Γ,re1E,re1P,re0Γ,re0E,re0P,conRFew_eq,conRtios_eq,conInts_eq,conRatC_eq,conCmpR_eq,inI64]
  refine rightB_iff.2 ⟨hs,fun r hr => ?_,fun r hr => ?_,fun r hr => ?_⟩
  ·
   obtain ⟨j,hjl,rfl⟩:=List.mem_iff_getElem.1 hr
   exact hj j hjl (Nat.lt_of_lt_of_le hjl hge)
  ·
   obtain ⟨j,hjl,rfl⟩:=List.mem_iff_getElem.1 hr
   exact hj2 j hjl (Nat.lt_of_lt_of_le hjl hge2)
  ·
   obtain ⟨j,hjl,rfl⟩:=List.mem_iff_getElem.1 hr
   exact hj3 j hjl (by omega)
def re3Γ:List (FuncId×Con):=(95,conByK)::re2Γ
theorem re3Γ_ok:∀ p∈re3Γ,(∀ (args:Array Value) (w:World),(callFunc p.1 args).run Tryz.prog w=.ok (.enter p.1 args) w)∧PureOk Tryz.prog p.1 p.2:=by
 simp only [re3Γ,List.forall_mem_cons]
 exact ⟨⟨enters_of Tryz.func95 (by kernel_rfl) rfl,byk_ok⟩,re2Γ_ok⟩
def re3E:List (FuncId×ECon):=re2E
theorem re3E_ok:∀ p∈re3E,(∀ (args:Array Value) (w:World),(callFunc p.1 args).run Tryz.prog w=.ok (.enter p.1 args) w)∧EffOk Tryz.prog p.1 p.2:=by
 simp only [re3E]
 exact re2E_ok
def re3P:List (FuncId×PCon):=re2P
theorem re3P_ok:∀ p∈re3P,(∀ (args:Array Value) (w:World),(callFunc p.1 args).run Tryz.prog w=.ok (.enter p.1 args) w)∧PanOk Tryz.prog p.1 p.2:=by
 simp only [re3P]
 exact re2P_ok
def re3:G:={ τ:=reT,Γ:=re3Γ,E:=re3E,Pn:=re3P }
theorem re3_good:re3.good Tryz.prog:=good_of_all (reT_ok _ rfl) re3Γ_ok re3E_ok re3P_ok
theorem re3_all:(∀ t,re3.td t=(look reT t).getD .other)∧re3.y=false∧re3.Γ=re3Γ∧re3.E=re3E∧re3.Pn=re3P∧re3.fz=[]:=⟨fun _=>rfl,rfl,rfl,rfl,rfl,rfl⟩
def frstC (ks:List tKey.T) (x y:tKd.T):Int:=(cmpAt x y (headF::ks.map fstF) 0).1
def frstB (ks:List tKey.T) (x y:tKd.T):Int:=(cmpAt x y (headF::ks.map fstF) 0).2
theorem frst_head {ks:List tKey.T} {x y:tKd.T} (h:greatR x.2.1 y.2.1≠0):frstC ks x y=greatR x.2.1 y.2.1∧frstB ks x y=0:=by
 have e:cmpAt x y (headF::ks.map fstF) 0=(greatR x.2.1 y.2.1,((0:Nat):Int)):=by
  simp only [cmpAt]
  rw [cmpF_head,if_neg h]
 unfold frstC frstB
 rw [e]
 exact ⟨rfl,rfl⟩
theorem frst_at {ks:List tKey.T} {x y:tKd.T} (h0:greatR x.2.1 y.2.1=0) {i:Nat} (hi:i<ks.length) (hz:∀ j (h:j<ks.length),j<i→firstK ks[j] x y=0) (h:firstK ks[i] x y≠0):frstC ks x y=firstK ks[i] x y∧frstB ks x y=(i:Int)+1:=by
 have e:cmpAt x y (headF::ks.map fstF) 0=cmpAt x y (ks.map fstF) 1:=by
  simp only [cmpAt]
  rw [cmpF_head,if_pos h0]
 have e2:=cmpAt_at (a:=x) (b:=y) (l:=ks.map fstF) (i:=i) (m:=1) (by simpa using hi) (fun j hj hji=>by
  rw [List.getElem_map,cmpF_fst]
  exact hz j (by simpa using hj) hji) (by rw [List.getElem_map,cmpF_fst]; exact h)
 rw [List.getElem_map,cmpF_fst] at e2
 unfold frstC frstB
 rw [e,e2]
 exact ⟨rfl,by show ((1+i:Nat):Int)=_; omega⟩
theorem frst_none {ks:List tKey.T} {x y:tKd.T} (h0:greatR x.2.1 y.2.1=0) (hz:∀ j (h:j<ks.length),firstK ks[j] x y=0):frstC ks x y=0∧frstB ks x y = -1:=by
 have e:cmpAt x y (headF::ks.map fstF) 0=cmpAt x y (ks.map fstF) 1:=by
  simp only [cmpAt]
  rw [cmpF_head,if_pos h0]
 have e2:=cmpAt_none (a:=x) (b:=y) (l:=ks.map fstF) (m:=1) (fun j hj=>by
  rw [List.getElem_map,cmpF_fst]
  exact hz j (by simpa using hj))
 unfold frstC frstB
 rw [e,e2]
 exact ⟨rfl,rfl⟩
def conFrst:Con:=⟨fun args=>(match args with
 | [.s (.sl (.cons (.int .i64) (.cons .str (.cons (.int .i64) .nil))) ks _),.agg [.int .i64 en,.bool n1,.sl (.int .i64) m1 _,.bool n2,.sl (.int .i64) m2 _,.sl (.cons (.cons .bool (.cons (.slice (.int .i64)) .nil)) (.cons (.cons .bool (.cons (.slice (.int .i64)) .nil)) .nil)) tot _,.sl (.cons (.cons .bool (.cons (.slice (.int .i64)) .nil)) (.cons (.cons .bool (.cons (.slice (.int .i64)) .nil)) .nil)) prv _,.int .i64 hi,.int .i64 bo,.int .i64 lo],.agg [.int .i64 en',.bool n1',.sl (.int .i64) m1' _,.bool n2',.sl (.int .i64) m2' _,.sl (.cons (.cons .bool (.cons (.slice (.int .i64)) .nil)) (.cons (.cons .bool (.cons (.slice (.int .i64)) .nil)) .nil)) tot' _,.sl (.cons (.cons .bool (.cons (.slice (.int .i64)) .nil)) (.cons (.cons .bool (.cons (.slice (.int .i64)) .nil)) .nil)) prv' _,.int .i64 hi',.int .i64 bo',.int .i64 lo']]=>ks.length≤10000∧(∀ k∈ks,hasK k (mkK en n1 m1 n2 m2 tot prv hi bo lo)=true∧hasK k (mkK en' n1' m1' n2' m2' tot' prv' hi' bo' lo')=true)∧fairX (mkK en n1 m1 n2 m2 tot prv hi bo lo)∧fairX (mkK en' n1' m1' n2' m2' tot' prv' hi' bo' lo')
 | _=>False),fun args=>match args with
 | [.s (.sl (.cons (.int .i64) (.cons .str (.cons (.int .i64) .nil))) ks _),.agg [.int _ en,.bool n1,.sl (.int .i64) m1 _,.bool n2,.sl (.int .i64) m2 _,.sl (.cons (.cons .bool (.cons (.slice (.int .i64)) .nil)) (.cons (.cons .bool (.cons (.slice (.int .i64)) .nil)) .nil)) tot _,.sl (.cons (.cons .bool (.cons (.slice (.int .i64)) .nil)) (.cons (.cons .bool (.cons (.slice (.int .i64)) .nil)) .nil)) prv _,.int _ hi,.int _ bo,.int _ lo],.agg [.int _ en',.bool n1',.sl (.int .i64) m1' _,.bool n2',.sl (.int .i64) m2' _,.sl (.cons (.cons .bool (.cons (.slice (.int .i64)) .nil)) (.cons (.cons .bool (.cons (.slice (.int .i64)) .nil)) .nil)) tot' _,.sl (.cons (.cons .bool (.cons (.slice (.int .i64)) .nil)) (.cons (.cons .bool (.cons (.slice (.int .i64)) .nil)) .nil)) prv' _,.int _ hi',.int _ bo',.int _ lo']]=>.tup [aI (frstC ks (mkK en n1 m1 n2 m2 tot prv hi bo lo) (mkK en' n1' m1' n2' m2' tot' prv' hi' bo' lo')),aI (frstB ks (mkK en n1 m1 n2 m2 tot prv hi bo lo) (mkK en' n1' m1' n2' m2' tot' prv' hi' bo' lo'))]
 | _=>.v (.s .any)⟩
theorem conFrst_eq (ks:List (Ty.T tKey)) (exks:Bool) (en:Int) (n1:Bool) (m1:List (Ty.T tI)) (exm1:Bool) (n2:Bool) (m2:List (Ty.T tI)) (exm2:Bool) (tot:List (Ty.T tRat)) (extot:Bool) (prv:List (Ty.T tRat)) (exprv:Bool) (hi:Int) (bo:Int) (lo:Int) (en':Int) (n1':Bool) (m1':List (Ty.T tI)) (exm1':Bool) (n2':Bool) (m2':List (Ty.T tI)) (exm2':Bool) (tot':List (Ty.T tRat)) (extot':Bool) (prv':List (Ty.T tRat)) (exprv':Bool) (hi':Int) (bo':Int) (lo':Int):conFrst.pre [.s (.sl tKey ks exks),.agg [.int .i64 en,.bool n1,.sl tI m1 exm1,.bool n2,.sl tI m2 exm2,.sl tRat tot extot,.sl tRat prv exprv,.int .i64 hi,.int .i64 bo,.int .i64 lo],.agg [.int .i64 en',.bool n1',.sl tI m1' exm1',.bool n2',.sl tI m2' exm2',.sl tRat tot' extot',.sl tRat prv' exprv',.int .i64 hi',.int .i64 bo',.int .i64 lo']]=(ks.length≤10000∧(∀ k∈ks,hasK k (mkK en n1 m1 n2 m2 tot prv hi bo lo)=true∧hasK k (mkK en' n1' m1' n2' m2' tot' prv' hi' bo' lo')=true)∧fairX (mkK en n1 m1 n2 m2 tot prv hi bo lo)∧fairX (mkK en' n1' m1' n2' m2' tot' prv' hi' bo' lo'))∧conFrst.val [.s (.sl tKey ks exks),.agg [.int .i64 en,.bool n1,.sl tI m1 exm1,.bool n2,.sl tI m2 exm2,.sl tRat tot extot,.sl tRat prv exprv,.int .i64 hi,.int .i64 bo,.int .i64 lo],.agg [.int .i64 en',.bool n1',.sl tI m1' exm1',.bool n2',.sl tI m2' exm2',.sl tRat tot' extot',.sl tRat prv' exprv',.int .i64 hi',.int .i64 bo',.int .i64 lo']]=.tup [aI (frstC ks (mkK en n1 m1 n2 m2 tot prv hi bo lo) (mkK en' n1' m1' n2' m2' tot' prv' hi' bo' lo')),aI (frstB ks (mkK en n1 m1 n2 m2 tot prv hi bo lo) (mkK en' n1' m1' n2' m2' tot' prv' hi' bo' lo'))]:=⟨rfl,rfl⟩
theorem frst_ok:PureOk Tryz.prog 56 conFrst:=by
 refine pureOkD (L:={ live:=[0,1,2,4,5,6,7,8,9,16,21,32] }) re3_good rfl nr_mixed Tryz.func56 rfl conFrst 3 (by decide) (by kernel_rfl) ?_
 intro args hpre hlens
 simp only [conFrst] at hpre
 split at hpre
 case h_2=>exact hpre.elim
 rename_i ks ek en n1 m1 e1 n2 m2 e2 tot et prv ep hi bo lo en' n1' m1' e1' n2' m2' e2' tot' et' prv' ep' hi' bo' lo'
 simp only [allLen,AV.lenOk,SV.lenOk,Ty.lenOk,maxLen,and_true,implies_true,true_and,List.forall_mem_cons,List.not_mem_nil,false_implies] at hlens
 refine ⟨rfl,?_⟩
 simp -dsimp -implicitDefEqProofs [Tryz.f56,conFrst_eq,-Prod.forall,-Bool.forall_bool,-Prod.exists,-Bool.exists_bool,re3_all,reT,re3Γ,re3E,re3P,re2Γ,re2E,re2P,re1Γ,re1E,re1P,re0Γ,re0E,re0P,conByK_eq,conRFew_eq,conRtios_eq,conInts_eq,conRatC_eq,conCmpR_eq,inI64]
 obtain ⟨hkl,hks,fx,fy⟩:=hpre
 have hgr:greatR (mkK en n1 m1 n2 m2 tot prv hi bo lo).2.1 (mkK en' n1' m1' n2' m2' tot' prv' hi' bo' lo').2.1=cmpR (mkR n1' m1' n2' m2') (mkR n1 m1 n2 m2):=great_ok2 fx.1.1 fy.1.1
 refine ⟨⟨⟨fy.1.1,fx.1.1⟩,fy.1.2,fx.1.2⟩,fun h => ?_,fun h0 => ?_⟩
 ·
  obtain ⟨q1,q2⟩:=frst_head (ks:=ks) (x:=mkK en n1 m1 n2 m2 tot prv hi bo lo) (y:=mkK en' n1' m1' n2' m2' tot' prv' hi' bo' lo') (by rw [hgr]; exact h)
  rw [q1,q2,hgr]
  exact ⟨rfl,rfl⟩
 rw [← hgr] at h0
 refine WpD.loop (L:={ live:=[0,1,2,4,5,6,7,8,9,16,21,32] }) re3_good X0_ok nr_mixed (by kernel_rfl)
  (fun i:Nat=>⟨[(0,vS tKey ks ek),(4,⟨true,.v (.s (.box 0 0))⟩),(5,⟨true,.v (.s (.box 1 0))⟩),(6,vI 0),(7,vI 0),(9,vI i)],[.cells [.int .i64 en,.bool n1,.sl tI m1 e1,.bool n2,.sl tI m2 e2,.sl tRat tot et,.sl tRat prv ep,.int .i64 hi,.int .i64 bo,.int .i64 lo],.cells [.int .i64 en',.bool n1',.sl tI m1' e1',.bool n2',.sl tI m2' e2',.sl tRat tot' et',.sl tRat prv' ep',.int .i64 hi',.int .i64 bo',.int .i64 lo']]⟩)
  (fun i=>i≤ks.length∧∀ j (h:j<ks.length),j<i→firstK ks[j] (mkK en n1 m1 n2 m2 tot prv hi bo lo) (mkK en' n1' m1' n2' m2' tot' prv' hi' bo' lo')=0) (fun i=>ks.length - i) 0 ⟨Nat.zero_le _,fun j h hj=>absurd hj (by omega)⟩ (Turn.le (by simp -dsimp -implicitDefEqProofs)) ?_
 rintro i ⟨hil0,hz⟩
 rcases Nat.lt_or_ge i ks.length with hil | hge
 ·
  have hkk:=hks ks[i] (List.getElem_mem hil)
  simp -dsimp -implicitDefEqProofs [hil,conFrst_eq,-Prod.forall,-Bool.forall_bool,-Prod.exists,-Bool.exists_bool,re3_all,reT,re3Γ,re3E,re3P,re2Γ,re2E,re2P,re1Γ,re1E,re1P,re0Γ,re0E,re0P,conByK_eq,conRFew_eq,conRtios_eq,conInts_eq,conRatC_eq,conCmpR_eq,inI64]
  refine ⟨⟨hkk,fx,fy⟩,fun h=>⟨⟨by omega,by omega⟩,?_⟩,fun h=>⟨⟨by omega,by omega⟩,i+1,⟨by omega,fun j q1 q2 => ?_⟩,by omega,TurnT.le (by simp -dsimp -implicitDefEqProofs)⟩⟩
  ·
   obtain ⟨q1,q2⟩:=frst_at (ks:=ks) h0 hil hz h
   exact ⟨q1.symm,q2.symm⟩
  ·
   rcases Nat.lt_succ_iff_lt_or_eq.1 q2 with h' | rfl
   ·
    exact hz j q1 h'
   ·
    exact h
 ·
  have hn:¬ i<ks.length:=by omega
  obtain ⟨q1,q2⟩:=frst_none (ks:=ks) h0 fun j h=>hz j h (by omega)
  simp -dsimp -implicitDefEqProofs [hn,conFrst_eq,q1,q2,-Prod.forall,-Bool.forall_bool,-Prod.exists,-Bool.exists_bool,re3_all,reT,re3Γ,re3E,re3P,re2Γ,re2E,re2P,re1Γ,re1E,re1P,re0Γ,re0E,re0P,conByK_eq,conRFew_eq,conRtios_eq,conInts_eq,conRatC_eq,conCmpR_eq,inI64]
theorem fair_right {ks:List tKey.T} {x:tKd.T} (h:rightB ks x=true):fairX x∧∀ k∈ks,hasK k x=true:=by
 unfold rightB at h
 simp only [Bool.and_eq_true,Bool.not_eq_true',List.all_eq_true] at h
 obtain ⟨h1,h2,h3,h4⟩:=h
 exact ⟨⟨odd_short h1,fun r hr=>odd_short (by simpa using h2 r hr),fun r hr=>odd_short (by simpa using h3 r hr)⟩,h4⟩
def inO (l:List tKd.T) (os:List Int):Prop:=∀ i∈os,0≤i∧i<(l.length:Int)
theorem inO_put {l:List tKd.T} {os:List Int} (h:inO l os) {i k:Nat} (hi:i<l.length):inO l (os.take k++((i:Int)::os.drop k)):=by
 intro x hx
 rw [List.mem_append,List.mem_cons] at hx
 rcases hx with hx | rfl | hx
 ·
  exact h x (List.mem_of_mem_take hx)
 ·
  exact ⟨Int.natCast_nonneg _,by omega⟩
 ·
  exact h x (List.mem_of_mem_drop hx)
def re4Γ:List (FuncId×Con):=(54,conRPlain)::(55,conRRight)::(56,conFrst)::re3Γ
theorem re4Γ_ok:∀ p∈re4Γ,(∀ (args:Array Value) (w:World),(callFunc p.1 args).run Tryz.prog w=.ok (.enter p.1 args) w)∧PureOk Tryz.prog p.1 p.2:=by
 simp only [re4Γ,List.forall_mem_cons]
 exact ⟨⟨enters_of Tryz.func54 (by kernel_rfl) rfl,rplain_ok⟩,⟨enters_of Tryz.func55 (by kernel_rfl) rfl,rright_ok⟩,⟨enters_of Tryz.func56 (by kernel_rfl) rfl,frst_ok⟩,re3Γ_ok⟩
def re4E:List (FuncId×ECon):=re3E
theorem re4E_ok:∀ p∈re4E,(∀ (args:Array Value) (w:World),(callFunc p.1 args).run Tryz.prog w=.ok (.enter p.1 args) w)∧EffOk Tryz.prog p.1 p.2:=by
 simp only [re4E]
 exact re3E_ok
def re4P:List (FuncId×PCon):=re3P
theorem re4P_ok:∀ p∈re4P,(∀ (args:Array Value) (w:World),(callFunc p.1 args).run Tryz.prog w=.ok (.enter p.1 args) w)∧PanOk Tryz.prog p.1 p.2:=by
 simp only [re4P]
 exact re3P_ok
def re4:G:={ τ:=reT,Γ:=re4Γ,E:=re4E,Pn:=re4P }
theorem re4_good:re4.good Tryz.prog:=good_of_all (reT_ok _ rfl) re4Γ_ok re4E_ok re4P_ok
theorem re4_all:(∀ t,re4.td t=(look reT t).getD .other)∧re4.y=false∧re4.Γ=re4Γ∧re4.E=re4E∧re4.Pn=re4P∧re4.fz=[]:=⟨fun _=>rfl,rfl,rfl,rfl,rfl,rfl⟩
def stO (ks:List tKey.T) (ek:Bool) (l:List tKd.T) (el:Bool) (os:List Int):St :=
 if os=[] then ⟨[(0,vS tKey ks ek),(1,vS tKd l el),(7,vS tI [] true),(8,vI 0)],[]⟩
 else ⟨[(0,vS tKey ks ek),(1,vS tKd l el),(7,⟨true,.v (.s (.own tI 0 os.length))⟩),(8,vI os.length)],[.arr true (tI.flats os)]⟩
theorem stO_nil (ks:List tKey.T) (ek:Bool) (l:List tKd.T) (el:Bool):stO ks ek l el []=⟨[(0,vS tKey ks ek),(1,vS tKd l el),(7,vS tI [] true),(8,vI 0)],[]⟩:=if_pos rfl
theorem stO_ne (ks:List tKey.T) (ek:Bool) (l:List tKd.T) (el:Bool) {os:List Int} (h:os≠[]):stO ks ek l el os=⟨[(0,vS tKey ks ek),(1,vS tKd l el),(7,⟨true,.v (.s (.own tI 0 os.length))⟩),(8,vI os.length)],[.arr true (tI.flats os)]⟩:=if_neg h
theorem fl_takeI (os:List Int) (k:Nat):List.take k (tI.flats os)=tI.flats (os.take k):=by rw [fl_map,fl_map,List.map_take]
theorem put_len {os:List Int} {k:Nat} (hk:k≤os.length) {x:Int}:(os.take k++x::os.drop k).length=os.length+1:=by
 rw [List.length_append,List.length_take,List.length_cons,List.length_drop]; omega
theorem turn_put (ks:List tKey.T) (ek:Bool) (l:List tKd.T) (el:Bool) (e:Env) (os:List Int) (k:Nat) (hk:k≤os.length) {N:Nat} {g:G} {d:Nat}
  (h0:look e 0=some (vS tKey ks ek)) (h1:look e 1=some (vS tKd l el)) (h7:look e 7=some ⟨true,.v (.s (.own tI d (k+1+(os.drop k).length)))⟩) (h8:look e 8=some (vI ((os.length:Int)+1))) (hd:d=d) :
  TurnT Tryz.prog g X0 N 0 ⟨e,List.replicate d .dead++[.arr true (List.take k (tI.flats os)++tI.flats ((os.length:Int)::os.drop k))]⟩ (stO ks ek l el (os.take k++((os.length:Int)::os.drop k))):=by
 rw [stO_ne _ _ _ _ (by simp),put_len hk]
 have e1:List.take k (tI.flats os)++tI.flats ((os.length:Int)::os.drop k)=tI.flats (os.take k++((os.length:Int)::os.drop k)):=by rw [fl_takeI,flats_append]
 have e2:k+1+(os.drop k).length=os.length+1:=by rw [List.length_drop]; omega
 have e3:Blk.look (List.replicate d .dead++[.arr true (tI.flats (os.take k++((os.length:Int)::os.drop k)))]) d=.arr true (tI.flats (os.take k++((os.length:Int)::os.drop k))):=by
  unfold Blk.look
  rw [List.getElem?_append_right (by simp)]
  simp
 rw [e1]
 rw [e2] at h7
 refine TurnT.sel [d] rfl (by simp) (by simp) (fun id hid => ?_) ?_ ?_
 ·
  rw [List.mem_singleton.1 hid,e3]
  exact flats_pure tI _
 ·
  simp only [List.map_cons,List.map_nil,e3]
 ·
  refine ⟨⟨true,_,h0,rfl,fun id h=>by cases h⟩,⟨true,_,h1,rfl,fun id h=>by cases h⟩,⟨true,_,h7,?_,fun id h=>h⟩,⟨true,_,h8,?_,fun id h=>by cases h⟩,trivial⟩
  ·
   simp [AV.ren,SV.ren,idx]
  ·
   simp [AV.ren,SV.ren]
theorem rsort_ok:EffOk Tryz.prog 32 conTSort:=by
 refine effOkD (L:={ live:=[0,1,4,5,6,7,8,9,10,11,13,16,20,29,32,37,43,79],frz:=[(21,[13]),(22,[7])] }) re4_good rfl nr_mixed Tryz.func32 rfl conTSort 2 (by decide) (by kernel_rfl) ?_
 intro args hp K hpre hlens
 simp only [conTSort] at hpre
 split at hpre
 case h_2=>exact hpre.elim
 rename_i tk ks ek td l el
 obtain ⟨rfl,rfl,⟨hkl0,hll⟩,hK⟩:=hpre; simp only at ks l hkl0 hll hK
 refine ⟨rfl,?_⟩
 simp -dsimp -implicitDefEqProofs [Tryz.f32,-Prod.forall,-Bool.forall_bool,-Prod.exists,-Bool.exists_bool,re4_all,reT,re4Γ,re4E,re4P,re3Γ,re3E,re3P,re2Γ,re2E,re2P,re1Γ,re1E,re1P,re0Γ,re0E,re0P,conRPlain_eq,conRRight_eq,conFrst_eq,conByK_eq,conRFew_eq,conRtios_eq,conInts_eq,conRatC_eq,conCmpR_eq,inI64]
 refine ⟨fun h => ?_,fun hp => ?_⟩
 ·
  have:sortErr ks l=210:=by
   unfold sortErr
   rw [if_neg]
   rintro ⟨q1,_⟩
   rw [q1] at h; cases h
  rw [← this]
  exact hK _ _
 refine WpD.loop (L:={ live:=[0,1,4,5,6,7,8,9,10,11,13,16,20,29,32,37,43,79],frz:=[(21,[13]),(22,[7])] }) re4_good X0_ok nr_mixed (by kernel_rfl)
  (fun i:Nat=>⟨[(0,vS tKey ks ek),(1,vS tKd l el),(6,vI i)],[]⟩)
  (fun i=>i≤l.length∧∀ j (h:j<l.length),j<i→rightB ks l[j]=true) (fun i=>l.length - i) 0 ⟨Nat.zero_le _,fun j h hj=>absurd hj (by omega)⟩ (Turn.le (by simp -dsimp -implicitDefEqProofs)) ?_
 rintro i ⟨hi,hj⟩
 rcases Nat.lt_or_ge i l.length with hil | hge
 ·
  simp -dsimp -implicitDefEqProofs [hil,-Prod.forall,-Bool.forall_bool,-Prod.exists,-Bool.exists_bool,re4_all,reT,re4Γ,re4E,re4P,re3Γ,re3E,re3P,re2Γ,re2E,re2P,re1Γ,re1E,re1P,re0Γ,re0E,re0P,conRPlain_eq,conRRight_eq,conFrst_eq,conByK_eq,conRFew_eq,conRtios_eq,conInts_eq,conRatC_eq,conCmpR_eq,inI64]
  refine ⟨fun h => ?_,fun h=>⟨⟨by omega,by omega⟩,i+1,⟨by omega,fun j q1 q2 => ?_⟩,by omega,TurnT.le (by simp -dsimp -implicitDefEqProofs)⟩⟩
  ·
   have:sortErr ks l=210:=by
    unfold sortErr
    rw [if_neg]
    rintro ⟨q1,q2⟩
    have hw:=List.any_eq_false.1 q2 l[i] (List.getElem_mem hil)
    have:=rightB_wrong q1 l[i]
    rw [show rightB ks l[i]=false from h] at this
    cases hq:wrongV (hasLs ks) l[i] with
    | true=>exact hw hq
    | false=>rw [hq] at this; cases this
   rw [← this]
   exact hK _ _
  ·
   rcases Nat.lt_succ_iff_lt_or_eq.1 q2 with h' | rfl
   ·
    exact hj j q1 h'
   ·
    exact h
 have hn:¬ i<l.length:=by omega
 simp -dsimp -implicitDefEqProofs [hn,-Prod.forall,-Bool.forall_bool,-Prod.exists,-Bool.exists_bool,re4_all,reT,re4Γ,re4E,re4P,re3Γ,re3E,re3P,re2Γ,re2E,re2P,re1Γ,re1E,re1P,re0Γ,re0E,re0P,conRPlain_eq,conRRight_eq,conFrst_eq,conByK_eq,conRFew_eq,conRtios_eq,conInts_eq,conRatC_eq,conCmpR_eq,inI64]
 refine ⟨fun h=>absurd h (by omega),fun _ => ?_⟩
 have hra:∀ j (h:j<l.length),rightB ks l[j]=true:=fun j h=>hj j h (by omega)
 have hse:sortErr ks l=0:=by
  unfold sortErr
  rw [if_pos]
  refine ⟨hp,List.any_eq_false.2 fun x hx => ?_⟩
  obtain ⟨j,hjl,rfl⟩:=List.mem_iff_getElem.1 hx
  have:=rightB_wrong hp l[j]
  rw [hra j hjl] at this
  intro hq
  rw [hq] at this; cases this
 have hfr:∀ j,0≤j→j<(l.length:Int)→fairX (l[j.toNat]?.getD dK)∧∀ k∈ks,hasK k (l[j.toNat]?.getD dK)=true:=fun j h1 h2=>by
  have hlt:j.toNat<l.length:=by omega
  rw [List.getElem?_eq_getElem hlt]
  exact fair_right (hra _ hlt)
 refine WpD.loop (L:={ live:=[0,1,4,5,6,7,8,9,10,11,13,16,20,29,32,37,43,79],frz:=[(21,[13]),(22,[7])] }) re4_good X0_ok nr_mixed (by kernel_rfl)
  (fun os:List Int=>stO ks ek l el os)
  (fun os=>os.length≤l.length∧inO l os) (fun os=>l.length - os.length) [] ⟨Nat.zero_le _,fun x h=>by cases h⟩ (Turn.le (by rw [stO_nil]; simp -dsimp -implicitDefEqProofs)) ?_
 rintro os ⟨hos,hin⟩
 dsimp only
 by_cases hne:os=[]
 ·
  subst hne
  rw [stO_nil]
  rcases Nat.eq_zero_or_pos l.length with hz | hlp
  ·
   simp -dsimp -implicitDefEqProofs [hz,-Prod.forall,-Bool.forall_bool,-Prod.exists,-Bool.exists_bool,re4_all,reT,re4Γ,re4E,re4P,re3Γ,re3E,re3P,re2Γ,re2E,re2P,re1Γ,re1E,re1P,re0Γ,re0E,re0P,conRPlain_eq,conRRight_eq,conFrst_eq,conByK_eq,conRFew_eq,conRtios_eq,conInts_eq,conRatC_eq,conCmpR_eq,inI64]
   rw [← hse]
   exact hK [] true
  ·
   simp -dsimp -implicitDefEqProofs [hlp,-Prod.forall,-Bool.forall_bool,-Prod.exists,-Bool.exists_bool,re4_all,reT,re4Γ,re4E,re4P,re3Γ,re3E,re3P,re2Γ,re2E,re2P,re1Γ,re1E,re1P,re0Γ,re0E,re0P,conRPlain_eq,conRRight_eq,conFrst_eq,conByK_eq,conRFew_eq,conRtios_eq,conInts_eq,conRatC_eq,conCmpR_eq,inI64]
   refine WpD.loop (L:={ live:=[0,1,4,5,6,7,8,9,10,11,13,16,20,29,32,37,43,79],frz:=[(21,[13]),(22,[7])] }) re4_good X0_ok nr_mixed (by kernel_rfl)
    (fun _:Nat=>⟨[(0,vS tKey ks ek),(1,vS tKd l el),(7,vS tI [] true),(8,vI 0),(9,vI 0)],[]⟩)
    (fun _=>True) (fun n=>n) 0 trivial (Turn.le (by simp -dsimp -implicitDefEqProofs)) ?_
   rintro _ -
   simp -dsimp -implicitDefEqProofs [hlp,-Prod.forall,-Bool.forall_bool,-Prod.exists,-Bool.exists_bool,re4_all,reT,re4Γ,re4E,re4P,re3Γ,re3E,re3P,re2Γ,re2E,re2P,re1Γ,re1E,re1P,re0Γ,re0E,re0P,conRPlain_eq,conRRight_eq,conFrst_eq,conByK_eq,conRFew_eq,conRtios_eq,conInts_eq,conRatC_eq,conCmpR_eq,inI64]
   have hmx:10000≤maxLen:=by simp only [maxLen]; omega
   exact ⟨[],rfl,rfl,by omega,⟨by decide,by show 1+0≤maxLen; omega⟩,[0],⟨hlp,fun x hx=>by rw [List.mem_singleton.1 hx]; exact ⟨by decide,by omega⟩⟩,by show l.length - 1<l.length; omega,turn_put ks ek l el _ [] 0 (Nat.le_refl _) (d:=1) rfl rfl rfl rfl rfl⟩
 ·
  rw [stO_ne _ _ _ _ hne]
  rcases Nat.lt_or_ge os.length l.length with hol | hog
  ·
   simp -dsimp -implicitDefEqProofs [hol,-Prod.forall,-Bool.forall_bool,-Prod.exists,-Bool.exists_bool,re4_all,reT,re4Γ,re4E,re4P,re3Γ,re3E,re3P,re2Γ,re2E,re2P,re1Γ,re1E,re1P,re0Γ,re0E,re0P,conRPlain_eq,conRRight_eq,conFrst_eq,conByK_eq,conRFew_eq,conRtios_eq,conInts_eq,conRatC_eq,conCmpR_eq,inI64]
   refine WpD.loop (L:={ live:=[0,1,4,5,6,7,8,9,10,11,13,16,20,29,32,37,43,79],frz:=[(21,[13]),(22,[7])] }) re4_good X0_ok nr_mixed (by kernel_rfl)
    (fun k:Nat=>⟨[(0,vS tKey ks ek),(1,vS tKd l el),(7,⟨true,.v (.s (.own tI 0 os.length))⟩),(8,vI os.length),(9,vI k)],[.arr true (tI.flats os)]⟩)
    (fun k=>k≤os.length) (fun k=>os.length - k) 0 (Nat.zero_le _) (Turn.le (by simp -dsimp -implicitDefEqProofs)) ?_
   intro k hk
   have hol2:os.length<l.length:=hol
   rcases Nat.lt_or_ge k os.length with hkl | hkg
   ·
    have f1:(tI.flats os)[k]'(by rw [flats_length]; simpa using hkl)=.int .i64 os[k]:=by
     have:=flats_int_get (k:=.i64) os k
     rw [List.getElem?_eq_getElem (by rw [flats_length]; simpa using hkl),List.getElem?_eq_getElem hkl] at this
     injection this
    simp -dsimp -implicitDefEqProofs [hkl,f1,-Prod.forall,-Bool.forall_bool,-Prod.exists,-Bool.exists_bool,re4_all,reT,re4Γ,re4E,re4P,re3Γ,re3E,re3P,re2Γ,re2E,re2P,re1Γ,re1E,re1P,re0Γ,re0E,re0P,conRPlain_eq,conRRight_eq,conFrst_eq,conByK_eq,conRFew_eq,conRtios_eq,conInts_eq,conRatC_eq,conCmpR_eq,inI64]
    obtain ⟨b1,b2⟩:=hin os[k] (List.getElem_mem hkl)
    obtain ⟨fx,hx⟩:=hfr os[k] b1 b2
    obtain ⟨fy,hy⟩:=hfr (os.length:Int) (Int.natCast_nonneg _) (by omega)
    rw [Int.toNat_natCast] at fy hy
    refine ⟨⟨b1,b2⟩,hol2,⟨hkl0,fun q hq=>⟨hx q hq,hy q hq⟩,fx,fy⟩,?_⟩
    generalize frstC ks _ _=c
    have hdl:(os.drop k).length=os.length - k:=List.length_drop
    have hmx:10000≤maxLen:=by simp only [maxLen]; omega
    refine ⟨fun a b=>⟨⟨a,b⟩,b1,b2⟩,fun a b=>⟨⟨a,b⟩,hol2⟩,fun a=>⟨a,fun b=>⟨a,b⟩⟩,fun _=>⟨hk,⟨by omega,by omega⟩,os.drop k,rfl,hdl.symm,hk,⟨by omega,by omega,by omega⟩,⟨by omega,by omega,by omega⟩,⟨by omega,by omega⟩,os.take k++((os.length:Int)::os.drop k),⟨?_,inO_put hin hol2⟩,?_,turn_put ks ek l el _ os k hk (d:=2) rfl rfl rfl rfl rfl⟩,fun _ _=>⟨⟨by omega,by omega⟩,k+1,by omega,by omega,TurnT.le (by simp -dsimp -implicitDefEqProofs)⟩⟩
    ·
     rw [put_len hk]; omega
    ·
     rw [put_len hk]; omega
   ·
    obtain rfl:k=os.length:=by omega
    have hnk:¬ os.length<os.length:=by omega
    simp -dsimp -implicitDefEqProofs [hnk,-Prod.forall,-Bool.forall_bool,-Prod.exists,-Bool.exists_bool,re4_all,reT,re4Γ,re4E,re4P,re3Γ,re3E,re3P,re2Γ,re2E,re2P,re1Γ,re1E,re1P,re0Γ,re0E,re0P,conRPlain_eq,conRRight_eq,conFrst_eq,conByK_eq,conRFew_eq,conRtios_eq,conInts_eq,conRatC_eq,conCmpR_eq,inI64]
    have hmx:10000≤maxLen:=by simp only [maxLen]; omega
    have hdn:os.drop os.length=[]:=List.drop_of_length_le (Nat.le_refl _)
    have ht:=turn_put (N:=96) (g:=re4) ks ek l el [(0,vS tKey ks ek),(1,vS tKd l el),(7,⟨true,.v (.s (.own tI 2 (os.length+1+0)))⟩),(8,vI ((os.length:Int)+1)),(9,vI os.length),(13,vS tI [] false),(43,vB false)] os os.length (Nat.le_refl _) (d:=2) rfl rfl (by rw [hdn]; rfl) rfl rfl
    rw [hdn] at ht
    have hq:=inO_put (k:=os.length) hin hol2
    rw [hdn] at hq
    refine ⟨[],rfl,rfl,⟨by omega,by omega⟩,⟨by simp only [List.length_nil]; omega,by simp only [List.length_nil]; omega⟩,⟨by omega,by omega⟩,os.take os.length++[(os.length:Int)],⟨?_,hq⟩,?_,ht⟩
    ·
     rw [List.length_append,List.length_take]; simp only [List.length_cons,List.length_nil]; omega
    ·
     rw [List.length_append,List.length_take]; simp only [List.length_cons,List.length_nil]; omega
  ·
   have hnl:¬ os.length<l.length:=by omega
   simp -dsimp -implicitDefEqProofs [hnl,-Prod.forall,-Bool.forall_bool,-Prod.exists,-Bool.exists_bool,re4_all,reT,re4Γ,re4E,re4P,re3Γ,re3E,re3P,re2Γ,re2E,re2P,re1Γ,re1E,re1P,re0Γ,re0E,re0P,conRPlain_eq,conRRight_eq,conFrst_eq,conByK_eq,conRFew_eq,conRtios_eq,conInts_eq,conRatC_eq,conCmpR_eq,inI64]
   refine ⟨os,rfl,rfl,?_⟩
   rw [← hse]
   exact hK os false
def idx0 (l:List tKd.T) (e:Int):Int:=match l.findIdx? (fun x=>x.1==e) with
 | some i=>i
 | none=>0
theorem idx0_at {l:List tKd.T} {e:Int} {i:Nat} (hi:i<l.length) (h:l[i].1=e) (hj:∀ j (h:j<l.length),j<i→l[j].1≠e):idx0 l e=i:=by
 have:l.findIdx? (fun x=>x.1==e)=some i:=by
  rw [List.findIdx?_eq_some_iff_getElem]
  exact ⟨hi,by simpa using h,fun j hji=>by simpa using hj j (by omega) hji⟩
 unfold idx0; rw [this]
theorem idx0_none {l:List tKd.T} {e:Int} (hj:∀ j (h:j<l.length),l[j].1≠e):idx0 l e=0:=by
 have:l.findIdx? (fun x=>x.1==e)=none:=by
  rw [List.findIdx?_eq_none_iff]
  intro x hx
  obtain ⟨j,hjl,rfl⟩:=List.mem_iff_getElem.1 hx
  simpa using hj j hjl
 unfold idx0; rw [this]
theorem idx0_en {l:List tKd.T} (hn:(ens l).Nodup) {i:Int} (hi:inLn l i):idx0 l (enAt l i).1=i:=by
 obtain ⟨i1,i2⟩:=hi
 have hlt:i.toNat<l.length:=by omega
 have e:enAt l i=l[i.toNat]:=by unfold enAt; rw [List.getElem?_eq_getElem hlt]; rfl
 rw [idx0_at hlt (by rw [e]) (fun j hj hji he => ?_)]
 ·
  omega
 ·
  have:=en_eq hn (List.getElem_mem hj) (List.getElem_mem hlt) (by rw [he,e])
  have h1:(ens l)[j]'(by simpa [ens] using hj)=(ens l)[i.toNat]'(by simpa [ens] using hlt):=by simp [ens,this]
  have:=(List.getElem_inj hn).1 h1
  omega
def conRfIdx:Con:=⟨fun args=>(match args with
 | [.s (.sl (.cons (.int .i64) (.cons (.cons (.cons .bool (.cons (.slice (.int .i64)) .nil)) (.cons (.cons .bool (.cons (.slice (.int .i64)) .nil)) .nil)) (.cons (.slice (.cons (.cons .bool (.cons (.slice (.int .i64)) .nil)) (.cons (.cons .bool (.cons (.slice (.int .i64)) .nil)) .nil))) (.cons (.slice (.cons (.cons .bool (.cons (.slice (.int .i64)) .nil)) (.cons (.cons .bool (.cons (.slice (.int .i64)) .nil)) .nil))) (.cons (.int .i64) (.cons (.int .i64) (.cons (.int .i64) .nil))))))) l _),.s (.int .i64 e)]=>True
 | _=>False),fun args=>match args with
 | [.s (.sl (.cons (.int .i64) (.cons (.cons (.cons .bool (.cons (.slice (.int .i64)) .nil)) (.cons (.cons .bool (.cons (.slice (.int .i64)) .nil)) .nil)) (.cons (.slice (.cons (.cons .bool (.cons (.slice (.int .i64)) .nil)) (.cons (.cons .bool (.cons (.slice (.int .i64)) .nil)) .nil))) (.cons (.slice (.cons (.cons .bool (.cons (.slice (.int .i64)) .nil)) (.cons (.cons .bool (.cons (.slice (.int .i64)) .nil)) .nil))) (.cons (.int .i64) (.cons (.int .i64) (.cons (.int .i64) .nil))))))) l _),.s (.int _ e)]=>.v (aI (idx0 l e))
 | _=>.v (.s .any)⟩
theorem conRfIdx_eq (l:List (Ty.T tKd)) (exl:Bool) (e:Int):conRfIdx.pre [.s (.sl tKd l exl),.s (.int .i64 e)]=(True)∧conRfIdx.val [.s (.sl tKd l exl),.s (.int .i64 e)]=.v (aI (idx0 l e)):=⟨rfl,rfl⟩
theorem rfidx_ok:PureOk Tryz.prog 58 conRfIdx:=by
 refine pureOkD (L:={ live:=[0,1,4,5,9,18] }) st0_good rfl nr_mixed Tryz.func58 rfl conRfIdx 2 (by decide) (by kernel_rfl) ?_
 intro args hpre hlens
 simp only [conRfIdx] at hpre
 split at hpre
 case h_2=>exact hpre.elim
 rename_i l el e
 simp only [allLen,AV.lenOk,SV.lenOk,Ty.lenOk,maxLen,and_true,implies_true,true_and,List.forall_mem_cons,List.not_mem_nil,false_implies] at hlens
 refine ⟨rfl,?_⟩
 simp -dsimp -implicitDefEqProofs [Tryz.f58,conRfIdx_eq,st0_all,stT,st0Γ,st0E,st0P,inI64]
 refine WpD.loop (L:={ live:=[0,1,4,5,9,18] }) st0_good X0_ok nr_mixed (by kernel_rfl)
  (fun i:Nat=>⟨[(0,vS tKd l el),(1,vI e),(4,vI 0),(5,vI i)],[]⟩)
  (fun i=>i≤l.length∧∀ j (h:j<l.length),j<i→l[j].1≠e) (fun i=>l.length - i) 0 ⟨Nat.zero_le _,fun j h hj=>absurd hj (by omega)⟩ (Turn.le (by simp -dsimp -implicitDefEqProofs)) ?_
 rintro i ⟨hi,hj⟩
 rcases Nat.lt_or_ge i l.length with hil | hge
 ·
  simp -dsimp -implicitDefEqProofs [conRfIdx_eq,hil,-Prod.forall,-Bool.forall_bool,-Prod.exists,-Bool.exists_bool,st0_all,stT,st0Γ,st0E,st0P,inI64]
  refine ⟨fun h=>(idx0_at hil h hj).symm,fun h=>⟨⟨by omega,by omega⟩,i+1,⟨by omega,fun j h1 h2 => ?_⟩,by omega,TurnT.le (by simp -dsimp -implicitDefEqProofs)⟩⟩
  rcases Nat.lt_succ_iff_lt_or_eq.1 h2 with h' | rfl
  ·
   exact hj j h1 h'
  ·
   exact h
 ·
  have hn:¬ i<l.length:=by omega
  simp -dsimp -implicitDefEqProofs [conRfIdx_eq,hn,-Prod.forall,-Bool.forall_bool,-Prod.exists,-Bool.exists_bool,st0_all,stT,st0Γ,st0E,st0P,inI64]
  exact (idx0_none fun j h=>hj j h (by omega)).symm
theorem nodup_step {l:List tKd.T} {i:Nat} (hi:i<l.length) (h:(ens (l.take i)).Nodup) (hk:∀ k (hk:k<l.length),k<i→l[k].1≠l[i].1):(ens (l.take (i+1))).Nodup:=by
 rw [ens_succ hi]
 refine nodup_snoc h fun hm => ?_
 unfold ens at hm
 obtain ⟨x,hx,he⟩:=List.mem_map.1 hm
 obtain ⟨k,hk',rfl⟩:=List.mem_take_iff_getElem.1 hx
 exact hk k (by omega) (by omega) he
theorem nodup_bad {l:List tKd.T} {i k:Nat} (hi:i<l.length) (hk:k<i) (h:l[k].1=l[i].1):¬ (ens l).Nodup:=by
 refine nodup_not hi ?_
 rw [← h]
 unfold ens
 exact List.mem_map.2 ⟨l[k],List.mem_take_iff_getElem.2 ⟨k,by omega,rfl⟩,rfl⟩
theorem rents_ok:PureOk Tryz.prog 33 conEnts:=by
 refine pureOkD (L:={ live:=[0,2,3,4,5,9,14,27,31,47] }) st0_good rfl nr_mixed Tryz.func33 rfl conEnts 1 (by decide) (by kernel_rfl) ?_
 intro args hpre hlens
 simp only [conEnts] at hpre
 split at hpre
 case h_2=>exact hpre.elim
 rename_i l el
 simp only [allLen,AV.lenOk,SV.lenOk,Ty.lenOk,maxLen,and_true,implies_true,true_and,List.forall_mem_cons,List.not_mem_nil,false_implies] at hlens
 refine ⟨rfl,?_⟩
 simp -dsimp -implicitDefEqProofs [Tryz.f33,conEnts_eq,st0_all,stT,st0Γ,st0E,st0P,inI64]
 refine WpD.loop (L:={ live:=[0,2,3,4,5,9,14,27,31,47] }) st0_good X0_ok nr_mixed (by kernel_rfl)
  (fun i:Nat=>⟨[(0,vS tKd l el),(2,vI 0),(3,vI i)],[]⟩)
  (fun i=>i≤l.length∧(ens (l.take i)).Nodup) (fun i=>l.length - i) 0 ⟨Nat.zero_le _,by simp [ens]⟩ (Turn.le (by simp -dsimp -implicitDefEqProofs)) ?_
 rintro i ⟨hi,hnd⟩
 rcases Nat.lt_or_ge i l.length with hil | hge
 ·
  simp -dsimp -implicitDefEqProofs [hil,-Prod.forall,-Bool.forall_bool,-Prod.exists,-Bool.exists_bool,st0_all,stT,st0Γ,st0E,st0P,inI64]
  refine WpD.loop (L:={ live:=[0,2,3,4,5,9,14,27,31,47] }) st0_good X0_ok nr_mixed (by kernel_rfl)
   (fun k:Nat=>⟨[(0,vS tKd l el),(2,vI 0),(3,vI i),(4,vI k)],[]⟩)
   (fun k=>k≤i∧∀ j (h:j<l.length),j<k→l[j].1≠l[i].1) (fun k=>i - k) 0 ⟨Nat.zero_le _,fun j h hj=>absurd hj (by omega)⟩ (Turn.le (by simp -dsimp -implicitDefEqProofs)) ?_
  rintro k ⟨hk,hj⟩
  rcases Nat.lt_or_ge k i with hki | hkg
  ·
   have hkl:k<l.length:=by omega
   simp -dsimp -implicitDefEqProofs [conEnts_eq,hil,hki,hkl,-Prod.forall,-Bool.forall_bool,-Prod.exists,-Bool.exists_bool,st0_all,stT,st0Γ,st0E,st0P,inI64]
   refine ⟨fun h => ?_,fun h=>⟨⟨by omega,by omega⟩,k+1,⟨by omega,fun j h1 h2 => ?_⟩,by omega,TurnT.le (by simp -dsimp -implicitDefEqProofs)⟩⟩
   ·
    rw [entErr,if_neg (nodup_bad hil hki h.symm)]
   ·
    rcases Nat.lt_succ_iff_lt_or_eq.1 h2 with h' | rfl
    ·
     exact hj j h1 h'
    ·
     exact fun e=>h e.symm
  ·
   obtain rfl:k=i:=by omega
   have hn:¬ k<k:=by omega
   simp -dsimp -implicitDefEqProofs [hn,-Prod.forall,-Bool.forall_bool,-Prod.exists,-Bool.exists_bool,st0_all,stT,st0Γ,st0E,st0P,inI64]
   exact ⟨⟨by omega,by omega⟩,k+1,⟨by omega,nodup_step hil hnd fun j h1 h2=>hj j h1 h2⟩,by omega,TurnT.le (by simp -dsimp -implicitDefEqProofs)⟩
 have hn:¬ i<l.length:=by omega
 rw [List.take_of_length_le hge] at hnd
 simp -dsimp -implicitDefEqProofs [hn,-Prod.forall,-Bool.forall_bool,-Prod.exists,-Bool.exists_bool,st0_all,stT,st0Γ,st0E,st0P,inI64]
 refine WpD.loop (L:={ live:=[0,2,3,4,5,9,14,27,31,47] }) st0_good X0_ok nr_mixed (by kernel_rfl)
  (fun i:Nat=>⟨[(0,vS tKd l el),(2,vI 0),(5,vI i)],[]⟩)
  (fun i=>i≤l.length∧∀ j (h:j<l.length),j<i→0≤l[j].1∧l[j].1<4096) (fun i=>l.length - i) 0 ⟨Nat.zero_le _,fun j h hj=>absurd hj (by omega)⟩ (Turn.le (by simp -dsimp -implicitDefEqProofs)) ?_
 rintro q ⟨hq,hj⟩
 rcases Nat.lt_or_ge q l.length with hql | hqg
 ·
  simp -dsimp -implicitDefEqProofs [conEnts_eq,hql,-Prod.forall,-Bool.forall_bool,-Prod.exists,-Bool.exists_bool,st0_all,stT,st0Γ,st0E,st0P,inI64]
  refine ⟨fun h => ?_,fun h1 h2=>⟨⟨by omega,by omega⟩,q+1,⟨by omega,fun j q1 q2 => ?_⟩,by omega,TurnT.le (by simp -dsimp -implicitDefEqProofs)⟩⟩
  ·
   rw [entErr,if_pos hnd,if_neg]
   intro ha
   have:=ha l[q] (List.getElem_mem hql)
   rcases h with h | h
   ·
    exact absurd this.1 (Int.not_le.2 h)
   ·
    exact absurd this.2 (Int.not_lt.2 h)
  ·
   rcases Nat.lt_succ_iff_lt_or_eq.1 q2 with h' | rfl
   ·
    exact hj j q1 h'
   ·
    exact ⟨h1,h2⟩
 ·
  have hn2:¬ q<l.length:=by omega
  simp -dsimp -implicitDefEqProofs [conEnts_eq,hn2,-Prod.forall,-Bool.forall_bool,-Prod.exists,-Bool.exists_bool,st0_all,stT,st0Γ,st0E,st0P,inI64]
  rw [entErr,if_pos hnd,if_pos]
  intro x hx
  obtain ⟨j,hjl,rfl⟩:=List.mem_iff_getElem.1 hx
  exact hj j hjl (by omega)
end Go.Am
