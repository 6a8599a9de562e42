/- Part 5 of the proof's base. -/
import Derived.Test.YtejcoioabaejlaaGreatDoorK4
set_option linter.all false
noncomputable section
namespace Go.Am
open Go.RowKit
abbrev tI:Ty:=.int .i64
theorem ok_of_all {P:Program} {g:G} (h:∀ p∈g.τ,p.2.ok P p.1):G.ok P g:=by
 intro t d hl
 have:∀ l:List (TypeId×TD),look l t=some d→(t,d)∈l:=by
  intro l
  induction l with
  | nil=>intro h; simp [look] at h
  | cons p l ih =>
   intro h
   obtain ⟨k,x⟩:=p
   simp only [look] at h
   split at h
   ·
    rename_i e; subst e; injection h with h; subst h; exact .head _
   ·
    exact .tail _ (ih h)
 exact h _ (this _ hl)
def fieldsOf (P:Program) (t:TypeId):Array Field:=match P.underlying t with
 | some (.struct fs)=>fs
 | _=>#[]
theorem below_of_pure {x:SV} (n:Nat) (h:x.pure=true):x.below n=true:=by
 cases x <;> simp_all [SV.pure,SV.below]
theorem flats_below (t:Ty) (xs:List t.T) (n:Nat):(t.flats xs).all (fun x=>x.below n)=true:=by
 have h:=flats_pure t xs
 rw [List.all_eq_true] at h ⊢
 exact fun x hx=>below_of_pure n (h x hx)
theorem arr_below (al:Bool) (t:Ty) (xs:List t.T) (n:Nat):(Blk.arr al (t.flats xs)).below n=true:=flats_below t xs n
def Known (P:Program) (Γ:List (FuncId×Con)):Prop:=∀ f c,look Γ f=some c→(∀ (args:Array Value) (w:World),(callFunc f args).run P w=.ok (.enter f args) w)∧PureOk P f c
theorem Known.nil {P:Program}:Known P []:=fun f c h=>by simp [look] at h
theorem Known.cons {P:Program} {Γ:List (FuncId×Con)} {f:FuncId} {c:Con} (h1:∀ (args:Array Value) (w:World),(callFunc f args).run P w=.ok (.enter f args) w) (h2:PureOk P f c) (h:Known P Γ):Known P ((f,c)::Γ):=by
 intro f' c' hl
 simp only [look] at hl
 split at hl
 ·
  rename_i e; subst e; injection hl with hl; subst hl; exact ⟨h1,h2⟩
 ·
  exact h f' c' hl
def apV (Γ:List (FuncId×Con)) (f:FuncId) (caps:List (Sigma Ty.T)) (args:List AV):RV:=match look Γ f with
 | some c=>c.val (args++caps.map capAV)
 | none=>.v (.s .any)
def fnTo (Γ:List (FuncId×Con)) (t u:Ty) (f:FuncId) (caps:List (Sigma Ty.T)) (h:t.T→u.T) (D:t.T→Prop):Prop :=
 ∃ c,look Γ f=some c∧(∀ x,c.val (t.av x::caps.map capAV)=.v (u.av (h x)))∧∀ x,D x→c.pre (t.av x::caps.map capAV)
theorem of_av:∀ (t:Ty),t≠.nil→∀ x:t.T,t.of (t.av x)=some x
 | .int k,_,x=>by simp [Ty.av,Ty.of,Ty.nfld,Ty.parse]
 | .bool,_,x=>by simp [Ty.av,Ty.of,Ty.nfld,Ty.parse]
 | .str,_,x=>by simp [Ty.av,Ty.of,Ty.nfld,Ty.parse]
 | .slice t,_,x=>by simp [Ty.av,Ty.of,Ty.nfld,Ty.parse]
 | .nil,h,_=>absurd rfl h
 | .fn,_,x=>by simp [Ty.av,Ty.of,Ty.nfld,Ty.parse]
 | .cons t r,_,x=>by
  have:=parses_flat (.cons t r) x []
  simp only [List.append_nil] at this
  simp [Ty.av,Ty.of,Ty.nfld,this]
def apB (Γ:List (FuncId×Con)) (t:Ty) (f:FuncId) (caps:List (Sigma Ty.T)) (x:t.T):Bool:=(Ty.of .bool (apV Γ f caps [t.av x]).av).getD false
theorem apB_eq {Γ:List (FuncId×Con)} {t:Ty} {f:FuncId} {caps:List (Sigma Ty.T)} {h:t.T→Bool} {D:t.T→Prop} (hf:fnTo Γ t .bool f caps h D) (x:t.T):apB Γ t f caps x=h x:=by
 obtain ⟨c,h1,h2,_⟩:=hf
 unfold apB
 simp only [apV,h1,List.singleton_append,h2,RV.av,of_av .bool (by decide),Option.getD_some]
def idxOf {α:Type} (p:α→Bool) (xs:List α):Int:=match xs.findIdx? p with
 | some i=>i
 | none => -1
theorem idxOf_at {α:Type} {p:α→Bool} {xs:List α} {i:Nat} (hi:i<xs.length) (d:α) (h:p (xs[i]?.getD d)=true) (hno:∀ j,j<i→p (xs[j]?.getD d)=false):idxOf p xs=i:=by
 have:xs.findIdx? p=some i:=by
  rw [List.findIdx?_eq_some_iff_getElem]
  refine ⟨hi,by rw [getD_lt hi] at h; exact h,fun j hj => ?_⟩
  have:=hno j hj
  rw [getD_lt (by omega)] at this
  simp [this]
 simp [idxOf,this]
theorem idxOf_none {α:Type} {p:α→Bool} {xs:List α} (d:α) (hno:∀ j,j<xs.length→p (xs[j]?.getD d)=false):idxOf p xs = -1:=by
 have:xs.findIdx? p=none:=by
  rw [List.findIdx?_eq_none_iff]
  intro x hx
  obtain ⟨j,hj,rfl⟩:=List.mem_iff_getElem.1 hx
  have:=hno j hj
  rwa [getD_lt hj] at this
 simp [idxOf,this]
theorem idxOf_any {α:Type} (p:α→Bool) (xs:List α):decide (0≤idxOf p xs)=xs.any p:=by
 unfold idxOf
 rw [Bool.eq_iff_iff,decide_eq_true_eq,List.any_eq_true]
 cases h:xs.findIdx? p with
 | none =>
  rw [List.findIdx?_eq_none_iff] at h
  constructor
  ·
   intro h0; exact absurd h0 (by decide)
  ·
   rintro ⟨x,hx,hp⟩; rw [h x hx] at hp; cases hp
 | some i =>
  rw [List.findIdx?_eq_some_iff_getElem] at h
  obtain ⟨hi,hp,_⟩:=h
  constructor
  ·
   intro _; exact ⟨_,List.getElem_mem hi,hp⟩
  ·
   intro _; exact Int.natCast_nonneg i
theorem fnTo.mono {Γ:List (FuncId×Con)} {t u:Ty} {f:FuncId} {caps:List (Sigma Ty.T)} {h:t.T→u.T} {D D':t.T→Prop} (hf:fnTo Γ t u f caps h D) (hd:∀ x,D' x→D x):fnTo Γ t u f caps h D':=by
 obtain ⟨c,h1,h2,h3⟩:=hf
 exact ⟨c,h1,h2,fun x hx=>h3 x (hd x hx)⟩
theorem caps_all (caps:List (Sigma Ty.T)):(caps.map capAV).all AV.pure=true:=by
 rw [List.all_map,List.all_eq_true]; intro x _; rfl
theorem caps_all' (caps:List (Sigma Ty.T)):caps.all (AV.pure ∘ capAV)=true:=by
 rw [List.all_eq_true]; intro x _; rfl
theorem PureOk.of {P:Program} {f:FuncId} {con:Con} (h:∀ args,con.pre args→∃ con',PureOk P f con'∧con'.pre args∧con'.val args=con.val args):PureOk P f con:=by
 intro w M0 args vs hpre hM hargs
 obtain ⟨con',h1,h2,h3⟩:=h args hpre
 have:=h1 w M0 args vs h2 hM hargs
 rwa [h3] at this
theorem EffOk.of {P:Program} {f:FuncId} {con:ECon} (h:∀ args hp K,con.wp args hp K→∃ con',EffOk P f con'∧con'.wp args hp K):EffOk P f con:=by
 intro w M0 bs hp args vs K hpre hr hpure hargs
 obtain ⟨con',h1,h2⟩:=h args hp K hpre
 exact h1 w M0 bs hp args vs K h2 hr hpure hargs
def g1 (τ:List (TypeId×TD)) (f:FuncId) (c:Con):G:={ τ:=τ,Γ:=[(f,c)] }
theorem g1_good {P:Program} {τ:List (TypeId×TD)} {f:FuncId} {c:Con} (hτ:∀ g:G,g.τ=τ→G.ok P g) (h1:∀ (args:Array Value) (w:World),(callFunc f args).run P w=.ok (.enter f args) w) (h2:PureOk P f c):(g1 τ f c).good P :=
 good_of_all (hτ _ rfl) (fun p hp=>by simp only [g1,List.mem_singleton] at hp; subst hp; exact ⟨h1,h2⟩) (fun p hp=>by cases hp) (fun p hp=>by cases hp)
theorem g1_td {τ:List (TypeId×TD)} {f:FuncId} {c:Con} (t:TypeId):(g1 τ f c).td t=(look τ t).getD .other:=rfl
theorem g1_y {τ:List (TypeId×TD)} {f:FuncId} {c:Con}:(g1 τ f c).y=false:=rfl
theorem g1_Γ {τ:List (TypeId×TD)} {f:FuncId} {c:Con}:(g1 τ f c).Γ=[(f,c)]:=rfl
theorem g1_E {τ:List (TypeId×TD)} {f:FuncId} {c:Con}:(g1 τ f c).E=[]:=rfl
theorem g1_Pn {τ:List (TypeId×TD)} {f:FuncId} {c:Con}:(g1 τ f c).Pn=[]:=rfl
theorem g1_fz {τ:List (TypeId×TD)} {f:FuncId} {c:Con}:(g1 τ f c).fz=[]:=rfl
def seqOf (It:List (FuncId×ItCon)) (f:FuncId) (caps:List (Sigma Ty.T)) (t:Ty) (xs:List t.T):Prop:=∃ ic,look It f=some ic∧ic.pre (caps.map capAV)∧ic.xs (caps.map capAV)=xs.map fun x=>[t.av x]
def KnownIt (P:Program) (It:List (FuncId×ItCon)):Prop:=∀ f ic,look It f=some ic→ItOk P f ic
theorem KnownIt.nil {P:Program}:KnownIt P []:=fun f c h=>by simp [look] at h
theorem KnownIt.cons {P:Program} {It:List (FuncId×ItCon)} {f:FuncId} {c:ItCon} (h2:ItOk P f c) (h:KnownIt P It):KnownIt P ((f,c)::It):=by
 intro f' c' hl
 simp only [look] at hl
 split at hl
 ·
  rename_i e; subst e; injection hl with hl; subst hl; exact h2
 ·
  exact h f' c' hl
theorem take_map_av {t:Ty} (xs:List t.T) (i:Nat) {args:List AV} (h:(xs.map fun x=>[t.av x])[i]?=some args):∃ hl:i<xs.length,args=[t.av xs[i]]:=by
 rw [List.getElem?_map] at h
 cases hx:xs[i]? with
 | none=>rw [hx] at h; cases h
 | some x=>rw [hx] at h; cases h; obtain ⟨h1,h2⟩:=List.getElem?_eq_some_iff.1 hx; exact ⟨h1,by rw [h2]⟩
theorem take_succ_get {α:Type} (xs:List α) {i:Nat} (hi:i<xs.length) (d:α):xs.take (i+1)=xs.take i++[xs[i]?.getD d]:=by
 rw [List.take_add_one,List.getElem?_eq_getElem hi]; rfl
theorem wrap_u8 {w:Int} (h:0≤w∧w≤255):IntKind.wrap .i64 w=w:=IntWalk.i64_in _ (by omega)
end Go.Am
namespace Go.Am
set_option maxHeartbeats 4000000
set_option maxRecDepth 20000
open Go.RowKit Go.Proofs
attribute [local simp] thenKD_normal thenKD_exit thenKD_goto thenKD_ret inBlockKD_normal inBlockKD_exit inBlockKD_goto inBlockKD_ret noGotoKD_normal noGotoKD_exit noGotoKD_goto noGotoKD_ret roundKD_normal roundKD_exit roundKD_goto roundKD_ret frzSlotsD_nil frzSlotsD_cons frzSlotD_eq yieldVCD_trace opVCD_eq vcOpsD_nil vcOpsD_cons vcAllD_zero vcAllD_succ allAtD_nil allAtD_cons readyAux edgA vcD_skip vcD_label vcD_exit vcD_goto vcD_ret vcD_region vcD_seq vcD_seqC vcD_cond vcCondD_bool vcD_block vcD_scope vcD_loop vcD_rangeFunc yieldOf isMem isMem0 keepE envLe St.le psE yieldAV round_td round_y round_Γ vI vB vS aI aB aS look getE oper opRV putE allOk okOps Op.operands Call.operands pEv qEv mEv constRV coe RV.av loadEv loadCs takeAt indexAddrEv fieldAddrEv binEv intEv arith unEv gcond pickEv argsEv callVal callEv capAV_mk lenArgs lenEv minEv extractEv convEv funcEv allBox bound sliceEv lookupEv TD.isBool allocEv boxEv storeEv spl plainTD appendEv appendArgs makeMapEv mapUpdateEv buildEv buildSliceEv fillSV zsvOf sizeTD Ty.parses parses_flats' coeA flats_length AV.good AV.cells AV.pure SV.pure av_int av_bool av_str av_slice av_cons av_fld0 av_fld1 av_fld2 av_fld3 av_fld4 Ty.of Ty.dflt Ty.parse Ty.flat Ty.zsv Ty.fld Ty.get Ty.off Ty.nfld Ty.size coeTy junk Blk.look argEnv resEv resOk resVs oneRV retOk frzAs frzAV frzL frzSV boxCaps boxCap SV.sig sigs RV.scalar AV.scalar SV.scalar nope effVCD_eq effOf SV.ids AV.ids dedup SV.ren AV.ren RV.ren idx outId mergeB Blk.pureB flats_pure flat_pure epsSlotsD_nil epsSlotsD_cons epsSlotD_eq allEp D.parts_fnOf fvParts retEff round_E av_fn G.ye isCutD_nil isCutD_cons firstReg_region firstReg_seq firstReg_skip firstReg_ret firstReg_label firstReg_exit firstReg_goto firstReg_cond firstReg_block firstReg_scope firstReg_loop firstReg_rf eptrOf_mk flOfD_nil flOfD_cons vcFlD_cons vcFlD_nil flPairs_nil flPairs_cons vcFrD_nil vcFrD_cons makeSliceEv vcCondD_ib fzEv unfl_flats isFz round_fz panVCD_eq panOf isShift strIdxEv ifaceEv nilChkEv sliceAnyEv sliceOwnEv sliceSufEv appendEv0 appendEv1 Ty.beq Ty.isAgg round_Pn vcDefD_seqR vcDefD_seqS vcDefD_seqC vcDefD_seqB vcDefD_seqL vcDefD_seqF vcDefD_seqSc vcDefD_region vcDefD_ret vcDefD_cond vcDefD_block vcDefD_loop thenKD_panic inBlockKD_panic noGotoKD_panic exitOk_normal exitOk_ret exitOk_panic exitOk_exit runDefs_none runDefs_some runDefs_cons defRegD defReg2D isDefer defOf caughtCon unfl_cons D.bpart_bndOf D.parts_bndOf AV.sig zapEv capArgs capEv
attribute [local simp ←] flats_append
def nrT:List (TypeId×TD):=[(1,.func),(2,.sc tI),(3,.sc tI),(4,.sc .bool),(5,.sc (.int .u8)),(8,.struct (.cons tI (.cons tI (.cons .bool (.cons (.int .u8) .nil))))),(9,.sc .str),(23,.slice 3 tI 8),(25,.struct (.cons .bool (.cons (.slice tI) .nil))),(27,.struct (.cons (.cons .bool (.cons (.slice tI) .nil)) (.cons (.cons .bool (.cons (.slice tI) .nil)) .nil))),(30,.sc tI),(46,.slice 5 (.int .u8) 1),(78,.func),(97,.slice 25 (.cons .bool (.cons (.slice tI) .nil)) 32),(100,.struct (.cons (.cons (.cons .bool (.cons (.slice tI) .nil)) (.cons (.cons .bool (.cons (.slice tI) .nil)) .nil)) .nil)),(111,.func),(123,.slice 27 (.cons (.cons .bool (.cons (.slice tI) .nil)) (.cons (.cons .bool (.cons (.slice tI) .nil)) .nil)) 64),(126,.slice 3 tI 8),(136,.sc (.int .u64)),(138,.sc (.int .u32)),(151,.func),(156,.sc (.int .u64)),(171,.func),(172,.func),(186,.func),(188,.slice 138 (.int .u32) 4),(199,.func),(203,.func),(216,.func)]
theorem nrT_ok (g:G) (hg:g.τ=nrT):G.ok Tryz.prog g:=by
 refine ok_of_all ?_
 rw [hg]
 simp only [nrT,List.forall_mem_cons]
 refine ⟨?_,?_,?_,?_,?_,?_,?_,?_,?_,?_,?_,?_,?_,?_,?_,?_,?_,?_,?_,?_,?_,?_,?_,?_,?_,?_,?_,?_,?_,by simp⟩
 ·
  exact ⟨⟨_,_,_,Tryz.underlying1⟩,by kernel_rfl⟩
 ·
  exact ⟨by kernel_rfl,rfl,by kernel_rfl,rfl⟩
 ·
  exact ⟨by kernel_rfl,rfl,by kernel_rfl,rfl⟩
 ·
  exact ⟨by kernel_rfl,rfl,by kernel_rfl,rfl⟩
 ·
  exact ⟨by kernel_rfl,rfl,by kernel_rfl,rfl⟩
 ·
  exact ⟨fieldsOf Tryz.prog 8,by kernel_rfl,by kernel_rfl,by kernel_rfl,by decide,by kernel_rfl⟩
 ·
  exact ⟨by kernel_rfl,rfl,by kernel_rfl,rfl⟩
 ·
  exact ⟨by kernel_rfl,by decide,by kernel_rfl,⟨cellsV (Ty.zcells tI),by kernel_rfl,by kernel_rfl,by kernel_rfl⟩,by kernel_rfl⟩
 ·
  exact ⟨fieldsOf Tryz.prog 25,by kernel_rfl,by kernel_rfl,by kernel_rfl,by decide,by kernel_rfl⟩
 ·
  exact ⟨fieldsOf Tryz.prog 27,by kernel_rfl,by kernel_rfl,by kernel_rfl,by decide,by kernel_rfl⟩
 ·
  exact ⟨by kernel_rfl,rfl,by kernel_rfl,rfl⟩
 ·
  exact ⟨by kernel_rfl,by decide,by kernel_rfl,⟨cellsV (Ty.zcells (.int .u8)),by kernel_rfl,by kernel_rfl,by kernel_rfl⟩,by kernel_rfl⟩
 ·
  exact ⟨⟨_,_,_,Tryz.underlying78⟩,by kernel_rfl⟩
 ·
  exact ⟨by kernel_rfl,by decide,by kernel_rfl,⟨cellsV (Ty.zcells (.cons .bool (.cons (.slice tI) .nil))),by kernel_rfl,by kernel_rfl,by kernel_rfl⟩,by kernel_rfl⟩
 ·
  exact ⟨fieldsOf Tryz.prog 100,by kernel_rfl,by kernel_rfl,by kernel_rfl,by decide,by kernel_rfl⟩
 ·
  exact ⟨⟨_,_,_,Tryz.underlying111⟩,by kernel_rfl⟩
 ·
  exact ⟨by kernel_rfl,by decide,by kernel_rfl,⟨cellsV (Ty.zcells (.cons (.cons .bool (.cons (.slice tI) .nil)) (.cons (.cons .bool (.cons (.slice tI) .nil)) .nil))),by kernel_rfl,by kernel_rfl,by kernel_rfl⟩,by kernel_rfl⟩
 ·
  exact ⟨by kernel_rfl,by decide,by kernel_rfl,⟨cellsV (Ty.zcells tI),by kernel_rfl,by kernel_rfl,by kernel_rfl⟩,by kernel_rfl⟩
 ·
  exact ⟨by kernel_rfl,rfl,by kernel_rfl,rfl⟩
 ·
  exact ⟨by kernel_rfl,rfl,by kernel_rfl,rfl⟩
 ·
  exact ⟨⟨_,_,_,Tryz.underlying151⟩,by kernel_rfl⟩
 ·
  exact ⟨by kernel_rfl,rfl,by kernel_rfl,rfl⟩
 ·
  exact ⟨⟨_,_,_,Tryz.underlying171⟩,by kernel_rfl⟩
 ·
  exact ⟨⟨_,_,_,Tryz.underlying172⟩,by kernel_rfl⟩
 ·
  exact ⟨⟨_,_,_,Tryz.underlying186⟩,by kernel_rfl⟩
 ·
  exact ⟨by kernel_rfl,by decide,by kernel_rfl,⟨cellsV (Ty.zcells (.int .u32)),by kernel_rfl,by kernel_rfl,by kernel_rfl⟩,by kernel_rfl⟩
 ·
  exact ⟨⟨_,_,_,Tryz.underlying199⟩,by kernel_rfl⟩
 ·
  exact ⟨⟨_,_,_,Tryz.underlying203⟩,by kernel_rfl⟩
 ·
  exact ⟨⟨_,_,_,Tryz.underlying216⟩,by kernel_rfl⟩
theorem nr_mixed:Tryz.prog.follows .mixedOrders=true:=by kernel_rfl
def nr0Γ:List (FuncId×Con):=[]
theorem nr0Γ_ok:∀ p∈nr0Γ,(∀ (args:Array Value) (w:World),(callFunc p.1 args).run Tryz.prog w=.ok (.enter p.1 args) w)∧PureOk Tryz.prog p.1 p.2:=by simp [nr0Γ]
def nr0E:List (FuncId×ECon):=[]
theorem nr0E_ok:∀ p∈nr0E,(∀ (args:Array Value) (w:World),(callFunc p.1 args).run Tryz.prog w=.ok (.enter p.1 args) w)∧EffOk Tryz.prog p.1 p.2:=by simp [nr0E]
def nr0P:List (FuncId×PCon):=[]
theorem nr0P_ok:∀ p∈nr0P,(∀ (args:Array Value) (w:World),(callFunc p.1 args).run Tryz.prog w=.ok (.enter p.1 args) w)∧PanOk Tryz.prog p.1 p.2:=by simp [nr0P]
def nr0:G:={ τ:=nrT,Γ:=nr0Γ,E:=nr0E,Pn:=nr0P }
theorem nr0_good:nr0.good Tryz.prog:=good_of_all (nrT_ok _ rfl) nr0Γ_ok nr0E_ok nr0P_ok
theorem nr0_all:(∀ t,nr0.td t=(look nrT t).getD .other)∧nr0.y=false∧nr0.Γ=nr0Γ∧nr0.E=nr0E∧nr0.Pn=nr0P∧nr0.fz=[]:=⟨fun _=>rfl,rfl,rfl,rfl,rfl,rfl⟩
def conCoDI (Γ:List (FuncId×Con)):Con:=⟨fun args=>(match args with
 | [.s (.sl (.int .i64) xs _),.s (.fnp f caps)]=>∃ h,fnTo Γ tI .bool f caps h (·∈xs)
 | _=>False),fun args=>match args with
 | [.s (.sl (.int .i64) xs _),.s (.fnp f caps)]=>.v (.s (.int .i64 (idxOf (apB Γ tI f caps) xs)))
 | _=>.v (.s .any)⟩
theorem conCoDI_one (f:FuncId) (caps:List (Sigma Ty.T)) (c:Con) (he:∀ (args:Array Value) (w:World),(callFunc f args).run Tryz.prog w=.ok (.enter f args) w) (hc:PureOk Tryz.prog f c) (h:Ty.T tI→Bool)
  (hv:∀ x,c.val (Ty.av tI x::caps.map capAV)=.v (.s (.bool (h x)))) :
  PureOk Tryz.prog 179 ⟨fun args=>∃ xs ex,args=[.s (.sl tI xs ex),.s (.fnp f caps)]∧∀ x∈xs,c.pre (Ty.av tI x::caps.map capAV),fun args=>match args with
   | [.s (.sl (.int .i64) xs _),_]=>.v (.s (.int .i64 (idxOf h xs)))
   | _=>.v (.s .any)⟩:=by
 refine pureOkD (L:={ live:=[0,1,4,5,7,8,9,16] }) (g1_good nrT_ok he hc) rfl nr_mixed Tryz.func179 rfl _ 2 (by decide) (by kernel_rfl) ?_
 rintro _ ⟨xs,ex,rfl,hp⟩ hlens
 obtain ⟨⟨hl,_⟩,_⟩:=hlens
 simp only [maxLen] at hl
 refine ⟨rfl,?_⟩
 first | simp only [av_int,av_slice,av_bool] at hv hp | simp only [av_cons,av_bool,Ty.flat,List.cons_append,List.nil_append] at hv hp
 simp -dsimp -implicitDefEqProofs [Tryz.f179,g1_td,g1_y,g1_Γ,g1_E,g1_Pn,g1_fz,nrT,inI64]
 refine WpD.loop (L:={ live:=[0,1,4,5,7,8,9,16] }) (g1_good nrT_ok he hc) X0_ok nr_mixed (by kernel_rfl) (ι:=Nat)
  (fun i=>⟨[(0,vS tI xs ex),(1,⟨true,.v (.s (.fnp f caps))⟩),(7,vI xs.length),(8,vI i)],[]⟩)
  (fun i=>i≤xs.length∧∀ j,j<i→h (xs[j]?.getD (Ty.dflt tI))=false) (fun i=>xs.length - i) 0 (by simp) (Turn.le (by simp -dsimp -implicitDefEqProofs)) ?_
 rintro i ⟨hi,hno⟩
 simp only [Ty.dflt] at hno
 simp -dsimp -implicitDefEqProofs [hv,caps_all,caps_all',g1_td,g1_y,g1_Γ,g1_E,g1_Pn,g1_fz,nrT,inI64]
 refine ⟨fun hlt=>⟨hlt,hp _ (by rw [getD_lt hlt]; exact List.getElem_mem hlt),fun he => ?_,fun hne=>⟨⟨by omega,by omega⟩,i+1,⟨by omega,fun j hj => ?_⟩,by omega,TurnT.le (by simp -dsimp -implicitDefEqProofs)⟩⟩,fun hge => ?_⟩
 ·
  exact (idxOf_at hlt _ he hno).symm
 ·
  rcases Nat.lt_succ_iff_lt_or_eq.1 hj with h' | rfl
  ·
   exact hno j h'
  ·
   exact hne
 ·
  exact (idxOf_none _ fun j hj=>hno j (by omega)).symm
theorem conCoDI_known (Γ:List (FuncId×Con)) (hΓ:Known Tryz.prog Γ):PureOk Tryz.prog 179 (conCoDI Γ):=by
 refine PureOk.of fun args hpre => ?_
 simp only [conCoDI] at hpre
 split at hpre
 ·
  rename_i xs ex f caps
  obtain ⟨h,hf⟩:=hpre
  have hm:apB Γ tI f caps=h:=funext (apB_eq hf)
  obtain ⟨c,h1,h2,h3⟩:=hf
  refine ⟨_,conCoDI_one f caps c (hΓ f c h1).1 (hΓ f c h1).2 h h2,⟨xs,ex,rfl,h3⟩,?_⟩
  simp only [conCoDI,hm]
 ·
  exact hpre.elim
theorem conCoDI_pre {Γ:List (FuncId×Con)} {f:FuncId} {caps:List (Sigma Ty.T)} (xs:List (Ty.T tI)) (ex:Bool):(conCoDI Γ).pre [.s (.sl tI xs ex),.s (.fnp f caps)]=∃ h,fnTo Γ tI .bool f caps h (·∈xs):=rfl
theorem conCoDI_val {Γ:List (FuncId×Con)} {f:FuncId} {caps:List (Sigma Ty.T)} (xs:List (Ty.T tI)) (ex:Bool):(conCoDI Γ).val [.s (.sl tI xs ex),.s (.fnp f caps)]=.v (.s (.int .i64 (idxOf (apB Γ tI f caps) xs))):=rfl
def conCoD (Γ:List (FuncId×Con)):Con:=⟨fun args=>(match args with
 | [.s (.sl (.int .i64) xs _),.s (.fnp f caps)]=>∃ h,fnTo Γ tI .bool f caps h (·∈xs)
 | _=>False),fun args=>match args with
 | [.s (.sl (.int .i64) xs _),.s (.fnp f caps)]=>.v (.s (.bool (xs.any (apB Γ tI f caps))))
 | _=>.v (.s .any)⟩
theorem conCoD_pre {Γ:List (FuncId×Con)} {f:FuncId} {caps:List (Sigma Ty.T)} (xs:List (Ty.T tI)) (ex:Bool):(conCoD Γ).pre [.s (.sl tI xs ex),.s (.fnp f caps)]=∃ h,fnTo Γ tI .bool f caps h (·∈xs):=rfl
theorem conCoD_val {Γ:List (FuncId×Con)} {f:FuncId} {caps:List (Sigma Ty.T)} (xs:List (Ty.T tI)) (ex:Bool):(conCoD Γ).val [.s (.sl tI xs ex),.s (.fnp f caps)]=.v (.s (.bool (xs.any (apB Γ tI f caps)))):=rfl
theorem conCoD_known (Γ:List (FuncId×Con)) (hΓ:Known Tryz.prog Γ):PureOk Tryz.prog 138 (conCoD Γ):=by
 have hg:=g1_good nrT_ok (enters_of Tryz.func179 (by kernel_rfl) rfl) (conCoDI_known Γ hΓ)
 refine pureOkD (L:={ live:=[0,1,4] }) hg rfl nr_mixed Tryz.func138 rfl _ 2 (by decide) (by kernel_rfl) ?_
 intro args hpre hlens
 simp only [conCoD] at hpre
 split at hpre
 ·
  rename_i xs ex f caps
  refine ⟨rfl,?_⟩
  simp -dsimp -implicitDefEqProofs [Tryz.f138,conCoDI_pre,conCoDI_val,conCoD_val,idxOf_any,g1_td,g1_y,g1_Γ,g1_E,g1_Pn,g1_fz,nrT,inI64]
  exact hpre
 ·
  exact hpre.elim
def conOdd:Con:=⟨fun args=>(match args with
 | [.s (.int .i64 d)]=>True
 | _=>False),fun args=>match args with
 | [.s (.int _ d)]=>.v (aB (decide (d<0)||decide (1073741823<d)))
 | _=>.v (.s .any)⟩
theorem conOdd_eq (d:Int):conOdd.pre [.s (.int .i64 d)]=(True)∧conOdd.val [.s (.int .i64 d)]=.v (aB (decide (d<0)||decide (1073741823<d))):=⟨rfl,rfl⟩
theorem odd_ok:PureOk Tryz.prog 137 conOdd:=by
 refine pureOkD (L:={ live:=[0,2] }) nr0_good rfl nr_mixed Tryz.func137 rfl conOdd 1 (by decide) (by kernel_rfl) ?_
 intro args hpre hlens
 simp only [conOdd] at hpre
 split at hpre
 case h_2=>exact hpre.elim
 rename_i d
 simp only [allLen,AV.lenOk,SV.lenOk,Ty.lenOk,maxLen,and_true,implies_true,true_and,List.forall_mem_cons,List.not_mem_nil,false_implies] at hlens
 refine ⟨rfl,?_⟩
 simp -dsimp -implicitDefEqProofs [Tryz.f137,conOdd_eq,nr0_all,nrT,nr0Γ,nr0E,nr0P,inI64]
def nr1Γ:List (FuncId×Con):=(137,conOdd)::nr0Γ
theorem nr1Γ_ok:∀ p∈nr1Γ,(∀ (args:Array Value) (w:World),(callFunc p.1 args).run Tryz.prog w=.ok (.enter p.1 args) w)∧PureOk Tryz.prog p.1 p.2:=by
 simp only [nr1Γ,List.forall_mem_cons]
 exact ⟨⟨enters_of Tryz.func137 (by kernel_rfl) rfl,odd_ok⟩,nr0Γ_ok⟩
def nr1E:List (FuncId×ECon):=nr0E
theorem nr1E_ok:∀ p∈nr1E,(∀ (args:Array Value) (w:World),(callFunc p.1 args).run Tryz.prog w=.ok (.enter p.1 args) w)∧EffOk Tryz.prog p.1 p.2:=by
 simp only [nr1E]
 exact nr0E_ok
def nr1P:List (FuncId×PCon):=nr0P
theorem nr1P_ok:∀ p∈nr1P,(∀ (args:Array Value) (w:World),(callFunc p.1 args).run Tryz.prog w=.ok (.enter p.1 args) w)∧PanOk Tryz.prog p.1 p.2:=by
 simp only [nr1P]
 exact nr0P_ok
theorem nr1_known:Known Tryz.prog nr1Γ:=Known.cons (enters_of Tryz.func137 (by kernel_rfl) rfl) odd_ok .nil
def nr2Γ:List (FuncId×Con):=(179,(conCoDI nr1Γ))::(138,(conCoD nr1Γ))::nr1Γ
theorem nr2Γ_ok:∀ p∈nr2Γ,(∀ (args:Array Value) (w:World),(callFunc p.1 args).run Tryz.prog w=.ok (.enter p.1 args) w)∧PureOk Tryz.prog p.1 p.2:=by
 simp only [nr2Γ,List.forall_mem_cons]
 exact ⟨⟨enters_of Tryz.func179 (by kernel_rfl) rfl,(conCoDI_known nr1Γ nr1_known)⟩,⟨enters_of Tryz.func138 (by kernel_rfl) rfl,(conCoD_known nr1Γ nr1_known)⟩,nr1Γ_ok⟩
def nr2E:List (FuncId×ECon):=nr1E
theorem nr2E_ok:∀ p∈nr2E,(∀ (args:Array Value) (w:World),(callFunc p.1 args).run Tryz.prog w=.ok (.enter p.1 args) w)∧EffOk Tryz.prog p.1 p.2:=by
 simp only [nr2E]
 exact nr1E_ok
def nr2P:List (FuncId×PCon):=nr1P
theorem nr2P_ok:∀ p∈nr2P,(∀ (args:Array Value) (w:World),(callFunc p.1 args).run Tryz.prog w=.ok (.enter p.1 args) w)∧PanOk Tryz.prog p.1 p.2:=by
 simp only [nr2P]
 exact nr1P_ok
def nr2:G:={ τ:=nrT,Γ:=nr2Γ,E:=nr2E,Pn:=nr2P }
theorem nr2_good:nr2.good Tryz.prog:=good_of_all (nrT_ok _ rfl) nr2Γ_ok nr2E_ok nr2P_ok
theorem nr2_all:(∀ t,nr2.td t=(look nrT t).getD .other)∧nr2.y=false∧nr2.Γ=nr2Γ∧nr2.E=nr2E∧nr2.Pn=nr2P∧nr2.fz=[]:=⟨fun _=>rfl,rfl,rfl,rfl,rfl,rfl⟩
def okBig (neg:Bool) (m:List Int):Prop:=canon m∧m.length≤2048∧(neg=true→m≠[])
noncomputable instance (neg:Bool) (m:List Int):Decidable (okBig neg m):=Classical.propDecidable _
def natErr (neg:Bool) (m:List Int):Int:=if okBig neg m then 0 else 90
def conNCheck:Con:=⟨fun args=>(match args with
 | [.agg [.bool neg,.sl (.int .i64) m _]]=>True
 | _=>False),fun args=>match args with
 | [.agg [.bool neg,.sl (.int .i64) m _]]=>.v (aI (natErr neg m))
 | _=>.v (.s .any)⟩
theorem conNCheck_eq (neg:Bool) (m:List (Ty.T tI)) (exm:Bool):conNCheck.pre [.agg [.bool neg,.sl tI m exm]]=(True)∧conNCheck.val [.agg [.bool neg,.sl tI m exm]]=.v (aI (natErr neg m)):=⟨rfl,rfl⟩
theorem ncheck_ok:PureOk Tryz.prog 90 conNCheck:=by
 refine pureOkD (L:={ live:=[0,1,2,3,4,36] }) nr2_good rfl nr_mixed Tryz.func90 rfl conNCheck 1 (by decide) (by kernel_rfl) ?_
 intro args hpre hlens
 simp only [conNCheck] at hpre
 split at hpre
 case h_2=>exact hpre.elim
 rename_i ng m ex
 simp only [allLen,AV.lenOk,SV.lenOk,Ty.lenOk,maxLen,and_true,implies_true,true_and,List.forall_mem_cons,List.not_mem_nil,false_implies] at hlens
 refine ⟨rfl,?_⟩
 simp -dsimp -implicitDefEqProofs [Tryz.f90,conNCheck_eq,nr2_all,nrT,nr2Γ,nr2E,nr2P,nr1Γ,nr1E,nr1P,nr0Γ,nr0E,nr0P,conCoDI_pre,conCoDI_val,conCoD_pre,conCoD_val,conOdd_eq,inI64]
 have hfn:fnTo [(137,conOdd)] tI .bool 137 [] (fun d=>decide (d<0)||decide (1073741823<d)) (·∈m):=⟨conOdd,rfl,fun x=>rfl,fun x _=>trivial⟩
 have hap:∀ x,apB [(137,conOdd)] tI 137 [] x=(decide (x<0)||decide (1073741823<x)):=fun x=>apB_eq hfn x
 have hne:m=[]∨0<m.length:=by cases m <;> simp
 have hd:(∀ x∈m,apB [(137,conOdd)] tI 137 [] x=false)↔okD m:=by
  simp only [hap,Bool.or_eq_false_iff,decide_eq_false_iff_not,okD]
  exact ⟨fun h d hd=>⟨Int.not_lt.1 (h d hd).1,Int.not_lt.1 (h d hd).2⟩,fun h d hd=>⟨Int.not_lt.2 (h d hd).1,Int.not_lt.2 (h d hd).2⟩⟩
 have hdn:(∃ x,x∈m∧apB [(137,conOdd)] tI 137 [] x=true)→¬ okD m:=by
  rintro ⟨x,hx,he⟩ h
  rw [hd.2 h x hx] at he
  cases he
 refine ⟨fun a=>⟨a,fun b=>⟨a,b⟩⟩,fun a b c=>⟨⟨⟨a,b⟩,c⟩,by omega,by omega⟩,fun a b c=>⟨⟨⟨a,b⟩,c⟩,by omega,by omega⟩,fun a b=>⟨⟨a,b⟩,fun c=>⟨⟨a,b⟩,c⟩⟩,fun a b=>⟨a,?_⟩,fun a b c=>⟨⟨⟨a,b⟩,c⟩,_,hfn⟩,fun a b c=>⟨⟨a,?_⟩,?_⟩,fun h => ?_,fun a b c h => ?_⟩
 ·
  rcases hne with h | h
  ·
   exact .inr (b h)
  ·
   exact .inl (List.length_pos_iff.1 h)
 ·
  rcases hne with h | h
  ·
   exact .inr (b h)
  ·
   exact .inl (List.length_pos_iff.1 h)
 ·
  rcases hne with h | h
  ·
   exact .inl h
  ·
   exact .inr (c h)
 ·
  unfold natErr
  rw [if_neg]
  rintro ⟨hc,h1,h2⟩
  rcases h with ((h | ⟨h,h3⟩) | ⟨h,h3⟩) | h
  ·
   omega
  ·
   exact h2 h3 h
  ·
   have:=canon_last hc h; omega
  ·
   exact hdn h hc.1
 ·
  unfold natErr
  rw [if_pos]
  exact ⟨canon_of (hd.1 h) c,by omega,fun hn he=>by have:=b he; rw [hn] at this; cases this⟩
def conRCheck:Con:=⟨fun args=>(match args with
 | [.agg [.bool neg,.sl (.int .i64) m _]]=>True
 | _=>False),fun args=>match args with
 | [.agg [.bool neg,.sl (.int .i64) m _]]=>.v (aI (natErr neg m))
 | _=>.v (.s .any)⟩
theorem conRCheck_eq (neg:Bool) (m:List (Ty.T tI)) (exm:Bool):conRCheck.pre [.agg [.bool neg,.sl tI m exm]]=(True)∧conRCheck.val [.agg [.bool neg,.sl tI m exm]]=.v (aI (natErr neg m)):=⟨rfl,rfl⟩
theorem rcheck_ok:PureOk Tryz.prog 125 conRCheck:=by
 refine pureOkD (L:={ live:=[0,1,2,3,4,30,33,49] }) nr0_good rfl nr_mixed Tryz.func125 rfl conRCheck 1 (by decide) (by kernel_rfl) ?_
 intro args hpre hlens
 simp only [conRCheck] at hpre
 split at hpre
 case h_2=>exact hpre.elim
 rename_i ng m ex
 simp only [allLen,AV.lenOk,SV.lenOk,Ty.lenOk,maxLen,and_true,implies_true,true_and,List.forall_mem_cons,List.not_mem_nil,false_implies] at hlens
 refine ⟨rfl,?_⟩
 simp -dsimp -implicitDefEqProofs [Tryz.f125,conRCheck_eq,nr0_all,nrT,nr0Γ,nr0E,nr0P,inI64]
 have hne:m=[]∨0<m.length:=by cases m <;> simp
 refine ⟨fun a=>⟨a,fun b=>⟨a,b⟩⟩,fun a b c=>⟨⟨⟨a,b⟩,c⟩,by omega,by omega⟩,fun a b c=>⟨⟨⟨a,b⟩,c⟩,by omega,by omega⟩,fun a b=>⟨⟨a,b⟩,fun c=>⟨⟨a,b⟩,c⟩⟩,fun a b=>⟨a,?_⟩,fun h => ?_,fun a b c => ?_⟩
 ·
  rcases hne with h | h
  ·
   exact .inr (b h)
  ·
   exact .inl (List.length_pos_iff.1 h)
 ·
  unfold natErr
  rw [if_neg]
  rintro ⟨hc,h1,h2⟩
  rcases h with (h | ⟨h,h3⟩) | ⟨h,h3⟩
  ·
   omega
  ·
   exact h2 h3 h
  ·
   have:=canon_last hc h; omega
 refine WpD.loop (L:={ live:=[0,1,2,3,4,30,33,49] }) nr0_good X0_ok nr_mixed (by kernel_rfl)
  (fun i:Nat=>⟨[(0,⟨true,.v (.agg [.bool ng,.sl tI m ex])⟩),(1,⟨true,.v (.s (.box 0 0))⟩),(2,vI 0),(3,vI m.length),(4,vI i)],[.cells [.bool ng,.sl tI m ex]]⟩)
  (fun i=>i≤m.length∧∀ j,j<i→0≤m[j]?.getD 0∧m[j]?.getD 0≤1073741823) (fun i=>m.length - i) 0 (by simp) (Turn.le (by simp -dsimp -implicitDefEqProofs)) ?_
 rintro i ⟨hi,hj⟩
 simp -dsimp -implicitDefEqProofs [conRCheck_eq,nr0_all,nrT,nr0Γ,nr0E,nr0P,inI64]
 refine ⟨fun hil=>⟨hil,fun h=>⟨h,hil⟩,fun h => ?_,fun h1 h2=>⟨⟨by omega,by omega⟩,i+1,⟨by omega,fun j hj2 => ?_⟩,by omega,TurnT.le (by simp -dsimp -implicitDefEqProofs)⟩⟩,fun hge => ?_⟩
 ·
  unfold natErr
  rw [if_neg]
  rintro ⟨hc,_⟩
  have:=okD_get hc.1 hil
  omega
 ·
  rcases Nat.lt_succ_iff_lt_or_eq.1 hj2 with h' | rfl
  ·
   exact hj j h'
  ·
   exact ⟨h1,Int.lt_add_one_iff.1 h2⟩
 ·
  unfold natErr
  rw [if_pos]
  refine ⟨canon_of (fun d hd => ?_) c,by omega,fun hn he=>by have:=b he; rw [hn] at this; cases this⟩
  obtain ⟨j,hjl,rfl⟩:=List.mem_iff_getElem.1 hd
  have:=hj j (by omega)
  rwa [List.getElem?_eq_getElem hjl] at this
def conRCmpD:Con:=⟨fun args=>(match args with
 | [.s (.sl (.int .i64) a _),.s (.sl (.int .i64) b _)]=>canon a∧canon b∧a.length≤4096∧b.length≤4096
 | _=>False),fun args=>match args with
 | [.s (.sl (.int .i64) a _),.s (.sl (.int .i64) b _)]=>.v (aI (cmpN (vl a) (vl b)))
 | _=>.v (.s .any)⟩
theorem conRCmpD_eq (a:List (Ty.T tI)) (exa:Bool) (b:List (Ty.T tI)) (exb:Bool):conRCmpD.pre [.s (.sl tI a exa),.s (.sl tI b exb)]=(canon a∧canon b∧a.length≤4096∧b.length≤4096)∧conRCmpD.val [.s (.sl tI a exa),.s (.sl tI b exb)]=.v (aI (cmpN (vl a) (vl b))):=⟨rfl,rfl⟩
theorem rcmpd_ok:PureOk Tryz.prog 169 conRCmpD:=by
 refine pureOkD (L:={ live:=[0,1,4,5,10,15,20,31,40] }) nr0_good rfl nr_mixed Tryz.func169 rfl conRCmpD 2 (by decide) (by kernel_rfl) ?_
 intro args hpre hlens
 simp only [conRCmpD] at hpre
 split at hpre
 case h_2=>exact hpre.elim
 rename_i a ea b eb
 simp only [allLen,AV.lenOk,SV.lenOk,Ty.lenOk,maxLen,and_true,implies_true,true_and,List.forall_mem_cons,List.not_mem_nil,false_implies] at hlens
 refine ⟨rfl,?_⟩
 simp -dsimp -implicitDefEqProofs [Tryz.f169,conRCmpD_eq,nr0_all,nrT,nr0Γ,nr0E,nr0P,inI64]
 obtain ⟨ha,hb,ha2,hb2⟩:=hpre
 refine ⟨fun hne=>⟨fun h=>(cmpN_lt (vl_len ha hb h)).symm,fun h=>(cmpN_gt (vl_len hb ha (by omega))).symm⟩,fun he=>⟨⟨by omega,by omega⟩,?_⟩⟩
 refine WpD.loop (L:={ live:=[0,1,4,5,10,15,20,31,40] }) nr0_good X0_ok nr_mixed (by kernel_rfl)
  (fun n:Nat=>⟨[(0,vS tI a ea),(1,vS tI b eb),(4,vI 0),(5,vI ((n:Int) - 1))],[]⟩)
  (fun n=>n≤a.length∧a.drop n=b.drop n) (fun n=>n) a.length ⟨Nat.le_refl _,by rw [List.drop_eq_nil_of_le (by omega),List.drop_eq_nil_of_le (by omega)]⟩ (Turn.le (by simp -dsimp -implicitDefEqProofs)) ?_
 rintro n ⟨hn,hd⟩
 simp -dsimp -implicitDefEqProofs [conRCmpD_eq,nr0_all,nrT,nr0Γ,nr0E,nr0P,inI64]
 refine ⟨fun h1 => ?_,fun h0 => ?_⟩
 ·
  obtain ⟨k,rfl⟩:∃ k,n=k+1:=⟨n - 1,by omega⟩
  have hka:k<a.length:=by omega
  have hkb:k<b.length:=by omega
  have e:((k+1:Nat):Int) - 1 - 1=(k:Int) - 1:=by omega
  simp only [Nat.add_sub_cancel]
  refine ⟨⟨h1,by omega⟩,⟨h1,by omega⟩,fun h=>(cmpN_lt (vl_less ha.1 hb.1 hka hkb hd h)).symm,fun hge=>⟨⟨h1,by omega⟩,⟨h1,by omega⟩,fun h=>(cmpN_gt (vl_less hb.1 ha.1 hkb hka hd.symm h)).symm,fun hle=>⟨⟨by omega,by omega⟩,k,⟨by omega,?_⟩,by omega,TurnT.le (by simp -dsimp -implicitDefEqProofs [e])⟩⟩⟩
  rw [List.drop_eq_getElem_cons hka,List.drop_eq_getElem_cons hkb,hd]
  rw [List.getElem?_eq_getElem hka,List.getElem?_eq_getElem hkb] at hge hle
  congr 1
  exact Int.le_antisymm hle hge
 ·
  obtain rfl:n=0:=by omega
  rw [List.drop_zero,List.drop_zero] at hd
  subst hd
  exact (cmpN_eq _).symm
def conTrim:Con:=⟨fun args=>(match args with
 | [.s (.sl (.int .i64) m _)]=>True
 | _=>False),fun args=>match args with
 | [.s (.sl (.int .i64) m _)]=>.v (aS tI (trimL m) false)
 | _=>.v (.s .any)⟩
theorem conTrim_eq (m:List (Ty.T tI)) (exm:Bool):conTrim.pre [.s (.sl tI m exm)]=(True)∧conTrim.val [.s (.sl tI m exm)]=.v (aS tI (trimL m) false):=⟨rfl,rfl⟩
theorem rtrim_ok:PureOk Tryz.prog 174 conTrim:=by
 refine pureOkD (L:={ live:=[0,2,3,15] }) nr0_good rfl nr_mixed Tryz.func174 rfl conTrim 1 (by decide) (by kernel_rfl) ?_
 intro args hpre hlens
 simp only [conTrim] at hpre
 split at hpre
 case h_2=>exact hpre.elim
 rename_i m em
 simp only [allLen,AV.lenOk,SV.lenOk,Ty.lenOk,maxLen,and_true,implies_true,true_and,List.forall_mem_cons,List.not_mem_nil,false_implies] at hlens
 refine ⟨rfl,?_⟩
 simp -dsimp -implicitDefEqProofs [Tryz.f174,conTrim_eq,nr0_all,nrT,nr0Γ,nr0E,nr0P,inI64]
 refine WpD.loop (L:={ live:=[0,2,3,15] }) nr0_good X0_ok nr_mixed (by kernel_rfl)
  (fun n:Nat=>⟨[(0,vS tI m em),(2,vS tI [] true),(3,vI n)],[]⟩)
  (fun n=>n≤m.length∧∀ d∈m.drop n,d=0) (fun n=>n) m.length ⟨Nat.le_refl _,by rw [List.drop_eq_nil_of_le (Nat.le_refl _)]; intro d hd; cases hd⟩ (Turn.le (by simp -dsimp -implicitDefEqProofs)) ?_
 rintro n ⟨hn,hd⟩
 simp -dsimp -implicitDefEqProofs [conTrim_eq,nr0_all,nrT,nr0Γ,nr0E,nr0P,inI64]
 refine ⟨fun h=>⟨h,by omega,by omega⟩,fun h=>⟨h,by omega,by omega⟩,fun h1 h2 => ?_,fun h=>⟨hn,?_⟩⟩
 ·
  obtain ⟨k,rfl⟩:∃ k,n=k+1:=⟨n - 1,by omega⟩
  have e:((k+1:Nat):Int) - 1=(k:Int):=by omega
  refine ⟨⟨by omega,by omega⟩,k,⟨by omega,fun d hd2 => ?_⟩,by omega,TurnT.le (by simp -dsimp -implicitDefEqProofs [e])⟩
  rw [List.drop_eq_getElem_cons (by omega)] at hd2
  rw [Nat.add_sub_cancel,List.getElem?_eq_getElem (by omega)] at h2
  rcases List.mem_cons.1 hd2 with rfl | hd2
  ·
   exact h2
  ·
   exact hd d hd2
 ·
  exact take_trim hn hd h
theorem trim_ok:PureOk Tryz.prog 140 conTrim:=by
 refine pureOkD (L:={ live:=[0,2,3,15] }) nr0_good rfl nr_mixed Tryz.func140 rfl conTrim 1 (by decide) (by kernel_rfl) ?_
 intro args hpre hlens
 simp only [conTrim] at hpre
 split at hpre
 case h_2=>exact hpre.elim
 rename_i m em
 simp only [allLen,AV.lenOk,SV.lenOk,Ty.lenOk,maxLen,and_true,implies_true,true_and,List.forall_mem_cons,List.not_mem_nil,false_implies] at hlens
 refine ⟨rfl,?_⟩
 simp -dsimp -implicitDefEqProofs [Tryz.f140,conTrim_eq,nr0_all,nrT,nr0Γ,nr0E,nr0P,inI64]
 refine WpD.loop (L:={ live:=[0,2,3,15] }) nr0_good X0_ok nr_mixed (by kernel_rfl)
  (fun n:Nat=>⟨[(0,vS tI m em),(2,vS tI [] true),(3,vI n)],[]⟩)
  (fun n=>n≤m.length∧∀ d∈m.drop n,d=0) (fun n=>n) m.length ⟨Nat.le_refl _,by rw [List.drop_eq_nil_of_le (Nat.le_refl _)]; intro d hd; cases hd⟩ (Turn.le (by simp -dsimp -implicitDefEqProofs)) ?_
 rintro n ⟨hn,hd⟩
 simp -dsimp -implicitDefEqProofs [conTrim_eq,nr0_all,nrT,nr0Γ,nr0E,nr0P,inI64]
 refine ⟨fun h=>⟨h,by omega,by omega⟩,fun h=>⟨h,by omega,by omega⟩,fun h1 h2 => ?_,fun h=>⟨hn,?_⟩⟩
 ·
  obtain ⟨k,rfl⟩:∃ k,n=k+1:=⟨n - 1,by omega⟩
  have e:((k+1:Nat):Int) - 1=(k:Int):=by omega
  refine ⟨⟨by omega,by omega⟩,k,⟨by omega,fun d hd2 => ?_⟩,by omega,TurnT.le (by simp -dsimp -implicitDefEqProofs [e])⟩
  rw [List.drop_eq_getElem_cons (by omega)] at hd2
  rw [Nat.add_sub_cancel,List.getElem?_eq_getElem (by omega)] at h2
  rcases List.mem_cons.1 hd2 with rfl | hd2
  ·
   exact h2
  ·
   exact hd d hd2
 ·
  exact take_trim hn hd h
def conAt:Con:=⟨fun args=>(match args with
 | [.s (.sl (.int .i64) m _),.s (.int .i64 i)]=>0≤i
 | _=>False),fun args=>match args with
 | [.s (.sl (.int .i64) m _),.s (.int _ i)]=>.v (aI (m[i.toNat]?.getD 0))
 | _=>.v (.s .any)⟩
theorem conAt_eq (m:List (Ty.T tI)) (exm:Bool) (i:Int):conAt.pre [.s (.sl tI m exm),.s (.int .i64 i)]=(0≤i)∧conAt.val [.s (.sl tI m exm),.s (.int .i64 i)]=.v (aI (m[i.toNat]?.getD 0)):=⟨rfl,rfl⟩
theorem rdigit_ok:PureOk Tryz.prog 129 conAt:=by
 refine pureOkD (L:={ live:=[0,1,4,8] }) nr0_good rfl nr_mixed Tryz.func129 rfl conAt 2 (by decide) (by kernel_rfl) ?_
 intro args hpre hlens
 simp only [conAt] at hpre
 split at hpre
 case h_2=>exact hpre.elim
 rename_i m em i
 simp only [allLen,AV.lenOk,SV.lenOk,Ty.lenOk,maxLen,and_true,implies_true,true_and,List.forall_mem_cons,List.not_mem_nil,false_implies] at hlens
 refine ⟨rfl,?_⟩
 simp -dsimp -implicitDefEqProofs [Tryz.f129,conAt_eq,nr0_all,nrT,nr0Γ,nr0E,nr0P,inI64]
 exact ⟨fun h=>⟨hpre,h⟩,fun h=>by rw [List.getElem?_eq_none (by omega)]; rfl⟩
theorem at_ok:PureOk Tryz.prog 187 conAt:=by
 refine pureOkD (L:={ live:=[0,1,4,8] }) nr0_good rfl nr_mixed Tryz.func187 rfl conAt 2 (by decide) (by kernel_rfl) ?_
 intro args hpre hlens
 simp only [conAt] at hpre
 split at hpre
 case h_2=>exact hpre.elim
 rename_i m em i
 simp only [allLen,AV.lenOk,SV.lenOk,Ty.lenOk,maxLen,and_true,implies_true,true_and,List.forall_mem_cons,List.not_mem_nil,false_implies] at hlens
 refine ⟨rfl,?_⟩
 simp -dsimp -implicitDefEqProofs [Tryz.f187,conAt_eq,nr0_all,nrT,nr0Γ,nr0E,nr0P,inI64]
 exact ⟨fun h=>⟨hpre,h⟩,fun h=>by rw [List.getElem?_eq_none (by omega)]; rfl⟩
def conZero:Con:=⟨fun args=>(match args with
 | [.agg [.bool ng,.sl (.int .i64) m _]]=>True
 | _=>False),fun args=>match args with
 | [.agg [.bool ng,.sl (.int .i64) m _]]=>.v (aB (decide (m=[])))
 | _=>.v (.s .any)⟩
theorem conZero_eq (ng:Bool) (m:List (Ty.T tI)) (exm:Bool):conZero.pre [.agg [.bool ng,.sl tI m exm]]=(True)∧conZero.val [.agg [.bool ng,.sl tI m exm]]=.v (aB (decide (m=[]))):=⟨rfl,rfl⟩
theorem zero_ok:PureOk Tryz.prog 126 conZero:=by
 refine pureOkD (L:={ live:=[0,1,2] }) nr0_good rfl nr_mixed Tryz.func126 rfl conZero 1 (by decide) (by kernel_rfl) ?_
 intro args hpre hlens
 simp only [conZero] at hpre
 split at hpre
 case h_2=>exact hpre.elim
 rename_i ng m em
 simp only [allLen,AV.lenOk,SV.lenOk,Ty.lenOk,maxLen,and_true,implies_true,true_and,List.forall_mem_cons,List.not_mem_nil,false_implies] at hlens
 refine ⟨rfl,?_⟩
 simp -dsimp -implicitDefEqProofs [Tryz.f126,conZero_eq,nr0_all,nrT,nr0Γ,nr0E,nr0P,inI64]
 cases m <;> simp <;> omega
def conPosi:Con:=⟨fun args=>(match args with
 | [.agg [.bool ng,.sl (.int .i64) m _]]=>True
 | _=>False),fun args=>match args with
 | [.agg [.bool ng,.sl (.int .i64) m _]]=>.v (aB (!ng&&decide (m≠[])))
 | _=>.v (.s .any)⟩
theorem conPosi_eq (ng:Bool) (m:List (Ty.T tI)) (exm:Bool):conPosi.pre [.agg [.bool ng,.sl tI m exm]]=(True)∧conPosi.val [.agg [.bool ng,.sl tI m exm]]=.v (aB (!ng&&decide (m≠[]))):=⟨rfl,rfl⟩
theorem posi_ok:PureOk Tryz.prog 136 conPosi:=by
 refine pureOkD (L:={ live:=[0,1,2] }) nr0_good rfl nr_mixed Tryz.func136 rfl conPosi 1 (by decide) (by kernel_rfl) ?_
 intro args hpre hlens
 simp only [conPosi] at hpre
 split at hpre
 case h_2=>exact hpre.elim
 rename_i ng m em
 simp only [allLen,AV.lenOk,SV.lenOk,Ty.lenOk,maxLen,and_true,implies_true,true_and,List.forall_mem_cons,List.not_mem_nil,false_implies] at hlens
 refine ⟨rfl,?_⟩
 simp -dsimp -implicitDefEqProofs [Tryz.f136,conPosi_eq,nr0_all,nrT,nr0Γ,nr0E,nr0P,inI64]
 cases m <;> simp
def nr3Γ:List (FuncId×Con):=(125,conRCheck)::(169,conRCmpD)::nr0Γ
theorem nr3Γ_ok:∀ p∈nr3Γ,(∀ (args:Array Value) (w:World),(callFunc p.1 args).run Tryz.prog w=.ok (.enter p.1 args) w)∧PureOk Tryz.prog p.1 p.2:=by
 simp only [nr3Γ,List.forall_mem_cons]
 exact ⟨⟨enters_of Tryz.func125 (by kernel_rfl) rfl,rcheck_ok⟩,⟨enters_of Tryz.func169 (by kernel_rfl) rfl,rcmpd_ok⟩,nr0Γ_ok⟩
def nr3E:List (FuncId×ECon):=nr0E
theorem nr3E_ok:∀ p∈nr3E,(∀ (args:Array Value) (w:World),(callFunc p.1 args).run Tryz.prog w=.ok (.enter p.1 args) w)∧EffOk Tryz.prog p.1 p.2:=by
 simp only [nr3E]
 exact nr0E_ok
def nr3P:List (FuncId×PCon):=nr0P
theorem nr3P_ok:∀ p∈nr3P,(∀ (args:Array Value) (w:World),(callFunc p.1 args).run Tryz.prog w=.ok (.enter p.1 args) w)∧PanOk Tryz.prog p.1 p.2:=by
 simp only [nr3P]
 exact nr0P_ok
def nr3:G:={ τ:=nrT,Γ:=nr3Γ,E:=nr3E,Pn:=nr3P }
theorem nr3_good:nr3.good Tryz.prog:=good_of_all (nrT_ok _ rfl) nr3Γ_ok nr3E_ok nr3P_ok
theorem nr3_all:(∀ t,nr3.td t=(look nrT t).getD .other)∧nr3.y=false∧nr3.Γ=nr3Γ∧nr3.E=nr3E∧nr3.Pn=nr3P∧nr3.fz=[]:=⟨fun _=>rfl,rfl,rfl,rfl,rfl,rfl⟩
def twoErr (n1:Bool) (m1:List Int) (n2:Bool) (m2:List Int):Int:=if okBig n1 m1 then natErr n2 m2 else 90
def conTwo:Con:=⟨fun args=>(match args with
 | [.agg [.bool n1,.sl (.int .i64) m1 _],.agg [.bool n2,.sl (.int .i64) m2 _]]=>True
 | _=>False),fun args=>match args with
 | [.agg [.bool n1,.sl (.int .i64) m1 _],.agg [.bool n2,.sl (.int .i64) m2 _]]=>.v (aI (twoErr n1 m1 n2 m2))
 | _=>.v (.s .any)⟩
theorem conTwo_eq (n1:Bool) (m1:List (Ty.T tI)) (exm1:Bool) (n2:Bool) (m2:List (Ty.T tI)) (exm2:Bool):conTwo.pre [.agg [.bool n1,.sl tI m1 exm1],.agg [.bool n2,.sl tI m2 exm2]]=(True)∧conTwo.val [.agg [.bool n1,.sl tI m1 exm1],.agg [.bool n2,.sl tI m2 exm2]]=.v (aI (twoErr n1 m1 n2 m2)):=⟨rfl,rfl⟩
theorem two_ok:PureOk Tryz.prog 168 conTwo:=by
 refine pureOkD (L:={ live:=[0,1,2,3,4,7] }) nr3_good rfl nr_mixed Tryz.func168 rfl conTwo 2 (by decide) (by kernel_rfl) ?_
 intro args hpre hlens
 simp only [conTwo] at hpre
 split at hpre
 case h_2=>exact hpre.elim
 rename_i n1 m1 e1 n2 m2 e2
 simp only [allLen,AV.lenOk,SV.lenOk,Ty.lenOk,maxLen,and_true,implies_true,true_and,List.forall_mem_cons,List.not_mem_nil,false_implies] at hlens
 refine ⟨rfl,?_⟩
 simp -dsimp -implicitDefEqProofs [Tryz.f168,conTwo_eq,nr3_all,nrT,nr3Γ,nr3E,nr3P,nr0Γ,nr0E,nr0P,conRCheck_eq,conRCmpD_eq,inI64]
 unfold twoErr
 by_cases h:okBig n1 m1
 ·
  have:natErr n1 m1=0:=if_pos h
  rw [if_pos h,this]
  exact ⟨fun h=>absurd rfl h,fun _=>rfl⟩
 ·
  have:natErr n1 m1=90:=if_neg h
  rw [if_neg h,this]
  exact ⟨fun _=>rfl,fun h=>by cases h⟩
theorem fl_at {xs:List Int} {j:Nat} (h:j<xs.length):(((Ty.int .i64).flats xs)[j]?).getD .any=.int .i64 (xs[j]?.getD 0):=by
 rw [flats_int_get,List.getElem?_eq_getElem h]; rfl
theorem fl_set {xs:List Int} {j:Nat} (h:j<xs.length) (v:Int):List.take j ((Ty.int .i64).flats xs)++SV.int .i64 v::List.drop (j+1) ((Ty.int .i64).flats xs)=(Ty.int .i64).flats (xs.set j v):=by
 have e:∀ l:List Int,(Ty.int .i64).flats l=l.map (SV.int .i64):=fun l=>by
  induction l with
  | nil=>rfl
  | cons x l ih=>simp [Ty.flats,Ty.flat,ih]
 rw [e,e,List.map_set,List.set_eq_take_append_cons_drop,if_pos (by simpa using h)]
def nr4Γ:List (FuncId×Con):=(168,conTwo)::(174,conTrim)::(129,conAt)::nr3Γ
theorem nr4Γ_ok:∀ p∈nr4Γ,(∀ (args:Array Value) (w:World),(callFunc p.1 args).run Tryz.prog w=.ok (.enter p.1 args) w)∧PureOk Tryz.prog p.1 p.2:=by
 simp only [nr4Γ,List.forall_mem_cons]
 exact ⟨⟨enters_of Tryz.func168 (by kernel_rfl) rfl,two_ok⟩,⟨enters_of Tryz.func174 (by kernel_rfl) rfl,rtrim_ok⟩,⟨enters_of Tryz.func129 (by kernel_rfl) rfl,rdigit_ok⟩,nr3Γ_ok⟩
def nr4E:List (FuncId×ECon):=nr3E
theorem nr4E_ok:∀ p∈nr4E,(∀ (args:Array Value) (w:World),(callFunc p.1 args).run Tryz.prog w=.ok (.enter p.1 args) w)∧EffOk Tryz.prog p.1 p.2:=by
 simp only [nr4E]
 exact nr3E_ok
def nr4P:List (FuncId×PCon):=nr3P
theorem nr4P_ok:∀ p∈nr4P,(∀ (args:Array Value) (w:World),(callFunc p.1 args).run Tryz.prog w=.ok (.enter p.1 args) w)∧PanOk Tryz.prog p.1 p.2:=by
 simp only [nr4P]
 exact nr3P_ok
def nr4:G:={ τ:=nrT,Γ:=nr4Γ,E:=nr4E,Pn:=nr4P }
theorem nr4_good:nr4.good Tryz.prog:=good_of_all (nrT_ok _ rfl) nr4Γ_ok nr4E_ok nr4P_ok
theorem nr4_all:(∀ t,nr4.td t=(look nrT t).getD .other)∧nr4.y=false∧nr4.Γ=nr4Γ∧nr4.E=nr4E∧nr4.Pn=nr4P∧nr4.fz=[]:=⟨fun _=>rfl,rfl,rfl,rfl,rfl,rfl⟩
def conTimes:Con:=⟨fun args=>(match args with
 | [.s (.sl (.int .i64) a _),.s (.sl (.int .i64) b _)]=>okD a∧okD b∧a.length≤2048∧b.length≤2048
 | _=>False),fun args=>match args with
 | [.s (.sl (.int .i64) a _),.s (.sl (.int .i64) b _)]=>.v (aS tI (dig (vl a*vl b)) false)
 | _=>.v (.s .any)⟩
theorem conTimes_eq (a:List (Ty.T tI)) (exa:Bool) (b:List (Ty.T tI)) (exb:Bool):conTimes.pre [.s (.sl tI a exa),.s (.sl tI b exb)]=(okD a∧okD b∧a.length≤2048∧b.length≤2048)∧conTimes.val [.s (.sl tI a exa),.s (.sl tI b exb)]=.v (aS tI (dig (vl a*vl b)) false):=⟨rfl,rfl⟩
theorem times_ok:PureOk Tryz.prog 171 conTimes:=by
 refine pureOkD (L:={ live:=[0,1,4,5,6,7,8,9,19,25],frz:=[(13,[5])] }) nr4_good rfl nr_mixed Tryz.func171 rfl conTimes 2 (by decide) (by kernel_rfl) ?_
 intro args hpre hlens
 simp only [conTimes] at hpre
 split at hpre
 case h_2=>exact hpre.elim
 rename_i a ea b eb
 simp only [allLen,AV.lenOk,SV.lenOk,Ty.lenOk,maxLen,and_true,implies_true,true_and,List.forall_mem_cons,List.not_mem_nil,false_implies] at hlens
 refine ⟨rfl,?_⟩
 simp -dsimp -implicitDefEqProofs [Tryz.f171,conTimes_eq,nr4_all,nrT,nr4Γ,nr4E,nr4P,nr3Γ,nr3E,nr3P,nr0Γ,nr0E,nr0P,conTwo_eq,conTrim_eq,conAt_eq,conRCheck_eq,conRCmpD_eq,inI64]
 obtain ⟨ha,hb,ha2,hb2⟩:=hpre
 have hn:((a.length:Int)+(b.length:Int)).toNat=a.length+b.length:=by omega
 refine ⟨⟨by omega,by omega⟩,⟨by omega,by omega,by omega⟩,?_⟩
 rw [hn]
 refine WpD.loop (L:={ live:=[0,1,4,5,6,7,8,9,19,25],frz:=[(13,[5])] }) nr4_good X0_ok nr_mixed (by kernel_rfl)
  (fun p:Nat×List Int=>⟨[(0,vS tI a ea),(1,vS tI b eb),(5,⟨true,.v (.s (.own tI 0 (a.length+b.length)))⟩),(6,vI p.1)],[.arr true (tI.flats p.2)]⟩)
  (fun p=>p.1≤a.length∧p.2.length=a.length+b.length∧okD p.2∧vl p.2=vl (a.take p.1)*vl b∧∀ d∈p.2.drop (p.1+b.length),d=0) (fun p=>a.length - p.1) (0,List.replicate (a.length+b.length) 0)
  ⟨Nat.zero_le _,List.length_replicate,okD_rep _,by simp [vl_rep,vl],fun d hd=>List.eq_of_mem_replicate (List.mem_of_mem_drop hd)⟩ (Turn.le (by simp -dsimp -implicitDefEqProofs)) ?_
 rintro ⟨i,xs⟩ ⟨hi,hxl,hxo,hxv,hxz⟩
 simp only at hi hxl hxo hxv hxz
 simp -dsimp -implicitDefEqProofs [conTimes_eq,nr4_all,nrT,nr4Γ,nr4E,nr4P,nr3Γ,nr3E,nr3P,nr0Γ,nr0E,nr0P,conTwo_eq,conTrim_eq,conAt_eq,conRCheck_eq,conRCmpD_eq,inI64]
 refine ⟨fun hil => ?_,fun hge=>⟨xs,rfl,hxl.symm,?_⟩⟩
 ·
  have hai:=okD_get ha hil
  refine WpD.loop (L:={ live:=[0,1,4,5,6,7,8,9,19,25],frz:=[(13,[5])] }) nr4_good X0_ok nr_mixed (by kernel_rfl)
   (fun p:Nat×List Int×Int=>⟨[(0,vS tI a ea),(1,vS tI b eb),(5,⟨true,.v (.s (.own tI 0 (a.length+b.length)))⟩),(6,vI i),(7,vI p.2.2),(8,vI p.1)],[.arr true (tI.flats p.2.1)]⟩)
   (fun p=>p.1≤b.length∧p.2.1.length=a.length+b.length∧okD p.2.1∧(0≤p.2.2∧p.2.2≤1073741823)∧vl p.2.1+1073741824 ^ (i+p.1)*p.2.2.toNat=vl xs+1073741824 ^ i*((a[i]?.getD 0).toNat*vl (b.take p.1))∧p.2.1.drop (i+p.1)=xs.drop (i+p.1)) (fun p=>b.length - p.1) (0,xs,0)
   ⟨Nat.zero_le _,hxl,hxo,⟨Int.le_refl _,by show (0:Int)≤1073741823; decide⟩,by simp [vl],rfl⟩ (Turn.le (by simp -dsimp -implicitDefEqProofs)) ?_
  rintro ⟨k,ys,ov⟩ ⟨hk,hyl,hyo,hov,hyv,hyd⟩
  simp only at hk hyl hyo hov hyv hyd
  rcases Nat.lt_or_ge k b.length with hkl | hkl
  ·
   have e1:((i:Int)+(k:Int)).toNat=i+k:=by omega
   have hfl:=fl_at (xs:=ys) (j:=i+k) (by omega)
   obtain ⟨s1,s2,s3,s4,s5⟩:=mul_step (s:=ys[i+k]?.getD 0+a[i]?.getD 0*b[k]+ov) hyo (by omega) hkl hb hai hov hyv (by rw [List.getElem?_eq_getElem hkl]; rfl)
   simp -dsimp -implicitDefEqProofs [conTimes_eq,e1,hfl,hkl,nr4_all,nrT,nr4Γ,nr4E,nr4P,nr3Γ,nr3E,nr3P,nr0Γ,nr0E,nr0P,conTwo_eq,conTrim_eq,conAt_eq,conRCheck_eq,conRCmpD_eq,inI64]
   have hm:=mul_range hai (okD_get hb hkl)
   rw [List.getElem?_eq_getElem hkl,Option.getD_some] at hm
   have hy:=okD_get hyo (i:=i+k) (by omega)
   rw [Int.tdiv_eq_ediv_of_nonneg s1.1,Int.tmod_eq_emod_of_nonneg s1.1,fl_set (by omega)]
   generalize ys[i+k]?.getD 0+a[i]?.getD 0*b[k]+ov=s at *
   refine ⟨⟨by omega,by omega⟩,⟨hyl,by omega,by omega⟩,⟨hyl,by omega⟩,hil,⟨by omega,by omega⟩,⟨by omega,by omega⟩,⟨by omega,by omega⟩,⟨by omega,by omega⟩,⟨hyl,by omega,by omega⟩,⟨hyl,by omega⟩,⟨by omega,by omega⟩,⟨by omega,by omega⟩,
    k+1,ys.set (i+k) (s % 1073741824),s / 1073741824,⟨by omega,by rw [List.length_set]; exact hyl,s4,s2,s5,?_⟩,by omega,TurnT.le (by simp -dsimp -implicitDefEqProofs)⟩
   rw [← Nat.add_assoc,drop_set_succ]
   exact drop_eq_succ hyd
  ·
   have hkn:¬ k<b.length:=by omega
   obtain rfl:k=b.length:=by omega
   obtain ⟨r1,r2,r3⟩:=row_end hil hyl hyo ha hov hyv hyd hxz hxv
   have e1:((i:Int)+(b.length:Int)).toNat=i+b.length:=by omega
   simp -dsimp -implicitDefEqProofs [conTimes_eq,hkn,e1,nr4_all,nrT,nr4Γ,nr4E,nr4P,nr3Γ,nr3E,nr3P,nr0Γ,nr0E,nr0P,conTwo_eq,conTrim_eq,conAt_eq,conRCheck_eq,conRCmpD_eq,inI64]
   rw [fl_set (by omega)]
   exact ⟨⟨by omega,by omega⟩,⟨hyl,by omega,hil⟩,⟨hyl,by omega⟩,⟨by omega,by omega⟩,i+1,ys.set (i+b.length) ov,⟨by omega,by rw [List.length_set]; exact hyl,r1,r2,r3⟩,by omega,TurnT.le (by simp -dsimp -implicitDefEqProofs)⟩
 ·
  obtain rfl:i=a.length:=by omega
  rw [← dig_vl hxo,hxv,List.take_of_length_le (Nat.le_refl _)]
def conLess9:Con:=⟨fun args=>(match args with
 | [.s (.sl (.int .i64) a _),.s (.sl (.int .i64) b _)]=>okD a∧canon b∧vl b≤vl a∧a.length≤4096
 | _=>False),fun args=>match args with
 | [.s (.sl (.int .i64) a _),.s (.sl (.int .i64) b _)]=>.v (aS tI (dig (vl a - vl b)) false)
 | _=>.v (.s .any)⟩
theorem conLess9_eq (a:List (Ty.T tI)) (exa:Bool) (b:List (Ty.T tI)) (exb:Bool):conLess9.pre [.s (.sl tI a exa),.s (.sl tI b exb)]=(okD a∧canon b∧vl b≤vl a∧a.length≤4096)∧conLess9.val [.s (.sl tI a exa),.s (.sl tI b exb)]=.v (aS tI (dig (vl a - vl b)) false):=⟨rfl,rfl⟩
theorem less9_ok:PureOk Tryz.prog 175 conLess9:=by
 refine pureOkD (L:={ live:=[0,1,4,5,6,7,8,13,27],frz:=[(12,[5])] }) nr4_good rfl nr_mixed Tryz.func175 rfl conLess9 2 (by decide) (by kernel_rfl) ?_
 intro args hpre hlens
 simp only [conLess9] at hpre
 split at hpre
 case h_2=>exact hpre.elim
 rename_i a ea b eb
 simp only [allLen,AV.lenOk,SV.lenOk,Ty.lenOk,maxLen,and_true,implies_true,true_and,List.forall_mem_cons,List.not_mem_nil,false_implies] at hlens
 refine ⟨rfl,?_⟩
 simp -dsimp -implicitDefEqProofs [Tryz.f175,conLess9_eq,nr4_all,nrT,nr4Γ,nr4E,nr4P,nr3Γ,nr3E,nr3P,nr0Γ,nr0E,nr0P,conTwo_eq,conTrim_eq,conAt_eq,conRCheck_eq,conRCmpD_eq,inI64]
 obtain ⟨a,rfl⟩:∃ y:List Int,y=a:=⟨a,rfl⟩; obtain ⟨b,rfl⟩:∃ y:List Int,y=b:=⟨b,rfl⟩
 obtain ⟨ha,hb,hle,hal⟩:=hpre
 refine WpD.turn _ (Turn.virt (k:=5) (t:=tI) (xs:=[]) (by simp [look])) ?_
 refine WpD.loop (L:={ live:=[0,1,4,5,6,7,8,13,27],frz:=[(12,[5])] }) nr4_good X0_ok nr_mixed (by kernel_rfl)
  (fun p:Nat×List Int×Nat=>⟨[(0,vS tI a ea),(1,vS tI b eb),(5,⟨true,.v (.s (.own tI 0 p.1))⟩),(6,vI p.2.2),(7,vI p.1)],[.arr (decide (0<p.1)) (tI.flats p.2.1)]⟩)
  (fun p=>p.1≤a.length∧p.2.1.length=p.1∧okD p.2.1∧(p.2.2=0∨p.2.2=1)∧vl p.2.1+vl (b.take p.1)=vl (a.take p.1)+1073741824 ^ p.1*p.2.2) (fun p=>a.length - p.1) (0,[],0)
  ⟨Nat.zero_le _,rfl,okD_nil,.inl rfl,by simp [vl]⟩ (Turn.le (by simp -dsimp -implicitDefEqProofs)) ?_
 rintro ⟨i,out,ow⟩ ⟨hi,hol,hoo,how,hov⟩
 simp only at hi hol hoo how hov
 simp -dsimp -implicitDefEqProofs [conLess9_eq,nr4_all,nrT,nr4Γ,nr4E,nr4P,nr3Γ,nr3E,nr3P,nr0Γ,nr0E,nr0P,conTwo_eq,conTrim_eq,conAt_eq,conRCheck_eq,conRCmpD_eq,inI64]
 have hmx:4096≤maxLen:=by simp only [maxLen]; omega
 refine ⟨fun hil => ?_,fun hge=>⟨out,rfl,by omega,?_⟩⟩
 ·
  obtain ⟨l1,l2,l3⟩:=less_step ha hb.1 hil hol hoo how hov rfl
  have h1:=okD_get ha hil
  generalize hn:a[i]?.getD 0 - b[i]?.getD 0 - (ow:Int)=n at *
  refine ⟨hil,⟨by omega,by omega⟩,⟨by omega,by omega⟩,fun hneg => ?_,fun hpos => ?_⟩
  ·
   obtain ⟨k1,k2⟩:=l2 hneg
   refine ⟨⟨by omega,by omega⟩,⟨hol,by omega,by omega⟩,⟨by omega,by omega⟩,i+1,out++[n+1073741824],1,⟨by omega,by simp [hol],k1,.inr rfl,k2⟩,by omega,TurnT.le (by simp -dsimp -implicitDefEqProofs)⟩
  ·
   obtain ⟨k1,k2⟩:=l3 (by omega)
   refine ⟨⟨hol,by omega,by omega⟩,⟨by omega,by omega⟩,i+1,out++[n],0,⟨by omega,by simp [hol],k1,.inl rfl,k2⟩,by omega,TurnT.le (by simp -dsimp -implicitDefEqProofs)⟩
 ·
  obtain rfl:i=a.length:=by omega
  exact less_end ha hb hle hol hoo how hov
def nr5Γ:List (FuncId×Con):=(171,conTimes)::(175,conLess9)::nr4Γ
theorem nr5Γ_ok:∀ p∈nr5Γ,(∀ (args:Array Value) (w:World),(callFunc p.1 args).run Tryz.prog w=.ok (.enter p.1 args) w)∧PureOk Tryz.prog p.1 p.2:=by
 simp only [nr5Γ,List.forall_mem_cons]
 exact ⟨⟨enters_of Tryz.func171 (by kernel_rfl) rfl,times_ok⟩,⟨enters_of Tryz.func175 (by kernel_rfl) rfl,less9_ok⟩,nr4Γ_ok⟩
def nr5E:List (FuncId×ECon):=nr4E
theorem nr5E_ok:∀ p∈nr5E,(∀ (args:Array Value) (w:World),(callFunc p.1 args).run Tryz.prog w=.ok (.enter p.1 args) w)∧EffOk Tryz.prog p.1 p.2:=by
 simp only [nr5E]
 exact nr4E_ok
def nr5P:List (FuncId×PCon):=nr4P
theorem nr5P_ok:∀ p∈nr5P,(∀ (args:Array Value) (w:World),(callFunc p.1 args).run Tryz.prog w=.ok (.enter p.1 args) w)∧PanOk Tryz.prog p.1 p.2:=by
 simp only [nr5P]
 exact nr4P_ok
def nr5:G:={ τ:=nrT,Γ:=nr5Γ,E:=nr5E,Pn:=nr5P,fz:=[23,39] }
theorem nr5_good:nr5.good Tryz.prog:=good_of_all (nrT_ok _ rfl) nr5Γ_ok nr5E_ok nr5P_ok
theorem nr5_all:(∀ t,nr5.td t=(look nrT t).getD .other)∧nr5.y=false∧nr5.Γ=nr5Γ∧nr5.E=nr5E∧nr5.Pn=nr5P∧nr5.fz=[23,39]:=⟨fun _=>rfl,rfl,rfl,rfl,rfl,rfl⟩
def conDivide:Con:=⟨fun args=>(match args with
 | [.s (.sl (.int .i64) a _),.s (.sl (.int .i64) b _)]=>canon a∧canon b∧0<vl b∧a.length≤2048∧b.length≤2048
 | _=>False),fun args=>match args with
 | [.s (.sl (.int .i64) a _),.s (.sl (.int .i64) b _)]=>.tup [aS tI (dig (vl a / vl b)) false,aS tI (dig (vl a % vl b)) false]
 | _=>.v (.s .any)⟩
theorem conDivide_eq (a:List (Ty.T tI)) (exa:Bool) (b:List (Ty.T tI)) (exb:Bool):conDivide.pre [.s (.sl tI a exa),.s (.sl tI b exb)]=(canon a∧canon b∧0<vl b∧a.length≤2048∧b.length≤2048)∧conDivide.val [.s (.sl tI a exa),.s (.sl tI b exb)]=.tup [aS tI (dig (vl a / vl b)) false,aS tI (dig (vl a % vl b)) false]:=⟨rfl,rfl⟩
theorem divide_ok:PureOk Tryz.prog 128 conDivide:=by
 refine pureOkD (L:={ live:=[0,1,4,5,6,7,8,9,10,11,12,32,46,49,61],frz:=[(18,[6])] }) nr5_good rfl nr_mixed Tryz.func128 rfl conDivide 2 (by decide) (by kernel_rfl) ?_
 intro args hpre hlens
 simp only [conDivide] at hpre
 split at hpre
 case h_2=>exact hpre.elim
 rename_i a ea b eb
 simp only [allLen,AV.lenOk,SV.lenOk,Ty.lenOk,maxLen,and_true,implies_true,true_and,List.forall_mem_cons,List.not_mem_nil,false_implies] at hlens
 refine ⟨rfl,?_⟩
 simp -dsimp -implicitDefEqProofs [Tryz.f128,conDivide_eq,nr5_all,nrT,nr5Γ,nr5E,nr5P,nr4Γ,nr4E,nr4P,nr3Γ,nr3E,nr3P,nr0Γ,nr0E,nr0P,conTimes_eq,conLess9_eq,conTwo_eq,conTrim_eq,conAt_eq,conRCheck_eq,conRCmpD_eq,inI64]
 obtain ⟨a,rfl⟩:∃ y:List Int,y=a:=⟨a,rfl⟩; obtain ⟨b,rfl⟩:∃ y:List Int,y=b:=⟨b,rfl⟩
 obtain ⟨ha,hb,hbp,ha2,hb2⟩:=hpre
 have hbl:0<b.length:=(vl_pos hb).1 hbp
 obtain ⟨st,hst⟩:∃ st:Nat,(if 0<(a.length:Int) - (b.length:Int)+1 then (a.length:Int) - (b.length:Int)+1 else 0)=(st:Int):=by
  split
  ·
   exact ⟨((a.length:Int) - (b.length:Int)+1).toNat,by omega⟩
  ·
   exact ⟨0,rfl⟩
 have hst2:st≤a.length∧a.length - st<b.length:=by
  split at hst <;> omega
 have hmx:4096≤maxLen:=by simp only [maxLen]; omega
 rw [hst]
 refine ⟨⟨by omega,by omega⟩,⟨by omega,by omega⟩,⟨by omega,by omega⟩,⟨by omega,by omega⟩,⟨by omega,by omega⟩,⟨by omega,by omega⟩,?_⟩
 simp only [Int.toNat_natCast]
 refine WpD.loop (L:={ live:=[0,1,4,5,6,7,8,9,10,11,12,32,46,49,61],frz:=[(18,[6])] }) nr5_good X0_ok nr_mixed (by kernel_rfl)
  (fun p:Nat×List Int×Nat=>⟨[(0,vS tI a ea),(1,vS tI b eb),(6,⟨true,.v (.s (.own tI 0 a.length))⟩),(8,vS tI (dig p.2.2) false),(9,vI ((p.1:Int) - 1))],[.arr true (tI.flats p.2.1),.dead]⟩)
  (fun p=>p.1≤a.length∧p.2.1.length=a.length∧okD p.2.1∧(∀ d∈p.2.1.take p.1,d=0)∧vl (a.drop p.1)=vl (p.2.1.drop p.1)*vl b+p.2.2∧p.2.2<vl b) (fun p=>p.1) (st,List.replicate a.length 0,vl (a.drop st))
  ⟨hst2.1,List.length_replicate,okD_rep _,fun d hd=>List.eq_of_mem_replicate (List.mem_of_mem_take hd),by simp [vl_rep],?_⟩ (Turn.le ?_) ?_
 ·
  have h1:=vl_lt (okD_drop ha.1 st)
  rw [List.length_drop] at h1
  have h2:¬ vl b<1073741824 ^ (b.length - 1):=fun h=>by have:=(canon_len hb).2 h; omega
  have h3:1073741824 ^ (a.length - st)≤1073741824 ^ (b.length - 1):=Nat.pow_le_pow_right (by decide) (by omega)
  show vl (a.drop st)<vl b
  omega
 ·
  simp -dsimp -implicitDefEqProofs [(dig_vl (okD_drop ha.1 st)).symm]
 rintro ⟨n,q,R⟩ ⟨hn,hql,hqo,hqz,hqv,hR⟩
 simp only at hn hql hqo hqz hqv hR
 simp -dsimp -implicitDefEqProofs [conDivide_eq,Nat.add_comm 1,nr5_all,nrT,nr5Γ,nr5E,nr5P,nr4Γ,nr4E,nr4P,nr3Γ,nr3E,nr3P,nr0Γ,nr0E,nr0P,conTimes_eq,conLess9_eq,conTwo_eq,conTrim_eq,conAt_eq,conRCheck_eq,conRCmpD_eq,inI64]
 refine ⟨fun h1 => ?_,fun h0=>⟨q,rfl,hql.symm,?_⟩⟩
 ·
  obtain ⟨k,rfl⟩:∃ k,n=k+1:=⟨n - 1,by omega⟩
  have hka:k<a.length:=by omega
  have e:((k+1:Nat):Int) - 1 - 1=(k:Int) - 1:=by omega
  have hak:=okD_get ha.1 hka
  rw [Nat.add_sub_cancel,div_push ha.1 hka,vl_dig]
  obtain ⟨x,hx⟩:∃ x,(a[k]?.getD 0).toNat=x:=⟨_,rfl⟩
  have hx2:x≤1073741823:=by omega
  have hRl:(dig R).length≤2048:=dig_le (Nat.lt_trans hR (vl_lt hb.1)) hb2
  have hR2:x+1073741824*R<(1073741823+1)*vl b:=div_lt hx2 hR
  have hRl2:(dig (x+1073741824*R)).length≤4096:=dig_le (k:=b.length+1) (by
   have:=vl_lt hb.1
   rw [Nat.pow_succ]
   omega) (by omega)
  have hrow:=fun lo=>div_row (lo:=lo) hka hql hqo hqz hqv
  rw [hx] at hrow ⊢
  generalize hN:x+1073741824*R=N at *
  refine ⟨⟨h1,by omega⟩,⟨by omega,by omega⟩,⟨canon_dig _,hb,by omega,by omega⟩,fun hlt => ?_,fun hge => ?_⟩
  ·
   rw [cmpN_neg] at hlt
   obtain ⟨r1,r2,r3⟩:=hrow 0 (by omega) (by omega)
   rw [set_same (by omega) hqz] at r1 r2 r3
   refine ⟨⟨by omega,by omega⟩,k,q,N,⟨by omega,hql,r1,r2,by simpa using r3,hlt⟩,by omega,?_⟩
   rw [e]
   exact TurnT.trunc X0_ok (hp:=[_,_]) (junk:=[_]) (by simp) (by simp only [List.length_cons,List.length_nil,List.all_cons,List.all_nil,arr_below,Bool.and_true] <;> simp [Blk.below,SV.below]) (by simp -dsimp -implicitDefEqProofs []) (by simp [envBelow,RV.below,AV.below,SV.below])
  ·
   have hge2:vl b≤N:=by
    rcases Nat.lt_or_ge N (vl b) with h | h
    ·
     have:=cmpN_neg.2 h; omega
    ·
     exact h
   refine WpD.loop (L:={ live:=[0,1,4,5,6,7,8,9,10,11,12,32,46,49,61],frz:=[(18,[6])] }) nr5_good X0_ok nr_mixed (by kernel_rfl)
    (fun p:Nat×Nat=>⟨[(0,vS tI a ea),(1,vS tI b eb),(6,⟨true,.v (.s (.own tI 0 a.length))⟩),(8,vS tI (dig N) false),(9,vI (((k+1:Nat):Int) - 1)),(10,vI p.1),(11,vI p.2)],[.arr true (tI.flats q),.dead,.dead]⟩)
    (fun p=>p.1≤p.2∧p.2≤1073741823∧p.1*vl b≤N∧N<(p.2+1)*vl b) (fun p=>p.2 - p.1) (0,1073741823)
    ⟨by omega,by omega,by omega,hR2⟩ (Turn.le (by simp -dsimp -implicitDefEqProofs)) ?_
   rintro ⟨lo,hi⟩ ⟨hlh,hhi,hlo,hNh⟩
   simp only at hlh hhi hlo hNh
   rcases Nat.lt_or_ge lo hi with hll | hll
   ·
    have e2:((lo:Int)+(hi:Int)+1).tdiv 2=(((lo+hi+1) / 2:Nat):Int):=by
     rw [Int.tdiv_eq_ediv_of_nonneg (by omega)]; omega
    obtain ⟨mid,hmid⟩:∃ mid,(lo+hi+1) / 2=mid:=⟨_,rfl⟩
    have hm1:lo<mid∧mid≤hi:=by omega
    rw [hmid] at e2
    have hvm:vl [(mid:Int)]=mid:=by rw [vl_one]; omega
    have hml:(dig (mid*vl b)).length≤4096:=dig_len_mul hb (m:=mid) (by omega) (Nat.le_refl _) (by omega)
    simp -dsimp -implicitDefEqProofs [conDivide_eq,e2,hll,hvm,nr5_all,nrT,nr5Γ,nr5E,nr5P,nr4Γ,nr4E,nr4P,nr3Γ,nr3E,nr3P,nr0Γ,nr0E,nr0P,conTimes_eq,conLess9_eq,conTwo_eq,conTrim_eq,conAt_eq,conRCheck_eq,conRCmpD_eq,inI64]
    rw [vl_dig,vl_dig]
    refine ⟨⟨by omega,by omega⟩,⟨by omega,by omega⟩,by omega,⟨okD_cons.2 ⟨⟨by omega,by omega⟩,okD_nil⟩,hb.1,hb2⟩,⟨canon_dig _,canon_dig _,hml,hRl2⟩,fun hle=>⟨mid,hi,⟨by omega,hhi,?_,hNh⟩,by omega,TurnT.le (by simp -dsimp -implicitDefEqProofs)⟩,fun hgt=>⟨by omega,lo,mid - 1,⟨by omega,by omega,hlo,?_⟩,by omega,TurnT.le (by simp -dsimp -implicitDefEqProofs; omega)⟩⟩
    ·
     rcases Nat.lt_or_ge N (mid*vl b) with h | h
     ·
      have:=cmpN_pos.2 h; omega
     ·
      exact h
    ·
     rw [Nat.sub_add_cancel (by omega)]
     exact cmpN_pos.1 hgt
   ·
    obtain rfl:lo=hi:=by omega
    have hnn:¬ lo<lo:=by omega
    have hvm:vl [(lo:Int)]=lo:=by rw [vl_one]; omega
    simp -dsimp -implicitDefEqProofs [conDivide_eq,hnn,nr5_all,nrT,nr5Γ,nr5E,nr5P,nr4Γ,nr4E,nr4P,nr3Γ,nr3E,nr3P,nr0Γ,nr0E,nr0P,conTimes_eq,conLess9_eq,conTwo_eq,conTrim_eq,conAt_eq,conRCheck_eq,conRCmpD_eq,inI64]
    rw [hvm,vl_dig,vl_dig,fl_set (by omega)]
    obtain ⟨r1,r2,r3⟩:=hrow lo (by omega) hlo
    have hlt:N - lo*vl b<vl b:=by
     rw [Nat.add_mul,Nat.one_mul] at hNh
     omega
    refine ⟨⟨hql,hka⟩,⟨hql,by omega⟩,⟨okD_cons.2 ⟨⟨by omega,by omega⟩,okD_nil⟩,hb.1,hb2⟩,⟨okD_dig _,canon_dig _,hlo,hRl2⟩,⟨by omega,by omega⟩,k,q.set k lo,N - lo*vl b,⟨by omega,by rw [List.length_set]; exact hql,r1,r2,r3,hlt⟩,by omega,?_⟩
    exact TurnT.trunc X0_ok (hp:=[_,_]) (junk:=[_]) (by simp) (by simp only [List.length_cons,List.length_nil,List.all_cons,List.all_nil,arr_below,Bool.and_true] <;> simp [Blk.below,SV.below]) (by simp -dsimp -implicitDefEqProofs []) (by simp [envBelow,RV.below,AV.below,SV.below])
 ·
  obtain rfl:n=0:=by omega
  rw [List.drop_zero,List.drop_zero] at hqv
  rw [← dig_vl hqo]
  have:=Nat.div_mod_unique hbp (a:=vl a) (c:=R) (d:=vl q)
  obtain ⟨d1,d2⟩:=this.2 ⟨by rw [hqv,Nat.mul_comm,Nat.add_comm],hR⟩
  rw [d1,d2]
  exact ⟨rfl,rfl⟩
def nr6Γ:List (FuncId×Con):=(128,conDivide)::nr5Γ
theorem nr6Γ_ok:∀ p∈nr6Γ,(∀ (args:Array Value) (w:World),(callFunc p.1 args).run Tryz.prog w=.ok (.enter p.1 args) w)∧PureOk Tryz.prog p.1 p.2:=by
 simp only [nr6Γ,List.forall_mem_cons]
 exact ⟨⟨enters_of Tryz.func128 (by kernel_rfl) rfl,divide_ok⟩,nr5Γ_ok⟩
def nr6E:List (FuncId×ECon):=nr5E
theorem nr6E_ok:∀ p∈nr6E,(∀ (args:Array Value) (w:World),(callFunc p.1 args).run Tryz.prog w=.ok (.enter p.1 args) w)∧EffOk Tryz.prog p.1 p.2:=by
 simp only [nr6E]
 exact nr5E_ok
def nr6P:List (FuncId×PCon):=nr5P
theorem nr6P_ok:∀ p∈nr6P,(∀ (args:Array Value) (w:World),(callFunc p.1 args).run Tryz.prog w=.ok (.enter p.1 args) w)∧PanOk Tryz.prog p.1 p.2:=by
 simp only [nr6P]
 exact nr5P_ok
def nr6:G:={ τ:=nrT,Γ:=nr6Γ,E:=nr6E,Pn:=nr6P }
theorem nr6_good:nr6.good Tryz.prog:=good_of_all (nrT_ok _ rfl) nr6Γ_ok nr6E_ok nr6P_ok
theorem nr6_all:(∀ t,nr6.td t=(look nrT t).getD .other)∧nr6.y=false∧nr6.Γ=nr6Γ∧nr6.E=nr6E∧nr6.Pn=nr6P∧nr6.fz=[]:=⟨fun _=>rfl,rfl,rfl,rfl,rfl,rfl⟩
theorem natErr_0 {ng:Bool} {m:List Int}:natErr ng m=0↔okBig ng m:=by
 unfold natErr
 split <;> simp_all
theorem twoErr_0 {n1:Bool} {m1:List Int} {n2:Bool} {m2:List Int}:twoErr n1 m1 n2 m2=0↔okBig n1 m1∧okBig n2 m2:=by
 unfold twoErr
 split
 ·
  rw [natErr_0]; simp_all
 ·
  simp_all
def gcdD (n1:Bool) (m1:List Int) (n2:Bool) (m2:List Int):List Int:=if twoErr n1 m1 n2 m2=0 then dig (Nat.gcd (vl m1) (vl m2)) else []
def limD (n:Nat):List Int:=if (dig n).length≤2048 then dig n else []
def limE (n:Nat):Int:=if (dig n).length≤2048 then 0 else 2
structure TwoL where
 x:List Int
 ex:Bool
 y:List Int
 ey:Bool
def conOf9:Con:=⟨fun args=>(match args with
 | [.s (.bool ng),.s (.sl (.int .i64) m _)]=>okD m
 | _=>False),fun args=>match args with
 | [.s (.bool ng),.s (.sl (.int .i64) m _)]=>.tup [.agg [.bool (ng&&decide (limD (vl m)≠[])),.sl tI (limD (vl m)) false],aI (limE (vl m))]
 | _=>.v (.s .any)⟩
theorem conOf9_eq (ng:Bool) (m:List (Ty.T tI)) (exm:Bool):conOf9.pre [.s (.bool ng),.s (.sl tI m exm)]=(okD m)∧conOf9.val [.s (.bool ng),.s (.sl tI m exm)]=.tup [.agg [.bool (ng&&decide (limD (vl m)≠[])),.sl tI (limD (vl m)) false],aI (limE (vl m))]:=⟨rfl,rfl⟩
theorem of9_ok:PureOk Tryz.prog 170 conOf9:=by
 refine pureOkD (L:={ live:=[0,1,4,5,10] }) nr6_good rfl nr_mixed Tryz.func170 rfl conOf9 2 (by decide) (by kernel_rfl) ?_
 intro args hpre hlens
 simp only [conOf9] at hpre
 split at hpre
 case h_2=>exact hpre.elim
 rename_i ng m em
 simp only [allLen,AV.lenOk,SV.lenOk,Ty.lenOk,maxLen,and_true,implies_true,true_and,List.forall_mem_cons,List.not_mem_nil,false_implies] at hlens
 refine ⟨rfl,?_⟩
 simp -dsimp -implicitDefEqProofs [Tryz.f170,conOf9_eq,nr6_all,nrT,nr6Γ,nr6E,nr6P,nr5Γ,nr5E,nr5P,nr4Γ,nr4E,nr4P,nr3Γ,nr3E,nr3P,nr0Γ,nr0E,nr0P,conDivide_eq,conTimes_eq,conLess9_eq,conTwo_eq,conTrim_eq,conAt_eq,conRCheck_eq,conRCmpD_eq,inI64]
 obtain ⟨m,rfl⟩:∃ y:List Int,y=m:=⟨m,rfl⟩
 unfold limD limE
 rw [dig_vl hpre]
 refine ⟨fun h => ?_,fun h => ?_⟩
 ·
  rw [if_neg (by omega),if_neg (by omega)]; simp
 ·
  rw [if_pos (by omega),if_pos (by omega)]
  cases trimL m <;> simp
def conGcd9:Con:=⟨fun args=>(match args with
 | [.agg [.bool n1,.sl (.int .i64) m1 _],.agg [.bool n2,.sl (.int .i64) m2 _]]=>True
 | _=>False),fun args=>match args with
 | [.agg [.bool n1,.sl (.int .i64) m1 _],.agg [.bool n2,.sl (.int .i64) m2 _]]=>.tup [.agg [.bool false,.sl tI (gcdD n1 m1 n2 m2) false],aI (twoErr n1 m1 n2 m2)]
 | _=>.v (.s .any)⟩
theorem conGcd9_eq (n1:Bool) (m1:List (Ty.T tI)) (exm1:Bool) (n2:Bool) (m2:List (Ty.T tI)) (exm2:Bool):conGcd9.pre [.agg [.bool n1,.sl tI m1 exm1],.agg [.bool n2,.sl tI m2 exm2]]=(True)∧conGcd9.val [.agg [.bool n1,.sl tI m1 exm1],.agg [.bool n2,.sl tI m2 exm2]]=.tup [.agg [.bool false,.sl tI (gcdD n1 m1 n2 m2) false],aI (twoErr n1 m1 n2 m2)]:=⟨rfl,rfl⟩
def nr7Γ:List (FuncId×Con):=(170,conOf9)::nr6Γ
theorem nr7Γ_ok:∀ p∈nr7Γ,(∀ (args:Array Value) (w:World),(callFunc p.1 args).run Tryz.prog w=.ok (.enter p.1 args) w)∧PureOk Tryz.prog p.1 p.2:=by
 simp only [nr7Γ,List.forall_mem_cons]
 exact ⟨⟨enters_of Tryz.func170 (by kernel_rfl) rfl,of9_ok⟩,nr6Γ_ok⟩
def nr7E:List (FuncId×ECon):=nr6E
theorem nr7E_ok:∀ p∈nr7E,(∀ (args:Array Value) (w:World),(callFunc p.1 args).run Tryz.prog w=.ok (.enter p.1 args) w)∧EffOk Tryz.prog p.1 p.2:=by
 simp only [nr7E]
 exact nr6E_ok
def nr7P:List (FuncId×PCon):=nr6P
theorem nr7P_ok:∀ p∈nr7P,(∀ (args:Array Value) (w:World),(callFunc p.1 args).run Tryz.prog w=.ok (.enter p.1 args) w)∧PanOk Tryz.prog p.1 p.2:=by
 simp only [nr7P]
 exact nr6P_ok
def nr7:G:={ τ:=nrT,Γ:=nr7Γ,E:=nr7E,Pn:=nr7P }
theorem nr7_good:nr7.good Tryz.prog:=good_of_all (nrT_ok _ rfl) nr7Γ_ok nr7E_ok nr7P_ok
theorem nr7_all:(∀ t,nr7.td t=(look nrT t).getD .other)∧nr7.y=false∧nr7.Γ=nr7Γ∧nr7.E=nr7E∧nr7.Pn=nr7P∧nr7.fz=[]:=⟨fun _=>rfl,rfl,rfl,rfl,rfl,rfl⟩
theorem gcd9_ok:PureOk Tryz.prog 127 conGcd9:=by
 refine pureOkD (L:={ live:=[0,1,2,3,4,5,6,7,8,10,15,24] }) nr7_good rfl nr_mixed Tryz.func127 rfl conGcd9 2 (by decide) (by kernel_rfl) ?_
 intro args hpre hlens
 simp only [conGcd9] at hpre
 split at hpre
 case h_2=>exact hpre.elim
 rename_i n1 m1 e1 n2 m2 e2
 simp only [allLen,AV.lenOk,SV.lenOk,Ty.lenOk,maxLen,and_true,implies_true,true_and,List.forall_mem_cons,List.not_mem_nil,false_implies] at hlens
 refine ⟨rfl,?_⟩
 simp -dsimp -implicitDefEqProofs [Tryz.f127,conGcd9_eq,nr7_all,nrT,nr7Γ,nr7E,nr7P,nr6Γ,nr6E,nr6P,nr5Γ,nr5E,nr5P,nr4Γ,nr4E,nr4P,nr3Γ,nr3E,nr3P,nr0Γ,nr0E,nr0P,conOf9_eq,conDivide_eq,conTimes_eq,conLess9_eq,conTwo_eq,conTrim_eq,conAt_eq,conRCheck_eq,conRCmpD_eq,inI64]
 obtain ⟨m1,rfl⟩:∃ y:List Int,y=m1:=⟨m1,rfl⟩; obtain ⟨m2,rfl⟩:∃ y:List Int,y=m2:=⟨m2,rfl⟩
 refine ⟨fun h => ?_,fun h => ?_⟩
 ·
  unfold gcdD; rw [if_neg h]
 obtain ⟨h1,h2⟩:=twoErr_0.1 h
 refine WpD.loop (L:={ live:=[0,1,2,3,4,5,6,7,8,10,15,24] }) nr7_good X0_ok nr_mixed (by kernel_rfl)
  (fun p:TwoL=>⟨[(4,⟨true,.v (.s (.box 2 0))⟩),(5,vI 0),(7,vS tI p.x p.ex),(8,vS tI p.y p.ey)],[.cells [.bool n1,.sl tI m1 e1],.cells [.bool n2,.sl tI m2 e2],.cells [.bool false,.sl tI [] true]]⟩)
  (fun p=>canon p.x∧canon p.y∧p.x.length≤2048∧p.y.length≤2048∧Nat.gcd (vl p.x) (vl p.y)=Nat.gcd (vl m1) (vl m2)) (fun p=>vl p.y) ⟨m1,e1,m2,e2⟩ ⟨h1.1,h2.1,h1.2.1,h2.2.1,rfl⟩ (Turn.le (by simp -dsimp -implicitDefEqProofs)) ?_
 rintro ⟨x,ex,y,ey⟩ ⟨hx,hy,hxl,hyl,hg⟩
 simp only at hx hy hxl hyl hg
 simp -dsimp -implicitDefEqProofs [conGcd9_eq,nr7_all,nrT,nr7Γ,nr7E,nr7P,nr6Γ,nr6E,nr6P,nr5Γ,nr5E,nr5P,nr4Γ,nr4E,nr4P,nr3Γ,nr3E,nr3P,nr0Γ,nr0E,nr0P,conOf9_eq,conDivide_eq,conTimes_eq,conLess9_eq,conTwo_eq,conTrim_eq,conAt_eq,conRCheck_eq,conRCmpD_eq,inI64]
 refine ⟨fun hp => ?_,fun he => ?_⟩
 ·
  have hvp:=(vl_pos hy).2 hp
  refine ⟨⟨hx,hy,hvp,hxl,hyl⟩,⟨y,ey,dig (vl x % vl y),false⟩,⟨hy,canon_dig _,hyl,?_,?_⟩,?_,TurnT.le (by simp -dsimp -implicitDefEqProofs)⟩
  ·
   show (dig _).length≤2048
   exact dig_le (Nat.lt_trans (Nat.mod_lt _ hvp) (vl_lt hy.1)) hyl
  ·
   show Nat.gcd (vl y) (vl (dig _))=_
   rw [vl_dig,← hg,Nat.gcd_comm (vl y),← Nat.gcd_rec,Nat.gcd_comm]
  ·
   show vl (dig _)<vl y
   rw [vl_dig]; exact Nat.mod_lt _ hvp
 ·
  subst he
  have hv:vl x=Nat.gcd (vl m1) (vl m2):=by rw [← hg]; simp [vl]
  have hl:(dig (vl x)).length≤2048:=by rw [canon_eq hx]; exact hxl
  refine ⟨hx.1,?_,?_⟩
  ·
   unfold limD gcdD
   rw [if_pos hl,if_pos h,hv]
  ·
   unfold limE
   rw [if_pos hl,h]
def cmpV9 (n1:Bool) (m1:List Int) (n2:Bool) (m2:List Int):Int:=if twoErr n1 m1 n2 m2=0 then cmpZ (sgn n1 m1) (sgn n2 m2) else 0
def conCmp9:Con:=⟨fun args=>(match args with
 | [.agg [.bool n1,.sl (.int .i64) m1 _],.agg [.bool n2,.sl (.int .i64) m2 _]]=>True
 | _=>False),fun args=>match args with
 | [.agg [.bool n1,.sl (.int .i64) m1 _],.agg [.bool n2,.sl (.int .i64) m2 _]]=>.tup [aI (cmpV9 n1 m1 n2 m2),aI (twoErr n1 m1 n2 m2)]
 | _=>.v (.s .any)⟩
theorem conCmp9_eq (n1:Bool) (m1:List (Ty.T tI)) (exm1:Bool) (n2:Bool) (m2:List (Ty.T tI)) (exm2:Bool):conCmp9.pre [.agg [.bool n1,.sl tI m1 exm1],.agg [.bool n2,.sl tI m2 exm2]]=(True)∧conCmp9.val [.agg [.bool n1,.sl tI m1 exm1],.agg [.bool n2,.sl tI m2 exm2]]=.tup [aI (cmpV9 n1 m1 n2 m2),aI (twoErr n1 m1 n2 m2)]:=⟨rfl,rfl⟩
theorem cmp9_ok:PureOk Tryz.prog 118 conCmp9:=by
 refine pureOkD (L:={ live:=[0,1,2,3,4,5,6,11,17,19,21] }) nr7_good rfl nr_mixed Tryz.func118 rfl conCmp9 2 (by decide) (by kernel_rfl) ?_
 intro args hpre hlens
 simp only [conCmp9] at hpre
 split at hpre
 case h_2=>exact hpre.elim
 rename_i n1 m1 e1 n2 m2 e2
 simp only [allLen,AV.lenOk,SV.lenOk,Ty.lenOk,maxLen,and_true,implies_true,true_and,List.forall_mem_cons,List.not_mem_nil,false_implies] at hlens
 refine ⟨rfl,?_⟩
 simp -dsimp -implicitDefEqProofs [Tryz.f118,conCmp9_eq,nr7_all,nrT,nr7Γ,nr7E,nr7P,nr6Γ,nr6E,nr6P,nr5Γ,nr5E,nr5P,nr4Γ,nr4E,nr4P,nr3Γ,nr3E,nr3P,nr0Γ,nr0E,nr0P,conOf9_eq,conDivide_eq,conTimes_eq,conLess9_eq,conTwo_eq,conTrim_eq,conAt_eq,conRCheck_eq,conRCmpD_eq,inI64]
 obtain ⟨m1,rfl⟩:∃ y:List Int,y=m1:=⟨m1,rfl⟩; obtain ⟨m2,rfl⟩:∃ y:List Int,y=m2:=⟨m2,rfl⟩
 refine ⟨fun h=>by unfold cmpV9; rw [if_neg h],fun h => ?_⟩
 obtain ⟨h1,h2⟩:=twoErr_0.1 h
 have hp1:n1=true→0<vl m1:=fun e=>(vl_pos h1.1).2 (List.length_pos_iff.2 (h1.2.2 e))
 have hp2:n2=true→0<vl m2:=fun e=>(vl_pos h2.1).2 (List.length_pos_iff.2 (h2.2.2 e))
 unfold cmpV9
 rw [if_pos h,h]
 have l1:=h1.2.1
 have l2:=h2.2.1
 refine ⟨fun hne=>⟨fun e1=>⟨?_,rfl⟩,fun e1=>⟨?_,rfl⟩⟩,fun he=>⟨fun e1=>⟨⟨h2.1,h1.1,by omega,by omega⟩,?_,rfl⟩,fun e1=>⟨⟨h1.1,h2.1,by omega,by omega⟩,?_,rfl⟩⟩⟩
 ·
  have e2:n2=false:=by cases n2 <;> simp_all
  subst e1 e2
  rw [sgn_true,sgn_false,cmpZ_lt]
  have:=hp1 rfl
  omega
 ·
  have e2:n2=true:=by cases n2 <;> simp_all
  subst e1 e2
  rw [sgn_true,sgn_false,cmpZ_gt]
  have:=hp2 rfl
  omega
 ·
  subst he e1
  rw [sgn_true,sgn_true,cmpZ_neg,cmpZ_nat]
 ·
  subst he e1
  rw [sgn_false,sgn_false,cmpZ_nat]
def mulD (n1:Bool) (m1:List Int) (n2:Bool) (m2:List Int):List Int:=if twoErr n1 m1 n2 m2=0 then limD (vl m1*vl m2) else []
def mulErr (n1:Bool) (m1:List Int) (n2:Bool) (m2:List Int):Int:=if twoErr n1 m1 n2 m2=0 then limE (vl m1*vl m2) else 90
def conMul9:Con:=⟨fun args=>(match args with
 | [.agg [.bool n1,.sl (.int .i64) m1 _],.agg [.bool n2,.sl (.int .i64) m2 _]]=>True
 | _=>False),fun args=>match args with
 | [.agg [.bool n1,.sl (.int .i64) m1 _],.agg [.bool n2,.sl (.int .i64) m2 _]]=>.tup [.agg [.bool ((n1 != n2)&&decide (mulD n1 m1 n2 m2≠[])),.sl tI (mulD n1 m1 n2 m2) false],aI (mulErr n1 m1 n2 m2)]
 | _=>.v (.s .any)⟩
theorem conMul9_eq (n1:Bool) (m1:List (Ty.T tI)) (exm1:Bool) (n2:Bool) (m2:List (Ty.T tI)) (exm2:Bool):conMul9.pre [.agg [.bool n1,.sl tI m1 exm1],.agg [.bool n2,.sl tI m2 exm2]]=(True)∧conMul9.val [.agg [.bool n1,.sl tI m1 exm1],.agg [.bool n2,.sl tI m2 exm2]]=.tup [.agg [.bool ((n1 != n2)&&decide (mulD n1 m1 n2 m2≠[])),.sl tI (mulD n1 m1 n2 m2) false],aI (mulErr n1 m1 n2 m2)]:=⟨rfl,rfl⟩
theorem mul9_ok:PureOk Tryz.prog 119 conMul9:=by
 refine pureOkD (L:={ live:=[0,1,2,3,4,5,6,11] }) nr7_good rfl nr_mixed Tryz.func119 rfl conMul9 2 (by decide) (by kernel_rfl) ?_
 intro args hpre hlens
 simp only [conMul9] at hpre
 split at hpre
 case h_2=>exact hpre.elim
 rename_i n1 m1 e1 n2 m2 e2
 simp only [allLen,AV.lenOk,SV.lenOk,Ty.lenOk,maxLen,and_true,implies_true,true_and,List.forall_mem_cons,List.not_mem_nil,false_implies] at hlens
 refine ⟨rfl,?_⟩
 simp -dsimp -implicitDefEqProofs [Tryz.f119,conMul9_eq,nr7_all,nrT,nr7Γ,nr7E,nr7P,nr6Γ,nr6E,nr6P,nr5Γ,nr5E,nr5P,nr4Γ,nr4E,nr4P,nr3Γ,nr3E,nr3P,nr0Γ,nr0E,nr0P,conOf9_eq,conDivide_eq,conTimes_eq,conLess9_eq,conTwo_eq,conTrim_eq,conAt_eq,conRCheck_eq,conRCmpD_eq,inI64]
 obtain ⟨m1,rfl⟩:∃ y:List Int,y=m1:=⟨m1,rfl⟩; obtain ⟨m2,rfl⟩:∃ y:List Int,y=m2:=⟨m2,rfl⟩
 refine ⟨fun h => ?_,fun h => ?_⟩
 ·
  have e1:mulD n1 m1 n2 m2=[]:=if_neg h
  have e2:mulErr n1 m1 n2 m2=90:=if_neg h
  have e3:twoErr n1 m1 n2 m2=90:=by
   unfold twoErr at h ⊢
   unfold natErr at h ⊢
   split
   ·
    rename_i hq; rw [if_pos hq] at h; split <;> simp_all
   ·
    rfl
  exact ⟨⟨fun _=>e1,e1⟩,by rw [e2,e3]⟩
 ·
  obtain ⟨h1,h2⟩:=twoErr_0.1 h
  rw [vl_dig]
  unfold mulD mulErr
  rw [if_pos h,if_pos h]
  exact ⟨⟨h1.1.1,h2.1.1,h1.2.1,h2.2.1⟩,okD_dig _,⟨rfl,rfl⟩,rfl⟩
def conMake9:Con:=⟨fun args=>(match args with
 | [.s (.int .i64 n)]=>inI64 n
 | _=>False),fun args=>match args with
 | [.s (.int _ n)]=>.v (.agg [.bool (decide (n<0)),.sl tI (dig n.natAbs) false])
 | _=>.v (.s .any)⟩
theorem conMake9_eq (n:Int):conMake9.pre [.s (.int .i64 n)]=(inI64 n)∧conMake9.val [.s (.int .i64 n)]=.v (.agg [.bool (decide (n<0)),.sl tI (dig n.natAbs) false]):=⟨rfl,rfl⟩
theorem make9_ok:PureOk Tryz.prog 108 conMake9:=by
 refine pureOkD (L:={ live:=[0,2,3,4,5,9,15] }) nr0_good rfl nr_mixed Tryz.func108 rfl conMake9 1 (by decide) (by kernel_rfl) ?_
 intro args hpre hlens
 simp only [conMake9] at hpre
 split at hpre
 case h_2=>exact hpre.elim
 rename_i n
 simp only [allLen,AV.lenOk,SV.lenOk,Ty.lenOk,maxLen,and_true,implies_true,true_and,List.forall_mem_cons,List.not_mem_nil,false_implies] at hlens
 refine ⟨rfl,?_⟩
 simp -dsimp -implicitDefEqProofs [Tryz.f108,conMake9_eq,nr0_all,nrT,nr0Γ,nr0E,nr0P,inI64]
 refine WpD.turn _ (Turn.virt (k:=3) (t:=tI) (xs:=[]) (by simp [look])) ?_
 refine WpD.loop (L:={ live:=[0,2,3,4,5,9,15] }) nr0_good X0_ok nr_mixed (by kernel_rfl)
  (fun p:List Int×Int=>⟨[(0,vI n),(2,⟨true,.v (.s (.box 0 0))⟩),(3,⟨true,.v (.s (.own tI 1 p.1.length))⟩),(4,vI p.2)],[.cells [.bool false,.sl tI [] true],.arr (decide (0<p.1.length)) (tI.flats p.1)]⟩)
  (fun p=>okD p.1∧vl p.1+1073741824 ^ p.1.length*p.2.natAbs=n.natAbs∧(p.2=0→canon p.1)) (fun p=>p.2.natAbs) ([],n) ⟨okD_nil,by simp [vl],fun _=>canon_nil⟩ (Turn.le (by simp -dsimp -implicitDefEqProofs)) ?_
 rintro ⟨out,k⟩ ⟨ho,hv,hc⟩
 simp only at ho hv hc
 simp only [inI64] at hpre
 have hlen:k≠0→out.length≤2:=fun hk=>by
  apply Classical.byContradiction
  intro h3
  have h1:1073741824 ^ 3≤1073741824 ^ out.length:=Nat.pow_le_pow_right (by decide) (by omega)
  have h2:1≤k.natAbs:=by omega
  have h4:=Nat.mul_le_mul_left (1073741824 ^ out.length) h2
  simp only [Nat.reducePow] at h1
  omega
 have hmx:4096≤maxLen:=by simp only [maxLen]; omega
 have hkn:k.natAbs≤n.natAbs:=by
  have h1:=Nat.mul_le_mul_right k.natAbs (pow_pos' out.length)
  omega
 have hq:(k.tdiv 1073741824).natAbs=k.natAbs / 1073741824:=by rw [Int.natAbs_tdiv]; rfl
 have hr:(k.tmod 1073741824).natAbs=k.natAbs % 1073741824:=by rw [Int.natAbs_tmod]; rfl
 simp -dsimp -implicitDefEqProofs [conMake9_eq,nr0_all,nrT,nr0Γ,nr0E,nr0P,inI64]
 refine ⟨fun hk => ?_,fun hk => ?_⟩
 ·
  have hl:=hlen hk
  refine ⟨fun hneg => ?_,fun hpos => ?_⟩
  ·
   obtain ⟨s1,s2⟩:=make_step ho hv (-(k.tmod 1073741824)) (by rw [if_pos hneg])
   exact ⟨⟨by omega,by omega⟩,⟨by omega,by omega⟩,⟨by omega,by omega⟩,_,_,⟨s1,s2,fun h0=>canon_snoc s1 (by omega)⟩,by omega,TurnT.le (by simp -dsimp -implicitDefEqProofs)⟩
  ·
   obtain ⟨s1,s2⟩:=make_step ho hv (k.tmod 1073741824) (by rw [if_neg (by omega)])
   exact ⟨⟨by omega,by omega⟩,⟨by omega,by omega⟩,_,_,⟨s1,s2,fun h0=>canon_snoc s1 (by omega)⟩,by omega,TurnT.le (by simp -dsimp -implicitDefEqProofs)⟩
 ·
  subst hk
  rw [← canon_eq (hc rfl)]
  simp at hv
  rw [hv]
def backL (m:List Int):List (List AV):=(List.range m.length).map fun t=>[aI (((m.length - 1 - t:Nat)):Int),aI (m[m.length - 1 - t]?.getD 0)]
theorem backL_len (m:List Int):(backL m).length=m.length:=by simp [backL]
theorem backL_get {m:List Int} {t:Nat} (h:t<m.length):(backL m)[t]?=some [aI (((m.length - 1 - t:Nat)):Int),aI (m[m.length - 1 - t]?.getD 0)]:=by
 simp [backL,h]
def itBack:ItCon:=⟨fun caps=>(match caps with
 | [.s (.eptr (.slice (.int .i64)) _)]=>True
 | _=>False),fun caps=>match caps with
 | [.s (.eptr (.slice (.int .i64)) xs)]=>backL xs
 | _=>[]⟩
theorem itBack_xs (xs:List Int):itBack.xs [.s (.eptr (.slice tI) xs)]=backL xs:=rfl
def nriΓ:List (FuncId×Con):=[]
theorem nriΓ_ok:∀ p∈nriΓ,(∀ (args:Array Value) (w:World),(callFunc p.1 args).run Tryz.prog w=.ok (.enter p.1 args) w)∧PureOk Tryz.prog p.1 p.2:=by simp [nriΓ]
def nriE:List (FuncId×ECon):=[]
theorem nriE_ok:∀ p∈nriE,(∀ (args:Array Value) (w:World),(callFunc p.1 args).run Tryz.prog w=.ok (.enter p.1 args) w)∧EffOk Tryz.prog p.1 p.2:=by simp [nriE]
def nriP:List (FuncId×PCon):=[]
theorem nriP_ok:∀ p∈nriP,(∀ (args:Array Value) (w:World),(callFunc p.1 args).run Tryz.prog w=.ok (.enter p.1 args) w)∧PanOk Tryz.prog p.1 p.2:=by simp [nriP]
def nri:G:={ τ:=nrT,Γ:=nriΓ,E:=nriE,Pn:=nriP }
theorem nri_good:nri.good Tryz.prog:=good_of_all (nrT_ok _ rfl) nriΓ_ok nriE_ok nriP_ok
theorem nri_all:(∀ t,nri.td t=(look nrT t).getD .other)∧nri.y=false∧nri.Γ=nriΓ∧nri.E=nriE∧nri.Pn=nriP∧nri.fz=[]:=⟨fun _=>rfl,rfl,rfl,rfl,rfl,rfl⟩
def nriy:G:={ τ:=nrT,Γ:=nriΓ,E:=nriE,Pn:=nriP,y:=true }
theorem nriy_good:nriy.good Tryz.prog:=good_of_all (nrT_ok _ rfl) nriΓ_ok nriE_ok nriP_ok
theorem nriy_all:(∀ t,nriy.td t=(look nrT t).getD .other)∧nriy.y=true∧nriy.Γ=nriΓ∧nriy.E=nriE∧nriy.Pn=nriP∧nriy.fz=[]:=⟨fun _=>rfl,rfl,rfl,rfl,rfl,rfl⟩
theorem nriy_q:nriy.quiet=nri:=rfl
theorem back1_ok:ItOk Tryz.prog 203 itBack:=by
 refine itOkD (L:={ live:=[0,1,3,8,18] }) nriy_good rfl nr_mixed Tryz.func203 (enters_of Tryz.func203 (by kernel_rfl) rfl) rfl rfl itBack 1 (by decide) (by kernel_rfl) ?_
 intro caps l hpre hlens
 simp only [itBack] at hpre
 split at hpre
 ·
  rename_i xs
  obtain ⟨⟨hl,_⟩,_⟩:=hlens
  obtain ⟨xs,rfl⟩:∃ y:List Int,y=xs:=⟨xs,rfl⟩
  refine ⟨rfl,fun X hX => ?_⟩
  rw [itBack_xs]
  simp only [maxLen] at hl
  simp -dsimp -implicitDefEqProofs [Tryz.f203,nriy_q,nri_all,nriy_all,nrT,nriΓ,nriE,nriP,inI64]
  refine ⟨⟨by omega,by omega⟩,?_⟩
  refine WpD.loop (L:={ live:=[0,1,3,8,18] }) nriy_good hX nr_mixed (by kernel_rfl)
   (fun t:Nat=>⟨[(0,⟨true,.v (.s (.val (.func (.yield l) #[] #[])))⟩),(1,⟨true,.v (.s (.eptr (.slice tI) xs))⟩),(3,vI ((xs.length:Int) - 1 - t))],[.trace l (backL xs) t false]⟩)
   (fun t=>t≤xs.length) (fun t=>xs.length - t) 0 (by simp) (Turn.le (by simp -dsimp -implicitDefEqProofs)) ?_
  intro t ht
  rcases Nat.lt_or_ge t xs.length with hlt | hge
  ·
   have hg:=backL_get hlt
   have e1:((xs.length:Int) - 1 - t)=((xs.length - 1 - t:Nat):Int):=by omega
   have h2:xs.length - 1 - t<xs.length:=by omega
   have e2:((xs.length - 1 - t:Nat):Int) - 1=(xs.length:Int) - 1 - ((t+1:Nat):Int):=by omega
   simp -dsimp -implicitDefEqProofs [e1,hg,h2,nriy_q,nri_all,nriy_all,nrT,nriΓ,nriE,nriP,inI64]
   refine ⟨⟨by omega,by omega⟩,t+1,by omega,by omega,TurnT.le (by simp -dsimp -implicitDefEqProofs [e2])⟩
  ·
   obtain rfl:t=xs.length:=by omega
   simp -dsimp -implicitDefEqProofs [backL_len,nriy_q,nri_all,nriy_all,nrT,nriΓ,nriE,nriP,inI64]
   omega
 ·
  exact hpre.elim
def conBack:Con:=⟨fun args=>(match args with
 | [.s (.sl (.int .i64) m _)]=>True
 | _=>False),fun args=>match args with
 | [.s (.sl (.int .i64) m _)]=>.v (.s (.fnp 203 [⟨.slice tI,m⟩]))
 | _=>.v (.s .any)⟩
theorem conBack_eq (m:List (Ty.T tI)) (exm:Bool):conBack.pre [.s (.sl tI m exm)]=(True)∧conBack.val [.s (.sl tI m exm)]=.v (.s (.fnp 203 [⟨.slice tI,m⟩])):=⟨rfl,rfl⟩
theorem back_ok:PureOk Tryz.prog 180 conBack:=by
 refine pureOkD (L:={ live:=[0,1,2] }) nri_good rfl nr_mixed Tryz.func180 rfl conBack 1 (by decide) (by kernel_rfl) ?_
 intro args hpre hlens
 simp only [conBack] at hpre
 split at hpre
 case h_2=>exact hpre.elim
 rename_i m em
 simp only [allLen,AV.lenOk,SV.lenOk,Ty.lenOk,maxLen,and_true,implies_true,true_and,List.forall_mem_cons,List.not_mem_nil,false_implies] at hlens
 refine ⟨rfl,?_⟩
 simp -dsimp -implicitDefEqProofs [Tryz.f180,conBack_eq,nri_all,nrT,nriΓ,nriE,nriP,inI64]
 done
def nrjΓ:List (FuncId×Con):=(180,conBack)::nriΓ
theorem nrjΓ_ok:∀ p∈nrjΓ,(∀ (args:Array Value) (w:World),(callFunc p.1 args).run Tryz.prog w=.ok (.enter p.1 args) w)∧PureOk Tryz.prog p.1 p.2:=by
 simp only [nrjΓ,List.forall_mem_cons]
 exact ⟨⟨enters_of Tryz.func180 (by kernel_rfl) rfl,back_ok⟩,nriΓ_ok⟩
def nrjE:List (FuncId×ECon):=nriE
theorem nrjE_ok:∀ p∈nrjE,(∀ (args:Array Value) (w:World),(callFunc p.1 args).run Tryz.prog w=.ok (.enter p.1 args) w)∧EffOk Tryz.prog p.1 p.2:=by
 simp only [nrjE]
 exact nriE_ok
def nrjP:List (FuncId×PCon):=nriP
theorem nrjP_ok:∀ p∈nrjP,(∀ (args:Array Value) (w:World),(callFunc p.1 args).run Tryz.prog w=.ok (.enter p.1 args) w)∧PanOk Tryz.prog p.1 p.2:=by
 simp only [nrjP]
 exact nriP_ok
def nrj:G:={ τ:=nrT,Γ:=nrjΓ,E:=nrjE,Pn:=nrjP }
theorem nrj_good:nrj.good Tryz.prog:=good_of_all (nrT_ok _ rfl) nrjΓ_ok nrjE_ok nrjP_ok
theorem nrj_all:(∀ t,nrj.td t=(look nrT t).getD .other)∧nrj.y=false∧nrj.Γ=nrjΓ∧nrj.E=nrjE∧nrj.Pn=nrjP∧nrj.fz=[]:=⟨fun _=>rfl,rfl,rfl,rfl,rfl,rfl⟩
theorem down_ok:PureOk Tryz.prog 139 conBack:=by
 refine pureOkD (L:={ live:=[0,2] }) nrj_good rfl nr_mixed Tryz.func139 rfl conBack 1 (by decide) (by kernel_rfl) ?_
 intro args hpre hlens
 simp only [conBack] at hpre
 split at hpre
 case h_2=>exact hpre.elim
 rename_i m em
 simp only [allLen,AV.lenOk,SV.lenOk,Ty.lenOk,maxLen,and_true,implies_true,true_and,List.forall_mem_cons,List.not_mem_nil,false_implies] at hlens
 refine ⟨rfl,?_⟩
 simp -dsimp -implicitDefEqProofs [Tryz.f139,conBack_eq,nrj_all,nrT,nrjΓ,nrjE,nrjP,nriΓ,nriE,nriP,conBack_eq,inI64]
 done
def nr8Γ:List (FuncId×Con):=(139,conBack)::nr7Γ
theorem nr8Γ_ok:∀ p∈nr8Γ,(∀ (args:Array Value) (w:World),(callFunc p.1 args).run Tryz.prog w=.ok (.enter p.1 args) w)∧PureOk Tryz.prog p.1 p.2:=by
 simp only [nr8Γ,List.forall_mem_cons]
 exact ⟨⟨enters_of Tryz.func139 (by kernel_rfl) rfl,down_ok⟩,nr7Γ_ok⟩
def nr8E:List (FuncId×ECon):=nr7E
theorem nr8E_ok:∀ p∈nr8E,(∀ (args:Array Value) (w:World),(callFunc p.1 args).run Tryz.prog w=.ok (.enter p.1 args) w)∧EffOk Tryz.prog p.1 p.2:=by
 simp only [nr8E]
 exact nr7E_ok
def nr8P:List (FuncId×PCon):=nr7P
theorem nr8P_ok:∀ p∈nr8P,(∀ (args:Array Value) (w:World),(callFunc p.1 args).run Tryz.prog w=.ok (.enter p.1 args) w)∧PanOk Tryz.prog p.1 p.2:=by
 simp only [nr8P]
 exact nr7P_ok
def nr8:G:={ τ:=nrT,Γ:=nr8Γ,E:=nr8E,Pn:=nr8P }
theorem nr8_good:nr8.good Tryz.prog:=good_of_all (nrT_ok _ rfl) nr8Γ_ok nr8E_ok nr8P_ok
theorem nr8_all:(∀ t,nr8.td t=(look nrT t).getD .other)∧nr8.y=false∧nr8.Γ=nr8Γ∧nr8.E=nr8E∧nr8.Pn=nr8P∧nr8.fz=[]:=⟨fun _=>rfl,rfl,rfl,rfl,rfl,rfl⟩
def conNCmp:Con:=⟨fun args=>(match args with
 | [.s (.sl (.int .i64) a _),.s (.sl (.int .i64) b _)]=>canon a∧canon b
 | _=>False),fun args=>match args with
 | [.s (.sl (.int .i64) a _),.s (.sl (.int .i64) b _)]=>.v (aI (cmpN (vl a) (vl b)))
 | _=>.v (.s .any)⟩
theorem conNCmp_eq (a:List (Ty.T tI)) (exa:Bool) (b:List (Ty.T tI)) (exb:Bool):conNCmp.pre [.s (.sl tI a exa),.s (.sl tI b exb)]=(canon a∧canon b)∧conNCmp.val [.s (.sl tI a exa),.s (.sl tI b exb)]=.v (aI (cmpN (vl a) (vl b))):=⟨rfl,rfl⟩
theorem cmp_lens {a b:List Int} (ha:canon a) (hb:canon b) (h:¬ (a.length:Int)=b.length):cmpN (vl a) (vl b)=if b.length<a.length then 1 else -1:=by
 split
 ·
  rename_i h2; exact cmpN_gt (vl_len hb ha h2)
 ·
  exact cmpN_lt (vl_len ha hb (by omega))
theorem drop_eq_all {a b:List Int} (h:a.drop (a.length - a.length)=b.drop (a.length - a.length)):a=b:=by simpa using h
theorem ncmp_ok:PureOk Tryz.prog 111 conNCmp:=by
 refine pureOkD (L:={ live:=[0,1,3,4,5,6,11,22,23,24,25,32] }) nr8_good rfl nr_mixed Tryz.func111 rfl conNCmp 2 (by decide) (by kernel_rfl) ?_
 intro args hpre hlens
 simp only [conNCmp] at hpre
 split at hpre
 case h_2=>exact hpre.elim
 rename_i a ea b eb
 simp only [allLen,AV.lenOk,SV.lenOk,Ty.lenOk,maxLen,and_true,implies_true,true_and,List.forall_mem_cons,List.not_mem_nil,false_implies] at hlens
 refine ⟨rfl,?_⟩
 simp -dsimp -implicitDefEqProofs [Tryz.f111,conNCmp_eq,nr8_all,nrT,nr8Γ,nr8E,nr8P,nr7Γ,nr7E,nr7P,nr6Γ,nr6E,nr6P,nr5Γ,nr5E,nr5P,nr4Γ,nr4E,nr4P,nr3Γ,nr3E,nr3P,nr0Γ,nr0E,nr0P,conBack_eq,conOf9_eq,conDivide_eq,conTimes_eq,conLess9_eq,conTwo_eq,conTrim_eq,conAt_eq,conRCheck_eq,conRCmpD_eq,inI64]
 obtain ⟨a,rfl⟩:∃ y:List Int,y=a:=⟨a,rfl⟩; obtain ⟨b,rfl⟩:∃ y:List Int,y=b:=⟨b,rfl⟩
 obtain ⟨ha,hb⟩:=hpre
 refine ⟨fun hne => ?_,fun he => ?_⟩
 ·
  rw [cmp_lens ha hb hne]
  refine ⟨⟨by omega,by omega⟩,?_⟩
  split <;> rename_i h1
  ·
   have e1:(if (a.length:Int) - (b.length:Int)<1 then (a.length:Int) - (b.length:Int) else 1)=1:=by split <;> omega
   rw [e1]; omega
  ·
   exact ⟨⟨by omega,by omega⟩,⟨by omega,by omega⟩,by omega⟩
 have he:a.length=b.length:=by omega
 refine WpD.rangeFunc (L:={ live:=[0,1,3,4,5,6,11,22,23,24,25,32] }) (d:=⟨⟩) nr8_good nr_mixed rfl rfl 203 [⟨.slice tI,a⟩] (by simp -dsimp -implicitDefEqProofs) itBack back1_ok trivial (by decide) (by kernel_rfl) (by kernel_rfl) (by intro a b c d; simp -dsimp -implicitDefEqProofs)
  (fun t hp=>hp=[.cells [.sl tI b eb],.cells [.int .i64 0]]∧a.drop (a.length - t)=b.drop (a.length - t)) ⟨rfl,by rw [Nat.sub_zero,List.drop_eq_nil_of_le (Nat.le_refl _),List.drop_eq_nil_of_le (by omega)]⟩ ?_ ?_
 ·
  rintro t args hp hx ⟨rfl,hd⟩
  rw [List.map_singleton,show itBack.xs [capAV ⟨.slice tI,a⟩]=backL a from rfl] at hx
  have ht:t<a.length:=by
   obtain ⟨h1,_⟩:=List.getElem?_eq_some_iff.1 hx
   rwa [backL_len] at h1
  rw [backL_get ht] at hx
  injection hx with hx
  subst hx
  have hb2:a.length - 1 - t<b.length:=by omega
  have hk:a.length - t=a.length - 1 - t+1:=by omega
  have hk2:a.length - (t+1)=a.length - 1 - t:=by omega
  simp -dsimp -implicitDefEqProofs [hb2,conNCmp_eq,hk2,nr8_all,nrT,nr8Γ,nr8E,nr8P,nr7Γ,nr7E,nr7P,nr6Γ,nr6E,nr6P,nr5Γ,nr5E,nr5P,nr4Γ,nr4E,nr4P,nr3Γ,nr3E,nr3P,nr0Γ,nr0E,nr0P,conBack_eq,conOf9_eq,conDivide_eq,conTimes_eq,conLess9_eq,conTwo_eq,conTrim_eq,conAt_eq,conRCheck_eq,conRCmpD_eq,inI64]
  rw [hk] at hd
  have ha2:a.length - 1 - t<a.length:=by omega
  generalize a.length - 1 - t=i at *
  have eb:b[i]=b[i]?.getD 0:=by rw [List.getElem?_eq_getElem hb2]; rfl
  rw [eb]
  refine ⟨fun h=>(cmpN_lt (vl_less ha.1 hb.1 ha2 hb2 hd h)).symm,fun h1=>⟨fun h=>(cmpN_gt (vl_less hb.1 ha.1 hb2 ha2 hd.symm h)).symm,fun h=>⟨_,TrT.refl _ _,rfl,?_⟩⟩⟩
  rw [List.drop_eq_getElem_cons ha2,List.drop_eq_getElem_cons hb2,hd]
  congr 1
  rw [eb,← (show a[i]?.getD 0=a[i] by rw [List.getElem?_eq_getElem ha2]; rfl)]
  omega
 ·
  rintro hp ⟨rfl,hd⟩
  rw [List.map_singleton,show itBack.xs [capAV ⟨.slice tI,a⟩]=backL a from rfl,backL_len] at hd
  simp -dsimp -implicitDefEqProofs [conNCmp_eq,nr8_all,nrT,nr8Γ,nr8E,nr8P,nr7Γ,nr7E,nr7P,nr6Γ,nr6E,nr6P,nr5Γ,nr5E,nr5P,nr4Γ,nr4E,nr4P,nr3Γ,nr3E,nr3P,nr0Γ,nr0E,nr0P,conBack_eq,conOf9_eq,conDivide_eq,conTimes_eq,conLess9_eq,conTwo_eq,conTrim_eq,conAt_eq,conRCheck_eq,conRCmpD_eq,inI64]
  rw [drop_eq_all hd,cmpN_eq]
def nr9Γ:List (FuncId×Con):=(140,conTrim)::(187,conAt)::(111,conNCmp)::nr8Γ
theorem nr9Γ_ok:∀ p∈nr9Γ,(∀ (args:Array Value) (w:World),(callFunc p.1 args).run Tryz.prog w=.ok (.enter p.1 args) w)∧PureOk Tryz.prog p.1 p.2:=by
 simp only [nr9Γ,List.forall_mem_cons]
 exact ⟨⟨enters_of Tryz.func140 (by kernel_rfl) rfl,trim_ok⟩,⟨enters_of Tryz.func187 (by kernel_rfl) rfl,at_ok⟩,⟨enters_of Tryz.func111 (by kernel_rfl) rfl,ncmp_ok⟩,nr8Γ_ok⟩
def nr9E:List (FuncId×ECon):=nr8E
theorem nr9E_ok:∀ p∈nr9E,(∀ (args:Array Value) (w:World),(callFunc p.1 args).run Tryz.prog w=.ok (.enter p.1 args) w)∧EffOk Tryz.prog p.1 p.2:=by
 simp only [nr9E]
 exact nr8E_ok
def nr9P:List (FuncId×PCon):=nr8P
theorem nr9P_ok:∀ p∈nr9P,(∀ (args:Array Value) (w:World),(callFunc p.1 args).run Tryz.prog w=.ok (.enter p.1 args) w)∧PanOk Tryz.prog p.1 p.2:=by
 simp only [nr9P]
 exact nr8P_ok
def nr9:G:={ τ:=nrT,Γ:=nr9Γ,E:=nr9E,Pn:=nr9P }
theorem nr9_good:nr9.good Tryz.prog:=good_of_all (nrT_ok _ rfl) nr9Γ_ok nr9E_ok nr9P_ok
theorem nr9_all:(∀ t,nr9.td t=(look nrT t).getD .other)∧nr9.y=false∧nr9.Γ=nr9Γ∧nr9.E=nr9E∧nr9.Pn=nr9P∧nr9.fz=[]:=⟨fun _=>rfl,rfl,rfl,rfl,rfl,rfl⟩
theorem nmul_ok:PureOk Tryz.prog 149 conTimes:=by
 refine pureOkD (L:={ live:=[0,1,4,5,6,7,8,9,10,11,18,19,20,21,26,27,28,29,30],frz:=[(15,[5])] }) nr9_good rfl nr_mixed Tryz.func149 rfl conTimes 2 (by decide) (by kernel_rfl) ?_
 intro args hpre hlens
 simp only [conTimes] at hpre
 split at hpre
 case h_2=>exact hpre.elim
 rename_i a ea b eb
 simp only [allLen,AV.lenOk,SV.lenOk,Ty.lenOk,maxLen,and_true,implies_true,true_and,List.forall_mem_cons,List.not_mem_nil,false_implies] at hlens
 refine ⟨rfl,?_⟩
 simp -dsimp -implicitDefEqProofs [Tryz.f149,conTimes_eq,nr9_all,nrT,nr9Γ,nr9E,nr9P,nr8Γ,nr8E,nr8P,nr7Γ,nr7E,nr7P,nr6Γ,nr6E,nr6P,nr5Γ,nr5E,nr5P,nr4Γ,nr4E,nr4P,nr3Γ,nr3E,nr3P,nr0Γ,nr0E,nr0P,conTrim_eq,conAt_eq,conNCmp_eq,conBack_eq,conOf9_eq,conDivide_eq,conTimes_eq,conLess9_eq,conTwo_eq,conRCheck_eq,conRCmpD_eq,inI64]
 obtain ⟨a,rfl⟩:∃ y:List Int,y=a:=⟨a,rfl⟩; obtain ⟨b,rfl⟩:∃ y:List Int,y=b:=⟨b,rfl⟩
 obtain ⟨ha,hb,ha2,hb2⟩:=hpre
 have hn:((a.length:Int)+(b.length:Int)).toNat=a.length+b.length:=by omega
 refine ⟨⟨by omega,by omega⟩,⟨by omega,by omega,by omega⟩,?_⟩
 rw [hn]
 refine WpD.loop (L:={ live:=[0,1,4,5,6,7,8,9,10,11,18,19,20,21,26,27,28,29,30],frz:=[(15,[5])] }) nr9_good X0_ok nr_mixed (by kernel_rfl)
  (fun p:Nat×List Int=>⟨[(1,vS tI b eb),(5,⟨true,.v (.s (.own tI 0 (a.length+b.length)))⟩),(18,vS tI a ea),(19,vI a.length),(20,vI p.1)],[.arr true (tI.flats p.2)]⟩)
  (fun p=>p.1≤a.length∧p.2.length=a.length+b.length∧okD p.2∧vl p.2=vl (a.take p.1)*vl b∧∀ d∈p.2.drop (p.1+b.length),d=0) (fun p=>a.length - p.1) (0,List.replicate (a.length+b.length) 0)
  ⟨Nat.zero_le _,List.length_replicate,okD_rep _,by simp [vl_rep,vl],fun d hd=>List.eq_of_mem_replicate (List.mem_of_mem_drop hd)⟩ (Turn.le (by simp -dsimp -implicitDefEqProofs)) ?_
 rintro ⟨i,xs⟩ ⟨hi,hxl,hxo,hxv,hxz⟩
 simp only at hi hxl hxo hxv hxz
 rcases Nat.lt_or_ge i a.length with hil | hge
 ·
  have eai:a[i]=a[i]?.getD 0:=by rw [List.getElem?_eq_getElem hil]; rfl
  have hai:=okD_get ha hil
  simp -dsimp -implicitDefEqProofs [conTimes_eq,hil,nr9_all,nrT,nr9Γ,nr9E,nr9P,nr8Γ,nr8E,nr8P,nr7Γ,nr7E,nr7P,nr6Γ,nr6E,nr6P,nr5Γ,nr5E,nr5P,nr4Γ,nr4E,nr4P,nr3Γ,nr3E,nr3P,nr0Γ,nr0E,nr0P,conTrim_eq,conAt_eq,conNCmp_eq,conBack_eq,conOf9_eq,conDivide_eq,conTimes_eq,conLess9_eq,conTwo_eq,conRCheck_eq,conRCmpD_eq,inI64]
  rw [eai]
  refine ⟨fun h0=>⟨⟨by omega,by omega⟩,i+1,xs,⟨by omega,hxl,hxo,?_,?_⟩,by omega,TurnT.le (by simp -dsimp -implicitDefEqProofs)⟩,fun h0 => ?_⟩
  ·
   rw [vl_take_succ hil,h0,hxv]; simp
  ·
   intro d hd
   rw [show i+1+b.length=i+b.length+1 by omega,← List.drop_drop] at hd
   exact hxz d (List.mem_of_mem_drop hd)
  refine WpD.loop (L:={ live:=[0,1,4,5,6,7,8,9,10,11,18,19,20,21,26,27,28,29,30],frz:=[(15,[5])] }) nr9_good X0_ok nr_mixed (by kernel_rfl)
   (fun p:Nat×List Int×Int=>⟨[(1,vS tI b eb),(5,⟨true,.v (.s (.own tI 0 (a.length+b.length)))⟩),(6,vI i),(7,vI (a[i]?.getD 0)),(8,vI p.2.2),(18,vS tI a ea),(19,vI a.length),(20,vI i),(27,vS tI b eb),(28,vI b.length),(29,vI p.1)],[.arr true (tI.flats p.2.1)]⟩)
   (fun p=>p.1≤b.length∧p.2.1.length=a.length+b.length∧okD p.2.1∧(0≤p.2.2∧p.2.2≤1073741823)∧vl p.2.1+1073741824 ^ (i+p.1)*p.2.2.toNat=vl xs+1073741824 ^ i*((a[i]?.getD 0).toNat*vl (b.take p.1))∧p.2.1.drop (i+p.1)=xs.drop (i+p.1)) (fun p=>b.length - p.1) (0,xs,0)
   ⟨Nat.zero_le _,hxl,hxo,⟨Int.le_refl _,by show (0:Int)≤1073741823; decide⟩,by simp [vl],rfl⟩ (Turn.le (by simp -dsimp -implicitDefEqProofs)) ?_
  rintro ⟨k,ys,ov⟩ ⟨hk,hyl,hyo,hov,hyv,hyd⟩
  simp only at hk hyl hyo hov hyv hyd
  rcases Nat.lt_or_ge k b.length with hkl | hkl
  ·
   have e1:((i:Int)+(k:Int)).toNat=i+k:=by omega
   have hfl:=fl_at (xs:=ys) (j:=i+k) (by omega)
   obtain ⟨s1,s2,s3,s4,s5⟩:=mul_step (s:=ys[i+k]?.getD 0+a[i]?.getD 0*b[k]+ov) hyo (by omega) hkl hb hai hov hyv (by rw [List.getElem?_eq_getElem hkl]; rfl)
   simp -dsimp -implicitDefEqProofs [conTimes_eq,e1,hfl,hkl,nr9_all,nrT,nr9Γ,nr9E,nr9P,nr8Γ,nr8E,nr8P,nr7Γ,nr7E,nr7P,nr6Γ,nr6E,nr6P,nr5Γ,nr5E,nr5P,nr4Γ,nr4E,nr4P,nr3Γ,nr3E,nr3P,nr0Γ,nr0E,nr0P,conTrim_eq,conAt_eq,conNCmp_eq,conBack_eq,conOf9_eq,conDivide_eq,conTimes_eq,conLess9_eq,conTwo_eq,conRCheck_eq,conRCmpD_eq,inI64]
   have hm:=mul_range hai (okD_get hb hkl)
   rw [List.getElem?_eq_getElem hkl,Option.getD_some] at hm
   have hy:=okD_get hyo (i:=i+k) (by omega)
   rw [Int.fdiv_eq_ediv_of_nonneg _ (by decide),fl_set (by omega)]
   generalize ys[i+k]?.getD 0+a[i]?.getD 0*b[k]+ov=s at *
   refine ⟨⟨by omega,by omega⟩,⟨hyl,by omega,by omega⟩,⟨hyl,by omega⟩,⟨by omega,by omega⟩,⟨by omega,by omega⟩,⟨by omega,by omega⟩,⟨by omega,by omega⟩,by decide,⟨hyl,by omega,by omega⟩,⟨hyl,by omega⟩,⟨by omega,by omega⟩,
    k+1,ys.set (i+k) (s % 1073741824),s / 1073741824,⟨by omega,by rw [List.length_set]; exact hyl,s4,s2,s5,?_⟩,by omega,TurnT.le (by simp -dsimp -implicitDefEqProofs)⟩
   rw [← Nat.add_assoc,drop_set_succ]
   exact drop_eq_succ hyd
  ·
   have hkn:¬ k<b.length:=by omega
   obtain rfl:k=b.length:=by omega
   obtain ⟨r1,r2,r3⟩:=row_end hil hyl hyo ha hov hyv hyd hxz hxv
   have e1:((i:Int)+(b.length:Int)).toNat=i+b.length:=by omega
   simp -dsimp -implicitDefEqProofs [conTimes_eq,hkn,e1,nr9_all,nrT,nr9Γ,nr9E,nr9P,nr8Γ,nr8E,nr8P,nr7Γ,nr7E,nr7P,nr6Γ,nr6E,nr6P,nr5Γ,nr5E,nr5P,nr4Γ,nr4E,nr4P,nr3Γ,nr3E,nr3P,nr0Γ,nr0E,nr0P,conTrim_eq,conAt_eq,conNCmp_eq,conBack_eq,conOf9_eq,conDivide_eq,conTimes_eq,conLess9_eq,conTwo_eq,conRCheck_eq,conRCmpD_eq,inI64]
   rw [fl_set (by omega)]
   exact ⟨⟨by omega,by omega⟩,⟨hyl,by omega,by omega⟩,⟨hyl,by omega⟩,⟨by omega,by omega⟩,i+1,ys.set (i+b.length) ov,⟨by omega,by rw [List.length_set]; exact hyl,r1,r2,r3⟩,by omega,TurnT.le (by simp -dsimp -implicitDefEqProofs)⟩
 ·
  have hn:¬ i<a.length:=by omega
  simp -dsimp -implicitDefEqProofs [conTimes_eq,hn,nr9_all,nrT,nr9Γ,nr9E,nr9P,nr8Γ,nr8E,nr8P,nr7Γ,nr7E,nr7P,nr6Γ,nr6E,nr6P,nr5Γ,nr5E,nr5P,nr4Γ,nr4E,nr4P,nr3Γ,nr3E,nr3P,nr0Γ,nr0E,nr0P,conTrim_eq,conAt_eq,conNCmp_eq,conBack_eq,conOf9_eq,conDivide_eq,conTimes_eq,conLess9_eq,conTwo_eq,conRCheck_eq,conRCmpD_eq,inI64]
  obtain rfl:i=a.length:=by omega
  refine ⟨xs,rfl,hxl.symm,?_⟩
  rw [← dig_vl hxo,hxv,List.take_of_length_le (Nat.le_refl _)]
theorem back_round {a:List Int} {t:Nat} {args:List AV} (hx:(itBack.xs (List.map capAV [(⟨.slice tI,a⟩:Sigma Ty.T)]))[t]?=some args):t<a.length∧args=[aI (((a.length - 1 - t:Nat)):Int),aI (a[a.length - 1 - t]?.getD 0)]:=by
 rw [List.map_singleton,show itBack.xs [capAV ⟨.slice tI,a⟩]=backL a from rfl] at hx
 have ht:t<a.length:=by
  obtain ⟨h1,_⟩:=List.getElem?_eq_some_iff.1 hx
  rwa [backL_len] at h1
 rw [backL_get ht] at hx
 injection hx with hx
 exact ⟨ht,hx.symm⟩
theorem back_end (a:List Int):(itBack.xs (List.map capAV [(⟨.slice tI,a⟩:Sigma Ty.T)])).length=a.length:=by
 rw [List.map_singleton,show itBack.xs [capAV ⟨.slice tI,a⟩]=backL a from rfl,backL_len]
theorem short_mul {r d:Nat} {x:Int} (hx:0≤x∧x≤1073741823) (h:r<d):(x.toNat+1073741824*r) / d≤1073741823:=by
 have h1:x.toNat+1073741824*r<d*1073741824:=by omega
 have:=Nat.div_lt_of_lt_mul h1
 omega
def conShort:Con:=⟨fun args=>(match args with
 | [.s (.sl (.int .i64) a _),.s (.int .i64 d)]=>okD a∧(1≤d∧d≤1073741824)∧a.length≤8192
 | _=>False),fun args=>match args with
 | [.s (.sl (.int .i64) a _),.s (.int _ d)]=>.tup [aS tI (dig (vl a / d.toNat)) false,aI ((vl a % d.toNat:Nat):Int)]
 | _=>.v (.s .any)⟩
theorem conShort_eq (a:List (Ty.T tI)) (exa:Bool) (d:Int):conShort.pre [.s (.sl tI a exa),.s (.int .i64 d)]=(okD a∧(1≤d∧d≤1073741824)∧a.length≤8192)∧conShort.val [.s (.sl tI a exa),.s (.int .i64 d)]=.tup [aS tI (dig (vl a / d.toNat)) false,aI ((vl a % d.toNat:Nat):Int)]:=⟨rfl,rfl⟩
theorem short_ok:PureOk Tryz.prog 91 conShort:=by
 refine pureOkD (L:={ live:=[0,1,3,4,5,6,7,12,13,14],frz:=[(7,[4])],fl:=[(6,[(0,0),(2,0),(3,0),(5,0),(5,10),(6,0),(6,10),(8,0)]),(7,[(0,0),(2,0),(2,4)])] }) nr9_good rfl nr_mixed Tryz.func91 rfl conShort 2 (by decide) (by kernel_rfl) ?_
 intro args hpre hlens
 simp only [conShort] at hpre
 split at hpre
 case h_2=>exact hpre.elim
 rename_i a ea d
 simp only [allLen,AV.lenOk,SV.lenOk,Ty.lenOk,maxLen,and_true,implies_true,true_and,List.forall_mem_cons,List.not_mem_nil,false_implies] at hlens
 refine ⟨rfl,?_⟩
 simp -dsimp -implicitDefEqProofs [Tryz.f91,conShort_eq,nr9_all,nrT,nr9Γ,nr9E,nr9P,nr8Γ,nr8E,nr8P,nr7Γ,nr7E,nr7P,nr6Γ,nr6E,nr6P,nr5Γ,nr5E,nr5P,nr4Γ,nr4E,nr4P,nr3Γ,nr3E,nr3P,nr0Γ,nr0E,nr0P,conTrim_eq,conAt_eq,conNCmp_eq,conBack_eq,conOf9_eq,conDivide_eq,conTimes_eq,conLess9_eq,conTwo_eq,conRCheck_eq,conRCmpD_eq,inI64]
 obtain ⟨a,rfl⟩:∃ y:List Int,y=a:=⟨a,rfl⟩
 obtain ⟨ha,hd,hal⟩:=hpre
 obtain ⟨D,rfl⟩:∃ D:Nat,d=D:=⟨d.toNat,by omega⟩
 have hmx:8192≤maxLen:=by simp only [maxLen]; omega
 refine ⟨by omega,?_⟩
 refine WpD.rangeFunc (L:={ live:=[0,1,3,4,5,6,7,12,13,14],frz:=[(7,[4])],fl:=[(6,[(0,0),(2,0),(3,0),(5,0),(5,10),(6,0),(6,10),(8,0)]),(7,[(0,0),(2,0),(2,4)])] }) (d:=⟨⟩) nr9_good nr_mixed rfl rfl 203 [⟨.slice tI,a⟩] (by simp -dsimp -implicitDefEqProofs) itBack back1_ok trivial (by decide) (by kernel_rfl) (by kernel_rfl) (by intro a b c d; simp -dsimp -implicitDefEqProofs)
  (fun t hp=>∃ q:List Int,∃ r:Nat,hp=[.cells [.int .i64 D],.cells [.own tI 3 a.length],.cells [.int .i64 r],.arr true (tI.flats q)]∧q.length=a.length∧okD q∧(∀ d∈q.take (a.length - t),d=0)∧vl (a.drop (a.length - t))=vl (q.drop (a.length - t))*D+r∧r<D) ?_ ?_ ?_
 ·
  exact ⟨List.replicate a.length 0,0,rfl,List.length_replicate,okD_rep _,fun d hd=>List.eq_of_mem_replicate (List.mem_of_mem_take hd),by rw [Nat.sub_zero,List.drop_eq_nil_of_le (Nat.le_refl _),List.drop_eq_nil_of_le (by rw [List.length_replicate]; exact Nat.le_refl _)]; simp [vl],by omega⟩
 ·
  rintro t args hp hx ⟨q,r,rfl,hql,hqo,hqz,hqv,hr⟩
  obtain ⟨ht,rfl⟩:=back_round hx
  have hk:a.length - t=a.length - 1 - t+1:=by omega
  have hk2:a.length - (t+1)=a.length - 1 - t:=by omega
  rw [hk2]
  rw [hk] at hqz hqv
  have hkl:a.length - 1 - t<a.length:=by omega
  generalize a.length - 1 - t=k at *
  have hak:=okD_get ha hkl
  obtain ⟨x,hx⟩:∃ x:Nat,(a[k]?.getD 0)=x:=⟨(a[k]?.getD 0).toNat,by omega⟩
  have hrow:=div_row (vb:=D) (lo:=(x+1073741824*r) / D) hkl hql hqo hqz hqv
  have hsm:=short_mul hak hr
  have hx2:(a[k]?.getD 0).toNat=x:=by omega
  rw [hx2] at hrow hsm
  have hle:=Nat.div_mul_le_self (x+1073741824*r) D
  obtain ⟨r1,r2,r3⟩:=hrow hsm hle
  have e1:(r:Int)*1073741824+(x:Int)=((x+1073741824*r:Nat):Int):=by omega
  have e2:((x+1073741824*r:Nat):Int).tdiv (D:Int)=((x+1073741824*r) / D:Nat):=Int.ofNat_tdiv _ _
  have e3:((x+1073741824*r:Nat):Int).tmod (D:Int)=((x+1073741824*r) % D:Nat):=Int.ofNat_tmod _ _
  have e4:x+1073741824*r - (x+1073741824*r) / D*D=(x+1073741824*r) % D:=by rw [Nat.mod_eq_sub,Nat.mul_comm D]
  rw [e4] at r3
  have hmod:=Nat.mod_lt (x+1073741824*r) (show D>0 by omega)
  simp -dsimp -implicitDefEqProofs [conShort_eq,nr9_all,nrT,nr9Γ,nr9E,nr9P,nr8Γ,nr8E,nr8P,nr7Γ,nr7E,nr7P,nr6Γ,nr6E,nr6P,nr5Γ,nr5E,nr5P,nr4Γ,nr4E,nr4P,nr3Γ,nr3E,nr3P,nr0Γ,nr0E,nr0P,conTrim_eq,conAt_eq,conNCmp_eq,conBack_eq,conOf9_eq,conDivide_eq,conTimes_eq,conLess9_eq,conTwo_eq,conRCheck_eq,conRCmpD_eq,inI64]
  rw [hx,e1,e2,e3,fl_set (by omega)]
  clear e2 e3 e4 hrow hle
  generalize (x+1073741824*r) / D=Q at *
  exact ⟨⟨by decide,by omega,by omega⟩,⟨by omega,by omega,by omega,by omega⟩,⟨⟨by omega,by omega,by omega⟩,by omega,⟨hql,hkl⟩,⟨hql,by omega⟩,_,TrT.refl _ _,q.set k _,_,rfl,by rw [List.length_set]; exact hql,r1,r2,r3,hmod⟩,hql,hkl⟩
 ·
  rintro hp ⟨q,r,rfl,hql,hqo,hqz,hqv,hr⟩
  rw [back_end,Nat.sub_self,List.drop_zero,List.drop_zero] at hqv
  simp -dsimp -implicitDefEqProofs [conShort_eq,nr9_all,nrT,nr9Γ,nr9E,nr9P,nr8Γ,nr8E,nr8P,nr7Γ,nr7E,nr7P,nr6Γ,nr6E,nr6P,nr5Γ,nr5E,nr5P,nr4Γ,nr4E,nr4P,nr3Γ,nr3E,nr3P,nr0Γ,nr0E,nr0P,conTrim_eq,conAt_eq,conNCmp_eq,conBack_eq,conOf9_eq,conDivide_eq,conTimes_eq,conLess9_eq,conTwo_eq,conRCheck_eq,conRCmpD_eq,inI64]
  obtain ⟨d1,d2⟩:=(Nat.div_mod_unique (show 0<D by omega) (a:=vl a) (c:=r) (d:=vl q)).2 ⟨by rw [hqv,Nat.mul_comm,Nat.add_comm],hr⟩
  refine ⟨q,rfl,hql.symm,by rw [d1,dig_vl hqo],by omega⟩
theorem carry_ring {p v o a K x s:Nat} (h:v+p*o=a*K) (hs:s=x*K+o):v+p*(s % 1073741824)+p*1073741824*(s / 1073741824)=(a+p*x)*K:=by
 have h1:p*(s % 1073741824)+p*1073741824*(s / 1073741824)=p*s:=by
  rw [Nat.mul_assoc,← Nat.mul_add]
  congr 1
  omega
 have h2:(a+p*x)*K=a*K+p*(x*K):=by rw [Nat.add_mul,Nat.mul_assoc]
 rw [Nat.add_assoc,h1,h2,← h,hs,Nat.mul_add]
 omega
theorem vl_take_any (xs:List Int) (i:Nat):vl (xs.take (i+1))=vl (xs.take i)+1073741824 ^ i*(xs[i]?.getD 0).toNat:=by
 rcases Nat.lt_or_ge i xs.length with h | h
 ·
  exact vl_take_succ h
 ·
  rw [List.getElem?_eq_none h,List.take_of_length_le (by omega),List.take_of_length_le (by omega),Option.getD_none,Int.toNat_zero,Nat.mul_zero,Nat.add_zero]
theorem okD_getD {xs:List Int} (h:okD xs) (i:Nat):0≤xs[i]?.getD 0∧xs[i]?.getD 0≤1073741823:=by
 rcases Nat.lt_or_ge i xs.length with h1 | h1
 ·
  exact okD_get h h1
 ·
  rw [List.getElem?_eq_none h1,Option.getD_none]; omega
theorem carry_le {x K ov:Nat} (hx:x≤1073741823) (hK:K≤536870912) (ho:ov≤1073741823):x*K+ov≤576460752303423487+536870913:=by
 have:=Nat.mul_le_mul hx hK
 omega
theorem carry_step {m xs:List Int} {i K ov:Nat} {s:Nat} (hm:okD m) (hK:K≤536870912) (hi:i<xs.length) (ho:okD xs) (hov:ov≤1073741823) (hv:vl (xs.take i)+1073741824 ^ i*ov=vl (m.take i)*K)
  (hs:s=(m[i]?.getD 0).toNat*K+ov):okD (xs.set i ((s % 1073741824:Nat):Int))∧vl ((xs.set i ((s % 1073741824:Nat):Int)).take (i+1))+1073741824 ^ (i+1)*(s / 1073741824)=vl (m.take (i+1))*K ∧
   s / 1073741824≤1073741823∧s≤576460752303423487+536870913∧(m.length≤i→s / 1073741824=0):=by
 have hx:=okD_getD hm i
 have h1:=carry_le (x:=(m[i]?.getD 0).toNat) (by omega) hK hov
 rw [← hs] at h1
 refine ⟨okD_set ho (by omega),?_,by omega,h1,fun hl => ?_⟩
 ·
  rw [vl_take_succ (by rw [List.length_set]; exact hi),List.take_set_of_le (Nat.le_refl _),List.getElem?_set_self hi,Option.getD_some,Int.toNat_natCast,vl_take_any,Nat.pow_succ]
  exact carry_ring hv hs
 ·
  rw [List.getElem?_eq_none hl,Option.getD_none,Int.toNat_zero,Nat.zero_mul,Nat.zero_add] at hs
  omega
def conTrimE:ECon:={ wp:=fun args hp K=>match args,hp with
 | [.s (.own (.int .i64) 0 n)],[.arr true cs]=>∃ xs:List Int,(cs=tI.flats xs∧n=xs.length∧xs.length≤1000000)∧K (.v (.s (.pre tI 0 n (trimL xs).length))) [.arr true (tI.flats xs)]
 | _,_=>False }
theorem trimE_ok:EffOk Tryz.prog 140 conTrimE:=by
 refine effOkD (L:={ live:=[0,2,3,15] }) nr0_good rfl nr_mixed Tryz.func140 rfl conTrimE 1 (by decide) (by kernel_rfl) ?_
 intro args hp K hpre hlens
 simp only [conTrimE] at hpre
 split at hpre
 case h_2=>exact hpre.elim
 rename_i n cs
 obtain ⟨xs,⟨rfl,rfl,hxl⟩,hK⟩:=hpre
 refine ⟨rfl,?_⟩
 simp -dsimp -implicitDefEqProofs [Tryz.f140,nr0_all,nrT,nr0Γ,nr0E,nr0P,inI64]
 obtain ⟨xs,rfl⟩:∃ y:List Int,y=xs:=⟨xs,rfl⟩
 refine WpD.loop (L:={ live:=[0,2,3,15] }) nr0_good X0_ok nr_mixed (by kernel_rfl)
  (fun n:Nat=>⟨[(0,⟨true,.v (.s (.own tI 0 xs.length))⟩),(2,vS tI [] true),(3,vI n)],[.arr true (tI.flats xs)]⟩)
  (fun n=>n≤xs.length∧∀ d∈xs.drop n,d=0) (fun n=>n) xs.length ⟨Nat.le_refl _,by rw [List.drop_eq_nil_of_le (Nat.le_refl _)]; intro d hd; cases hd⟩ (Turn.le (by simp -dsimp -implicitDefEqProofs)) ?_
 rintro n ⟨hn,hd⟩
 rcases Nat.lt_or_ge 0 n with h0 | h0
 ·
  have hfl:=fl_at (xs:=xs) (j:=n - 1) (by omega)
  have e1:((n:Int) - 1).toNat=n - 1:=by omega
  simp -dsimp -implicitDefEqProofs [e1,hfl,nr0_all,nrT,nr0Γ,nr0E,nr0P,inI64]
  refine ⟨fun _=>⟨h0,by omega,by omega⟩,fun _=>⟨h0,by omega,by omega⟩,fun _=>⟨h0,by omega⟩,fun _ hz => ?_,fun hz=>⟨hn,?_⟩⟩
  ·
   obtain ⟨k,rfl⟩:∃ k,n=k+1:=⟨n - 1,by omega⟩
   have e:((k+1:Nat):Int) - 1=(k:Int):=by omega
   refine ⟨⟨by omega,by omega⟩,k,⟨by omega,fun d hd2 => ?_⟩,by omega,TurnT.le (by simp -dsimp -implicitDefEqProofs [e])⟩
   rw [List.drop_eq_getElem_cons (by omega)] at hd2
   rw [Nat.add_sub_cancel,List.getElem?_eq_getElem (by omega)] at hz
   rcases List.mem_cons.1 hd2 with rfl | hd2
   ·
    exact hz
   ·
    exact hd d hd2
  ·
   have:=take_trim hn hd hz
   rw [← this,List.length_take,Nat.min_eq_left hn] at hK
   exact hK
 ·
  obtain rfl:n=0:=by omega
  have:=take_trim hn hd (fun h=>by omega)
  rw [← this,List.length_take,Nat.min_eq_left hn] at hK
  rcases xs with _ | ⟨x,xs⟩
  ·
   simp -dsimp -implicitDefEqProofs [nr0_all,nrT,nr0Γ,nr0E,nr0P,inI64]
   exact hK
  ·
   have hc:tI.flats (x::xs)=SV.int .i64 x::tI.flats xs:=rfl
   rw [hc] at hK ⊢
   simp -dsimp -implicitDefEqProofs [nr0_all,nrT,nr0Γ,nr0E,nr0P,inI64]
   exact ⟨by omega,hK⟩
def conMovD:Con:=⟨fun args=>(match args with
 | [.s (.int .i64 i),.s (.eptr (.slice (.int .i64)) m),.s (.eptr (.int .i64) k)]=>0≤i∧okD m∧0≤k∧k≤29
 | _=>False),fun args=>match args with
 | [.s (.int _ i),.s (.eptr (.slice (.int .i64)) m),.s (.eptr (.int .i64) k)]=>.v (aI (m[i.toNat]?.getD 0*2 ^ k.toNat))
 | _=>.v (.s .any)⟩
theorem conMovD_eq (i:Int) (m:Ty.T (.slice tI)) (k:Ty.T tI):conMovD.pre [.s (.int .i64 i),.s (.eptr (.slice tI) m),.s (.eptr tI k)]=(0≤i∧okD m∧0≤k∧k≤29)∧conMovD.val [.s (.int .i64 i),.s (.eptr (.slice tI) m),.s (.eptr tI k)]=.v (aI (m[i.toNat]?.getD 0*2 ^ k.toNat)):=⟨rfl,rfl⟩
theorem pow2_le {k:Int} (h0:0≤k) (h:k≤29):2 ^ k.toNat≤536870912∧1≤2 ^ k.toNat:=by
 have h1:2 ^ k.toNat≤2 ^ 29:=Nat.pow_le_pow_right (by decide) (by omega)
 have h2:2 ^ 0≤2 ^ k.toNat:=Nat.pow_le_pow_right (by decide) (by omega)
 exact ⟨h1,h2⟩
theorem shl_nat {x k:Int} (hx:0≤x):x*2 ^ k.toNat=((x.toNat*2 ^ k.toNat:Nat):Int):=by
 rw [Int.natCast_mul,Int.natCast_pow,Int.toNat_of_nonneg hx]; rfl
theorem movd_ok:PureOk Tryz.prog 216 conMovD:=by
 refine pureOkD (L:={ live:=[0,1,2,4] }) nr9_good rfl nr_mixed Tryz.func216 rfl conMovD 3 (by decide) (by kernel_rfl) ?_
 intro args hpre hlens
 simp only [conMovD] at hpre
 split at hpre
 case h_2=>exact hpre.elim
 rename_i i m0 k0
 simp only [allLen,AV.lenOk,SV.lenOk,Ty.lenOk,maxLen,and_true,implies_true,true_and,List.forall_mem_cons,List.not_mem_nil,false_implies] at hlens
 refine ⟨rfl,?_⟩
 simp -dsimp -implicitDefEqProofs [Tryz.f216,conMovD_eq,nr9_all,nrT,nr9Γ,nr9E,nr9P,nr8Γ,nr8E,nr8P,nr7Γ,nr7E,nr7P,nr6Γ,nr6E,nr6P,nr5Γ,nr5E,nr5P,nr4Γ,nr4E,nr4P,nr3Γ,nr3E,nr3P,nr0Γ,nr0E,nr0P,conTrim_eq,conAt_eq,conNCmp_eq,conBack_eq,conOf9_eq,conDivide_eq,conTimes_eq,conLess9_eq,conTwo_eq,conRCheck_eq,conRCmpD_eq,inI64]
 obtain ⟨m,hm'⟩:∃ m':List Int,m'=m0:=⟨m0,rfl⟩
 subst hm'
 obtain ⟨k,hk'⟩:∃ k':Int,k'=k0:=⟨k0,rfl⟩
 subst hk'
 obtain ⟨hi,hm,hk0,hk⟩:=hpre
 have hk0:0≤(k:Int):=hk0
 have hk:k≤(29:Int):=hk
 have h1:=okD_getD hm i.toNat
 have h2:=pow2_le hk0 hk
 have h3:=carry_le (x:=(m[i.toNat]?.getD 0).toNat) (ov:=0) (by omega) h2.1 (by omega)
 rw [shl_nat h1.1]
 generalize (m[i.toNat]?.getD 0).toNat*2 ^ k.toNat=z at *
 exact ⟨hi,⟨hk0,by omega,.inr (by show k<64; omega)⟩,by omega,by omega⟩
def nr10Γ:List (FuncId×Con):=(216,conMovD)::nr0Γ
theorem nr10Γ_ok:∀ p∈nr10Γ,(∀ (args:Array Value) (w:World),(callFunc p.1 args).run Tryz.prog w=.ok (.enter p.1 args) w)∧PureOk Tryz.prog p.1 p.2:=by
 simp only [nr10Γ,List.forall_mem_cons]
 exact ⟨⟨enters_of Tryz.func216 (by kernel_rfl) rfl,movd_ok⟩,nr0Γ_ok⟩
def nr10E:List (FuncId×ECon):=(140,conTrimE)::nr0E
theorem nr10E_ok:∀ p∈nr10E,(∀ (args:Array Value) (w:World),(callFunc p.1 args).run Tryz.prog w=.ok (.enter p.1 args) w)∧EffOk Tryz.prog p.1 p.2:=by
 simp only [nr10E,List.forall_mem_cons]
 exact ⟨⟨enters_of Tryz.func140 (by kernel_rfl) rfl,trimE_ok⟩,nr0E_ok⟩
def nr10P:List (FuncId×PCon):=nr0P
theorem nr10P_ok:∀ p∈nr10P,(∀ (args:Array Value) (w:World),(callFunc p.1 args).run Tryz.prog w=.ok (.enter p.1 args) w)∧PanOk Tryz.prog p.1 p.2:=by
 simp only [nr10P]
 exact nr0P_ok
def nr10:G:={ τ:=nrT,Γ:=nr10Γ,E:=nr10E,Pn:=nr10P }
theorem nr10_good:nr10.good Tryz.prog:=good_of_all (nrT_ok _ rfl) nr10Γ_ok nr10E_ok nr10P_ok
theorem nr10_all:(∀ t,nr10.td t=(look nrT t).getD .other)∧nr10.y=false∧nr10.Γ=nr10Γ∧nr10.E=nr10E∧nr10.Pn=nr10P∧nr10.fz=[]:=⟨fun _=>rfl,rfl,rfl,rfl,rfl,rfl⟩
def conCarE:ECon:={ wp:=fun args hp K=>match args,hp with
 | [.s (.int .i64 n),.s (.fnp f [⟨.slice (.int .i64),m⟩,⟨.int .i64,k⟩])],[]=>(f=216∧okD m∧0≤k∧k≤29∧n=m.length+1∧m.length≤100000)∧∀ xs:List Int,okD xs→xs.length=m.length+1→vl xs=vl m*2 ^ k.toNat→K (.v (.s (.pre tI 0 xs.length (trimL xs).length))) [.arr true (tI.flats xs)]
 | _,_=>False }
theorem carE_ok:EffOk Tryz.prog 185 conCarE:=by
 refine effOkD (L:={ live:=[0,1,4,5,6,7,8,12,13,14] }) nr10_good rfl nr_mixed Tryz.func185 rfl conCarE 2 (by decide) (by kernel_rfl) ?_
 intro args hp K hpre hlens
 simp only [conCarE] at hpre
 split at hpre
 case h_2=>exact hpre.elim
 rename_i n f m0 k0
 obtain ⟨⟨rfl,hm,hk0,hk,rfl,hml⟩,hK⟩:=hpre
 refine ⟨rfl,?_⟩
 simp -dsimp -implicitDefEqProofs [Tryz.f185,nr10_all,nrT,nr10Γ,nr10E,nr10P,nr0Γ,nr0E,nr0P,conMovD_eq,conTrimE,inI64]
 obtain ⟨m,hm'⟩:∃ m':List Int,m'=m0:=⟨m0,rfl⟩
 subst hm'
 obtain ⟨k,hk'⟩:∃ k':Int,k'=k0:=⟨k0,rfl⟩
 subst hk'
 have h2:=pow2_le hk0 hk
 refine ⟨⟨by omega,by omega,by omega⟩,?_⟩
 refine WpD.loop (L:={ live:=[0,1,4,5,6,7,8,12,13,14] }) nr10_good X0_ok nr_mixed (by kernel_rfl)
  (fun p:Nat×List Int×Nat=>⟨[(1,⟨true,.v (.s (.fnp 216 [⟨.slice tI,m⟩,⟨.int .i64,k⟩]))⟩),(5,⟨true,.v (.s (.own tI 0 (m.length+1)))⟩),(6,vI p.2.2),(12,vI ((m.length:Int)+1)),(13,vI p.1)],[.arr true (tI.flats p.2.1)]⟩)
  (fun p=>p.1≤m.length+1∧p.2.1.length=m.length+1∧okD p.2.1∧p.2.2≤1073741823∧vl (p.2.1.take p.1)+1073741824 ^ p.1*p.2.2=vl (m.take p.1)*2 ^ k.toNat∧(p.1=m.length+1→p.2.2=0)) (fun p=>m.length+1 - p.1) (0,List.replicate (m.length+1) 0,0)
  ⟨Nat.zero_le _,List.length_replicate,okD_rep _,Nat.zero_le _,by simp [vl],fun h=>by omega⟩ (Turn.le (by simp -dsimp -implicitDefEqProofs)) ?_
 rintro ⟨i,xs,ov⟩ ⟨hi,hxl,hxo,hov,hv,hend⟩
 simp only at hi hxl hxo hov hv hend
 rcases Nat.lt_or_ge i (m.length+1) with hil | hge
 ·
  obtain ⟨s1,s2,s3,s4,s5⟩:=carry_step (s:=(m[i]?.getD 0).toNat*2 ^ k.toNat+ov) hm h2.1 (by omega) hxo hov hv rfl
  have hmi:=okD_getD hm i
  have hs:m[i]?.getD 0*2 ^ k.toNat+(ov:Int)=(((m[i]?.getD 0).toNat*2 ^ k.toNat+ov:Nat):Int):=by rw [shl_nat hmi.1]; omega
  simp -dsimp -implicitDefEqProofs [nr10_all,nrT,nr10Γ,nr10E,nr10P,nr0Γ,nr0E,nr0P,conMovD_eq,conTrimE,inI64]
  rw [hs,Int.fdiv_eq_ediv_of_nonneg _ (by decide)]
  generalize (m[i]?.getD 0).toNat*2 ^ k.toNat+ov=s at *
  have e1:(s:Int) / 1073741824=((s / 1073741824:Nat):Int):=by omega
  have e2:(s:Int) % 1073741824=((s % 1073741824:Nat):Int):=by omega
  rw [e1,e2,fl_set (by omega)]
  refine ⟨fun _=>⟨⟨hm,hk0,hk⟩,⟨by omega,by omega⟩,by decide,⟨hxl,by omega⟩,⟨hxl,by omega⟩,⟨by omega,by omega⟩,i+1,xs.set i _,s / 1073741824,⟨by omega,by rw [List.length_set]; exact hxl,s1,s3,s2,fun h=>s5 (by omega)⟩,by omega,TurnT.le (by simp -dsimp -implicitDefEqProofs)⟩,fun h=>by omega⟩
 ·
  obtain rfl:i=m.length+1:=by omega
  obtain rfl:=hend rfl
  simp -dsimp -implicitDefEqProofs [nr10_all,nrT,nr10Γ,nr10E,nr10P,nr0Γ,nr0E,nr0P,conMovD_eq,conTrimE,inI64]
  refine ⟨xs,⟨rfl,hxl.symm,by omega⟩,?_⟩
  rw [← hxl]
  refine hK xs hxo hxl ?_
  rw [List.take_of_length_le (by omega),List.take_of_length_le (by omega),Nat.mul_zero,Nat.add_zero] at hv
  exact hv
def conMovE:ECon:={ wp:=fun args hp K=>match args,hp with
 | [.s (.sl (.int .i64) m _),.s (.int .i64 k)],[]=>(okD m∧0≤k∧k≤29∧m.length≤100000)∧∀ xs:List Int,okD xs→xs.length=m.length+1→vl xs=vl m*2 ^ k.toNat→K (.v (.s (.pre tI 0 xs.length (trimL xs).length))) [.arr true (tI.flats xs)]
 | _,_=>False }
def nr11Γ:List (FuncId×Con):=nr10Γ
theorem nr11Γ_ok:∀ p∈nr11Γ,(∀ (args:Array Value) (w:World),(callFunc p.1 args).run Tryz.prog w=.ok (.enter p.1 args) w)∧PureOk Tryz.prog p.1 p.2:=by
 simp only [nr11Γ]
 exact nr10Γ_ok
def nr11E:List (FuncId×ECon):=(185,conCarE)::nr10E
theorem nr11E_ok:∀ p∈nr11E,(∀ (args:Array Value) (w:World),(callFunc p.1 args).run Tryz.prog w=.ok (.enter p.1 args) w)∧EffOk Tryz.prog p.1 p.2:=by
 simp only [nr11E,List.forall_mem_cons]
 exact ⟨⟨enters_of Tryz.func185 (by kernel_rfl) rfl,carE_ok⟩,nr10E_ok⟩
def nr11P:List (FuncId×PCon):=nr10P
theorem nr11P_ok:∀ p∈nr11P,(∀ (args:Array Value) (w:World),(callFunc p.1 args).run Tryz.prog w=.ok (.enter p.1 args) w)∧PanOk Tryz.prog p.1 p.2:=by
 simp only [nr11P]
 exact nr10P_ok
def nr11:G:={ τ:=nrT,Γ:=nr11Γ,E:=nr11E,Pn:=nr11P }
theorem nr11_good:nr11.good Tryz.prog:=good_of_all (nrT_ok _ rfl) nr11Γ_ok nr11E_ok nr11P_ok
theorem nr11_all:(∀ t,nr11.td t=(look nrT t).getD .other)∧nr11.y=false∧nr11.Γ=nr11Γ∧nr11.E=nr11E∧nr11.Pn=nr11P∧nr11.fz=[]:=⟨fun _=>rfl,rfl,rfl,rfl,rfl,rfl⟩
theorem movE_ok:EffOk Tryz.prog 207 conMovE:=by
 refine effOkD (L:={ live:=[0,1,2,3,4],eps:=[(1,[2,3])] }) nr11_good rfl nr_mixed Tryz.func207 rfl conMovE 2 (by decide) (by kernel_rfl) ?_
 intro args hp K hpre hlens
 simp only [conMovE] at hpre
 split at hpre
 case h_2=>exact hpre.elim
 rename_i m0 em k
 obtain ⟨⟨hm,hk0,hk,hml⟩,hK⟩:=hpre
 refine ⟨rfl,?_⟩
 simp -dsimp -implicitDefEqProofs [Tryz.f207,nr11_all,nrT,nr11Γ,nr11E,nr11P,nr10Γ,nr10E,nr10P,nr0Γ,nr0E,nr0P,conCarE,conMovD_eq,conTrimE,inI64]
 exact ⟨⟨by omega,by omega⟩,⟨hm,hk0,hk,hml⟩,hK⟩
def lenN (x:Nat):Nat:=if x=0 then 0 else Nat.log2 x+1
theorem lenN_div {x k:Nat} (h:2 ^ k≤x):lenN x=lenN (x / 2 ^ k)+k:=by
 have hp:0<2 ^ k:=Nat.pow_pos (by decide)
 have hy:x / 2 ^ k≠0:=by
  have:=Nat.div_le_div_right (c:=2 ^ k) h
  rw [Nat.div_self hp] at this
  omega
 have hx:x≠0:=by omega
 unfold lenN
 rw [if_neg hx,if_neg hy]
 obtain ⟨e1,e2⟩:=(Nat.log2_eq_iff (k:=Nat.log2 (x / 2 ^ k)) hy).1 rfl
 have:Nat.log2 x=Nat.log2 (x / 2 ^ k)+k:=by
  rw [Nat.log2_eq_iff hx]
  refine ⟨?_,?_⟩
  ·
   rw [Nat.pow_add]; exact (Nat.le_div_iff_mul_le hp).1 e1
  ·
   rw [Nat.add_right_comm,Nat.pow_add]; exact (Nat.div_lt_iff_lt_mul hp).1 e2
 omega
theorem lenN_lt {x:Nat} (h:x≠0):x<2 ^ lenN x∧1≤lenN x:=by
 unfold lenN
 rw [if_neg h]
 exact ⟨Nat.lt_log2_self,by omega⟩
theorem lenN_le {x k:Nat} (h:x<2 ^ k):lenN x≤k:=by
 unfold lenN
 split
 ·
  omega
 ·
  rename_i hx
  have:=(Nat.log2_lt hx).2 h
  omega
def tab8:ByteArray:={ data:=#[0,1,2,2,3,3,3,3,4,4,4,4,4,4,4,4,5,5,5,5,5,5,5,5,5,5,5,5,5,5,5,5,6,6,6,6,6,6,6,6,6,6,6,6,6,6,6,6,6,6,6,6,6,6,6,6,6,6,6,6,6,6,6,6,7,7,7,7,7,7,7,7,7,7,7,7,7,7,7,7,7,7,7,7,7,7,7,7,7,7,7,7,7,7,7,7,7,7,7,7,7,7,7,7,7,7,7,7,7,7,7,7,7,7,7,7,7,7,7,7,7,7,7,7,7,7,7,7,8,8,8,8,8,8,8,8,8,8,8,8,8,8,8,8,8,8,8,8,8,8,8,8,8,8,8,8,8,8,8,8,8,8,8,8,8,8,8,8,8,8,8,8,8,8,8,8,8,8,8,8,8,8,8,8,8,8,8,8,8,8,8,8,8,8,8,8,8,8,8,8,8,8,8,8,8,8,8,8,8,8,8,8,8,8,8,8,8,8,8,8,8,8,8,8,8,8,8,8,8,8,8,8,8,8,8,8,8,8,8,8,8,8,8,8,8,8,8,8,8,8,8,8,8,8,8,8] }
theorem tab8_eq:({ data:=#[0,1,2,2,3,3,3,3,4,4,4,4,4,4,4,4,5,5,5,5,5,5,5,5,5,5,5,5,5,5,5,5,6,6,6,6,6,6,6,6,6,6,6,6,6,6,6,6,6,6,6,6,6,6,6,6,6,6,6,6,6,6,6,6,7,7,7,7,7,7,7,7,7,7,7,7,7,7,7,7,7,7,7,7,7,7,7,7,7,7,7,7,7,7,7,7,7,7,7,7,7,7,7,7,7,7,7,7,7,7,7,7,7,7,7,7,7,7,7,7,7,7,7,7,7,7,7,7,8,8,8,8,8,8,8,8,8,8,8,8,8,8,8,8,8,8,8,8,8,8,8,8,8,8,8,8,8,8,8,8,8,8,8,8,8,8,8,8,8,8,8,8,8,8,8,8,8,8,8,8,8,8,8,8,8,8,8,8,8,8,8,8,8,8,8,8,8,8,8,8,8,8,8,8,8,8,8,8,8,8,8,8,8,8,8,8,8,8,8,8,8,8,8,8,8,8,8,8,8,8,8,8,8,8,8,8,8,8,8,8,8,8,8,8,8,8,8,8,8,8,8,8,8,8,8,8] }:ByteArray)=tab8:=rfl
theorem tab8_size:tab8.size=256:=rfl
theorem tab8_at:∀ j,j<256→byteAt tab8 j=(lenN j:Int):=by decide
theorem tab_use {y:Nat} (h:y<256):IntKind.u8.wrap (y:Int)=(y:Int)∧IntKind.i64.wrap (byteAt tab8 (IntKind.u8.wrap (y:Int)).toNat)=(lenN y:Int)∧lenN y≤8:=by
 have e1:IntKind.u8.wrap (y:Int)=(y:Int):=by rw [IntKind.wrap_u8]; omega
 have h8:lenN y≤8:=lenN_le (k:=8) h
 refine ⟨e1,?_,h8⟩
 rw [e1,Int.toNat_natCast,tab8_at y h]
 exact IntWalk.i64_in _ (by omega)
theorem fdiv_nat (n k:Nat):(n:Int).fdiv (k:Int)=((n / k:Nat):Int):=by rw [Int.fdiv_eq_ediv_of_nonneg _ (by omega)]; rfl
def conLen64:Con:=⟨fun args=>(match args with
 | [.s (.int .u64 x)]=>0≤x∧x≤1073741823
 | _=>False),fun args=>match args with
 | [.s (.int _ x)]=>.v (aI (lenN x.toNat))
 | _=>.v (.s .any)⟩
theorem conLen64_eq (x:Int):conLen64.pre [.s (.int .u64 x)]=(0≤x∧x≤1073741823)∧conLen64.val [.s (.int .u64 x)]=.v (aI (lenN x.toNat)):=⟨rfl,rfl⟩
theorem len64_ok:PureOk Tryz.prog 167 conLen64:=by
 refine pureOkD (L:={ live:=[0,2,4,8,14] }) nr0_good rfl nr_mixed Tryz.func167 rfl conLen64 1 (by decide) (by kernel_rfl) ?_
 intro args hpre hlens
 simp only [conLen64] at hpre
 split at hpre
 case h_2=>exact hpre.elim
 rename_i x
 simp only [allLen,AV.lenOk,SV.lenOk,Ty.lenOk,maxLen,and_true,implies_true,true_and,List.forall_mem_cons,List.not_mem_nil,false_implies] at hlens
 refine ⟨rfl,?_⟩
 simp -dsimp -implicitDefEqProofs [Tryz.f167,conLen64_eq,tab8_eq,tab8_size,nr0_all,nrT,nr0Γ,nr0E,nr0P,inI64]
 obtain ⟨hx0,hx⟩:=hpre
 obtain ⟨n,rfl⟩:∃ n:Nat,x=n:=⟨x.toNat,by omega⟩
 refine ⟨fun h=>by omega,fun _ => ?_⟩
 have f1:(n:Int).fdiv 65536=((n / 65536:Nat):Int):=fdiv_nat n 65536
 have f2:(n:Int).fdiv 256=((n / 256:Nat):Int):=fdiv_nat n 256
 have f3:((n / 65536:Nat):Int).fdiv 256=((n / 65536 / 256:Nat):Int):=fdiv_nat _ 256
 rw [f1,f2,f3,Int.toNat_natCast]
 refine ⟨fun h16=>⟨by decide,fun h8 => ?_,fun h8 => ?_⟩,fun h16=>⟨fun h8 => ?_,fun h8 => ?_⟩⟩
 ·
  obtain ⟨t1,t2,t3⟩:=tab_use (y:=n / 65536 / 256) (by omega)
  have:=lenN_div (x:=n / 65536) (k:=8) (by omega)
  have:=lenN_div (x:=n) (k:=16) (by omega)
  simp only [Nat.reducePow] at *
  rw [t2,t1]
  omega
 ·
  obtain ⟨t1,t2,t3⟩:=tab_use (y:=n / 65536) (by omega)
  have:=lenN_div (x:=n) (k:=16) (by omega)
  simp only [Nat.reducePow] at *
  rw [t2,t1]
  omega
 ·
  obtain ⟨t1,t2,t3⟩:=tab_use (y:=n / 256) (by omega)
  have:=lenN_div (x:=n) (k:=8) (by omega)
  simp only [Nat.reducePow] at *
  rw [t2,t1]
  omega
 ·
  obtain ⟨t1,t2,t3⟩:=tab_use (y:=n) (by omega)
  rw [t2,t1]
  omega
def nr12Γ:List (FuncId×Con):=(167,conLen64)::nr0Γ
theorem nr12Γ_ok:∀ p∈nr12Γ,(∀ (args:Array Value) (w:World),(callFunc p.1 args).run Tryz.prog w=.ok (.enter p.1 args) w)∧PureOk Tryz.prog p.1 p.2:=by
 simp only [nr12Γ,List.forall_mem_cons]
 exact ⟨⟨enters_of Tryz.func167 (by kernel_rfl) rfl,len64_ok⟩,nr0Γ_ok⟩
def nr12E:List (FuncId×ECon):=nr0E
theorem nr12E_ok:∀ p∈nr12E,(∀ (args:Array Value) (w:World),(callFunc p.1 args).run Tryz.prog w=.ok (.enter p.1 args) w)∧EffOk Tryz.prog p.1 p.2:=by
 simp only [nr12E]
 exact nr0E_ok
def nr12P:List (FuncId×PCon):=nr0P
theorem nr12P_ok:∀ p∈nr12P,(∀ (args:Array Value) (w:World),(callFunc p.1 args).run Tryz.prog w=.ok (.enter p.1 args) w)∧PanOk Tryz.prog p.1 p.2:=by
 simp only [nr12P]
 exact nr0P_ok
def nr12:G:={ τ:=nrT,Γ:=nr12Γ,E:=nr12E,Pn:=nr12P }
theorem nr12_good:nr12.good Tryz.prog:=good_of_all (nrT_ok _ rfl) nr12Γ_ok nr12E_ok nr12P_ok
theorem nr12_all:(∀ t,nr12.td t=(look nrT t).getD .other)∧nr12.y=false∧nr12.Γ=nr12Γ∧nr12.E=nr12E∧nr12.Pn=nr12P∧nr12.fz=[]:=⟨fun _=>rfl,rfl,rfl,rfl,rfl,rfl⟩
def conLead64:Con:=⟨fun args=>(match args with
 | [.s (.int .u64 x)]=>0≤x∧x≤1073741823
 | _=>False),fun args=>match args with
 | [.s (.int _ x)]=>.v (aI (64 - lenN x.toNat))
 | _=>.v (.s .any)⟩
theorem conLead64_eq (x:Int):conLead64.pre [.s (.int .u64 x)]=(0≤x∧x≤1073741823)∧conLead64.val [.s (.int .u64 x)]=.v (aI (64 - lenN x.toNat)):=⟨rfl,rfl⟩
theorem lead64_ok:PureOk Tryz.prog 206 conLead64:=by
 refine pureOkD (L:={ live:=[0,2] }) nr12_good rfl nr_mixed Tryz.func206 rfl conLead64 1 (by decide) (by kernel_rfl) ?_
 intro args hpre hlens
 simp only [conLead64] at hpre
 split at hpre
 case h_2=>exact hpre.elim
 rename_i x
 simp only [allLen,AV.lenOk,SV.lenOk,Ty.lenOk,maxLen,and_true,implies_true,true_and,List.forall_mem_cons,List.not_mem_nil,false_implies] at hlens
 refine ⟨rfl,?_⟩
 simp -dsimp -implicitDefEqProofs [Tryz.f206,conLead64_eq,nr12_all,nrT,nr12Γ,nr12E,nr12P,nr0Γ,nr0E,nr0P,conLen64_eq,inI64]
 have:=lenN_le (x:=x.toNat) (k:=30) (by omega)
 exact ⟨hpre,by omega,by omega⟩
end Go.Am
namespace Go.Am
set_option maxHeartbeats 4000000
theorem ld_ring {A A' p x y d ow q s Z Bi gv g:Int} (h1:A'+p*x=A+p*d) (h2:A+p*ow=Z - Bi*gv) (hd:d+1073741824*q=s) (hs:s=x - g*y+ow):A'+p*1073741824*q=Z - (Bi*gv+p*(g*y)):=by
 grind
theorem ld_sub {us v:List Int} {i t g:Nat} {ow s Z:Int} (ho:okD us) (hv:okD v) (ht:t<v.length) (hi:i+t<us.length) (hg:g≤1073741823) (how : -1073741823≤ow∧ow≤0)
  (hz:(vl us:Int)+((1073741824 ^ (i+t):Nat):Int)*ow=Z - ((1073741824 ^ i:Nat):Int)*((g*vl (v.take t):Nat):Int))
  (hs:s=us[i+t]?.getD 0 - (g:Int)*v[t]?.getD 0+ow) :
  okD (us.set (i+t) (s % 1073741824))∧(vl (us.set (i+t) (s % 1073741824)):Int)+((1073741824 ^ (i+(t+1)):Nat):Int)*(s / 1073741824)=Z - ((1073741824 ^ i:Nat):Int)*((g*vl (v.take (t+1)):Nat):Int) ∧
   (-1073741823≤s / 1073741824∧s / 1073741824≤0)∧(-1152921504606846976≤s∧s≤1073741823)∧(0≤(g:Int)*v[t]?.getD 0∧(g:Int)*v[t]?.getD 0≤1152921502459363329):=by
 have hx:=okD_get ho hi
 have hy:=okD_get hv ht
 have hm:=mul_range (x:=(g:Int)) (by omega) hy
 refine ⟨okD_set ho (by omega),?_,⟨by omega,by omega⟩,⟨by omega,by omega⟩,hm⟩
 have h1:=vl_set hi (s % 1073741824)
 have h2:=vl_take_succ ht
 have e1:1073741824 ^ (i+(t+1))=1073741824 ^ (i+t)*1073741824:=by rw [← Nat.add_assoc,Nat.pow_succ]
 have e2:1073741824 ^ i*(g*vl (v.take (t+1)))=1073741824 ^ i*(g*vl (v.take t))+1073741824 ^ (i+t)*(g*(v[t]?.getD 0).toNat):=by
  rw [h2,Nat.mul_add,Nat.mul_add,Nat.pow_add,Nat.mul_assoc,Nat.mul_left_comm g]
 rw [e1,← Int.natCast_mul,e2]
 rw [← Int.natCast_mul] at hz
 have h1':((vl (us.set (i+t) (s % 1073741824)):Nat):Int)+((1073741824 ^ (i+t):Nat):Int)*(us[i+t]?.getD 0)=(vl us:Int)+((1073741824 ^ (i+t):Nat):Int)*(s % 1073741824):=by
  have a1:((us[i+t]?.getD 0).toNat:Int)=us[i+t]?.getD 0:=by omega
  have a2:((s % 1073741824).toNat:Int)=s % 1073741824:=by omega
  have:=congrArg (Int.ofNat) h1
  simp only [Int.ofNat_eq_natCast,Int.natCast_add,Int.natCast_mul,a1,a2] at this
  exact this
 have a3:((v[t]?.getD 0).toNat:Int)=v[t]?.getD 0:=by omega
 rw [Int.natCast_add,Int.natCast_mul,Int.natCast_mul (1073741824 ^ (i+t)) (g*_),Int.natCast_mul g _,a3,Int.natCast_mul]
 rw [Int.natCast_mul] at hz
 have hd:s % 1073741824+1073741824*(s / 1073741824)=s:=Int.emod_add_mul_ediv s 1073741824
 exact ld_ring h1' hz hd hs
theorem ld_ring2 {A A' p x y d ov q s Y Bi vt:Int} (h1:A'+p*x=A+p*d) (h2:A+p*ov=Y+Bi*vt) (hd:d+1073741824*q=s) (hs:s=x+y+ov):A'+p*1073741824*q=Y+(Bi*vt+p*y):=by
 grind
theorem ld_add {ys v:List Int} {i t:Nat} {ov s Y:Int} (ho:okD ys) (hv:okD v) (ht:t<v.length) (hi:i+t<ys.length) (hov:0≤ov∧ov≤1)
  (hz:(vl ys:Int)+((1073741824 ^ (i+t):Nat):Int)*ov=Y+((1073741824 ^ i:Nat):Int)*((vl (v.take t):Nat):Int))
  (hs:s=ys[i+t]?.getD 0+v[t]?.getD 0+ov) :
  okD (ys.set (i+t) (s % 1073741824))∧(vl (ys.set (i+t) (s % 1073741824)):Int)+((1073741824 ^ (i+(t+1)):Nat):Int)*(s / 1073741824)=Y+((1073741824 ^ i:Nat):Int)*((vl (v.take (t+1)):Nat):Int) ∧
   (0≤s / 1073741824∧s / 1073741824≤1)∧(0≤s∧s≤2147483647)∧(0≤v[t]?.getD 0∧v[t]?.getD 0≤1073741823)∧(0≤ys[i+t]?.getD 0∧ys[i+t]?.getD 0≤1073741823):=by
 have hx:=okD_get ho hi
 have hy:=okD_get hv ht
 refine ⟨okD_set ho (by omega),?_,⟨by omega,by omega⟩,⟨by omega,by omega⟩,hy,hx⟩
 have h1:=vl_set hi (s % 1073741824)
 have h2:=vl_take_succ ht
 have e1:1073741824 ^ (i+(t+1))=1073741824 ^ (i+t)*1073741824:=by rw [← Nat.add_assoc,Nat.pow_succ]
 have e2:1073741824 ^ i*(vl (v.take (t+1)))=1073741824 ^ i*(vl (v.take t))+1073741824 ^ (i+t)*(v[t]?.getD 0).toNat:=by
  rw [h2,Nat.mul_add,Nat.pow_add,Nat.mul_assoc]
 rw [e1,← Int.natCast_mul,e2]
 have h1':((vl (ys.set (i+t) (s % 1073741824)):Nat):Int)+((1073741824 ^ (i+t):Nat):Int)*(ys[i+t]?.getD 0)=(vl ys:Int)+((1073741824 ^ (i+t):Nat):Int)*(s % 1073741824):=by
  have a1:((ys[i+t]?.getD 0).toNat:Int)=ys[i+t]?.getD 0:=by omega
  have a2:((s % 1073741824).toNat:Int)=s % 1073741824:=by omega
  have:=congrArg (Int.ofNat) h1
  simp only [Int.ofNat_eq_natCast,Int.natCast_add,Int.natCast_mul,a1,a2] at this
  exact this
 have a3:((v[t]?.getD 0).toNat:Int)=v[t]?.getD 0:=by omega
 rw [Int.natCast_add,Int.natCast_mul,Int.natCast_mul (1073741824 ^ (i+t)),a3,Int.natCast_mul]
 have hd:s % 1073741824+1073741824*(s / 1073741824)=s:=Int.emod_add_mul_ediv s 1073741824
 exact ld_ring2 h1' hz hd hs
theorem ld_mul_lt {a b c:Nat} (h:a*b<a*c):b<c:=Nat.lt_of_mul_lt_mul_left h
theorem ld_top {us:List Int} {i k V:Nat} (hk:2≤k) (ho:okD us) (hl:i+k<us.length) (hX:vl us<1073741824 ^ (i+1)*V) (hV:V<1073741824 ^ k) :
  ∃ X X':Nat,vl us=vl (us.take i)+1073741824 ^ i*X∧vl (us.take i)<1073741824 ^ i∧X=X'+1073741824 ^ (k - 2)*(((us[i+k]?.getD 0).toNat*1073741824+(us[i+k - 1]?.getD 0).toNat)*1073741824+(us[i+k - 2]?.getD 0).toNat)∧X'<1073741824 ^ (k - 2)∧X<1073741824*V:=by
 obtain ⟨m,rfl⟩:∃ m,k=m+2:=⟨k - 2,by omega⟩
 have h0:=vl_take_drop us i (by omega)
 have h1:=vl_lt (okD_take ho i)
 rw [List.length_take,Nat.min_eq_left (by omega)] at h1
 have hXB:vl (us.drop i)<1073741824*V:=by
  have:1073741824 ^ i*vl (us.drop i)<1073741824 ^ i*(1073741824*V):=by
   rw [← Nat.mul_assoc,← Nat.pow_succ]
   show _<1073741824 ^ (i+1)*V
   omega
  exact ld_mul_lt this
 have h2:=vl_take_drop (us.drop i) m (by rw [List.length_drop]; omega)
 have h3:=vl_lt (okD_take (okD_drop ho i) m)
 rw [List.length_take,List.length_drop,Nat.min_eq_left (by omega)] at h3
 rw [List.drop_drop] at h2
 have d1:=vl_drop us (i:=i+m) (by omega)
 have d2:=vl_drop us (i:=i+m+1) (by omega)
 have d3:=vl_drop us (i:=i+m+1+1) (by omega)
 have hz:vl (us.drop (i+m+1+1+1))=0:=by
  apply Classical.byContradiction
  intro hne
  have q1:1073741824*V<1073741824 ^ m*(1073741824*(1073741824*1073741824)):=by
   have:1073741824*V<1073741824*1073741824 ^ (m+2):=by omega
   rw [Nat.pow_succ,Nat.pow_succ] at this
   generalize 1073741824 ^ m=p at *
   omega
  have q2:1073741824 ^ m*(1073741824*(1073741824*1073741824))≤1073741824 ^ m*vl (us.drop (i+m)):=Nat.mul_le_mul_left _ (by omega)
  omega
 rw [hz] at d3
 refine ⟨vl (us.drop i),vl ((us.drop i).take m),h0,h1,?_,h3,hXB⟩
 rw [h2,Nat.add_sub_cancel]
 congr 2
 rw [d1,d2,d3,show i+(m+2)=i+m+1+1 by omega,show i+m+1+1 - 1=i+m+1 by omega,show i+m+1+1 - 2=i+m by omega]
 generalize (us[i+m+1+1]?.getD 0).toNat=a
 generalize (us[i+m+1]?.getD 0).toNat=b
 generalize (us[i+m]?.getD 0).toNat=c
 omega
theorem ld_vtop {v:List Int} (hk:2≤v.length) (ho:okD v) :
  ∃ V':Nat,vl v=V'+1073741824 ^ (v.length - 2)*((v[v.length - 1]?.getD 0).toNat*1073741824+(v[v.length - 2]?.getD 0).toNat)∧V'<1073741824 ^ (v.length - 2):=by
 obtain ⟨m,hm⟩:∃ m,v.length=m+2:=⟨v.length - 2,by omega⟩
 have h2:=vl_take_drop v m (by omega)
 have h3:=vl_lt (okD_take ho m)
 rw [List.length_take,Nat.min_eq_left (by omega)] at h3
 have d1:=vl_drop v (i:=m) (by omega)
 have d2:=vl_drop v (i:=m+1) (by omega)
 have hz:vl (v.drop (m+1+1))=0:=by rw [List.drop_eq_nil_of_le (by omega)]; rfl
 rw [hz] at d2
 rw [hm,Nat.add_sub_cancel,show m+2 - 1=m+1 by omega]
 refine ⟨vl (v.take m),?_,h3⟩
 rw [h2]
 congr 2
 rw [d1,d2]
 generalize (v[m+1]?.getD 0).toNat=a
 generalize (v[m]?.getD 0).toNat=b
 omega
theorem ld_up {X X' p h u2:Nat} (hX:X=X'+p*(h*1073741824+u2)) (hX':X'<p):X<p*(h*1073741824+u2+1):=by
 rw [Nat.mul_add p _ 1,hX]; omega
theorem ld_low {V V' p v1 v2 g:Nat} (hV:V=V'+p*(v1*1073741824+v2)):p*(g*(v1*1073741824+v2))≤g*V:=by
 rw [Nat.mul_left_comm]
 exact Nat.mul_le_mul_left _ (by omega)
theorem ld_guess0 {X X' V V' p u0 u1 u2 v1 v2 g:Nat} (hX:X=X'+p*((u0*1073741824+u1)*1073741824+u2)) (hX':X'<p) (hV:V=V'+p*(v1*1073741824+v2)) (hV':V'<p)
  (hu1:u1≤1073741823) (hu2:u2≤1073741823) (hv1:1≤v1) (hv1b:v1≤1073741823) (hv2:v2≤1073741823) (hXB:X<1073741824*V) (hg:g=if (u0*1073741824+u1) / v1≤1073741823 then (u0*1073741824+u1) / v1 else 1073741823) :
  X<(g+1)*V∧g≤1073741823∧g*v1≤u0*1073741824+u1∧u0*1073741824+u1<g*v1+2147483648∧u0≤1073741823:=by
 have hp:0<p:=by omega
 have hup:=ld_up hX hX'
 have hu0:u0≤v1:=by
  have h1:V<p*(v1*1073741824+v2+1):=ld_up hV hV'
  have h2:1073741824*V<p*((v1+1)*1073741824*1073741824):=by
   have:1073741824*(p*(v1*1073741824+v2+1))≤p*((v1+1)*1073741824*1073741824):=by
    rw [Nat.mul_left_comm]
    exact Nat.mul_le_mul_left _ (by omega)
   omega
  have h3:p*(u0*1073741824*1073741824)≤X:=by
   rw [hX]
   have:p*(u0*1073741824*1073741824)≤p*((u0*1073741824+u1)*1073741824+u2):=Nat.mul_le_mul_left _ (by omega)
   omega
  have h4:p*(u0*1073741824*1073741824)<p*((v1+1)*1073741824*1073741824):=by omega
  have:=ld_mul_lt h4
  omega
 have hd:=Nat.div_mul_le_self (u0*1073741824+u1) v1
 have hd2:u0*1073741824+u1<((u0*1073741824+u1) / v1+1)*v1:=by
  have:=Nat.lt_mul_div_succ (u0*1073741824+u1) (show 0<v1 by omega)
  rw [Nat.mul_comm v1] at this
  exact this
 split at hg
 ·
  rename_i hle
  rw [← hg] at hd hd2 hle
  refine ⟨?_,hle,hd,by rw [Nat.add_mul,Nat.one_mul] at hd2; omega,by omega⟩
  apply Classical.byContradiction
  intro hc
  have h1:=ld_low (g:=g+1) hV
  have h2:p*((u0*1073741824+u1)*1073741824+u2+1)≤p*((g+1)*(v1*1073741824+v2)):=by
   refine Nat.mul_le_mul_left _ ?_
   rw [Nat.mul_add,← Nat.mul_assoc]
   generalize (g+1)*v1=z at *
   have:0≤(g+1)*v2:=Nat.zero_le _
   omega
  omega
 ·
  rename_i hle
  subst hg
  have h1:1073741823*v1≤(u0*1073741824+u1) / v1*v1:=Nat.mul_le_mul_right _ (by omega)
  refine ⟨by omega,by omega,by omega,?_,by omega⟩
  omega
theorem ld_guessS {X X' V V' p h u2 v1 v2 g:Nat} (hX:X=X'+p*(h*1073741824+u2)) (hX':X'<p) (hV:V=V'+p*(v1*1073741824+v2)) (hgv:g*v1≤h) (hgt:(h - g*v1)*1073741824+u2<g*v2) :
  1≤g∧X<g*V:=by
 have hup:=ld_up hX hX'
 have h1:=ld_low (g:=g) hV
 have hg0:1≤g:=by
  rcases Nat.eq_zero_or_pos g with rfl | h
  ·
   omega
  ·
   exact h
 refine ⟨hg0,?_⟩
 have h2:p*(h*1073741824+u2+1)≤p*(g*(v1*1073741824+v2)):=by
  refine Nat.mul_le_mul_left _ ?_
  rw [Nat.mul_add,← Nat.mul_assoc]
  generalize g*v1=z at *
  generalize g*v2=y at *
  omega
 omega
theorem ld_guessE {X X' V V' p h u2 v1 v2 g:Nat} (hX:X=X'+p*(h*1073741824+u2)) (hV:V=V'+p*(v1*1073741824+v2)) (hV':V'<p) (hv1:1≤v1) (hg:g≤1073741823) (hgv:g*v1≤h)
  (hle:g*v2≤(h - g*v1)*1073741824+u2):g*V<X+V:=by
 have hp:0<p:=by omega
 have h1:p*(g*(v1*1073741824+v2))≤p*(h*1073741824+u2):=by
  refine Nat.mul_le_mul_left _ ?_
  rw [Nat.mul_add,← Nat.mul_assoc]
  generalize g*v1=z at *
  generalize g*v2=y at *
  omega
 have h2:g*V=g*V'+p*(g*(v1*1073741824+v2)):=by
  rw [hV,Nat.mul_add]
  congr 1
  rw [Nat.mul_left_comm]
 have h3:g*V'≤1073741823*p:=Nat.mul_le_mul hg (by omega)
 have h4:p*1073741824≤p*(v1*1073741824+v2):=Nat.mul_le_mul_left _ (by omega)
 omega
theorem ld_norm {b:List Int} (hb:canon b) (hl:1≤b.length):1≤lenN (b[b.length - 1]?.getD 0).toNat∧lenN (b[b.length - 1]?.getD 0).toNat≤30∧(dig (vl b*2 ^ (30 - lenN (b[b.length - 1]?.getD 0).toNat))).length=b.length:=by
 have h1:=canon_last hb hl
 obtain ⟨h2,h3⟩:=lenN_lt (x:=(b[b.length - 1]?.getD 0).toNat) (by omega)
 have h4:=lenN_le (x:=(b[b.length - 1]?.getD 0).toNat) (k:=30) (by omega)
 refine ⟨h3,h4,Nat.le_antisymm ?_ ?_⟩
 ·
  rw [dig_len]
  have e1:=vl_take_succ (xs:=b) (i:=b.length - 1) (by omega)
  rw [Nat.sub_add_cancel hl,List.take_of_length_le (Nat.le_refl _)] at e1
  have e2:=vl_lt (okD_take hb.1 (b.length - 1))
  rw [List.length_take,Nat.min_eq_left (by omega)] at e2
  have e3:1073741824 ^ b.length=1073741824 ^ (b.length - 1)*1073741824:=by rw [← Nat.pow_succ,Nat.succ_eq_add_one,Nat.sub_add_cancel hl]
  have e4:2 ^ lenN (b[b.length - 1]?.getD 0).toNat*2 ^ (30 - lenN (b[b.length - 1]?.getD 0).toNat)=1073741824:=by rw [← Nat.pow_add,Nat.add_sub_cancel' h4]
  rw [e3,e1]
  generalize (b[b.length - 1]?.getD 0).toNat=x at *
  generalize 2 ^ (30 - lenN x)=K at *
  generalize 2 ^ lenN x=L at *
  generalize 1073741824 ^ (b.length - 1)=p at *
  generalize vl (b.take (b.length - 1))=r at *
  have hK:0<K:=by
   rcases Nat.eq_zero_or_pos K with rfl | h
   ·
    simp at e4
   ·
    exact h
  have f1:r+p*x<p*L:=by
   have:p*(x+1)≤p*L:=Nat.mul_le_mul_left _ h2
   rw [Nat.mul_add] at this
   omega
  have f2:(r+p*x)*K<p*L*K:=Nat.mul_lt_mul_of_pos_right f1 hK
  rw [Nat.mul_assoc p,e4] at f2
  exact f2
 ·
  have:¬ (dig (vl b*2 ^ (30 - lenN (b[b.length - 1]?.getD 0).toNat))).length≤b.length - 1:=by
   rw [dig_len]
   intro h
   have h5:¬ b.length≤b.length - 1:=by omega
   rw [canon_len hb] at h5
   have:vl b*1≤vl b*2 ^ (30 - lenN (b[b.length - 1]?.getD 0).toNat):=Nat.mul_le_mul_left _ (Nat.pow_pos (by decide))
   omega
  omega
theorem ld_head {us:List Int} {m:Nat} (ho:okD us) (hm:m≤us.length) (h:vl us<1073741824 ^ m):vl (us.take m)=vl us:=by
 have h1:=vl_take_drop us m hm
 rcases Nat.eq_zero_or_pos (vl (us.drop m)) with h0 | h0
 ·
  rw [h0,Nat.mul_zero] at h1; omega
 ·
  have:1073741824 ^ m*1≤1073741824 ^ m*vl (us.drop m):=Nat.mul_le_mul_left _ h0
  omega
theorem ld_last {U Q a b K:Nat} (hb:0<b) (hK:0<K) (h:U+Q*(b*K)=a*K) (hl:U<b*K):Q=a / b∧U / K=a % b:=by
 have h1:=(Nat.div_mod_unique (Nat.mul_pos hb hK) (a:=a*K) (c:=U) (d:=Q)).2 ⟨by rw [Nat.mul_comm (b*K)]; exact h,hl⟩
 rw [Nat.mul_div_mul_right _ _ hK,Nat.mul_mod_mul_right] at h1
 refine ⟨h1.1.symm,?_⟩
 rw [← h1.2,Nat.mul_div_cancel _ hK]
theorem ld_zero {us:List Int} {m:Nat} (ho:okD us) (hm:m≤us.length) (h:vl us<1073741824 ^ m):vl (us.drop m)=0:=by
 have h1:=vl_take_drop us m hm
 rcases Nat.eq_zero_or_pos (vl (us.drop m)) with h0 | h0
 ·
  exact h0
 ·
  have:1073741824 ^ m*1≤1073741824 ^ m*vl (us.drop m):=Nat.mul_le_mul_left _ h0
  omega
theorem ld_ringA {L p X gV V z:Int} (h1:z=L+p*X - p*gV) (hL:0≤L) (hL2:L<p) (hX:X<gV+V) (hp:0<p):z<p*V:=by
 have h2:p*(X - gV)≤p*(V - 1):=Int.mul_le_mul_of_nonneg_left (by omega) (by omega)
 have h3:p*(X - gV)=p*X - p*gV:=by grind
 have h4:p*(V - 1)=p*V - p:=by grind
 omega
theorem ld_ringB {L p X gV V z:Int} (h1:z=L+p*X - p*gV) (hL:0≤L) (hX:gV<X+V) (hp:0<p):0<z+p*V:=by
 have h2:p*1≤p*(X+V - gV):=Int.mul_le_mul_of_nonneg_left (by omega) (by omega)
 have h3:p*(X+V - gV)=p*X+p*V - p*gV:=by grind
 omega
theorem ld_gV {g V:Nat}:(g+1)*V=g*V+V:=by rw [Nat.add_mul,Nat.one_mul]
theorem ld_castA {u0 u1 gv u2 gw:Nat} (hle:gv≤u0*1073741824+u1) (hA:((u0:Int)*1073741824+u1 - (gv:Int))*1073741824+u2<(gw:Int)):(u0*1073741824+u1 - gv)*1073741824+u2<gw:=by omega
theorem ld_castB {u0 u1 gv u2 gw:Nat} (hle:gv≤u0*1073741824+u1) (hgw:gw≤1152921502459363329) (hE:((u0:Int)*1073741824+u1 - (gv:Int))*1073741824+u2<(gw:Int)→1073741823<((u0:Int)*1073741824+u1 - (gv:Int))):gw≤(u0*1073741824+u1 - gv)*1073741824+u2:=by omega
def LdSub (us v:List Int) (i g t:Nat) (ys:List Int) (ow:Int):Prop :=
 okD ys∧(-1073741823≤ow∧ow≤0)∧(vl ys:Int)+((1073741824 ^ (i+t):Nat):Int)*ow=vl us - ((1073741824 ^ i:Nat):Int)*((g*vl (v.take t):Nat):Int)∧ys.drop (i+t)=us.drop (i+t)
def LdAdd (ys v:List Int) (i t:Nat) (zs:List Int) (ov:Int):Prop :=
 okD zs∧(0≤ov∧ov≤1)∧(vl zs:Int)+((1073741824 ^ (i+t):Nat):Int)*ov=vl ys+((1073741824 ^ i:Nat):Int)*((vl (v.take t):Nat):Int)∧zs.drop (i+t)=ys.drop (i+t)
theorem LdSub.zero {us v:List Int} {i g:Nat} (h:okD us):LdSub us v i g 0 us 0:=⟨h,by omega,by simp [vl],rfl⟩
theorem LdAdd.zero {ys v:List Int} {i:Nat} (h:okD ys):LdAdd ys v i 0 ys 0:=⟨h,by omega,by simp [vl],rfl⟩
theorem LdSub.step {us v ys:List Int} {i t g:Nat} {ow s:Int} (hh:LdSub us v i g t ys ow) (hv:okD v) (ht:t<v.length) (hi:i+t<ys.length) (hg:g≤1073741823)
  (hs:s=ys[i+t]?.getD 0 - (g:Int)*v[t]?.getD 0+ow):LdSub us v i g (t+1) (ys.set (i+t) (s % 1073741824)) (s / 1073741824)∧(-1152921504606846976≤s∧s≤1073741823)∧(0≤(g:Int)*v[t]?.getD 0∧(g:Int)*v[t]?.getD 0≤1152921502459363329):=by
 obtain ⟨h1,h2,h3,h4⟩:=hh
 obtain ⟨s1,s2,s3,s4,s5⟩:=ld_sub h1 hv ht hi hg h2 h3 hs
 refine ⟨⟨s1,s3,s2,?_⟩,s4,s5⟩
 rw [← Nat.add_assoc,drop_set_succ]
 exact drop_eq_succ h4
theorem LdAdd.step {ys v zs:List Int} {i t:Nat} {ov s:Int} (hh:LdAdd ys v i t zs ov) (hv:okD v) (ht:t<v.length) (hi:i+t<zs.length)
  (hs:s=zs[i+t]?.getD 0+v[t]?.getD 0+ov):LdAdd ys v i (t+1) (zs.set (i+t) (s % 1073741824)) (s / 1073741824)∧(0≤s∧s≤2147483647)∧(0≤v[t]?.getD 0∧v[t]?.getD 0≤1073741823)∧(0≤zs[i+t]?.getD 0∧zs[i+t]?.getD 0≤1073741823):=by
 obtain ⟨h1,h2,h3,h4⟩:=hh
 obtain ⟨s1,s2,s3,s4,s5,s6⟩:=ld_add h1 hv ht hi h2 h3 hs
 refine ⟨⟨s1,s3,s2,?_⟩,s4,s5,s6⟩
 rw [← Nat.add_assoc,drop_set_succ]
 exact drop_eq_succ h4
theorem ld_fin1 {us ys:List Int} {i k V X L g:Nat} {ow:Int} (hy:okD ys) (hl:ys.length=us.length) (hi:i+k<us.length) (hd:ys[i+k]?.getD 0=us[i+k]?.getD 0)
  (hz:(vl ys:Int)+((1073741824 ^ (i+k):Nat):Int)*ow=vl us - ((1073741824 ^ i:Nat):Int)*((g*V:Nat):Int)) (hx:vl us=L+1073741824 ^ i*X) (hL:L<1073741824 ^ i) (hX:X<(g+1)*V)
  (hc:0≤us[i+k]?.getD 0+ow) (how:ow≤0) :
  okD (ys.set (i+k) (us[i+k]?.getD 0+ow))∧vl (ys.set (i+k) (us[i+k]?.getD 0+ow))+1073741824 ^ i*(g*V)=vl us∧vl (ys.set (i+k) (us[i+k]?.getD 0+ow))<1073741824 ^ i*V:=by
 have hy2:=okD_get hy (i:=i+k) (by omega)
 have h1:=vl_set (xs:=ys) (i:=i+k) (by omega) (us[i+k]?.getD 0+ow)
 rw [hd] at h1 hy2
 have h2:(vl (ys.set (i+k) (us[i+k]?.getD 0+ow)):Int)=vl ys+((1073741824 ^ (i+k):Nat):Int)*ow:=by
  obtain ⟨u,hu⟩:∃ u:Nat,us[i+k]?.getD 0=u:=⟨(us[i+k]?.getD 0).toNat,by omega⟩
  obtain ⟨c,hc'⟩:∃ c:Nat,us[i+k]?.getD 0+ow=c:=⟨(us[i+k]?.getD 0+ow).toNat,by omega⟩
  rw [hc',hu,Int.toNat_natCast,Int.toNat_natCast] at h1
  rw [hc']
  have h3:ow=(c:Int) - u:=by omega
  have h4:=congrArg (Int.ofNat) h1
  simp only [Int.ofNat_eq_natCast,Int.natCast_add,Int.natCast_mul] at h4
  rw [h3]
  generalize ((1073741824 ^ (i+k):Nat):Int)=p at *
  rw [Int.mul_sub]
  omega
 refine ⟨okD_set hy (by omega),?_,?_⟩
 ·
  generalize vl (ys.set (i+k) (us[i+k]?.getD 0+ow))=A at *
  have:((A+1073741824 ^ i*(g*V):Nat):Int)=(vl us:Int):=by
   rw [Int.natCast_add,Int.natCast_mul]
   omega
  exact Int.ofNat.inj this
 ·
  generalize vl (ys.set (i+k) (us[i+k]?.getD 0+ow))=A at *
  have hp:0<1073741824 ^ i:=pow_pos' i
  rw [ld_gV] at hX
  generalize g*V=gV at *
  have h5:=ld_ringA (L:=L) (p:=((1073741824 ^ i:Nat):Int)) (X:=X) (gV:=gV) (V:=V) (z:=A) (by rw [← Int.natCast_mul _ X,h2,hz,hx,Int.natCast_add]) (by omega) (by omega) (by omega) (by omega)
  rw [← Int.natCast_mul] at h5
  omega
theorem ld_fin2 {us ys:List Int} {i k V X L g:Nat} {ow:Int} (hu:okD us) (hy:okD ys) (hl:ys.length=us.length) (hi:i+k<us.length) (hd:ys.drop (i+k)=us.drop (i+k))
  (hz:(vl ys:Int)+((1073741824 ^ (i+k):Nat):Int)*ow=vl us - ((1073741824 ^ i:Nat):Int)*((g*V:Nat):Int)) (hx:vl us=L+1073741824 ^ i*X) (hX:g*V<X+V) (hlt:vl us<1073741824 ^ (i+1)*V) (hV:V<1073741824 ^ k)
  (hc:us[i+k]?.getD 0+ow<0) :
  okD (ys.set (i+k) 0)∧∀ (zs:List Int) (ov:Int),okD zs→zs.length=us.length→zs.drop (i+k)=(ys.set (i+k) 0).drop (i+k)→0≤ov∧ov≤1→(vl zs:Int)+((1073741824 ^ (i+k):Nat):Int)*ov=vl (ys.set (i+k) 0)+((1073741824 ^ i:Nat):Int)*((V:Nat):Int) →
   us[i+k]?.getD 0+ow+ov=0∧1≤g∧vl zs+1073741824 ^ i*((g - 1)*V)=vl us∧vl zs<1073741824 ^ i*V:=by
 have hd1:ys[i+k]?.getD 0=us[i+k]?.getD 0:=by
  have:=congrArg (fun l=>l[0]?.getD 0) hd
  simpa only [List.getElem?_drop,Nat.add_zero] using this
 have hU:=vl_set (xs:=ys) (i:=i+k) (by omega) 0
 rw [hd1,Int.toNat_zero,Nat.mul_zero,Nat.add_zero] at hU
 have hu2:=okD_get hu hi
 refine ⟨okD_set hy (by omega),fun zs ov hzo hzl hzd hov hzv => ?_⟩
 have hlt2:vl us<1073741824 ^ (i+k+1):=by
  refine Nat.lt_of_lt_of_le hlt ?_
  rw [show i+k+1=i+1+k by omega,Nat.pow_add _ (i+1) k]
  exact Nat.mul_le_mul_left _ (by omega)
 have hz0:=ld_zero hu (by omega) hlt2
 have low:∀ xs:List Int,okD xs→xs.length=us.length→xs.drop (i+k)=(ys.set (i+k) 0).drop (i+k)→vl xs<1073741824 ^ (i+k):=by
  intro xs ho hxl hxd
  have e1:=vl_take_drop xs (i+k) (by omega)
  have e2:=vl_lt (okD_take ho (i+k))
  rw [List.length_take,Nat.min_eq_left (by omega)] at e2
  have e3:vl (xs.drop (i+k))=0:=by
   rw [hxd,vl_drop _ (by rw [List.length_set]; omega),drop_set_succ,drop_eq_succ hd,hz0,List.getElem?_set_self (by omega)]
   rfl
  rw [e3,Nat.mul_zero] at e1
  omega
 have hlz:=low zs hzo hzl hzd
 have hly:=low _ (okD_set (i:=i+k) (x:=0) hy (by omega)) (by rw [List.length_set]; exact hl) rfl
 generalize us[i+k]?.getD 0=u at *
 obtain ⟨u',rfl⟩:∃ u':Nat,u=u':=⟨u.toNat,by omega⟩
 rw [Int.toNat_natCast] at hU
 generalize vl (ys.set (i+k) 0)=Y at *
 generalize vl zs=Zs at *
 generalize vl ys=Y0 at *
 have hpk:0<1073741824 ^ (i+k):=pow_pos' _
 have hpi:0<1073741824 ^ i:=pow_pos' _
 have hU':(Y:Int)+((1073741824 ^ (i+k):Nat):Int)*u'=Y0:=by rw [← Int.natCast_mul]; omega
 generalize hA:((1073741824 ^ (i+k):Nat):Int)=pk at *
 have hB:((1073741824 ^ i:Nat):Int)*(X:Int)=((1073741824 ^ i*X:Nat):Int):=(Int.natCast_mul _ _).symm
 have hB2:((1073741824 ^ i:Nat):Int)*(V:Int)=((1073741824 ^ i*V:Nat):Int):=(Int.natCast_mul _ _).symm
 have hgV:(((g - 1)*V:Nat):Int)=if 1≤g then ((g*V:Nat):Int) - V else 0:=by
  split
  ·
   obtain ⟨g',rfl⟩:∃ g',g=g'+1:=⟨g - 1,by omega⟩
   rw [Nat.add_sub_cancel,ld_gV]; omega
  ·
   rw [show g - 1=0 by omega,Nat.zero_mul]; rfl
 have k1:(Y:Int)+pk*(u'+ow)=vl us - ((1073741824 ^ i:Nat):Int)*((g*V:Nat):Int):=by
  rw [Int.mul_add]; omega
 have k2:=ld_ringB (L:=L) (p:=((1073741824 ^ i:Nat):Int)) (X:=X) (gV:=((g*V:Nat):Int)) (V:=V) (z:=(Y:Int)+pk*(u'+ow)) (by rw [k1,hx,Int.natCast_add,hB]) (by omega) (by omega) (by omega)
 have k3:(Zs:Int)+pk*(u'+ow+ov)=(Y:Int)+pk*(u'+ow)+((1073741824 ^ i:Nat):Int)*(V:Int):=by
  rw [Int.mul_add pk (u'+ow) ov]; omega
 have k4:u'+ow+ov=0:=by
  apply Classical.byContradiction
  intro hne
  have h1:(u':Int)+ow+ov ≤ -1:=by omega
  have h2:pk*(u'+ow+ov)≤pk*(-1):=Int.mul_le_mul_of_nonneg_left h1 (by omega)
  omega
 rw [k4,Int.mul_zero,Int.add_zero] at k3
 have k5:pk*(u'+ow)≤pk*(-1):=Int.mul_le_mul_of_nonneg_left (by omega) (by omega)
 have k6:1≤g:=by
  apply Classical.byContradiction
  intro h0
  have:g=0:=by omega
  subst this
  rw [Nat.zero_mul] at k1
  omega
 refine ⟨k4,k6,?_,by rw [hB2] at k3; omega⟩
 rw [if_pos k6] at hgV
 have:((Zs+1073741824 ^ i*((g - 1)*V):Nat):Int)=(vl us:Int):=by
  rw [Int.natCast_add,Int.natCast_mul,hgV,Int.mul_sub,k3,k1]
  omega
 exact Int.ofNat.inj this
theorem ld_quot {q:List Int} {i V us w us':Nat} {g:Nat} (hi:i<q.length) (hinv:us+1073741824 ^ (i+1)*(vl (q.drop (i+1))*V)=w) (h:us'+1073741824 ^ i*(g*V)=us) :
  us'+1073741824 ^ i*(vl ((q.set i (g:Int)).drop i)*V)=w:=by
 rw [vl_drop _ (by rw [List.length_set]; exact hi),drop_set_succ,List.getElem?_set_self hi,Option.getD_some,Int.toNat_natCast,← hinv,← h,Nat.pow_succ]
 generalize vl (q.drop (i+1))=r
 generalize 1073741824 ^ i=p
 rw [Nat.add_mul,Nat.mul_add,Nat.mul_assoc 1073741824,Nat.mul_assoc p]
 omega
theorem set_zero_same {zs:List Int} {n:Nat} (hn:n<zs.length) (h:zs[n]?.getD 0=0):zs.set n 0=zs:=by
 rw [List.getElem?_eq_getElem hn,Option.getD_some] at h
 have:=List.set_getElem_self hn
 rwa [h] at this
theorem LdAdd.top {ys v zs:List Int} {i t:Nat} {ov:Int} (h:LdAdd ys v i t zs ov):zs[i+t]?.getD 0=ys[i+t]?.getD 0:=by
 have:=congrArg (fun l=>l[0]?.getD 0) h.2.2.2
 simpa only [List.getElem?_drop,Nat.add_zero] using this
end Go.Am
