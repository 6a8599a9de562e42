/- Part 3 of the proof's base. -/
import Derived.Test.YtejcoioabaejlaaGreatDoorK2
set_option linter.all false
noncomputable section
namespace Go.Am
open Go.RowKit
def edg (o:Oper):List Nat:=(o.after.toList.filter (Region.binds .any)).map (·.on)
def temps:List Operand→List Nat
 | []=>[]
 | .tmp t::r=>t::temps r
 | _::r=>temps r
def dstIs (ops:List Oper) (j:Nat) (t:Nat):Bool:=((ops[j]?).bind (·.dst))==some t
def clo:List Oper→List (List Nat)→List (List Nat)
 | [],acc=>acc
 | o::r,acc=>clo r (acc++[edg o++(edg o).flatMap fun j=>acc.getD j []])
def drawOk (y:Bool×List FuncId) (ops:List Oper) (m:Nat):Bool :=
 (List.range ops.length).all fun i=>match ops[i]? with
  | none=>true
  | some o=>(edg o).all (fun k=>k<i) &&
   (if i<m then
    !isMem y o.op &&
    (temps o.op.operands.toList).all (fun t=>(List.range m).all fun j => !dstIs ops j t||(j<i&&(edg o).contains j)) &&
    (match o.guard with
     | none=>true
     | some (j,_)=>j<m&&(edg o).contains j) &&
    (List.range m).all (fun j=>j==i||(match o.dst with
     | some d => !dstIs ops j d
     | none=>true))
   else (List.range i).all fun k=>((clo ops []).getD i []).contains k)
def regionOk (y:Bool×List FuncId) (N:Nat) (ops:List Oper) (draw:Bool):Bool :=
 ops.all (fun o=>match o.dst with | some d=>d<N | none=>true)&&(!draw||(List.range (ops.length+1)).any fun m=>drawOk y ops m)
abbrev XT:=Nat→List (List AV)→Nat→Bool→World→(Nat→Prop)→(Nat→Prop)→Prop
def inBs (bs:Bs) (b:Nat):Prop:=∃ id,bs.at id=some b
structure YStep (w:World) (M0 B:Nat→Prop) (w':World) (M0':Nat→Prop):Prop where
 evo:Evo (fun b=>M0 b∨B b) (fun b=>M0' b∨B b) w w'
 own:∀ b,B b→w'.heap[b]?=w.heap[b]?
 m0:∀ b,M0' b→b<w'.heap.size
 out:∀ b,B b→¬ M0' b
structure XOk (P:Program) (X:XT):Prop where
 stable:∀ {l xs i st} {w w':World} {M0 B B':Nat→Prop},X l xs i st w M0 B→w'.os=w.os→w'.tape=w.tape→w'.output=w.output→w.heap.size≤w'.heap.size→w.drawn≤w'.drawn →
  (∀ b,b<w.heap.size→¬ B b→w'.heap[b]?=w.heap[b]?)→(∀ b,b<w.heap.size→¬ B b→¬ B' b)→(∀ b,B' b→b<w'.heap.size)→X l xs i st w' M0 B'
 yield:∀ {l xs i} {w:World} {M0 B:Nat→Prop} {args:List AV} {vs:List Value},X l xs i false w M0 B→xs[i]?=some args→(∀ b,M0 b→b<w.heap.size)→(∀ b,B b→b<w.heap.size∧¬ M0 b) →
  All2 (relAV w (fun b=>M0 b∨B b) [] []) args vs→∃ fn tmps assign body,(Instr.yield l vs.toArray).run P w=.ok (.round l fn tmps assign body) w ∧
   ∀ n r,RoundIn (FW r) n P l fn tmps assign body w fun e w'=>∃ b M0',e=.returned (.bool b)∧X l xs (i+1) (!b) w' M0' B∧YStep w M0 B w' M0'
def XR (X:XT) (w:World) (M0:Nat→Prop) (bs:Bs) (hp:List Blk):Prop:=∀ l xs i st,Blk.look hp 0=.trace l xs i st→X l xs i st w M0 (inBs bs)
section
variable {P:Program} {g:G} {X:XT} {w:World} {M0:Nat→Prop} {bs:Bs} {hp:List Blk}
theorem guard_rel {M:Nat→Prop} {ops:Array Oper} {e:Env} {a:Act} {gd:Nat×Bool} {gc:Bool} (hc:gcond ops.toList e (some gd)=some gc) (o:Oper) (ho:o.guard=some gd)
  (he:∀ d,((ops[gd.1]?).bind (·.dst))=some d→relSL w M bs hp (getE e d) (a.tmps.getD d undef)):Region.wanted o (yielded ops a.tmps)=gc:=by
 obtain ⟨j,want⟩:=gd
 simp only [gcond] at hc
 have heq:ops.toList[j]?=ops[j]?:=by simp
 rw [heq] at hc
 cases hd:(ops[j]?).bind (·.dst) with
 | none =>
  have:(ops[j]?).bind (fun o=>o.dst)=none:=hd
  rw [this] at hc
  simp at hc
 | some d =>
  have hd':(ops[j]?).bind (fun o=>o.dst)=some d:=hd
  rw [hd'] at hc
  have hr:=he d hd
  simp only [Region.wanted,ho,yielded,hd]
  simp only at hc
  generalize getE e d=x at *
  obtain ⟨ok,v⟩:=x
  cases v with
  | tup xs=>simp at hc
  | v av =>
   cases av with
   | agg cs=>simp at hc
   | s sv =>
    cases sv with
    | bool b =>
     simp only [Option.some.injEq] at hc
     subst hc
     cases ok with
     | true =>
      have h1:a.tmps.getD d undef=.bool b:=hr.1 rfl
      rw [Array.getD_eq_getD_getElem?] at h1
      cases ht:a.tmps[d]? with
      | none=>rw [ht] at h1; simp [undef] at h1
      | some v=>rw [ht] at h1; simp at h1; subst h1; simp [ht]
     | false =>
      have h1:a.tmps.getD d undef=undef:=hr.2 rfl
      rw [Array.getD_eq_getD_getElem?] at h1
      cases ht:a.tmps[d]? with
      | none=>simp [ht]
      | some v=>rw [ht] at h1; simp at h1; subst h1; simp [ht,undef]
    | _=>simp at hc
theorem XR.step (hX:XOk P X) (h:XR X w M0 bs hp) {w':World} {M M':Nat→Prop} {bs':Bs} {hp':List Blk} (hs:Step false w M bs hp w' M' bs' hp') (hr':∀ id b,bs'.at id=some b→b<w'.heap.size):XR X w' M0 bs' hp':=by
 intro l xs i st ht
 have ho:=hs.only rfl
 exact hX.stable (h l xs i st (ho.tr 0 l xs i st ht)) hs.evo.os hs.evo.tape hs.evo.output hs.evo.size hs.evo.drawn (fun b hb hn=>ho.old b hb (fun id hid=>hn ⟨id,hid⟩)) (fun b hb hn ⟨id,hid⟩=>ho.new b hb (fun id hid=>hn ⟨id,hid⟩) id hid) (fun b ⟨id,hid⟩=>hr' id b hid)
theorem HR.yielded (hr:HR w M0 bs hp) {l l':Nat} {xs xs':List (List AV)} {i i':Nat} {st st':Bool} (hl0:Blk.look hp 0=.trace l xs i st) {w':World} {M0':Nat→Prop} (hy:YStep w M0 (inBs bs) w' M0') :
  HR w' M0' bs (hp.set 0 (.trace l' xs' i' st'))∧Step true w (Mof M0 bs) bs hp w' (Mof M0' bs) bs (hp.set 0 (.trace l' xs' i' st')):=by
 have hid:0<hp.length:=look_lt (by rw [hl0]; simp)
 have he:Evo (Mof M0 bs) (Mof M0' bs) w w':=hy.evo
 have hlk:∀ j,Blk.look (hp.set 0 (.trace l' xs' i' st')) j=if j=0 then .trace l' xs' i' st' else Blk.look hp j:=fun j=>look_set 0 _ j hid
 have hs:∀ id b,bs.at id=some b→w'.heap[b]?=w.heap[b]?:=fun id b hb=>hy.own b ⟨id,hb⟩
 have hlk':∀ j x,Blk.look (hp.set 0 (.trace l' xs' i' st')) j=x→(∀ a b c d,x≠.trace a b c d)→Blk.look hp j=x:=by
  intro j x h hne
  rw [hlk] at h
  split at h
  ·
   exact absurd h.symm (hne _ _ _ _)
  ·
   exact h
 have hne0:∀ j,(∀ a b c d,Blk.look hp j≠.trace a b c d)→Blk.look (hp.set 0 (.trace l' xs' i' st')) j=Blk.look hp j:=by
  intro j h
  rw [hlk,if_neg (fun e=>by subst e; exact h _ _ _ _ hl0)]
 have hst:Step true w (Mof M0 bs) bs hp w' (Mof M0' bs) bs (hp.set 0 (.trace l' xs' i' st')) :=
  ⟨he,by simp,fun id cs h1 h2=>⟨⟨cs,hlk' _ _ h2 (by simp)⟩,rfl⟩,fun id b k u es h1 h2=>⟨h1,es,by rw [hne0 id (by rw [h2]; simp)]; exact h2⟩,fun id al cs _ h=>⟨al,cs,hlk' _ _ h (by simp),.inr ⟨rfl,rfl,fun _=>rfl,fun b hb cap size ho=>by
   obtain ⟨cur,e,h1,h2⟩:=ho
   exact ⟨cur,e,by rw [hs id b hb]; exact h1,h2⟩⟩⟩,by simp⟩
 refine ⟨⟨by simp [hr.len],hy.m0,fun id b h=>Nat.lt_of_lt_of_le (hr.lt id b h) he.size,hr.inj,fun id b h=>hy.out b ⟨id,h⟩,fun id cs h=>hr.al id cs (hlk' _ _ h (by simp)),?_,?_,?_⟩,hst⟩
 ·
  intro id cs hl
  obtain ⟨b,cur,e,h1,h2,h3,h4⟩:=hr.cells id cs (hlk' _ _ hl (by simp))
  refine ⟨b,cur,e,h1,by rw [hs id b h1]; exact h2,h3,fun j x hj => ?_⟩
  obtain ⟨u,k1,k2,k3⟩:=h4 j x hj
  exact ⟨u,k1,k2,relSV_step hst x u k3⟩
 ·
  intro id al cs b hl hb
  obtain ⟨cur,e,h2,h4⟩:=hr.arr id al cs b (hlk' _ _ hl (by simp)) hb
  refine ⟨cur,e,by rw [hs id b hb]; exact h2,fun j x hj => ?_⟩
  obtain ⟨u,k1,k2,k3⟩:=h4 j x hj
  exact ⟨u,k1,k2,relSV_step hst x u k3⟩
 ·
  intro id k v es hl
  obtain ⟨b,ents,clock,h1,h2,h3⟩:=hr.map id k v es (hlk' _ _ hl (by simp))
  exact ⟨b,ents,clock,h1,by rw [hs id b h1]; exact h2,h3.imp fun x m hm=>⟨hm.1,repV_evo he hm.2⟩⟩
structure Nx (P:Program) (g:G) (X:XT) (w:World) (M0:Nat→Prop) (bs:Bs) (hp:List Blk) (w':World) (M0':Nat→Prop) (bs':Bs) (hp':List Blk):Prop where
 hr:HR w' M0' bs' hp'
 xr:XR X w' M0' bs' hp'
 st:Step g.y w (Mof M0 bs) bs hp w' (Mof M0' bs') bs' hp'
 eq:g.y=false→M0'=M0
theorem Nx.refl (h:HR w M0 bs hp) (k:XR X w M0 bs hp):Nx P g X w M0 bs hp w M0 bs hp:=⟨h,k,Step.refl _ _ _ _,fun _=>rfl⟩
theorem Nx.trans {w' w'':World} {M0' M0'':Nat→Prop} {bs' bs'':Bs} {hp' hp'':List Blk} (h:Nx P g X w M0 bs hp w' M0' bs' hp') (k:Nx P g X w' M0' bs' hp' w'' M0'' bs'' hp''):Nx P g X w M0 bs hp w'' M0'' bs'' hp'' :=
 ⟨k.hr,k.xr,h.st.trans k.st,fun hy=>(k.eq hy).trans (h.eq hy)⟩
theorem Nx.of_step (hX:XOk P X) (k:XR X w M0 bs hp) {w':World} {bs':Bs} {hp':List Blk} (h:HR w' M0 bs' hp') (st:Step false w (Mof M0 bs) bs hp w' (Mof M0 bs') bs' hp'):Nx P g X w M0 bs hp w' M0 bs' hp' :=
 ⟨h,k.step hX st h.lt,st.weaken,fun _=>rfl⟩
theorem yieldOf_some {e:Env} {op:Op} {l:Nat} {args:List AV} (h:yieldOf g e op=some (l,args)) :
  ∃ f xs ts,op=.call { callee:=.value (.tmp f),args:=xs,argTypes:=ts }∧opRV e (.tmp f)=.v (.s (.val (.func (.yield l) #[] #[])))∧args=argsEv g e xs.toList ts.toList:=by
 unfold yieldOf at h
 split at h
 ·
  rename_i f xs ts
  split at h
  ·
   rename_i l' heq
   injection h with h; injection h with h1 h2
   subst h1; subst h2
   exact ⟨f,xs,ts,rfl,heq,rfl⟩
  ·
   cases h
 ·
  cases h
theorem opVC_sound (hg:g.good P) (hX:XOk P X) {n:Nat} {r:Option Nat} {Q:Exit→Act→World→Prop} {K:SL→List Blk→Prop} (o:Oper) (e:Env) (hp:List Blk) (bs:Bs) (a:Act) (w:World)
  (h:opVC g e hp o K) (hr:HR w M0 bs hp) (hx:XR X w M0 bs hp) (he:relEnv w (Mof M0 bs) bs hp e a) (Kn:Act→World→Prop)
  (next:∀ (x:SL) (z:Value) (hp':List Blk) (M0':Nat→Prop) (bs':Bs) (w':World),relSL w' (Mof M0' bs') bs' hp' x z→Nx P g X w M0 bs hp w' M0' bs' hp'→K x hp'→Kn (a.put o.dst z) w') :
  o.wpIn (FW r) n P a w Kn Q:=by
 obtain ⟨hok,h⟩:=h
 cases hmem:isMem0 o.op with
 | true =>
  simp only [hmem] at h
  obtain ⟨h2,h3⟩:=h
  obtain ⟨hdid,hdef⟩:=mEv_did hg hr o (fun x _ hx=>oper_rel he x hx) hok h2
  exact did_wp (fun _=>trivial) hdef hdid fun z w' bs' k1 k2 k3=>next ⟨true,_⟩ z _ _ bs' w' ⟨fun _=>k1,by simp⟩ (.of_step hX hx k2 k3) h3
 | false =>
  simp only [hmem] at h
  split at h
  ·
   rename_i l args heq
   cases hy:g.y with
   | false=>simp [hy] at heq
   | true =>
    simp only [hy,if_true] at heq
    obtain ⟨f,xs,ts,hop,hf,rfl⟩:=yieldOf_some heq
    obtain ⟨dst,op,t,pos,after,guard⟩:=o
    simp only at hop hok hmem h next ⊢
    subst hop
    have hargs:=args_rel hg.1 (e:=e) (a:=a) xs.toList ts.toList (fun x hx=>oper_rel he x (okOps_all (by simp) hok x (by simp [Op.operands,Call.operands]; simp at hx; simp [hx])))
    have hev:a.eval (.tmp f)=.func (.yield l) #[] #[]:=by
     have:=oper_rel he (.tmp f) (okOps_all (by simp) hok (.tmp f) (by simp [Op.operands,Call.operands]))
     rw [hf] at this; exact this
    unfold yieldVC at h
    split at h
    ·
     rename_i l' tr i hl
     obtain ⟨rfl,hi,hpure,hK⟩:=h
     obtain ⟨fn,tmps,assign,body,hy1,hy2⟩:=hX.yield (hx _ _ _ _ hl) hi hr.m0 (fun b ⟨id,hb⟩=>⟨hr.lt id b hb,hr.out id b hb⟩) (all2_pure hpure hargs)
     refine ⟨fun f _=>trivial,?_⟩
     rw [Oper.semAt_eq _ _ _ (by simp)]
     have hrun:(execOp a.eval { dst:=dst,op:=.call { callee:=.value (.tmp f),args:=xs,argTypes:=ts },type:=t,pos:=pos,after:=after,guard:=guard }).run P w=.ok (.round l' fn tmps assign body) w:=by
      simp only [execOp,resolve,hev,Deferred.ofValue,Sem.run_bind,Sem.run_pure,Result.andThen_ok,invoke,map_arr]
      simpa using hy1
     rw [hrun,Oper.uponIn_round]
     refine ⟨fun hd=>by simp [FW] at hd,(hy2 _ _).mono ?_⟩
     rintro e1 w' ⟨b,M0',rfl,hX',hys⟩
     obtain ⟨k1,k2⟩:=hr.yielded (l':=l') (xs':=tr) (i':=i+1) (st' := !b) hl hys
     have hid:0<hp.length:=look_lt (by rw [hl]; simp)
     refine next ⟨true,.v (.s (.bool b))⟩ (.bool b) _ M0' bs w' ⟨fun _=>rfl,by simp⟩ ⟨k1,?_,by rw [hy]; exact k2,by simp [hy]⟩ (hK b)
     intro l2 xs2 i2 st2 ht
     rw [look_set 0 _ 0 hid,if_pos rfl] at ht
     injection ht with q1 q2 q3 q4
     subst q1; subst q2; subst q3; subst q4
     exact hX'
    ·
     exact h.elim
  ·
   split at h
   ·
    rename_i c args heq
    obtain ⟨dst,op,t,pos,after,guard⟩:=o
    simp only at hok hmem heq next ⊢
    unfold effOf at heq
    split at heq
    ·
     rename_i f xs ts _
     cases hc:look g.E f with
     | none=>simp [hc] at heq
     | some c' =>
      simp only [hc,Option.some.injEq,Prod.mk.injEq] at heq
      obtain ⟨rfl,rfl⟩:=heq
      obtain ⟨hent,hcon⟩:=hg.2.2.1 f c' hc
      have hargs:=args_rel hg.1 (e:=e) (a:=a) xs.toList ts.toList (fun x hx=>oper_rel he x (okOps_all (by simp) hok x (by simp [Op.operands,Call.operands]; simp at hx; simp [hx])))
      refine ⟨fun f _=>trivial,?_⟩
      rw [Oper.semAt_eq _ _ _ (by simp)]
      have hrun:(execOp a.eval { dst:=dst,op:=.call { callee:=.value (.func f),args:=xs,argTypes:=ts },type:=t,pos:=pos,after:=after,guard:=guard }).run P w=.ok (.enter f (xs.toList.map a.eval).toArray) w:=by
       have:=hent (xs.toList.map a.eval).toArray w
       simp only [execOp,resolve,Act.eval,Deferred.ofValue,Sem.run_bind,Sem.run_pure,Result.andThen_ok,invoke,map_arr]
       simpa using this
      rw [hrun]
      refine ⟨fun hd=>by simp [FW] at hd,callsIn_FW ((effVC_sound hcon hr h hargs).mono ?_)⟩
      rintro e1 w' ⟨v,rv,hp',bs',rfl,hK,hv,k1,k2⟩
      exact next ⟨true,rv⟩ v hp' _ bs' w' ⟨fun _=>hv,by simp⟩ (.of_step hX hx k1 k2) hK
    ·
     cases heq
   ·
    exact pEv_wp hg hr o (fun x _ hx=>oper_rel he x hx) hok h.1 fun z w' k1 k2 k3=>next ⟨true,_⟩ z hp _ bs w' ⟨fun _=>k1,by simp⟩ (.of_step hX hx k2 k3) h.2
theorem vcOps_step (hg:g.good P) (hX:XOk P X) {n:Nat} {r:Option Nat} {Q:Exit→Act→World→Prop} {K:Env→List Blk→Prop} (ops:Array Oper) (o:Oper) (l:List Oper) (e:Env) (hp:List Blk) (bs:Bs) (a:Act) (w:World)
  (h:vcOps g ops.toList (o::l) e hp K) (hr:HR w M0 bs hp) (hx:XR X w M0 bs hp) (he:relEnv w (Mof M0 bs) bs hp e a) (Kn:Act→World→Prop)
  (next:∀ (x:SL) (z:Value) (hp':List Blk) (M0':Nat→Prop) (bs':Bs) (w':World),relSL w' (Mof M0' bs') bs' hp' x z→Nx P g X w M0 bs hp w' M0' bs' hp'→vcOps g ops.toList l (putE o.dst x e) hp' K→Kn (a.put o.dst z) w') :
  if Region.wanted o (yielded ops a.tmps)=true then o.wpIn (FW r) n P a w Kn Q else (∀ f,o.about P w a.eval=some f→(FW r).fn f)∧Kn (a.put o.dst undef) w:=by
 simp only [vcOps] at h
 cases hgd:o.guard with
 | none =>
  rw [if_pos (by simp [Region.wanted,hgd])]
  simp only [hgd] at h
  exact opVC_sound hg hX o e hp bs a w h hr hx he Kn next
 | some gd =>
  simp only [hgd] at h
  cases hgc:gcond ops.toList e (some gd) with
  | none=>simp [hgc] at h
  | some gc =>
   simp only [hgc] at h
   rw [guard_rel hgc o hgd (fun d _=>getE_rel he d)]
   cases hmem:isMem g.ye o.op with
   | true =>
    simp only [hmem] at h
    cases gc with
    | true=>exact opVC_sound hg hX o e hp bs a w (h.1 rfl) hr hx he Kn next
    | false=>exact ⟨fun _ _=>trivial,next ⟨false,_⟩ undef hp _ bs w ⟨by simp,fun _=>rfl⟩ (.refl hr hx) (h.2 rfl)⟩
   | false =>
    simp only [hmem] at h
    obtain ⟨h1,h3⟩:=h
    cases gc with
    | true =>
     obtain ⟨h1,h2⟩:=h1 rfl
     exact pEv_wp hg hr o (fun x _ hx=>oper_rel he x hx) h1 h2 fun z w' k1 k2 k3=>next ⟨true,_⟩ z hp _ bs w' ⟨fun _=>k1,by simp⟩ (.of_step hX hx k2 k3) h3
    | false =>
     exact ⟨fun _ _=>trivial,next ⟨false,_⟩ undef hp _ bs w ⟨by simp,fun _=>rfl⟩ (.refl hr hx) h3⟩
theorem put_defers (a:Act) (d:Option Nat) (v:Value):(a.put d v).defers=a.defers:=by cases d <;> rfl
def Behind (P:Program) (g:G) (X:XT) (M0:Nat→Prop) (N:Nat) (Q:Exit→Act→World→Prop) (K:Env→List Blk→Prop) (w:World) (bs:Bs) (hp:List Blk) (df:List Deferred):Prop :=
 ∀ e' hp' M0' bs' a' w',K e' hp'→Nx P g X w M0 bs hp w' M0' bs' hp'→relEnv w' (Mof M0' bs') bs' hp' e' a'→a'.tmps.size=N→a'.defers=df→Q .normal a' w'
theorem Behind.step {N:Nat} {Q:Exit→Act→World→Prop} {K:Env→List Blk→Prop} {w':World} {M0':Nat→Prop} {bs':Bs} {hp':List Blk} {df:List Deferred} (h:Behind P g X M0 N Q K w bs hp df)
  (hst:Nx P g X w M0 bs hp w' M0' bs' hp'):Behind P g X M0' N Q K w' bs' hp' df :=
 fun e' hp'' M0'' bs'' a' w'' hk k1 k2 k3 k4=>h e' hp'' M0'' bs'' a' w'' hk (hst.trans k1) k2 k3 k4
theorem vcOps_sound (hg:g.good P) (hX:XOk P X) {N n:Nat} {r:Option Nat} {Q:Exit→Act→World→Prop} {K:Env→List Blk→Prop} (ops:Array Oper) :
  ∀ (l:List Oper) (e:Env) (hp:List Blk) (M0:Nat→Prop) (bs:Bs) (a:Act) (w:World),(∀ o∈l,∀ d,o.dst=some d→d<N)→vcOps g ops.toList l e hp K→HR w M0 bs hp→XR X w M0 bs hp→relEnv w (Mof M0 bs) bs hp e a→a.tmps.size=N →
  Behind P g X M0 N Q K w bs hp a.defers→wpListIn (FW r) n P ops Q l a w:=by
 intro l
 induction l with
 | nil=>intro e hp M0 bs a w _ h hr hx he hN hQ; exact hQ e hp M0 bs a w h (.refl hr hx) he hN rfl
 | cons o l ih =>
  intro e hp M0 bs a w hdst h hr hx he hN hQ
  refine vcOps_step hg hX ops o l e hp bs a w h hr hx he _ ?_
  intro x z hp' M0' bs' w' hx hst hv
  exact ih _ hp' M0' bs' _ w' (fun o' ho'=>hdst o' (by simp [ho'])) hv hst.hr hst.xr (relEnv_put (relEnv_step hst.st he) o.dst x z hx (fun d hd=>by rw [hN]; exact hdst o (by simp) d hd)) (by rw [put_eval]; exact hN)
   (by rw [put_defers]; exact hQ.step hst)
def valAt (g:G) (ops:List Oper) (hp:List Blk) (o:Oper) (e:Env):SL :=
 match o.guard with
 | none=>⟨true,(pEv g hp e o.type o.op).2⟩
 | some gd=>match gcond ops e (some gd) with
  | some gc=>⟨gc,(pEv g hp e o.type o.op).2⟩
  | none=>junk
def envAt (g:G) (ops:List Oper) (hp:List Blk) (e:Env):Nat→Env
 | 0=>e
 | i+1=>match ops[i]? with
  | some o=>putE o.dst (valAt g ops hp o (envAt g ops hp e i)) (envAt g ops hp e i)
  | none=>envAt g ops hp e i
def oblAt (g:G) (ops:List Oper) (hp:List Blk) (o:Oper) (e:Env):Prop :=
 match o.guard with
 | none=>okOps e o.op∧(pEv g hp e o.type o.op).1
 | some gd=>∃ gc,gcond ops e (some gd)=some gc∧(gc=true→okOps e o.op∧(pEv g hp e o.type o.op).1)
theorem isMem_false {y:Bool×List FuncId} {op:Op} (h:isMem y op=false):isMem0 op=false:=by
 unfold isMem at h
 split at h
 ·
  rfl
 ·
  rfl
 ·
  exact h
theorem yieldOf_none {e:Env} {op:Op} (h:isMem g.ye op=false):(if g.y then yieldOf g e op else none)=none:=by
 cases hy:g.y with
 | false=>simp
 | true =>
  simp only [if_true]
  unfold yieldOf
  split
  ·
   simp [isMem,hy] at h
  ·
   rfl
theorem look_ids {α:Type}:∀ {l:List (Nat×α)} {f:Nat} {c:α},look l f=some c→(l.map (·.1)).contains f=true
 | [],f,c,h=>by simp [look] at h
 | (k,x)::r,f,c,h=>by
  simp only [look] at h
  split at h
  ·
   rename_i e; subst e; simp
  ·
   have:=look_ids h
   simp only [List.map_cons,List.contains_cons,this,Bool.or_true]
theorem effOf_none {e:Env} {op:Op} (h:isMem g.ye op=false):effOf g e op=none:=by
 unfold effOf
 split
 ·
  rename_i f xs ts
  split
  ·
   rename_i c hc
   simp only [isMem] at h
   rw [look_ids hc] at h
   cases h
  ·
   rfl
 ·
  rfl
theorem opVC_quiet {e:Env} {o:Oper} {K:SL→List Blk→Prop} (h:opVC g e hp o K) (hm:isMem g.ye o.op=false):okOps e o.op∧(pEv g hp e o.type o.op).1∧K ⟨true,(pEv g hp e o.type o.op).2⟩ hp:=by
 obtain ⟨h1,h2⟩:=h
 rw [isMem_false hm,yieldOf_none hm] at h2
 simp only [effOf_none hm] at h2
 exact ⟨h1,h2⟩
theorem vc_pre {ops:List Oper} {e:Env} {K:Env→List Blk→Prop} (h:vcOps g ops ops e hp K):∀ (i:Nat),(∀ j o,j<i→ops[j]?=some o→isMem g.ye o.op=false)→i≤ops.length →
  vcOps g ops (ops.drop i) (envAt g ops hp e i) hp K∧∀ j o,j<i→ops[j]?=some o→oblAt g ops hp o (envAt g ops hp e j):=by
 intro i
 induction i with
 | zero=>intro _ _; exact ⟨by simpa [envAt] using h,fun j o hj=>by omega⟩
 | succ i ih =>
  intro hm hi
  obtain ⟨h1,h2⟩:=ih (fun j o hj=>hm j o (by omega)) (by omega)
  have hlt:i<ops.length:=by omega
  have ho:ops[i]?=some ops[i]:=List.getElem?_eq_getElem hlt
  rw [List.drop_eq_getElem_cons hlt] at h1
  have hmem:=hm i _ (by omega) ho
  simp only [vcOps] at h1
  have key:vcOps g ops (ops.drop (i+1)) (envAt g ops hp e (i+1)) hp K∧oblAt g ops hp ops[i] (envAt g ops hp e i):=by
   simp only [envAt,ho,valAt,oblAt]
   cases hgd:ops[i].guard with
   | none =>
    simp only [hgd] at h1
    obtain ⟨q1,q2,q3⟩:=opVC_quiet h1 hmem
    exact ⟨q3,q1,q2⟩
   | some gd =>
    simp only [hgd] at h1
    cases hgc:gcond ops (envAt g ops hp e i) (some gd) with
    | none=>simp [hgc] at h1
    | some gc =>
     simp only [hgc,hmem] at h1 ⊢
     exact ⟨h1.2,gc,rfl,h1.1⟩
  refine ⟨key.1,fun j o hj hjo => ?_⟩
  rcases Nat.lt_succ_iff_lt_or_eq.1 hj with hlt' | rfl
  ·
   exact h2 j o hlt' hjo
  ·
   rw [ho] at hjo; cases hjo; exact key.2
theorem getE_put (d:Option Nat) (x:SL) (e:Env) (s:Nat):getE (putE d x e) s=if d=some s then x else getE e s:=by
 cases d with
 | none=>simp [putE]
 | some k =>
  simp only [putE,getE,look]
  by_cases h:k=s
  ·
   subst h; simp
  ·
   simp [h]
theorem envAt_get (ops:List Oper) (e:Env) (s:Nat):∀ i,i≤ops.length →
  (∃ j o,j<i∧ops[j]?=some o∧o.dst=some s∧getE (envAt g ops hp e i) s=valAt g ops hp o (envAt g ops hp e j)) ∨
  ((∀ j o,j<i→ops[j]?=some o→o.dst≠some s)∧getE (envAt g ops hp e i) s=getE e s):=by
 intro i
 induction i with
 | zero=>intro _; right; exact ⟨fun j o hj=>by omega,rfl⟩
 | succ i ih =>
  intro hi
  have hlt:i<ops.length:=by omega
  have ho:ops[i]?=some ops[i]:=List.getElem?_eq_getElem hlt
  simp only [envAt,ho]
  rw [getE_put]
  by_cases hd:ops[i].dst=some s
  ·
   left
   exact ⟨i,_,by omega,ho,hd,by rw [if_pos hd]⟩
  ·
   rw [if_neg hd]
   rcases ih (by omega) with ⟨j,o,h1,h2,h3,h4⟩ | ⟨h1,h2⟩
   ·
    exact .inl ⟨j,o,by omega,h2,h3,h4⟩
   ·
    refine .inr ⟨fun j o hj hjo => ?_,h2⟩
    rcases Nat.lt_succ_iff_lt_or_eq.1 hj with hlt' | rfl
    ·
     exact h1 j o hlt' hjo
    ·
     rw [ho] at hjo; cases hjo; exact hd
theorem mem_temps {t:Nat}:∀ {l:List Operand},Operand.tmp t∈l→t∈temps l
 | .tmp u::l,h=>by
  simp only [temps,List.mem_cons] at h ⊢
  rcases h with h | h
  ·
   injection h with h; exact .inl h
  ·
   exact .inr (mem_temps h)
 | .const _::l,h=>by
  simp only [temps,List.mem_cons] at h ⊢
  rcases h with h | h
  ·
   cases h
  ·
   exact mem_temps h
 | .global _::l,h=>by
  simp only [temps,List.mem_cons] at h ⊢
  rcases h with h | h
  ·
   cases h
  ·
   exact mem_temps h
 | .func _::l,h=>by
  simp only [temps,List.mem_cons] at h ⊢
  rcases h with h | h
  ·
   cases h
  ·
   exact mem_temps h
theorem drawOk_spec {y:Bool×List FuncId} {ops:List Oper} {m:Nat} (h:drawOk y ops m=true) {i:Nat} {o:Oper} (ho:ops[i]?=some o) :
  (∀ k∈edg o,k<i)∧(i<m→isMem y o.op=false∧(∀ t∈temps o.op.operands.toList,∀ j,j<m→dstIs ops j t=true→j<i∧j∈edg o)∧(∀ gd,o.guard=some gd→gd.1<m∧gd.1∈edg o) ∧
   (∀ j,j<m→j≠i→∀ d,o.dst=some d→dstIs ops j d=false))∧(m≤i→∀ k,k<i→k∈(clo ops []).getD i []):=by
 unfold drawOk at h
 rw [List.all_eq_true] at h
 have hi:=(List.getElem?_eq_some_iff.1 ho).1
 have h1:=h i (by simpa using hi)
 rw [ho] at h1
 simp only [Bool.and_eq_true,List.all_eq_true,decide_eq_true_eq] at h1
 obtain ⟨h1,h2⟩:=h1
 refine ⟨h1,fun hlt => ?_,fun hge => ?_⟩
 ·
  rw [if_pos hlt] at h2
  simp only [Bool.and_eq_true,List.all_eq_true,Bool.not_eq_true',List.mem_range,Bool.or_eq_true,decide_eq_true_eq,beq_iff_eq] at h2
  obtain ⟨⟨⟨q1,q2⟩,q3⟩,q4⟩:=h2
  refine ⟨q1,fun t ht j hj hd => ?_,fun gd hgd => ?_,fun j hj hne d hd => ?_⟩
  ·
   rcases q2 t ht j hj with q | q
   ·
    rw [hd] at q; cases q
   ·
    exact ⟨q.1,by simpa using q.2⟩
  ·
   rw [hgd] at q3
   obtain ⟨x,y⟩:=gd
   simp only [Bool.and_eq_true,decide_eq_true_eq] at q3
   exact ⟨q3.1,by simpa using q3.2⟩
  ·
   have:=q4 j hj
   rw [hd] at this
   simpa [hne] using this
 ·
  rw [if_neg (by omega)] at h2
  simp only [List.all_eq_true,List.mem_range] at h2
  exact fun k hk=>by simpa using h2 k hk
def Closed (ops:List Oper) (p:Nat→Prop):Prop:=∀ i o,ops[i]?=some o→p i→∀ k∈edg o,p k
theorem clo_spec {ops:List Oper} {p:Nat→Prop} (hp':Closed ops p):∀ (l:List Oper) (acc:List (List Nat)),(∀ j,l[j]?=ops[acc.length+j]?) →
  (∀ i o,i<acc.length→ops[i]?=some o→(∀ k∈edg o,p k)→∀ k∈acc.getD i [],p k)→(∀ i o,ops[i]?=some o→∀ k∈edg o,k<i) →
  ∀ i o,i<acc.length+l.length→ops[i]?=some o→(∀ k∈edg o,p k)→∀ k∈(clo l acc).getD i [],p k:=by
 intro l
 induction l with
 | nil=>intro acc _ ha _ i o hi ho hk k hkm; exact ha i o (by simpa using hi) ho hk k hkm
 | cons o l ih =>
  intro acc hl ha hlt i o' hi ho' hk k hkm
  simp only [clo] at hkm
  refine ih (acc++[edg o++(edg o).flatMap fun j=>acc.getD j []]) (fun j => ?_) ?_ hlt i o' (by simp at hi ⊢; omega) ho' hk k hkm
  ·
   have:=hl (j+1)
   simp only [List.getElem?_cons_succ] at this
   rw [this,List.length_append]; congr 1; simp; omega
  ·
   intro i o' hi ho' hk k hkm
   simp only [List.getD_eq_getElem?_getD] at hkm
   rcases Nat.lt_or_ge i acc.length with h | h
   ·
    rw [List.getElem?_append_left h] at hkm
    exact ha i o' h ho' hk k (by rw [List.getD_eq_getElem?_getD]; exact hkm)
   ·
    have hie:i=acc.length:=by simp at hi; omega
    subst hie
    simp at hkm
    have h0:=hl 0
    simp at h0
    rw [← h0] at ho'
    cases ho'
    rcases hkm with hkm | ⟨j,hj,hkm⟩
    ·
     exact hk k hkm
    ·
     have hjp:=hk j hj
     have hjlt:=hlt acc.length o (by rw [← h0]) j hj
     obtain ⟨oj,hoj⟩:∃ oj,ops[j]?=some oj:=⟨_,List.getElem?_eq_getElem (by have:=(List.getElem?_eq_some_iff.1 h0.symm).1; omega)⟩
     exact ha j oj hjlt hoj (hp' j oj hoj hjp) k (by rw [List.getD_eq_getElem?_getD]; exact hkm)
theorem filter_le {α:Type} (p q:α→Bool) (h:∀ x,q x=true→p x=true):∀ (l:List α),(l.filter q).length≤(l.filter p).length
 | []=>Nat.le_refl _
 | x::l=>by
  have ih:=filter_le p q h l
  simp only [List.filter_cons]
  cases hq:q x with
  | true=>rw [h x hq]; simpa using ih
  | false=>cases p x <;> simp <;> omega
theorem filter_lt {α:Type} (p q:α→Bool) (h:∀ x,q x=true→p x=true) (i:α) (hp1:p i=true) (hq1:q i=false):∀ (l:List α),i∈l→(l.filter q).length<(l.filter p).length
 | [],hi=>by cases hi
 | x::l,hi=>by
  simp only [List.filter_cons]
  by_cases e:i=x
  ·
   subst e
   rw [hp1,hq1]
   have:=filter_le p q h l
   simp; omega
  ·
   have hi':i∈l:=by cases hi with
    | head=>exact absurd rfl e
    | tail _ hm=>exact hm
   have ih:=filter_lt p q h i hp1 hq1 l hi'
   cases hq:q x with
   | true=>rw [h x hq]; simpa using ih
   | false=>cases p x <;> simp <;> omega
theorem getD_tf {listed:Array Bool} {j:Nat} (h:j<listed.size):listed.getD j true=listed.getD j false:=by
 simp [Array.getD_eq_getD_getElem?,h]
theorem set_get (listed:Array Bool) (i j:Nat) (h:i<listed.size):(listed.setIfInBounds i true).getD j true=(if i=j then true else listed.getD j true):=by
 by_cases e:i=j
 ·
  subst e; simp [Array.getD_eq_getD_getElem?,h]
 ·
  simp only [Array.getD_eq_getD_getElem?,if_neg e]
  rw [Array.getElem?_setIfInBounds_ne e]
theorem phaseB (hg:g.good P) (hX:XOk P X) {N n:Nat} {r:Option Nat} {Q:Exit→Act→World→Prop} {K:Env→List Blk→Prop} (ops:Array Oper) (hdst:∀ o∈ops.toList,∀ d,o.dst=some d→d<N)
  (hlt:∀ i o,ops.toList[i]?=some o→∀ k∈edg o,k<i) :
  ∀ (fuel i:Nat) (listed:Array Bool) (e:Env) (hp:List Blk) (M0:Nat→Prop) (bs:Bs) (a:Act) (w:World),listed.size=ops.size→(∀ j,j<ops.size→(listed.getD j true=true↔j<i))→i≤ops.size→ops.size - i≤fuel →
  (∀ j,i≤j→j<ops.size→∀ k,k<j→k∈(clo ops.toList []).getD j []) →
  vcOps g ops.toList (ops.toList.drop i) e hp K→HR w M0 bs hp→XR X w M0 bs hp→relEnv w (Mof M0 bs) bs hp e a→a.tmps.size=N→Behind P g X M0 N Q K w bs hp a.defers→wpAnyIn (FW r) n P .any ops Q fuel listed a w:=by
 intro fuel
 induction fuel with
 | zero =>
  intro i listed e hp M0 bs a w hsz hl hi hf _ hv hr hx he hN hQ
  have hie:i=ops.size:=by omega
  subst hie
  refine ⟨?_,?_⟩
  ·
   cases hr':Region.ready .any ops listed with
   | nil=>rfl
   | cons j js =>
    have:j∈Region.ready .any ops listed:=by rw [hr']; simp
    obtain ⟨h1,o,ho,_⟩:=mem_ready.1 this
    have hj:=(Array.getElem?_eq_some_iff.1 ho).1
    rw [(hl j hj).2 hj] at h1; cases h1
  ·
   rw [List.drop_of_length_le (by simp)] at hv
   exact hQ e hp M0 bs a w hv (.refl hr hx) he hN rfl
 | succ fuel ih =>
  intro i listed e hp M0 bs a w hsz hl hi hf hforce hv hr hx he hN hQ
  have hready:∀ j∈Region.ready .any ops listed,j=i∧i<ops.size:=by
   intro j hj
   obtain ⟨h1,o,ho,h2⟩:=mem_ready.1 hj
   have hjs:=(Array.getElem?_eq_some_iff.1 ho).1
   have hji:¬ j<i:=fun h=>by rw [(hl j hjs).2 h] at h1; cases h1
   refine ⟨?_,by omega⟩
   rcases Nat.lt_or_ge i j with hij | hij
   ·
    exfalso
    have hcl:Closed ops.toList (fun k=>listed.getD k true=true∧k<ops.size):=by
     intro k ok hok hk q hq
     have hk2:=(List.getElem?_eq_some_iff.1 hok).1
     simp only [Array.length_toList] at hk2
     have:=hlt k ok hok q hq
     have hki:=(hl k hk2).1 hk.1
     exact ⟨(hl q (by omega)).2 (by omega),by omega⟩
    have:=clo_spec hcl ops.toList [] (by simp) (fun i o h=>by simp at h) hlt j o (by simpa using hjs) (by simpa using ho) (fun q hq=>by
     simp only [edg,List.mem_map,List.mem_filter] at hq
     obtain ⟨ed,⟨hed,hb⟩,rfl⟩:=hq
     have hqlt:=hlt j o (by simpa using ho) ed.on (by simp only [edg,List.mem_map,List.mem_filter]; exact ⟨ed,⟨hed,hb⟩,rfl⟩)
     have:=h2 ed (by simpa using hed) hb
     exact ⟨by rw [getD_tf (by omega)]; exact this,by omega⟩) i (hforce j (by omega) hjs i hij)
    exact absurd ((hl i (by omega)).1 this.1) (by omega)
   ·
    omega
  refine ⟨fun hnil => ?_,fun j hj => ?_⟩
  ·
   rcases Nat.lt_or_ge i ops.size with hilt | hige
   ·
    exfalso
    have ho:ops[i]?=some ops[i]:=Array.getElem?_eq_getElem hilt
    have:i∈Region.ready .any ops listed:=mem_ready.2 ⟨by
     cases hli:listed.getD i true with
     | false=>rfl
     | true=>exact absurd ((hl i hilt).1 hli) (by omega),_,ho,fun ed hed hb=>by
     have hk:=hlt i _ (by rw [Array.getElem?_toList]; exact ho) ed.on (by simp only [edg,List.mem_map,List.mem_filter]; exact ⟨ed,⟨by simpa using hed,hb⟩,rfl⟩)
     rw [← getD_tf (by omega)]
     exact (hl ed.on (by omega)).2 hk⟩
    rw [hnil] at this; cases this
   ·
    have hie:i=ops.size:=by omega
    subst hie
    rw [List.drop_of_length_le (by simp)] at hv
    exact hQ e hp M0 bs a w hv (.refl hr hx) he hN rfl
  ·
   obtain ⟨rfl,hjs⟩:=hready j hj
   have ho:ops[j]?=some ops[j]:=Array.getElem?_eq_getElem hjs
   rw [List.drop_eq_getElem_cons (by simpa using hjs)] at hv
   unfold wpOpIn
   rw [ho]
   simp only [Array.getElem_toList] at hv
   refine vcOps_step hg hX ops ops[j] _ e hp bs a w hv hr hx he _ ?_
   intro x z hp' M0' bs' w' hx hst hv'
   refine ih (j+1) _ _ hp' M0' bs' _ w' (by simp [hsz]) (fun k hk => ?_) hjs (by omega) (fun k hk hk2=>hforce k (by omega) hk2) hv' hst.hr hst.xr
    (relEnv_put (relEnv_step hst.st he) _ x z hx (fun d hd=>by rw [hN]; exact hdst ops[j] (by simp) d hd)) (by rw [put_eval]; exact hN) (by rw [put_defers]; exact hQ.step hst)
   rw [set_get _ _ _ (by omega)]
   by_cases e:j=k
   ·
    subst e; simp
   ·
    rw [if_neg e,hl k hk]; omega
structure InvA (g:G) (X:XT) (M0:Nat→Prop) (ops:List Oper) (m:Nat) (e:Env) (bs:Bs) (hp:List Blk) (listed:Array Bool) (a:Act) (w:World):Prop where
 size:listed.size=ops.length
 pre:∀ i,m≤i→i<ops.length→listed.getD i true=false
 closed:∀ i o,ops[i]?=some o→listed.getD i true=true→∀ k∈edg o,listed.getD k true=true
 hr:HR w M0 bs hp
 xr:XR X w M0 bs hp
 done:∀ j o,j<m→ops[j]?=some o→listed.getD j true=true→∀ d,o.dst=some d→relSL w (Mof M0 bs) bs hp (valAt g ops hp o (envAt g ops hp e j)) (a.tmps.getD d undef)
 old:∀ s,(∀ j,j<m→dstIs ops j s=false)→relSL w (Mof M0 bs) bs hp (getE e s) (a.tmps.getD s undef)
theorem dstIs_of {ops:List Oper} {j:Nat} {o:Oper} {s:Nat} (ho:ops[j]?=some o) (hd:o.dst=some s):dstIs ops j s=true:=by simp [dstIs,ho,hd]
theorem dstIs_not {ops:List Oper} {j:Nat} {s:Nat} (h:dstIs ops j s=true):∃ o,ops[j]?=some o∧o.dst=some s:=by
 unfold dstIs at h
 cases ho:ops[j]? with
 | none=>simp [ho] at h
 | some o=>simp [ho] at h; exact ⟨o,rfl,h⟩
theorem least_not {p:Nat→Bool} {m:Nat} (h:∃ i,i<m∧p i=false):∃ i,i<m∧p i=false∧∀ k,k<i→p k=true:=by
 induction m with
 | zero=>obtain ⟨i,h1,_⟩:=h; omega
 | succ m ih =>
  by_cases hm:∃ i,i<m∧p i=false
  ·
   obtain ⟨i,h1,h2,h3⟩:=ih hm
   exact ⟨i,by omega,h2,h3⟩
  ·
   obtain ⟨i,h1,h2⟩:=h
   have hi:i=m:=by
    rcases Nat.lt_or_ge i m with h | h
    ·
     exact absurd ⟨i,h,h2⟩ hm
    ·
     omega
   subst hi
   refine ⟨i,h1,h2,fun k hk => ?_⟩
   cases hpk:p k with
   | true=>rfl
   | false=>exact absurd ⟨k,hk,hpk⟩ hm
theorem getD_put {a:Act} {d:Option Nat} {z:Value} (s:Nat) (h:d≠some s):(a.put d z).tmps.getD s undef=a.tmps.getD s undef:=by
 cases d with
 | none=>rfl
 | some k =>
  have hk:k≠s:=fun e=>h (by rw [e])
  simp only [Act.put,Array.getD_eq_getD_getElem?]
  rw [Array.getElem?_setIfInBounds_ne hk]
theorem getD_put_same {a:Act} {k:Nat} {z:Value} (h:k<a.tmps.size):(a.put (some k) z).tmps.getD k undef=z:=by
 simp [Act.put,Array.getD_eq_getD_getElem?,h]
theorem phaseA (hg:g.good P) (hX:XOk P X) {N n:Nat} {r:Option Nat} {Q:Exit→Act→World→Prop} {K:Env→List Blk→Prop} (ops:Array Oper) (hdst:∀ o∈ops.toList,∀ d,o.dst=some d→d<N) (m:Nat) (hm:m≤ops.size)
  (hok:drawOk g.ye ops.toList m=true) (e:Env) (hp:List Blk) (bs:Bs) (hv:vcOps g ops.toList ops.toList e hp K) :
  ∀ (fuel:Nat) (listed:Array Bool) (a:Act) (w:World),InvA g X M0 ops.toList m e bs hp listed a w→a.tmps.size=N→Behind P g X M0 N Q K w bs hp a.defers →
  ((List.range m).filter (fun j => !listed.getD j true)).length+(ops.size - m)≤fuel→wpAnyIn (FW r) n P .any ops Q fuel listed a w:=by
 have hlt:∀ i o,ops.toList[i]?=some o→∀ k∈edg o,k<i:=fun i o ho=>(drawOk_spec hok ho).1
 obtain ⟨hvm,hobl⟩:=vc_pre hv m (fun j o hj ho=>((drawOk_spec hok ho).2.1 hj).1) (by simpa using hm)
 have hsizes:ops.toList.length=ops.size:=by simp
 intro fuel
 induction fuel with
 | zero =>
  intro listed a w hI hN hQ hf
  have hall:∀ i,i<m→listed.getD i true=true:=by
   intro i hi
   cases hli:listed.getD i true with
   | true=>rfl
   | false =>
    have:i∈(List.range m).filter (fun j => !listed.getD j true):=List.mem_filter.2 ⟨List.mem_range.2 hi,by rw [hli]; rfl⟩
    have:=List.length_pos_of_mem this
    omega
  refine phaseB hg hX ops hdst hlt 0 m listed (envAt g ops.toList hp e m) hp M0 bs a w (by rw [hI.size,hsizes]) (fun j hj=>⟨fun h => ?_,fun h=>hall j h⟩) hm (by omega)
   (fun j hj hj2 k hk=>(drawOk_spec hok (List.getElem?_eq_getElem (by simpa using hj2))).2.2 hj k hk) hvm hI.hr hI.xr ?_ hN hQ
  ·
   rcases Nat.lt_or_ge j m with h' | h'
   ·
    exact h'
   ·
    rw [hI.pre j h' (by omega)] at h; cases h
  ·
   intro s x hx
   have hgx:getE (envAt g ops.toList hp e m) s=x:=by simp [getE,hx]
   rw [← hgx]
   rcases envAt_get (g:=g) (hp:=hp) ops.toList e s m (by simpa using hm) with ⟨j,o,h1,h2,h3,h4⟩ | ⟨h1,h2⟩
   ·
    rw [h4]; exact hI.done j o h1 h2 (hall j h1) s h3
   ·
    rw [h2]; refine hI.old s fun j hj => ?_
    cases hds:dstIs ops.toList j s with
    | false=>rfl
    | true=>obtain ⟨o,ho,hd⟩:=dstIs_not hds; exact absurd hd (h1 j o hj ho)
 | succ fuel ih =>
  intro listed a w hI hN hQ hf
  by_cases hall:∀ i,i<m→listed.getD i true=true
  ·
   refine phaseB hg hX ops hdst hlt (fuel+1) m listed (envAt g ops.toList hp e m) hp M0 bs a w (by rw [hI.size,hsizes]) (fun j hj=>⟨fun h => ?_,fun h=>hall j h⟩) hm (by omega)
    (fun j hj hj2 k hk=>(drawOk_spec hok (List.getElem?_eq_getElem (by simpa using hj2))).2.2 hj k hk) hvm hI.hr hI.xr ?_ hN hQ
   ·
    rcases Nat.lt_or_ge j m with h' | h'
    ·
     exact h'
    ·
     rw [hI.pre j h' (by omega)] at h; cases h
   ·
    intro s x hx
    have hgx:getE (envAt g ops.toList hp e m) s=x:=by simp [getE,hx]
    rw [← hgx]
    rcases envAt_get (g:=g) (hp:=hp) ops.toList e s m (by simpa using hm) with ⟨j,o,h1,h2,h3,h4⟩ | ⟨h1,h2⟩
    ·
     rw [h4]; exact hI.done j o h1 h2 (hall j h1) s h3
    ·
     rw [h2]; refine hI.old s fun j hj => ?_
     cases hds:dstIs ops.toList j s with
     | false=>rfl
     | true=>obtain ⟨o,ho,hd⟩:=dstIs_not hds; exact absurd hd (h1 j o hj ho)
  ·
   have hex:∃ i,i<m∧listed.getD i true=false:=by
    apply Classical.byContradiction
    intro hne
    refine hall fun i hi => ?_
    cases hli:listed.getD i true with
    | true=>rfl
    | false=>exact absurd ⟨i,hi,hli⟩ hne
   obtain ⟨i0,hi0,hi1,hi2⟩:=least_not (p:=fun i=>listed.getD i true) hex
   have hls:listed.size=ops.size:=by rw [hI.size,hsizes]
   refine ⟨fun hnil => ?_,fun j hj => ?_⟩
   ·
    exfalso
    have hio:ops[i0]?=some ops[i0]:=Array.getElem?_eq_getElem (by omega)
    have:i0∈Region.ready .any ops listed:=mem_ready.2 ⟨hi1,_,hio,fun ed hed hb=>by
     have hk:=hlt i0 _ (by rw [Array.getElem?_toList]; exact hio) ed.on (by simp only [edg,List.mem_map,List.mem_filter]; exact ⟨ed,⟨by simpa using hed,hb⟩,rfl⟩)
     rw [← getD_tf (by omega)]
     exact hi2 ed.on hk⟩
    rw [hnil] at this; cases this
   ·
    obtain ⟨h1,o,ho,h2⟩:=mem_ready.1 hj
    have hjs:=(Array.getElem?_eq_some_iff.1 ho).1
    have hol:ops.toList[j]?=some o:=by rw [Array.getElem?_toList]; exact ho
    obtain ⟨d1,d2,d3⟩:=drawOk_spec hok hol
    have hedg:∀ k∈edg o,listed.getD k true=true:=by
     intro k hk
     have hk0:=hk
     simp only [edg,List.mem_map,List.mem_filter] at hk
     obtain ⟨ed,⟨hed,hb⟩,rfl⟩:=hk
     have:=d1 ed.on hk0
     rw [getD_tf (by omega)]
     exact h2 ed (by simpa using hed) hb
    have hjm:j<m:=by
     rcases Nat.lt_or_ge j m with h | h
     ·
      exact h
     ·
      exfalso
      have hcl:Closed ops.toList (fun k=>listed.getD k true=true):=fun k ok hok' hk q hq=>hI.closed k ok hok' hk q hq
      have:=clo_spec hcl ops.toList [] (by simp) (fun i o h=>by simp at h) hlt j o (by simpa using hjs) hol hedg i0 (d3 h i0 (by omega))
      rw [hi1] at this; cases this
    obtain ⟨q1,q2,q3,q4⟩:=d2 hjm
    have hob:=hobl j o hjm hol
    have hslot:∀ t,(∀ j',j'<m→dstIs ops.toList j' t=true→j'<j∧j'∈edg o)→relSL w (Mof M0 bs) bs hp (getE (envAt g ops.toList hp e j) t) (a.tmps.getD t undef):=by
     intro t ht
     rcases envAt_get (g:=g) (hp:=hp) ops.toList e t j (by simp; omega) with ⟨j',o',k1,k2,k3,k4⟩ | ⟨k1,k2⟩
     ·
      rw [k4]
      exact hI.done j' o' (by omega) k2 (hedg j' (ht j' (by omega) (dstIs_of k2 k3)).2) t k3
     ·
      rw [k2]
      refine hI.old t fun j' hj' => ?_
      cases hds:dstIs ops.toList j' t with
      | false=>rfl
      | true =>
       obtain ⟨o',ho',hd'⟩:=dstIs_not hds
       exact absurd hd' (k1 j' o' (ht j' hj' hds).1 ho')
    have hops:∀ x∈o.op.operands.toList,(oper (envAt g ops.toList hp e j) x).ok=true→relRV w (Mof M0 bs) bs hp (opRV (envAt g ops.toList hp e j) x) (a.eval x):=by
     intro x hx hxo
     cases x with
     | tmp t=>exact (hslot t (fun j' hj' hds=>q2 t (mem_temps hx) j' hj' hds)).1 hxo
     | const v=>cases v <;> exact rfl
     | func f=>exact ⟨[],rfl,.nil⟩
     | global n=>trivial
    have next:∀ (z:Value) (w':World),relSL w' (Mof M0 bs) bs hp (valAt g ops.toList hp o (envAt g ops.toList hp e j)) z→HR w' M0 bs hp→Step false w (Mof M0 bs) bs hp w' (Mof M0 bs) bs hp →
      wpAnyIn (FW r) n P .any ops Q fuel (listed.setIfInBounds j true) (a.put o.dst z) w':=by
     intro z w' hz hr' hst
     refine ih _ _ w' ⟨by simp [hI.size],?_,?_,hr',hI.xr.step hX hst hr'.lt,?_,?_⟩ (by rw [put_eval]; exact hN) (by rw [put_defers]; exact hQ.step (.of_step hX hI.xr hr' hst)) ?_
     ·
      intro i hmi hi
      rw [set_get _ _ _ (by omega),if_neg (by omega)]
      exact hI.pre i hmi hi
     ·
      intro i oi hoi hli k hk
      rw [set_get _ _ _ (by omega)] at hli ⊢
      by_cases e1:j=k
      ·
       rw [if_pos e1]
      ·
       rw [if_neg e1]
       by_cases e2:j=i
       ·
        subst e2; rw [hol] at hoi; cases hoi; exact hedg k hk
       ·
        rw [if_neg e2] at hli; exact hI.closed i oi hoi hli k hk
     ·
      intro j' o' hj' ho' hl' d hd
      by_cases e1:j=j'
      ·
       subst e1
       rw [hol] at ho'; cases ho'
       rw [hd,getD_put_same (by rw [hN]; exact hdst o (List.mem_of_getElem? hol) d hd)]
       exact hz
      ·
       have hne:o.dst≠some d:=fun h=>by
        have:=q4 j' hj' (fun e=>e1 e.symm) d h
        rw [dstIs_of ho' hd] at this; cases this
       rw [getD_put d hne]
       rw [set_get _ _ _ (by omega),if_neg e1] at hl'
       exact relSL_step hst _ _ (hI.done j' o' hj' ho' hl' d hd)
     ·
      intro s hs
      have hne:o.dst≠some s:=fun h=>by
       have:=hs j hjm
       rw [dstIs_of hol h] at this; cases this
      rw [getD_put s hne]
      exact relSL_step hst _ _ (hI.old s hs)
     ·
      have:=filter_lt (fun k => !listed.getD k true) (fun k => !(listed.setIfInBounds j true).getD k true) (fun x hx=>by
       simp only [set_get _ _ _ (show j<listed.size by omega)] at hx
       by_cases e1:j=x
       ·
        rw [if_pos e1] at hx; simp at hx
       ·
        rw [if_neg e1] at hx; exact hx) j (by simp [h1]) (by simp [set_get _ _ _ (show j<listed.size by omega)]) (List.range m) (by simpa using hjm)
      omega
    unfold wpOpIn
    rw [ho]
    simp only
    unfold oblAt at hob
    unfold valAt at next
    cases hgd:o.guard with
    | none =>
     rw [if_pos (by simp [Region.wanted,hgd])]
     simp only [hgd] at hob next
     exact pEv_wp hg hI.hr o hops hob.1 hob.2 fun z w' k1 k2 k3=>next z w' ⟨fun _=>k1,by simp⟩ k2 k3
    | some gd =>
     simp only [hgd] at hob next
     obtain ⟨gc,hgc,hob⟩:=hob
     simp only [hgc] at next
     obtain ⟨q5,q6⟩:=q3 gd hgd
     rw [guard_rel (ops:=ops) hgc o hgd (fun d hd=>hslot d (fun j' hj' hds=>by
      have hgo:∃ og,ops.toList[gd.1]?=some og∧og.dst=some d:=by
       rw [Array.getElem?_toList]
       cases hog:ops[gd.1]? with
       | none=>simp [hog] at hd
       | some og=>simp [hog] at hd; exact ⟨og,rfl,hd⟩
      obtain ⟨og,hog,hogd⟩:=hgo
      have hjg:j'=gd.1:=by
       apply Classical.byContradiction
       intro hne
       have:=((drawOk_spec hok hog).2.1 q5).2.2.2 j' hj' hne d hogd
       rw [hds] at this; cases this
      subst hjg
      exact ⟨d1 _ q6,q6⟩))]
     cases gc with
     | true =>
      obtain ⟨k1,k2⟩:=hob rfl
      exact pEv_wp hg hI.hr o hops k1 k2 fun z w' k1 k2 k3=>next z w' ⟨fun _=>k1,by simp⟩ k2 k3
     | false=>exact ⟨fun _ _=>trivial,next undef w ⟨by simp,fun _=>rfl⟩ hI.hr (Step.refl _ _ _ _)⟩
theorem region_sound (hg:g.good P) (hX:XOk P X) (hm:P.follows .mixedOrders=true) {N n:Nat} {r:Option Nat} {Q:Exit→Act→World→Prop} {K:Env→List Blk→Prop} (id:Nat) (ops:Array Oper) (draw:Bool) (hok:regionOk g.ye N ops.toList draw=true)
  (e:Env) (hp:List Blk) (bs:Bs) (a:Act) (w:World) (hv:vcOps g ops.toList ops.toList e hp K) (hr:HR w M0 bs hp) (hx:XR X w M0 bs hp) (he:relEnv w (Mof M0 bs) bs hp e a) (hN:a.tmps.size=N) (hQ:Behind P g X M0 N Q K w bs hp a.defers) :
  (Code.region id ops draw).wpIn (FW r) n P Q a w:=by
 unfold regionOk at hok
 simp only [Bool.and_eq_true,List.all_eq_true] at hok
 obtain ⟨h1,h2⟩:=hok
 have hdst:∀ o∈ops.toList,∀ d,o.dst=some d→d<N:=fun o ho d hd=>by have:=h1 o ho; rw [hd] at this; simpa using this
 cases draw with
 | false=>exact wpIn_region_list (vcOps_sound hg hX ops ops.toList e hp M0 bs a w hdst hv hr hx he hN hQ)
 | true =>
  simp only [Bool.not_true,Bool.false_or,List.any_eq_true,List.mem_range] at h2
  obtain ⟨m,hm1,hm2⟩:=h2
  refine wpIn_region_any hm ?_
  obtain ⟨k1,k2⟩:=hr.keep_drew
  refine phaseA hg hX ops hdst m (by simp at hm1; omega) hm2 e hp bs hv _ _ a _ ⟨by simp,?_,?_,k1,hx.step hX k2 k1.lt,?_,?_⟩ hN (hQ.step (.of_step hX hx k1 k2)) ?_
  ·
   intro i _ hi; simp at hi; simp [Array.getD_eq_getD_getElem?,hi]
  ·
   intro i o ho hl
   have hi:=(List.getElem?_eq_some_iff.1 ho).1
   simp at hi
   simp [Array.getD_eq_getD_getElem?,hi] at hl
  ·
   intro j o hj ho hl
   have hi:=(List.getElem?_eq_some_iff.1 ho).1
   simp at hi
   simp [Array.getD_eq_getD_getElem?,hi] at hl
  ·
   intro s _; exact relSL_step k2 _ _ (getE_rel he s)
  ·
   have:=List.length_filter_le (fun j => !(Array.replicate ops.size false).getD j true) (List.range m)
   simp at this hm1 ⊢
   omega
def readyL (ops:List Oper) (done:List Nat):List Nat :=
 (List.range ops.length).filter fun j => !done.contains j&&match ops[j]? with
  | some o=>(edg o).all fun k=>done.contains k
  | none=>false
def allP:List Nat→(Nat→Prop)→Prop
 | [],_=>True
 | j::r,f=>f j∧allP r f
theorem allP_mem {f:Nat→Prop}:∀ {l:List Nat},allP l f→∀ j∈l,f j
 | [],_,j,h=>by cases h
 | k::r,h,j,hj=>by
  cases hj with
  | head=>exact h.1
  | tail _ hj=>exact allP_mem h.2 j hj
def vcAll (g:G) (ops:List Oper):Nat→List Nat→Env→List Blk→(Env→List Blk→Prop)→Prop
 | 0,done,e,hp,K=>(readyL ops done).isEmpty=true∧K e hp
 | f+1,done,e,hp,K=>((readyL ops done).isEmpty=true→K e hp)∧allP (readyL ops done) fun j=>match ops[j]? with
  | some o=>vcOps g ops [o] e hp fun e' hp'=>vcAll g ops f (j::done) e' hp' K
  | none=>False
theorem ready_eq {ops:Array Oper} {listed:Array Bool} {done:List Nat} (hsz:listed.size=ops.size) (hd:∀ j,listed.getD j false=done.contains j) (j:Nat):j∈Region.ready .any ops listed↔j∈readyL ops.toList done:=by
 rw [mem_ready,readyL,List.mem_filter,List.mem_range]
 constructor
 ·
  rintro ⟨h1,o,ho,h2⟩
  have hj:=(Array.getElem?_eq_some_iff.1 ho).1
  refine ⟨by simpa using hj,?_⟩
  rw [getD_tf (by omega),hd] at h1
  rw [Array.getElem?_toList,ho]
  simp only [Bool.and_eq_true,Bool.not_eq_true',List.all_eq_true]
  refine ⟨h1,fun k hk => ?_⟩
  simp only [edg,List.mem_map,List.mem_filter] at hk
  obtain ⟨ed,⟨hed,hb⟩,rfl⟩:=hk
  rw [← hd]; exact h2 ed (by simpa using hed) hb
 ·
  rintro ⟨h1,h2⟩
  have hj:j<ops.size:=by simpa using h1
  have ho:ops[j]?=some ops[j]:=Array.getElem?_eq_getElem hj
  rw [Array.getElem?_toList,ho] at h2
  simp only [Bool.and_eq_true,Bool.not_eq_true',List.all_eq_true] at h2
  refine ⟨by rw [getD_tf (by omega),hd]; exact h2.1,_,ho,fun ed hed hb => ?_⟩
  rw [hd]
  exact h2.2 ed.on (by simp only [edg,List.mem_map,List.mem_filter]; exact ⟨ed,⟨by simpa using hed,hb⟩,rfl⟩)
theorem vcAll_sound (hg:g.good P) (hX:XOk P X) {N n:Nat} {r:Option Nat} {Q:Exit→Act→World→Prop} {K:Env→List Blk→Prop} (ops:Array Oper) (hdst:∀ o∈ops.toList,∀ d,o.dst=some d→d<N) :
  ∀ (fuel:Nat) (done:List Nat) (listed:Array Bool) (e:Env) (hp:List Blk) (M0:Nat→Prop) (bs:Bs) (a:Act) (w:World),listed.size=ops.size→(∀ j,listed.getD j false=done.contains j)→vcAll g ops.toList fuel done e hp K →
  HR w M0 bs hp→XR X w M0 bs hp→relEnv w (Mof M0 bs) bs hp e a→a.tmps.size=N→Behind P g X M0 N Q K w bs hp a.defers→wpAnyIn (FW r) n P .any ops Q fuel listed a w:=by
 intro fuel
 induction fuel with
 | zero =>
  intro done listed e hp M0 bs a w hsz hd hv hr hx he hN hQ
  refine ⟨?_,hQ e hp M0 bs a w hv.2 (.refl hr hx) he hN rfl⟩
  cases hr':Region.ready .any ops listed with
  | nil=>rfl
  | cons j js =>
   have:j∈readyL ops.toList done:=(ready_eq hsz hd j).1 (by rw [hr']; simp)
   rw [List.isEmpty_iff.1 hv.1] at this; cases this
 | succ fuel ih =>
  intro done listed e hp M0 bs a w hsz hd hv hr hx he hN hQ
  obtain ⟨hv1,hv2⟩:=hv
  refine ⟨fun hnil => ?_,fun j hj => ?_⟩
  ·
   refine hQ e hp M0 bs a w (hv1 ?_) (.refl hr hx) he hN rfl
   cases hr':readyL ops.toList done with
   | nil=>rfl
   | cons j js =>
    have:j∈Region.ready .any ops listed:=(ready_eq hsz hd j).2 (by rw [hr']; simp)
    rw [hnil] at this; cases this
  ·
   have hjr:=(ready_eq hsz hd j).1 hj
   have hvj:=allP_mem hv2 j hjr
   obtain ⟨_,o,ho,_⟩:=mem_ready.1 hj
   have hjs:=(Array.getElem?_eq_some_iff.1 ho).1
   rw [Array.getElem?_toList,ho] at hvj
   simp only at hvj
   unfold wpOpIn
   rw [ho]
   simp only
   have hmem:o∈ops.toList:=List.mem_of_getElem? (by rw [Array.getElem?_toList]; exact ho)
   refine vcOps_step hg hX ops o [] e hp bs a w hvj hr hx he _ ?_
   intro x z hp' M0' bs' w' hx' hst hv'
   refine ih (j::done) _ _ hp' M0' bs' _ w' (by simp [hsz]) (fun k => ?_) hv' hst.hr hst.xr (relEnv_put (relEnv_step hst.st he) _ x z hx' (fun d hd=>by rw [hN]; exact hdst o hmem d hd)) (by rw [put_eval]; exact hN) (by rw [put_defers]; exact hQ.step hst)
   simp only [Array.getD_eq_getD_getElem?,List.contains_cons]
   by_cases e1:j=k
   ·
    subst e1; simp [hsz,hjs]
   ·
    rw [Array.getElem?_setIfInBounds_ne e1,← Array.getD_eq_getD_getElem?,hd]
    have:(k==j)=false:=by simp; exact fun h=>e1 h.symm
    rw [this]; rfl
def dstOk (N:Nat) (ops:List Oper):Bool:=ops.all (fun o=>match o.dst with | some d=>d<N | none=>true)
theorem region_all (hg:g.good P) (hX:XOk P X) (hm:P.follows .mixedOrders=true) {N n:Nat} {r:Option Nat} {Q:Exit→Act→World→Prop} {K:Env→List Blk→Prop} (id:Nat) (ops:Array Oper) (hok:dstOk N ops.toList=true)
  (e:Env) (hp:List Blk) (bs:Bs) (a:Act) (w:World) (hv:vcAll g ops.toList ops.toList.length [] e hp K) (hr:HR w M0 bs hp) (hx:XR X w M0 bs hp) (he:relEnv w (Mof M0 bs) bs hp e a) (hN:a.tmps.size=N) (hQ:Behind P g X M0 N Q K w bs hp a.defers) :
  (Code.region id ops true).wpIn (FW r) n P Q a w:=by
 have hdst:∀ o∈ops.toList,∀ d,o.dst=some d→d<N:=by
  unfold dstOk at hok
  rw [List.all_eq_true] at hok
  intro o ho d hd
  have:=hok o ho; rw [hd] at this; simpa using this
 refine wpIn_region_any hm ?_
 obtain ⟨k1,k2⟩:=hr.keep_drew
 have hn:Nx P g X w M0 bs hp { w with drawn:=w.drawn+1 } M0 bs hp:=.of_step hX hx k1 k2
 rw [show ops.size=ops.toList.length by simp]
 refine vcAll_sound hg hX ops hdst _ [] _ e hp M0 bs a _ (by simp) (fun j => ?_) hv hn.hr hn.xr (relEnv_step k2 he) hN (hQ.step hn)
 simp only [Array.getD_eq_getD_getElem?]
 cases h:(Array.replicate ops.toList.length false)[j]? with
 | none=>rfl
 | some b =>
  have:=(Array.getElem?_eq_some_iff.1 h)
  obtain ⟨h1,h2⟩:=this
  simp at h2; subst h2; rfl
end
def hpFree:Op→Bool
 | .move _=>true
 | .assign _=>true
 | .pick ..=>true
 | .binOp ..=>true
 | .unOp ..=>true
 | .extract ..=>true
 | .convert ..=>true
 | .buildSlice _ _ ps=>ps.toList.isEmpty
 | .call { callee:=.value (.func _),.. }=>true
 | _=>false
section
variable {P:Program} {g:G} {X:XT} {w:World} {M0:Nat→Prop} {bs:Bs} {hp:List Blk}
theorem hpFree_eq {op:Op} (h:hpFree op=true) (hp hp':List Blk) (e:Env) (t:TypeId):pEv g hp e t op=pEv g hp' e t op:=by
 cases op
 case call c =>
  obtain ⟨callee,args,argTypes⟩:=c
  cases callee
  case value f=>cases f <;> first | rfl | (simp [hpFree] at h)
  all_goals simp [hpFree] at h
 case buildSlice u len ps =>
  obtain ⟨ps⟩:=ps
  cases ps with
  | cons x r=>simp [hpFree] at h
  | nil =>
   simp only [pEv,buildSliceEv,List.map_nil,fillSV]
   cases g.td u <;> try rfl
   rename_i e ety b
   simp only
   cases ety.parses len (List.replicate (len*ety.size) SV.any) <;> rfl
 all_goals first | rfl | (simp [hpFree] at h)
theorem isMem0_isMem {y:Bool×List FuncId} {op:Op} (h:isMem0 op=true):isMem y op=true:=by
 unfold isMem
 split
 ·
  simp [isMem0] at h
 ·
  simp [isMem0] at h
 ·
  exact h
def valF (g:G) (ops:List Oper) (o:Oper) (s:Env×List Blk):SL:=match isMem0 o.op with
 | true=>match gcond ops s.1 o.guard with
  | some true=>⟨true,(mEv g s.2 s.1 o.op).2.1⟩
  | _=>⟨false,.v (.s .any)⟩
 | false=>valAt g ops s.2 o s.1
def hpF (g:G) (ops:List Oper) (o:Oper) (s:Env×List Blk):List Blk:=match isMem0 o.op with
 | true=>match gcond ops s.1 o.guard with
  | some true=>(mEv g s.2 s.1 o.op).2.2
  | _=>s.2
 | false=>s.2
def stAt (g:G) (ops:List Oper) (s:Env×List Blk):Nat→Env×List Blk
 | 0=>s
 | i+1=>match ops[i]? with
  | some o=>(putE o.dst (valF g ops o (stAt g ops s i)) (stAt g ops s i).1,hpF g ops o (stAt g ops s i))
  | none=>stAt g ops s i
def oblF (g:G) (ops:List Oper) (o:Oper) (s:Env×List Blk):Prop:=match isMem0 o.op with
 | true=>∃ gc,gcond ops s.1 o.guard=some gc∧(gc=true→okOps s.1 o.op∧(mEv g s.2 s.1 o.op).1)
 | false=>oblAt g ops s.2 o s.1
def flIn (y:Bool×List FuncId) (o:Oper):Bool := !isMem y o.op||isMem0 o.op
theorem vc_preF {ops:List Oper} {e:Env} {K:Env→List Blk→Prop} (h:vcOps g ops ops e hp K):∀ (i:Nat),(∀ j o,j<i→ops[j]?=some o→flIn g.ye o=true)→i≤ops.length →
  vcOps g ops (ops.drop i) (stAt g ops (e,hp) i).1 (stAt g ops (e,hp) i).2 K∧∀ j o,j<i→ops[j]?=some o→oblF g ops o (stAt g ops (e,hp) j):=by
 intro i
 induction i with
 | zero=>intro _ _; exact ⟨by simpa [stAt] using h,fun j o hj=>by omega⟩
 | succ i ih =>
  intro hm hi
  obtain ⟨h1,h2⟩:=ih (fun j o hj=>hm j o (by omega)) (by omega)
  have hlt:i<ops.length:=by omega
  have ho:ops[i]?=some ops[i]:=List.getElem?_eq_getElem hlt
  rw [List.drop_eq_getElem_cons hlt] at h1
  have hmem:=hm i _ (by omega) ho
  simp only [vcOps] at h1
  have key:vcOps g ops (ops.drop (i+1)) (stAt g ops (e,hp) (i+1)).1 (stAt g ops (e,hp) (i+1)).2 K∧oblF g ops ops[i] (stAt g ops (e,hp) i):=by
   simp only [stAt,ho,valF,hpF,oblF]
   cases hm0:isMem0 ops[i].op with
   | true =>
    cases hgd:ops[i].guard with
    | none =>
     simp only [hgd] at h1
     obtain ⟨q1,q2⟩:=h1
     simp only [hm0] at q2
     exact ⟨q2.2,true,rfl,fun _=>⟨q1,q2.1⟩⟩
    | some gd =>
     simp only [hgd] at h1
     cases hgc:gcond ops (stAt g ops (e,hp) i).1 (some gd) with
     | none=>simp [hgc] at h1
     | some gc =>
      have hme:isMem g.ye ops[i].op=true:=isMem0_isMem hm0
      simp only [hgc,hme] at h1 ⊢
      cases gc with
      | true =>
       obtain ⟨q1,q2⟩:=h1.1 rfl
       simp only [hm0] at q2
       exact ⟨q2.2,true,rfl,fun _=>⟨q1,q2.1⟩⟩
      | false=>exact ⟨h1.2 rfl,false,rfl,fun h=>by cases h⟩
   | false =>
    have hmem:isMem g.ye ops[i].op=false:=by
     unfold flIn at hmem
     rw [hm0] at hmem
     simpa using hmem
    simp only [valAt,oblAt]
    cases hgd:ops[i].guard with
    | none =>
     simp only [hgd] at h1
     obtain ⟨q1,q2,q3⟩:=opVC_quiet h1 hmem
     exact ⟨q3,q1,q2⟩
    | some gd =>
     simp only [hgd] at h1
     cases hgc:gcond ops (stAt g ops (e,hp) i).1 (some gd) with
     | none=>simp [hgc] at h1
     | some gc =>
      simp only [hgc,hmem] at h1 ⊢
      exact ⟨h1.2,gc,rfl,h1.1⟩
  refine ⟨key.1,fun j o hj hjo => ?_⟩
  rcases Nat.lt_succ_iff_lt_or_eq.1 hj with hlt' | rfl
  ·
   exact h2 j o hlt' hjo
  ·
   rw [ho] at hjo; cases hjo; exact key.2
theorem stAt_get (ops:List Oper) (s0:Env×List Blk) (s:Nat):∀ i,i≤ops.length →
  (∃ j o,j<i∧ops[j]?=some o∧o.dst=some s∧getE (stAt g ops s0 i).1 s=valF g ops o (stAt g ops s0 j)) ∨
  ((∀ j o,j<i→ops[j]?=some o→o.dst≠some s)∧getE (stAt g ops s0 i).1 s=getE s0.1 s):=by
 intro i
 induction i with
 | zero=>intro _; right; exact ⟨fun j o hj=>by omega,rfl⟩
 | succ i ih =>
  intro hi
  have hlt:i<ops.length:=by omega
  have ho:ops[i]?=some ops[i]:=List.getElem?_eq_getElem hlt
  simp only [stAt,ho]
  rw [getE_put]
  by_cases hd:ops[i].dst=some s
  ·
   left
   exact ⟨i,_,by omega,ho,hd,by rw [if_pos hd]⟩
  ·
   rw [if_neg hd]
   rcases ih (by omega) with ⟨j,o,h1,h2,h3,h4⟩ | ⟨h1,h2⟩
   ·
    exact .inl ⟨j,o,by omega,h2,h3,h4⟩
   ·
    refine .inr ⟨fun j o hj hjo => ?_,h2⟩
    rcases Nat.lt_succ_iff_lt_or_eq.1 hj with hlt' | rfl
    ·
     exact h1 j o hlt' hjo
    ·
     rw [ho] at hjo; cases hjo; exact hd
def memAt (y:Bool×List FuncId) (ops:List Oper) (k:Nat):Bool:=match ops[k]? with
 | some o=>isMem y o.op
 | none=>false
theorem stAt_const {ops:List Oper} {s0:Env×List Blk} {y:Bool×List FuncId} {q:Nat}:∀ (m:Nat),q≤m→(∀ k,q≤k→k<m→memAt y ops k=false)→(stAt g ops s0 m).2=(stAt g ops s0 q).2:=by
 intro m
 induction m with
 | zero=>intro h _; rw [show q=0 by omega]
 | succ m ih =>
  intro h hk
  rcases Nat.lt_or_ge m q with hm | hm
  ·
   rw [show q=m+1 by omega]
  ·
   rw [← ih hm fun k h1 h2=>hk k h1 (by omega)]
   have:=hk m hm (by omega)
   simp only [stAt]
   cases ho:ops[m]? with
   | none=>rfl
   | some o =>
    simp only [memAt,ho] at this
    simp only [hpF,isMem_false this]
def vers (y:Bool×List FuncId) (ops:List Oper) (m:Nat):List Nat:=0::((List.range m).filter (memAt y ops)).map (·+1)
def clash (y:Bool×List FuncId) (ops:List Oper) (m i q:Nat):Bool :=
 (List.range m).any fun k=>memAt y ops k&&((((clo ops []).getD i []).contains k && !(decide (k<q)))||(((clo ops []).getD k []).contains i&&decide (k<q)))
def drawFl (y:Bool×List FuncId) (ops:List Oper) (m:Nat) (ps:List (Nat×Nat)):Bool :=
 (List.range ops.length).all fun i=>match ops[i]? with
  | none=>true
  | some o=>(edg o).all (fun k=>k<i) &&
   (if i<m then
    (temps o.op.operands.toList).all (fun t=>(List.range m).all fun j => !dstIs ops j t||(j<i&&(edg o).contains j)) &&
    (match o.guard with
     | none=>true
     | some (j,_)=>j<m&&(edg o).contains j) &&
    (List.range m).all (fun j=>j==i||(match o.dst with
     | some d => !dstIs ops j d
     | none=>true)) &&
    (if isMem y o.op then isMem0 o.op&&(List.range i).all (fun k => !memAt y ops k||((clo ops []).getD i []).contains k)
     else hpFree o.op||(vers y ops m).all fun q=>clash y ops m i q||ps.contains (i,q))
   else (List.range i).all fun k=>((clo ops []).getD i []).contains k)
theorem drawFl_spec {y:Bool×List FuncId} {ops:List Oper} {m:Nat} {ps:List (Nat×Nat)} (h:drawFl y ops m ps=true) {i:Nat} {o:Oper} (ho:ops[i]?=some o) :
  (∀ k∈edg o,k<i)∧(i<m→(∀ t∈temps o.op.operands.toList,∀ j,j<m→dstIs ops j t=true→j<i∧j∈edg o)∧(∀ gd,o.guard=some gd→gd.1<m∧gd.1∈edg o) ∧
   (∀ j,j<m→j≠i→∀ d,o.dst=some d→dstIs ops j d=false) ∧
   (isMem y o.op=true→isMem0 o.op=true∧∀ k,k<i→memAt y ops k=true→k∈(clo ops []).getD i []) ∧
   (isMem y o.op=false→hpFree o.op=true∨∀ q∈vers y ops m,clash y ops m i q=true∨(i,q)∈ps)) ∧
  (m≤i→∀ k,k<i→k∈(clo ops []).getD i []):=by
 unfold drawFl at h
 rw [List.all_eq_true] at h
 have hi:=(List.getElem?_eq_some_iff.1 ho).1
 have h1:=h i (by simpa using hi)
 rw [ho] at h1
 simp only [Bool.and_eq_true,List.all_eq_true,decide_eq_true_eq] at h1
 obtain ⟨h1,h2⟩:=h1
 refine ⟨h1,fun hlt => ?_,fun hge => ?_⟩
 ·
  rw [if_pos hlt] at h2
  simp only [Bool.and_eq_true,List.all_eq_true,Bool.not_eq_true',List.mem_range,Bool.or_eq_true,decide_eq_true_eq,beq_iff_eq] at h2
  obtain ⟨⟨⟨q2,q3⟩,q4⟩,q5⟩:=h2
  refine ⟨fun t ht j hj hd => ?_,fun gd hgd => ?_,fun j hj hne d hd => ?_,fun hm => ?_,fun hm => ?_⟩
  ·
   rcases q2 t ht j hj with q | q
   ·
    rw [hd] at q; cases q
   ·
    exact ⟨q.1,by simpa using q.2⟩
  ·
   rw [hgd] at q3
   obtain ⟨x,y⟩:=gd
   simp only [Bool.and_eq_true,decide_eq_true_eq] at q3
   exact ⟨q3.1,by simpa using q3.2⟩
  ·
   have:=q4 j hj
   rw [hd] at this
   simpa [hne] using this
  ·
   rw [if_pos hm] at q5
   simp only [Bool.and_eq_true,List.all_eq_true,List.mem_range,Bool.or_eq_true,Bool.not_eq_true'] at q5
   refine ⟨q5.1,fun k hk hmk => ?_⟩
   rcases q5.2 k hk with q | q
   ·
    rw [hmk] at q; cases q
   ·
    simpa using q
  ·
   rw [if_neg (by rw [hm]; decide)] at q5
   simp only [Bool.or_eq_true,List.all_eq_true] at q5
   refine q5.imp id fun q v hv=>(q v hv).imp id fun q=>by simpa using q
 ·
  rw [if_neg (by omega)] at h2
  simp only [List.all_eq_true,List.mem_range] at h2
  exact fun k hk=>by simpa using h2 k hk
def eqAt (g:G) (ops:List Oper) (i:Nat) (s s':Env×List Blk):Prop:=match ops[i]? with
 | some o=>(pEv g s'.2 s.1 o.type o.op).1∧(pEv g s'.2 s.1 o.type o.op).2=(pEv g s.2 s.1 o.type o.op).2
 | none=>True
def floatAt (g:G) (ops:List Oper) (s0:Env×List Blk) (ps:List (Nat×Nat)):Prop:=∀ p∈ps,eqAt g ops p.1 (stAt g ops s0 p.1) (stAt g ops s0 p.2)
structure InvF (g:G) (X:XT) (M0:Nat→Prop) (ops:List Oper) (m:Nat) (s0:Env×List Blk) (q:Nat) (bs:Bs) (listed:Array Bool) (a:Act) (w:World):Prop where
 size:listed.size=ops.length
 pre:∀ i,m≤i→i<ops.length→listed.getD i true=false
 closed:∀ i o,ops[i]?=some o→listed.getD i true=true→∀ k∈edg o,listed.getD k true=true
 ver:∀ k,k<m→memAt g.ye ops k=true→(listed.getD k true=true↔k<q)
 qin:q∈vers g.ye ops m
 hr:HR w M0 bs (stAt g ops s0 q).2
 xr:XR X w M0 bs (stAt g ops s0 q).2
 done:∀ j o,j<m→ops[j]?=some o→listed.getD j true=true→∀ d,o.dst=some d→relSL w (Mof M0 bs) bs (stAt g ops s0 q).2 (valF g ops o (stAt g ops s0 j)) (a.tmps.getD d undef)
 old:∀ s,(∀ j,j<m→dstIs ops j s=false)→relSL w (Mof M0 bs) bs (stAt g ops s0 q).2 (getE s0.1 s) (a.tmps.getD s undef)
theorem vers_le {y:Bool×List FuncId} {ops:List Oper} {m q:Nat} (h:q∈vers y ops m):q≤m:=by
 simp only [vers,List.mem_cons,List.mem_map,List.mem_filter,List.mem_range] at h
 rcases h with rfl | ⟨k,⟨hk,_⟩,rfl⟩ <;> omega
theorem InvF.finish {ops:List Oper} {m:Nat} {s0:Env×List Blk} {q:Nat} {listed:Array Bool} {a:Act} (hm:m≤ops.length) (hI:InvF g X M0 ops m s0 q bs listed a w) (hall:∀ i,i<m→listed.getD i true=true) :
  (stAt g ops s0 m).2=(stAt g ops s0 q).2∧relEnv w (Mof M0 bs) bs (stAt g ops s0 m).2 (stAt g ops s0 m).1 a:=by
 have hc:(stAt g ops s0 m).2=(stAt g ops s0 q).2:=by
  refine stAt_const (y:=g.ye) m (vers_le hI.qin) fun k h1 h2 => ?_
  cases hk:memAt g.ye ops k with
  | false=>rfl
  | true =>
   have:=(hI.ver k h2 hk).1 (hall k h2)
   omega
 refine ⟨hc,?_⟩
 rw [hc]
 intro s x hx
 have hgx:getE (stAt g ops s0 m).1 s=x:=by simp [getE,hx]
 rw [← hgx]
 rcases stAt_get (g:=g) ops s0 s m hm with ⟨j,o,h1,h2,h3,h4⟩ | ⟨h1,h2⟩
 ·
  rw [h4]; exact hI.done j o h1 h2 (hall j h1) s h3
 ·
  rw [h2]; refine hI.old s fun j hj => ?_
  cases hds:dstIs ops j s with
  | false=>rfl
  | true=>obtain ⟨o,ho,hd⟩:=dstIs_not hds; exact absurd hd (h1 j o hj ho)
theorem phaseF (hg:g.good P) (hX:XOk P X) {N n:Nat} {r:Option Nat} {Q:Exit→Act→World→Prop} {K:Env→List Blk→Prop} (ops:Array Oper) (hdst:∀ o∈ops.toList,∀ d,o.dst=some d→d<N) (m:Nat) (hm:m≤ops.size) (ps:List (Nat×Nat))
  (hok:drawFl g.ye ops.toList m ps=true) (e:Env) (hp:List Blk) (hv:vcOps g ops.toList ops.toList e hp K) (hfl:floatAt g ops.toList (e,hp) ps) :
  ∀ (fuel:Nat) (q:Nat) (bs:Bs) (listed:Array Bool) (a:Act) (w:World),InvF g X M0 ops.toList m (e,hp) q bs listed a w→a.tmps.size=N→Behind P g X M0 N Q K w bs (stAt g ops.toList (e,hp) q).2 a.defers →
  ((List.range m).filter (fun j => !listed.getD j true)).length+(ops.size - m)≤fuel→wpAnyIn (FW r) n P .any ops Q fuel listed a w:=by
 have hlt:∀ i o,ops.toList[i]?=some o→∀ k∈edg o,k<i:=fun i o ho=>(drawFl_spec hok ho).1
 obtain ⟨hvm,hobl⟩:=vc_preF hv m (fun j o hj ho=>by
  obtain ⟨_,_,_,h4,_⟩:=(drawFl_spec hok ho).2.1 hj
  unfold flIn
  cases hm:isMem g.ye o.op with
  | false=>rfl
  | true=>obtain ⟨k1,_⟩:=h4 hm; rw [k1]; rfl) (by simpa using hm)
 have hsizes:ops.toList.length=ops.size:=by simp
 have hend:∀ (fuel q:Nat) (bs:Bs) (listed:Array Bool) (a:Act) (w:World),InvF g X M0 ops.toList m (e,hp) q bs listed a w→a.tmps.size=N→Behind P g X M0 N Q K w bs (stAt g ops.toList (e,hp) q).2 a.defers →
   (∀ i,i<m→listed.getD i true=true)→ops.size - m≤fuel→wpAnyIn (FW r) n P .any ops Q fuel listed a w:=by
  intro fuel q bs listed a w hI hN hQ hall hf
  obtain ⟨hc,hre⟩:=hI.finish (by simpa using hm) hall
  refine phaseB hg hX ops hdst hlt fuel m listed _ _ M0 bs a w (by rw [hI.size,hsizes]) (fun j hj=>⟨fun h => ?_,fun h=>hall j h⟩) hm hf
   (fun j hj hj2 k hk=>(drawFl_spec hok (List.getElem?_eq_getElem (by simpa using hj2))).2.2 hj k hk) hvm (by rw [hc]; exact hI.hr) (by rw [hc]; exact hI.xr) hre hN (by rw [hc]; exact hQ)
  rcases Nat.lt_or_ge j m with h' | h'
  ·
   exact h'
  ·
   rw [hI.pre j h' (by omega)] at h; cases h
 intro fuel
 induction fuel with
 | zero =>
  intro q bs listed a w hI hN hQ hf
  refine hend 0 q bs listed a w hI hN hQ (fun i hi => ?_) (by omega)
  cases hli:listed.getD i true with
  | true=>rfl
  | false =>
   have:i∈(List.range m).filter (fun j => !listed.getD j true):=List.mem_filter.2 ⟨List.mem_range.2 hi,by rw [hli]; rfl⟩
   have:=List.length_pos_of_mem this
   omega
 | succ fuel ih =>
  intro q bs listed a w hI hN hQ hf
  by_cases hall:∀ i,i<m→listed.getD i true=true
  ·
   exact hend (fuel+1) q bs listed a w hI hN hQ hall (by omega)
  ·
   have hex:∃ i,i<m∧listed.getD i true=false:=by
    apply Classical.byContradiction
    intro hne
    refine hall fun i hi => ?_
    cases hli:listed.getD i true with
    | true=>rfl
    | false=>exact absurd ⟨i,hi,hli⟩ hne
   obtain ⟨i0,hi0,hi1,hi2⟩:=least_not (p:=fun i=>listed.getD i true) hex
   have hls:listed.size=ops.size:=by rw [hI.size,hsizes]
   refine ⟨fun hnil => ?_,fun j hj => ?_⟩
   ·
    exfalso
    have hio:ops[i0]?=some ops[i0]:=Array.getElem?_eq_getElem (by omega)
    have:i0∈Region.ready .any ops listed:=mem_ready.2 ⟨hi1,_,hio,fun ed hed hb=>by
     have hk:=hlt i0 _ (by rw [Array.getElem?_toList]; exact hio) ed.on (by simp only [edg,List.mem_map,List.mem_filter]; exact ⟨ed,⟨by simpa using hed,hb⟩,rfl⟩)
     rw [← getD_tf (by omega)]
     exact hi2 ed.on hk⟩
    rw [hnil] at this; cases this
   ·
    obtain ⟨h1,o,ho,h2⟩:=mem_ready.1 hj
    have hjs:=(Array.getElem?_eq_some_iff.1 ho).1
    have hol:ops.toList[j]?=some o:=by rw [Array.getElem?_toList]; exact ho
    obtain ⟨d1,d2,d3⟩:=drawFl_spec hok hol
    have hedg:∀ k∈edg o,listed.getD k true=true:=by
     intro k hk
     have hk0:=hk
     simp only [edg,List.mem_map,List.mem_filter] at hk
     obtain ⟨ed,⟨hed,hb⟩,rfl⟩:=hk
     have:=d1 ed.on hk0
     rw [getD_tf (by omega)]
     exact h2 ed (by simpa using hed) hb
    have hcl:Closed ops.toList (fun k=>listed.getD k true=true):=fun k ok hok' hk q hq=>hI.closed k ok hok' hk q hq
    have hclo:∀ k∈(clo ops.toList []).getD j [],listed.getD k true=true:=clo_spec hcl ops.toList [] (by simp) (fun i o h=>by simp at h) hlt j o (by simpa using hjs) hol hedg
    have hjm:j<m:=by
     rcases Nat.lt_or_ge j m with h | h
     ·
      exact h
     ·
      exfalso
      have:=hclo i0 (d3 h i0 (by omega))
      rw [hi1] at this; cases this
    obtain ⟨q2,q3,q4,qm,qf⟩:=d2 hjm
    have hob:=hobl j o hjm hol
    have hslot:∀ t,(∀ j',j'<m→dstIs ops.toList j' t=true→j'<j∧j'∈edg o)→relSL w (Mof M0 bs) bs (stAt g ops.toList (e,hp) q).2 (getE (stAt g ops.toList (e,hp) j).1 t) (a.tmps.getD t undef):=by
     intro t ht
     rcases stAt_get (g:=g) ops.toList (e,hp) t j (by simp; omega) with ⟨j',o',k1,k2,k3,k4⟩ | ⟨k1,k2⟩
     ·
      rw [k4]
      exact hI.done j' o' (by omega) k2 (hedg j' (ht j' (by omega) (dstIs_of k2 k3)).2) t k3
     ·
      rw [k2]
      refine hI.old t fun j' hj' => ?_
      cases hds:dstIs ops.toList j' t with
      | false=>rfl
      | true =>
       obtain ⟨o',ho',hd'⟩:=dstIs_not hds
       exact absurd hd' (k1 j' o' (ht j' hj' hds).1 ho')
    have hops:∀ x∈o.op.operands.toList,(oper (stAt g ops.toList (e,hp) j).1 x).ok=true→relRV w (Mof M0 bs) bs (stAt g ops.toList (e,hp) q).2 (opRV (stAt g ops.toList (e,hp) j).1 x) (a.eval x):=by
     intro x hx hxo
     cases x with
     | tmp t=>exact (hslot t (fun j' hj' hds=>q2 t (mem_temps hx) j' hj' hds)).1 hxo
     | const v=>cases v <;> exact rfl
     | func f=>exact ⟨[],rfl,.nil⟩
     | global n=>trivial
    have next:∀ (q':Nat) (bs':Bs) (z:Value) (w':World),q'∈vers g.ye ops.toList m→(∀ k,k<m→memAt g.ye ops.toList k=true→((listed.setIfInBounds j true).getD k true=true↔k<q')) →
      relSL w' (Mof M0 bs') bs' (stAt g ops.toList (e,hp) q').2 (valF g ops.toList o (stAt g ops.toList (e,hp) j)) z→HR w' M0 bs' (stAt g ops.toList (e,hp) q').2 →
      Step false w (Mof M0 bs) bs (stAt g ops.toList (e,hp) q).2 w' (Mof M0 bs') bs' (stAt g ops.toList (e,hp) q').2 →
      wpAnyIn (FW r) n P .any ops Q fuel (listed.setIfInBounds j true) (a.put o.dst z) w':=by
     intro q' bs' z w' hq' hver hz hr' hst
     refine ih q' bs' _ _ w' ⟨by simp [hI.size],?_,?_,hver,hq',hr',hI.xr.step hX hst hr'.lt,?_,?_⟩ (by rw [put_eval]; exact hN) (by rw [put_defers]; exact hQ.step (.of_step hX hI.xr hr' hst)) ?_
     ·
      intro i hmi hi
      rw [set_get _ _ _ (by omega),if_neg (by omega)]
      exact hI.pre i hmi hi
     ·
      intro i oi hoi hli k hk
      rw [set_get _ _ _ (by omega)] at hli ⊢
      by_cases e1:j=k
      ·
       rw [if_pos e1]
      ·
       rw [if_neg e1]
       by_cases e2:j=i
       ·
        subst e2; rw [hol] at hoi; cases hoi; exact hedg k hk
       ·
        rw [if_neg e2] at hli; exact hI.closed i oi hoi hli k hk
     ·
      intro j' o' hj' ho' hl' d hd
      by_cases e1:j=j'
      ·
       subst e1
       rw [hol] at ho'; cases ho'
       rw [hd,getD_put_same (by rw [hN]; exact hdst o (List.mem_of_getElem? hol) d hd)]
       exact hz
      ·
       have hne:o.dst≠some d:=fun h=>by
        have:=q4 j' hj' (fun e=>e1 e.symm) d h
        rw [dstIs_of ho' hd] at this; cases this
       rw [getD_put d hne]
       rw [set_get _ _ _ (by omega),if_neg e1] at hl'
       exact relSL_step hst _ _ (hI.done j' o' hj' ho' hl' d hd)
     ·
      intro s hs
      have hne:o.dst≠some s:=fun h=>by
       have:=hs j hjm
       rw [dstIs_of hol h] at this; cases this
      rw [getD_put s hne]
      exact relSL_step hst _ _ (hI.old s hs)
     ·
      have:=filter_lt (fun k => !listed.getD k true) (fun k => !(listed.setIfInBounds j true).getD k true) (fun x hx=>by
       simp only [set_get _ _ _ (show j<listed.size by omega)] at hx
       by_cases e1:j=x
       ·
        rw [if_pos e1] at hx; simp at hx
       ·
        rw [if_neg e1] at hx; exact hx) j (by simp [h1]) (by simp [set_get _ _ _ (show j<listed.size by omega)]) (List.range m) (by simpa using hjm)
      omega
    unfold wpOpIn
    rw [ho]
    simp only
    unfold oblF at hob
    cases hmo:isMem g.ye o.op with
    | true =>
     obtain ⟨m0,mc⟩:=qm hmo
     simp only [m0] at hob
     obtain ⟨gc,hgc,hob⟩:=hob
     have hmj:memAt g.ye ops.toList j=true:=by simp only [memAt,hol]; exact hmo
     have hqj:q≤j:=by
      rcases Nat.lt_or_ge j q with h | h
      ·
       have:=(hI.ver j hjm hmj).2 h
       rw [h1] at this; cases this
      ·
       exact h
     have hcur:(stAt g ops.toList (e,hp) j).2=(stAt g ops.toList (e,hp) q).2:=by
      refine stAt_const (y:=g.ye) j hqj fun k k1 k2 => ?_
      cases hk:memAt g.ye ops.toList k with
      | false=>rfl
      | true =>
       have:=(hI.ver k (by omega) hk).1 (hclo k (mc k k2 hk))
       omega
     have hvin:j+1∈vers g.ye ops.toList m:=by
      simp only [vers,List.mem_cons,List.mem_map,List.mem_filter,List.mem_range]
      exact .inr ⟨j,⟨hjm,hmj⟩,rfl⟩
     have hvv:∀ k,k<m→memAt g.ye ops.toList k=true→((listed.setIfInBounds j true).getD k true=true↔k<j+1):=by
      intro k hk hmk
      rw [set_get _ _ _ (by omega)]
      by_cases e1:j=k
      ·
       subst e1; simp
      ·
       rw [if_neg e1,hI.ver k hk hmk]
       constructor
       ·
        intro h; omega
       ·
        intro h
        exact (hI.ver k hk hmk).1 (hclo k (mc k (by omega) hmk))
     have hnxt:gc=true→(stAt g ops.toList (e,hp) (j+1)).2=(mEv g (stAt g ops.toList (e,hp) j).2 (stAt g ops.toList (e,hp) j).1 o.op).2.2:=by
      intro hgt
      subst hgt
      simp only [stAt,hol,hpF,m0,hgc]
     have hvt:gc=true→valF g ops.toList o (stAt g ops.toList (e,hp) j)=⟨true,(mEv g (stAt g ops.toList (e,hp) j).2 (stAt g ops.toList (e,hp) j).1 o.op).2.1⟩:=by
      intro hgt
      subst hgt
      simp only [valF,m0,hgc]
     cases hgd:o.guard with
     | none =>
      rw [if_pos (by simp [Region.wanted,hgd])]
      have hgt:gc=true:=by rw [hgd] at hgc; exact (Option.some.inj hgc).symm
      obtain ⟨ho1,ho2⟩:=hob hgt
      obtain ⟨hdid,hdef⟩:=mEv_did hg (by rw [hcur]; exact hI.hr) o (by rw [hcur]; exact hops) ho1 ho2
      exact did_wp (fun _=>trivial) hdef hdid fun z w' bs' k1 k2 k3=>next (j+1) bs' z w' hvin hvv (by rw [hnxt hgt,hvt hgt]; exact ⟨fun _=>k1,by simp⟩) (by rw [hnxt hgt]; exact k2) (by rw [hnxt hgt,← hcur]; exact k3)
     | some gd =>
      obtain ⟨q5,q6⟩:=q3 gd hgd
      rw [guard_rel (ops:=ops) (by rw [← hgd]; exact hgc) o hgd (fun d hd=>hslot d (fun j' hj' hds=>by
       have hgo:∃ og,ops.toList[gd.1]?=some og∧og.dst=some d:=by
        rw [Array.getElem?_toList]
        cases hog:ops[gd.1]? with
        | none=>simp [hog] at hd
        | some og=>simp [hog] at hd; exact ⟨og,rfl,hd⟩
       obtain ⟨og,hog,hogd⟩:=hgo
       have hjg:j'=gd.1:=by
        apply Classical.byContradiction
        intro hne
        have:=((drawFl_spec hok hog).2.1 q5).2.2.1 j' hj' hne d hogd
        rw [hds] at this; cases this
       subst hjg
       exact ⟨d1 _ q6,q6⟩))]
      cases gc with
      | true =>
       obtain ⟨ho1,ho2⟩:=hob rfl
       obtain ⟨hdid,hdef⟩:=mEv_did hg (by rw [hcur]; exact hI.hr) o (by rw [hcur]; exact hops) ho1 ho2
       exact did_wp (fun _=>trivial) hdef hdid fun z w' bs' k1 k2 k3=>next (j+1) bs' z w' hvin hvv (by rw [hnxt rfl,hvt rfl]; exact ⟨fun _=>k1,by simp⟩) (by rw [hnxt rfl]; exact k2) (by rw [hnxt rfl,← hcur]; exact k3)
      | false =>
       have hnx:(stAt g ops.toList (e,hp) (j+1)).2=(stAt g ops.toList (e,hp) q).2:=by
        rw [← hcur]
        simp only [stAt,hol,hpF,m0,hgc]
       refine ⟨fun _ _=>trivial,next (j+1) bs undef w hvin hvv ?_ ?_ ?_⟩
       ·
        simp only [valF,m0,hgc]
        exact ⟨by simp,fun _=>rfl⟩
       ·
        rw [hnx]; exact hI.hr
       ·
        rw [hnx]; exact Step.refl _ _ _ _
    | false =>
     have m0:=isMem_false hmo
     simp only [m0] at hob
     have hval:valF g ops.toList o (stAt g ops.toList (e,hp) j)=valAt g ops.toList (stAt g ops.toList (e,hp) j).2 o (stAt g ops.toList (e,hp) j).1:=by simp only [valF,m0]
     have hver':∀ k,k<m→memAt g.ye ops.toList k=true→((listed.setIfInBounds j true).getD k true=true↔k<q):=by
      intro k hk hmk
      rw [set_get _ _ _ (by omega)]
      by_cases e1:j=k
      ·
       subst e1
       simp only [memAt,hol,hmo] at hmk
       cases hmk
      ·
       rw [if_neg e1]; exact hI.ver k hk hmk
     have hpe:(pEv g (stAt g ops.toList (e,hp) j).2 (stAt g ops.toList (e,hp) j).1 o.type o.op).1→(pEv g (stAt g ops.toList (e,hp) q).2 (stAt g ops.toList (e,hp) j).1 o.type o.op).1 ∧
       (pEv g (stAt g ops.toList (e,hp) q).2 (stAt g ops.toList (e,hp) j).1 o.type o.op).2=(pEv g (stAt g ops.toList (e,hp) j).2 (stAt g ops.toList (e,hp) j).1 o.type o.op).2:=by
      intro hp1
      rcases qf hmo with hf | hf
      ·
       rw [hpFree_eq hf (stAt g ops.toList (e,hp) q).2 (stAt g ops.toList (e,hp) j).2]
       exact ⟨hp1,rfl⟩
      ·
       rcases hf q hI.qin with hf | hf
       ·
        exfalso
        simp only [clash,List.any_eq_true,List.mem_range,Bool.and_eq_true,Bool.or_eq_true,List.contains_iff_mem,Bool.not_eq_true',decide_eq_true_eq,decide_eq_false_iff_not] at hf
        obtain ⟨k,hk,hmk,hc | hc⟩:=hf
        ·
         exact hc.2 ((hI.ver k hk hmk).1 (hclo k hc.1))
        ·
         have hlk:=(hI.ver k hk hmk).2 hc.2
         obtain ⟨ok,hok'⟩:∃ ok,ops.toList[k]?=some ok:=⟨_,List.getElem?_eq_getElem (by simp; omega)⟩
         have:=clo_spec hcl ops.toList [] (by simp) (fun i o h=>by simp at h) hlt k ok (by simp; omega) hok' (fun x hx=>hI.closed k ok hok' hlk x hx) j hc.1
         rw [h1] at this; cases this
       ·
        have:=hfl _ hf
        simp only [eqAt,hol] at this
        exact this
     have fin:∀ (gc:Bool) (z:Value) (w':World),(gc=true→relRV w' (Mof M0 bs) bs (stAt g ops.toList (e,hp) q).2 (pEv g (stAt g ops.toList (e,hp) j).2 (stAt g ops.toList (e,hp) j).1 o.type o.op).2 z)→(gc=false→z=undef) →
       valAt g ops.toList (stAt g ops.toList (e,hp) j).2 o (stAt g ops.toList (e,hp) j).1=⟨gc,(pEv g (stAt g ops.toList (e,hp) j).2 (stAt g ops.toList (e,hp) j).1 o.type o.op).2⟩ →
       HR w' M0 bs (stAt g ops.toList (e,hp) q).2→Step false w (Mof M0 bs) bs (stAt g ops.toList (e,hp) q).2 w' (Mof M0 bs) bs (stAt g ops.toList (e,hp) q).2 →
       wpAnyIn (FW r) n P .any ops Q fuel (listed.setIfInBounds j true) (a.put o.dst z) w':=by
      intro gc z w' hz1 hz2 hva hr' hst
      refine next q bs z w' hI.qin hver' ?_ hr' hst
      rw [hval,hva]
      exact ⟨fun h=>hz1 h,fun h=>hz2 h⟩
     unfold oblAt at hob
     unfold valAt at fin
     cases hgd:o.guard with
     | none =>
      rw [if_pos (by simp [Region.wanted,hgd])]
      simp only [hgd] at hob fin
      obtain ⟨p1,p2⟩:=hpe hob.2
      exact pEv_wp hg hI.hr o hops hob.1 p1 fun z w' k1 k2 k3=>fin true z w' (fun _=>by rw [← p2]; exact k1) (by simp) rfl k2 k3
     | some gd =>
      simp only [hgd] at hob fin
      obtain ⟨gc,hgc,hob⟩:=hob
      simp only [hgc] at fin
      obtain ⟨q5,q6⟩:=q3 gd hgd
      rw [guard_rel (ops:=ops) hgc o hgd (fun d hd=>hslot d (fun j' hj' hds=>by
       have hgo:∃ og,ops.toList[gd.1]?=some og∧og.dst=some d:=by
        rw [Array.getElem?_toList]
        cases hog:ops[gd.1]? with
        | none=>simp [hog] at hd
        | some og=>simp [hog] at hd; exact ⟨og,rfl,hd⟩
       obtain ⟨og,hog,hogd⟩:=hgo
       have hjg:j'=gd.1:=by
        apply Classical.byContradiction
        intro hne
        have:=((drawFl_spec hok hog).2.1 q5).2.2.1 j' hj' hne d hogd
        rw [hds] at this; cases this
       subst hjg
       exact ⟨d1 _ q6,q6⟩))]
      cases gc with
      | true =>
       obtain ⟨k1,k2⟩:=hob rfl
       obtain ⟨p1,p2⟩:=hpe k2
       exact pEv_wp hg hI.hr o hops k1 p1 fun z w' k1 k2 k3=>fin true z w' (fun _=>by rw [← p2]; exact k1) (by simp) rfl k2 k3
      | false=>exact ⟨fun _ _=>trivial,fin false undef w (by simp) (fun _=>rfl) rfl hI.hr (Step.refl _ _ _ _)⟩
def vcFl (g:G) (ops:List Oper) (ps:List (Nat×Nat)):List Oper→Env→List Blk→List (Env×List Blk)→Prop
 | [],e,hp,acc=>∀ p∈ps,match (acc++[(e,hp)])[p.1]?,(acc++[(e,hp)])[p.2]? with
  | some s,some s'=>eqAt g ops p.1 s s'
  | _,_=>False
 | o::r,e,hp,acc=>vcFl g ops ps r (putE o.dst (valF g ops o (e,hp)) e) (hpF g ops o (e,hp)) (acc++[(e,hp)])
theorem vcFl_spec (ops:List Oper) (ps:List (Nat×Nat)) (s0:Env×List Blk):∀ (l:List Oper) (i:Nat) (acc:List (Env×List Blk)),l=ops.drop i→i≤ops.length→acc.length=i→(∀ j,j<i→acc[j]?=some (stAt g ops s0 j)) →
  vcFl g ops ps l (stAt g ops s0 i).1 (stAt g ops s0 i).2 acc→floatAt g ops s0 ps:=by
 intro l
 induction l with
 | nil =>
  intro i acc hl hi hacc hst h p hp
  have hie:i=ops.length:=by
   have:=congrArg List.length hl
   simp at this
   omega
  have hget:∀ k s,(acc++[((stAt g ops s0 i).1,(stAt g ops s0 i).2)])[k]?=some s→s=stAt g ops s0 k:=by
   intro k s hk
   rcases Nat.lt_or_ge k i with h' | h'
   ·
    rw [List.getElem?_append_left (by omega),hst k h'] at hk
    exact (Option.some.inj hk).symm
   ·
    have hk':=(List.getElem?_eq_some_iff.1 hk).1
    simp only [List.length_append,List.length_cons,List.length_nil] at hk'
    have:k=i:=by omega
    subst this
    rw [List.getElem?_append_right (by omega)] at hk
    simp [hacc] at hk
    exact hk.symm
  have:=h p hp
  split at this
  ·
   rename_i s s' h1 h2
   rw [hget _ _ h1,hget _ _ h2] at this
   exact this
  ·
   exact this.elim
 | cons o r ih =>
  intro i acc hl hi hacc hst h
  have hlt:i<ops.length:=by
   rcases Nat.lt_or_ge i ops.length with h' | h'
   ·
    exact h'
   ·
    rw [List.drop_of_length_le h'] at hl; cases hl
  rw [List.drop_eq_getElem_cons hlt] at hl
  injection hl with h1 h2
  have ho:ops[i]?=some o:=by rw [h1]; exact List.getElem?_eq_getElem hlt
  refine ih (i+1) (acc++[stAt g ops s0 i]) h2 hlt (by simp [hacc]) (fun j hj => ?_) ?_
  ·
   rcases Nat.lt_succ_iff_lt_or_eq.1 hj with h' | rfl
   ·
    rw [List.getElem?_append_left (by omega)]; exact hst j h'
   ·
    rw [List.getElem?_append_right (by omega)]; simp [hacc]
  ·
   simp only [vcFl] at h
   simp only [stAt,ho]
   exact h
def regionFl (y:Bool×List FuncId) (N:Nat) (ops:List Oper) (ps:List (Nat×Nat)):Bool :=
 dstOk N ops&&(List.range (ops.length+1)).any fun m=>drawFl y ops m ps
theorem region_float (hg:g.good P) (hX:XOk P X) (hm:P.follows .mixedOrders=true) {N n:Nat} {r:Option Nat} {Q:Exit→Act→World→Prop} {K:Env→List Blk→Prop} (id:Nat) (ops:Array Oper) (ps:List (Nat×Nat)) (hok:regionFl g.ye N ops.toList ps=true)
  (e:Env) (hp:List Blk) (bs:Bs) (a:Act) (w:World) (hv:vcOps g ops.toList ops.toList e hp K) (hf:vcFl g ops.toList ps ops.toList e hp []) (hr:HR w M0 bs hp) (hx:XR X w M0 bs hp) (he:relEnv w (Mof M0 bs) bs hp e a) (hN:a.tmps.size=N) (hQ:Behind P g X M0 N Q K w bs hp a.defers) :
  (Code.region id ops true).wpIn (FW r) n P Q a w:=by
 unfold regionFl dstOk at hok
 simp only [Bool.and_eq_true,List.all_eq_true,List.any_eq_true,List.mem_range] at hok
 obtain ⟨h1,m,hm1,hm2⟩:=hok
 have hdst:∀ o∈ops.toList,∀ d,o.dst=some d→d<N:=fun o ho d hd=>by have:=h1 o ho; rw [hd] at this; simpa using this
 have hfl:floatAt g ops.toList (e,hp) ps:=vcFl_spec ops.toList ps (e,hp) ops.toList 0 [] (by simp) (by simp) rfl (fun j hj=>by omega) hf
 refine wpIn_region_any hm ?_
 obtain ⟨k1,k2⟩:=hr.keep_drew
 refine phaseF hg hX ops hdst m (by simp at hm1; omega) ps hm2 e hp hv hfl _ 0 bs _ a _ ⟨by simp,?_,?_,?_,by simp [vers],k1,hx.step hX k2 k1.lt,?_,?_⟩ hN (hQ.step (.of_step hX hx k1 k2)) ?_
 ·
  intro i _ hi; simp at hi; simp [Array.getD_eq_getD_getElem?,hi]
 ·
  intro i o ho hl
  have hi:=(List.getElem?_eq_some_iff.1 ho).1
  simp at hi
  simp [Array.getD_eq_getD_getElem?,hi] at hl
 ·
  intro k hk _
  have hi:k<ops.size:=by simp at hm1; omega
  simp [Array.getD_eq_getD_getElem?,hi]
 ·
  intro j o hj ho hl
  have hi:=(List.getElem?_eq_some_iff.1 ho).1
  simp at hi
  simp [Array.getD_eq_getD_getElem?,hi] at hl
 ·
  intro s _; exact relSL_step k2 _ _ (getE_rel he s)
 ·
  have:=List.length_filter_le (fun j => !(Array.replicate ops.size false).getD j true) (List.range m)
  simp at this hm1 ⊢
  omega
end
structure St where
 e:Env
 hp:List Blk
def keepE:List Nat→Env→Env
 | [],_=>[]
 | s::r,e=>match look e s with
  | some x=>(s,x)::keepE r e
  | none=>keepE r e
theorem look_keepE:∀ (L:List Nat) (e:Env) (s:Nat) (x:SL),look (keepE L e) s=some x→look e s=some x
 | [],e,s,x,h=>by simp [keepE,look] at h
 | t::r,e,s,x,h=>by
  simp only [keepE] at h
  cases ht:look e t with
  | none=>rw [ht] at h; exact look_keepE r e s x h
  | some y =>
   rw [ht] at h
   simp only [look] at h
   split at h
   ·
    rename_i e1; subst e1; rw [ht]; exact h
   ·
    exact look_keepE r e s x h
def envLe:Env→Env→Prop
 | [],_=>True
 | (k,x)::r,e=>look e k=some x∧envLe r e
theorem look_envLe:∀ {e e':Env},envLe e e'→∀ s x,look e s=some x→look e' s=some x
 | [],_,_,s,x,h=>by simp [look] at h
 | (k,y)::r,e',h,s,x,hs=>by
  simp only [look] at hs
  split at hs
  ·
   rename_i e1; subst e1; rw [← hs]; exact h.1
  ·
   exact look_envLe h.2 s x hs
def St.le (s' s:St):Prop:=envLe s'.e s.e∧s'.hp=s.hp
def markOf (D:Nat):Deferred:={ target:=.collected D,args:=#[] }
abbrev NB:=Nat×List Deferred
def DefOk (n0:Option NB) (w:World) (M:Nat→Prop) (df:List Deferred):Prop :=
 match n0 with
 | none=>df=[]
 | some (n0,B)=>n0≤w.heap.size∧∃ Ds:List Nat,df=Ds.map markOf++B∧Ds.Nodup∧∀ D∈Ds,n0≤D∧D<w.heap.size∧¬ M D∧w.heap[D]?=some (.deferred (some []))
theorem DefOk.evo {n0:Option NB} {w w':World} {M M':Nat→Prop} {df:List Deferred} (h:DefOk n0 w M df) (k:Evo M M' w w'):DefOk n0 w' M' df:=by
 cases n0 with
 | none=>exact h
 | some nb =>
  obtain ⟨n0,B⟩:=nb
  obtain ⟨h0,Ds,h1,h2,h3⟩:=h
  exact ⟨Nat.le_trans h0 k.size,Ds,h1,h2,fun D hD=>by
   obtain ⟨q0,q1,q2,q3⟩:=h3 D hD
   exact ⟨q0,Nat.lt_of_lt_of_le q1 k.size,k.free D q1 q2,by rw [k.block D q1 q2]; exact q3⟩⟩
theorem exists_least (p:Nat→Prop) (h:∃ n,p n):∃ n,p n∧∀ m,p m→n≤m:=by
 obtain ⟨n,hn⟩:=h
 induction n using Nat.strongRecOn with
 | _ n ih =>
  by_cases hm:∃ m,m<n∧p m
  ·
   obtain ⟨m,h1,h2⟩:=hm
   exact ih m h1 h2
  ·
   exact ⟨n,hn,fun m hp=>Classical.byContradiction fun hlt=>hm ⟨m,by omega,hp⟩⟩
def sInf' (p:Nat→Prop):Nat:=@dite _ (∃ n,p n) (Classical.propDecidable _) (fun h=>Classical.choose (exists_least p h)) (fun _=>0)
theorem sInf'_spec (p:Nat→Prop) (h:∃ n,p n):p (sInf' p)∧∀ m,p m→sInf' p≤m:=by
 unfold sInf'
 rw [dif_pos h]
 exact Classical.choose_spec (exists_least p h)
theorem sInf'_mem (p:Nat→Prop) (h:∃ n,p n):p (sInf' p):=(sInf'_spec p h).1
theorem sInf'_le (p:Nat→Prop) {m:Nat} (h:p m):sInf' p≤m:=(sInf'_spec p ⟨m,h⟩).2 m h
theorem stepR_scope {P:Program} {b:Frame} {a:Act} {k:List Item} {cs:List Frame} {w:World} {c:Code}:step P (lone (b.atR a (.code (.scope c)::k)) cs w)=.next (lone (b.atR a (.code c::.inScope c::k)) cs w) :=
 step_lone_go (by simp [stepG,stepG.exec,Frame.atR])
theorem stepR_inScope {P:Program} {b:Frame} {a:Act} {k:List Item} {cs:List Frame} {w:World} {c:Code}:step P (lone (b.atR a (.inScope c::k)) cs w)=.next (lone (b.atR a k) cs w) :=
 step_lone_go (by simp [stepG,stepG.exec,Frame.atR])
def Exit.noGo (Q:Exit→Act→World→Prop):Exit→Act→World→Prop
 | .goto _,_,_=>False
 | e,a,w=>Q e a w
theorem wpIn_scope {F:Fence} {n:Nat} {P:Program} {Q:Exit→Act→World→Prop} {a:Act} {w:World} {c:Code} (h:c.wpIn F n P (Exit.noGo Q) a w):(Code.scope c).wpIn F n P Q a w:=by
 intro b k cs hro hb hr
 have h0:(lone (b.atR a (.code (.scope c)::k)) cs w).fenced P F:=fenced_calm hb hr rfl
 obtain ⟨e,a₁,w₁,hq,harr⟩:=h b (.inScope c::k) cs hro hb hr
 cases e with
 | normal=>exact ⟨.normal,a₁,w₁,hq,.head h0 stepR_scope (StepsIn.trans harr (.one (fenced_calm hb hr rfl) stepR_inScope))⟩
 | exit id =>
  have hx:exitTo id (.inScope c::k)=exitTo id k:=by simp [exitTo]
  exact ⟨.exit id,a₁,w₁,hq,fun k' hk=>.head h0 stepR_scope (harr.1 k' (by rw [hx]; exact hk)),
   fun hr' hk=>let ⟨k₁,h1,h2⟩:=harr.2 hr' (by rw [hx]; exact hk); ⟨k₁,h1,.head h0 stepR_scope h2⟩⟩
 | goto l=>exact hq.elim
 | ret=>exact ⟨_,a₁,w₁,hq,.of_steps (.one h0 stepR_scope) harr⟩
 | panic ch=>exact ⟨_,a₁,w₁,hq,.of_steps (.one h0 stepR_scope) harr⟩
 | outgrown=>exact ⟨_,a₁,w₁,hq,.of_steps (.one h0 stepR_scope) harr⟩
structure Cfg where
 live:List Nat
 frz:List (Nat×List Nat):=[]
 all:List Nat:=[]
 eps:List (Nat×List Nat):=[]
 cut:List Nat:=[]
 fl:List (Nat×List (Nat×Nat)):=[]
 fin:List (Nat×List (Nat×List Nat)):=[]
 qy:List Nat:=[]
def firstReg:Code→Option Nat
 | .region id _ _=>some id
 | .seq x _=>firstReg x
 | _=>none
def isCut (l:List Nat) (x:Code):Bool:=match firstReg x with
 | some id=>l.contains id
 | none=>false
def frzSlot (k:Nat) (s:St) (K:St→Prop):Prop :=
 match look s.e k with
 | some ⟨true,.v (.s (.own t id n))⟩=>match Blk.look s.hp id with
  | .arr _ cs=>∃ xs:List t.T,cs=t.flats xs∧n=xs.length∧K ⟨(k,⟨true,.v (.s (.sl t xs false))⟩)::s.e,s.hp.set id .dead⟩
  | _=>False
 | some ⟨true,.v (.s (.pre t id n m))⟩=>match Blk.look s.hp id with
  | .arr _ cs=>∃ xs:List t.T,cs=t.flats xs∧n=xs.length∧K ⟨(k,⟨true,.v (.s (.sl t (xs.take m) false))⟩)::s.e,s.hp.set id .dead⟩
  | _=>False
 | some ⟨true,.v (.s (.box b off))⟩=>match Blk.look s.hp b with
  | .cells bc=>match bc[off]? with
   | some (.own t id n)=>match Blk.look s.hp id with
    | .arr _ cs=>∃ xs:List t.T,cs=t.flats xs∧n=xs.length∧K ⟨s.e,(s.hp.set b (.cells (bc.set off (.sl t xs false)))).set id .dead⟩
    | _=>False
   | _=>K s
  | _=>K s
 | _=>K s
def epsSlot (k:Nat) (s:St) (K:St→Prop):Prop :=
 match look s.e k with
 | some ⟨true,.v (.s (.box b 0))⟩=>match boxCap s.hp b with
  | some c=>K ⟨(k,⟨true,.v (.s (.eptr c.1 c.2))⟩)::s.e,s.hp.set b .dead⟩
  | none=>False
 | _=>K s
def epsSlots:List Nat→St→(St→Prop)→Prop
 | [],s,K=>K s
 | k::r,s,K=>epsSlot k s fun s'=>epsSlots r s' K
def frzSlots:List Nat→St→(St→Prop)→Prop
 | [],s,K=>K s
 | k::r,s,K=>frzSlot k s fun s'=>frzSlots r s' K
section
variable {P:Program} {g:G} {X:XT} {N:Nat} {n0:Option NB} {L:Cfg}
structure Rel (P:Program) (X:XT) (N:Nat) (n0:Option NB) (w:World) (M0:Nat→Prop) (bs:Bs) (a:Act) (s:St):Prop where
 hr:HR w M0 bs s.hp
 xr:XR X w M0 bs s.hp
 env:relEnv w (Mof M0 bs) bs s.hp s.e a
 size:a.tmps.size=N
 df:DefOk n0 w (Mof M0 bs) a.defers
def Post (P:Program) (g:G) (X:XT) (N:Nat) (n0:Option NB) (K:Exit→St→Prop) (w:World) (M0:Nat→Prop) (bs:Bs) (hp:List Blk) (e:Exit) (a':Act) (w':World):Prop :=
 ∃ s' M0' bs',K e s'∧Rel P X N n0 w' M0' bs' a' s'∧Nx P g X w M0 bs hp w' M0' bs' s'.hp
def Wp (P:Program) (g:G) (X:XT) (N:Nat) (c:Code) (s:St) (K:Exit→St→Prop):Prop :=
 ∀ (n:Nat) (r:Option Nat) (n0:Option NB) (M0:Nat→Prop) (bs:Bs) (a:Act) (w:World),(g.top=true→r=none)∧n0.isSome = !g.y→Rel P X N n0 w M0 bs a s→c.wpIn (FW r) n P (Post P g X N n0 K w M0 bs s.hp) a w
theorem Wp.mono {c:Code} {s:St} {K K':Exit→St→Prop} (h:Wp P g X N c s K) (hk:∀ e s,K e s→K' e s):Wp P g X N c s K' :=
 fun n r n0 M0 bs a w hT hr=>wpIn_mono (h n r n0 M0 bs a w hT hr) fun e a w ⟨s',M0',bs',k,x⟩=>⟨s',M0',bs',hk _ _ k,x⟩
theorem Rel.le {w:World} {M0:Nat→Prop} {bs:Bs} {a:Act} {s s':St} (h:Rel P X N n0 w M0 bs a s) (k:s'.le s):Rel P X N n0 w M0 bs a s':=by
 obtain ⟨e,hp⟩:=s
 obtain ⟨e',hp'⟩:=s'
 obtain ⟨k1,k2⟩:=k
 simp only at k1 k2
 subst k2
 exact ⟨h.hr,h.xr,fun s x hx=>h.env s x (look_envLe k1 s x hx),h.size,h.df⟩
def Turn (P:Program) (g:G) (X:XT) (N:Nat) (s s':St):Prop :=
 ∀ (n0:Option NB) (w:World) (M0:Nat→Prop) (bs:Bs) (a:Act),Rel P X N n0 w M0 bs a s→∃ bs',Rel P X N n0 w M0 bs' a s'∧Nx P g X w M0 bs s.hp w M0 bs' s'.hp
theorem Turn.le {s s':St} (h:s'.le s):Turn P g X N s s':=fun n0 w M0 bs a hr=>⟨bs,hr.le h,by rw [h.2]; exact .refl hr.hr hr.xr⟩
theorem Turn.refl (s:St):Turn P g X N s s:=fun n0 w M0 bs a hr=>⟨bs,hr,.refl hr.hr hr.xr⟩
theorem Turn.trans {s s' s'':St} (h:Turn P g X N s s') (k:Turn P g X N s' s''):Turn P g X N s s'':=fun n0 w M0 bs a hr=>by
 obtain ⟨bs',h1,h2⟩:=h n0 w M0 bs a hr
 obtain ⟨bs'',k1,k2⟩:=k n0 w M0 bs' a h1
 exact ⟨bs'',k1,h2.trans k2⟩
theorem Turn.virt {s:St} {k:Nat} {t:Ty} {xs:List t.T} (hk:look s.e k=some ⟨true,.v (.s (.sl t xs true))⟩):Turn P g X N s ⟨(k,⟨true,.v (.s (.own t s.hp.length xs.length))⟩)::s.e,s.hp++[.arr false (t.flats xs)]⟩:=by
 intro n0 w M0 bs a hr
 obtain ⟨h1,h2⟩:=hr.hr.virt (t.flats xs)
 have hx:XR X w M0 (bs++[none]) (s.hp++[.arr false (t.flats xs)]):=by
  intro l ys i st ht
  have hin:inBs (bs++[none])=inBs bs:=by
   funext b; apply propext
   constructor
   ·
    rintro ⟨id,h⟩
    rw [at_push] at h
    split at h
    ·
     cases h
    ·
     exact ⟨id,h⟩
   ·
    rintro ⟨id,h⟩
    exact ⟨id,by rw [at_push,if_neg (by have:=at_lt h; omega)]; exact h⟩
  rw [hin]
  refine hr.xr l ys i st ?_
  rw [look_push] at ht
  split at ht
  ·
   cases ht
  ·
   exact ht
 refine ⟨bs++[none],⟨h1,hx,?_,hr.size,hr.df.evo h2.evo⟩,⟨h1,hx,h2.weaken,fun _=>rfl⟩⟩
 intro j x hj
 simp only [look] at hj
 split at hj
 ·
  rename_i e; subst e
  injection hj with hj; subst hj
  refine ⟨fun _ => ?_,by simp⟩
  have hv0:relSV w (Mof M0 bs) bs s.hp (.sl t xs true) _:=(hr.env _ _ hk).1 rfl
  obtain ⟨ad,c,q1,q2,q3,q4,q5⟩:=relSV_step h2 _ _ hv0
  refine ⟨by simp,fun al cs hl => ?_⟩
  rw [look_push,if_pos rfl] at hl
  injection hl with hl1 hl2
  subst hl2
  refine ⟨by rw [flats_length]; exact Nat.le_refl _,fun _=>.inr ⟨?_,xs,ad,rfl,by omega,rfl,by rw [q1,q4 rfl],q5⟩⟩
  rw [at_push,if_pos hr.hr.len.symm]
 ·
  exact relSL_step h2 _ _ (hr.env _ _ hj)
theorem HR.recell {w:World} {M0:Nat→Prop} {bs:Bs} {hp:List Blk} (hr:HR w M0 bs hp) {id:Nat} {cs cs':List SV} (hl:Blk.look hp id=.cells cs) (hlen:cs'.length=cs.length)
  (h:∀ (j:Nat) (x y:SV) (u:Value),cs[j]?=some x→cs'[j]?=some y→relSV w (Mof M0 bs) bs hp x u→relSV w (Mof M0 bs) bs hp y u) :
  HR w M0 bs (hp.set id (.cells cs'))∧Step false w (Mof M0 bs) bs hp w (Mof M0 bs) bs (hp.set id (.cells cs')):=by
 obtain ⟨b,cur,e,h1,h2,h3,h4⟩:=hr.cells id cs hl
 refine hr.rewrite h1 (Evo.refl _ _) (fun _ _ _=>rfl) h2 (.cells cs') ⟨cur,e,rfl,by omega,fun j y hj => ?_⟩ (by rw [hl]; trivial)
 have hj2:=(List.getElem?_eq_some_iff.1 hj).1
 obtain ⟨u,k1,k2,k3⟩:=h4 j cs[j] (List.getElem?_eq_getElem (by omega))
 exact ⟨u,k1,k2,h j _ y u (List.getElem?_eq_getElem (by omega)) hj k3⟩
theorem Turn.virtBox {s:St} {b off:Nat} {bc:List SV} {t:Ty} {xs:List t.T} (hb:Blk.look s.hp b=.cells bc) (ho:bc[off]?=some (.sl t xs true)) :
  Turn P g X N s ⟨s.e,(s.hp++[Blk.arr false (t.flats xs)]).set b (.cells (bc.set off (.own t s.hp.length xs.length)))⟩:=by
 intro n0 w M0 bs a hr
 obtain ⟨h1,h2⟩:=hr.hr.virt (t.flats xs)
 have hblt:b<s.hp.length:=look_lt (by rw [hb]; simp)
 have hb':Blk.look (s.hp++[Blk.arr false (t.flats xs)]) b=.cells bc:=by rw [look_push,if_neg (by omega)]; exact hb
 have hat:Bs.at (bs++[none]) s.hp.length=none:=by rw [at_push,if_pos hr.hr.len.symm]
 obtain ⟨k1,k2⟩:=h1.recell (cs':=bc.set off (.own t s.hp.length xs.length)) hb' (by simp) (by
  intro j x y u hx hy hrel
  rw [List.getElem?_set] at hy
  split at hy
  ·
   rename_i e; subst e
   rw [ho] at hx; injection hx with hx; subst hx
   split at hy
   ·
    injection hy with hy; subst hy
    obtain ⟨ad,c,q1,q2,q3,q4,q5⟩:=hrel
    refine ⟨by simp,fun al cs hl => ?_⟩
    rw [look_push,if_pos rfl] at hl
    injection hl with hl1 hl2
    subst hl2
    exact ⟨by rw [flats_length]; exact Nat.le_refl _,fun _=>.inr ⟨hat,xs,ad,rfl,by omega,rfl,by rw [q1,q4 rfl],q5⟩⟩
   ·
    cases hy
  ·
   rw [hx] at hy; injection hy with hy; subst hy; exact hrel)
 have hx:XR X w M0 (bs++[none]) ((s.hp++[Blk.arr false (t.flats xs)]).set b (.cells (bc.set off (.own t s.hp.length xs.length)))):=by
  intro l ys i st ht
  have hin:inBs (bs++[none])=inBs bs:=by
   funext b; apply propext
   constructor
   ·
    rintro ⟨id,h⟩
    rw [at_push] at h
    split at h
    ·
     cases h
    ·
     exact ⟨id,h⟩
   ·
    rintro ⟨id,h⟩
    exact ⟨id,by rw [at_push,if_neg (by have:=at_lt h; omega)]; exact h⟩
  rw [hin]
  refine hr.xr l ys i st ?_
  rw [look_set b _ 0 (by simp; omega)] at ht
  split at ht
  ·
   cases ht
  ·
   rw [look_push] at ht
   split at ht
   ·
    cases ht
   ·
    exact ht
 have hst:=h2.trans k2
 exact ⟨bs++[none],⟨k1,hx,relEnv_step hst hr.env,hr.size,hr.df.evo hst.evo⟩,⟨k1,hx,hst.weaken,fun _=>rfl⟩⟩
theorem kill_blk (hX:XOk P X) {w:World} {M0:Nat→Prop} {bs:Bs} {hp:List Blk} (hr:HR w M0 bs hp) (hx:XR X w M0 bs hp) {id:Nat} (hid:id<hp.length) (hnm:∀ k u es,Blk.look hp id≠.map k u es) :
  HR w M0 (bs.set id none) (hp.set id .dead)∧XR X w M0 (bs.set id none) (hp.set id .dead)∧Step false w (Mof M0 bs) bs hp w (Mof M0 (bs.set id none)) (bs.set id none) (hp.set id .dead) ∧
   (∀ j b,Bs.at (bs.set id none) j=some b→j≠id∧bs.at j=some b)∧Evo (Mof M0 bs) (Mof M0 (bs.set id none)) w w:=by
 obtain ⟨h1,h3,h4,h5⟩:=kill_blkH hr hid hnm
 refine ⟨h1,?_,h3,h4,h5⟩
 intro l ys i st h
 have hl:Blk.look hp 0=.trace l ys i st:=by
  rw [look_set id _ 0 hid] at h
  split at h
  ·
   cases h
  ·
   exact h
 exact hX.stable (hx l ys i st hl) rfl rfl rfl (Nat.le_refl _) (Nat.le_refl _) (fun _ _ _=>rfl) (fun b _ hn ⟨j,hj⟩=>hn ⟨j,(h4 j b hj).2⟩) (fun b ⟨j,hj⟩=>hr.lt j b (h4 j b hj).2)
theorem freeze_blk (hX:XOk P X) {w:World} {M0:Nat→Prop} {bs:Bs} {hp:List Blk} (hr:HR w M0 bs hp) (hx:XR X w M0 bs hp) {id:Nat} {al:Bool} {t:Ty} {xs:List t.T} (hl:Blk.look hp id=.arr al (t.flats xs)) :
  HR w M0 (bs.set id none) (hp.set id .dead)∧XR X w M0 (bs.set id none) (hp.set id .dead)∧Step false w (Mof M0 bs) bs hp w (Mof M0 (bs.set id none)) (bs.set id none) (hp.set id .dead) ∧
   ∀ v,relSV w (Mof M0 bs) bs hp (.own t id xs.length) v→relSV w (Mof M0 (bs.set id none)) (bs.set id none) (hp.set id .dead) (.sl t xs false) v:=by
 obtain ⟨h1,h2,h3⟩:=freeze_blkH hr hl
 exact ⟨h1,(kill_blk hX hr hx (look_lt (by rw [hl]; simp)) (by rw [hl]; intro _ _ _ h; cases h)).2.1,h2,h3⟩
theorem freeze_box (hX:XOk P X) {w:World} {M0:Nat→Prop} {bs:Bs} {hp:List Blk} (hr:HR w M0 bs hp) (hx:XR X w M0 bs hp) {id:Nat} {c:Sigma Ty.T} (hc:boxCap hp id=some c) :
  HR w M0 (bs.set id none) (hp.set id .dead)∧XR X w M0 (bs.set id none) (hp.set id .dead)∧Step false w (Mof M0 bs) bs hp w (Mof M0 (bs.set id none)) (bs.set id none) (hp.set id .dead) ∧
   ∀ v,relSV w (Mof M0 bs) bs hp (.box id 0) v→relSV w (Mof M0 (bs.set id none)) (bs.set id none) (hp.set id .dead) (.eptr c.1 c.2) v:=by
 obtain ⟨cs,hl⟩:=boxCap_cells hc
 have hid:id<hp.length:=look_lt (by rw [hl]; simp)
 obtain ⟨g1,g2,g3,hat',he⟩:=kill_blk hX hr hx hid (by rw [hl]; intro _ _ _ h; cases h)
 refine ⟨g1,g2,g3,fun v hv => ?_⟩
 obtain ⟨b,hb,rfl⟩:=hv.2 cs hl
 exact boxCap_sound hr hb hc (fun b hb=>by
  rcases hb with hb | ⟨j,hb⟩
  ·
   exact .inl hb
  ·
   exact .inr ⟨j,(hat' j b hb).2⟩) (fun hb'=>by
  rcases hb' with hb' | ⟨j,hb'⟩
  ·
   exact hr.out id b hb hb'
  ·
   obtain ⟨hne,h⟩:=hat' j b hb'
   exact hne (hr.inj j id b h hb))
theorem epsSlot_sound (hX:XOk P X) {s:St} {k:Nat} {K:St→Prop} (h:epsSlot k s K):∃ s',Turn P g X N s s'∧K s':=by
 unfold epsSlot at h
 split at h
 ·
  rename_i b hk
  split at h
  ·
   rename_i c hc
   refine ⟨_,fun n0 w M0 bs a hr => ?_,h⟩
   obtain ⟨k1,k2,k3,k4⟩:=freeze_box hX hr.hr hr.xr hc
   refine ⟨_,⟨k1,k2,fun j x hj => ?_,hr.size,hr.df.evo k3.evo⟩,⟨k1,k2,k3.weaken,fun _=>rfl⟩⟩
   simp only [look] at hj
   split at hj
   ·
    rename_i e; subst e
    injection hj with hj; subst hj
    exact ⟨fun _=>k4 _ ((hr.env _ _ hk).1 rfl),by simp⟩
   ·
    exact relSL_step k3 _ _ (hr.env _ _ hj)
  ·
   exact h.elim
 ·
  exact ⟨s,.refl s,h⟩
theorem epsSlots_sound (hX:XOk P X):∀ (l:List Nat) {s:St} {K:St→Prop},epsSlots l s K→∃ s',Turn P g X N s s'∧K s'
 | [],s,K,h=>⟨s,.refl s,h⟩
 | k::l,s,K,h=>by
  obtain ⟨s1,h1,h2⟩:=epsSlot_sound (P:=P) (g:=g) (X:=X) (N:=N) hX h
  obtain ⟨s2,k1,k2⟩:=epsSlots_sound hX l h2
  exact ⟨s2,h1.trans k1,k2⟩
theorem freeze_pre (hX:XOk P X) {w:World} {M0:Nat→Prop} {bs:Bs} {hp:List Blk} (hr:HR w M0 bs hp) (hx:XR X w M0 bs hp) {id m:Nat} {al:Bool} {t:Ty} {xs:List t.T} (hl:Blk.look hp id=.arr al (t.flats xs)) :
  HR w M0 (bs.set id none) (hp.set id .dead)∧XR X w M0 (bs.set id none) (hp.set id .dead)∧Step false w (Mof M0 bs) bs hp w (Mof M0 (bs.set id none)) (bs.set id none) (hp.set id .dead) ∧
   ∀ v,relSV w (Mof M0 bs) bs hp (.pre t id xs.length m) v→relSV w (Mof M0 (bs.set id none)) (bs.set id none) (hp.set id .dead) (.sl t (xs.take m) false) v:=by
 obtain ⟨h1,h2,h3,h4⟩:=freeze_blk hX hr hx hl
 refine ⟨h1,h2,h3,fun v hv => ?_⟩
 obtain ⟨g1,g2,g3⟩:=hv
 obtain ⟨b,cap,k1,rfl,k3,k4⟩:=(g3 _ _ hl).2 (flats_length t xs)
 obtain ⟨a,c,e1,e2,e3,_,e5⟩:=h4 (.slice (some ⟨b,0,none⟩) xs.length cap) ⟨g1,fun al' cs' hl'=>⟨(g3 _ _ hl').1,fun hn=>.inl ⟨b,cap,k1,rfl,k3,k4⟩⟩⟩
 injection e1 with e1 e1' e1''
 subst e1 e1''
 have hm:(xs.take m).length=m:=by rw [List.length_take]; omega
 refine ⟨_,cap,by rw [hm],by omega,e3,by simp,?_⟩
 have:=RowAt_cut e5 0 m (some ⟨b,0,none⟩) (fun _=>by simp [addr_add]) (by omega) (by omega)
 simpa using this
theorem frzSlot_sound (hX:XOk P X) {s:St} {k:Nat} {K:St→Prop} (h:frzSlot k s K):∃ s',Turn P g X N s s'∧K s':=by
 unfold frzSlot at h
 split at h
 ·
  rename_i t id n hk
  split at h
  ·
   rename_i al cs hl
   obtain ⟨xs,rfl,rfl,hK⟩:=h
   refine ⟨_,fun n0 w M0 bs a hr => ?_,hK⟩
   obtain ⟨k1,k2,k3,k4⟩:=freeze_blk hX hr.hr hr.xr hl
   refine ⟨_,⟨k1,k2,fun j x hj => ?_,hr.size,hr.df.evo k3.evo⟩,⟨k1,k2,k3.weaken,fun _=>rfl⟩⟩
   simp only [look] at hj
   split at hj
   ·
    rename_i e; subst e
    injection hj with hj; subst hj
    exact ⟨fun _=>k4 _ ((hr.env _ _ hk).1 rfl),by simp⟩
   ·
    exact relSL_step k3 _ _ (hr.env _ _ hj)
  ·
   exact h.elim
 ·
  rename_i t id n m hk
  split at h
  ·
   rename_i al cs hl
   obtain ⟨xs,rfl,rfl,hK⟩:=h
   refine ⟨_,fun n0 w M0 bs a hr => ?_,hK⟩
   obtain ⟨k1,k2,k3,k4⟩:=freeze_pre (m:=m) hX hr.hr hr.xr hl
   refine ⟨_,⟨k1,k2,fun j x hj => ?_,hr.size,hr.df.evo k3.evo⟩,⟨k1,k2,k3.weaken,fun _=>rfl⟩⟩
   simp only [look] at hj
   split at hj
   ·
    rename_i e; subst e
    injection hj with hj; subst hj
    exact ⟨fun _=>k4 _ ((hr.env _ _ hk).1 rfl),by simp⟩
   ·
    exact relSL_step k3 _ _ (hr.env _ _ hj)
  ·
   exact h.elim
 ·
  rename_i b off hk
  split at h
  ·
   rename_i bc hb
   split at h
   ·
    rename_i t id n ho
    split at h
    ·
     rename_i al cs hl
     obtain ⟨xs,rfl,rfl,hK⟩:=h
     refine ⟨_,fun n0 w M0 bs a hr => ?_,hK⟩
     have hne:b≠id:=fun e=>by subst e; rw [hb] at hl; cases hl
     have hidl:id<s.hp.length:=look_lt (by rw [hl]; simp)
     have hbl:b<s.hp.length:=look_lt (by rw [hb]; simp)
     obtain ⟨k1,k2,k3,k4⟩:=freeze_blk hX hr.hr hr.xr hl
     have hb':Blk.look (s.hp.set id .dead) b=.cells bc:=by rw [look_set id _ b hidl,if_neg hne]; exact hb
     obtain ⟨bb,cur,e,c1,c2,c3,c4⟩:=hr.hr.cells b bc hb
     obtain ⟨u0,u1,u2,u3⟩:=c4 off _ ho
     have hu:=k4 _ u3
     obtain ⟨j1,j2⟩:=k1.rewrite (id:=b) (b:=bb) (by rw [at_set id _ b (by rw [hr.hr.len]; exact hidl),if_neg hne]; exact c1) (Evo.refl _ _) (fun _ _ _=>rfl) c2 (.cells (bc.set off (.sl t xs false)))
      ⟨cur,e,rfl,by simp; omega,fun j y hj=>by
       rw [List.getElem?_set] at hj
       split at hj
       ·
        rename_i e; subst e
        split at hj
        ·
         injection hj with hj; subst hj; exact ⟨u0,u1,u2,hu⟩
        ·
         cases hj
       ·
        obtain ⟨u,q1,q2,q3⟩:=c4 j y hj
        exact ⟨u,q1,q2,relSV_step k3 _ _ q3⟩⟩ (by rw [hb']; trivial)
     have hcomm:(s.hp.set id .dead).set b (.cells (bc.set off (.sl t xs false)))=(s.hp.set b (.cells (bc.set off (.sl t xs false)))).set id .dead:=by
      rw [List.set_comm _ _ hne.symm]
     rw [hcomm] at j1 j2
     have hst:=k3.trans j2
     have hx:XR X w M0 (bs.set id none) ((s.hp.set b (.cells (bc.set off (.sl t xs false)))).set id .dead):=fun l ys i st ht=>k2 l ys i st ((j2.only rfl).tr 0 l ys i st ht)
     exact ⟨_,⟨j1,hx,relEnv_step hst hr.env,hr.size,hr.df.evo hst.evo⟩,⟨j1,hx,hst.weaken,fun _=>rfl⟩⟩
    ·
     exact h.elim
   ·
    exact ⟨s,.refl s,h⟩
  ·
   exact ⟨s,.refl s,h⟩
 ·
  exact ⟨s,.refl s,h⟩
theorem frzSlots_sound (hX:XOk P X):∀ (l:List Nat) {s:St} {K:St→Prop},frzSlots l s K→∃ s',Turn P g X N s s'∧K s'
 | [],s,K,h=>⟨s,.refl s,h⟩
 | k::l,s,K,h=>by
  obtain ⟨s1,h1,h2⟩:=frzSlot_sound (P:=P) (g:=g) (X:=X) (N:=N) hX h
  obtain ⟨s2,k1,k2⟩:=frzSlots_sound hX l h2
  exact ⟨s2,h1.trans k1,k2⟩
theorem Wp.turn {c:Code} {s s':St} {K:Exit→St→Prop} (ht:Turn P g X N s s') (h:Wp P g X N c s' K):Wp P g X N c s K:=fun n r n0 M0 bs a w hT hr=>by
 obtain ⟨bs',h1,h2⟩:=ht n0 w M0 bs a hr
 exact wpIn_mono (h n r n0 M0 bs' a w hT h1) fun e a w ⟨s'',M0',bs'',k,x,y⟩=>⟨s'',M0',bs'',k,x,h2.trans y⟩
def thenK (K1:St→Prop) (K:Exit→St→Prop):Exit→St→Prop
 | .normal,s=>K1 s
 | e,s=>K e s
def inBlockK (id:Nat) (K:Exit→St→Prop):Exit→St→Prop
 | .exit id',s=>if id'=id then K .normal s else K (.exit id') s
 | e,s=>K e s
def noGotoK (K:Exit→St→Prop):Exit→St→Prop
 | .goto _,_=>False
 | e,s=>K e s
def vcCond (x:SL) (A B:Prop):Prop :=
 match x with
 | ⟨true,.v (.s (.bool b))⟩=>(b=true→A)∧(b=false→B)
 | ⟨true,.v (.s (.ib p q))⟩=>(p→A)∧(q→B)
 | _=>False
def flOf (g:G) (fl:List (Nat×List (Nat×Nat))) (id:Nat) (ops:List Oper) (s:St):Prop:=match look fl id with
 | some ps=>vcFl g ops ps ops s.e s.hp []
 | none=>True
def panOf (g:G) (e:Env) (o:Oper):Option (Prop×Value):=match o.guard with
 | some _=>none
 | none=>match o.op with
  | .panic x=>match opRV e x with
   | .v (.s (.val (.iface t u)))=>some (True,.iface t u)
   | _=>none
  | .call { callee:=.value (.func f),args:=xs,argTypes:=ts }=>match look g.Pn f with
   | some c=>some (c.when (argsEv g e xs.toList ts.toList)∧(argsEv g e xs.toList ts.toList).all AV.pure=true,c.what (argsEv g e xs.toList ts.toList))
   | none=>none
  | _=>none
def vcFr (g:G) (ops:List Oper) (fr:List (Nat×List Nat)):Nat→List Oper→St→(St→Prop)→(Value→St→Prop)→Prop
 | _,[],s,K,_=>K s
 | i,o::r,s,K,KP=>frzSlots ((look fr i).getD []) s fun s=>match panOf g s.e o with
  | none=>vcOps g ops [o] s.e s.hp fun e hp=>vcFr g ops fr (i+1) r ⟨e,hp⟩ K KP
  | some (p,v)=>okOps s.e o.op∧(p→KP v s)∧(¬ p→vcOps g ops [o] s.e s.hp fun e hp=>vcFr g ops fr (i+1) r ⟨e,hp⟩ K KP)
def vc (P:Program) (g:G) (X:XT) (N:Nat) (L:Cfg):Code→St→(Exit→St→Prop)→Prop
 | .skip,s,K=>K .normal s
 | .label _,s,K=>K .normal s
 | .region id ops dr,s,K=>frzSlots ((look L.frz id).getD []) s fun s=>epsSlots ((look L.eps id).getD []) s fun s=>match dr&&L.all.contains id with
  | true=>vcAll g ops.toList ops.toList.length [] s.e s.hp fun e hp=>K .normal ⟨keepE L.live e,hp⟩
  | false=>match look L.fin id with
   | some fr=>vcFr g ops.toList fr 0 ops.toList s (fun s=>K .normal ⟨keepE L.live s.e,s.hp⟩) fun v s=>K (.panic [{ v:=v,recovered:=false }]) ⟨keepE L.live s.e,s.hp⟩
   | none=>match L.qy.contains id with
    | true=>(vcOps g.quiet ops.toList ops.toList s.e s.hp fun e hp=>K .normal ⟨keepE L.live e,hp⟩)∧flOf g.quiet L.fl id ops.toList s
    | false=>(vcOps g ops.toList ops.toList s.e s.hp fun e hp=>K .normal ⟨keepE L.live e,hp⟩)∧flOf g L.fl id ops.toList s
 | .seq x y,s,K=>match isCut L.cut x with
  | true=>Wp P g X N (.seq x y) s K
  | false=>vc P g X N L x s (thenK (fun s'=>vc P g X N L y s' K) K)
 | .cond c x y,s,K=>vcCond (oper s.e c) (vc P g X N L x s K) (vc P g X N L y s K)
 | .block id c,s,K=>vc P g X N L c s (inBlockK id K)
 | .scope c,s,K=>vc P g X N L c s (noGotoK K)
 | .exit id,s,K=>K (.exit id) s
 | .goto l,s,K=>K (.goto l) s
 | .ret,s,K=>K .ret s
 | c,s,K=>Wp P g X N c s K
def codeOk' (L:Cfg) (y:Bool×List FuncId) (N:Nat):Code→Bool
 | .region id ops draw=>if draw&&L.all.contains id then dstOk N ops.toList else if (look L.fin id).isSome then !draw&&dstOk N ops.toList else match L.qy.contains id with
  | true=>(match draw,look L.fl id with
   | true,some ps=>regionFl (false,y.2) N ops.toList ps
   | _,_=>regionOk (false,y.2) N ops.toList draw)
  | false=>match draw,look L.fl id with
   | true,some ps=>regionFl y N ops.toList ps
   | _,_=>regionOk y N ops.toList draw
 | .seq a b=>codeOk' L y N a&&codeOk' L y N b
 | .cond _ a b=>codeOk' L y N a&&codeOk' L y N b
 | .block _ c=>codeOk' L y N c
 | .scope c=>codeOk' L y N c
 | .loop c=>codeOk' L y N c
 | .rangeFunc _ _ a b=>codeOk' L y N a&&codeOk' L y N b
 | _=>true
theorem Post.of_refl {w:World} {M0:Nat→Prop} {bs:Bs} {a:Act} {s:St} {K:Exit→St→Prop} {e:Exit} (h:Rel P X N n0 w M0 bs a s) (k:K e s):Post P g X N n0 K w M0 bs s.hp e a w :=
 ⟨s,M0,bs,k,h,.refl h.hr h.xr⟩
theorem pan_wp (hg:g.good P) {n:Nat} {r:Option Nat} {Q:Exit→Act→World→Prop} {Kn:Act→World→Prop} (o:Oper) {e:Env} {hp:List Blk} {bs:Bs} {a:Act} {w:World} {M0:Nat→Prop} {p:Prop} {v:Value}
  (hpo:panOf g e o=some (p,v)) (hok:okOps e o.op) (hp':p) (hr:HR w M0 bs hp) (he:relEnv w (Mof M0 bs) bs hp e a)
  (hQ:∀ w',HR w' M0 bs hp→Step false w (Mof M0 bs) bs hp w' (Mof M0 bs) bs hp→Q (.panic [{ v:=v,recovered:=false }]) a w'):o.guard=none∧o.wpIn (FW r) n P a w Kn Q:=by
 unfold panOf at hpo
 split at hpo
 ·
  cases hpo
 ·
  rename_i hgd
  refine ⟨hgd,?_⟩
  obtain ⟨dst,op,t,pos,after,guard⟩:=o
  simp only at hok hpo hgd
  split at hpo
  ·
   rename_i x
   split at hpo
   ·
    rename_i ti u hx
    injection hpo with hpo
    injection hpo with _ hv
    have hxo:(oper e x).ok=true:=allOk_mem (e:=e) (l:=[x]) (by simpa [okOps,Op.operands] using hok) x (by simp)
    have hrel:=oper_rel he x hxo
    rw [hx] at hrel
    have hv2:a.eval x=.iface ti u:=hrel
    refine ⟨fun f _=>trivial,?_⟩
    rw [Oper.semAt_eq _ _ _ (by simp)]
    have hrun:(execOp a.eval { dst:=dst,op:=.panic x,type:=t,pos:=pos,after:=after,guard:=guard }).run P w=.halt (.panic (.iface ti u)) w:=by
     simp [execOp,hv2,Instr.panic,goPanic,Sem.run_bind]
    rw [hrun]
    rw [← hv] at hQ
    exact hQ w hr (Step.refl _ _ _ _)
   ·
    cases hpo
  ·
   rename_i f xs ts
   split at hpo
   ·
    rename_i c hc
    injection hpo with hpo
    injection hpo with hp1 hv
    subst hp1
    subst hv
    obtain ⟨hent,hcon⟩:=hg.2.2.2 f c hc
    have hall:=okOps_all (by simp) hok
    have hargs:=args_rel hg.1 xs.toList ts.toList (fun x hx=>oper_rel he x (hall x (by simp [Op.operands,Call.operands]; exact .inr (by simpa using hx))))
    refine ⟨fun f _=>trivial,?_⟩
    rw [Oper.semAt_eq _ _ _ (by simp)]
    have hrun:(execOp a.eval { dst:=dst,op:=.call { callee:=.value (.func f),args:=xs,argTypes:=ts },type:=t,pos:=pos,after:=after,guard:=guard }).run P w=.ok (.enter f (xs.toList.map a.eval).toArray) w:=by
     have:=hent (xs.toList.map a.eval).toArray w
     simp only [execOp,resolve,Act.eval,Deferred.ofValue,Sem.run_bind,Sem.run_pure,Result.andThen_ok,invoke,map_arr]
     simpa using this
    rw [hrun]
    refine ⟨fun hd=>by simp [FW] at hd,callsIn_FW ((hcon w (Mof M0 bs) _ _ hp'.1 ?_ (all2_pure hp'.2 hargs)).mono ?_)⟩
    ·
     intro b hb
     rcases hb with hb | ⟨id,hb⟩
     ·
      exact hr.m0 b hb
     ·
      exact hr.lt id b hb
    ·
     rintro e1 w' ⟨rfl,hbel,hdr⟩
     obtain ⟨k1,k2⟩:=hr.keep (Evo.of_below hbel hdr) (fun id b hb=>hbel.block b (hr.lt id b hb)) (fun b hb _=>hbel.block b hb)
     exact hQ w' k1 k2
   ·
    cases hpo
  ·
   cases hpo
theorem vcFr_sound (hg:g.good P) (hX:XOk P X) {n:Nat} {r:Option Nat} {Q:Exit→Act→World→Prop} (ops:Array Oper) (fr:List (Nat×List Nat)) (n0:Option NB) :
  ∀ (l:List Oper) (i:Nat) (s:St) (K:St→Prop) (KP:Value→St→Prop) (M0:Nat→Prop) (bs:Bs) (a:Act) (w:World),(∀ o∈l,∀ d,o.dst=some d→d<N)→vcFr g ops.toList fr i l s K KP→Rel P X N n0 w M0 bs a s →
  (∀ s' M0' bs' a' w',K s'→Nx P g X w M0 bs s.hp w' M0' bs' s'.hp→Rel P X N n0 w' M0' bs' a' s'→a'.defers=a.defers→Q .normal a' w') →
  (∀ v s' M0' bs' a' w',KP v s'→Nx P g X w M0 bs s.hp w' M0' bs' s'.hp→Rel P X N n0 w' M0' bs' a' s'→a'.defers=a.defers→Q (.panic [{ v:=v,recovered:=false }]) a' w')→wpListIn (FW r) n P ops Q l a w:=by
 intro l
 induction l with
 | nil=>intro i s K KP M0 bs a w _ h hr hQ _; exact hQ s M0 bs a w h (.refl hr.hr hr.xr) hr rfl
 | cons o l ih =>
  intro i s K KP M0 bs a w hdst h hr hQ hQP
  obtain ⟨s1,ht,hv⟩:=frzSlots_sound (P:=P) (g:=g) (X:=X) (N:=N) hX _ h
  obtain ⟨bs1,hr1,hn1⟩:=ht n0 w M0 bs a hr
  have go:(vcOps g ops.toList [o] s1.e s1.hp fun e hp=>vcFr g ops.toList fr (i+1) l ⟨e,hp⟩ K KP)→wpListIn (FW r) n P ops Q (o::l) a w:=by
   intro hv
   refine vcOps_step hg hX ops o [] s1.e s1.hp bs1 a w hv hr1.hr hr1.xr hr1.env _ ?_
   intro x z hp' M0' bs' w' hx hst hv
   refine ih (i+1) ⟨putE o.dst x s1.e,hp'⟩ K KP M0' bs' _ w' (fun o' ho'=>hdst o' (by simp [ho'])) hv ⟨hst.hr,hst.xr,?_,by rw [put_eval]; exact hr1.size,by rw [put_defers]; exact hr1.df.evo hst.st.evo⟩ ?_ ?_
   ·
    exact relEnv_put (relEnv_step hst.st hr1.env) o.dst x z hx (fun d hd=>by rw [hr1.size]; exact hdst o (by simp) d hd)
   ·
    intro s' M0'' bs'' a' w'' hk hn hr' hdf
    exact hQ s' M0'' bs'' a' w'' hk ((hn1.trans hst).trans hn) hr' (by rw [hdf,put_defers])
   ·
    intro v s' M0'' bs'' a' w'' hk hn hr' hdf
    exact hQP v s' M0'' bs'' a' w'' hk ((hn1.trans hst).trans hn) hr' (by rw [hdf,put_defers])
  cases hpo:panOf g s1.e o with
  | none=>rw [hpo] at hv; exact go hv
  | some pv =>
   obtain ⟨p,v⟩:=pv
   rw [hpo] at hv
   obtain ⟨hok,h1,h2⟩:=hv
   by_cases hp:p
   ·
    obtain ⟨k1,k2⟩:=pan_wp (r:=r) (n:=n) (Q:=Q) (Kn:=wpListIn (FW r) n P ops Q l) hg o hpo hok hp hr1.hr hr1.env (fun w' q1 q2=>by
     refine hQP v s1 M0 bs1 a w' (h1 hp) (hn1.trans ?_) ⟨q1,hr1.xr.step hX q2 q1.lt,relEnv_step q2 hr1.env,hr1.size,hr1.df.evo q2.evo⟩ rfl
     exact .of_step hX hr1.xr q1 q2)
    show ite _ _ _
    rw [if_pos (by simp [Region.wanted,k1])]
    exact k2
   ·
    exact go (h2 hp)
theorem vc_region (hg:g.good P) (hX:XOk P X) (hm:P.follows .mixedOrders=true) (id:Nat) (ops:Array Oper) (draw:Bool) (hok:codeOk' L g.ye N (.region id ops draw)=true) (s:St) (K:Exit→St→Prop)
  (h:vc P g X N L (.region id ops draw) s K) (n:Nat) (r:Option Nat) (n0:Option NB) (M0:Nat→Prop) (bs:Bs) (a:Act) (w:World) (hT:(g.top=true→r=none)∧n0.isSome = !g.y) (hr:Rel P X N n0 w M0 bs a s) :
  (Code.region id ops draw).wpIn (FW r) n P (fun e a' w'=>Post P g X N n0 K w M0 bs s.hp e a' w'∧a'.defers=a.defers) a w:=by
 obtain ⟨s0,hturn0,hv0⟩:=frzSlots_sound (P:=P) (g:=g) (X:=X) (N:=N) hX _ h
 clear h
 obtain ⟨s1,hturn1,hv⟩:=epsSlots_sound (P:=P) (g:=g) (X:=X) (N:=N) hX _ hv0
 clear hv0
 obtain ⟨bs',hr',hnx'⟩:=(hturn0.trans hturn1) n0 w M0 bs a hr
 refine wpIn_mono (Q:=fun e a' w'=>Post P g X N n0 K w M0 bs' s1.hp e a' w'∧a'.defers=a.defers) ?_ fun e a w ⟨⟨s'',M0',bs'',k,x,y⟩,z⟩=>⟨⟨s'',M0',bs'',k,x,hnx'.trans y⟩,z⟩
 clear hr hnx'
 have hr:=hr'
 clear hr'
 revert hr
 generalize bs'=bs
 intro hr
 have hbeh:Behind P g X M0 N (fun e a' w'=>Post P g X N n0 K w M0 bs s1.hp e a' w'∧a'.defers=a.defers) (fun e hp=>K .normal ⟨keepE L.live e,hp⟩) w bs s1.hp a.defers:=by
  intro e' hp' M0' bs' a' w' hk hn he hN hdf
  exact ⟨⟨⟨keepE L.live e',hp'⟩,M0',bs',hk,⟨hn.hr,hn.xr,fun t x hx=>he t x (look_keepE L.live e' t x hx),hN,by rw [hdf]; exact hr.df.evo hn.st.evo⟩,hn⟩,hdf⟩
 simp only [codeOk'] at hok
 cases hal:draw&&L.all.contains id with
 | true =>
  rw [hal] at hv hok
  simp only [if_true] at hok
  simp only [Bool.and_eq_true] at hal
  obtain ⟨rfl,_⟩:=hal
  exact region_all hg hX hm id ops hok s1.e s1.hp bs a w hv hr.hr hr.xr hr.env hr.size hbeh
 | false =>
  rw [hal] at hv hok
  simp only [Bool.false_eq_true,if_false] at hok
  cases hfin:look L.fin id with
  | some fr =>
   rw [hfin] at hv hok
   simp only [Option.isSome_some,if_true,Bool.and_eq_true,Bool.not_eq_true'] at hok
   obtain ⟨rfl,hd⟩:=hok
   simp only [dstOk,List.all_eq_true] at hd
   refine wpIn_region_list (vcFr_sound hg hX ops fr n0 ops.toList 0 s1 _ _ M0 bs a w (fun o ho d hod => ?_) hv hr (fun s' M0' bs' a' w' hk hn hr' hdf=>⟨⟨⟨keepE L.live s'.e,s'.hp⟩,M0',bs',hk,⟨hr'.hr,hr'.xr,fun t x hx=>hr'.env t x (look_keepE L.live s'.e t x hx),hr'.size,hr'.df⟩,hn⟩,hdf⟩) fun v s' M0' bs' a' w' hk hn hr' hdf=>⟨⟨⟨keepE L.live s'.e,s'.hp⟩,M0',bs',hk,⟨hr'.hr,hr'.xr,fun t x hx=>hr'.env t x (look_keepE L.live s'.e t x hx),hr'.size,hr'.df⟩,hn⟩,hdf⟩)
   have:=hd o ho
   rw [hod] at this
   simpa using this
  | none =>
  rw [hfin] at hv hok
  simp only [Option.isSome_none,Bool.false_eq_true,if_false] at hok
  cases hqy:L.qy.contains id with
  | false =>
   rw [hqy] at hv hok
   simp only at hv hok
   obtain ⟨hv,hfl⟩:=hv
   split at hok
   ·
    rename_i ps heq
    unfold flOf at hfl
    rw [heq] at hfl
    exact region_float hg hX hm id ops ps hok s1.e s1.hp bs a w hv hfl hr.hr hr.xr hr.env hr.size hbeh
   ·
    exact region_sound hg hX hm id ops _ hok s1.e s1.hp bs a w hv hr.hr hr.xr hr.env hr.size hbeh
  | true =>
   rw [hqy] at hv hok
   simp only at hv hok
   have hgq:g.quiet.good P:=hg
   have hbq:Behind P g.quiet X M0 N (fun e a' w'=>Post P g X N n0 K w M0 bs s1.hp e a' w'∧a'.defers=a.defers) (fun e hp=>K .normal ⟨keepE L.live e,hp⟩) w bs s1.hp a.defers:=by
    intro e' hp' M0' bs' a' w' hk hn he hN hdf
    exact hbeh e' hp' M0' bs' a' w' hk ⟨hn.hr,hn.xr,hn.st.weaken,fun _=>hn.eq rfl⟩ he hN hdf
   obtain ⟨hv,hfl⟩:=hv
   split at hok
   ·
    rename_i ps heq
    unfold flOf at hfl
    rw [heq] at hfl
    exact region_float hgq hX hm id ops ps hok s1.e s1.hp bs a w hv hfl hr.hr hr.xr hr.env hr.size hbq
   ·
    exact region_sound hgq hX hm id ops _ hok s1.e s1.hp bs a w hv hr.hr hr.xr hr.env hr.size hbq
theorem vc_sound (hg:g.good P) (hX:XOk P X) (hm:P.follows .mixedOrders=true):∀ (c:Code),codeOk' L g.ye N c=true→∀ (s:St) (K:Exit→St→Prop),vc P g X N L c s K→Wp P g X N c s K:=by
 intro c
 induction c with
 | skip=>intro _ s K h n r n0 M0 bs a w hT hr; exact wpIn_skip (.of_refl hr h)
 | label l=>intro _ s K h n r n0 M0 bs a w hT hr; exact wpIn_label (.of_refl hr h)
 | exit id=>intro _ s K h n r n0 M0 bs a w hT hr; exact wpIn_exit (.of_refl hr h)
 | goto l=>intro _ s K h n r n0 M0 bs a w hT hr; exact wpIn_goto (.of_refl hr h)
 | ret=>intro _ s K h n r n0 M0 bs a w hT hr; exact wpIn_ret (.of_refl hr h)
 | region id ops draw =>
  intro hok s K h n r n0 M0 bs a w hT hr
  exact wpIn_mono (vc_region hg hX hm id ops draw hok s K h n r n0 M0 bs a w hT hr) fun e a w h=>h.1
 | seq x y ihx ihy =>
  intro hok s K h
  cases hcut:isCut L.cut x with
  | true=>simp only [vc,hcut] at h; exact h
  | false =>
  simp only [vc,hcut] at h
  intro n r n0 M0 bs a w hT hr
  simp only [codeOk',Bool.and_eq_true] at hok
  refine wpIn_seq (wpIn_mono (ihx hok.1 s _ h n r n0 M0 bs a w hT hr) ?_)
  rintro e a' w' ⟨s',M0',bs',k,hr',hn⟩
  have hK:e≠.normal→Post P g X N n0 K w M0 bs s.hp e a' w':=fun he=>⟨s',M0',bs',by cases e <;> first | exact absurd rfl he | exact k,hr',hn⟩
  cases e with
  | normal=>exact wpIn_mono (ihy hok.2 s' K k n r n0 M0' bs' a' w' hT hr') fun e a w ⟨s'',M0'',bs'',k,x,y⟩=>⟨s'',M0'',bs'',k,x,hn.trans y⟩
  | _=>exact hK (by simp)
 | cond c x y ihx ihy =>
  intro hok s K h n r n0 M0 bs a w hT hr
  simp only [codeOk',Bool.and_eq_true] at hok
  simp only [vc] at h
  have ho:=oper_rel hr.env c
  unfold opRV at ho
  generalize oper s.e c=z at h ho
  obtain ⟨ok,v⟩:=z
  unfold vcCond at h
  split at h
  ·
   rename_i b heq
   injection heq with e1 e2
   subst e1; subst e2
   obtain ⟨h1,h2⟩:=h
   have hb:a.eval c=.bool b:=ho rfl
   refine wpIn_cond_split hb (fun hb => ?_) (fun hb => ?_)
   ·
    exact ihx hok.1 s K (h1 hb) n r n0 M0 bs a w hT hr
   ·
    exact ihy hok.2 s K (h2 hb) n r n0 M0 bs a w hT hr
  ·
   rename_i p q heq
   injection heq with e1 e2
   subst e1; subst e2
   obtain ⟨h1,h2⟩:=h
   obtain ⟨b,hb,k1,k2⟩:∃ b,a.eval c=.bool b∧(b=true→p)∧(b=false→q):=ho rfl
   refine wpIn_cond_split hb (fun hb => ?_) (fun hb => ?_)
   ·
    exact ihx hok.1 s K (h1 (k1 hb)) n r n0 M0 bs a w hT hr
   ·
    exact ihy hok.2 s K (h2 (k2 hb)) n r n0 M0 bs a w hT hr
  ·
   exact h.elim
 | block id c ih =>
  intro hok s K h n r n0 M0 bs a w hT hr
  refine wpIn_block (wpIn_mono (ih hok s _ h n r n0 M0 bs a w hT hr) ?_)
  rintro e a' w' ⟨s',M0',bs',k,hr',hn⟩
  cases e with
  | exit id' =>
   simp only [inBlockK] at k
   simp only [Exit.inBlock]
   split at k
   ·
    rename_i e1; rw [if_pos e1]; exact ⟨s',M0',bs',k,hr',hn⟩
   ·
    rename_i e1; rw [if_neg e1]; exact ⟨s',M0',bs',k,hr',hn⟩
  | _=>exact ⟨s',M0',bs',k,hr',hn⟩
 | scope c ih =>
  intro hok s K h n r n0 M0 bs a w hT hr
  refine wpIn_scope (wpIn_mono (ih hok s _ h n r n0 M0 bs a w hT hr) ?_)
  rintro e a' w' ⟨s',M0',bs',k,hr',hn⟩
  cases e with
  | goto l=>exact k.elim
  | _=>exact ⟨s',M0',bs',k,hr',hn⟩
 | _=>intro _ s K h; exact h
def TurnT (P:Program) (g:G) (X:XT) (N n:Nat) (s s':St):Prop :=
 ∀ (n0:Option NB) (w:World) (M0:Nat→Prop) (bs:Bs) (a:Act),Rel P X N n0 w M0 bs a s→∃ bs',Rel P X N n0 w M0 bs' a s' ∧
  ∀ (w0:World) (M00:Nat→Prop) (bs0:Bs) (hp0:List Blk),hp0.length≤n→Nx P g X w0 M00 bs0 hp0 w M0 bs s.hp→Nx P g X w0 M00 bs0 hp0 w M0 bs' s'.hp
theorem Turn.toT {n:Nat} {s s':St} (h:Turn P g X N s s'):TurnT P g X N n s s':=fun n0 w M0 bs a hr=>by
 obtain ⟨bs',h1,h2⟩:=h n0 w M0 bs a hr
 exact ⟨bs',h1,fun _ _ _ _ _ hn=>hn.trans h2⟩
theorem TurnT.le {n:Nat} {s s':St} (h:s'.le s):TurnT P g X N n s s':=(Turn.le h).toT
theorem TurnT.trans {n:Nat} {s s' s'':St} (h:TurnT P g X N n s s') (k:TurnT P g X N n s' s''):TurnT P g X N n s s'':=fun n0 w M0 bs a hr=>by
 obtain ⟨bs',h1,h2⟩:=h n0 w M0 bs a hr
 obtain ⟨bs'',k1,k2⟩:=k n0 w M0 bs' a h1
 exact ⟨bs'',k1,fun w0 M00 bs0 hp0 hl hn=>k2 w0 M00 bs0 hp0 hl (h2 w0 M00 bs0 hp0 hl hn)⟩
def SV.below (n:Nat):SV→Bool
 | .box id _=>decide (id<n)
 | .own _ id _=>decide (id<n)
 | .eown _ id _ _=>decide (id<n)
 | .pre _ id _ _=>decide (id<n)
 | .suf _ id _ _=>decide (id<n)
 | .fn _ ids=>ids.all fun id=>decide (id<n)
 | .mp id=>decide (id<n)
 | _=>true
def AV.below (n:Nat):AV→Bool
 | .s x=>x.below n
 | .agg cs=>cs.all fun x=>x.below n
def RV.below (n:Nat):RV→Bool
 | .v x=>x.below n
 | .tup xs=>xs.all fun x=>x.below n
def Blk.below (n:Nat):Blk→Bool
 | .cells cs=>cs.all fun x=>x.below n
 | .arr _ cs=>cs.all fun x=>x.below n
 | _=>true
section trunc
variable {w:World} {M0:Nat→Prop} {bs:Bs} {hp junk:List Blk}
theorem at_take {n id:Nat} (h:id<n):Bs.at (bs.take n) id=bs.at id:=by
 simp [Bs.at,h]
theorem at_take' {n id b:Nat} (h:Bs.at (bs.take n) id=some b):bs.at id=some b:=by
 have:=at_lt h
 rw [List.length_take] at this
 rw [at_take (by omega)] at h; exact h
theorem look_app {id:Nat} (h:id<hp.length):Blk.look (hp++junk) id=Blk.look hp id:=by
 simp [Blk.look,List.getElem?_append_left h]
theorem Mof_take {n b:Nat} (h:Mof M0 (bs.take n) b):Mof M0 bs b:=by
 rcases h with h | ⟨id,h⟩
 ·
  exact .inl h
 ·
  exact .inr ⟨id,at_take' h⟩
theorem relSV_trunc {x:SV} {v:Value} (hb:x.below hp.length=true) (h:relSV w (Mof M0 bs) bs (hp++junk) x v):relSV w (Mof M0 (bs.take hp.length)) (bs.take hp.length) hp x v:=by
 have he:Evo (Mof M0 bs) (Mof M0 (bs.take hp.length)) w w:=Evo.more w fun b _=>Mof_take
 cases x with
 | sl t xs ex=>obtain ⟨a,c,h1,h2,h3,h4,h5⟩:=h; exact ⟨a,c,h1,h2,h3,h4,h5.evo he⟩
 | eptr t x=>obtain ⟨b,off,cs,h1,h2,h3,h4,h5⟩:=h; exact ⟨b,off,cs,h1,he.free b h3 h2,h3,rep_evo he _ _ _ h4,h5⟩
 | fnp f caps=>obtain ⟨ps,h1,h2⟩:=h; exact ⟨ps,h1,h2.imp fun c p hp=>hp.evo he⟩
 | fv x=>exact RepD.evo he h
 | box id off =>
  simp only [SV.below,decide_eq_true_eq] at hb
  obtain ⟨h1,h2⟩:=h
  refine ⟨hb,fun cs hl => ?_⟩
  rw [at_take hb]
  exact h2 cs (by rw [look_app hb]; exact hl)
 | own t id n =>
  simp only [SV.below,decide_eq_true_eq] at hb
  obtain ⟨h1,h2⟩:=h
  refine ⟨hb,fun al cs hl => ?_⟩
  rw [← look_app (junk:=junk) hb] at hl
  refine ⟨(h2 al cs hl).1,fun hlen => ?_⟩
  rw [at_take hb]
  rcases (h2 al cs hl).2 hlen with h | ⟨k1,xs,a,k2,k3,k4,k5,k6⟩
  ·
   exact .inl h
  ·
   exact .inr ⟨k1,xs,a,k2,k3,k4,k5,k6.evo he⟩
 | eown t id n off =>
  simp only [SV.below,decide_eq_true_eq] at hb
  obtain ⟨h1,h2⟩:=h
  refine ⟨hb,fun al cs hl => ?_⟩
  rw [← look_app (junk:=junk) hb] at hl
  refine ⟨(h2 al cs hl).1,fun hlen => ?_⟩
  rw [at_take hb]
  exact (h2 al cs hl).2 hlen
 | pre t id n m =>
  simp only [SV.below,decide_eq_true_eq] at hb
  obtain ⟨h1,hm,h2⟩:=h
  refine ⟨hb,hm,fun al cs hl => ?_⟩
  rw [← look_app (junk:=junk) hb] at hl
  refine ⟨(h2 al cs hl).1,fun hlen => ?_⟩
  rw [at_take hb]
  exact (h2 al cs hl).2 hlen
 | suf t id n k =>
  simp only [SV.below,decide_eq_true_eq] at hb
  obtain ⟨h1,hm,h2⟩:=h
  refine ⟨hb,hm,fun al cs hl => ?_⟩
  rw [← look_app (junk:=junk) hb] at hl
  refine ⟨(h2 al cs hl).1,fun hlen => ?_⟩
  rw [at_take hb]
  exact (h2 al cs hl).2 hlen
 | fn f ids =>
  simp only [SV.below,List.all_eq_true,decide_eq_true_eq] at hb
  obtain ⟨ps,h1,h2⟩:=h
  refine ⟨ps,h1,?_⟩
  clear h1
  induction h2 with
  | nil=>exact .nil
  | cons r _ ih =>
   have h0:=hb _ (List.mem_cons_self ..)
   refine .cons ⟨h0,fun cs hl=>by rw [at_take h0]; exact r.2 cs (by rw [look_app h0]; exact hl)⟩ (ih fun id hid=>hb id (List.mem_cons_of_mem _ hid))
 | mp id =>
  simp only [SV.below,decide_eq_true_eq] at hb
  obtain ⟨b,k,u,es,h1,h2,h3⟩:=h
  exact ⟨b,k,u,es,by rw [at_take hb]; exact h1,by rw [← look_app hb]; exact h2,h3⟩
 | _=>exact h
theorem relAV_trunc {x:AV} {v:Value} (hb:x.below hp.length=true) (h:relAV w (Mof M0 bs) bs (hp++junk) x v):relAV w (Mof M0 (bs.take hp.length)) (bs.take hp.length) hp x v:=by
 cases x with
 | s x=>exact relSV_trunc hb h
 | agg cs =>
  obtain ⟨vs,rfl,h⟩:=h
  refine ⟨vs,rfl,?_⟩
  simp only [AV.below] at hb
  induction h with
  | nil=>exact .nil
  | cons r _ ih =>
   simp only [List.all_cons,Bool.and_eq_true] at hb
   exact .cons ⟨relSV_trunc hb.1 r.1,r.2⟩ (ih hb.2)
theorem relRV_trunc {x:RV} {v:Value} (hb:x.below hp.length=true) (h:relRV w (Mof M0 bs) bs (hp++junk) x v):relRV w (Mof M0 (bs.take hp.length)) (bs.take hp.length) hp x v:=by
 cases x with
 | v x=>exact relAV_trunc hb h
 | tup xs =>
  obtain ⟨vs,rfl,h⟩:=h
  refine ⟨vs,rfl,?_⟩
  simp only [RV.below] at hb
  induction h with
  | nil=>exact .nil
  | cons r _ ih =>
   simp only [List.all_cons,Bool.and_eq_true] at hb
   exact .cons (relAV_trunc hb.1 r) (ih hb.2)
theorem HR.trunc (hr:HR w M0 bs (hp++junk)) (hb:hp.all (fun b=>b.below hp.length)=true):HR w M0 (bs.take hp.length) hp:=by
 have he:Evo (Mof M0 bs) (Mof M0 (bs.take hp.length)) w w:=Evo.more w fun b _=>Mof_take
 have hlen:(bs.take hp.length).length=hp.length:=by rw [List.length_take,hr.len,List.length_append]; omega
 have hlk:∀ id x,Blk.look hp id=x→x≠.dead→id<hp.length∧Blk.look (hp++junk) id=x:=by
  intro id x h hne
  have hlt:id<hp.length:=look_lt (by rw [h]; exact hne)
  exact ⟨hlt,by rw [look_app hlt]; exact h⟩
 have hbel:∀ id x,Blk.look hp id=x→x≠.dead→x.below hp.length=true:=by
  intro id x h hne
  have hlt:=(hlk id x h hne).1
  rw [List.all_eq_true] at hb
  have hmem:x∈hp:=by
   rw [← h]; simp only [Blk.look,List.getElem?_eq_getElem hlt,Option.getD_some]; exact List.getElem_mem hlt
  exact hb x hmem
 refine ⟨hlen,hr.m0,fun id b h=>hr.lt id b (at_take' h),fun i j b h1 h2=>hr.inj i j b (at_take' h1) (at_take' h2),fun id b h=>hr.out id b (at_take' h),?_,?_,?_,?_⟩
 ·
  intro id cs h
  obtain ⟨h1,h2⟩:=hlk id _ h (by simp)
  obtain ⟨b,hb⟩:=hr.al id cs h2
  exact ⟨b,by rw [at_take h1]; exact hb⟩
 ·
  intro id cs h
  obtain ⟨h1,h2⟩:=hlk id _ h (by simp)
  have hbl:=hbel id _ h (by simp)
  simp only [Blk.below,List.all_eq_true] at hbl
  obtain ⟨b,cur,e,q1,q2,q3,q4⟩:=hr.cells id cs h2
  refine ⟨b,cur,e,by rw [at_take h1]; exact q1,q2,q3,fun j x hj => ?_⟩
  obtain ⟨u,k1,k2,k3⟩:=q4 j x hj
  exact ⟨u,k1,k2,relSV_trunc (hbl x (List.mem_of_getElem? hj)) k3⟩
 ·
  intro id al cs b h hat
  obtain ⟨h1,h2⟩:=hlk id _ h (by simp)
  have hbl:=hbel id _ h (by simp)
  simp only [Blk.below,List.all_eq_true] at hbl
  obtain ⟨cur,e,q2,q4⟩:=hr.arr id al cs b h2 (at_take' hat)
  refine ⟨cur,e,q2,fun j x hj => ?_⟩
  obtain ⟨u,k1,k2,k3⟩:=q4 j x hj
  exact ⟨u,k1,k2,relSV_trunc (hbl x (List.mem_of_getElem? hj)) k3⟩
 ·
  intro id k v es h
  obtain ⟨h1,h2⟩:=hlk id _ h (by simp)
  obtain ⟨b,ents,clock,q1,q2,q3⟩:=hr.map id k v es h2
  exact ⟨b,ents,clock,by rw [at_take h1]; exact q1,q2,q3.imp fun x m hm=>⟨hm.1,repV_evo he hm.2⟩⟩
end trunc
def envBelow (n:Nat):Env→Bool
 | []=>true
 | (_,x)::r=>x.v.below n&&envBelow n r
theorem envBelow_look {n:Nat}:∀ {e:Env} {s:Nat} {x:SL},envBelow n e=true→look e s=some x→x.v.below n=true
 | [],s,x,_,h=>by simp [look] at h
 | (k,y)::r,s,x,hb,h=>by
  simp only [envBelow,Bool.and_eq_true] at hb
  simp only [look] at h
  split at h
  ·
   injection h with h; subst h; exact hb.1
  ·
   exact envBelow_look hb.2 h
theorem TurnT.trunc (hX:XOk P X) {n:Nat} {e e':Env} {hp junk:List Blk} (hn:n≤hp.length) (hb:hp.all (fun b=>b.below hp.length)=true) (he:envLe e' e) (heb:envBelow hp.length e'=true):TurnT P g X N n ⟨e,hp++junk⟩ ⟨e',hp⟩:=by
 intro n0 w M0 bs a hr
 have hr1:=hr.hr.trunc hb
 have hev:Evo (Mof M0 bs) (Mof M0 (bs.take hp.length)) w w:=Evo.more w fun b _=>Mof_take
 have htr:∀ l ys i st,Blk.look hp 0=.trace l ys i st→Blk.look (hp++junk) 0=.trace l ys i st:=fun l ys i st ht=>by
  rw [look_app (look_lt (by rw [ht]; simp))]; exact ht
 have hx:XR X w M0 (bs.take hp.length) hp:=fun l ys i st ht =>
  hX.stable (hr.xr l ys i st (htr l ys i st ht)) rfl rfl rfl (Nat.le_refl _) (Nat.le_refl _) (fun _ _ _=>rfl) (fun b _ hn ⟨j,hj⟩=>hn ⟨j,at_take' hj⟩) (fun b ⟨j,hj⟩=>hr1.lt j b hj)
 refine ⟨bs.take hp.length,⟨hr1,hx,fun s x hs => ?_,hr.size,hr.df.evo hev⟩,fun w0 M00 bs0 hp0 hl hnx=>⟨hr1,hx,?_,hnx.eq⟩⟩
 ·
  have h1:=hr.env s x (look_envLe he s x hs)
  exact ⟨fun ho=>relRV_trunc (envBelow_look heb hs) (h1.1 ho),h1.2⟩
 ·
  have hst:=hnx.st
  change Step g.y w0 (Mof M00 bs0) bs0 hp0 w (Mof M0 (bs.take hp.length)) (bs.take hp.length) hp
  refine ⟨hst.evo.trans hev,by omega,?_,?_,?_,fun hv => ?_⟩
  ·
   intro id cs h1 h2
   rw [at_take (by omega)]
   exact hst.box id cs h1 (by rw [look_app (by omega)]; exact h2)
  ·
   intro id b k u es h1 h2
   have hlt:id<hp0.length:=look_lt (by rw [h2]; simp)
   obtain ⟨k1,es',k2⟩:=hst.map id b k u es h1 h2
   exact ⟨by rw [at_take (by omega)]; exact k1,es',by rw [← look_app (junk:=junk) (by omega)]; exact k2⟩
  ·
   intro id al cs hid h
   rw [at_take (by omega)]
   exact hst.own id al cs hid (by rw [look_app (by omega)]; exact h)
  ·
   have ho:=hst.only hv
   exact ⟨ho.old,fun b hb hn j hj=>ho.new b hb hn j (at_take' hj),fun j l ys i st ht=>ho.tr j l ys i st (by rw [look_app (look_lt (by rw [ht]; simp))]; exact ht)⟩
theorem Wp.cut (hg:g.good P) (hX:XOk P X) (hm:P.follows .mixedOrders=true) {c:Code} (hok:codeOk' L g.ye N c=true) {s s':St} {K:Exit→St→Prop} (hs:Turn P g X N s s') (h:vc P g X N L c s' K):Wp P g X N c s K :=
 Wp.turn hs (vc_sound hg hX hm c hok s' K h)
theorem Wp.loop (hg:g.good P) (hX:XOk P X) (hm:P.follows .mixedOrders=true) {c:Code} (hok:codeOk' L g.ye N c=true) {s:St} {K:Exit→St→Prop} {ι:Type} (S:ι→St) (R:ι→Prop) (μ:ι→Nat) (i0:ι) (h0:R i0) (hs:Turn P g X N s (S i0))
  (h:∀ i,R i→vc P g X N L c (S i) (thenK (fun s'=>∃ j,R j∧μ j<μ i∧TurnT P g X N s.hp.length s' (S j)) K)):Wp P g X N (.loop c) s K:=by
 intro n r n0 M0 bs a w hT hr
 have key:∀ (m:Nat) (a:Act) (w':World) (i:ι) (M0':Nat→Prop) (bs':Bs),True:=fun _ _ _ _ _ _=>trivial
 obtain ⟨bs0,hr0,hn0⟩:=hs n0 w M0 bs a hr
 refine wpIn_loop (fun a' w'=>∃ i M0' bs',R i∧Rel P X N n0 w' M0' bs' a' (S i)∧Nx P g X w M0 bs s.hp w' M0' bs' (S i).hp)
  (fun a' w'=>sInf' (fun m=>∃ i M0' bs',μ i=m∧R i∧Rel P X N n0 w' M0' bs' a' (S i)∧Nx P g X w M0 bs s.hp w' M0' bs' (S i).hp)) ⟨i0,M0,bs0,h0,hr0,hn0⟩ ?_
 intro a1 w1 hI
 obtain ⟨i,M1,bs1,hmu,hRi,hr1,hn1⟩:=sInf'_mem (fun m=>∃ i M0' bs',μ i=m∧R i∧Rel P X N n0 w1 M0' bs' a1 (S i)∧Nx P g X w M0 bs s.hp w1 M0' bs' (S i).hp) (let ⟨i,M0',bs',x⟩:=hI; ⟨μ i,i,M0',bs',rfl,x⟩)
 refine wpIn_mono (vc_sound (L:=L) hg hX hm c hok (S i) _ (h i hRi) n r n0 M1 bs1 a1 w1 hT hr1) ?_
 rintro e a2 w2 ⟨s',M2,bs2,k,hr2,hn2⟩
 have hK:e≠.normal→Post P g X N n0 K w M0 bs s.hp e a2 w2:=fun he=>⟨s',M2,bs2,by cases e <;> first | exact absurd rfl he | exact k,hr2,hn1.trans hn2⟩
 cases e with
 | normal =>
  obtain ⟨j,hRj,hlt,ht⟩:=k
  obtain ⟨bs3,hr3,hn3⟩:=ht n0 w2 M2 bs2 a2 hr2
  have hnx:=hn3 w M0 bs s.hp (Nat.le_refl _) (hn1.trans hn2)
  have hj:∃ i M0' bs',μ i=μ j∧R i∧Rel P X N n0 w2 M0' bs' a2 (S i)∧Nx P g X w M0 bs s.hp w2 M0' bs' (S i).hp:=⟨j,M2,bs3,rfl,hRj,hr3,hnx⟩
  refine ⟨⟨j,M2,bs3,hRj,hr3,hnx⟩,?_⟩
  have:=sInf'_le (fun m=>∃ i M0' bs',μ i=m∧R i∧Rel P X N n0 w2 M0' bs' a2 (S i)∧Nx P g X w M0 bs s.hp w2 M0' bs' (S i).hp) hj
  omega
 | _=>exact hK (by simp)
end
end Go.Am
