/- Part 5 of the proof's base. -/
import Derived.Test.YtgnoaabcdccpoaaGreatDoorK4
set_option linter.all false
noncomputable section
namespace Go.Am
open Go.RowKit
def hpFree (bo:Bool):Op→Bool
 | .move _=>true
 | .assign _=>true
 | .pick ..=>true
 | .binOp ..=>true
 | .unOp ..=>true
 | .extract ..=>true
 | .convert ..=>true
 | .buildSlice _ _ ps=>ps.toList.isEmpty
 | .call { callee:=.value (.func _),.. } => !bo
 | _=>false
section
variable {P:Program} {g:G} {X:XT} {w:World} {M0:Nat→Prop} {bs:Bs} {hp:List Blk}
theorem hpFree_eq {op:Op} (h:hpFree (boOf g.ye) op=true) (hp hp':List Blk) (e:Env) (t:TypeId):pEv g hp e t op=pEv g hp' e t op:=by
 cases op
 case call c =>
  obtain ⟨callee,args,argTypes⟩:=c
  cases callee
  case value f =>
   cases f with
   | func f =>
    simp only [hpFree] at h
    cases hb:g.bo with
    | true=>rw [boOf_ye hb] at h; cases h
    | false=>simp only [pEv,callAny,hb,opRV,oper]; rfl
   | _=>first | rfl | (simp [hpFree] at h)
  all_goals simp [hpFree] at h
 case buildSlice u len ps =>
  obtain ⟨ps⟩:=ps
  cases ps with
  | cons x r=>simp [hpFree] at h
  | nil =>
   simp only [pEv,buildSliceEv,List.map_nil,fillSV]
   cases g.td u <;> try rfl
   rename_i e ety b
   simp only
   cases ety.parses len (List.replicate (len*ety.size) SV.any) <;> rfl
 all_goals first | rfl | (simp [hpFree] at h)
theorem isMem0_isMem {y:Bool×List FuncId} {op:Op} (h:isMem0 op=true):isMem y op=true:=by
 unfold isMem
 split
 ·
  simp [isMem0] at h
 ·
  simp [isMem0] at h
 ·
  exact h
def valF (g:G) (ops:List Oper) (o:Oper) (s:Env×List Blk):SL:=match isMem0 o.op with
 | true=>match gcond ops s.1 o.guard with
  | some true=>⟨true,(mEv g s.2 s.1 o.op).2.1⟩
  | _=>⟨false,.v (.s .any)⟩
 | false=>valAt g ops s.2 o s.1
def hpF (g:G) (ops:List Oper) (o:Oper) (s:Env×List Blk):List Blk:=match isMem0 o.op with
 | true=>match gcond ops s.1 o.guard with
  | some true=>(mEv g s.2 s.1 o.op).2.2
  | _=>s.2
 | false=>s.2
def stAt (g:G) (ops:List Oper) (s:Env×List Blk):Nat→Env×List Blk
 | 0=>s
 | i+1=>match ops[i]? with
  | some o=>(putE o.dst (valF g ops o (stAt g ops s i)) (stAt g ops s i).1,hpF g ops o (stAt g ops s i))
  | none=>stAt g ops s i
def oblF (g:G) (ops:List Oper) (o:Oper) (s:Env×List Blk):Prop:=match isMem0 o.op with
 | true=>∃ gc,gcond ops s.1 o.guard=some gc∧(gc=true→okOps s.1 o.op∧(mEv g s.2 s.1 o.op).1)
 | false=>oblAt g ops s.2 o s.1
def flIn (y:Bool×List FuncId) (o:Oper):Bool := !isMem y o.op||isMem0 o.op
theorem vc_preF {ops:List Oper} {e:Env} {K:Env→List Blk→Prop} (h:vcOps g ops ops e hp K):∀ (i:Nat),(∀ j o,j<i→ops[j]?=some o→flIn g.ye o=true)→i≤ops.length →
  vcOps g ops (ops.drop i) (stAt g ops (e,hp) i).1 (stAt g ops (e,hp) i).2 K∧∀ j o,j<i→ops[j]?=some o→oblF g ops o (stAt g ops (e,hp) j):=by
 intro i
 induction i with
 | zero=>intro _ _; exact ⟨by simpa [stAt] using h,fun j o hj=>by omega⟩
 | succ i ih =>
  intro hm hi
  obtain ⟨h1,h2⟩:=ih (fun j o hj=>hm j o (by omega)) (by omega)
  have hlt:i<ops.length:=by omega
  have ho:ops[i]?=some ops[i]:=List.getElem?_eq_getElem hlt
  rw [List.drop_eq_getElem_cons hlt] at h1
  have hmem:=hm i _ (by omega) ho
  simp only [vcOps] at h1
  have key:vcOps g ops (ops.drop (i+1)) (stAt g ops (e,hp) (i+1)).1 (stAt g ops (e,hp) (i+1)).2 K∧oblF g ops ops[i] (stAt g ops (e,hp) i):=by
   simp only [stAt,ho,valF,hpF,oblF]
   cases hm0:isMem0 ops[i].op with
   | true =>
    cases hgd:ops[i].guard with
    | none =>
     simp only [hgd] at h1
     obtain ⟨q1,q2⟩:=h1
     simp only [hm0] at q2
     exact ⟨q2.2,true,rfl,fun _=>⟨q1,q2.1⟩⟩
    | some gd =>
     simp only [hgd] at h1
     cases hgc:gcond ops (stAt g ops (e,hp) i).1 (some gd) with
     | none=>simp [hgc] at h1
     | some gc =>
      have hme:isMem g.ye ops[i].op=true:=isMem0_isMem hm0
      simp only [hgc,hme] at h1 ⊢
      cases gc with
      | true =>
       obtain ⟨q1,q2⟩:=h1.1 rfl
       simp only [hm0] at q2
       exact ⟨q2.2,true,rfl,fun _=>⟨q1,q2.1⟩⟩
      | false=>exact ⟨h1.2 rfl,false,rfl,fun h=>by cases h⟩
   | false =>
    have hmem:isMem g.ye ops[i].op=false:=by
     unfold flIn at hmem
     rw [hm0] at hmem
     simpa using hmem
    simp only [valAt,oblAt]
    cases hgd:ops[i].guard with
    | none =>
     simp only [hgd] at h1
     obtain ⟨q1,q2,q3⟩:=opVC_quiet h1 hmem
     exact ⟨q3,q1,q2⟩
    | some gd =>
     simp only [hgd] at h1
     cases hgc:gcond ops (stAt g ops (e,hp) i).1 (some gd) with
     | none=>simp [hgc] at h1
     | some gc =>
      simp only [hgc,hmem] at h1 ⊢
      exact ⟨h1.2,gc,rfl,h1.1⟩
  refine ⟨key.1,fun j o hj hjo => ?_⟩
  rcases Nat.lt_succ_iff_lt_or_eq.1 hj with hlt' | rfl
  ·
   exact h2 j o hlt' hjo
  ·
   rw [ho] at hjo; cases hjo; exact key.2
theorem stAt_get (ops:List Oper) (s0:Env×List Blk) (s:Nat):∀ i,i≤ops.length →
  (∃ j o,j<i∧ops[j]?=some o∧o.dst=some s∧getE (stAt g ops s0 i).1 s=valF g ops o (stAt g ops s0 j)) ∨
  ((∀ j o,j<i→ops[j]?=some o→o.dst≠some s)∧getE (stAt g ops s0 i).1 s=getE s0.1 s):=by
 intro i
 induction i with
 | zero=>intro _; right; exact ⟨fun j o hj=>by omega,rfl⟩
 | succ i ih =>
  intro hi
  have hlt:i<ops.length:=by omega
  have ho:ops[i]?=some ops[i]:=List.getElem?_eq_getElem hlt
  simp only [stAt,ho]
  rw [getE_put]
  by_cases hd:ops[i].dst=some s
  ·
   left
   exact ⟨i,_,by omega,ho,hd,by rw [if_pos hd]⟩
  ·
   rw [if_neg hd]
   rcases ih (by omega) with ⟨j,o,h1,h2,h3,h4⟩ | ⟨h1,h2⟩
   ·
    exact .inl ⟨j,o,by omega,h2,h3,h4⟩
   ·
    refine .inr ⟨fun j o hj hjo => ?_,h2⟩
    rcases Nat.lt_succ_iff_lt_or_eq.1 hj with hlt' | rfl
    ·
     exact h1 j o hlt' hjo
    ·
     rw [ho] at hjo; cases hjo; exact hd
def memAt (y:Bool×List FuncId) (ops:List Oper) (k:Nat):Bool:=match ops[k]? with
 | some o=>isMem y o.op
 | none=>false
theorem stAt_const {ops:List Oper} {s0:Env×List Blk} {y:Bool×List FuncId} {q:Nat}:∀ (m:Nat),q≤m→(∀ k,q≤k→k<m→memAt y ops k=false)→(stAt g ops s0 m).2=(stAt g ops s0 q).2:=by
 intro m
 induction m with
 | zero=>intro h _; rw [show q=0 by omega]
 | succ m ih =>
  intro h hk
  rcases Nat.lt_or_ge m q with hm | hm
  ·
   rw [show q=m+1 by omega]
  ·
   rw [← ih hm fun k h1 h2=>hk k h1 (by omega)]
   have:=hk m hm (by omega)
   simp only [stAt]
   cases ho:ops[m]? with
   | none=>rfl
   | some o =>
    simp only [memAt,ho] at this
    simp only [hpF,isMem_false this]
def vers (y:Bool×List FuncId) (ops:List Oper) (m:Nat):List Nat:=0::((List.range m).filter (memAt y ops)).map (·+1)
def clash (y:Bool×List FuncId) (ops:List Oper) (m i q:Nat):Bool :=
 (List.range m).any fun k=>memAt y ops k&&((((clo ops []).getD i []).contains k && !(decide (k<q)))||(((clo ops []).getD k []).contains i&&decide (k<q)))
def drawFl (y:Bool×List FuncId) (ops:List Oper) (m:Nat) (ps:List (Nat×Nat)):Bool :=
 (List.range ops.length).all fun i=>match ops[i]? with
  | none=>true
  | some o=>(edg o).all (fun k=>k<i) &&
   (if i<m then
    (temps o.op.operands.toList).all (fun t=>(List.range m).all fun j => !dstIs ops j t||(j<i&&(edg o).contains j)) &&
    (match o.guard with
     | none=>true
     | some (j,_)=>j<m&&(edg o).contains j) &&
    (List.range m).all (fun j=>j==i||(match o.dst with
     | some d => !dstIs ops j d
     | none=>true)) &&
    (if isMem y o.op then isMem0 o.op&&(List.range i).all (fun k => !memAt y ops k||((clo ops []).getD i []).contains k)
     else hpFree (boOf y) o.op||(vers y ops m).all fun q=>clash y ops m i q||ps.contains (i,q))
   else (List.range i).all fun k=>((clo ops []).getD i []).contains k)
theorem drawFl_spec {y:Bool×List FuncId} {ops:List Oper} {m:Nat} {ps:List (Nat×Nat)} (h:drawFl y ops m ps=true) {i:Nat} {o:Oper} (ho:ops[i]?=some o) :
  (∀ k∈edg o,k<i)∧(i<m→(∀ t∈temps o.op.operands.toList,∀ j,j<m→dstIs ops j t=true→j<i∧j∈edg o)∧(∀ gd,o.guard=some gd→gd.1<m∧gd.1∈edg o) ∧
   (∀ j,j<m→j≠i→∀ d,o.dst=some d→dstIs ops j d=false) ∧
   (isMem y o.op=true→isMem0 o.op=true∧∀ k,k<i→memAt y ops k=true→k∈(clo ops []).getD i []) ∧
   (isMem y o.op=false→hpFree (boOf y) o.op=true∨∀ q∈vers y ops m,clash y ops m i q=true∨(i,q)∈ps)) ∧
  (m≤i→∀ k,k<i→k∈(clo ops []).getD i []):=by
 unfold drawFl at h
 rw [List.all_eq_true] at h
 have hi:=(List.getElem?_eq_some_iff.1 ho).1
 have h1:=h i (by simpa using hi)
 rw [ho] at h1
 simp only [Bool.and_eq_true,List.all_eq_true,decide_eq_true_eq] at h1
 obtain ⟨h1,h2⟩:=h1
 refine ⟨h1,fun hlt => ?_,fun hge => ?_⟩
 ·
  rw [if_pos hlt] at h2
  simp only [Bool.and_eq_true,List.all_eq_true,Bool.not_eq_true',List.mem_range,Bool.or_eq_true,decide_eq_true_eq,beq_iff_eq] at h2
  obtain ⟨⟨⟨q2,q3⟩,q4⟩,q5⟩:=h2
  refine ⟨fun t ht j hj hd => ?_,fun gd hgd => ?_,fun j hj hne d hd => ?_,fun hm => ?_,fun hm => ?_⟩
  ·
   rcases q2 t ht j hj with q | q
   ·
    rw [hd] at q; cases q
   ·
    exact ⟨q.1,by simpa using q.2⟩
  ·
   rw [hgd] at q3
   obtain ⟨x,y⟩:=gd
   simp only [Bool.and_eq_true,decide_eq_true_eq] at q3
   exact ⟨q3.1,by simpa using q3.2⟩
  ·
   have:=q4 j hj
   rw [hd] at this
   simpa [hne] using this
  ·
   rw [if_pos hm] at q5
   simp only [Bool.and_eq_true,List.all_eq_true,List.mem_range,Bool.or_eq_true,Bool.not_eq_true'] at q5
   refine ⟨q5.1,fun k hk hmk => ?_⟩
   rcases q5.2 k hk with q | q
   ·
    rw [hmk] at q; cases q
   ·
    simpa using q
  ·
   rw [if_neg (by rw [hm]; decide)] at q5
   simp only [Bool.or_eq_true,List.all_eq_true] at q5
   refine q5.imp id fun q v hv=>(q v hv).imp id fun q=>by simpa using q
 ·
  rw [if_neg (by omega)] at h2
  simp only [List.all_eq_true,List.mem_range] at h2
  exact fun k hk=>by simpa using h2 k hk
def eqAt (g:G) (ops:List Oper) (i:Nat) (s s':Env×List Blk):Prop:=match ops[i]? with
 | some o=>(pEv g s'.2 s.1 o.type o.op).1∧(pEv g s'.2 s.1 o.type o.op).2=(pEv g s.2 s.1 o.type o.op).2
 | none=>True
def floatAt (g:G) (ops:List Oper) (s0:Env×List Blk) (ps:List (Nat×Nat)):Prop:=∀ p∈ps,eqAt g ops p.1 (stAt g ops s0 p.1) (stAt g ops s0 p.2)
structure InvF (g:G) (X:XT) (M0:Nat→Prop) (ops:List Oper) (m:Nat) (s0:Env×List Blk) (q:Nat) (bs:Bs) (listed:Array Bool) (a:Act) (w:World):Prop where
 size:listed.size=ops.length
 pre:∀ i,m≤i→i<ops.length→listed.getD i true=false
 closed:∀ i o,ops[i]?=some o→listed.getD i true=true→∀ k∈edg o,listed.getD k true=true
 ver:∀ k,k<m→memAt g.ye ops k=true→(listed.getD k true=true↔k<q)
 qin:q∈vers g.ye ops m
 hr:HR w M0 bs (stAt g ops s0 q).2
 xr:XR X w M0 bs (stAt g ops s0 q).2
 done:∀ j o,j<m→ops[j]?=some o→listed.getD j true=true→∀ d,o.dst=some d→relSL w (Mof M0 bs) bs (stAt g ops s0 q).2 (valF g ops o (stAt g ops s0 j)) (a.tmps.getD d undef)
 old:∀ s,(∀ j,j<m→dstIs ops j s=false)→relSL w (Mof M0 bs) bs (stAt g ops s0 q).2 (getE s0.1 s) (a.tmps.getD s undef)
theorem vers_le {y:Bool×List FuncId} {ops:List Oper} {m q:Nat} (h:q∈vers y ops m):q≤m:=by
 simp only [vers,List.mem_cons,List.mem_map,List.mem_filter,List.mem_range] at h
 rcases h with rfl | ⟨k,⟨hk,_⟩,rfl⟩ <;> omega
theorem InvF.finish {ops:List Oper} {m:Nat} {s0:Env×List Blk} {q:Nat} {listed:Array Bool} {a:Act} (hm:m≤ops.length) (hI:InvF g X M0 ops m s0 q bs listed a w) (hall:∀ i,i<m→listed.getD i true=true) :
  (stAt g ops s0 m).2=(stAt g ops s0 q).2∧relEnv w (Mof M0 bs) bs (stAt g ops s0 m).2 (stAt g ops s0 m).1 a:=by
 have hc:(stAt g ops s0 m).2=(stAt g ops s0 q).2:=by
  refine stAt_const (y:=g.ye) m (vers_le hI.qin) fun k h1 h2 => ?_
  cases hk:memAt g.ye ops k with
  | false=>rfl
  | true =>
   have:=(hI.ver k h2 hk).1 (hall k h2)
   omega
 refine ⟨hc,?_⟩
 rw [hc]
 intro s x hx
 have hgx:getE (stAt g ops s0 m).1 s=x:=by simp [getE,hx]
 rw [← hgx]
 rcases stAt_get (g:=g) ops s0 s m hm with ⟨j,o,h1,h2,h3,h4⟩ | ⟨h1,h2⟩
 ·
  rw [h4]; exact hI.done j o h1 h2 (hall j h1) s h3
 ·
  rw [h2]; refine hI.old s fun j hj => ?_
  cases hds:dstIs ops j s with
  | false=>rfl
  | true=>obtain ⟨o,ho,hd⟩:=dstIs_not hds; exact absurd hd (h1 j o hj ho)
theorem phaseF (hg:g.good P) (hX:XOk P X) {N n:Nat} {r:Option Nat} {Q:Exit→Act→World→Prop} {K:Env→List Blk→Prop} (ops:Array Oper) (hdst:∀ o∈ops.toList,∀ d,o.dst=some d→d<N) (m:Nat) (hm:m≤ops.size) (ps:List (Nat×Nat))
  (hok:drawFl g.ye ops.toList m ps=true) (e:Env) (hp:List Blk) (hv:vcOps g ops.toList ops.toList e hp K) (hfl:floatAt g ops.toList (e,hp) ps) :
  ∀ (fuel:Nat) (q:Nat) (bs:Bs) (listed:Array Bool) (a:Act) (w:World),InvF g X M0 ops.toList m (e,hp) q bs listed a w→a.tmps.size=N→Behind P g X M0 N Q K w bs (stAt g ops.toList (e,hp) q).2 a.defers →
  ((List.range m).filter (fun j => !listed.getD j true)).length+(ops.size - m)≤fuel→wpAnyIn (FW r) n P .any ops Q fuel listed a w:=by
 have hlt:∀ i o,ops.toList[i]?=some o→∀ k∈edg o,k<i:=fun i o ho=>(drawFl_spec hok ho).1
 obtain ⟨hvm,hobl⟩:=vc_preF hv m (fun j o hj ho=>by
  obtain ⟨_,_,_,h4,_⟩:=(drawFl_spec hok ho).2.1 hj
  unfold flIn
  cases hm:isMem g.ye o.op with
  | false=>rfl
  | true=>obtain ⟨k1,_⟩:=h4 hm; rw [k1]; rfl) (by simpa using hm)
 have hsizes:ops.toList.length=ops.size:=by simp
 have hend:∀ (fuel q:Nat) (bs:Bs) (listed:Array Bool) (a:Act) (w:World),InvF g X M0 ops.toList m (e,hp) q bs listed a w→a.tmps.size=N→Behind P g X M0 N Q K w bs (stAt g ops.toList (e,hp) q).2 a.defers →
   (∀ i,i<m→listed.getD i true=true)→ops.size - m≤fuel→wpAnyIn (FW r) n P .any ops Q fuel listed a w:=by
  intro fuel q bs listed a w hI hN hQ hall hf
  obtain ⟨hc,hre⟩:=hI.finish (by simpa using hm) hall
  refine phaseB hg hX ops hdst hlt fuel m listed _ _ M0 bs a w (by rw [hI.size,hsizes]) (fun j hj=>⟨fun h => ?_,fun h=>hall j h⟩) hm hf
   (fun j hj hj2 k hk=>(drawFl_spec hok (List.getElem?_eq_getElem (by simpa using hj2))).2.2 hj k hk) hvm (by rw [hc]; exact hI.hr) (by rw [hc]; exact hI.xr) hre hN (by rw [hc]; exact hQ)
  rcases Nat.lt_or_ge j m with h' | h'
  ·
   exact h'
  ·
   rw [hI.pre j h' (by omega)] at h; cases h
 intro fuel
 induction fuel with
 | zero =>
  intro q bs listed a w hI hN hQ hf
  refine hend 0 q bs listed a w hI hN hQ (fun i hi => ?_) (by omega)
  cases hli:listed.getD i true with
  | true=>rfl
  | false =>
   have:i∈(List.range m).filter (fun j => !listed.getD j true):=List.mem_filter.2 ⟨List.mem_range.2 hi,by rw [hli]; rfl⟩
   have:=List.length_pos_of_mem this
   omega
 | succ fuel ih =>
  intro q bs listed a w hI hN hQ hf
  by_cases hall:∀ i,i<m→listed.getD i true=true
  ·
   exact hend (fuel+1) q bs listed a w hI hN hQ hall (by omega)
  ·
   have hex:∃ i,i<m∧listed.getD i true=false:=by
    apply Classical.byContradiction
    intro hne
    refine hall fun i hi => ?_
    cases hli:listed.getD i true with
    | true=>rfl
    | false=>exact absurd ⟨i,hi,hli⟩ hne
   obtain ⟨i0,hi0,hi1,hi2⟩:=least_not (p:=fun i=>listed.getD i true) hex
   have hls:listed.size=ops.size:=by rw [hI.size,hsizes]
   refine ⟨fun hnil => ?_,fun j hj => ?_⟩
   ·
    exfalso
    have hio:ops[i0]?=some ops[i0]:=Array.getElem?_eq_getElem (by omega)
    have:i0∈Region.ready .any ops listed:=mem_ready.2 ⟨hi1,_,hio,fun ed hed hb=>by
     have hk:=hlt i0 _ (by rw [Array.getElem?_toList]; exact hio) ed.on (by simp only [edg,List.mem_map,List.mem_filter]; exact ⟨ed,⟨by simpa using hed,hb⟩,rfl⟩)
     rw [← getD_tf (by omega)]
     exact hi2 ed.on hk⟩
    rw [hnil] at this; cases this
   ·
    obtain ⟨h1,o,ho,h2⟩:=mem_ready.1 hj
    have hjs:=(Array.getElem?_eq_some_iff.1 ho).1
    have hol:ops.toList[j]?=some o:=by rw [Array.getElem?_toList]; exact ho
    obtain ⟨d1,d2,d3⟩:=drawFl_spec hok hol
    have hedg:∀ k∈edg o,listed.getD k true=true:=by
     intro k hk
     have hk0:=hk
     simp only [edg,List.mem_map,List.mem_filter] at hk
     obtain ⟨ed,⟨hed,hb⟩,rfl⟩:=hk
     have:=d1 ed.on hk0
     rw [getD_tf (by omega)]
     exact h2 ed (by simpa using hed) hb
    have hcl:Closed ops.toList (fun k=>listed.getD k true=true):=fun k ok hok' hk q hq=>hI.closed k ok hok' hk q hq
    have hclo:∀ k∈(clo ops.toList []).getD j [],listed.getD k true=true:=clo_spec hcl ops.toList [] (by simp) (fun i o h=>by simp at h) hlt j o (by simpa using hjs) hol hedg
    have hjm:j<m:=by
     rcases Nat.lt_or_ge j m with h | h
     ·
      exact h
     ·
      exfalso
      have:=hclo i0 (d3 h i0 (by omega))
      rw [hi1] at this; cases this
    obtain ⟨q2,q3,q4,qm,qf⟩:=d2 hjm
    have hob:=hobl j o hjm hol
    have hslot:∀ t,(∀ j',j'<m→dstIs ops.toList j' t=true→j'<j∧j'∈edg o)→relSL w (Mof M0 bs) bs (stAt g ops.toList (e,hp) q).2 (getE (stAt g ops.toList (e,hp) j).1 t) (a.tmps.getD t undef):=by
     intro t ht
     rcases stAt_get (g:=g) ops.toList (e,hp) t j (by simp; omega) with ⟨j',o',k1,k2,k3,k4⟩ | ⟨k1,k2⟩
     ·
      rw [k4]
      exact hI.done j' o' (by omega) k2 (hedg j' (ht j' (by omega) (dstIs_of k2 k3)).2) t k3
     ·
      rw [k2]
      refine hI.old t fun j' hj' => ?_
      cases hds:dstIs ops.toList j' t with
      | false=>rfl
      | true =>
       obtain ⟨o',ho',hd'⟩:=dstIs_not hds
       exact absurd hd' (k1 j' o' (ht j' hj' hds).1 ho')
    have hops:∀ x∈o.op.operands.toList,(oper (stAt g ops.toList (e,hp) j).1 x).ok=true→relRV w (Mof M0 bs) bs (stAt g ops.toList (e,hp) q).2 (opRV (stAt g ops.toList (e,hp) j).1 x) (a.eval x):=by
     intro x hx hxo
     cases x with
     | tmp t=>exact (hslot t (fun j' hj' hds=>q2 t (mem_temps hx) j' hj' hds)).1 hxo
     | const v=>cases v <;> exact rfl
     | func f=>exact ⟨[],rfl,.nil⟩
     | global n=>exact global_rel hI.hr.gl _ a n
    have next:∀ (q':Nat) (bs':Bs) (z:Value) (w':World),q'∈vers g.ye ops.toList m→(∀ k,k<m→memAt g.ye ops.toList k=true→((listed.setIfInBounds j true).getD k true=true↔k<q')) →
      relSL w' (Mof M0 bs') bs' (stAt g ops.toList (e,hp) q').2 (valF g ops.toList o (stAt g ops.toList (e,hp) j)) z→HR w' M0 bs' (stAt g ops.toList (e,hp) q').2 →
      Step false w (Mof M0 bs) bs (stAt g ops.toList (e,hp) q).2 w' (Mof M0 bs') bs' (stAt g ops.toList (e,hp) q').2 →
      wpAnyIn (FW r) n P .any ops Q fuel (listed.setIfInBounds j true) (a.put o.dst z) w':=by
     intro q' bs' z w' hq' hver hz hr' hst
     refine ih q' bs' _ _ w' ⟨by simp [hI.size],?_,?_,hver,hq',hr',hI.xr.step hX hst hr'.lt,?_,?_⟩ (by rw [put_eval]; exact hN) (by rw [put_defers]; exact hQ.step (.of_step hX hI.xr hr' hst)) ?_
     ·
      intro i hmi hi
      rw [set_get _ _ _ (by omega),if_neg (by omega)]
      exact hI.pre i hmi hi
     ·
      intro i oi hoi hli k hk
      rw [set_get _ _ _ (by omega)] at hli ⊢
      by_cases e1:j=k
      ·
       rw [if_pos e1]
      ·
       rw [if_neg e1]
       by_cases e2:j=i
       ·
        subst e2; rw [hol] at hoi; cases hoi; exact hedg k hk
       ·
        rw [if_neg e2] at hli; exact hI.closed i oi hoi hli k hk
     ·
      intro j' o' hj' ho' hl' d hd
      by_cases e1:j=j'
      ·
       subst e1
       rw [hol] at ho'; cases ho'
       rw [hd,getD_put_same (by rw [hN]; exact hdst o (List.mem_of_getElem? hol) d hd)]
       exact hz
      ·
       have hne:o.dst≠some d:=fun h=>by
        have:=q4 j' hj' (fun e=>e1 e.symm) d h
        rw [dstIs_of ho' hd] at this; cases this
       rw [getD_put d hne]
       rw [set_get _ _ _ (by omega),if_neg e1] at hl'
       exact relSL_step hst _ _ (hI.done j' o' hj' ho' hl' d hd)
     ·
      intro s hs
      have hne:o.dst≠some s:=fun h=>by
       have:=hs j hjm
       rw [dstIs_of hol h] at this; cases this
      rw [getD_put s hne]
      exact relSL_step hst _ _ (hI.old s hs)
     ·
      have:=filter_lt (fun k => !listed.getD k true) (fun k => !(listed.setIfInBounds j true).getD k true) (fun x hx=>by
       simp only [set_get _ _ _ (show j<listed.size by omega)] at hx
       by_cases e1:j=x
       ·
        rw [if_pos e1] at hx; simp at hx
       ·
        rw [if_neg e1] at hx; exact hx) j (by simp [h1]) (by simp [set_get _ _ _ (show j<listed.size by omega)]) (List.range m) (by simpa using hjm)
      omega
    unfold wpOpIn
    rw [ho]
    simp only
    unfold oblF at hob
    cases hmo:isMem g.ye o.op with
    | true =>
     obtain ⟨m0,mc⟩:=qm hmo
     simp only [m0] at hob
     obtain ⟨gc,hgc,hob⟩:=hob
     have hmj:memAt g.ye ops.toList j=true:=by simp only [memAt,hol]; exact hmo
     have hqj:q≤j:=by
      rcases Nat.lt_or_ge j q with h | h
      ·
       have:=(hI.ver j hjm hmj).2 h
       rw [h1] at this; cases this
      ·
       exact h
     have hcur:(stAt g ops.toList (e,hp) j).2=(stAt g ops.toList (e,hp) q).2:=by
      refine stAt_const (y:=g.ye) j hqj fun k k1 k2 => ?_
      cases hk:memAt g.ye ops.toList k with
      | false=>rfl
      | true =>
       have:=(hI.ver k (by omega) hk).1 (hclo k (mc k k2 hk))
       omega
     have hvin:j+1∈vers g.ye ops.toList m:=by
      simp only [vers,List.mem_cons,List.mem_map,List.mem_filter,List.mem_range]
      exact .inr ⟨j,⟨hjm,hmj⟩,rfl⟩
     have hvv:∀ k,k<m→memAt g.ye ops.toList k=true→((listed.setIfInBounds j true).getD k true=true↔k<j+1):=by
      intro k hk hmk
      rw [set_get _ _ _ (by omega)]
      by_cases e1:j=k
      ·
       subst e1; simp
      ·
       rw [if_neg e1,hI.ver k hk hmk]
       constructor
       ·
        intro h; omega
       ·
        intro h
        exact (hI.ver k hk hmk).1 (hclo k (mc k (by omega) hmk))
     have hnxt:gc=true→(stAt g ops.toList (e,hp) (j+1)).2=(mEv g (stAt g ops.toList (e,hp) j).2 (stAt g ops.toList (e,hp) j).1 o.op).2.2:=by
      intro hgt
      subst hgt
      simp only [stAt,hol,hpF,m0,hgc]
     have hvt:gc=true→valF g ops.toList o (stAt g ops.toList (e,hp) j)=⟨true,(mEv g (stAt g ops.toList (e,hp) j).2 (stAt g ops.toList (e,hp) j).1 o.op).2.1⟩:=by
      intro hgt
      subst hgt
      simp only [valF,m0,hgc]
     cases hgd:o.guard with
     | none =>
      rw [if_pos (by simp [Region.wanted,hgd])]
      have hgt:gc=true:=by rw [hgd] at hgc; exact (Option.some.inj hgc).symm
      obtain ⟨ho1,ho2⟩:=hob hgt
      obtain ⟨hdid,hdef⟩:=mEv_did hg (by rw [hcur]; exact hI.hr) o (by rw [hcur]; exact hops) ho1 ho2
      exact did_wp (fun _=>trivial) hdef hdid fun z w' bs' k1 k2 k3=>next (j+1) bs' z w' hvin hvv (by rw [hnxt hgt,hvt hgt]; exact ⟨fun _=>k1,by simp⟩) (by rw [hnxt hgt]; exact k2) (by rw [hnxt hgt,← hcur]; exact k3)
     | some gd =>
      obtain ⟨q5,q6⟩:=q3 gd hgd
      rw [guard_rel (ops:=ops) (by rw [← hgd]; exact hgc) o hgd (fun d hd=>hslot d (fun j' hj' hds=>by
       have hgo:∃ og,ops.toList[gd.1]?=some og∧og.dst=some d:=by
        rw [Array.getElem?_toList]
        cases hog:ops[gd.1]? with
        | none=>simp [hog] at hd
        | some og=>simp [hog] at hd; exact ⟨og,rfl,hd⟩
       obtain ⟨og,hog,hogd⟩:=hgo
       have hjg:j'=gd.1:=by
        apply Classical.byContradiction
        intro hne
        have:=((drawFl_spec hok hog).2.1 q5).2.2.1 j' hj' hne d hogd
        rw [hds] at this; cases this
       subst hjg
       exact ⟨d1 _ q6,q6⟩))]
      cases gc with
      | true =>
       obtain ⟨ho1,ho2⟩:=hob rfl
       obtain ⟨hdid,hdef⟩:=mEv_did hg (by rw [hcur]; exact hI.hr) o (by rw [hcur]; exact hops) ho1 ho2
       exact did_wp (fun _=>trivial) hdef hdid fun z w' bs' k1 k2 k3=>next (j+1) bs' z w' hvin hvv (by rw [hnxt rfl,hvt rfl]; exact ⟨fun _=>k1,by simp⟩) (by rw [hnxt rfl]; exact k2) (by rw [hnxt rfl,← hcur]; exact k3)
      | false =>
       have hnx:(stAt g ops.toList (e,hp) (j+1)).2=(stAt g ops.toList (e,hp) q).2:=by
        rw [← hcur]
        simp only [stAt,hol,hpF,m0,hgc]
       refine ⟨fun _ _=>trivial,next (j+1) bs undef w hvin hvv ?_ ?_ ?_⟩
       ·
        simp only [valF,m0,hgc]
        exact ⟨by simp,fun _=>rfl⟩
       ·
        rw [hnx]; exact hI.hr
       ·
        rw [hnx]; exact Step.refl _ _ _ _
    | false =>
     have m0:=isMem_false hmo
     simp only [m0] at hob
     have hval:valF g ops.toList o (stAt g ops.toList (e,hp) j)=valAt g ops.toList (stAt g ops.toList (e,hp) j).2 o (stAt g ops.toList (e,hp) j).1:=by simp only [valF,m0]
     have hver':∀ k,k<m→memAt g.ye ops.toList k=true→((listed.setIfInBounds j true).getD k true=true↔k<q):=by
      intro k hk hmk
      rw [set_get _ _ _ (by omega)]
      by_cases e1:j=k
      ·
       subst e1
       simp only [memAt,hol,hmo] at hmk
       cases hmk
      ·
       rw [if_neg e1]; exact hI.ver k hk hmk
     have hpe:(pEv g (stAt g ops.toList (e,hp) j).2 (stAt g ops.toList (e,hp) j).1 o.type o.op).1→(pEv g (stAt g ops.toList (e,hp) q).2 (stAt g ops.toList (e,hp) j).1 o.type o.op).1 ∧
       (pEv g (stAt g ops.toList (e,hp) q).2 (stAt g ops.toList (e,hp) j).1 o.type o.op).2=(pEv g (stAt g ops.toList (e,hp) j).2 (stAt g ops.toList (e,hp) j).1 o.type o.op).2:=by
      intro hp1
      rcases qf hmo with hf | hf
      ·
       rw [hpFree_eq hf (stAt g ops.toList (e,hp) q).2 (stAt g ops.toList (e,hp) j).2]
       exact ⟨hp1,rfl⟩
      ·
       rcases hf q hI.qin with hf | hf
       ·
        exfalso
        simp only [clash,List.any_eq_true,List.mem_range,Bool.and_eq_true,Bool.or_eq_true,List.contains_iff_mem,Bool.not_eq_true',decide_eq_true_eq,decide_eq_false_iff_not] at hf
        obtain ⟨k,hk,hmk,hc | hc⟩:=hf
        ·
         exact hc.2 ((hI.ver k hk hmk).1 (hclo k hc.1))
        ·
         have hlk:=(hI.ver k hk hmk).2 hc.2
         obtain ⟨ok,hok'⟩:∃ ok,ops.toList[k]?=some ok:=⟨_,List.getElem?_eq_getElem (by simp; omega)⟩
         have:=clo_spec hcl ops.toList [] (by simp) (fun i o h=>by simp at h) hlt k ok (by simp; omega) hok' (fun x hx=>hI.closed k ok hok' hlk x hx) j hc.1
         rw [h1] at this; cases this
       ·
        have:=hfl _ hf
        simp only [eqAt,hol] at this
        exact this
     have fin:∀ (gc:Bool) (z:Value) (w':World),(gc=true→relRV w' (Mof M0 bs) bs (stAt g ops.toList (e,hp) q).2 (pEv g (stAt g ops.toList (e,hp) j).2 (stAt g ops.toList (e,hp) j).1 o.type o.op).2 z)→(gc=false→z=undef) →
       valAt g ops.toList (stAt g ops.toList (e,hp) j).2 o (stAt g ops.toList (e,hp) j).1=⟨gc,(pEv g (stAt g ops.toList (e,hp) j).2 (stAt g ops.toList (e,hp) j).1 o.type o.op).2⟩ →
       HR w' M0 bs (stAt g ops.toList (e,hp) q).2→Step false w (Mof M0 bs) bs (stAt g ops.toList (e,hp) q).2 w' (Mof M0 bs) bs (stAt g ops.toList (e,hp) q).2 →
       wpAnyIn (FW r) n P .any ops Q fuel (listed.setIfInBounds j true) (a.put o.dst z) w':=by
      intro gc z w' hz1 hz2 hva hr' hst
      refine next q bs z w' hI.qin hver' ?_ hr' hst
      rw [hval,hva]
      exact ⟨fun h=>hz1 h,fun h=>hz2 h⟩
     unfold oblAt at hob
     unfold valAt at fin
     cases hgd:o.guard with
     | none =>
      rw [if_pos (by simp [Region.wanted,hgd])]
      simp only [hgd] at hob fin
      obtain ⟨p1,p2⟩:=hpe hob.2
      exact pEv_wp hg hI.hr o hops hob.1 p1 fun z w' k1 k2 k3=>fin true z w' (fun _=>by rw [← p2]; exact k1) (by simp) rfl k2 k3
     | some gd =>
      simp only [hgd] at hob fin
      obtain ⟨gc,hgc,hob⟩:=hob
      simp only [hgc] at fin
      obtain ⟨q5,q6⟩:=q3 gd hgd
      rw [guard_rel (ops:=ops) hgc o hgd (fun d hd=>hslot d (fun j' hj' hds=>by
       have hgo:∃ og,ops.toList[gd.1]?=some og∧og.dst=some d:=by
        rw [Array.getElem?_toList]
        cases hog:ops[gd.1]? with
        | none=>simp [hog] at hd
        | some og=>simp [hog] at hd; exact ⟨og,rfl,hd⟩
       obtain ⟨og,hog,hogd⟩:=hgo
       have hjg:j'=gd.1:=by
        apply Classical.byContradiction
        intro hne
        have:=((drawFl_spec hok hog).2.1 q5).2.2.1 j' hj' hne d hogd
        rw [hds] at this; cases this
       subst hjg
       exact ⟨d1 _ q6,q6⟩))]
      cases gc with
      | true =>
       obtain ⟨k1,k2⟩:=hob rfl
       obtain ⟨p1,p2⟩:=hpe k2
       exact pEv_wp hg hI.hr o hops k1 p1 fun z w' k1 k2 k3=>fin true z w' (fun _=>by rw [← p2]; exact k1) (by simp) rfl k2 k3
      | false=>exact ⟨fun _ _=>trivial,fin false undef w (by simp) (fun _=>rfl) rfl hI.hr (Step.refl _ _ _ _)⟩
def vcFl (g:G) (ops:List Oper) (ps:List (Nat×Nat)):List Oper→Env→List Blk→List (Env×List Blk)→Prop
 | [],e,hp,acc=>∀ p∈ps,match (acc++[(e,hp)])[p.1]?,(acc++[(e,hp)])[p.2]? with
  | some s,some s'=>eqAt g ops p.1 s s'
  | _,_=>False
 | o::r,e,hp,acc=>vcFl g ops ps r (putE o.dst (valF g ops o (e,hp)) e) (hpF g ops o (e,hp)) (acc++[(e,hp)])
theorem vcFl_spec (ops:List Oper) (ps:List (Nat×Nat)) (s0:Env×List Blk):∀ (l:List Oper) (i:Nat) (acc:List (Env×List Blk)),l=ops.drop i→i≤ops.length→acc.length=i→(∀ j,j<i→acc[j]?=some (stAt g ops s0 j)) →
  vcFl g ops ps l (stAt g ops s0 i).1 (stAt g ops s0 i).2 acc→floatAt g ops s0 ps:=by
 intro l
 induction l with
 | nil =>
  intro i acc hl hi hacc hst h p hp
  have hie:i=ops.length:=by
   have:=congrArg List.length hl
   simp at this
   omega
  have hget:∀ k s,(acc++[((stAt g ops s0 i).1,(stAt g ops s0 i).2)])[k]?=some s→s=stAt g ops s0 k:=by
   intro k s hk
   rcases Nat.lt_or_ge k i with h' | h'
   ·
    rw [List.getElem?_append_left (by omega),hst k h'] at hk
    exact (Option.some.inj hk).symm
   ·
    have hk':=(List.getElem?_eq_some_iff.1 hk).1
    simp only [List.length_append,List.length_cons,List.length_nil] at hk'
    have:k=i:=by omega
    subst this
    rw [List.getElem?_append_right (by omega)] at hk
    simp [hacc] at hk
    exact hk.symm
  have:=h p hp
  split at this
  ·
   rename_i s s' h1 h2
   rw [hget _ _ h1,hget _ _ h2] at this
   exact this
  ·
   exact this.elim
 | cons o r ih =>
  intro i acc hl hi hacc hst h
  have hlt:i<ops.length:=by
   rcases Nat.lt_or_ge i ops.length with h' | h'
   ·
    exact h'
   ·
    rw [List.drop_of_length_le h'] at hl; cases hl
  rw [List.drop_eq_getElem_cons hlt] at hl
  injection hl with h1 h2
  have ho:ops[i]?=some o:=by rw [h1]; exact List.getElem?_eq_getElem hlt
  refine ih (i+1) (acc++[stAt g ops s0 i]) h2 hlt (by simp [hacc]) (fun j hj => ?_) ?_
  ·
   rcases Nat.lt_succ_iff_lt_or_eq.1 hj with h' | rfl
   ·
    rw [List.getElem?_append_left (by omega)]; exact hst j h'
   ·
    rw [List.getElem?_append_right (by omega)]; simp [hacc]
  ·
   simp only [vcFl] at h
   simp only [stAt,ho]
   exact h
def regionFl (y:Bool×List FuncId) (N:Nat) (ops:List Oper) (ps:List (Nat×Nat)):Bool :=
 dstOk N ops&&(List.range (ops.length+1)).any fun m=>drawFl y ops m ps
theorem region_float (hg:g.good P) (hX:XOk P X) (hm:P.follows .mixedOrders=true) {N n:Nat} {r:Option Nat} {Q:Exit→Act→World→Prop} {K:Env→List Blk→Prop} (id:Nat) (ops:Array Oper) (ps:List (Nat×Nat)) (hok:regionFl g.ye N ops.toList ps=true)
  (e:Env) (hp:List Blk) (bs:Bs) (a:Act) (w:World) (hv:vcOps g ops.toList ops.toList e hp K) (hf:vcFl g ops.toList ps ops.toList e hp []) (hr:HR w M0 bs hp) (hx:XR X w M0 bs hp) (he:relEnv w (Mof M0 bs) bs hp e a) (hN:a.tmps.size=N) (hQ:Behind P g X M0 N Q K w bs hp a.defers) :
  (Code.region id ops true).wpIn (FW r) n P Q a w:=by
 unfold regionFl dstOk at hok
 simp only [Bool.and_eq_true,List.all_eq_true,List.any_eq_true,List.mem_range] at hok
 obtain ⟨h1,m,hm1,hm2⟩:=hok
 have hdst:∀ o∈ops.toList,∀ d,o.dst=some d→d<N:=fun o ho d hd=>by have:=h1 o ho; rw [hd] at this; simpa using this
 have hfl:floatAt g ops.toList (e,hp) ps:=vcFl_spec ops.toList ps (e,hp) ops.toList 0 [] (by simp) (by simp) rfl (fun j hj=>by omega) hf
 refine wpIn_region_any hm ?_
 obtain ⟨k1,k2⟩:=hr.keep_drew
 refine phaseF hg hX ops hdst m (by simp at hm1; omega) ps hm2 e hp hv hfl _ 0 bs _ a _ ⟨by simp,?_,?_,?_,by simp [vers],k1,hx.step hX k2 k1.lt,?_,?_⟩ hN (hQ.step (.of_step hX hx k1 k2)) ?_
 ·
  intro i _ hi; simp at hi; simp [Array.getD_eq_getD_getElem?,hi]
 ·
  intro i o ho hl
  have hi:=(List.getElem?_eq_some_iff.1 ho).1
  simp at hi
  simp [Array.getD_eq_getD_getElem?,hi] at hl
 ·
  intro k hk _
  have hi:k<ops.size:=by simp at hm1; omega
  simp [Array.getD_eq_getD_getElem?,hi]
 ·
  intro j o hj ho hl
  have hi:=(List.getElem?_eq_some_iff.1 ho).1
  simp at hi
  simp [Array.getD_eq_getD_getElem?,hi] at hl
 ·
  intro s _; exact relSL_step k2 _ _ (getE_rel he s)
 ·
  have:=List.length_filter_le (fun j => !(Array.replicate ops.size false).getD j true) (List.range m)
  simp at this hm1 ⊢
  omega
end
end Go.Am
namespace Go.Am
open Go.RowKit
section
variable {P:Program} {g:G} {hp:List Blk} {e e':Env}
theorem argsEv_congr:∀ {xs:List Operand} {ts:List TypeId},(∀ x∈xs,oper e x=oper e' x)→argsEv g e xs ts=argsEv g e' xs ts
 | [],_,_=>by simp [argsEv]
 | x::xs,[],h=>by
  have h1:=h x (by simp)
  simp only [argsEv,opRV,h1]
  rw [argsEv_congr fun y hy=>h y (by simp [hy])]
 | x::xs,t::ts,h=>by
  have h1:=h x (by simp)
  simp only [argsEv,opRV,h1]
  rw [argsEv_congr fun y hy=>h y (by simp [hy])]
theorem allOk_congr:∀ {xs:List Operand},(∀ x∈xs,oper e x=oper e' x)→allOk e xs=allOk e' xs
 | [],_=>rfl
 | x::xs,h=>by
  simp only [allOk,h x (by simp)]
  rw [allOk_congr fun y hy=>h y (by simp [hy])]
theorem okOps_congr {op:Op} (h:∀ x∈op.operands.toList,oper e x=oper e' x):okOps e op=okOps e' op:=by
 cases op with
 | pick c a b =>
  have h1:=h c (by simp [Op.operands])
  have h2:=h a (by simp [Op.operands])
  have h3:=h b (by simp [Op.operands])
  simp only [okOps,opRV,h1,h2,h3]
 | _=>exact allOk_congr h
theorem map_parts {α:Type} {f f':Operand→α} {l:List (Nat×Operand)} (h:∀ p∈l,f p.2=f' p.2):l.map (fun p=>(p.1,f p.2))=l.map fun p=>(p.1,f' p.2):=List.map_congr_left fun p hp=>by rw [h p hp]
theorem qEv_congr {ρ ρ':Operand→RV} {t:TypeId} {op:Op} (h:∀ x∈op.operands.toList,ρ x=ρ' x):qEv g hp ρ t op=qEv g hp ρ' t op:=by
 cases op with
 | makeFunc fn a b =>
  have h1:a.toList.map ρ=a.toList.map ρ':=List.map_congr_left fun x hx=>h x (by simp only [Op.operands,Array.toList_append,List.mem_append]; exact .inl hx)
  have h2:b.toList.map ρ=b.toList.map ρ':=List.map_congr_left fun x hx=>h x (by simp only [Op.operands,Array.toList_append,List.mem_append]; exact .inr hx)
  cases fn <;> simp only [qEv,h1,h2]
 | slice s x lo hi mx =>
  have h1:=h x (by simp [Op.operands])
  have h2:lo.map ρ=lo.map ρ':=by cases lo with | none=>rfl | some y=>simp only [Option.map_some]; rw [h y (by simp [Op.operands])]
  have h3:hi.map ρ=hi.map ρ':=by cases hi with | none=>rfl | some y=>simp only [Option.map_some]; rw [h y (by simp [Op.operands])]
  have h4:mx.map ρ=mx.map ρ':=by cases mx with | none=>rfl | some y=>simp only [Option.map_some]; rw [h y (by simp [Op.operands])]
  simp only [qEv,h1,h2,h3,h4]
 | call c =>
  obtain ⟨callee,args,ts⟩:=c
  cases callee with
  | builtin b =>
   have h1:∀ x∈args.toList,ρ x=ρ' x:=fun x hx=>h x (by simpa [Op.operands,Call.operands] using hx)
   have h2:args.toList.map (fun x=>(ρ x).av)=args.toList.map fun x=>(ρ' x).av:=List.map_congr_left fun x hx=>by rw [h1 x hx]
   have h3:lenArgs g hp ρ args.toList ts.toList=lenArgs g hp ρ' args.toList ts.toList:=by
    generalize args.toList=l at h1
    unfold lenArgs
    split
    ·
     rw [h1 _ (by simp)]
    ·
     rfl
   have h4:capArgs g ρ args.toList ts.toList=capArgs g ρ' args.toList ts.toList:=by
    generalize args.toList=l at h1
    unfold capArgs
    split
    ·
     rw [h1 _ (by simp)]
    ·
     rfl
   cases b <;> first | rfl | simp only [qEv,h2,h3,h4]
  | _=>rfl
 | pick c a b=>simp only [qEv,h c (by simp [Op.operands]),h a (by simp [Op.operands]),h b (by simp [Op.operands])]
 | binOp o u x y v=>simp only [qEv,h x (by simp [Op.operands]),h y (by simp [Op.operands])]
 | indexAddr u x y=>simp only [qEv,h x (by simp [Op.operands]),h y (by simp [Op.operands])]
 | index u x y=>simp only [qEv,h x (by simp [Op.operands]),h y (by simp [Op.operands])]
 | lookup u x y ok=>simp only [qEv,h x (by simp [Op.operands]),h y (by simp [Op.operands])]
 | move x=>simp only [qEv,h x (by simp [Op.operands])]
 | assign x=>simp only [qEv,h x (by simp [Op.operands])]
 | load u x=>simp only [qEv,h x (by simp [Op.operands])]
 | unOp o u x=>simp only [qEv,h x (by simp [Op.operands])]
 | fieldAddr u x f=>simp only [qEv,h x (by simp [Op.operands])]
 | extract x i=>simp only [qEv,h x (by simp [Op.operands])]
 | convert s d x=>simp only [qEv,h x (by simp [Op.operands])]
 | makeInterface u x=>simp only [qEv,h x (by simp [Op.operands])]
 | nilCheck x=>simp only [qEv,h x (by simp [Op.operands])]
 | _=>rfl
theorem opRV_congr {l:List Operand} (h:∀ x∈l,oper e x=oper e' x):∀ x∈l,opRV e x=opRV e' x:=fun x hx=>by simp only [opRV,h x hx]
theorem pEv_congr {t:TypeId} {op:Op} (h:∀ x∈op.operands.toList,oper e x=oper e' x):pEv g hp e t op=pEv g hp e' t op:=by
 have hr:=opRV_congr h
 cases op with
 | buildSlice u len ps =>
  have h1:ps.toList.map (fun p=>(p.1,(opRV e p.2).av))=ps.toList.map fun p=>(p.1,(opRV e' p.2).av):=map_parts (f:=fun x=>(opRV e x).av) (f':=fun x=>(opRV e' x).av) fun p hp=>by
   rw [hr p.2 (by simp only [Op.operands]; exact List.mem_map_of_mem hp)]
  simp only [pEv,h1]
 | build u ps =>
  have h1:ps.toList.map (fun p=>(p.1,(opRV e p.2).av))=ps.toList.map fun p=>(p.1,(opRV e' p.2).av):=map_parts (f:=fun x=>(opRV e x).av) (f':=fun x=>(opRV e' x).av) fun p hp=>by
   rw [hr p.2 (by simp only [Op.operands]; exact List.mem_map_of_mem hp)]
  simp only [pEv,h1]
 | convert s d x=>simp only [pEv,hr x (by simp [Op.operands])]
 | call c =>
  obtain ⟨callee,args,ts⟩:=c
  cases callee with
  | value f =>
   simp only [pEv,hr f (by simp [Op.operands,Call.operands])]
   rw [argsEv_congr fun x hx=>h x (by simp only [Op.operands,Call.operands]; simp at hx ⊢; exact .inr hx)]
  | _=>exact qEv_congr (g:=g) (hp:=hp) (t:=t) hr
 | _=>exact qEv_congr (g:=g) (hp:=hp) (t:=t) hr
theorem mEv_congr {op:Op} (h:∀ x∈op.operands.toList,oper e x=oper e' x):mEv g hp e op=mEv g hp e' op:=by
 have hr:=opRV_congr h
 cases op with
 | box u x=>simp only [mEv,hr x (by simp [Op.operands])]
 | store u x y=>simp only [mEv,hr x (by simp [Op.operands]),hr y (by simp [Op.operands])]
 | makeMap u r=>cases r <;> rfl
 | makeSlice u x y=>simp only [mEv,hr x (by simp [Op.operands]),hr y (by simp [Op.operands])]
 | mapUpdate u x y z=>simp only [mEv,hr x (by simp [Op.operands]),hr y (by simp [Op.operands]),hr z (by simp [Op.operands])]
 | insert u x y z=>simp only [mEv,hr x (by simp [Op.operands]),hr y (by simp [Op.operands]),hr z (by simp [Op.operands])]
 | call c =>
  obtain ⟨callee,args,ts⟩:=c
  cases callee with
  | builtin b =>
   have h1:∀ x∈args.toList,opRV e x=opRV e' x:=fun x hx=>hr x (by simpa [Op.operands,Call.operands] using hx)
   have h3:appendArgs g hp e args.toList ts.toList=appendArgs g hp e' args.toList ts.toList:=by
    generalize args.toList=l at h1
    generalize ts.toList=k
    rcases l with _ | ⟨x,_ | ⟨y,_ | ⟨z,l⟩⟩⟩ <;> first | rfl | skip
    rcases k with _ | ⟨u,_ | ⟨v,_ | ⟨w,k⟩⟩⟩ <;> first | rfl | skip
    simp only [appendArgs,h1 x (by simp),h1 y (by simp)]
   have h4:copyArgs g hp e args.toList ts.toList=copyArgs g hp e' args.toList ts.toList:=by
    generalize args.toList=l at h1
    generalize ts.toList=k
    rcases l with _ | ⟨x,_ | ⟨y,_ | ⟨z,l⟩⟩⟩ <;> first | rfl | skip
    rcases k with _ | ⟨u,_ | ⟨v,_ | ⟨w,k⟩⟩⟩ <;> first | rfl | skip
    simp only [copyArgs,h1 x (by simp),h1 y (by simp)]
   cases b <;> first | rfl | simp only [mEv,h3,h4]
  | _=>rfl
 | _=>rfl
theorem opVC_congr {o:Oper} {K:SL→List Blk→Prop} (h:∀ x∈o.op.operands.toList,oper e x=oper e' x):opVC g e hp o K=opVC g e' hp o K:=by
 have hy:yieldOf g e o.op=yieldOf g e' o.op∧effOf g e o.op=effOf g e' o.op∧effOf2 g e o.op=effOf2 g e' o.op:=by
  have hr:=opRV_congr h
  obtain ⟨dst,op,t,pos,after,guard⟩:=o
  simp only at h hr ⊢
  cases op with
  | call c =>
   obtain ⟨callee,args,ts⟩:=c
   cases callee with
   | value f =>
    have ha:argsEv g e args.toList ts.toList=argsEv g e' args.toList ts.toList:=argsEv_congr fun x hx=>h x (by simp only [Op.operands,Call.operands]; simp at hx ⊢; exact .inr hx)
    have hf:=hr f (by simp [Op.operands,Call.operands])
    cases f <;> simp only [yieldOf,effOf,effOf2,ha,hf,and_self]
   | _=>exact ⟨rfl,rfl,rfl⟩
  | _=>exact ⟨rfl,rfl,rfl⟩
 unfold opVC
 rw [okOps_congr h,mEv_congr h,hy.1,hy.2.1,hy.2.2,pEv_congr h]
def piOp (g:G) (ops:List Oper) (fl:Bool) (o:Oper) (e:Env) (hp:List Blk) (K:Env→List Blk→Prop):Prop:=match isMem g.ye o.op with
 | true=>o.guard=none∧opVC g e hp o fun x hp'=>K (putE o.dst x e) hp'
 | false=>match gcond ops e o.guard with
  | none=>False
  | some gc=>(gc=true→okOps e o.op∧(pEv g hp e o.type o.op).1)∧(fl=true→∀ hp',pEv g hp' e o.type o.op=pEv g hp e o.type o.op)∧K (putE o.dst ⟨gc,(pEv g hp e o.type o.op).2⟩ e) hp
def vcPi (g:G) (ops:List Oper):List (Nat×Bool)→Env→List Blk→(Env→List Blk→Prop)→Prop
 | [],e,hp,K=>K e hp
 | j::r,e,hp,K=>match ops[j.1]? with
  | some o=>piOp g ops j.2 o e hp fun e hp=>vcPi g ops r e hp K
  | none=>False
def cloAt (ops:List Oper) (i:Nat):List Nat:=(clo ops []).getD i []
def pairOk (y:Bool×List FuncId) (ops:List Oper) (i k:Nat) (fl:Bool):Bool:=match ops[i]?,ops[k]? with
 | some a,some b => !(cloAt ops i).contains k&&(!isMem y a.op||(cloAt ops k).contains i) &&
   (match a.dst with
    | some d => !(temps b.op.operands.toList).contains d||(edg b).contains i
    | none=>true) &&
   (match b.dst with
    | some d => !(temps a.op.operands.toList).contains d||(cloAt ops k).contains i
    | none=>true) &&
   (match a.dst,b.dst with
    | some d,some d'=>d != d'
    | _,_=>true) &&
   (match a.guard with
    | some (j,_)=>j != k
    | none=>true) &&
   (match b.guard with
    | some (j,_)=>j != i||(edg b).contains i
    | none=>true)&&(!isMem y b.op||fl||(cloAt ops k).contains i)
 | _,_=>false
def pairsOk (y:Bool×List FuncId) (ops:List Oper):List (Nat×Bool)→Bool
 | []=>true
 | i::r=>r.all (fun k=>pairOk y ops i.1 k.1 i.2)&&pairsOk y ops r
def piOk (y:Bool×List FuncId) (ops:List Oper) (l:List (Nat×Bool)):Bool :=
 ops.all (fun o=>true)&&(List.range ops.length).all (fun i=>(l.map (·.1)).contains i)&&l.all (fun i=>decide (i.1<ops.length))&&decide (l.length=ops.length)&&pairsOk y ops l &&
  (List.range ops.length).all fun i=>match ops[i]? with
   | some o=>(edg o).all fun k=>decide (k<i)
   | none=>true
def EqE (e e':Env):Prop:=∀ s,look e s=look e' s
theorem EqE.getE {e e':Env} (h:EqE e e') (s:Nat):getE e s=Am.getE e' s:=by unfold Am.getE; rw [h s]
theorem EqE.oper {e e':Env} (h:EqE e e') (x:Operand):oper e x=Am.oper e' x:=by cases x <;> simp only [Am.oper,h.getE]
theorem EqE.put {e e':Env} (h:EqE e e') (d:Option Nat) (x:SL):EqE (putE d x e) (putE d x e'):=by
 cases d with
 | none=>exact h
 | some d=>intro s; simp only [putE,look]; split <;> first | rfl | exact h s
theorem EqE.swap (e:Env) (d d':Option Nat) (x x':SL) (h:∀ k,d=some k→d'≠some k):EqE (putE d x (putE d' x' e)) (putE d' x' (putE d x e)):=by
 cases d with
 | none=>exact fun s=>rfl
 | some d =>
  cases d' with
  | none=>exact fun s=>rfl
  | some d' =>
   intro s
   have:=h d rfl
   simp only [putE,look]
   by_cases h1:d=s
   ·
    subst h1
    rw [if_pos rfl,if_neg (fun e=>this (by rw [e])),if_pos rfl]
   ·
    rw [if_neg h1]
    by_cases h2:d'=s
    ·
     rw [if_pos h2,if_pos h2]
    ·
     rw [if_neg h2,if_neg h2,if_neg h1]
theorem gcond_congr {ops:List Oper} {gd:Option (Nat×Bool)} (h:∀ j b d,gd=some (j,b)→(ops[j]?).bind (·.dst)=some d→getE e d=getE e' d):gcond ops e gd=gcond ops e' gd:=by
 cases gd with
 | none=>rfl
 | some gd =>
  obtain ⟨j,b⟩:=gd
  simp only [gcond]
  cases hd:(ops[j]?).bind (·.dst) with
  | none=>rfl
  | some d=>simp only [h j b d rfl hd]
theorem vcPi_eqE {ops:List Oper} {K:Env→List Blk→Prop} (hK:∀ e e' hp,EqE e e'→K e hp=K e' hp):∀ (l:List (Nat×Bool)) (e e':Env) (hp:List Blk),EqE e e'→vcPi g ops l e hp K=vcPi g ops l e' hp K
 | [],e,e',hp,h=>hK e e' hp h
 | j::r,e,e',hp,h=>by
  simp only [vcPi]
  cases ho:ops[j.1]? with
  | none=>rfl
  | some o =>
   simp only
   unfold piOp
   have h1:∀ x∈o.op.operands.toList,oper e x=oper e' x:=fun x _=>h.oper x
   cases isMem g.ye o.op with
   | true =>
    simp only
    rw [opVC_congr h1]
    congr 2
    funext x hp'
    exact vcPi_eqE hK r _ _ _ (h.put _ _)
   | false =>
    simp only
    rw [gcond_congr (e:=e) (e':=e') fun j b d _ _=>h.getE d]
    cases gcond ops e' o.guard with
    | none=>rfl
    | some gc =>
     simp only
     rw [okOps_congr h1]
     have h2:∀ hp',pEv g hp' e o.type o.op=pEv g hp' e' o.type o.op:=fun hp'=>pEv_congr h1
     simp only [h2]
     rw [vcPi_eqE hK r _ _ _ (h.put _ _)]
theorem getE_put' (d:Option Nat) (x:SL) (e:Env) (s:Nat) (h:d≠some s):getE (putE d x e) s=getE e s:=by rw [getE_put,if_neg h]
theorem oper_put {d:Option Nat} {x:SL} {e:Env} {l:List Operand} (h:∀ k,d=some k→k∉temps l):∀ y∈l,oper (putE d x e) y=oper e y:=fun y hy=>by
 cases y with
 | tmp s=>exact getE_put' d x e s fun hd=>h s hd (mem_temps hy)
 | _=>rfl
structure Free (g:G) (ops:List Oper) (i j:Nat) (a b:Oper):Prop where
 q:isMem g.ye a.op=false
 ra:∀ k,a.dst=some k→k∉temps b.op.operands.toList
 rb:∀ k,b.dst=some k→k∉temps a.op.operands.toList
 ne:∀ k,a.dst=some k→b.dst≠some k
 ga:∀ i' w,a.guard=some (i',w)→i'≠j
 gb:∀ i' w,b.guard=some (i',w)→i'≠i
theorem pi_front {ops:List Oper} {K:Env→List Blk→Prop} (hK:∀ e e' hp,EqE e e'→K e hp=K e' hp) (hdst:∀ (i k:Nat) (a b:Oper) (d:Nat),ops[i]?=some a→ops[k]?=some b→i≠k→a.dst=some d→b.dst≠some d) {j:Nat×Bool} {o:Oper} (ho:ops[j.1]?=some o) (B:List (Nat×Bool)):∀ (A:List (Nat×Bool)) (e:Env) (hp:List Blk),
  (∀ i∈A,i.1≠j.1∧(isMem g.ye o.op=true→i.2=true)∧∀ a,ops[i.1]?=some a→Free g ops i.1 j.1 a o)→vcPi g ops (A++j::B) e hp K→piOp g ops j.2 o e hp fun e' hp'=>vcPi g ops (A++B) e' hp' K
 | [],e,hp,_,h=>by
  simp only [List.nil_append,vcPi,ho] at h
  exact h
 | i::A,e,hp,hA,h=>by
  simp only [List.cons_append,vcPi] at h
  cases hi:ops[i.1]? with
  | none=>rw [hi] at h; exact h.elim
  | some a =>
   obtain ⟨hne,hfl,hfr⟩:=hA i (by simp)
   have f:=hfr a hi
   rw [hi] at h
   simp only [piOp,f.q] at h
   cases hgc:gcond ops e a.guard with
   | none=>rw [hgc] at h; exact h.elim
   | some gc =>
    rw [hgc] at h
    obtain ⟨h1,h2,h3⟩:=h
    have ih:=pi_front hK hdst ho B A _ hp (fun k hk=>hA k (by simp [hk])) h3
    have hK2:∀ x hp',(hp'=hp∨i.2=true)→vcPi g ops (A++B) (putE o.dst x (putE a.dst ⟨gc,(pEv g hp e a.type a.op).2⟩ e)) hp' K=vcPi g ops (i::A++B) (putE o.dst x e) hp' K:=by
     intro x hp' hor
     simp only [List.cons_append,vcPi,hi,piOp,f.q]
     have e1:∀ y∈a.op.operands.toList,oper (putE o.dst x e) y=oper e y:=oper_put f.rb
     have e2:gcond ops (putE o.dst x e) a.guard=some gc:=by
      rw [← hgc]
      refine gcond_congr fun i' w d hg hd=>getE_put' _ _ _ _ fun hod => ?_
      cases hi':ops[i']? with
      | none=>rw [hi'] at hd; cases hd
      | some b =>
       rw [hi'] at hd
       exact hdst i' j.1 b o d hi' ho (f.ga i' w hg) hd hod
     have e0:∀ hp'',pEv g hp'' (putE o.dst x e) a.type a.op=pEv g hp'' e a.type a.op:=fun hp''=>pEv_congr e1
     have e3:pEv g hp' (putE o.dst x e) a.type a.op=pEv g hp e a.type a.op:=by
      rw [e0]
      rcases hor with rfl | hor
      ·
       rfl
      ·
       exact h2 hor hp'
     have e4:(i.2=true→∀ hp'',pEv g hp'' (putE o.dst x e) a.type a.op=pEv g hp' (putE o.dst x e) a.type a.op):=fun hq hp''=>by rw [e3,e0]; exact h2 hq hp''
     rw [e2]
     simp only [e3,okOps_congr e1]
     have:=vcPi_eqE (g:=g) (ops:=ops) hK (A++B) _ _ hp' (EqE.swap e o.dst a.dst x ⟨gc,(pEv g hp e a.type a.op).2⟩ fun k hk hk'=>f.ne k hk' hk)
     rw [this]
     rw [e3] at e4
     exact propext ⟨fun h=>⟨h1,e4,h⟩,fun h=>h.2.2⟩
    have e1:∀ y∈o.op.operands.toList,oper (putE a.dst ⟨gc,(pEv g hp e a.type a.op).2⟩ e) y=oper e y:=oper_put f.ra
    unfold piOp at ih ⊢
    cases hm:isMem g.ye o.op with
    | true =>
     rw [hm] at ih
     obtain ⟨q1,q2⟩:=ih
     refine ⟨q1,?_⟩
     rw [opVC_congr e1] at q2
     have:(fun x hp'=>vcPi g ops (i::A++B) (putE o.dst x e) hp' K)=fun x hp'=>vcPi g ops (A++B) (putE o.dst x (putE a.dst ⟨gc,(pEv g hp e a.type a.op).2⟩ e)) hp' K:=by
      funext x hp'; exact (hK2 x hp' (.inr (hfl hm))).symm
     rw [this]
     exact q2
    | false =>
     rw [hm] at ih
     simp only at ih ⊢
     have e2:gcond ops (putE a.dst ⟨gc,(pEv g hp e a.type a.op).2⟩ e) o.guard=gcond ops e o.guard:=by
      refine gcond_congr fun i' w d hg hd=>getE_put' _ _ _ _ fun had => ?_
      cases hi':ops[i']? with
      | none=>rw [hi'] at hd; cases hd
      | some b =>
       rw [hi'] at hd
       exact hdst i' i.1 b a d hi' hi (f.gb i' w hg) hd had
     rw [e2] at ih
     cases hgo:gcond ops e o.guard with
     | none=>rw [hgo] at ih; exact ih.elim
     | some gd =>
      rw [hgo] at ih
      obtain ⟨q1,q2,q3⟩:=ih
      have e3:∀ hp'',pEv g hp'' (putE a.dst ⟨gc,(pEv g hp e a.type a.op).2⟩ e) o.type o.op=pEv g hp'' e o.type o.op:=fun hp''=>pEv_congr e1
      rw [okOps_congr e1] at q1
      simp only [e3] at q1 q2 q3
      rw [hK2 _ _ (.inl rfl)] at q3
      exact ⟨q1,q2,q3⟩
theorem pairOk_spec {y:Bool×List FuncId} {ops:List Oper} {i k:Nat} {fl:Bool} (h:pairOk y ops i k fl=true):∃ a b,ops[i]?=some a∧ops[k]?=some b∧k∉cloAt ops i∧(isMem y a.op=true→i∈cloAt ops k) ∧
  (∀ d,a.dst=some d→d∈temps b.op.operands.toList→i∈edg b)∧(∀ d,b.dst=some d→d∈temps a.op.operands.toList→i∈cloAt ops k)∧(∀ d,a.dst=some d→b.dst≠some d) ∧
  (∀ j w,a.guard=some (j,w)→j≠k)∧(∀ j w,b.guard=some (j,w)→j=i→i∈edg b)∧(isMem y b.op=true→fl=true∨i∈cloAt ops k):=by
 unfold pairOk at h
 split at h
 ·
  rename_i a b ha hb
  simp only [Bool.and_eq_true,Bool.or_eq_true,Bool.not_eq_true'] at h
  obtain ⟨⟨⟨⟨⟨⟨⟨h1,h2⟩,h3⟩,h4⟩,h5⟩,h6⟩,h7⟩,h8⟩:=h
  refine ⟨a,b,ha,hb,by simpa using h1,fun hm => ?_,fun d hd ht => ?_,fun d hd ht => ?_,fun d hd hd' => ?_,fun j w hg => ?_,fun j w hg he => ?_,fun hm => ?_⟩
  ·
   rcases h2 with h2 | h2
   ·
    rw [hm] at h2; cases h2
   ·
    simpa using h2
  ·
   rw [hd] at h3
   simp only [Bool.or_eq_true,Bool.not_eq_true'] at h3
   rcases h3 with h3 | h3
   ·
    simp [ht] at h3
   ·
    simpa using h3
  ·
   rw [hd] at h4
   simp only [Bool.or_eq_true,Bool.not_eq_true'] at h4
   rcases h4 with h4 | h4
   ·
    simp [ht] at h4
   ·
    simpa using h4
  ·
   rw [hd,hd'] at h5; simp at h5
  ·
   rw [hg] at h6; simpa using h6
  ·
   rw [hg] at h7
   simp only [Bool.or_eq_true] at h7
   rcases h7 with h7 | h7
   ·
    simp [he] at h7
   ·
    simpa using h7
  ·
   rcases h8 with (h8 | h8) | h8
   ·
    rw [hm] at h8; cases h8
   ·
    exact .inl h8
   ·
    exact .inr (by simpa using h8)
 ·
  cases h
theorem pairsOk_pw {y:Bool×List FuncId} {ops:List Oper}:∀ {l:List (Nat×Bool)},pairsOk y ops l=true→l.Pairwise fun i k=>pairOk y ops i.1 k.1 i.2=true
 | [],_=>.nil
 | i::r,h=>by
  simp only [pairsOk,Bool.and_eq_true,List.all_eq_true] at h
  exact .cons h.1 (pairsOk_pw h.2)
theorem clo_edge {ops:List Oper}:∀ (l:List Oper) (acc:List (List Nat)) (i:Nat) (o:Oper),l[i]?=some o→∀ k∈edg o,k∈(clo l acc).getD (acc.length+i) []
 | [],acc,i,o,h,k,hk=>by simp at h
 | o'::l,acc,0,o,h,k,hk=>by
  simp only [List.getElem?_cons_zero,Option.some.injEq] at h
  subst h
  simp only [clo]
  rw [clo_acc _ _ _ (by simp)]
  simp only [List.getD_eq_getElem?_getD]
  rw [List.getElem?_append_right (by simp)]
  simp [hk]
 | o'::l,acc,i+1,o,h,k,hk=>by
  simp only [clo]
  have:=clo_edge (ops:=ops) l (acc++[edg o'++(edg o').flatMap fun j=>acc.getD j []]) i o (by simpa using h) k hk
  rw [List.length_append] at this
  rw [show acc.length+(i+1)=acc.length+1+i by omega]
  exact this
structure PiAt (g:G) (ops:List Oper) (K:Env→List Blk→Prop) (f:Nat) (done:List Nat) (e:Env) (hp:List Blk) (R:List (Nat×Bool)):Prop where
 pw:R.Pairwise (fun i k=>pairOk g.ye ops i.1 k.1 i.2=true)
 mem:∀ j,j∈R.map (·.1)↔j<ops.length∧j∉done
 nd:(R.map (·.1)).Nodup
 len:R.length=f
 cl:Closed ops (·∈done)
 vc:vcPi g ops R e hp K
theorem piAt_step {ops:List Oper} {K:Env→List Blk→Prop} (hK:∀ e e' hp,EqE e e'→K e hp=K e' hp) (hedg:∀ i o,ops[i]?=some o→∀ k∈edg o,k<i)
  (hdst:∀ (i k:Nat) (a b:Oper) (d:Nat),ops[i]?=some a→ops[k]?=some b→i≠k→a.dst=some d→b.dst≠some d) {f:Nat} {done:List Nat} {R:List (Nat×Bool)} {e:Env} {hp:List Blk} (h:PiAt g ops K f done e hp R) :
  ((readyL ops done).isEmpty=true→f=0∧K e hp)∧(f=0→(readyL ops done).isEmpty=true)∧∀ j∈readyL ops done,∃ f' R' o fl,f=f'+1∧ops[j]?=some o∧piOp g ops fl o e hp (fun e' hp'=>vcPi g ops R' e' hp' K)∧∀ e' hp',vcPi g ops R' e' hp' K→PiAt g ops K f' (j::done) e' hp' R':=by
 obtain ⟨hpw,hR,hnd,hf,hcl,h⟩:=h
 have hclo:∀ j o,ops[j]?=some o→(∀ k∈edg o,k∈done)→∀ k∈cloAt ops j,k∈done:=fun j o ho hk =>
  clo_spec hcl ops [] (fun j=>by simp) (fun i o hi=>by simp at hi) hedg j o (by simpa using (List.getElem?_eq_some_iff.1 ho).1) ho hk
 have hsub:∀ j o,ops[j]?=some o→∀ k∈edg o,k∈cloAt ops j:=fun j o ho k hk=>by
  have:=clo_edge (ops:=ops) ops [] j o ho k hk
  simpa [cloAt] using this
 refine ⟨fun he => ?_,fun h0 => ?_,fun j hj => ?_⟩
 ·
  cases R with
  | nil=>exact ⟨by simpa using hf.symm,h⟩
  | cons j R' =>
   exfalso
   obtain ⟨hjl,hjd⟩:=(hR j.1).1 (by simp)
   have ho:ops[j.1]?=some ops[j.1]:=List.getElem?_eq_getElem hjl
   rw [List.isEmpty_iff,readyL,List.filter_eq_nil_iff] at he
   refine he j.1 (by simpa using hjl) ?_
   rw [ho]
   simp only [Bool.and_eq_true,Bool.not_eq_true',List.all_eq_true]
   refine ⟨by simpa using hjd,fun k hk => ?_⟩
   have hkj:=hedg j.1 _ ho k hk
   by_cases q:k∈done
   ·
    simpa using q
   ·
    exfalso
    have hkR:=(hR k).2 ⟨by omega,q⟩
    rw [List.map_cons] at hkR
    rcases List.mem_cons.1 hkR with rfl | hkR
    ·
     omega
    ·
     obtain ⟨k',hk',rfl⟩:=List.mem_map.1 hkR
     obtain ⟨a,b,h1,_,h2,_⟩:=pairOk_spec ((List.pairwise_cons.1 hpw).1 k' hk')
     exact h2 (hsub j.1 _ ho _ hk)
 ·
  obtain rfl:R=[]:=List.eq_nil_of_length_eq_zero (hf.trans h0)
  rw [List.isEmpty_iff,readyL,List.filter_eq_nil_iff]
  intro j hj
  have hj':j∈done:=by
   by_cases q:j∈done
   ·
    exact q
   ·
    have:=(hR j).2 ⟨by simpa using hj,q⟩
    cases this
  simp [hj']
 ·
  rw [readyL,List.mem_filter,List.mem_range] at hj
  obtain ⟨hjl,hj⟩:=hj
  have ho:ops[j]?=some ops[j]:=List.getElem?_eq_getElem hjl
  rw [ho] at hj
  simp only [Bool.and_eq_true,Bool.not_eq_true',List.all_eq_true] at hj
  obtain ⟨hjd,hje⟩:=hj
  have hjd:j∉done:=by simpa using hjd
  have hje:∀ k∈edg ops[j],k∈done:=fun k hk=>by simpa using hje k hk
  obtain ⟨⟨j',fl⟩,hjm,rfl⟩:=List.mem_map.1 ((hR j).2 ⟨hjl,hjd⟩)
  simp only at hjl ho hjd hje
  obtain ⟨A,B,rfl⟩:=List.append_of_mem hjm
  have hnj:∀ i∈A++B,i.1≠j':=by
   intro i hi e
   rw [List.map_append,List.map_cons] at hnd
   have:=List.nodup_append.1 hnd
   rcases List.mem_append.1 hi with hi | hi
   ·
    exact this.2.2 i.1 (List.mem_map_of_mem hi) i.1 (by simp [e]) rfl
   ·
    exact (List.nodup_cons.1 this.2.1).1 (List.mem_map.2 ⟨i,hi,e⟩)
  have hA:∀ i∈A,i.1≠j'∧(isMem g.ye ops[j'].op=true→i.2=true)∧∀ a,ops[i.1]?=some a→Free g ops i.1 j' a ops[j']:=by
   intro i hi
   have hid:=((hR i.1).1 (List.mem_map_of_mem (by simp [hi]))).2
   have hp':=(List.pairwise_append.1 hpw).2.2 i hi (j',fl) (by simp)
   obtain ⟨a,b,h1,h2,h3,h4,h5,h6,h7,h8,h9,h10⟩:=pairOk_spec hp'
   simp only at h2 h3 h4 h6 h8 h10
   rw [ho] at h2
   injection h2 with h2
   subst h2
   have hnc:i.1∉cloAt ops j':=fun q=>hid (hclo j' _ ho hje i.1 q)
   have hne:i.1∉edg ops[j']:=fun q=>hid (hje i.1 q)
   refine ⟨hnj i (by simp [hi]),fun hm => ?_,fun a' ha' => ?_⟩
   ·
    rcases h10 hm with q | q
    ·
     exact q
    ·
     exact absurd q hnc
   ·
    rw [h1] at ha'
    injection ha' with ha'
    subst ha'
    exact ⟨by cases hm:isMem g.ye a.op with | false=>rfl | true=>exact absurd (h4 hm) hnc,fun k hk ht=>hne (h5 k hk ht),fun k hk ht=>hnc (h6 k hk ht),h7,fun i' w hg=>h8 i' w hg,fun i' w hg he=>hne (h9 i' w hg he)⟩
  have hsl:(A++B).Sublist (A++(j',fl)::B):=List.Sublist.append (List.Sublist.refl A) (List.sublist_cons_self _ B)
  have hpw':(A++B).Pairwise (fun i k=>pairOk g.ye ops i.1 k.1 i.2=true):=hpw.sublist hsl
  have hnd':((A++B).map (·.1)).Nodup:=hnd.sublist (hsl.map _)
  refine ⟨(A++B).length,A++B,ops[j'],fl,by rw [← hf]; simp; omega,ho,pi_front hK hdst (j:=(j',fl)) ho B A e hp hA h,fun e' hp' hq=>⟨hpw',fun k => ?_,hnd',rfl,?_,hq⟩⟩
  ·
   have:=hR k
   simp only [List.map_append,List.map_cons,List.mem_append,List.mem_cons] at this ⊢
   constructor
   ·
    intro hk
    have hkn:k≠j':=by
     rcases hk with hk | hk
     ·
      obtain ⟨k',hk',rfl⟩:=List.mem_map.1 hk; exact hnj k' (by simp [hk'])
     ·
      obtain ⟨k',hk',rfl⟩:=List.mem_map.1 hk; exact hnj k' (by simp [hk'])
    obtain ⟨q1,q2⟩:=this.1 (by rcases hk with hk | hk; exact .inl hk; exact .inr (.inr hk))
    exact ⟨q1,by rintro (e | q); exact hkn e; exact q2 q⟩
   ·
    rintro ⟨q1,q2⟩
    rcases this.2 ⟨q1,fun q=>q2 (.inr q)⟩ with q | q | q
    ·
     exact .inl q
    ·
     exact absurd (.inl q) q2
    ·
     exact .inr q
  ·
   intro i o hio hi k hk
   rcases List.mem_cons.1 hi with rfl | hi
   ·
    rw [ho] at hio; injection hio with hio; subst hio
    exact List.mem_cons_of_mem _ (hje k hk)
   ·
    exact List.mem_cons_of_mem _ (hcl i o hio hi k hk)
theorem piOp_vc {ops:List Oper} {fl:Bool} {o:Oper} {K:Env→List Blk→Prop} (h:piOp g ops fl o e hp K):vcOps g ops [o] e hp K:=by
 simp only [vcOps]
 unfold piOp at h
 cases hm:isMem g.ye o.op with
 | true =>
  rw [hm] at h
  rw [h.1]
  exact h.2
 | false =>
  rw [hm] at h
  cases hg:o.guard with
  | none =>
   rw [hg] at h
   obtain ⟨h1,_,h3⟩:=h
   obtain ⟨h1,h2⟩:=h1 rfl
   simp only [opVC,isMem_false hm,yieldOf_none hm,effOf_none hm,effOf2_none hm,ite_self]
   exact ⟨h1,h2,h3⟩
  | some gd =>
   rw [hg] at h
   simp only
   cases hc:gcond ops e (some gd) with
   | none=>rw [hc] at h; exact h.elim
   | some gc =>
    rw [hc] at h
    exact ⟨h.1,h.2.2⟩
end
section
variable {P:Program} {g:G} {X:XT} {w:World} {M0:Nat→Prop} {bs:Bs} {hp:List Blk}
theorem vcPi_sound (hg:g.good P) (hX:XOk P X) {N n:Nat} {r:Option Nat} {Q:Exit→Act→World→Prop} {K:Env→List Blk→Prop} (ops:Array Oper) (hdst:∀ o∈ops.toList,∀ d,o.dst=some d→d<N)
  (hK:∀ e e' hp,EqE e e'→K e hp=K e' hp) (hedg:∀ i o,ops.toList[i]?=some o→∀ k∈edg o,k<i) (hdd:∀ (i k:Nat) (a b:Oper) (d:Nat),ops.toList[i]?=some a→ops.toList[k]?=some b→i≠k→a.dst=some d→b.dst≠some d) :
  ∀ (fuel:Nat) (done:List Nat) (R:List (Nat×Bool)) (listed:Array Bool) (e:Env) (hp:List Blk) (M0:Nat→Prop) (bs:Bs) (a:Act) (w:World),listed.size=ops.size→(∀ j,listed.getD j false=done.contains j)→PiAt g ops.toList K fuel done e hp R →
  HR w M0 bs hp→XR X w M0 bs hp→relEnv w (Mof M0 bs) bs hp e a→a.tmps.size=N→Behind P g X M0 N Q K w bs hp a.defers→wpAnyIn (FW r) n P .any ops Q fuel listed a w:=by
 intro fuel
 induction fuel with
 | zero =>
  intro done R listed e hp M0 bs a w hsz hd hv hr hx he hN hQ
  obtain ⟨hv1,hv2,_⟩:=piAt_step hK hedg hdd hv
  have hem:=hv2 rfl
  refine ⟨?_,hQ e hp M0 bs a w (hv1 hem).2 (.refl hr hx) he hN rfl⟩
  cases hr':Region.ready .any ops listed with
  | nil=>rfl
  | cons j js =>
   have:j∈readyL ops.toList done:=(ready_eq hsz hd j).1 (by rw [hr']; simp)
   rw [List.isEmpty_iff.1 hem] at this; cases this
 | succ fuel ih =>
  intro done R listed e hp M0 bs a w hsz hd hv hr hx he hN hQ
  obtain ⟨hv1,_,hv2⟩:=piAt_step hK hedg hdd hv
  refine ⟨fun hnil => ?_,fun j hj => ?_⟩
  ·
   have:(readyL ops.toList done).isEmpty=true:=by
    cases hr':readyL ops.toList done with
    | nil=>rfl
    | cons j js =>
     have:j∈Region.ready .any ops listed:=(ready_eq hsz hd j).2 (by rw [hr']; simp)
     rw [hnil] at this; cases this
   exact absurd (hv1 this).1 (by omega)
  ·
   have hjr:=(ready_eq hsz hd j).1 hj
   obtain ⟨f',R',o,fl,hf,ho,hvj,hnext⟩:=hv2 j hjr
   obtain rfl:fuel=f':=by omega
   rw [Array.getElem?_toList] at ho
   have hjs:=(Array.getElem?_eq_some_iff.1 ho).1
   unfold wpOpIn
   rw [ho]
   simp only
   have hmem:o∈ops.toList:=List.mem_of_getElem? (by rw [Array.getElem?_toList]; exact ho)
   refine vcOps_step hg hX ops o [] e hp bs a w (piOp_vc hvj) hr hx he _ ?_
   intro x z hp' M0' bs' w' hx' hst hv'
   refine ih (j::done) R' _ _ hp' M0' bs' _ w' (by simp [hsz]) (fun k => ?_) (hnext _ _ hv') hst.hr hst.xr (relEnv_put (relEnv_step hst.st he) _ x z hx' (fun d hd=>by rw [hN]; exact hdst o hmem d hd)) (by rw [put_eval]; exact hN) (by rw [put_defers]; exact hQ.step hst)
   simp only [Array.getD_eq_getD_getElem?,List.contains_cons]
   by_cases e1:j=k
   ·
    subst e1; simp [hsz,hjs]
   ·
    rw [Array.getElem?_setIfInBounds_ne e1,← Array.getD_eq_getD_getElem?,hd]
    have:(k==j)=false:=by simp; exact fun h=>e1 h.symm
    rw [this]; rfl
def dstNd (ops:List Oper):Bool:=(List.range ops.length).all fun i=>(List.range ops.length).all fun k=>i==k||match ops[i]?,ops[k]? with
 | some a,some b=>a.dst.isNone||a.dst != b.dst
 | _,_=>true
def regionPi (y:Bool×List FuncId) (N:Nat) (ops:List Oper) (l:List (Nat×Bool)):Bool:=dstOk N ops&&dstNd ops&&piOk y ops l&&decide (l.map (·.1)).Nodup
theorem region_pi (hg:g.good P) (hX:XOk P X) (hm:P.follows .mixedOrders=true) {N n:Nat} {r:Option Nat} {Q:Exit→Act→World→Prop} {K:Env→List Blk→Prop} (id:Nat) (ops:Array Oper) (l:List (Nat×Bool)) (hok:regionPi g.ye N ops.toList l=true) (hK:∀ e e' hp,EqE e e'→K e hp=K e' hp)
  (e:Env) (hp:List Blk) (bs:Bs) (a:Act) (w:World) (hv:vcPi g ops.toList l e hp K) (hr:HR w M0 bs hp) (hx:XR X w M0 bs hp) (he:relEnv w (Mof M0 bs) bs hp e a) (hN:a.tmps.size=N) (hQ:Behind P g X M0 N Q K w bs hp a.defers) :
  (Code.region id ops true).wpIn (FW r) n P Q a w:=by
 unfold regionPi at hok
 simp only [Bool.and_eq_true,decide_eq_true_eq] at hok
 obtain ⟨⟨⟨hok1,hok2⟩,hok3⟩,hnd⟩:=hok
 have hdst:∀ o∈ops.toList,∀ d,o.dst=some d→d<N:=by
  unfold dstOk at hok1
  rw [List.all_eq_true] at hok1
  intro o ho d hd
  have:=hok1 o ho; rw [hd] at this; simpa using this
 have hdd:∀ (i k:Nat) (a b:Oper) (d:Nat),ops.toList[i]?=some a→ops.toList[k]?=some b→i≠k→a.dst=some d→b.dst≠some d:=by
  intro i k a b d hi hk hne ha hb
  unfold dstNd at hok2
  simp only [List.all_eq_true,List.mem_range] at hok2
  have:=hok2 i (List.getElem?_eq_some_iff.1 hi).1 k (List.getElem?_eq_some_iff.1 hk).1
  rw [hi,hk] at this
  simp only [Bool.or_eq_true,beq_iff_eq,ha,hb] at this
  rcases this with h | h
  ·
   exact hne h
  ·
   simp at h
 unfold piOk at hok3
 simp only [Bool.and_eq_true,List.all_eq_true,List.mem_range,decide_eq_true_eq] at hok3
 obtain ⟨⟨⟨⟨⟨_,c1⟩,c2⟩,c3⟩,c4⟩,c5⟩:=hok3
 have hedg:∀ i o,ops.toList[i]?=some o→∀ k∈edg o,k<i:=fun i o ho k hk=>by
  have:=c5 i (List.getElem?_eq_some_iff.1 ho).1
  rw [ho] at this
  simp only [List.all_eq_true,decide_eq_true_eq] at this
  exact this k hk
 refine wpIn_region_any hm ?_
 obtain ⟨k1,k2⟩:=hr.keep_drew
 have hn:Nx P g X w M0 bs hp { w with drawn:=w.drawn+1 } M0 bs hp:=.of_step hX hx k1 k2
 rw [show ops.size=ops.toList.length by simp]
 refine vcPi_sound hg hX ops hdst hK hedg hdd _ [] l _ e hp M0 bs a _ (by simp) (fun j => ?_) ⟨pairsOk_pw c4,fun j=>⟨fun hj=>⟨by obtain ⟨j',hj',rfl⟩:=List.mem_map.1 hj; exact c2 j' hj',by simp⟩,fun hj=>by have:=c1 j hj.1; simpa using this⟩,hnd,c3,fun i o _ hi=>by simp at hi,hv⟩ hn.hr hn.xr (relEnv_step k2 he) hN (hQ.step hn)
 simp only [Array.getD_eq_getD_getElem?]
 cases h:(Array.replicate ops.toList.length false)[j]? with
 | none=>rfl
 | some b =>
  have:=(Array.getElem?_eq_some_iff.1 h)
  obtain ⟨h1,h2⟩:=this
  simp at h2; subst h2; rfl
end
end Go.Am
namespace Go.Am
open Go.RowKit
structure St where
 e:Env
 hp:List Blk
def keepE:List Nat→Env→Env
 | [],_=>[]
 | s::r,e=>match look e s with
  | some x=>(s,x)::keepE r e
  | none=>keepE r e
theorem keepE_eqE:∀ (L:List Nat) {e e':Env},EqE e e'→keepE L e=keepE L e'
 | [],_,_,_=>rfl
 | s::r,e,e',h=>by simp only [keepE,h s,keepE_eqE r h]
theorem look_keepE:∀ (L:List Nat) (e:Env) (s:Nat) (x:SL),look (keepE L e) s=some x→look e s=some x
 | [],e,s,x,h=>by simp [keepE,look] at h
 | t::r,e,s,x,h=>by
  simp only [keepE] at h
  cases ht:look e t with
  | none=>rw [ht] at h; exact look_keepE r e s x h
  | some y =>
   rw [ht] at h
   simp only [look] at h
   split at h
   ·
    rename_i e1; subst e1; rw [ht]; exact h
   ·
    exact look_keepE r e s x h
def envLe:Env→Env→Prop
 | [],_=>True
 | (k,x)::r,e=>look e k=some x∧envLe r e
theorem look_envLe:∀ {e e':Env},envLe e e'→∀ s x,look e s=some x→look e' s=some x
 | [],_,_,s,x,h=>by simp [look] at h
 | (k,y)::r,e',h,s,x,hs=>by
  simp only [look] at hs
  split at hs
  ·
   rename_i e1; subst e1; rw [← hs]; exact h.1
  ·
   exact look_envLe h.2 s x hs
def St.le (s' s:St):Prop:=envLe s'.e s.e∧s'.hp=s.hp
def markOf (D:Nat):Deferred:={ target:=.collected D,args:=#[] }
abbrev NB:=Nat×List Deferred
def DefOk (n0:Option NB) (w:World) (M:Nat→Prop) (df:List Deferred):Prop :=
 match n0 with
 | none=>df=[]
 | some (n0,B)=>n0≤w.heap.size∧∃ Ds:List Nat,df=Ds.map markOf++B∧Ds.Nodup∧∀ D∈Ds,n0≤D∧D<w.heap.size∧¬ M D∧w.heap[D]?=some (.deferred (some []))
theorem DefOk.evo {n0:Option NB} {w w':World} {M M':Nat→Prop} {df:List Deferred} (h:DefOk n0 w M df) (k:Evo M M' w w'):DefOk n0 w' M' df:=by
 cases n0 with
 | none=>exact h
 | some nb =>
  obtain ⟨n0,B⟩:=nb
  obtain ⟨h0,Ds,h1,h2,h3⟩:=h
  exact ⟨Nat.le_trans h0 k.size,Ds,h1,h2,fun D hD=>by
   obtain ⟨q0,q1,q2,q3⟩:=h3 D hD
   exact ⟨q0,Nat.lt_of_lt_of_le q1 k.size,k.free D q1 q2,by rw [k.block D q1 q2]; exact q3⟩⟩
theorem exists_least (p:Nat→Prop) (h:∃ n,p n):∃ n,p n∧∀ m,p m→n≤m:=by
 obtain ⟨n,hn⟩:=h
 induction n using Nat.strongRecOn with
 | _ n ih =>
  by_cases hm:∃ m,m<n∧p m
  ·
   obtain ⟨m,h1,h2⟩:=hm
   exact ih m h1 h2
  ·
   exact ⟨n,hn,fun m hp=>Classical.byContradiction fun hlt=>hm ⟨m,by omega,hp⟩⟩
def sInf' (p:Nat→Prop):Nat:=@dite _ (∃ n,p n) (Classical.propDecidable _) (fun h=>Classical.choose (exists_least p h)) (fun _=>0)
theorem sInf'_spec (p:Nat→Prop) (h:∃ n,p n):p (sInf' p)∧∀ m,p m→sInf' p≤m:=by
 unfold sInf'
 rw [dif_pos h]
 exact Classical.choose_spec (exists_least p h)
theorem sInf'_mem (p:Nat→Prop) (h:∃ n,p n):p (sInf' p):=(sInf'_spec p h).1
theorem sInf'_le (p:Nat→Prop) {m:Nat} (h:p m):sInf' p≤m:=(sInf'_spec p ⟨m,h⟩).2 m h
theorem stepR_scope {P:Program} {b:Frame} {a:Act} {k:List Item} {cs:List Frame} {w:World} {c:Code}:step P (lone (b.atR a (.code (.scope c)::k)) cs w)=.next (lone (b.atR a (.code c::.inScope c::k)) cs w) :=
 step_lone_go (by simp [stepG,stepG.exec,Frame.atR])
theorem stepR_inScope {P:Program} {b:Frame} {a:Act} {k:List Item} {cs:List Frame} {w:World} {c:Code}:step P (lone (b.atR a (.inScope c::k)) cs w)=.next (lone (b.atR a k) cs w) :=
 step_lone_go (by simp [stepG,stepG.exec,Frame.atR])
def Exit.noGo (Q:Exit→Act→World→Prop):Exit→Act→World→Prop
 | .goto _,_,_=>False
 | e,a,w=>Q e a w
theorem wpIn_scope {F:Fence} {n:Nat} {P:Program} {Q:Exit→Act→World→Prop} {a:Act} {w:World} {c:Code} (h:c.wpIn F n P (Exit.noGo Q) a w):(Code.scope c).wpIn F n P Q a w:=by
 intro b k cs hro hb hr
 have h0:(lone (b.atR a (.code (.scope c)::k)) cs w).fenced P F:=fenced_calm hb hr rfl
 obtain ⟨e,a₁,w₁,hq,harr⟩:=h b (.inScope c::k) cs hro hb hr
 cases e with
 | normal=>exact ⟨.normal,a₁,w₁,hq,.head h0 stepR_scope (StepsIn.trans harr (.one (fenced_calm hb hr rfl) stepR_inScope))⟩
 | exit id =>
  have hx:exitTo id (.inScope c::k)=exitTo id k:=by simp [exitTo]
  exact ⟨.exit id,a₁,w₁,hq,fun k' hk=>.head h0 stepR_scope (harr.1 k' (by rw [hx]; exact hk)),
   fun hr' hk=>let ⟨k₁,h1,h2⟩:=harr.2 hr' (by rw [hx]; exact hk); ⟨k₁,h1,.head h0 stepR_scope h2⟩⟩
 | goto l=>exact hq.elim
 | ret=>exact ⟨_,a₁,w₁,hq,.of_steps (.one h0 stepR_scope) harr⟩
 | panic ch=>exact ⟨_,a₁,w₁,hq,.of_steps (.one h0 stepR_scope) harr⟩
 | outgrown=>exact ⟨_,a₁,w₁,hq,.of_steps (.one h0 stepR_scope) harr⟩
structure Cfg where
 live:List Nat
 frz:List (Nat×List Nat):=[]
 all:List Nat:=[]
 eps:List (Nat×List Nat):=[]
 cut:List Nat:=[]
 fl:List (Nat×List (Nat×Nat)):=[]
 fin:List (Nat×List (Nat×List Nat)):=[]
 qy:List Nat:=[]
 pi:List (Nat×List (Nat×Bool)):=[]
def firstReg:Code→Option Nat
 | .region id _ _=>some id
 | .seq x _=>firstReg x
 | _=>none
def isCut (l:List Nat) (x:Code):Bool:=match firstReg x with
 | some id=>l.contains id
 | none=>false
def frzSlot (k:Nat) (s:St) (K:St→Prop):Prop :=
 match look s.e k with
 | some ⟨true,.v (.s (.own t id n))⟩=>match Blk.look s.hp id with
  | .arr _ cs=>∃ xs:List t.T,cs=t.flats xs∧n=xs.length∧K ⟨(k,⟨true,.v (.s (.sl t xs false))⟩)::s.e,s.hp.set id .dead⟩
  | _=>False
 | some ⟨true,.v (.s (.pre t id n m))⟩=>match Blk.look s.hp id with
  | .arr _ cs=>∃ xs:List t.T,cs=t.flats xs∧n=xs.length∧K ⟨(k,⟨true,.v (.s (.sl t (xs.take m) false))⟩)::s.e,s.hp.set id .dead⟩
  | _=>False
 | some ⟨true,.v (.s (.box b off))⟩=>match Blk.look s.hp b with
  | .cells bc=>match bc[off]? with
   | some (.own t id n)=>match Blk.look s.hp id with
    | .arr _ cs=>∃ xs:List t.T,cs=t.flats xs∧n=xs.length∧K ⟨s.e,(s.hp.set b (.cells (bc.set off (.sl t xs false)))).set id .dead⟩
    | _=>False
   | _=>K s
  | _=>K s
 | _=>K s
def epsSlot (k:Nat) (s:St) (K:St→Prop):Prop :=
 match look s.e k with
 | some ⟨true,.v (.s (.box b 0))⟩=>match boxCap s.hp b with
  | some c=>K ⟨(k,⟨true,.v (.s (.eptr c.1 c.2))⟩)::s.e,s.hp.set b .dead⟩
  | none=>False
 | _=>K s
def epsSlots:List Nat→St→(St→Prop)→Prop
 | [],s,K=>K s
 | k::r,s,K=>epsSlot k s fun s'=>epsSlots r s' K
def frzSlots:List Nat→St→(St→Prop)→Prop
 | [],s,K=>K s
 | k::r,s,K=>frzSlot k s fun s'=>frzSlots r s' K
section
variable {P:Program} {g:G} {X:XT} {N:Nat} {n0:Option NB} {L:Cfg}
structure Rel (P:Program) (X:XT) (N:Nat) (n0:Option NB) (w:World) (M0:Nat→Prop) (bs:Bs) (a:Act) (s:St):Prop where
 hr:HR w M0 bs s.hp
 xr:XR X w M0 bs s.hp
 env:relEnv w (Mof M0 bs) bs s.hp s.e a
 size:a.tmps.size=N
 df:DefOk n0 w (Mof M0 bs) a.defers
def Post (P:Program) (g:G) (X:XT) (N:Nat) (n0:Option NB) (K:Exit→St→Prop) (w:World) (M0:Nat→Prop) (bs:Bs) (hp:List Blk) (e:Exit) (a':Act) (w':World):Prop :=
 ∃ s' M0' bs',K e s'∧Rel P X N n0 w' M0' bs' a' s'∧Nx P g X w M0 bs hp w' M0' bs' s'.hp
def Wp (P:Program) (g:G) (X:XT) (N:Nat) (c:Code) (s:St) (K:Exit→St→Prop):Prop :=
 ∀ (n:Nat) (r:Option Nat) (n0:Option NB) (M0:Nat→Prop) (bs:Bs) (a:Act) (w:World),(g.top=true→r=none)∧n0.isSome = !g.y→Rel P X N n0 w M0 bs a s→c.wpIn (FW r) n P (Post P g X N n0 K w M0 bs s.hp) a w
theorem Wp.mono {c:Code} {s:St} {K K':Exit→St→Prop} (h:Wp P g X N c s K) (hk:∀ e s,K e s→K' e s):Wp P g X N c s K' :=
 fun n r n0 M0 bs a w hT hr=>wpIn_mono (h n r n0 M0 bs a w hT hr) fun e a w ⟨s',M0',bs',k,x⟩=>⟨s',M0',bs',hk _ _ k,x⟩
theorem Rel.le {w:World} {M0:Nat→Prop} {bs:Bs} {a:Act} {s s':St} (h:Rel P X N n0 w M0 bs a s) (k:s'.le s):Rel P X N n0 w M0 bs a s':=by
 obtain ⟨e,hp⟩:=s
 obtain ⟨e',hp'⟩:=s'
 obtain ⟨k1,k2⟩:=k
 simp only at k1 k2
 subst k2
 exact ⟨h.hr,h.xr,fun s x hx=>h.env s x (look_envLe k1 s x hx),h.size,h.df⟩
def Turn (P:Program) (g:G) (X:XT) (N:Nat) (s s':St):Prop :=
 ∀ (n0:Option NB) (w:World) (M0:Nat→Prop) (bs:Bs) (a:Act),Rel P X N n0 w M0 bs a s→∃ bs',Rel P X N n0 w M0 bs' a s'∧Nx P g X w M0 bs s.hp w M0 bs' s'.hp
theorem Turn.le {s s':St} (h:s'.le s):Turn P g X N s s':=fun n0 w M0 bs a hr=>⟨bs,hr.le h,by rw [h.2]; exact .refl hr.hr hr.xr⟩
theorem Turn.refl (s:St):Turn P g X N s s:=fun n0 w M0 bs a hr=>⟨bs,hr,.refl hr.hr hr.xr⟩
theorem Turn.trans {s s' s'':St} (h:Turn P g X N s s') (k:Turn P g X N s' s''):Turn P g X N s s'':=fun n0 w M0 bs a hr=>by
 obtain ⟨bs',h1,h2⟩:=h n0 w M0 bs a hr
 obtain ⟨bs'',k1,k2⟩:=k n0 w M0 bs' a h1
 exact ⟨bs'',k1,h2.trans k2⟩
theorem Turn.virt {s:St} {k:Nat} {t:Ty} {xs:List t.T} (hk:look s.e k=some ⟨true,.v (.s (.sl t xs true))⟩):Turn P g X N s ⟨(k,⟨true,.v (.s (.own t s.hp.length xs.length))⟩)::s.e,s.hp++[.arr false (t.flats xs)]⟩:=by
 intro n0 w M0 bs a hr
 obtain ⟨h1,h2⟩:=hr.hr.virt (t.flats xs)
 have hx:XR X w M0 (bs++[none]) (s.hp++[.arr false (t.flats xs)]):=by
  intro l ys i st ht
  have hin:inBs (bs++[none])=inBs bs:=by
   funext b; apply propext
   constructor
   ·
    rintro ⟨id,h⟩
    rw [at_push] at h
    split at h
    ·
     cases h
    ·
     exact ⟨id,h⟩
   ·
    rintro ⟨id,h⟩
    exact ⟨id,by rw [at_push,if_neg (by have:=at_lt h; omega)]; exact h⟩
  rw [hin]
  refine hr.xr l ys i st ?_
  rw [look_push] at ht
  split at ht
  ·
   cases ht
  ·
   exact ht
 refine ⟨bs++[none],⟨h1,hx,?_,hr.size,hr.df.evo h2.evo⟩,⟨h1,hx,h2.weaken,fun _=>rfl⟩⟩
 intro j x hj
 simp only [look] at hj
 split at hj
 ·
  rename_i e; subst e
  injection hj with hj; subst hj
  refine ⟨fun _ => ?_,by simp⟩
  have hv0:relSV w (Mof M0 bs) bs s.hp (.sl t xs true) _:=(hr.env _ _ hk).1 rfl
  obtain ⟨ad,c,q1,q2,q3,q4,q5⟩:=relSV_step h2 _ _ hv0
  refine ⟨by simp,fun al cs hl => ?_⟩
  rw [look_push,if_pos rfl] at hl
  injection hl with hl1 hl2
  subst hl2
  refine ⟨by rw [flats_length]; exact Nat.le_refl _,fun _=>.inr ⟨?_,xs,ad,rfl,by omega,rfl,by rw [q1,q4 rfl],q5⟩⟩
  rw [at_push,if_pos hr.hr.len.symm]
 ·
  exact relSL_step h2 _ _ (hr.env _ _ hj)
theorem HR.recell {w:World} {M0:Nat→Prop} {bs:Bs} {hp:List Blk} (hr:HR w M0 bs hp) {id:Nat} {cs cs':List SV} (hl:Blk.look hp id=.cells cs) (hlen:cs'.length=cs.length)
  (h:∀ (j:Nat) (x y:SV) (u:Value),cs[j]?=some x→cs'[j]?=some y→relSV w (Mof M0 bs) bs hp x u→relSV w (Mof M0 bs) bs hp y u) :
  HR w M0 bs (hp.set id (.cells cs'))∧Step false w (Mof M0 bs) bs hp w (Mof M0 bs) bs (hp.set id (.cells cs')):=by
 obtain ⟨b,cur,e,h1,h2,h3,h4⟩:=hr.cells id cs hl
 refine hr.rewrite h1 (Evo.refl _ _) (fun _ _ _=>rfl) h2 (.cells cs') ⟨cur,e,rfl,by omega,fun j y hj => ?_⟩ (by rw [hl]; trivial)
 have hj2:=(List.getElem?_eq_some_iff.1 hj).1
 obtain ⟨u,k1,k2,k3⟩:=h4 j cs[j] (List.getElem?_eq_getElem (by omega))
 exact ⟨u,k1,k2,h j _ y u (List.getElem?_eq_getElem (by omega)) hj k3⟩
theorem Turn.virtBox {s:St} {b off:Nat} {bc:List SV} {t:Ty} {xs:List t.T} (hb:Blk.look s.hp b=.cells bc) (ho:bc[off]?=some (.sl t xs true)) :
  Turn P g X N s ⟨s.e,(s.hp++[Blk.arr false (t.flats xs)]).set b (.cells (bc.set off (.own t s.hp.length xs.length)))⟩:=by
 intro n0 w M0 bs a hr
 obtain ⟨h1,h2⟩:=hr.hr.virt (t.flats xs)
 have hblt:b<s.hp.length:=look_lt (by rw [hb]; simp)
 have hb':Blk.look (s.hp++[Blk.arr false (t.flats xs)]) b=.cells bc:=by rw [look_push,if_neg (by omega)]; exact hb
 have hat:Bs.at (bs++[none]) s.hp.length=none:=by rw [at_push,if_pos hr.hr.len.symm]
 obtain ⟨k1,k2⟩:=h1.recell (cs':=bc.set off (.own t s.hp.length xs.length)) hb' (by simp) (by
  intro j x y u hx hy hrel
  rw [List.getElem?_set] at hy
  split at hy
  ·
   rename_i e; subst e
   rw [ho] at hx; injection hx with hx; subst hx
   split at hy
   ·
    injection hy with hy; subst hy
    obtain ⟨ad,c,q1,q2,q3,q4,q5⟩:=hrel
    refine ⟨by simp,fun al cs hl => ?_⟩
    rw [look_push,if_pos rfl] at hl
    injection hl with hl1 hl2
    subst hl2
    exact ⟨by rw [flats_length]; exact Nat.le_refl _,fun _=>.inr ⟨hat,xs,ad,rfl,by omega,rfl,by rw [q1,q4 rfl],q5⟩⟩
   ·
    cases hy
  ·
   rw [hx] at hy; injection hy with hy; subst hy; exact hrel)
 have hx:XR X w M0 (bs++[none]) ((s.hp++[Blk.arr false (t.flats xs)]).set b (.cells (bc.set off (.own t s.hp.length xs.length)))):=by
  intro l ys i st ht
  have hin:inBs (bs++[none])=inBs bs:=by
   funext b; apply propext
   constructor
   ·
    rintro ⟨id,h⟩
    rw [at_push] at h
    split at h
    ·
     cases h
    ·
     exact ⟨id,h⟩
   ·
    rintro ⟨id,h⟩
    exact ⟨id,by rw [at_push,if_neg (by have:=at_lt h; omega)]; exact h⟩
  rw [hin]
  refine hr.xr l ys i st ?_
  rw [look_set b _ 0 (by simp; omega)] at ht
  split at ht
  ·
   cases ht
  ·
   rw [look_push] at ht
   split at ht
   ·
    cases ht
   ·
    exact ht
 have hst:=h2.trans k2
 exact ⟨bs++[none],⟨k1,hx,relEnv_step hst hr.env,hr.size,hr.df.evo hst.evo⟩,⟨k1,hx,hst.weaken,fun _=>rfl⟩⟩
theorem kill_blk (hX:XOk P X) {w:World} {M0:Nat→Prop} {bs:Bs} {hp:List Blk} (hr:HR w M0 bs hp) (hx:XR X w M0 bs hp) {id:Nat} (hid:id<hp.length) (hnm:∀ k u es,Blk.look hp id≠.map k u es) :
  HR w M0 (bs.set id none) (hp.set id .dead)∧XR X w M0 (bs.set id none) (hp.set id .dead)∧Step false w (Mof M0 bs) bs hp w (Mof M0 (bs.set id none)) (bs.set id none) (hp.set id .dead) ∧
   (∀ j b,Bs.at (bs.set id none) j=some b→j≠id∧bs.at j=some b)∧Evo (Mof M0 bs) (Mof M0 (bs.set id none)) w w:=by
 obtain ⟨h1,h3,h4,h5⟩:=kill_blkH hr hid hnm
 refine ⟨h1,?_,h3,h4,h5⟩
 intro l ys i st h
 have hl:Blk.look hp 0=.trace l ys i st:=by
  rw [look_set id _ 0 hid] at h
  split at h
  ·
   cases h
  ·
   exact h
 exact hX.stable (hx l ys i st hl) rfl rfl rfl (Nat.le_refl _) (Nat.le_refl _) (fun _ _ _=>rfl) (fun b _ hn ⟨j,hj⟩=>hn ⟨j,(h4 j b hj).2⟩) (fun b ⟨j,hj⟩=>hr.lt j b (h4 j b hj).2)
theorem freeze_blk (hX:XOk P X) {w:World} {M0:Nat→Prop} {bs:Bs} {hp:List Blk} (hr:HR w M0 bs hp) (hx:XR X w M0 bs hp) {id:Nat} {al:Bool} {t:Ty} {xs:List t.T} (hl:Blk.look hp id=.arr al (t.flats xs)) :
  HR w M0 (bs.set id none) (hp.set id .dead)∧XR X w M0 (bs.set id none) (hp.set id .dead)∧Step false w (Mof M0 bs) bs hp w (Mof M0 (bs.set id none)) (bs.set id none) (hp.set id .dead) ∧
   ∀ v,relSV w (Mof M0 bs) bs hp (.own t id xs.length) v→relSV w (Mof M0 (bs.set id none)) (bs.set id none) (hp.set id .dead) (.sl t xs false) v:=by
 obtain ⟨h1,h2,h3⟩:=freeze_blkH hr hl
 exact ⟨h1,(kill_blk hX hr hx (look_lt (by rw [hl]; simp)) (by rw [hl]; intro _ _ _ h; cases h)).2.1,h2,h3⟩
theorem freeze_box (hX:XOk P X) {w:World} {M0:Nat→Prop} {bs:Bs} {hp:List Blk} (hr:HR w M0 bs hp) (hx:XR X w M0 bs hp) {id:Nat} {c:Sigma Ty.T} (hc:boxCap hp id=some c) :
  HR w M0 (bs.set id none) (hp.set id .dead)∧XR X w M0 (bs.set id none) (hp.set id .dead)∧Step false w (Mof M0 bs) bs hp w (Mof M0 (bs.set id none)) (bs.set id none) (hp.set id .dead) ∧
   ∀ v,relSV w (Mof M0 bs) bs hp (.box id 0) v→relSV w (Mof M0 (bs.set id none)) (bs.set id none) (hp.set id .dead) (.eptr c.1 c.2) v:=by
 obtain ⟨cs,hl⟩:=boxCap_cells hc
 have hid:id<hp.length:=look_lt (by rw [hl]; simp)
 obtain ⟨g1,g2,g3,hat',he⟩:=kill_blk hX hr hx hid (by rw [hl]; intro _ _ _ h; cases h)
 refine ⟨g1,g2,g3,fun v hv => ?_⟩
 obtain ⟨b,hb,rfl⟩:=hv.2 cs hl
 exact boxCap_sound hr hb hc (fun b hb=>by
  rcases hb with hb | ⟨j,hb⟩
  ·
   exact .inl hb
  ·
   exact .inr ⟨j,(hat' j b hb).2⟩) (fun hb'=>by
  rcases hb' with hb' | ⟨j,hb'⟩
  ·
   exact hr.out id b hb hb'
  ·
   obtain ⟨hne,h⟩:=hat' j b hb'
   exact hne (hr.inj j id b h hb))
theorem epsSlot_sound (hX:XOk P X) {s:St} {k:Nat} {K:St→Prop} (h:epsSlot k s K):∃ s',Turn P g X N s s'∧K s':=by
 unfold epsSlot at h
 split at h
 ·
  rename_i b hk
  split at h
  ·
   rename_i c hc
   refine ⟨_,fun n0 w M0 bs a hr => ?_,h⟩
   obtain ⟨k1,k2,k3,k4⟩:=freeze_box hX hr.hr hr.xr hc
   refine ⟨_,⟨k1,k2,fun j x hj => ?_,hr.size,hr.df.evo k3.evo⟩,⟨k1,k2,k3.weaken,fun _=>rfl⟩⟩
   simp only [look] at hj
   split at hj
   ·
    rename_i e; subst e
    injection hj with hj; subst hj
    exact ⟨fun _=>k4 _ ((hr.env _ _ hk).1 rfl),by simp⟩
   ·
    exact relSL_step k3 _ _ (hr.env _ _ hj)
  ·
   exact h.elim
 ·
  exact ⟨s,.refl s,h⟩
theorem epsSlots_sound (hX:XOk P X):∀ (l:List Nat) {s:St} {K:St→Prop},epsSlots l s K→∃ s',Turn P g X N s s'∧K s'
 | [],s,K,h=>⟨s,.refl s,h⟩
 | k::l,s,K,h=>by
  obtain ⟨s1,h1,h2⟩:=epsSlot_sound (P:=P) (g:=g) (X:=X) (N:=N) hX h
  obtain ⟨s2,k1,k2⟩:=epsSlots_sound hX l h2
  exact ⟨s2,h1.trans k1,k2⟩
theorem freeze_pre (hX:XOk P X) {w:World} {M0:Nat→Prop} {bs:Bs} {hp:List Blk} (hr:HR w M0 bs hp) (hx:XR X w M0 bs hp) {id m:Nat} {al:Bool} {t:Ty} {xs:List t.T} (hl:Blk.look hp id=.arr al (t.flats xs)) :
  HR w M0 (bs.set id none) (hp.set id .dead)∧XR X w M0 (bs.set id none) (hp.set id .dead)∧Step false w (Mof M0 bs) bs hp w (Mof M0 (bs.set id none)) (bs.set id none) (hp.set id .dead) ∧
   ∀ v,relSV w (Mof M0 bs) bs hp (.pre t id xs.length m) v→relSV w (Mof M0 (bs.set id none)) (bs.set id none) (hp.set id .dead) (.sl t (xs.take m) false) v:=by
 obtain ⟨h1,h2,h3,h4⟩:=freeze_blk hX hr hx hl
 refine ⟨h1,h2,h3,fun v hv => ?_⟩
 obtain ⟨g1,g2,g3⟩:=hv
 obtain ⟨b,cap,k1,rfl,k3,k4⟩:=(g3 _ _ hl).2 (flats_length t xs)
 obtain ⟨a,c,e1,e2,e3,_,e5⟩:=h4 (.slice (some ⟨b,0,none⟩) xs.length cap) ⟨g1,fun al' cs' hl'=>⟨(g3 _ _ hl').1,fun hn=>.inl ⟨b,cap,k1,rfl,k3,k4⟩⟩⟩
 injection e1 with e1 e1' e1''
 subst e1 e1''
 have hm:(xs.take m).length=m:=by rw [List.length_take]; omega
 refine ⟨_,cap,by rw [hm],by omega,e3,by simp,?_⟩
 have:=RowAt_cut e5 0 m (some ⟨b,0,none⟩) (fun _=>by simp [addr_add]) (by omega) (by omega)
 simpa using this
theorem frzSlot_sound (hX:XOk P X) {s:St} {k:Nat} {K:St→Prop} (h:frzSlot k s K):∃ s',Turn P g X N s s'∧K s':=by
 unfold frzSlot at h
 split at h
 ·
  rename_i t id n hk
  split at h
  ·
   rename_i al cs hl
   obtain ⟨xs,rfl,rfl,hK⟩:=h
   refine ⟨_,fun n0 w M0 bs a hr => ?_,hK⟩
   obtain ⟨k1,k2,k3,k4⟩:=freeze_blk hX hr.hr hr.xr hl
   refine ⟨_,⟨k1,k2,fun j x hj => ?_,hr.size,hr.df.evo k3.evo⟩,⟨k1,k2,k3.weaken,fun _=>rfl⟩⟩
   simp only [look] at hj
   split at hj
   ·
    rename_i e; subst e
    injection hj with hj; subst hj
    exact ⟨fun _=>k4 _ ((hr.env _ _ hk).1 rfl),by simp⟩
   ·
    exact relSL_step k3 _ _ (hr.env _ _ hj)
  ·
   exact h.elim
 ·
  rename_i t id n m hk
  split at h
  ·
   rename_i al cs hl
   obtain ⟨xs,rfl,rfl,hK⟩:=h
   refine ⟨_,fun n0 w M0 bs a hr => ?_,hK⟩
   obtain ⟨k1,k2,k3,k4⟩:=freeze_pre (m:=m) hX hr.hr hr.xr hl
   refine ⟨_,⟨k1,k2,fun j x hj => ?_,hr.size,hr.df.evo k3.evo⟩,⟨k1,k2,k3.weaken,fun _=>rfl⟩⟩
   simp only [look] at hj
   split at hj
   ·
    rename_i e; subst e
    injection hj with hj; subst hj
    exact ⟨fun _=>k4 _ ((hr.env _ _ hk).1 rfl),by simp⟩
   ·
    exact relSL_step k3 _ _ (hr.env _ _ hj)
  ·
   exact h.elim
 ·
  rename_i b off hk
  split at h
  ·
   rename_i bc hb
   split at h
   ·
    rename_i t id n ho
    split at h
    ·
     rename_i al cs hl
     obtain ⟨xs,rfl,rfl,hK⟩:=h
     refine ⟨_,fun n0 w M0 bs a hr => ?_,hK⟩
     have hne:b≠id:=fun e=>by subst e; rw [hb] at hl; cases hl
     have hidl:id<s.hp.length:=look_lt (by rw [hl]; simp)
     have hbl:b<s.hp.length:=look_lt (by rw [hb]; simp)
     obtain ⟨k1,k2,k3,k4⟩:=freeze_blk hX hr.hr hr.xr hl
     have hb':Blk.look (s.hp.set id .dead) b=.cells bc:=by rw [look_set id _ b hidl,if_neg hne]; exact hb
     obtain ⟨bb,cur,e,c1,c2,c3,c4⟩:=hr.hr.cells b bc hb
     obtain ⟨u0,u1,u2,u3⟩:=c4 off _ ho
     have hu:=k4 _ u3
     obtain ⟨j1,j2⟩:=k1.rewrite (id:=b) (b:=bb) (by rw [at_set id _ b (by rw [hr.hr.len]; exact hidl),if_neg hne]; exact c1) (Evo.refl _ _) (fun _ _ _=>rfl) c2 (.cells (bc.set off (.sl t xs false)))
      ⟨cur,e,rfl,by simp; omega,fun j y hj=>by
       rw [List.getElem?_set] at hj
       split at hj
       ·
        rename_i e; subst e
        split at hj
        ·
         injection hj with hj; subst hj; exact ⟨u0,u1,u2,hu⟩
        ·
         cases hj
       ·
        obtain ⟨u,q1,q2,q3⟩:=c4 j y hj
        exact ⟨u,q1,q2,relSV_step k3 _ _ q3⟩⟩ (by rw [hb']; trivial)
     have hcomm:(s.hp.set id .dead).set b (.cells (bc.set off (.sl t xs false)))=(s.hp.set b (.cells (bc.set off (.sl t xs false)))).set id .dead:=by
      rw [List.set_comm _ _ hne.symm]
     rw [hcomm] at j1 j2
     have hst:=k3.trans j2
     have hx:XR X w M0 (bs.set id none) ((s.hp.set b (.cells (bc.set off (.sl t xs false)))).set id .dead):=fun l ys i st ht=>k2 l ys i st ((j2.only rfl).tr 0 l ys i st ht)
     exact ⟨_,⟨j1,hx,relEnv_step hst hr.env,hr.size,hr.df.evo hst.evo⟩,⟨j1,hx,hst.weaken,fun _=>rfl⟩⟩
    ·
     exact h.elim
   ·
    exact ⟨s,.refl s,h⟩
  ·
   exact ⟨s,.refl s,h⟩
 ·
  exact ⟨s,.refl s,h⟩
theorem frzSlots_sound (hX:XOk P X):∀ (l:List Nat) {s:St} {K:St→Prop},frzSlots l s K→∃ s',Turn P g X N s s'∧K s'
 | [],s,K,h=>⟨s,.refl s,h⟩
 | k::l,s,K,h=>by
  obtain ⟨s1,h1,h2⟩:=frzSlot_sound (P:=P) (g:=g) (X:=X) (N:=N) hX h
  obtain ⟨s2,k1,k2⟩:=frzSlots_sound hX l h2
  exact ⟨s2,h1.trans k1,k2⟩
theorem Wp.turn {c:Code} {s s':St} {K:Exit→St→Prop} (ht:Turn P g X N s s') (h:Wp P g X N c s' K):Wp P g X N c s K:=fun n r n0 M0 bs a w hT hr=>by
 obtain ⟨bs',h1,h2⟩:=ht n0 w M0 bs a hr
 exact wpIn_mono (h n r n0 M0 bs' a w hT h1) fun e a w ⟨s'',M0',bs'',k,x,y⟩=>⟨s'',M0',bs'',k,x,h2.trans y⟩
def thenK (K1:St→Prop) (K:Exit→St→Prop):Exit→St→Prop
 | .normal,s=>K1 s
 | e,s=>K e s
def inBlockK (id:Nat) (K:Exit→St→Prop):Exit→St→Prop
 | .exit id',s=>if id'=id then K .normal s else K (.exit id') s
 | e,s=>K e s
def noGotoK (K:Exit→St→Prop):Exit→St→Prop
 | .goto _,_=>False
 | e,s=>K e s
def vcCond (x:SL) (A B:Prop):Prop :=
 match x with
 | ⟨true,.v (.s (.bool b))⟩=>(b=true→A)∧(b=false→B)
 | ⟨true,.v (.s (.ib p q))⟩=>(p→A)∧(q→B)
 | _=>False
def flOf (g:G) (fl:List (Nat×List (Nat×Nat))) (id:Nat) (ops:List Oper) (s:St):Prop:=match look fl id with
 | some ps=>vcFl g ops ps ops s.e s.hp []
 | none=>True
def panOf (g:G) (e:Env) (o:Oper):Option (Prop×Value):=match o.guard with
 | some _=>none
 | none=>match o.op with
  | .panic x=>match opRV e x with
   | .v (.s (.val (.iface t u)))=>some (True,.iface t u)
   | _=>none
  | .call { callee:=.value (.func f),args:=xs,argTypes:=ts }=>match look g.Pn f with
   | some c=>some (c.when (argsEv g e xs.toList ts.toList)∧(argsEv g e xs.toList ts.toList).all AV.pure=true,c.what (argsEv g e xs.toList ts.toList))
   | none=>none
  | _=>none
def vcFr (g:G) (ops:List Oper) (fr:List (Nat×List Nat)):Nat→List Oper→St→(St→Prop)→(Value→St→Prop)→Prop
 | _,[],s,K,_=>K s
 | i,o::r,s,K,KP=>frzSlots ((look fr i).getD []) s fun s=>match panOf g s.e o with
  | none=>vcOps g ops [o] s.e s.hp fun e hp=>vcFr g ops fr (i+1) r ⟨e,hp⟩ K KP
  | some (p,v)=>okOps s.e o.op∧(p→KP v s)∧(¬ p→vcOps g ops [o] s.e s.hp fun e hp=>vcFr g ops fr (i+1) r ⟨e,hp⟩ K KP)
def vc (P:Program) (g:G) (X:XT) (N:Nat) (L:Cfg):Code→St→(Exit→St→Prop)→Prop
  | .skip,s,K=>K .normal s
  | .label _,s,K=>K .normal s
  | .region id ops dr,s,K=>frzSlots ((look L.frz id).getD []) s fun s=>epsSlots ((look L.eps id).getD []) s fun s=>match dr&&L.all.contains id with
    | true=>vcAll g ops.toList ops.toList.length [] s.e s.hp fun e hp=>K .normal ⟨keepE L.live e,hp⟩
    | false=>match look L.fin id with
      | some fr=>vcFr g ops.toList fr 0 ops.toList s (fun s=>K .normal ⟨keepE L.live s.e,s.hp⟩) fun v s=>K (.panic [{ v:=v,recovered:=false }]) ⟨keepE L.live s.e,s.hp⟩
      | none=>match look L.pi id with
       | some l=>vcPi g ops.toList l s.e s.hp fun e hp=>K .normal ⟨keepE L.live e,hp⟩
       | none=>match L.qy.contains id with
        | true=>(vcOps g.quiet ops.toList ops.toList s.e s.hp fun e hp=>K .normal ⟨keepE L.live e,hp⟩)∧flOf g.quiet L.fl id ops.toList s
        | false=>(vcOps g ops.toList ops.toList s.e s.hp fun e hp=>K .normal ⟨keepE L.live e,hp⟩)∧flOf g L.fl id ops.toList s
  | .seq x y,s,K=>match isCut L.cut x with
    | true=>Wp P g X N (.seq x y) s K
    | false=>vc P g X N L x s (thenK (fun s'=>vc P g X N L y s' K) K)
  | .cond c x y,s,K=>vcCond (oper s.e c) (vc P g X N L x s K) (vc P g X N L y s K)
  | .block id c,s,K=>vc P g X N L c s (inBlockK id K)
  | .scope c,s,K=>vc P g X N L c s (noGotoK K)
  | .exit id,s,K=>K (.exit id) s
  | .goto l,s,K=>K (.goto l) s
  | .ret,s,K=>K .ret s
  | c,s,K=>Wp P g X N c s K
def codeOk' (L:Cfg) (y:Bool×List FuncId) (N:Nat):Code→Bool
  | .region id ops draw=>if draw&&L.all.contains id then dstOk N ops.toList else if (look L.fin id).isSome then !draw&&dstOk N ops.toList else match look L.pi id with
   | some l=>draw&&regionPi y N ops.toList l
   | none=>match L.qy.contains id with
    | true=>(match draw,look L.fl id with
      | true,some ps=>regionFl (false,y.2) N ops.toList ps
      | _,_=>regionOk (false,y.2) N ops.toList draw)
    | false=>match draw,look L.fl id with
      | true,some ps=>regionFl y N ops.toList ps
      | _,_=>regionOk y N ops.toList draw
  | .seq a b=>codeOk' L y N a&&codeOk' L y N b
  | .cond _ a b=>codeOk' L y N a&&codeOk' L y N b
  | .block _ c=>codeOk' L y N c
  | .scope c=>codeOk' L y N c
  | .loop c=>codeOk' L y N c
  | .rangeFunc _ _ a b=>codeOk' L y N a&&codeOk' L y N b
  | _=>true
theorem Post.of_refl {w:World} {M0:Nat→Prop} {bs:Bs} {a:Act} {s:St} {K:Exit→St→Prop} {e:Exit} (h:Rel P X N n0 w M0 bs a s) (k:K e s):Post P g X N n0 K w M0 bs s.hp e a w :=
 ⟨s,M0,bs,k,h,.refl h.hr h.xr⟩
theorem pan_wp (hg:g.good P) {n:Nat} {r:Option Nat} {Q:Exit→Act→World→Prop} {Kn:Act→World→Prop} (o:Oper) {e:Env} {hp:List Blk} {bs:Bs} {a:Act} {w:World} {M0:Nat→Prop} {p:Prop} {v:Value}
  (hpo:panOf g e o=some (p,v)) (hok:okOps e o.op) (hp':p) (hr:HR w M0 bs hp) (he:relEnv w (Mof M0 bs) bs hp e a)
  (hQ:∀ w',HR w' M0 bs hp→Step false w (Mof M0 bs) bs hp w' (Mof M0 bs) bs hp→Q (.panic [{ v:=v,recovered:=false }]) a w'):o.guard=none∧o.wpIn (FW r) n P a w Kn Q:=by
 unfold panOf at hpo
 split at hpo
 ·
  cases hpo
 ·
  rename_i hgd
  refine ⟨hgd,?_⟩
  obtain ⟨dst,op,t,pos,after,guard⟩:=o
  simp only at hok hpo hgd
  split at hpo
  ·
   rename_i x
   split at hpo
   ·
    rename_i ti u hx
    injection hpo with hpo
    injection hpo with _ hv
    have hxo:(oper e x).ok=true:=allOk_mem (e:=e) (l:=[x]) (by simpa [okOps,Op.operands] using hok) x (by simp)
    have hrel:=oper_rel hr.gl he x hxo
    rw [hx] at hrel
    have hv2:a.eval x=.iface ti u:=hrel
    refine ⟨fun f _=>trivial,?_⟩
    rw [Oper.semAt_eq _ _ _ (by simp)]
    have hrun:(execOp a.eval { dst:=dst,op:=.panic x,type:=t,pos:=pos,after:=after,guard:=guard }).run P w=.halt (.panic (.iface ti u)) w:=by
     simp [execOp,hv2,Instr.panic,goPanic,Sem.run_bind]
    rw [hrun]
    rw [← hv] at hQ
    exact hQ w hr (Step.refl _ _ _ _)
   ·
    cases hpo
  ·
   rename_i f xs ts
   split at hpo
   ·
    rename_i c hc
    injection hpo with hpo
    injection hpo with hp1 hv
    subst hp1
    subst hv
    obtain ⟨hent,hcon⟩:=hg.2.2.2.1 f c hc
    have hall:=okOps_all (by simp) hok
    have hargs:=args_rel hg.1 xs.toList ts.toList (fun x hx=>oper_rel hr.gl he x (hall x (by simp [Op.operands,Call.operands]; exact .inr (by simpa using hx))))
    refine ⟨fun f _=>trivial,?_⟩
    rw [Oper.semAt_eq _ _ _ (by simp)]
    have hrun:(execOp a.eval { dst:=dst,op:=.call { callee:=.value (.func f),args:=xs,argTypes:=ts },type:=t,pos:=pos,after:=after,guard:=guard }).run P w=.ok (.enter f (xs.toList.map a.eval).toArray) w:=by
     have:=hent (xs.toList.map a.eval).toArray w
     simp only [execOp,resolve,Act.eval,Deferred.ofValue,Sem.run_bind,Sem.run_pure,Result.andThen_ok,invoke,map_arr]
     simpa using this
    rw [hrun]
    refine ⟨fun hd=>by simp [FW] at hd,callsIn_FW ((hcon w (Mof M0 bs) _ _ hp'.1 hr.mok (all2_pure hp'.2 hargs)).mono ?_)⟩
    ·
     rintro e1 w' ⟨rfl,hbel,hdr⟩
     obtain ⟨k1,k2⟩:=hr.keep (Evo.of_below hbel hdr) (fun id b hb=>hbel.block b (hr.lt id b hb)) (fun b hb _=>hbel.block b hb)
     exact hQ w' k1 k2
   ·
    cases hpo
  ·
   cases hpo
theorem vcFr_sound (hg:g.good P) (hX:XOk P X) {n:Nat} {r:Option Nat} {Q:Exit→Act→World→Prop} (ops:Array Oper) (fr:List (Nat×List Nat)) (n0:Option NB) :
  ∀ (l:List Oper) (i:Nat) (s:St) (K:St→Prop) (KP:Value→St→Prop) (M0:Nat→Prop) (bs:Bs) (a:Act) (w:World),(∀ o∈l,∀ d,o.dst=some d→d<N)→vcFr g ops.toList fr i l s K KP→Rel P X N n0 w M0 bs a s →
  (∀ s' M0' bs' a' w',K s'→Nx P g X w M0 bs s.hp w' M0' bs' s'.hp→Rel P X N n0 w' M0' bs' a' s'→a'.defers=a.defers→Q .normal a' w') →
  (∀ v s' M0' bs' a' w',KP v s'→Nx P g X w M0 bs s.hp w' M0' bs' s'.hp→Rel P X N n0 w' M0' bs' a' s'→a'.defers=a.defers→Q (.panic [{ v:=v,recovered:=false }]) a' w')→wpListIn (FW r) n P ops Q l a w:=by
 intro l
 induction l with
 | nil=>intro i s K KP M0 bs a w _ h hr hQ _; exact hQ s M0 bs a w h (.refl hr.hr hr.xr) hr rfl
 | cons o l ih =>
  intro i s K KP M0 bs a w hdst h hr hQ hQP
  obtain ⟨s1,ht,hv⟩:=frzSlots_sound (P:=P) (g:=g) (X:=X) (N:=N) hX _ h
  obtain ⟨bs1,hr1,hn1⟩:=ht n0 w M0 bs a hr
  have go:(vcOps g ops.toList [o] s1.e s1.hp fun e hp=>vcFr g ops.toList fr (i+1) l ⟨e,hp⟩ K KP)→wpListIn (FW r) n P ops Q (o::l) a w:=by
   intro hv
   refine vcOps_step hg hX ops o [] s1.e s1.hp bs1 a w hv hr1.hr hr1.xr hr1.env _ ?_
   intro x z hp' M0' bs' w' hx hst hv
   refine ih (i+1) ⟨putE o.dst x s1.e,hp'⟩ K KP M0' bs' _ w' (fun o' ho'=>hdst o' (by simp [ho'])) hv ⟨hst.hr,hst.xr,?_,by rw [put_eval]; exact hr1.size,by rw [put_defers]; exact hr1.df.evo hst.st.evo⟩ ?_ ?_
   ·
    exact relEnv_put (relEnv_step hst.st hr1.env) o.dst x z hx (fun d hd=>by rw [hr1.size]; exact hdst o (by simp) d hd)
   ·
    intro s' M0'' bs'' a' w'' hk hn hr' hdf
    exact hQ s' M0'' bs'' a' w'' hk ((hn1.trans hst).trans hn) hr' (by rw [hdf,put_defers])
   ·
    intro v s' M0'' bs'' a' w'' hk hn hr' hdf
    exact hQP v s' M0'' bs'' a' w'' hk ((hn1.trans hst).trans hn) hr' (by rw [hdf,put_defers])
  cases hpo:panOf g s1.e o with
  | none=>rw [hpo] at hv; exact go hv
  | some pv =>
   obtain ⟨p,v⟩:=pv
   rw [hpo] at hv
   obtain ⟨hok,h1,h2⟩:=hv
   by_cases hp:p
   ·
    obtain ⟨k1,k2⟩:=pan_wp (r:=r) (n:=n) (Q:=Q) (Kn:=wpListIn (FW r) n P ops Q l) hg o hpo hok hp hr1.hr hr1.env (fun w' q1 q2=>by
     refine hQP v s1 M0 bs1 a w' (h1 hp) (hn1.trans ?_) ⟨q1,hr1.xr.step hX q2 q1.lt,relEnv_step q2 hr1.env,hr1.size,hr1.df.evo q2.evo⟩ rfl
     exact .of_step hX hr1.xr q1 q2)
    show ite _ _ _
    rw [if_pos (by simp [Region.wanted,k1])]
    exact k2
   ·
    exact go (h2 hp)
theorem vc_region (hg:g.good P) (hX:XOk P X) (hm:P.follows .mixedOrders=true) (id:Nat) (ops:Array Oper) (draw:Bool) (hok:codeOk' L g.ye N (.region id ops draw)=true) (s:St) (K:Exit→St→Prop)
  (h:vc P g X N L (.region id ops draw) s K) (n:Nat) (r:Option Nat) (n0:Option NB) (M0:Nat→Prop) (bs:Bs) (a:Act) (w:World) (hT:(g.top=true→r=none)∧n0.isSome = !g.y) (hr:Rel P X N n0 w M0 bs a s) :
  (Code.region id ops draw).wpIn (FW r) n P (fun e a' w'=>Post P g X N n0 K w M0 bs s.hp e a' w'∧a'.defers=a.defers) a w:=by
 obtain ⟨s0,hturn0,hv0⟩:=frzSlots_sound (P:=P) (g:=g) (X:=X) (N:=N) hX _ h
 clear h
 obtain ⟨s1,hturn1,hv⟩:=epsSlots_sound (P:=P) (g:=g) (X:=X) (N:=N) hX _ hv0
 clear hv0
 obtain ⟨bs',hr',hnx'⟩:=(hturn0.trans hturn1) n0 w M0 bs a hr
 refine wpIn_mono (Q:=fun e a' w'=>Post P g X N n0 K w M0 bs' s1.hp e a' w'∧a'.defers=a.defers) ?_ fun e a w ⟨⟨s'',M0',bs'',k,x,y⟩,z⟩=>⟨⟨s'',M0',bs'',k,x,hnx'.trans y⟩,z⟩
 clear hr hnx'
 have hr:=hr'
 clear hr'
 revert hr
 generalize bs'=bs
 intro hr
 have hbeh:Behind P g X M0 N (fun e a' w'=>Post P g X N n0 K w M0 bs s1.hp e a' w'∧a'.defers=a.defers) (fun e hp=>K .normal ⟨keepE L.live e,hp⟩) w bs s1.hp a.defers:=by
  intro e' hp' M0' bs' a' w' hk hn he hN hdf
  exact ⟨⟨⟨keepE L.live e',hp'⟩,M0',bs',hk,⟨hn.hr,hn.xr,fun t x hx=>he t x (look_keepE L.live e' t x hx),hN,by rw [hdf]; exact hr.df.evo hn.st.evo⟩,hn⟩,hdf⟩
 simp only [codeOk'] at hok
 cases hal:draw&&L.all.contains id with
 | true =>
  rw [hal] at hv hok
  simp only [if_true] at hok
  simp only [Bool.and_eq_true] at hal
  obtain ⟨rfl,_⟩:=hal
  exact region_all hg hX hm id ops hok s1.e s1.hp bs a w hv hr.hr hr.xr hr.env hr.size hbeh
 | false =>
  rw [hal] at hv hok
  simp only [Bool.false_eq_true,if_false] at hok
  cases hfin:look L.fin id with
  | some fr =>
   rw [hfin] at hv hok
   simp only [Option.isSome_some,if_true,Bool.and_eq_true,Bool.not_eq_true'] at hok
   obtain ⟨rfl,hd⟩:=hok
   simp only [dstOk,List.all_eq_true] at hd
   refine wpIn_region_list (vcFr_sound hg hX ops fr n0 ops.toList 0 s1 _ _ M0 bs a w (fun o ho d hod => ?_) hv hr (fun s' M0' bs' a' w' hk hn hr' hdf=>⟨⟨⟨keepE L.live s'.e,s'.hp⟩,M0',bs',hk,⟨hr'.hr,hr'.xr,fun t x hx=>hr'.env t x (look_keepE L.live s'.e t x hx),hr'.size,hr'.df⟩,hn⟩,hdf⟩) fun v s' M0' bs' a' w' hk hn hr' hdf=>⟨⟨⟨keepE L.live s'.e,s'.hp⟩,M0',bs',hk,⟨hr'.hr,hr'.xr,fun t x hx=>hr'.env t x (look_keepE L.live s'.e t x hx),hr'.size,hr'.df⟩,hn⟩,hdf⟩)
   have:=hd o ho
   rw [hod] at this
   simpa using this
  | none =>
  rw [hfin] at hv hok
  simp only [Option.isSome_none,Bool.false_eq_true,if_false] at hok
  cases hpi:look L.pi id with
  | some l =>
   rw [hpi] at hv hok
   simp only [Bool.and_eq_true] at hv hok
   obtain ⟨rfl,hok⟩:=hok
   exact region_pi hg hX hm id ops l hok (fun e e' hp he=>by rw [keepE_eqE _ he]) s1.e s1.hp bs a w hv hr.hr hr.xr hr.env hr.size hbeh
  | none =>
  rw [hpi] at hv hok
  simp only at hv hok
  cases hqy:L.qy.contains id with
  | false =>
   rw [hqy] at hv hok
   simp only at hv hok
   obtain ⟨hv,hfl⟩:=hv
   split at hok
   ·
    rename_i ps heq
    unfold flOf at hfl
    rw [heq] at hfl
    exact region_float hg hX hm id ops ps hok s1.e s1.hp bs a w hv hfl hr.hr hr.xr hr.env hr.size hbeh
   ·
    exact region_sound hg hX hm id ops _ hok s1.e s1.hp bs a w hv hr.hr hr.xr hr.env hr.size hbeh
  | true =>
   rw [hqy] at hv hok
   simp only at hv hok
   have hgq:g.quiet.good P:=hg
   have hbq:Behind P g.quiet X M0 N (fun e a' w'=>Post P g X N n0 K w M0 bs s1.hp e a' w'∧a'.defers=a.defers) (fun e hp=>K .normal ⟨keepE L.live e,hp⟩) w bs s1.hp a.defers:=by
    intro e' hp' M0' bs' a' w' hk hn he hN hdf
    exact hbeh e' hp' M0' bs' a' w' hk ⟨hn.hr,hn.xr,hn.st.weaken,fun _=>hn.eq rfl⟩ he hN hdf
   obtain ⟨hv,hfl⟩:=hv
   split at hok
   ·
    rename_i ps heq
    unfold flOf at hfl
    rw [heq] at hfl
    exact region_float hgq hX hm id ops ps hok s1.e s1.hp bs a w hv hfl hr.hr hr.xr hr.env hr.size hbq
   ·
    exact region_sound hgq hX hm id ops _ hok s1.e s1.hp bs a w hv hr.hr hr.xr hr.env hr.size hbq
theorem vc_sound (hg:g.good P) (hX:XOk P X) (hm:P.follows .mixedOrders=true):∀ (c:Code),codeOk' L g.ye N c=true→∀ (s:St) (K:Exit→St→Prop),vc P g X N L c s K→Wp P g X N c s K:=by
 intro c
 induction c with
 | skip=>intro _ s K h n r n0 M0 bs a w hT hr; exact wpIn_skip (.of_refl hr h)
 | label l=>intro _ s K h n r n0 M0 bs a w hT hr; exact wpIn_label (.of_refl hr h)
 | exit id=>intro _ s K h n r n0 M0 bs a w hT hr; exact wpIn_exit (.of_refl hr h)
 | goto l=>intro _ s K h n r n0 M0 bs a w hT hr; exact wpIn_goto (.of_refl hr h)
 | ret=>intro _ s K h n r n0 M0 bs a w hT hr; exact wpIn_ret (.of_refl hr h)
 | region id ops draw =>
  intro hok s K h n r n0 M0 bs a w hT hr
  exact wpIn_mono (vc_region hg hX hm id ops draw hok s K h n r n0 M0 bs a w hT hr) fun e a w h=>h.1
 | seq x y ihx ihy =>
  intro hok s K h
  cases hcut:isCut L.cut x with
  | true=>simp only [vc,hcut] at h; exact h
  | false =>
  simp only [vc,hcut] at h
  intro n r n0 M0 bs a w hT hr
  simp only [codeOk',Bool.and_eq_true] at hok
  refine wpIn_seq (wpIn_mono (ihx hok.1 s _ h n r n0 M0 bs a w hT hr) ?_)
  rintro e a' w' ⟨s',M0',bs',k,hr',hn⟩
  have hK:e≠.normal→Post P g X N n0 K w M0 bs s.hp e a' w':=fun he=>⟨s',M0',bs',by cases e <;> first | exact absurd rfl he | exact k,hr',hn⟩
  cases e with
  | normal=>exact wpIn_mono (ihy hok.2 s' K k n r n0 M0' bs' a' w' hT hr') fun e a w ⟨s'',M0'',bs'',k,x,y⟩=>⟨s'',M0'',bs'',k,x,hn.trans y⟩
  | _=>exact hK (by simp)
 | cond c x y ihx ihy =>
  intro hok s K h n r n0 M0 bs a w hT hr
  simp only [codeOk',Bool.and_eq_true] at hok
  simp only [vc] at h
  have ho:=oper_rel hr.hr.gl hr.env c
  unfold opRV at ho
  generalize oper s.e c=z at h ho
  obtain ⟨ok,v⟩:=z
  unfold vcCond at h
  split at h
  ·
   rename_i b heq
   injection heq with e1 e2
   subst e1; subst e2
   obtain ⟨h1,h2⟩:=h
   have hb:a.eval c=.bool b:=ho rfl
   refine wpIn_cond_split hb (fun hb => ?_) (fun hb => ?_)
   ·
    exact ihx hok.1 s K (h1 hb) n r n0 M0 bs a w hT hr
   ·
    exact ihy hok.2 s K (h2 hb) n r n0 M0 bs a w hT hr
  ·
   rename_i p q heq
   injection heq with e1 e2
   subst e1; subst e2
   obtain ⟨h1,h2⟩:=h
   obtain ⟨b,hb,k1,k2⟩:∃ b,a.eval c=.bool b∧(b=true→p)∧(b=false→q):=ho rfl
   refine wpIn_cond_split hb (fun hb => ?_) (fun hb => ?_)
   ·
    exact ihx hok.1 s K (h1 (k1 hb)) n r n0 M0 bs a w hT hr
   ·
    exact ihy hok.2 s K (h2 (k2 hb)) n r n0 M0 bs a w hT hr
  ·
   exact h.elim
 | block id c ih =>
  intro hok s K h n r n0 M0 bs a w hT hr
  refine wpIn_block (wpIn_mono (ih hok s _ h n r n0 M0 bs a w hT hr) ?_)
  rintro e a' w' ⟨s',M0',bs',k,hr',hn⟩
  cases e with
  | exit id' =>
   simp only [inBlockK] at k
   simp only [Exit.inBlock]
   split at k
   ·
    rename_i e1; rw [if_pos e1]; exact ⟨s',M0',bs',k,hr',hn⟩
   ·
    rename_i e1; rw [if_neg e1]; exact ⟨s',M0',bs',k,hr',hn⟩
  | _=>exact ⟨s',M0',bs',k,hr',hn⟩
 | scope c ih =>
  intro hok s K h n r n0 M0 bs a w hT hr
  refine wpIn_scope (wpIn_mono (ih hok s _ h n r n0 M0 bs a w hT hr) ?_)
  rintro e a' w' ⟨s',M0',bs',k,hr',hn⟩
  cases e with
  | goto l=>exact k.elim
  | _=>exact ⟨s',M0',bs',k,hr',hn⟩
 | _=>intro _ s K h; exact h
def TurnT (P:Program) (g:G) (X:XT) (N n:Nat) (s s':St):Prop :=
 ∀ (n0:Option NB) (w:World) (M0:Nat→Prop) (bs:Bs) (a:Act),Rel P X N n0 w M0 bs a s→∃ bs',Rel P X N n0 w M0 bs' a s' ∧
  ∀ (w0:World) (M00:Nat→Prop) (bs0:Bs) (hp0:List Blk),hp0.length≤n→Nx P g X w0 M00 bs0 hp0 w M0 bs s.hp→Nx P g X w0 M00 bs0 hp0 w M0 bs' s'.hp
theorem Turn.toT {n:Nat} {s s':St} (h:Turn P g X N s s'):TurnT P g X N n s s':=fun n0 w M0 bs a hr=>by
 obtain ⟨bs',h1,h2⟩:=h n0 w M0 bs a hr
 exact ⟨bs',h1,fun _ _ _ _ _ hn=>hn.trans h2⟩
theorem TurnT.le {n:Nat} {s s':St} (h:s'.le s):TurnT P g X N n s s':=(Turn.le h).toT
theorem TurnT.trans {n:Nat} {s s' s'':St} (h:TurnT P g X N n s s') (k:TurnT P g X N n s' s''):TurnT P g X N n s s'':=fun n0 w M0 bs a hr=>by
 obtain ⟨bs',h1,h2⟩:=h n0 w M0 bs a hr
 obtain ⟨bs'',k1,k2⟩:=k n0 w M0 bs' a h1
 exact ⟨bs'',k1,fun w0 M00 bs0 hp0 hl hn=>k2 w0 M00 bs0 hp0 hl (h2 w0 M00 bs0 hp0 hl hn)⟩
def SV.below (n:Nat):SV→Bool
 | .box id _=>decide (id<n)
 | .own _ id _=>decide (id<n)
 | .eown _ id _ _=>decide (id<n)
 | .pre _ id _ _=>decide (id<n)
 | .suf _ id _ _=>decide (id<n)
 | .fn _ ids=>ids.all fun id=>decide (id<n)
 | .mp id=>decide (id<n)
 | .part _ id _ _ _=>decide (id<n)
 | .bbx _ id _=>decide (id<n)
 | _=>true
def AV.below (n:Nat):AV→Bool
 | .s x=>x.below n
 | .agg cs=>cs.all fun x=>x.below n
def RV.below (n:Nat):RV→Bool
 | .v x=>x.below n
 | .tup xs=>xs.all fun x=>x.below n
def Blk.below (n:Nat):Blk→Bool
 | .cells cs=>cs.all fun x=>x.below n
 | .arr _ cs=>cs.all fun x=>x.below n
 | _=>true
section trunc
variable {w:World} {M0:Nat→Prop} {bs:Bs} {hp junk:List Blk}
theorem at_take {n id:Nat} (h:id<n):Bs.at (bs.take n) id=bs.at id:=by
 simp [Bs.at,h]
theorem at_take' {n id b:Nat} (h:Bs.at (bs.take n) id=some b):bs.at id=some b:=by
 have:=at_lt h
 rw [List.length_take] at this
 rw [at_take (by omega)] at h; exact h
theorem look_app {id:Nat} (h:id<hp.length):Blk.look (hp++junk) id=Blk.look hp id:=by
 simp [Blk.look,List.getElem?_append_left h]
theorem Mof_take {n b:Nat} (h:Mof M0 (bs.take n) b):Mof M0 bs b:=by
 rcases h with h | ⟨id,h⟩
 ·
  exact .inl h
 ·
  exact .inr ⟨id,at_take' h⟩
theorem relSV_trunc {x:SV} {v:Value} (hb:x.below hp.length=true) (h:relSV w (Mof M0 bs) bs (hp++junk) x v):relSV w (Mof M0 (bs.take hp.length)) (bs.take hp.length) hp x v:=by
 have he:Evo (Mof M0 bs) (Mof M0 (bs.take hp.length)) w w:=Evo.more w fun b _=>Mof_take
 cases x with
 | sl t xs ex=>obtain ⟨a,c,h1,h2,h3,h4,h5⟩:=h; exact ⟨a,c,h1,h2,h3,h4,h5.evo he⟩
 | eptr t x=>obtain ⟨b,off,cs,h1,h2,h3,h4,h5⟩:=h; exact ⟨b,off,cs,h1,he.free b h3 h2,h3,rep_evo he _ _ _ h4,h5⟩
 | fnp f caps=>obtain ⟨ps,h1,h2⟩:=h; exact ⟨ps,h1,h2.imp fun c p hp=>hp.evo he⟩
 | fv x=>exact RepD.evo he h
 | box id off =>
  simp only [SV.below,decide_eq_true_eq] at hb
  obtain ⟨h1,h2⟩:=h
  refine ⟨hb,fun cs hl => ?_⟩
  rw [at_take hb]
  exact h2 cs (by rw [look_app hb]; exact hl)
 | own t id n =>
  simp only [SV.below,decide_eq_true_eq] at hb
  obtain ⟨h1,h2⟩:=h
  refine ⟨hb,fun al cs hl => ?_⟩
  rw [← look_app (junk:=junk) hb] at hl
  refine ⟨(h2 al cs hl).1,fun hlen => ?_⟩
  rw [at_take hb]
  rcases (h2 al cs hl).2 hlen with h | ⟨k1,xs,a,k2,k3,k4,k5,k6⟩
  ·
   exact .inl h
  ·
   exact .inr ⟨k1,xs,a,k2,k3,k4,k5,k6.evo he⟩
 | eown t id n off =>
  simp only [SV.below,decide_eq_true_eq] at hb
  obtain ⟨h1,h2⟩:=h
  refine ⟨hb,fun al cs hl => ?_⟩
  rw [← look_app (junk:=junk) hb] at hl
  refine ⟨(h2 al cs hl).1,fun hlen => ?_⟩
  rw [at_take hb]
  exact (h2 al cs hl).2 hlen
 | pre t id n m =>
  simp only [SV.below,decide_eq_true_eq] at hb
  obtain ⟨h1,hm,h2⟩:=h
  refine ⟨hb,hm,fun al cs hl => ?_⟩
  rw [← look_app (junk:=junk) hb] at hl
  refine ⟨(h2 al cs hl).1,fun hlen => ?_⟩
  rw [at_take hb]
  exact (h2 al cs hl).2 hlen
 | suf t id n k =>
  simp only [SV.below,decide_eq_true_eq] at hb
  obtain ⟨h1,hm,h2⟩:=h
  refine ⟨hb,hm,fun al cs hl => ?_⟩
  rw [← look_app (junk:=junk) hb] at hl
  refine ⟨(h2 al cs hl).1,fun hlen => ?_⟩
  rw [at_take hb]
  exact (h2 al cs hl).2 hlen
 | fn f ids =>
  simp only [SV.below,List.all_eq_true,decide_eq_true_eq] at hb
  obtain ⟨ps,h1,h2⟩:=h
  refine ⟨ps,h1,?_⟩
  clear h1
  induction h2 with
  | nil=>exact .nil
  | cons r _ ih =>
   have h0:=hb _ (List.mem_cons_self ..)
   refine .cons ⟨h0,fun cs hl=>by rw [at_take h0]; exact r.2 cs (by rw [look_app h0]; exact hl)⟩ (ih fun id hid=>hb id (List.mem_cons_of_mem _ hid))
 | mp id =>
  simp only [SV.below,decide_eq_true_eq] at hb
  obtain ⟨b,k,u,es,h1,h2,h3⟩:=h
  exact ⟨b,k,u,es,by rw [at_take hb]; exact h1,by rw [← look_app hb]; exact h2,h3⟩
 | part t id off n cap =>
  simp only [SV.below,decide_eq_true_eq] at hb
  obtain ⟨h1,q1,q2,a,q3,h2⟩:=h
  refine ⟨hb,q1,q2,a,q3,fun cs hl => ?_⟩
  rw [at_take hb]
  exact h2 cs (by rw [look_app hb]; exact hl)
 | bbx f id off =>
  simp only [SV.below,decide_eq_true_eq] at hb
  obtain ⟨h1,q,q3,h2⟩:=h
  refine ⟨hb,q,q3,fun cs hl => ?_⟩
  rw [at_take hb]
  exact h2 cs (by rw [look_app hb]; exact hl)
 | _=>exact h
theorem relAV_trunc {x:AV} {v:Value} (hb:x.below hp.length=true) (h:relAV w (Mof M0 bs) bs (hp++junk) x v):relAV w (Mof M0 (bs.take hp.length)) (bs.take hp.length) hp x v:=by
 cases x with
 | s x=>exact relSV_trunc hb h
 | agg cs =>
  obtain ⟨vs,rfl,h⟩:=h
  refine ⟨vs,rfl,?_⟩
  simp only [AV.below] at hb
  induction h with
  | nil=>exact .nil
  | cons r _ ih =>
   simp only [List.all_cons,Bool.and_eq_true] at hb
   exact .cons ⟨relSV_trunc hb.1 r.1,r.2⟩ (ih hb.2)
theorem relRV_trunc {x:RV} {v:Value} (hb:x.below hp.length=true) (h:relRV w (Mof M0 bs) bs (hp++junk) x v):relRV w (Mof M0 (bs.take hp.length)) (bs.take hp.length) hp x v:=by
 cases x with
 | v x=>exact relAV_trunc hb h
 | tup xs =>
  obtain ⟨vs,rfl,h⟩:=h
  refine ⟨vs,rfl,?_⟩
  simp only [RV.below] at hb
  induction h with
  | nil=>exact .nil
  | cons r _ ih =>
   simp only [List.all_cons,Bool.and_eq_true] at hb
   exact .cons (relAV_trunc hb.1 r) (ih hb.2)
theorem HR.trunc (hr:HR w M0 bs (hp++junk)) (hb:hp.all (fun b=>b.below hp.length)=true):HR w M0 (bs.take hp.length) hp:=by
 have he:Evo (Mof M0 bs) (Mof M0 (bs.take hp.length)) w w:=Evo.more w fun b _=>Mof_take
 have hlen:(bs.take hp.length).length=hp.length:=by rw [List.length_take,hr.len,List.length_append]; omega
 have hlk:∀ id x,Blk.look hp id=x→x≠.dead→id<hp.length∧Blk.look (hp++junk) id=x:=by
  intro id x h hne
  have hlt:id<hp.length:=look_lt (by rw [h]; exact hne)
  exact ⟨hlt,by rw [look_app hlt]; exact h⟩
 have hbel:∀ id x,Blk.look hp id=x→x≠.dead→x.below hp.length=true:=by
  intro id x h hne
  have hlt:=(hlk id x h hne).1
  rw [List.all_eq_true] at hb
  have hmem:x∈hp:=by
   rw [← h]; simp only [Blk.look,List.getElem?_eq_getElem hlt,Option.getD_some]; exact List.getElem_mem hlt
  exact hb x hmem
 refine ⟨hlen,hr.m0,fun id b h=>hr.lt id b (at_take' h),fun i j b h1 h2=>hr.inj i j b (at_take' h1) (at_take' h2),fun id b h=>hr.out id b (at_take' h),?_,?_,?_,?_,hr.gl.evo he⟩
 ·
  intro id cs h
  obtain ⟨h1,h2⟩:=hlk id _ h (by simp)
  obtain ⟨b,hb⟩:=hr.al id cs h2
  exact ⟨b,by rw [at_take h1]; exact hb⟩
 ·
  intro id cs h
  obtain ⟨h1,h2⟩:=hlk id _ h (by simp)
  have hbl:=hbel id _ h (by simp)
  simp only [Blk.below,List.all_eq_true] at hbl
  obtain ⟨b,cur,e,q1,q2,q3,q4⟩:=hr.cells id cs h2
  refine ⟨b,cur,e,by rw [at_take h1]; exact q1,q2,q3,fun j x hj => ?_⟩
  obtain ⟨u,k1,k2,k3⟩:=q4 j x hj
  exact ⟨u,k1,k2,relSV_trunc (hbl x (List.mem_of_getElem? hj)) k3⟩
 ·
  intro id al cs b h hat
  obtain ⟨h1,h2⟩:=hlk id _ h (by simp)
  have hbl:=hbel id _ h (by simp)
  simp only [Blk.below,List.all_eq_true] at hbl
  obtain ⟨cur,e,q2,q4⟩:=hr.arr id al cs b h2 (at_take' hat)
  refine ⟨cur,e,q2,fun j x hj => ?_⟩
  obtain ⟨u,k1,k2,k3⟩:=q4 j x hj
  exact ⟨u,k1,k2,relSV_trunc (hbl x (List.mem_of_getElem? hj)) k3⟩
 ·
  intro id k v es h
  obtain ⟨h1,h2⟩:=hlk id _ h (by simp)
  obtain ⟨b,ents,clock,q1,q2,q3⟩:=hr.map id k v es h2
  exact ⟨b,ents,clock,by rw [at_take h1]; exact q1,q2,q3.imp fun x m hm=>⟨hm.1,repV_evo he hm.2⟩⟩
end trunc
def envBelow (n:Nat):Env→Bool
 | []=>true
 | (_,x)::r=>x.v.below n&&envBelow n r
theorem envBelow_look {n:Nat}:∀ {e:Env} {s:Nat} {x:SL},envBelow n e=true→look e s=some x→x.v.below n=true
 | [],s,x,_,h=>by simp [look] at h
 | (k,y)::r,s,x,hb,h=>by
  simp only [envBelow,Bool.and_eq_true] at hb
  simp only [look] at h
  split at h
  ·
   injection h with h; subst h; exact hb.1
  ·
   exact envBelow_look hb.2 h
theorem TurnT.trunc (hX:XOk P X) {n:Nat} {e e':Env} {hp junk:List Blk} (hn:n≤hp.length) (hb:hp.all (fun b=>b.below hp.length)=true) (he:envLe e' e) (heb:envBelow hp.length e'=true):TurnT P g X N n ⟨e,hp++junk⟩ ⟨e',hp⟩:=by
 intro n0 w M0 bs a hr
 have hr1:=hr.hr.trunc hb
 have hev:Evo (Mof M0 bs) (Mof M0 (bs.take hp.length)) w w:=Evo.more w fun b _=>Mof_take
 have htr:∀ l ys i st,Blk.look hp 0=.trace l ys i st→Blk.look (hp++junk) 0=.trace l ys i st:=fun l ys i st ht=>by
  rw [look_app (look_lt (by rw [ht]; simp))]; exact ht
 have hx:XR X w M0 (bs.take hp.length) hp:=fun l ys i st ht =>
  hX.stable (hr.xr l ys i st (htr l ys i st ht)) rfl rfl rfl (Nat.le_refl _) (Nat.le_refl _) (fun _ _ _=>rfl) (fun b _ hn ⟨j,hj⟩=>hn ⟨j,at_take' hj⟩) (fun b ⟨j,hj⟩=>hr1.lt j b hj)
 refine ⟨bs.take hp.length,⟨hr1,hx,fun s x hs => ?_,hr.size,hr.df.evo hev⟩,fun w0 M00 bs0 hp0 hl hnx=>⟨hr1,hx,?_,hnx.eq⟩⟩
 ·
  have h1:=hr.env s x (look_envLe he s x hs)
  exact ⟨fun ho=>relRV_trunc (envBelow_look heb hs) (h1.1 ho),h1.2⟩
 ·
  have hst:=hnx.st
  change Step g.y w0 (Mof M00 bs0) bs0 hp0 w (Mof M0 (bs.take hp.length)) (bs.take hp.length) hp
  refine ⟨hst.evo.trans hev,by omega,?_,?_,?_,fun hv => ?_⟩
  ·
   intro id cs h1 h2
   rw [at_take (by omega)]
   exact hst.box id cs h1 (by rw [look_app (by omega)]; exact h2)
  ·
   intro id b k u es h1 h2
   have hlt:id<hp0.length:=look_lt (by rw [h2]; simp)
   obtain ⟨k1,es',k2⟩:=hst.map id b k u es h1 h2
   exact ⟨by rw [at_take (by omega)]; exact k1,es',by rw [← look_app (junk:=junk) (by omega)]; exact k2⟩
  ·
   intro id al cs hid h
   rw [at_take (by omega)]
   exact hst.own id al cs hid (by rw [look_app (by omega)]; exact h)
  ·
   have ho:=hst.only hv
   exact ⟨ho.old,fun b hb hn j hj=>ho.new b hb hn j (at_take' hj),fun j l ys i st ht=>ho.tr j l ys i st (by rw [look_app (look_lt (by rw [ht]; simp))]; exact ht)⟩
theorem Wp.cut (hg:g.good P) (hX:XOk P X) (hm:P.follows .mixedOrders=true) {c:Code} (hok:codeOk' L g.ye N c=true) {s s':St} {K:Exit→St→Prop} (hs:Turn P g X N s s') (h:vc P g X N L c s' K):Wp P g X N c s K :=
 Wp.turn hs (vc_sound hg hX hm c hok s' K h)
theorem Wp.loop (hg:g.good P) (hX:XOk P X) (hm:P.follows .mixedOrders=true) {c:Code} (hok:codeOk' L g.ye N c=true) {s:St} {K:Exit→St→Prop} {ι:Type} (S:ι→St) (R:ι→Prop) (μ:ι→Nat) (i0:ι) (h0:R i0) (hs:Turn P g X N s (S i0))
  (h:∀ i,R i→vc P g X N L c (S i) (thenK (fun s'=>∃ j,R j∧μ j<μ i∧TurnT P g X N s.hp.length s' (S j)) K)):Wp P g X N (.loop c) s K:=by
 intro n r n0 M0 bs a w hT hr
 have key:∀ (m:Nat) (a:Act) (w':World) (i:ι) (M0':Nat→Prop) (bs':Bs),True:=fun _ _ _ _ _ _=>trivial
 obtain ⟨bs0,hr0,hn0⟩:=hs n0 w M0 bs a hr
 refine wpIn_loop (fun a' w'=>∃ i M0' bs',R i∧Rel P X N n0 w' M0' bs' a' (S i)∧Nx P g X w M0 bs s.hp w' M0' bs' (S i).hp)
  (fun a' w'=>sInf' (fun m=>∃ i M0' bs',μ i=m∧R i∧Rel P X N n0 w' M0' bs' a' (S i)∧Nx P g X w M0 bs s.hp w' M0' bs' (S i).hp)) ⟨i0,M0,bs0,h0,hr0,hn0⟩ ?_
 intro a1 w1 hI
 obtain ⟨i,M1,bs1,hmu,hRi,hr1,hn1⟩:=sInf'_mem (fun m=>∃ i M0' bs',μ i=m∧R i∧Rel P X N n0 w1 M0' bs' a1 (S i)∧Nx P g X w M0 bs s.hp w1 M0' bs' (S i).hp) (let ⟨i,M0',bs',x⟩:=hI; ⟨μ i,i,M0',bs',rfl,x⟩)
 refine wpIn_mono (vc_sound (L:=L) hg hX hm c hok (S i) _ (h i hRi) n r n0 M1 bs1 a1 w1 hT hr1) ?_
 rintro e a2 w2 ⟨s',M2,bs2,k,hr2,hn2⟩
 have hK:e≠.normal→Post P g X N n0 K w M0 bs s.hp e a2 w2:=fun he=>⟨s',M2,bs2,by cases e <;> first | exact absurd rfl he | exact k,hr2,hn1.trans hn2⟩
 cases e with
 | normal =>
  obtain ⟨j,hRj,hlt,ht⟩:=k
  obtain ⟨bs3,hr3,hn3⟩:=ht n0 w2 M2 bs2 a2 hr2
  have hnx:=hn3 w M0 bs s.hp (Nat.le_refl _) (hn1.trans hn2)
  have hj:∃ i M0' bs',μ i=μ j∧R i∧Rel P X N n0 w2 M0' bs' a2 (S i)∧Nx P g X w M0 bs s.hp w2 M0' bs' (S i).hp:=⟨j,M2,bs3,rfl,hRj,hr3,hnx⟩
  refine ⟨⟨j,M2,bs3,hRj,hr3,hnx⟩,?_⟩
  have:=sInf'_le (fun m=>∃ i M0' bs',μ i=m∧R i∧Rel P X N n0 w2 M0' bs' a2 (S i)∧Nx P g X w M0 bs s.hp w2 M0' bs' (S i).hp) hj
  omega
 | _=>exact hK (by simp)
end
def frzSV (hp:List Blk):SV→Option SV
 | .sl t xs _=>some (.sl t xs false)
 | .own t id n=>match Blk.look hp id with
  | .arr _ cs=>if cs.length=n*t.size then (t.parses n cs).map fun xs=>.sl t xs false else none
  | _=>none
 | .fn f []=>some (.fn f [])
 | .fn f ids=>(boxCaps hp ids).map fun caps=>.fnp f caps
 | .box _ _=>none
 | .eown _ _ _ _=>none
 | .suf _ _ _ _=>none
 | .pre t id n m=>match Blk.look hp id with
  | .arr _ cs=>if cs.length=n*t.size∧m≤n then (t.parses n cs).map fun xs=>.sl t (xs.take m) false else none
  | _=>none
 | .mp _=>none
 | .ib _ _=>none
 | .part _ _ _ _ _=>none
 | .bbx _ _ _=>none
 | x=>some x
def frzL (hp:List Blk):List SV→Option (List SV)
 | []=>some []
 | x::r=>match frzSV hp x,frzL hp r with
  | some y,some s=>some (y::s)
  | _,_=>none
def frzAV (hp:List Blk):AV→Option AV
 | .s x=>(frzSV hp x).map .s
 | .agg cs=>(frzL hp cs).map .agg
def frzAs (hp:List Blk):List AV→Option (List AV)
 | []=>some []
 | x::r=>match frzAV hp x,frzAs hp r with
  | some y,some s=>some (y::s)
  | _,_=>none
def resEv (g:G) (e:Env) (hp:List Blk):ResultVar→Prop×AV
 | .tmp t=>((getE e t).ok=true,(getE e t).v.av)
 | .cell a t=>((getE e a).ok=true∧(loadEv g hp t (getE e a).v.av).1,(loadEv g hp t (getE e a).v.av).2.av)
def resOk (g:G) (e:Env) (hp:List Blk):List ResultVar→Prop
 | []=>True
 | x::r=>(resEv g e hp x).1∧resOk g e hp r
def resVs (g:G) (e:Env) (hp:List Blk) (l:List ResultVar):List AV:=l.map fun x=>(resEv g e hp x).2
def oneRV:List AV→RV
 | [x]=>.v x
 | l=>.tup l
def retOk (g:G) (fn:Func) (s:St) (rv:RV):Prop:=resOk g s.e s.hp fn.results.toList∧∃ vs,frzAs s.hp (resVs g s.e s.hp fn.results.toList)=some vs∧oneRV vs=rv
def argEnv:Nat→List AV→Env
 | _,[]=>[]
 | i,x::r=>(i,⟨true,.v x⟩)::argEnv (i+1) r
section
variable {P:Program} {g:G} {X:XT} {N:Nat} {L:Cfg} {w:World} {M0:Nat→Prop} {bs:Bs} {hp:List Blk}
theorem Evo.to_m0 (hr:HR w M0 bs hp):Evo (Mof M0 bs) M0 w w:=Evo.more w fun b _ h=>.inl h
theorem own_row (hr:HR w M0 bs hp) {t:Ty} {id n b cap:Nat} {al:Bool} {cs:List SV} {xs:List t.T} (hl:Blk.look hp id=.arr al cs) (k1:bs.at id=some b) (k3:n≤cap) (k4:OwnAt w b cap t.size)
  (hlen:cs.length=n*t.size) (hp':t.parses n cs=some xs):xs.length=n∧cap≤maxLen∧RowAt w M0 (fun x cs=>rep w M0 t x cs) t.size (some ⟨b,0,none⟩) xs:=by
 have he:=Evo.to_m0 hr
 obtain ⟨cur,e,q1,q2⟩:=hr.arr id al cs b hl k1
 obtain ⟨cur',e',q3,q4,q5⟩:=k4
 rw [q1] at q3
 injection q3 with q3; injection q3 with q3 _ _
 subst q3
 have hus:∃ us:List Value,All2 (relSV w (Mof M0 bs) bs hp) cs us∧∀ (j:Nat) (v:Value),us[j]?=some v→cur[j]?=some v:=by
  refine ⟨cur.toList.take cs.length,All2.of_get ?_ (fun i x u hx hu => ?_),fun j v hj => ?_⟩
  ·
   have h1:cur.toList.length=cap*t.size:=by rw [Array.length_toList]; exact q4
   have:=Nat.mul_le_mul_right t.size k3
   rw [List.length_take,h1]
   omega
  ·
   obtain ⟨u',r1,r2,r3⟩:=q2 i x hx
   have hi:=(List.getElem?_eq_some_iff.1 hx).1
   rw [List.getElem?_take_of_lt hi,Array.getElem?_toList,r1] at hu
   cases hu; exact r3
  ·
   have hj':j<cs.length:=by
    have:=(List.getElem?_eq_some_iff.1 hj).1
    rw [List.length_take] at this
    omega
   rw [List.getElem?_take_of_lt hj',Array.getElem?_toList] at hj
   exact hj
 obtain ⟨us,r1,r2⟩:=hus
 obtain ⟨s1,s2⟩:=parses_rows t n cs xs us hp' r1
 refine ⟨s1,q5,.inr ⟨b,0,rfl,hr.out id b k1,hr.lt id b k1,fun i x hx => ?_⟩⟩
 obtain ⟨cs',t1,t2,t3⟩:=s2 i x hx
 refine ⟨cs',t1,rep_evo he _ _ _ t2,fun j v hj => ?_⟩
 have:=r2 _ _ (t3 j v hj)
 simp only [World.cell?,q1,Nat.zero_add]
 exact this
theorem frzSV_sound (hr:HR w M0 bs hp) {x y:SV} {v:Value} (h:relSV w (Mof M0 bs) bs hp x v) (hf:frzSV hp x=some y):relSV w M0 [] [] y v:=by
 have he:=Evo.to_m0 hr
 cases x with
 | any=>simp [frzSV] at hf; subst hf; trivial
 | bool b=>simp [frzSV] at hf; subst hf; exact h
 | int k n=>simp [frzSV] at hf; subst hf; exact h
 | str s=>simp [frzSV] at hf; subst hf; exact h
 | val u=>simp [frzSV] at hf; subst hf; exact h
 | sl t xs ex =>
  simp [frzSV] at hf; subst hf
  obtain ⟨a,c,h1,h2,h3,h4,h5⟩:=h
  exact ⟨a,c,h1,h2,h3,by simp,h5.evo he⟩
 | eptr t x =>
  simp [frzSV] at hf; subst hf
  obtain ⟨b,off,cs,h1,h2,h3,h4,h5⟩:=h
  exact ⟨b,off,cs,h1,fun h=>h2 (.inl h),h3,rep_evo he _ _ _ h4,h5⟩
 | box id off=>simp [frzSV] at hf
 | eown t id n off=>simp [frzSV] at hf
 | suf t id n k=>simp [frzSV] at hf
 | part t id off n c=>simp [frzSV] at hf
 | bbx f id off=>simp [frzSV] at hf
 | pre t id n m =>
  simp only [frzSV] at hf
  cases hl:Blk.look hp id with
  | arr al cs =>
   simp only [hl] at hf
   split at hf
   ·
    rename_i hlen
    cases hp':t.parses n cs with
    | none=>simp [hp'] at hf
    | some xs =>
     simp [hp'] at hf
     subst hf
     obtain ⟨b,cap,k1,rfl,k3,k4⟩:=(h.2.2 al cs hl).2 hlen.1
     obtain ⟨q1,q2,q3⟩:=own_row hr hl k1 k3 k4 hlen.1 hp'
     have hm:(xs.take m).length=m:=by rw [List.length_take]; omega
     refine ⟨some ⟨b,0,none⟩,cap,by rw [hm],by omega,q2,by simp,?_⟩
     have:=RowAt_cut q3 0 m (some ⟨b,0,none⟩) (fun _=>by simp [addr_add]) (by omega) (by omega)
     simpa using this
   ·
    cases hf
  | _=>simp [hl] at hf
 | mp id=>simp [frzSV] at hf
 | ib p q=>simp [frzSV] at hf
 | fv x=>simp [frzSV] at hf; subst hf; exact RepD.evo he h
 | fnp f caps =>
  simp [frzSV] at hf; subst hf
  obtain ⟨ps,h1,h2⟩:=h
  exact ⟨ps,h1,h2.imp fun c p hp=>hp.evo he⟩
 | fn f ids =>
  cases ids with
  | nil =>
   simp [frzSV] at hf; subst hf
   obtain ⟨ps,h1,h2⟩:=h
   cases h2
   exact ⟨[],h1,.nil⟩
  | cons i ids =>
   simp only [frzSV] at hf
   cases hb:boxCaps hp (i::ids) with
   | none=>simp [hb] at hf
   | some caps =>
    simp [hb] at hf
    subst hf
    obtain ⟨ps,h1,h2⟩:=h
    have h2:=boxCaps_at hb h2
    refine ⟨_,h1,boxCaps_sound hr (fun b hb=>.inl hb) hb h2 fun b hb => ?_⟩
    have:∀ {l:List Nat} {m:List Nat},All2 (fun id b=>bs.at id=some b∧∃ cs,Blk.look hp id=.cells cs) l m→∀ b∈m,∃ id,bs.at id=some b:=by
     intro l m hlm
     induction hlm with
     | nil=>intro b hb; cases hb
     | cons r _ ih =>
      intro b hb
      cases hb with
      | head=>exact ⟨_,r.1⟩
      | tail _ hb=>exact ih b hb
    obtain ⟨id,hid⟩:=this h2 b hb
    exact hr.out id b hid
 | own t id n =>
  simp only [frzSV] at hf
  cases hl:Blk.look hp id with
  | arr al cs =>
   simp only [hl] at hf
   split at hf
   ·
    rename_i hlen
    cases hp':t.parses n cs with
    | none=>simp [hp'] at hf
    | some xs =>
     simp [hp'] at hf
     subst hf
     rcases (h.2 al cs hl).2 hlen with ⟨b,cap,k1,rfl,k3,k4⟩ | ⟨k1,ys,a,k2,k3,rfl,rfl,k6⟩
     ·
      obtain ⟨q1,q2,q3⟩:=own_row hr hl k1 k3 k4 hlen hp'
      exact ⟨some ⟨b,0,none⟩,cap,by rw [q1],by omega,q2,by simp,q3⟩
     ·
      subst k2
      rw [parses_flats] at hp'
      cases hp'
      exact ⟨a,xs.length,rfl,Nat.le_refl _,k3,by simp,k6.evo he⟩
   ·
    cases hf
  | _=>simp [hl] at hf
theorem frzL_sound (hr:HR w M0 bs hp):∀ {cs ds:List SV} {vs:List Value},All2 (fun x u=>relSV w (Mof M0 bs) bs hp x u∧u.oneCell'=true) cs vs→frzL hp cs=some ds→All2 (fun x u=>relSV w M0 [] [] x u∧u.oneCell'=true) ds vs
 | [],ds,_,.nil,hf=>by simp [frzL] at hf; subst hf; exact .nil
 | x::r,ds,_,.cons h1 h2,hf=>by
  simp only [frzL] at hf
  split at hf
  ·
   rename_i y s e1 e2
   injection hf with hf; subst hf
   exact .cons ⟨frzSV_sound hr h1.1 e1,h1.2⟩ (frzL_sound hr h2 e2)
  ·
   cases hf
theorem frzAV_sound (hr:HR w M0 bs hp) {x y:AV} {v:Value} (h:relAV w (Mof M0 bs) bs hp x v) (hf:frzAV hp x=some y):relAV w M0 [] [] y v:=by
 cases x with
 | s x =>
  simp only [frzAV] at hf
  cases hx:frzSV hp x with
  | none=>simp [hx] at hf
  | some z=>simp [hx] at hf; subst hf; exact frzSV_sound hr h hx
 | agg cs =>
  simp only [frzAV] at hf
  cases hx:frzL hp cs with
  | none=>simp [hx] at hf
  | some z=>simp [hx] at hf; subst hf; obtain ⟨vs,rfl,h⟩:=h; exact ⟨vs,rfl,frzL_sound hr h hx⟩
theorem frzAs_sound (hr:HR w M0 bs hp):∀ {xs ys:List AV} {vs:List Value},All2 (relAV w (Mof M0 bs) bs hp) xs vs→frzAs hp xs=some ys→All2 (relAV w M0 [] []) ys vs
 | [],ys,_,.nil,hf=>by simp [frzAs] at hf; subst hf; exact .nil
 | x::r,ys,_,.cons h1 h2,hf=>by
  simp only [frzAs] at hf
  split at hf
  ·
   rename_i y s e1 e2
   injection hf with hf; subst hf
   exact .cons (frzAV_sound hr h1 e1) (frzAs_sound hr h2 e2)
  ·
   cases hf
theorem RepD.cells {M:Nat→Prop} {w':World} (hc:∀ p v,w.cell? p=some v→w'.cell? p=some v) (hs:w.heap.size≤w'.heap.size) {t:Ty} {d:D t} {cs:List Value} (hr:RepD w M t d cs):RepD w' M t d cs:=by
 induction hr with
 | int k n=>exact .int _ _
 | bool b=>exact .bool _
 | str s=>exact .str _
 | slice t xs a c b off css h1 h2 h3 h4 h5 ih =>
  refine .slice t xs a c b off css h1 h2 (fun hn => ?_) (fun i x hx=>⟨(h4 i x hx).1,fun j v hj=>hc _ _ ((h4 i x hx).2 j v hj)⟩) ih
  obtain ⟨k1,k2,k3⟩:=h3 hn
  exact ⟨k1,k2,Nat.lt_of_lt_of_le k3 hs⟩
 | nil=>exact .nil
 | cons t r x y c1 c2 _ _ ih1 ih2=>exact .cons _ _ _ _ _ _ ih1 ih2
 | nofn=>exact .nofn
 | fn f caps ps css bo h1 h2 h3 ih =>
  refine .fn f caps ps css bo h1 (fun i p hp => ?_) ih
  obtain ⟨k1,k2,k3,k4⟩:=h2 i p hp
  exact ⟨k1,k2,Nat.lt_of_lt_of_le k3 hs,fun j v hj=>hc _ _ (k4 j v hj)⟩
 | bnd f t x cs _ ih=>exact .bnd f t x cs ih
 | node h x l c1 c2 _ _ ih1 ih2=>exact .node h x l c1 c2 ih1 ih2
theorem rep_cells {M:Nat→Prop} {w':World} (hc:∀ p v,w.cell? p=some v→w'.cell? p=some v) (hs:w.heap.size≤w'.heap.size):∀ (t:Ty) (x:t.T) (cs:List Value),rep w M t x cs→rep w' M t x cs
 | .int k,n,cs,hr=>by simpa only [rep] using hr
 | .bool,b,cs,hr=>by simpa only [rep] using hr
 | .str,s,cs,hr=>by simpa only [rep] using hr
 | .slice t,xs,cs,hr=>by
  simp only [rep] at hr ⊢
  obtain ⟨a,c,rfl,h1,h2,h3⟩:=hr
  refine ⟨a,c,rfl,h1,h2,?_⟩
  rcases h3 with h3 | ⟨b,off,ha,hm,hb,he⟩
  ·
   exact .inl h3
  ·
   refine .inr ⟨b,off,ha,hm,Nat.lt_of_lt_of_le hb hs,fun i x hi => ?_⟩
   obtain ⟨cs,hl,hx,hcs⟩:=he i x hi
   exact ⟨cs,hl,rep_cells hc hs t x cs hx,fun j v hj=>hc _ _ (hcs j v hj)⟩
 | .nil,_,cs,hr=>by simpa only [rep] using hr
 | .cons t r,x,cs,hr=>by
  simp only [rep] at hr ⊢
  obtain ⟨c1,c2,rfl,h1,h2⟩:=hr
  exact ⟨c1,c2,rfl,rep_cells hc hs t _ _ h1,rep_cells hc hs r _ _ h2⟩
 | .fn,x,cs,hr=>by
  simp only [rep] at hr ⊢
  exact hr.cells hc hs
 | .tree _,x,cs,hr=>by
  simp only [rep] at hr ⊢
  exact hr.cells hc hs
structure Same (w w':World) (bs:Bs):Prop where
 cells:∀ p v,w.cell? p=some v→w'.cell? p=some v
 size:w'.heap.size=w.heap.size
 own:∀ id b,bs.at id=some b→w'.heap[b]?=w.heap[b]?
theorem relSV_same {M:Nat→Prop} {w':World} (hs:Same w w' bs) {x:SV} {v:Value} (h:relSV w M bs hp x v):relSV w' M bs hp x v:=by
 have hc:=hs.cells
 have hsz:w.heap.size≤w'.heap.size:=by rw [hs.size]; exact Nat.le_refl _
 have hrow:∀ (t:Ty) (a:Option Addr) (xs:List t.T),RowAt w M (fun x cs=>rep w M t x cs) t.size a xs→RowAt w' M (fun x cs=>rep w' M t x cs) t.size a xs:=by
  intro t a xs h5
  rcases h5 with h5 | ⟨b,off,ha,hm,hb,he⟩
  ·
   exact .inl h5
  ·
   refine .inr ⟨b,off,ha,hm,Nat.lt_of_lt_of_le hb hsz,fun i x hi => ?_⟩
   obtain ⟨cs,hl,hx,hcs⟩:=he i x hi
   exact ⟨cs,hl,rep_cells hc hsz t x cs hx,fun j v hj=>hc _ _ (hcs j v hj)⟩
 have hown:∀ id b,bs.at id=some b→∀ cap size,OwnAt w b cap size→OwnAt w' b cap size:=by
  intro id b hb cap size ⟨cur,e,h1,h2⟩
  exact ⟨cur,e,by rw [hs.own id b hb]; exact h1,h2⟩
 cases x with
 | sl t xs ex =>
  obtain ⟨a,c,h1,h2,h3,h4,h5⟩:=h
  exact ⟨a,c,h1,h2,h3,h4,hrow _ _ _ h5⟩
 | eptr t x =>
  obtain ⟨b,off,cs,h1,h2,h3,h4,h5⟩:=h
  exact ⟨b,off,cs,h1,h2,Nat.lt_of_lt_of_le h3 hsz,rep_cells hc hsz _ _ _ h4,fun j v hj=>hc _ _ (h5 j v hj)⟩
 | fnp f caps =>
  obtain ⟨ps,h1,h2⟩:=h
  refine ⟨ps,h1,h2.imp fun c p hp => ?_⟩
  obtain ⟨b,off,cs,h1,h2,h3,h4,h5⟩:=hp
  exact ⟨b,off,cs,h1,h2,Nat.lt_of_lt_of_le h3 hsz,rep_cells hc hsz _ _ _ h4,fun j v hj=>hc _ _ (h5 j v hj)⟩
 | own t id n =>
  obtain ⟨h1,h2⟩:=h
  refine ⟨h1,fun al cs hl=>⟨(h2 al cs hl).1,fun hlen => ?_⟩⟩
  rcases (h2 al cs hl).2 hlen with ⟨b,cap,k1,k2,k3,k4⟩ | ⟨k1,xs,a,k2,k3,k4,k5,k6⟩
  ·
   exact .inl ⟨b,cap,k1,k2,k3,hown id b k1 _ _ k4⟩
  ·
   exact .inr ⟨k1,xs,a,k2,k3,k4,k5,hrow _ _ _ k6⟩
 | pre t id n m =>
  obtain ⟨h1,hm,h2⟩:=h
  refine ⟨h1,hm,fun al cs hl=>⟨(h2 al cs hl).1,fun hlen => ?_⟩⟩
  obtain ⟨b,cap,k1,k2,k3,k4⟩:=(h2 al cs hl).2 hlen
  exact ⟨b,cap,k1,k2,k3,hown id b k1 _ _ k4⟩
 | suf t id n k =>
  obtain ⟨h1,hm,h2⟩:=h
  refine ⟨h1,hm,fun al cs hl=>⟨(h2 al cs hl).1,fun hlen => ?_⟩⟩
  obtain ⟨b,cap,a,k1,k2,k5,k3,k4⟩:=(h2 al cs hl).2 hlen
  exact ⟨b,cap,a,k1,k2,k5,k3,hown id b k1 _ _ k4⟩
 | fv x=>exact RepD.cells hc hsz h
 | _=>exact h
theorem relAV_same {M:Nat→Prop} {w':World} (hs:Same w w' bs) {x:AV} {v:Value} (h:relAV w M bs hp x v):relAV w' M bs hp x v:=by
 cases x with
 | s x=>exact relSV_same hs h
 | agg cs=>obtain ⟨vs,rfl,h⟩:=h; exact ⟨vs,rfl,h.imp fun x u hu=>⟨relSV_same hs hu.1,hu.2⟩⟩
theorem relRV_same {M:Nat→Prop} {w':World} (hs:Same w w' bs) {x:RV} {v:Value} (h:relRV w M bs hp x v):relRV w' M bs hp x v:=by
 cases x with
 | v x=>exact relAV_same hs h
 | tup xs=>obtain ⟨vs,rfl,h⟩:=h; exact ⟨vs,rfl,h.imp fun x u hu=>relAV_same hs hu⟩
theorem HR.same {w':World} (hr:HR w M0 bs hp) (hs:Same w w' bs):HR w' M0 bs hp:=by
 refine ⟨hr.len,fun b hb=>by rw [hs.size]; exact hr.m0 b hb,fun id b h=>by rw [hs.size]; exact hr.lt id b h,hr.inj,hr.out,hr.al,?_,?_,?_,fun p hp'=>relSV_same (bs:=bs) (hp:=hp) hs (x:=.eptr p.2.1 p.2.2) (hr.gl p hp')⟩
 ·
  intro id cs hl
  obtain ⟨b,cur,e,h1,h2,h3,h4⟩:=hr.cells id cs hl
  refine ⟨b,cur,e,h1,by rw [hs.own id b h1]; exact h2,h3,fun j x hj => ?_⟩
  obtain ⟨u,k1,k2,k3⟩:=h4 j x hj
  exact ⟨u,k1,k2,relSV_same hs k3⟩
 ·
  intro id al cs b hl hb
  obtain ⟨cur,e,h2,h4⟩:=hr.arr id al cs b hl hb
  refine ⟨cur,e,by rw [hs.own id b hb]; exact h2,fun j x hj => ?_⟩
  obtain ⟨u,k1,k2,k3⟩:=h4 j x hj
  exact ⟨u,k1,k2,relSV_same hs k3⟩
 ·
  intro id k v es hl
  obtain ⟨b,ents,clock,h1,h2,h3⟩:=hr.map id k v es hl
  exact ⟨b,ents,clock,h1,by rw [hs.own id b h1]; exact h2,h3.imp fun x m hm=>⟨hm.1,by obtain ⟨cs,q1,q2⟩:=hm.2; exact ⟨cs,q1,rep_cells hs.cells (by rw [hs.size]; exact Nat.le_refl _) _ _ _ q2⟩⟩⟩
theorem relEnv_same {M:Nat→Prop} {w':World} {e:Env} {a:Act} (hs:Same w w' bs) (h:relEnv w M bs hp e a):relEnv w' M bs hp e a :=
 fun s x hx=>⟨fun ho=>relRV_same hs ((h s x hx).1 ho),(h s x hx).2⟩
theorem loadAt_asAddr {t:TypeId} {v u:Value} {w w':World} (h:(Instr.loadAt t v).run P w=.ok u w'):(do loadVar t (← asAddr v):Sem Value).run P w=.ok u w':=by
 cases v with
 | pointer p =>
  cases p with
  | none=>simp [Instr.loadAt,Instr.sureAddr,stuck,Sem.run_bind] at h
  | some a=>simpa [Instr.loadAt,Instr.sureAddr,asAddr] using h
 | _=>simp [Instr.loadAt,Instr.sureAddr,stuck,Sem.run_bind] at h
theorem results_run (hg:g.ok P) (hr:HR w M0 bs hp) {e:Env} {a:Act} (he:relEnv w (Mof M0 bs) bs hp e a) (fn:Func) (hok:resOk g e hp fn.results.toList) (tm:Array Value) (htm:tm=a.tmps) :
  ∃ vs:List Value,(results fn tm).run P w=.ok (if h:vs.toArray.size=1 then vs.toArray[0] else .tuple vs.toArray) w∧All2 (relAV w (Mof M0 bs) bs hp) (resVs g e hp fn.results.toList) vs:=by
 subst htm
 have key:∀ (f:ResultVar→Sem Value) (hf1:∀ t,f (.tmp t)=pure (a.tmps.getD t undef)) (hf2:∀ c t,f (.cell c t)=(do loadVar t (← asAddr (a.tmps.getD c undef)))) (l:List ResultVar),resOk g e hp l →
   ∃ vs:List Value,(l.mapM f).run P w=.ok vs w∧All2 (relAV w (Mof M0 bs) bs hp) (resVs g e hp l) vs:=by
  intro f hf1 hf2 l
  induction l with
  | nil=>intro _; exact ⟨[],rfl,.nil⟩
  | cons x r ih =>
   intro h
   obtain ⟨h1,h2⟩:=h
   obtain ⟨vs,k1,k2⟩:=ih h2
   have hx:∃ v,(f x).run P w=.ok v w∧relAV w (Mof M0 bs) bs hp (resEv g e hp x).2 v:=by
    cases x with
    | tmp t=>rw [hf1]; exact ⟨_,rfl,relRV_av ((getE_rel he t).1 h1)⟩
    | cell c t =>
     rw [hf2]
     obtain ⟨q1,q2⟩:=h1
     obtain ⟨u,q3,q4⟩:=loadEv_sound hg hr t _ _ (relRV_av ((getE_rel he c).1 q1)) q2
     exact ⟨u,loadAt_asAddr q3,relRV_av q4⟩
   obtain ⟨v,hv1,hv2⟩:=hx
   refine ⟨v::vs,?_,.cons hv2 k2⟩
   rw [List.mapM_cons,Sem.run_bind,hv1]
   simp only [Result.andThen_ok]
   rw [Sem.run_bind,k1]
   rfl
 have fin:∀ (f:ResultVar→Sem Value) (hf1:∀ t,f (.tmp t)=pure (a.tmps.getD t undef)) (hf2:∀ c t,f (.cell c t)=(do loadVar t (← asAddr (a.tmps.getD c undef)))),
   ∃ vs:List Value,((List.mapM f fn.results.toList).run P w).andThen (fun a w'=>(Sem.run P (pure a.toArray) w').andThen fun a w'=>Sem.run P (pure (if h:a.size=1 then a[0] else .tuple a)) w') =
    .ok (if h:vs.toArray.size=1 then vs.toArray[0] else .tuple vs.toArray) w∧All2 (relAV w (Mof M0 bs) bs hp) (resVs g e hp fn.results.toList) vs:=by
  intro f hf1 hf2
  obtain ⟨vs,k1,k2⟩:=key f hf1 hf2 _ hok
  refine ⟨vs,?_,k2⟩
  rw [k1]
  simp [Result.andThen_ok]
 unfold results
 rw [Array.mapM_eq_mapM_toList]
 simp only [Sem.run_bind,bind_assoc,map_eq_pure_bind]
 exact fin _ (fun _=>rfl) (fun _ _=>rfl)
theorem oneRV_rel {w:World} {M:Nat→Prop} {xs:List AV} {vs:List Value} (h:All2 (relAV w M bs hp) xs vs):relRV w M bs hp (oneRV xs) (if h:vs.toArray.size=1 then vs.toArray[0] else .tuple vs.toArray):=by
 cases h with
 | nil=>exact ⟨[],rfl,.nil⟩
 | cons r h =>
  cases h with
  | nil=>exact r
  | cons r2 h=>exact ⟨_,by simp,.cons r (.cons r2 h)⟩
inductive TreeLen (h:Ty) (P:h.T→Prop):D (.tree h)→Prop where
 | node (x:D h) (l:DL (.tree h)):P (ofD h x)→l.to.length≤maxLen→(∀ k∈l.to,TreeLen h P k)→TreeLen h P (.node h x l)
def Ty.lenOk:(t:Ty)→t.T→Prop
 | .slice t,xs=>xs.length≤maxLen∧∀ x∈xs,t.lenOk x
 | .cons t r,x=>t.lenOk x.1∧r.lenOk x.2
 | .int _,_=>True
 | .bool,_=>True
 | .str,_=>True
 | .nil,_=>True
 | .fn,_=>True
 | .tree h,x=>TreeLen h h.lenOk x
def SV.lenOk:SV→Prop
 | .sl t xs _=>(Ty.slice t).lenOk xs
 | .eptr t x=>t.lenOk x
 | _=>True
def AV.lenOk:AV→Prop
 | .s x=>x.lenOk
 | .agg cs=>∀ x∈cs,x.lenOk
def allLen:List AV→Prop
 | []=>True
 | x::r=>x.lenOk∧allLen r
def lenS:=And.intro @allLen.eq_1 (And.intro @allLen.eq_2 (And.intro @AV.lenOk.eq_1 (And.intro @AV.lenOk.eq_2 (And.intro @SV.lenOk.eq_1 (And.intro @SV.lenOk.eq_2 (And.intro @SV.lenOk.eq_3 (And.intro @Ty.lenOk.eq_1 (And.intro @Ty.lenOk.eq_2 (And.intro @Ty.lenOk.eq_3 (And.intro @Ty.lenOk.eq_4 (And.intro @Ty.lenOk.eq_5 (And.intro @Ty.lenOk.eq_6 (And.intro @Ty.lenOk.eq_7 (And.intro @Ty.lenOk.eq_8 (And.intro @maxLen.eq_1 (And.intro @and_true (And.intro @implies_true.{1} (And.intro @implies_true.{0} (And.intro @true_and (And.intro @List.forall_mem_cons.{0} (And.intro @List.not_mem_nil.{0} @false_implies)))))))))))))))))))))
theorem RepD.lenOk {w:World} {M:Nat→Prop} {t:Ty} {d:D t} {cs:List Value} (hr:RepD w M t d cs):t.lenOk (ofD t d):=by
 induction hr with
 | int k n=>trivial
 | bool b=>trivial
 | str s=>trivial
 | slice t xs a c b off css h1 h2 h3 h4 h5 ih =>
  refine ⟨by simp only [ofD,D.l,List.length_map]; omega,fun x hx => ?_⟩
  simp only [ofD,D.l] at hx
  obtain ⟨y,hy,rfl⟩:=List.mem_map.1 hx
  obtain ⟨i,hi,rfl⟩:=List.getElem_of_mem hy
  exact ih i _ (List.getElem?_eq_getElem hi)
 | nil=>trivial
 | cons t r x y c1 c2 _ _ ih1 ih2=>exact ⟨ih1,ih2⟩
 | nofn=>trivial
 | fn f caps ps css bo h1 h2 h3 ih=>trivial
 | bnd f t x cs _ ih=>trivial
 | node h x l c1 c2 _ _ ih1 ih2 =>
  have e:ofD (.slice (.tree h)) (.slice (.tree h) l)=l.to:=map_ofD_tree h l.to
  rw [e] at ih2
  exact .node x l ih1 ih2.1 ih2.2
theorem rep_lenOk {w:World} {M:Nat→Prop}:∀ (t:Ty) (x:t.T) (cs:List Value),rep w M t x cs→t.lenOk x
 | .int k,n,cs,h=>trivial
 | .bool,b,cs,h=>trivial
 | .str,s,cs,h=>trivial
 | .slice t,xs,cs,h=>by
  simp only [rep] at h
  obtain ⟨a,c,rfl,h1,h2,h3⟩:=h
  refine ⟨Nat.le_trans h1 h2,fun x hx => ?_⟩
  rcases h3 with rfl | ⟨b,off,ha,hm,hb,he⟩
  ·
   cases hx
  ·
   obtain ⟨i,hi,rfl⟩:=List.getElem_of_mem hx
   obtain ⟨cs,_,k,_⟩:=he i _ (List.getElem?_eq_getElem hi)
   exact rep_lenOk t _ _ k
 | .nil,_,cs,h=>trivial
 | .cons t r,x,cs,h=>by
  simp only [rep] at h
  obtain ⟨c1,c2,rfl,h1,h2⟩:=h
  exact ⟨rep_lenOk t _ _ h1,rep_lenOk r _ _ h2⟩
 | .fn,_,cs,h=>trivial
 | .tree t,x,cs,h=>by
  simp only [rep] at h
  exact h.lenOk
theorem relSV_lenOk {w:World} {M:Nat→Prop} {bs:Bs} {hp:List Blk} {x:SV} {v:Value} (h:relSV w M bs hp x v):x.lenOk:=by
 cases x with
 | sl t xs ex =>
  obtain ⟨a,c,h1,h2,h3,h4,h5⟩:=h
  exact rep_lenOk (w:=w) (M:=M) (.slice t) xs [.slice a xs.length c] (by simp only [rep]; exact ⟨a,c,rfl,h2,h3,h5⟩)
 | eptr t x=>obtain ⟨b,off,cs,h1,h2,h3,h4,h5⟩:=h; exact rep_lenOk _ _ _ h4
 | _=>trivial
theorem relAV_lenOk {w:World} {M:Nat→Prop} {bs:Bs} {hp:List Blk} {x:AV} {v:Value} (h:relAV w M bs hp x v):x.lenOk:=by
 cases x with
 | s x=>exact relSV_lenOk h
 | agg cs =>
  obtain ⟨vs,rfl,h⟩:=h
  intro x hx
  obtain ⟨i,hi,rfl⟩:=List.getElem_of_mem hx
  obtain ⟨u,_,k,_⟩:=h.get i _ (List.getElem?_eq_getElem hi)
  exact relSV_lenOk k
theorem allLen_rel {w:World} {M:Nat→Prop} {bs:Bs} {hp:List Blk} {xs:List AV} {vs:List Value} (h:All2 (relAV w M bs hp) xs vs):allLen xs:=by
 induction h with
 | nil=>trivial
 | cons r _ ih=>exact ⟨relAV_lenOk r,ih⟩
theorem argEnv_rel {w:World} {M:Nat→Prop} {bs:Bs} {hp:List Blk}:∀ {xs:List AV} {vs:List Value} (i:Nat) (a:Act),All2 (relAV w M bs hp) xs vs→(∀ (j:Nat) (v:Value),vs[j]?=some v→a.tmps.getD (i+j) undef=v)→relEnv w M bs hp (argEnv i xs) a
 | [],_,i,a,.nil,h=>fun s x hs=>by simp [argEnv,look] at hs
 | x::xs,_,i,a,.cons r hr,h=>fun s y hs=>by
  simp only [argEnv,look] at hs
  split at hs
  ·
   rename_i e; subst e
   injection hs with hs; subst hs
   have:=h 0 _ rfl
   simp only [Nat.add_zero] at this
   rw [this]
   exact ⟨fun _=>r,by simp⟩
  ·
   exact argEnv_rel (i+1) a hr (fun j v hj=>by rw [← h (j+1) v (by simpa using hj)]; congr 1; omega) s y hs
def X0:XT:=fun _ _ _ _ _ _ _=>False
theorem X0_ok:XOk P X0:=⟨fun h=>h.elim,fun h=>h.elim⟩
theorem shut_marks {fn:Func} {tmps:Array Value} {r:Option Nat} {n:Nat}:∀ (Ds:List Nat) (w:World) (R:Ending→World→Prop),Ds.Nodup→(∀ D∈Ds,w.heap[D]?=some (.deferred (some []))) →
  (∀ w',w'.heap.size=w.heap.size→w'.os=w.os→w'.tape=w.tape→w'.output=w.output→w'.drawn=w.drawn→(∀ b,b∉Ds→w'.heap[b]?=w.heap[b]?)→∃ v,(results fn tmps).run P w'=.ok v w'∧R (.returned v) w') →
  LeavesInM (FW r) n P fn tmps R (Ds.map markOf) .returning w
 | [],w,R,_,_,h=>by
  obtain ⟨v,h1,h2⟩:=h w rfl rfl rfl rfl rfl (fun _ _=>rfl)
  exact ⟨v,h1,h2⟩
 | D::Ds,w,R,hnd,hd,h=>by
  refine ⟨by simp,.inl ⟨D,w.putObj D (.deferred none),rfl,run_takeDeferred (hd D (by simp)),?_⟩⟩
  refine shut_marks Ds _ R (List.nodup_cons.1 hnd).2 (fun E hE => ?_) (fun w' h1 h2 h3 h4 hdr h5 => ?_)
  ·
   have hne:E≠D:=fun e=>(List.nodup_cons.1 hnd).1 (e▸hE)
   rw [World.putObj_heap_other hne]
   exact hd E (by simp [hE])
  ·
   refine h w' (by rw [h1]; simp) h2 h3 h4 hdr (fun b hb => ?_)
   simp only [List.mem_cons,not_or] at hb
   rw [h5 b hb.2,World.putObj_heap_other hb.1]
theorem hr_empty {w:World} {M0:Nat→Prop} (hM0:MOk w M0):HR w M0 [] []:=by
 have hm:∀ b,Mof M0 [] b→M0 b:=fun b h=>by
  rcases h with h | ⟨id,h⟩
  ·
   exact h
  ·
   simp [Bs.at] at h
 refine ⟨rfl,hM0.lt,?_,?_,?_,?_,?_,?_,?_,hM0.gl.evo (Evo.more w fun b _=>hm b)⟩
 all_goals (intros; simp_all [Bs.at,Blk.look])
theorem pureOk_of (hg:g.good P) (hy:g.y=false) (hm:P.follows .mixedOrders=true) {f:FuncId} {fn:Func} {c:Code} (hf:P.funcs[f]?=some fn) (hb:fn.body=some c) (con:Con) (k:Nat) (hk:k≤fn.ntmps)
  (hok:codeOk' L g.ye fn.ntmps c=true)
  (h:∀ args,con.pre args→allLen args→args.length=k∧vc P g X0 fn.ntmps L c ⟨argEnv 0 args,[]⟩ (fun e s=>(e=.normal∨e=.ret)∧retOk g fn s (con.val args))):PureOk P f con:=by
 intro w M0 args vs hpre hM0 hargs
 obtain ⟨hlen,hvc⟩:=h args hpre (allLen_rel hargs)
 have hwp:=vc_sound (X:=X0) (L:=L) hg X0_ok hm c hok _ _ hvc
 refine (callsIn_wide (n:=0)).1 ?_
 have hF:(FW none)=Fence.wide:=rfl
 rw [← hF]
 have hr0:HR w M0 [] []:=by
  exact hr_empty hM0
 have hN:(vs.toArray++Array.replicate (fn.ntmps - vs.toArray.size) undef).size=fn.ntmps:=by
  have:=hargs.length
  simp; omega
 refine callsIn_of_wp_marks (n:=0) hf hb trivial (wpIn_mono (hwp 0 none (some (w.heap.size,[])) M0 [] { tmps:=vs.toArray++Array.replicate (fn.ntmps - vs.toArray.size) undef,defers:=[] } w ⟨fun _=>rfl,by simp [hy]⟩ ⟨hr0,?_,?_,hN,⟨Nat.le_refl _,[],rfl,.nil,by simp⟩⟩) ?_)
 ·
  intro l xs i st ht; simp [Blk.look] at ht
 ·
  refine argEnv_rel 0 _ (hargs.imp fun x v h=>relAV_weaken (fun b hb=>hb.elim id fun ⟨id,h⟩=>by simp [Bs.at] at h) h) (fun j v hj => ?_)
  have hj2:=(List.getElem?_eq_some_iff.1 hj).1
  simp only [Array.getD_eq_getD_getElem?,Nat.zero_add]
  rw [Array.getElem?_append_left (by simpa using hj2)]
  simp [hj]
 ·
  rintro e a' w' ⟨s',M0',bs',⟨hke,hk1,vs',hk2,hk3⟩,hr',hn⟩
  obtain rfl:M0'=M0:=hn.eq hy
  obtain ⟨_,Ds,hdf,hnd,hD⟩:=hr'.df
  have hst:Step false w (Mof M0' []) [] [] w' (Mof M0' bs') bs' s'.hp:=by have:=hn.st; rwa [hy] at this
  have hold:=hst.only rfl
  have:LeavesInM (FW none) 0 P fn a'.tmps (fun e w'=>∃ v,e=.returned v∧relRV w' M0' [] [] (con.val args) v∧Below w.heap.size w w'∧w.drawn≤w'.drawn) a'.defers .returning w':=by
   rw [hdf,List.append_nil]
   refine shut_marks Ds w' _ hnd (fun D h=>(hD D h).2.2.2) fun w'' h1 h2 h3 h4 hdr h5 => ?_
   have hsame:Same w' w'' bs':=by
    refine ⟨fun p u hp => ?_,h1,fun id b hb=>h5 b fun hm=>(hD b hm).2.2.1 (.inr ⟨id,hb⟩)⟩
    have hne:p.block∉Ds:=fun hm=>by
     have:=(hD _ hm).2.2.2
     simp [World.cell?,this] at hp
    rw [← hp]
    exact World.cell?_of_block (h5 _ hne)
   obtain ⟨us,q1,q2⟩:=results_run hg.1 (hr'.hr.same hsame) (relEnv_same hsame hr'.env) fn hk1 _ rfl
   have q3:=frzAs_sound (hr'.hr.same hsame) q2 hk2
   refine ⟨_,q1,_,rfl,?_,?_⟩
   ·
    rw [← hk3]; exact oneRV_rel q3
   ·
    have e1:=hst.evo
    refine ⟨⟨h2.trans e1.os,h3.trans e1.tape,h4.trans e1.output,by rw [h1]; exact e1.size,fun b hb=>by
     rw [h5 b (fun hm=>by have:=(hD b hm).1; omega)]
     exact hold.old b hb (by simp [Bs.at])⟩,by rw [hdr]; exact e1.drawn⟩
  rcases hke with rfl | rfl <;> exact this
end
end Go.Am
