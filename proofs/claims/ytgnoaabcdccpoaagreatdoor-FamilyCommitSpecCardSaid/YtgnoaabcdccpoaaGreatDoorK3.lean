/- Part 3 of the proof's base. -/
import Derived.Test.YtgnoaabcdccpoaaGreatDoorK2
set_option linter.all false
noncomputable section
namespace Go.Am
open Go.RowKit
section
variable {P:Program} {g:G} {w:World} {M0:Nat→Prop} {bs:Bs} {hp:List Blk}
def Did (w:World) (M0:Nat→Prop) (bs:Bs) (hp:List Blk) (res:Result Next) (rv:RV) (hp':List Blk):Prop :=
 ∃ z w' bs',(res=.ok (.value z) w'∨(res=.ok .skip w'∧z=undef))∧relRV w' (Mof M0 bs') bs' hp' rv z∧HR w' M0 bs' hp'∧Step false w (Mof M0 bs) bs hp w' (Mof M0 bs') bs' hp'
def PDid (w:World) (M0:Nat→Prop) (bs:Bs) (hp:List Blk) (res:Result Next) (rv:RV):Prop :=
 ∃ z w',res=.ok (.value z) w'∧relRV w' (Mof M0 bs) bs hp rv z∧HR w' M0 bs hp∧Step false w (Mof M0 bs) bs hp w' (Mof M0 bs) bs hp
theorem run_zero {t:TypeId} {n:Nat} {z:Value} (h:(P.info? t).map (fun i=>(i.size,i.zero))=some (n,some z)):(zeroValue t).run P w=.ok z w:=by
 cases hi:P.info? t with
 | none=>simp [hi] at h
 | some i=>simp [hi] at h; simp [zeroValue,typeInfo,hi,go_sem,h.2]
theorem cellsV_cells {l:List Value} (h:l.length=1) (h1:∀ v∈l,v.oneCell'=true):(cellsV l).cells.toList=l:=by
 match l,h with
 | [v],_ =>
  have:=h1 v (by simp)
  cases v <;> first | rfl | simp [Value.oneCell'] at this
theorem push_box (hr:HR w M0 bs hp) (t:TypeId) (cells:Array Value) (cs:List SV) (h:All2 (fun x u=>relSV w (Mof M0 bs) bs hp x u∧u.oneCell'=true) cs cells.toList) :
  Did w M0 bs hp (.ok (.value (.pointer (some ⟨w.heap.size,0,none⟩))) (w.alloc (.cells cells t))) (.v (.s (.box hp.length 0))) (hp++[.cells cs]):=by
 obtain ⟨h1,h2⟩:=hr.push (.cells cells t) (.cells cs) ⟨cells,t,rfl,by have:=h.length; simpa using this,fun j x hj=>by
  obtain ⟨u,k1,k2⟩:=h.get j x hj
  exact ⟨u,by simpa using k1,k2.2,k2.1⟩⟩
 exact ⟨_,_,_,.inl rfl,⟨by simp,fun _ _=>⟨w.heap.size,by rw [at_push,if_pos (by have:=hr.len; omega)],rfl⟩⟩,h1,h2⟩
theorem allocEv_sound (hg:g.ok P) (hr:HR w M0 bs hp) (t:TypeId) (h:(allocEv g hp t).1) :
  Did w M0 bs hp ((do pure (Next.value (← Instr.alloc t true (.tuple #[]))):Sem Next).run P w) (allocEv g hp t).2.1 (allocEv g hp t).2.2:=by
 have ht:=G.td_ok hg t
 have key:∀ (n:Nat) (z:Value) (cs:List SV),(P.info? t).map (fun i=>(i.size,i.zero))=some (n,some z)→All2 (fun x u=>relSV w (Mof M0 bs) bs hp x u∧u.oneCell'=true) cs z.cells.toList →
   Did w M0 bs hp ((do pure (Next.value (← Instr.alloc t true (.tuple #[]))):Sem Next).run P w) (.v (.s (.box hp.length 0))) (hp++[.cells cs]):=by
  intro n z cs hz hcs
  have:=push_box hr t z.cells cs hcs
  simpa [Instr.alloc,Sem.run_bind,run_zero hz,newVar,newRow] using this
 unfold allocEv at h ⊢
 cases htd:g.td t with
 | map k e kt vt=>simp [htd,nope] at h
 | other=>simp [htd,nope] at h
 | eqs ty=>simp [htd,nope] at h
 | sc ty =>
  simp only [htd] at ht ⊢
  obtain ⟨h1,h2,h3,h4⟩:=ht
  have hz:=zsv_rel (w:=w) (M:=Mof M0 bs) (bs:=bs) (hp:=hp) ty
  exact key _ _ _ h3 (by rw [cellsV_cells h2 (fun v hv=>by
   obtain ⟨i,hi⟩:=List.getElem?_of_mem hv
   have hl:=hz.length
   obtain ⟨x,hx⟩:∃ x,ty.zsv[i]?=some x:=⟨_,List.getElem?_eq_getElem (by have:=(List.getElem?_eq_some_iff.1 hi).1; omega)⟩
   obtain ⟨u,hu,hr⟩:=hz.get i x hx
   rw [hi] at hu; cases hu; exact hr.2)]; exact hz)
 | func =>
  simp only [htd] at ht ⊢
  exact key _ _ _ ht.2 (.cons ⟨.nofn,rfl⟩ .nil)
 | ptr =>
  simp only [htd] at ht ⊢
  exact key _ _ _ ht.2 (.cons ⟨rfl,rfl⟩ .nil)
 | slice e ety bytes =>
  simp only [htd] at ht ⊢
  exact key _ _ _ ht.2.2.2.2 (.cons ⟨⟨none,0,rfl,Nat.le_refl _,by simp [maxLen],fun _=>rfl,.inl rfl⟩,rfl⟩ .nil)
 | struct ty =>
  simp only [htd] at ht ⊢
  obtain ⟨fs,h1,h2,h3,h4,h5⟩:=ht
  exact key _ _ _ h5 (zsv_rel ty)
 | arr n e ety =>
  simp only [htd] at ht ⊢
  obtain ⟨h1,h2,h3⟩:=ht
  refine key _ _ _ h3 ?_
  simp only [Value.cells]
  clear h1 h2 h3 key htd
  induction n with
  | zero=>exact .nil
  | succ n ih=>rw [List.replicate_succ,List.flatten_cons,List.replicate_succ,List.flatten_cons]; exact (zsv_rel ety).append ih
theorem boxEv_sound (hr:HR w M0 bs hp) (t:TypeId) (x:AV) (v:Value) (hx:relAV w (Mof M0 bs) bs hp x v) (h:(boxEv hp x).1) :
  Did w M0 bs hp ((do pure (Next.value (← Instr.box t v)):Sem Next).run P w) (boxEv hp x).2.1 (boxEv hp x).2.2:=by
 have:=push_box hr t v.cells x.cells (av_cells h hx)
 simpa [boxEv,Instr.box,Sem.run_bind,newVar,newRow] using this
theorem makeMapEv_sound (hg:g.ok P) (hr:HR w M0 bs hp) (t:TypeId) (h:(makeMapEv g hp t).1) :
  Did w M0 bs hp ((do pure (Next.value (← Instr.makeMap t none)):Sem Next).run P w) (makeMapEv g hp t).2.1 (makeMapEv g hp t).2.2:=by
 have ht:=G.td_ok hg t
 unfold makeMapEv at h ⊢
 cases htd:g.td t with
 | map k e kt vt =>
  simp only [htd] at ht ⊢
  obtain ⟨h1,h2⟩:=hr.push (.map #[] 0) (.map kt vt []) ⟨#[],0,rfl,.nil⟩
  refine ⟨.map (some w.heap.size),_,_,.inl ?_,⟨w.heap.size,kt,vt,[],by rw [at_push,if_pos (by have:=hr.len; omega)],by rw [look_push,if_pos rfl],rfl⟩,h1,h2⟩
  simp [Instr.makeMap,newObj,Sem.run]
 | _=>simp [htd,nope] at h
theorem flats_rep (t:Ty) (x:t.T):∀ (n i:Nat),i<n*t.size→(t.flats (List.replicate n x))[i]?=(t.flat x)[i % t.size]?
 | 0,i,h=>by simp at h
 | n+1,i,h=>by
  have hl:=flat_length t x
  rw [List.replicate_succ,Ty.flats]
  rcases Nat.lt_or_ge i t.size with hlt | hge
  ·
   rw [List.getElem?_append_left (by omega),Nat.mod_eq_of_lt hlt]
  ·
   rw [List.getElem?_append_right (by omega),hl,flats_rep t x n (i - t.size) (by rw [Nat.succ_mul] at h; omega)]
   congr 1
   rw [Nat.mod_eq_sub_mod hge]
theorem makeSlice_run (hg:g.ok P) (t:TypeId) {e:TypeId} {ety:Ty} {bytes:Nat} (htd:g.td t=.slice e ety bytes) {n m:Int} (h1:0≤n) (h2:n≤m) (h3:m*bytes≤140737488355328) (h4:m≤140737488355328) :
  ∃ cur:Array Value,cur.size=m.toNat*ety.size∧(∀ k,k<m.toNat*ety.size→cur[k]?=ety.zcells[k % ety.size]?)∧0<ety.size ∧
   (Instr.makeSlice t (.int .i64 n) (.int .i64 m)).run P w=.ok (.slice (some ⟨w.heap.size,0,none⟩) n.toNat m.toNat) (w.alloc (.cells cur e)):=by
 have ht:=G.td_ok hg t
 rw [htd] at ht
 obtain ⟨hu,hsz,hinfo,⟨z,hz,hzs,hzc⟩,_⟩:=ht
 obtain ⟨i,hi⟩:∃ i,P.info? e=some i:=by cases hi:P.info? e with
  | none=>simp [hi] at hinfo
  | some i=>exact ⟨i,rfl⟩
 simp [hi] at hinfo hz
 have hwn:IntKind.i64.wrap n=n:=IntWalk.i64_in _ (by omega)
 have hwm:IntKind.i64.wrap m=m:=IntWalk.i64_in _ (by omega)
 generalize hcur:(Array.range (m.toNat*ety.size)).map (fun k=>z.cells[k % z.cells.size]!)=cur
 refine ⟨cur,by rw [← hcur]; simp,?_,hsz,?_⟩
 ·
  intro k hk
  have hk':k % ety.size<z.cells.size:=by rw [hzs]; exact Nat.mod_lt _ hsz
  have hk2:k % ety.size<ety.zcells.length:=by have:=hzs; rw [hzc] at this; simp at this; rw [this]; exact Nat.mod_lt _ hsz
  rw [← hcur]
  simp [hk,hzs]
  rw [getElem!_pos z.cells _ hk',List.getElem?_eq_getElem hk2]
  simp only [hzc,List.getElem_toArray]
 ·
  have hb:¬ (m.toNat*bytes>roomBytes):=by
   have:((m.toNat*bytes:Nat):Int)=m*bytes:=by rw [Int.natCast_mul,Int.toNat_of_nonneg (by omega)]
   unfold roomBytes
   simp only [Nat.reducePow]
   omega
  have hbl:¬ ((bytes:Int)*m>2 ^ 48):=by
   rw [Int.mul_comm]
   omega
  have hcur2:(Array.range (m.toNat*ety.size)).map (fun k=>(if m.toNat*ety.size=0 then (#[]:Array Value) else z.cells)[k % (if m.toNat*ety.size=0 then (#[]:Array Value) else z.cells).size]!)=cur:=by
   by_cases h0:m.toNat*ety.size=0
   ·
    rw [← hcur,h0]; simp
   ·
    simp only [h0,if_false]; exact hcur
  have hs:(sizeOf e).run P w=.ok ety.size w:=run_sizeOf (by simp [hi,hinfo.1])
  have ht:(typeInfo e).run P w=.ok i w:=by simp [typeInfo,hi]
  have hb2:¬ (m.toNat*i.bytes>roomBytes):=by rw [hinfo.2]; exact hb
  have hzr:(zeroValue e).run P w=.ok z w:=by simp [zeroValue,typeInfo,hi,hz]
  have hn0:¬ n<0:=by omega
  have hm0:¬ m<0:=by omega
  have hmn:¬ m<n:=by omega
  have hbl3:¬ (281474976710656<(i.bytes:Int)*m):=by rw [hinfo.2,Int.mul_comm]; omega
  unfold Instr.makeSlice
  by_cases h0:m.toNat*ety.size=0
  ·
   simp only [h0,if_true] at hcur2
   simp [run_underlying hu,asInt,asIntOf,ht,hwn,hwm,askRoom,hs,hb2,hn0,hm0,hmn,hbl3,newRow,newObj,h0,Result.andThen]
   rw [← hcur2]
   simp [Sem.run]
  ·
   simp only [h0,if_false] at hcur2
   simp [run_underlying hu,asInt,asIntOf,ht,hwn,hwm,askRoom,hs,hb2,hn0,hm0,hmn,hbl3,newRow,newObj,h0,hzr,Result.andThen]
   rw [← hcur2]
   simp [Sem.run]
theorem makeSlice_cells {ety:Ty} {cur:Array Value} {n m:Nat} (hnm:n≤m) (hsz:0<ety.size) (hget:∀ k,k<m*ety.size→cur[k]?=ety.zcells[k % ety.size]?) (j:Nat) (s:SV) (hj:(ety.flats (List.replicate n ety.dflt))[j]?=some s) :
  ∃ u,cur[j]?=some u∧u.oneCell'=true∧relSV w (Mof M0 bs) bs hp s u:=by
 have hj2:=(List.getElem?_eq_some_iff.1 hj).1
 rw [flats_length,List.length_replicate] at hj2
 rw [flats_rep _ _ _ _ hj2] at hj
 have hz2:=rep_flat (bs:=bs) (hp:=hp) ety ety.dflt _ (rep_dflt (w:=w) (M:=Mof M0 bs) ety)
 obtain ⟨q,q1,q2,q3⟩:=hz2.get _ _ hj
 have:n*ety.size≤m*ety.size:=Nat.mul_le_mul_right _ hnm
 exact ⟨q,by rw [hget j (by omega)]; exact q1,q3,q2⟩
theorem makeSliceEv_sound (hg:g.ok P) (hr:HR w M0 bs hp) (t:TypeId) (x y:AV) (v u:Value) (hx:relAV w (Mof M0 bs) bs hp x v) (hy:relAV w (Mof M0 bs) bs hp y u) (h:(makeSliceEv g hp t x y).1) :
  Did w M0 bs hp ((do pure (Next.value (← Instr.makeSlice t v u)):Sem Next).run P w) (makeSliceEv g hp t x y).2.1 (makeSliceEv g hp t x y).2.2:=by
 unfold makeSliceEv at h ⊢
 split at h
 ·
  rename_i e ety bytes n m htd
  obtain rfl:v=.int .i64 n:=hx
  obtain rfl:u=.int .i64 m:=hy
  obtain ⟨h1,h2,h3,h4⟩:=h
  obtain ⟨cur,hcs,hget,hsz,hrun⟩:=makeSlice_run (w:=w) hg t htd h1 h2 h3 h4
  obtain ⟨k1,k2⟩:=hr.push (.cells cur e) (.arr true (ety.flats (List.replicate n.toNat ety.dflt))) ⟨cur,e,rfl,makeSlice_cells (by omega) hsz hget⟩
  refine ⟨.slice (some ⟨w.heap.size,0,none⟩) n.toNat m.toNat,_,_,.inl (by rw [Sem.run_bind,hrun]; rfl),⟨by simp,fun al cs hl => ?_⟩,k1,k2⟩
  rw [look_push,if_pos rfl] at hl
  simp only [Blk.arr.injEq] at hl
  obtain ⟨rfl,rfl⟩:=hl
  refine ⟨by simp [flats_length],fun _=>.inl ⟨_,m.toNat,by rw [at_push,if_pos (by have:=hr.len; omega)],rfl,by omega,cur,e,heap_alloc_new _ _,hcs,by simp only [maxLen]; omega⟩⟩
 ·
  simp [nope] at h
theorem makePartEv_sound (hg:g.ok P) (hr:HR w M0 bs hp) (t:TypeId) (x y:AV) (v u:Value) (hx:relAV w (Mof M0 bs) bs hp x v) (hy:relAV w (Mof M0 bs) bs hp y u) (h:(makePartEv g hp t x y).1) :
  Did w M0 bs hp ((do pure (Next.value (← Instr.makeSlice t v u)):Sem Next).run P w) (makePartEv g hp t x y).2.1 (makePartEv g hp t x y).2.2:=by
 unfold makePartEv at h ⊢
 split at h
 ·
  rename_i e ety bytes n m htd
  obtain rfl:v=.int .i64 n:=hx
  obtain rfl:u=.int .i64 m:=hy
  obtain ⟨h1,h2,h3,h4⟩:=h
  obtain ⟨cur,hcs,hget,hsz,hrun⟩:=makeSlice_run (w:=w) hg t htd h1 h2 h3 h4
  obtain ⟨k1,k2⟩:=hr.push (.cells cur e) (.cells (ety.flats (List.replicate m.toNat ety.dflt))) ⟨cur,e,rfl,by simp [flats_length,hcs],makeSlice_cells (Nat.le_refl _) hsz hget⟩
  exact ⟨.slice (some ⟨w.heap.size,0,none⟩) n.toNat m.toNat,_,_,.inl (by rw [Sem.run_bind,hrun]; rfl),⟨by simp,by omega,by simp only [maxLen]; omega,_,rfl,fun cs hl=>⟨w.heap.size,by rw [at_push,if_pos (by have:=hr.len; omega)],fun _=>rfl⟩⟩,k1,k2⟩
 ·
  simp [nope] at h
theorem setRow_evo {M:Nat→Prop} {b:Nat} {cells:Array Value} (hb:M b):Evo M M w (w.setRow b cells) :=
 ⟨rfl,rfl,rfl,by simp [World.setRow],Nat.le_refl _,fun c hc hm=>setRow_other w b c cells (fun e=>hm (e▸hb)),fun _ _ h=>h⟩
theorem storeVar_run {t:TypeId} {n:Nat} (hn:(P.info? t).map (fun i=>i.size)=some n) {b off:Nat} {v:Value} {cur:Array Value} {e:TypeId} (hc:w.heap[b]?=some (.cells cur e (0,0)))
  (hv:v.cells.size=n) (hle:off+n≤cur.size) (h1:∀ u∈v.cells.toList,u.oneCell'=true) :
  (Instr.storeAt t (.pointer (some ⟨b,off,none⟩)) v).run P w=.ok () (w.setRow b (spl cur.toList off v.cells.toList).toArray):=by
 have:=run_storeCells_at P b off e v.cells.toList 0 cur w hc (by simpa [hv] using hle) h1
 simp only [Nat.add_zero] at this
 simp only [Instr.storeAt,Instr.sureAddr,storeVar,Sem.run_bind,Sem.run_pure,Result.andThen_ok,run_sizeOf hn]
 rw [if_neg (by omega)]
 exact this
theorem size_td (hg:g.ok P) (t:TypeId) (h:g.td t≠.other) (hm:(∀ k e kt vt,g.td t≠.map k e kt vt)∧∀ ty,g.td t≠.eqs ty):(P.info? t).map (fun i=>i.size)=some (sizeTD (g.td t)):=by
 have ht:=G.td_ok hg t
 have key:∀ (n:Nat) (z:Value),(P.info? t).map (fun i=>(i.size,i.zero))=some (n,some z)→(P.info? t).map (fun i=>i.size)=some n:=fun n z h=>by
  cases hi:P.info? t with
  | none=>simp [hi] at h
  | some i=>simp [hi] at h; simp [h.1]
 cases htd:g.td t with
 | other=>exact absurd htd h
 | map k e kt vt=>exact absurd htd (hm.1 _ _ _ _)
 | eqs ty=>exact absurd htd (hm.2 _)
 | sc ty=>rw [htd] at ht; exact key _ _ ht.2.2.1
 | slice e ety bytes=>rw [htd] at ht; exact key _ _ ht.2.2.2.2
 | func=>rw [htd] at ht; exact key _ _ ht.2
 | ptr=>rw [htd] at ht; exact key _ _ ht.2
 | struct ty=>rw [htd] at ht; obtain ⟨fs,_,_,_,_,h5⟩:=ht; exact key _ _ h5
 | arr n e ety=>rw [htd] at ht; exact key _ _ ht.2.2
theorem store_block (hg:g.ok P) (hr:HR w M0 bs hp) (t:TypeId) {id b off:Nat} (hb:bs.at id=some b) {x:AV} {v:Value} (hx:relAV w (Mof M0 bs) bs hp x v) (hgood:x.good hp=true)
  {cs:List SV} {cur:Array Value} {e:TypeId} (hc:w.heap[b]?=some (.cells cur e (0,0))) (hcl:cs.length≤cur.size)
  (hcs:∀ (j:Nat) (x:SV),cs[j]?=some x→∃ u,cur[j]?=some u∧u.oneCell'=true∧relSV w (Mof M0 bs) bs hp x u)
  (hlen:x.cells.length=sizeTD (g.td t)) (hle:off+x.cells.length≤cs.length) (hk:g.td t≠.other) (hm:(∀ k e kt vt,g.td t≠.map k e kt vt)∧∀ ty,g.td t≠.eqs ty)
  (k:Blk) (hk1:k=.cells (spl cs off x.cells)∧cs.length=cur.size∧(∃ c,Blk.look hp id=.cells c)∨(∃ al al0,k=.arr al (spl cs off x.cells)∧Blk.look hp id=.arr al0 cs)) :
  Did w M0 bs hp ((do Instr.storeAt t (.pointer (some ⟨b,off,none⟩)) v; pure .skip:Sem Next).run P w) (.v (.s .any)) (hp.set id k):=by
 have hcells:=av_cells hgood hx
 have hsz:v.cells.size=sizeTD (g.td t):=by have:=hcells.length; simp only [Array.length_toList] at this; omega
 have hrun:=storeVar_run (P:=P) (w:=w) (size_td hg t hk hm) (off:=off) hc hsz (by omega) (fun u hu=>by
  obtain ⟨i,hi⟩:=List.getElem?_of_mem hu
  have hl:=hcells.length
  obtain ⟨y,hy⟩:∃ y,x.cells[i]?=some y:=⟨_,List.getElem?_eq_getElem (by have:=(List.getElem?_eq_some_iff.1 hi).1; omega)⟩
  obtain ⟨u',h1,h2⟩:=hcells.get i y hy
  rw [hi] at h1; cases h1; exact h2.2)
 have hnew:(w.setRow b (spl cur.toList off v.cells.toList).toArray).heap[b]?=some (.cells (spl cur.toList off v.cells.toList).toArray e (0,0)):=setRow_heap w b cur _ e (0,0) hc
 have hrel:∀ (j:Nat) (y:SV),(spl cs off x.cells)[j]?=some y→∃ u,(spl cur.toList off v.cells.toList).toArray[j]?=some u∧u.oneCell'=true∧relSV w (Mof M0 bs) bs hp y u:=by
  intro j y hj
  have hl:=hcells.length
  simp only [Array.length_toList] at hl
  simp only [spl,List.append_assoc] at hj ⊢
  have ht1:(cs.take off).length=off:=by simp; omega
  have ht2:(cur.toList.take off).length=off:=by simp; omega
  rcases Nat.lt_or_ge j off with h1 | h1
  ·
   rw [List.getElem?_append_left (by omega),List.getElem?_take,if_pos h1] at hj
   obtain ⟨u,q1,q2⟩:=hcs j y hj
   refine ⟨u,?_,q2⟩
   simp only [List.getElem?_toArray]
   rw [List.getElem?_append_left (by omega),List.getElem?_take,if_pos h1]
   simpa using q1
  ·
   rw [List.getElem?_append_right (by omega)] at hj
   simp only [List.getElem?_toArray]
   rw [List.getElem?_append_right (by omega),ht2]
   rw [ht1] at hj
   rcases Nat.lt_or_ge (j - off) x.cells.length with h2 | h2
   ·
    rw [List.getElem?_append_left h2] at hj
    rw [List.getElem?_append_left (by simp; omega)]
    obtain ⟨u,q1,q2,q3⟩:=hcells.get _ y hj
    exact ⟨u,q1,q3,q2⟩
   ·
    rw [List.getElem?_append_right h2,List.getElem?_drop] at hj
    rw [List.getElem?_append_right (by simp; omega),List.getElem?_drop]
    obtain ⟨u,q1,q2⟩:=hcs _ y hj
    refine ⟨u,?_,q2⟩
    rw [← q1]
    simp only [Array.length_toList,Array.getElem?_toList]
    congr 1
    omega
 have hslen:(spl cur.toList off v.cells.toList).length=cur.size:=by
  have hl:=hcells.length
  rw [spl_length _ _ _ (by simp only [Array.length_toList] at hl ⊢; omega)]; simp
 have hMb:Mof M0 bs b:=.inr ⟨id,hb⟩
 obtain ⟨h1,h2⟩:=hr.rewrite hb (setRow_evo hMb) (fun c hne hlt=>setRow_other w b c _ hne) hnew k (by
  rcases hk1 with ⟨rfl,hl,_⟩ | ⟨al,al0,rfl,_⟩
  ·
   exact ⟨_,e,rfl,by rw [spl_length _ _ _ (by omega)]; simp [hslen,hl],hrel⟩
  ·
   exact ⟨_,e,rfl,hrel⟩) (by
  rcases hk1 with ⟨rfl,hl,c,hlk⟩ | ⟨al,al0,rfl,hlk⟩
  ·
   rw [hlk]; trivial
  ·
   rw [hlk]
   refine .inr ⟨by rw [spl_length _ _ _ (by omega)],fun cap size ho => ?_⟩
   obtain ⟨cur',e',q1,q2,q3⟩:=ho
   rw [hc] at q1; cases q1
   exact ⟨_,_,hnew,by simp [hslen,q2],q3⟩)
 exact ⟨undef,_,bs,.inr ⟨by rw [Sem.run_bind,hrun]; rfl,rfl⟩,trivial,h1,h2⟩
theorem storeEv_sound (hg:g.ok P) (hr:HR w M0 bs hp) (t:TypeId) (a x:AV) (va v:Value) (ha:relAV w (Mof M0 bs) bs hp a va) (hx:relAV w (Mof M0 bs) bs hp x v)
  (hk:g.td t≠.other) (hm:(∀ k e kt vt,g.td t≠.map k e kt vt)∧∀ ty,g.td t≠.eqs ty) (h:(storeEv g hp t a x).1) :
  Did w M0 bs hp ((do Instr.storeAt t va v; pure .skip:Sem Next).run P w) (storeEv g hp t a x).2.1 (storeEv g hp t a x).2.2:=by
 unfold storeEv at h ⊢
 split at h
 ·
  rename_i id off
  obtain ⟨hid,ha⟩:=ha
  cases hl0:Blk.look hp id with
  | cells cs0 =>
   obtain ⟨b,hb,rfl⟩:=ha cs0 hl0
   simp only [hl0] at h ⊢
   obtain ⟨h1,h2,h3⟩:=h
   obtain ⟨b',cur,e,q1,q2,q3,q4⟩:=hr.cells id cs0 hl0
   rw [hb] at q1; cases q1
   exact store_block hg hr t hb hx h1 q2 (by omega) q4 h2 h3 hk hm _ (.inl ⟨rfl,q3,cs0,hl0⟩)
  | _=>simp [hl0,nope] at h
 ·
  rename_i ty id n off
  cases hl:Blk.look hp id with
  | dead=>simp [hl,nope] at h
  | trace l' xs' i' st'=>simp [hl,nope] at h
  | map k v es=>simp [hl,nope] at h
  | cells cs=>simp [hl,nope] at h
  | arr al cs =>
   simp only [hl] at h ⊢
   obtain ⟨h1,h2,h3,h4⟩:=h
   obtain ⟨b,hb,rfl⟩:=(ha.2 al cs hl).2 h2
   obtain ⟨cur,e,q2,q4⟩:=hr.arr id al cs b hl hb
   have hcl:cs.length≤cur.size:=by
    rcases Nat.lt_or_ge cur.size cs.length with hlt | hge
    ·
     obtain ⟨u,hu,_⟩:=q4 cur.size _ (List.getElem?_eq_getElem hlt)
     simp at hu
    ·
     exact hge
   exact store_block hg hr t hb hx h1 q2 hcl q4 h3 h4 hk hm _ (.inr ⟨al,al,rfl,hl⟩)
 ·
  simp [nope] at h
theorem lay_cells (hr:HR w M0 bs hp) {id b off:Nat} (hb:bs.at id=some b) {cs xs:List SV} (hl:Blk.look hp id=.cells cs) {vs:List Value} (hx:All2 (fun x u=>relSV w (Mof M0 bs) bs hp x u∧u.oneCell'=true) xs vs) (hle:off+xs.length≤cs.length) :
  ∃ w',(storeCells ⟨b,off,none⟩ vs).run P w=.ok () w'∧HR w' M0 bs (hp.set id (.cells (spl cs off xs)))∧Step false w (Mof M0 bs) bs hp w' (Mof M0 bs) bs (hp.set id (.cells (spl cs off xs))):=by
 obtain ⟨b',cur,e,q1,hc,q3,q4⟩:=hr.cells id cs hl
 rw [hb] at q1; cases q1
 have hln:=hx.length
 have hrun:=run_storeCells_at P b off e vs 0 cur w hc (by omega) (fun u hu=>by
  obtain ⟨i,hi⟩:=List.getElem?_of_mem hu
  obtain ⟨y,hy⟩:∃ y,xs[i]?=some y:=⟨_,List.getElem?_eq_getElem (by have:=(List.getElem?_eq_some_iff.1 hi).1; omega)⟩
  obtain ⟨u',h1,h2⟩:=hx.get i y hy
  rw [hi] at h1; cases h1; exact h2.2)
 simp only [Nat.add_zero] at hrun
 have hnew:(w.setRow b (spl cur.toList off vs).toArray).heap[b]?=some (.cells (spl cur.toList off vs).toArray e (0,0)):=setRow_heap w b cur _ e (0,0) hc
 have hslen:(spl cur.toList off vs).length=cur.size:=by rw [spl_length _ _ _ (by simp only [Array.length_toList]; omega)]; simp
 have hold:All2 (fun x u=>relSV w (Mof M0 bs) bs hp x u∧u.oneCell'=true) cs cur.toList:=All2.of_get (by simpa using q3) fun i x u hx hu=>by
  obtain ⟨u',h1,h2,h3⟩:=q4 i x hx
  rw [Array.getElem?_toList,h1] at hu
  cases hu
  exact ⟨h3,h2⟩
 have hall:=All2.spl hold hx off
 have hMb:Mof M0 bs b:=.inr ⟨id,hb⟩
 obtain ⟨h1,h2⟩:=hr.rewrite hb (setRow_evo hMb) (fun c hne hlt=>setRow_other w b c _ hne) hnew (.cells (spl cs off xs)) ⟨_,e,rfl,by rw [spl_length _ _ _ (by omega)]; simp [hslen,q3],fun j y hj=>by
  obtain ⟨u,k1,k2⟩:=hall.get j y hj
  exact ⟨u,by simpa using k1,k2.2,k2.1⟩⟩ (by rw [hl]; trivial)
 exact ⟨_,hrun,h1,h2⟩
theorem coeTy_sound (t:Ty) (x:AV) (v:Value) (h:relAV w (Mof M0 bs) bs hp x v):relAV w (Mof M0 bs) bs hp (coeTy t x) v:=by
 unfold coeTy
 split
 ·
  obtain rfl:v=.slice none 0 0:=h
  exact ⟨none,0,rfl,Nat.le_refl _,by simp [maxLen],fun _=>rfl,.inl rfl⟩
 ·
  exact h
def PartsRel (w:World) (M:Nat→Prop) (bs:Bs) (hp:List Blk) (ps:List (Nat×AV)) (vs:List (Nat×Value)):Prop :=
 All2 (fun (p:Nat×AV) (q:Nat×Value)=>p.1=q.1∧relAV w M bs hp p.2 q.2) ps vs
theorem PartsRel.coe {ps:List (Nat×AV)} {vs:List (Nat×Value)} (f:Nat→Ty) (h:PartsRel w (Mof M0 bs) bs hp ps vs):PartsRel w (Mof M0 bs) bs hp (ps.map fun p=>(p.1,coeTy (f p.1) p.2)) vs:=by
 unfold PartsRel at *
 induction h with
 | nil=>exact .nil
 | cons r _ ih=>exact .cons ⟨r.1,coeTy_sound _ _ _ r.2⟩ ih
theorem buildSliceEv_sound (hg:g.ok P) (hr:HR w M0 bs hp) (t:TypeId) (len:Nat) (ps:List (Nat×AV)) (vs:Array (Nat×Value)) (hps:PartsRel w (Mof M0 bs) bs hp ps vs.toList) (h:(buildSliceEv g hp t len ps).1) :
  PDid w M0 bs hp ((do pure (Next.value (← Instr.buildSlice t len vs)):Sem Next).run P w) (buildSliceEv g hp t len ps).2.1:=by
 have ht:=G.td_ok hg t
 unfold buildSliceEv at h ⊢
 cases htd:g.td t with
 | slice e ety bytes =>
  simp only [htd] at ht h ⊢
  obtain ⟨hu,hsz,hinfo,⟨z,hz,hzs,hzc⟩,_⟩:=ht
  have hps:=hps.coe (fun _=>ety)
  generalize (ps.map fun p=>(p.1,coeTy ety p.2))=ps at *
  cases hf:fillSV hp (fun i=>some (i*ety.size,ety.size)) (List.replicate (len*ety.size) .any) ps with
  | none=>simp [hf,nope] at h
  | some cells =>
   simp only [hf] at h ⊢
   cases hpz:ety.parses len cells with
   | none=>simp [hpz,nope] at h
   | some xs =>
    simp only [hpz] at h ⊢
    have hs:(P.info? e).map (fun i=>i.size)=some ety.size:=by
     cases hi:P.info? e with
     | none=>simp [hi] at hinfo
     | some i=>simp [hi] at hinfo; simp [hinfo.1]
    have hzr:(zeroValue e).run P w=.ok z w:=by
     cases hi:P.info? e with
     | none=>simp [hi] at hz
     | some i=>simp [hi] at hz; simp [zeroValue,typeInfo,hi,go_sem,hz]
    obtain ⟨zero,arr,hz0,hz1,harr,hasz⟩:∃ (zero arr:Array Value),(len*ety.size=0→zero=#[])∧(¬ len*ety.size=0→zero=z.cells) ∧
      arr=(Array.range (len*ety.size)).map (zero[· % zero.size]!)∧arr.size=len*ety.size:=by
     by_cases h0:len*ety.size=0
     ·
      exact ⟨#[],_,fun _=>rfl,fun h=>absurd h0 h,rfl,by simp⟩
     ·
      exact ⟨z.cells,_,fun h=>absurd h h0,fun _=>rfl,rfl,by simp⟩
    obtain ⟨res,r1,r2⟩:=fill_sound (w:=w) (M:=Mof M0 bs) (bs:=bs) (hp:=hp) (relSV w (Mof M0 bs) bs hp) (fun x u h=>h.1) _ ps vs.toList _ cells arr hps
     (All2.of_get (by simp [hasz]) (fun i x u hx _=>by
      rw [List.getElem?_replicate] at hx
      split at hx
      ·
       injection hx with hx; subst hx; trivial
      ·
       cases hx)) hf
    obtain ⟨k1,k2⟩:=parses_rows ety len cells xs res.toList hpz r2
    obtain ⟨e1,e2⟩:=hr.keep_alloc (.cells res e)
    refine ⟨.slice (some ⟨w.heap.size,0,none⟩) len len,w.alloc (.cells res e),?_,?_,e1,e2⟩
    ·
     have hnot:¬ (len*ety.size>2 ^ 24):=by omega
     simp only [Instr.buildSlice,Sem.run_bind,run_underlying hu,Result.andThen_ok,run_sizeOf hs]
     rw [if_neg hnot]
     by_cases h0:len*ety.size=0
     ·
      rw [if_pos h0]
      have:=hz0 h0
      subst this
      simp only [Sem.run_bind,Sem.run_pure,Result.andThen_ok,← harr,r1,newRow,run_newObj]
      rfl
     ·
      rw [if_neg h0]
      have:=hz1 h0
      subst this
      simp only [Sem.run_bind,hzr,Sem.run_pure,Result.andThen_ok,← harr,r1,newRow,run_newObj]
      rfl
    ·
     have hlt:w.heap.size<(w.alloc (.cells res e)).heap.size:=by simp
     have hn:¬ Mof M0 bs w.heap.size:=by
      rintro (h | ⟨id,h⟩)
      ·
       have:=hr.m0 _ h; omega
      ·
       have:=hr.lt _ _ h; omega
     by_cases hlen:len=0
     ·
      subst hlen
      have hxs:xs=[]:=List.eq_nil_of_length_eq_zero k1
      subst hxs
      exact ⟨_,0,rfl,Nat.le_refl _,by simp [maxLen],fun _=>rfl,.inl rfl⟩
     ·
      refine ⟨some ⟨w.heap.size,0,none⟩,len,by rw [k1],by omega,?_,fun _=>k1.symm,.inr ⟨w.heap.size,0,rfl,hn,hlt,fun i x hx => ?_⟩⟩
      ·
       have:len*1≤len*ety.size:=Nat.mul_le_mul_left _ hsz
       simp only [maxLen]; omega
      ·
       obtain ⟨cs,q1,q2,q3⟩:=k2 i x hx
       refine ⟨cs,q1,rep_evo e2.evo _ _ _ q2,fun j v hj => ?_⟩
       have:=q3 j v hj
       simp only [World.cell?]
       rw [show (w.alloc (.cells res e)).heap[w.heap.size]?=some (.cells res e) by show (w.heap.push _)[w.heap.size]?=_; simp]
       simpa using this
 | _=>simp [htd,nope] at h
theorem mapM_zip {α:Type} (f:α→Nat) (k:α→Option Nat):∀ (l:List α) (A B:List Nat),l.map f=A→l.map k=B.map some→l.mapM (fun x=>(k x).map fun i=>(f x,i))=some (A.zip B)
 | [],A,B,h1,h2=>by simp at h1 h2; subst h1; simp [h2]
 | x::l,A,B,h1,h2=>by
  subst h1
  cases B with
  | nil=>simp at h2
  | cons b B =>
   simp at h2
   have:=mapM_zip f k l _ B rfl h2.2
   simp [h2.1,this]
theorem buildEv_sound (hg:g.ok P) (hr:HR w M0 bs hp) (t:TypeId) (ps:List (Nat×AV)) (vs:Array (Nat×Value)) (hps:PartsRel w (Mof M0 bs) bs hp ps vs.toList) (h:(buildEv g hp t ps).1) :
  PDid w M0 bs hp ((do pure (Next.value (← Instr.build t vs)):Sem Next).run P w) (buildEv g hp t ps).2.1:=by
 have ht:=G.td_ok hg t
 unfold buildEv at h ⊢
 cases htd:g.td t with
 | struct ty =>
  simp only [htd] at ht h ⊢
  have hps:=hps.coe (fun i=>ty.fld i)
  generalize (ps.map fun p=>(p.1,coeTy (ty.fld p.1) p.2))=ps at *
  cases hf:fillSV hp (fun f=>if f<ty.nfld then some (ty.off f,(ty.fld f).size) else none) ty.zsv ps with
  | none=>simp [hf,nope] at h
  | some cells =>
   simp only [hf] at h ⊢
   obtain ⟨fs,h1,h2,h3,h4,h5⟩:=ht
   have hm:=mapM_zip (fun f:Field=>f.offset) (fun f=>(P.info? f.type).map fun i=>i.size) fs.toList _ _ h2 h3
   have hplace:(fun i=>(ty.offs.zip ty.sizes).toArray[i]?)=(fun f=>if f<ty.nfld then some (ty.off f,(ty.fld f).size) else none):=by
    funext f
    simp only [List.getElem?_toArray]
    by_cases hlt:f<ty.nfld
    ·
     rw [if_pos hlt]
     exact List.getElem?_zip_eq_some.2 ⟨by simp [Ty.offs,hlt],sizes_fld ty f hlt⟩
    ·
     rw [if_neg hlt]
     rw [List.getElem?_eq_none]
     simp [Ty.offs]; omega
   obtain ⟨res,r1,r2⟩:=fill_sound (w:=w) (M:=Mof M0 bs) (bs:=bs) (hp:=hp) (fun x u=>relSV w (Mof M0 bs) bs hp x u∧u.oneCell'=true) (fun x u h=>h) _ ps vs.toList _ cells ty.zcells.toArray hps (zsv_rel ty) hf
   have hb:P.built t vs.toList=some res:=by
    unfold Program.built
    cases hit:P.info? t with
    | none=>simp [hit] at h5
    | some it =>
     simp [hit] at h5
     have hm':fs.toList.mapM (fun f=>(P.info? f.type).map fun i=>(f.offset,i.size))=some (ty.offs.zip ty.sizes):=by
      rw [← hm]; congr 1; funext f; cases P.info? f.type <;> rfl
     simp only [h1,h5.2,hm',hplace]
     exact r1
   exact ⟨.agg res,w,(by rw [Sem.run_bind,run_build w t vs res hb]; rfl),⟨res.toList,by simp,r2⟩,hr,Step.refl _ _ _ _⟩
 | arr n e ety =>
  simp only [htd] at ht h ⊢
  have hps:=hps.coe (fun _=>ety)
  generalize (ps.map fun p=>(p.1,coeTy ety p.2))=ps at *
  cases hf:fillSV hp (fun i=>some (i*ety.size,ety.size)) (List.replicate n ety.zsv).flatten ps with
  | none=>simp [hf,nope] at h
  | some cells =>
   simp only [hf] at h ⊢
   obtain ⟨h1,h2,h3⟩:=ht
   have hz:All2 (fun x u=>relSV w (Mof M0 bs) bs hp x u∧u.oneCell'=true) (List.replicate n ety.zsv).flatten (List.replicate n ety.zcells).flatten:=by
    clear h3 h1 hf h htd
    induction n with
    | zero=>exact .nil
    | succ n ih=>rw [List.replicate_succ,List.replicate_succ,List.flatten_cons,List.flatten_cons]; exact (zsv_rel ety).append ih
   obtain ⟨res,r1,r2⟩:=fill_sound (w:=w) (M:=Mof M0 bs) (bs:=bs) (hp:=hp) (fun x u=>relSV w (Mof M0 bs) bs hp x u∧u.oneCell'=true) (fun x u h=>h) _ ps vs.toList _ cells (List.replicate n ety.zcells).flatten.toArray hps hz hf
   have hb:P.built t vs.toList=some res:=by
    unfold Program.built
    cases hit:P.info? t with
    | none=>simp [hit] at h3
    | some it =>
     simp [hit] at h3
     cases hie:P.info? e with
     | none=>simp [hie] at h2
     | some ie =>
      simp [hie] at h2
      simp only [h1,h3.2,hie,h2]
      exact r1
   exact ⟨.agg res,w,(by rw [Sem.run_bind,run_build w t vs res hb]; rfl),⟨res.toList,by simp,r2⟩,hr,Step.refl _ _ _ _⟩
 | _=>simp [htd,nope] at h
theorem app_zero {t e:TypeId} {n:Nat} (ht:P.underlying t=some (.slice e)) (hs:(P.info? e).map (fun i=>i.size)=some n) (o:TypeId) (base a2:Option Addr) (len cap c2:Nat) (hle:len≤cap) :
  (Builtin.append_ #[t,t] o #[.slice base len cap,.slice a2 0 c2]).run P w=.ok (.slice base len cap) w:=by
 cases base <;> cases a2 <;> simp [Builtin.append_,run_underlying ht,run_sizeOf hs,Builtin.lenOf,hle,Builtin.firstCells,loadCells,loadCellsFrom,storeCells]
theorem app_grow {t e:TypeId} {i:TypeInfo} {z:Value} (ht:P.underlying t=some (.slice e)) (hi:P.info? e=some i) (hz:i.zero=some z) (o:TypeId) (base:Option Addr) (len cap:Nat) (olds:List Value)
  (hlo:olds.length=len*i.size) (holds:∀ ad,base=some ad→∀ j v,olds[j]?=some v→w.cell? (ad.add j)=some v) (hbase:base=none→len=0∧cap=0)
  (a2:Addr) (m c2:Nat) (news:List Value) (hl:news.length=m*i.size) (hnews:∀ j v,news[j]?=some v→w.cell? (a2.add j)=some v) (hm:0<m)
  (hg:cap<len+m) (h63:len+m≤maxLen) (hb:(len+m)*i.bytes≤140737488355328) :
  ∃ cap' rest,len+m≤cap'∧cap'≤maxLen∧rest=Builtin.zeroCells z.cells (cap' - (len+m)) ∧
  (Builtin.append_ #[t,t] o #[.slice base len cap,.slice (some a2) m c2]).run P w =
   .ok (.slice (some ⟨w.heap.size,0,none⟩) (len+m) cap') (w.drew.alloc (.cells (olds.toArray++news.toArray++rest) e)):=by
 refine ⟨grownCap w (len+m) cap e,_,grownCap_ge _ _ _ _,grownCap_le_maxLen _ _ _ _ h63,rfl,?_⟩
 have h63':len+m≤9223372036854775807:=by simpa [maxLen] using h63
 cases base with
 | none =>
  obtain ⟨rfl,rfl⟩:=hbase rfl
  have:olds=[]:=List.eq_nil_of_length_eq_zero (by simpa using hlo)
  subst this
  have:=run_append_nil (P:=P) w t o e i z ht hi hz a2 m c2 news hl hnews hm (by omega) (by simp only [Nat.zero_add] at hb; omega)
  simpa using this
 | some ad =>
  exact run_append_grow (P:=P) w t o e i z ht hi hz ad len cap olds hlo (holds ad rfl) a2 m c2 news hl hnews hg (by omega) (growslice_fits hg hb)
theorem app_room {t e e':TypeId} {i:TypeInfo} (ht:P.underlying t=some (.slice e)) (hi:P.info? e=some i) (o:TypeId) (b len cap:Nat) (cur:Array Value) (hc:w.heap[b]?=some (.cells cur e' (0,0)))
  (a2:Addr) (m c2:Nat) (news:List Value) (hl:news.length=m*i.size) (hnews:∀ j v,news[j]?=some v→w.cell? (a2.add j)=some v) (h1:∀ u∈news,u.oneCell'=true)
  (hroom:len+m≤cap) (hfit:len*i.size+news.length≤cur.size) :
  (Builtin.append_ #[t,t] o #[.slice (some ⟨b,0,none⟩) len cap,.slice (some a2) m c2]).run P w =
   .ok (.slice (some ⟨b,0,none⟩) (len+m) cap) (w.setRow b (spl cur.toList (len*i.size) news).toArray):=by
 have hf:=run_firstCells_some (P:=P) w i.size m a2 m c2 news hl hnews
 have hst:=run_storeCells_at P b (len*i.size) e' news 0 cur w hc (by simpa using hfit) h1
 simp only [Nat.add_zero] at hst
 simp [Builtin.append_,run_underlying ht,sizeOf,typeInfo,hi,Builtin.lenOf,hroom,hf,Addr.add_lit,hst,spl]
theorem slice_cells {t:Ty} {xs:List t.T} {a:Option Addr} (h:RowAt w (Mof M0 bs) (fun x cs=>rep w (Mof M0 bs) t x cs) t.size a xs) :
  ∃ news,news.length=xs.length*t.size∧(∀ ad,a=some ad→∀ j v,news[j]?=some v→w.cell? (ad.add j)=some v)∧(0<xs.length→∃ ad,a=some ad) ∧
   All2 (fun x u=>relSV w (Mof M0 bs) bs hp x u∧u.oneCell'=true) (t.flats xs) news:=by
 rcases h with rfl | ⟨b,off,rfl,hm,hb,he⟩
 ·
  exact ⟨[],by simp,fun ad _ j v h=>by simp at h,by simp,.nil⟩
 ·
  obtain ⟨news,k1,k2,k3⟩:=row_cells (w:=w) (M:=Mof M0 bs) (bs:=bs) (hp:=hp) (t:=t) (xs:=xs) (b:=b) (off:=off) 0 (fun i x hx=>by simpa using he i x hx)
  refine ⟨news,k1,fun ad had j v hj => ?_,fun _=>⟨_,rfl⟩,k3⟩
  injection had with had
  subst had
  have:=k2 j v hj
  rw [addr_add,← this]
  congr 2
  omega
theorem all2_cells {l:List SV} {m:List Value} {R:SV→Value→Prop} (h:All2 R l m) (rest:List Value):∀ (j:Nat) (x:SV),l[j]?=some x→∃ u,(m++rest).toArray[j]?=some u∧R x u:=by
 intro j x hj
 obtain ⟨u,h1,h2⟩:=h.get j x hj
 exact ⟨u,by simp only [List.getElem?_toArray]; rw [List.getElem?_append_left (List.getElem?_eq_some_iff.1 h1).1]; exact h1,h2⟩
theorem take_flats (t:Ty):∀ (xs:List t.T) (n:Nat),t.flats (xs.take n)=(t.flats xs).take (n*t.size)
 | [],n=>by simp [Ty.flats]
 | x::xs,0=>by simp [Ty.flats]
 | x::xs,n+1=>by
  rw [List.take_succ_cons,Ty.flats,Ty.flats,take_flats t xs n,List.take_append,flat_length,List.take_of_length_le (l:=t.flat x) (by rw [flat_length,Nat.add_mul]; omega)]
  congr 2
  rw [Nat.add_mul]; omega
theorem copyEv_sound (hg:g.ok P) (hr:HR w M0 bs hp) (t u o:TypeId) (d s:AV) (vd vs:Value) (hd:relAV w (Mof M0 bs) bs hp d vd) (hs:relAV w (Mof M0 bs) bs hp s vs) (h:(copyEv g hp t d s).1) :
  Did w M0 bs hp ((do pure (Next.value (← Builtin.copy_ #[t,u] o #[vd,vs])):Sem Next).run P w) (copyEv g hp t d s).2.1 (copyEv g hp t d s).2.2:=by
 have ht:=G.td_ok hg t
 have key:∀ {e:TypeId} {ety:Ty} {bytes:Nat} {id off n cap m c:Nat} {a:Option Addr} {cs xs:List SV} {news:List Value},g.td t=.slice e ety bytes→relAV w (Mof M0 bs) bs hp (.s (.part ety id off n cap)) vd→Blk.look hp id=.cells cs →
   vs=.slice a m c→off+n*ety.size≤cs.length→xs.length=Nat.min m n*ety.size→All2 (fun x u=>relSV w (Mof M0 bs) bs hp x u∧u.oneCell'=true) xs news →
   (∀ ad,a=some ad→∀ j v,news[j]?=some v→w.cell? (ad.add j)=some v)→(0<xs.length→∃ ad,a=some ad) →
   Did w M0 bs hp ((do pure (Next.value (← Builtin.copy_ #[t,u] o #[vd,vs])):Sem Next).run P w) (.v (.s (.int .i64 (Nat.min m n:Nat)))) (hp.set id (.cells (spl cs off xs))):=by
  intro e ety bytes id off n cap m c a cs xs news htd hd hl hvs hle hlen hnews hat hsome
  rw [htd] at ht
  obtain ⟨hu,hsz,hinfo,_⟩:=ht
  have hsi:(P.info? e).map (fun i=>i.size)=some ety.size:=by
   cases hi:P.info? e with
   | none=>simp [hi] at hinfo
   | some i=>simp [hi] at hinfo; simp [hinfo.1]
  obtain ⟨hid,hnc,hcm,ad,rfl,hx⟩:=hd
  obtain ⟨b,hb,ha⟩:=hx cs hl
  subst hvs
  have hload:(Builtin.firstCells ety.size (Nat.min m n) (.slice a m c)).run P w=.ok news.toArray w:=by
   have hnl:news.length=Nat.min m n*ety.size:=by rw [← hnews.length]; exact hlen
   cases a with
   | none =>
    have:news=[]:=by
     rcases Nat.eq_zero_or_pos xs.length with h0 | h0
     ·
      exact List.eq_nil_of_length_eq_zero (by rw [← hnews.length]; exact h0)
     ·
      obtain ⟨ad,had⟩:=hsome h0; cases had
    subst this
    rfl
   | some ad =>
    simp only [Builtin.firstCells]
    rw [← hnl]
    exact run_loadCells_list w ad news (hat ad rfl)
  have hmn:Nat.min m n≤n:=Nat.min_le_right _ _
  have hle2:off+xs.length≤cs.length:=by
   have:Nat.min m n*ety.size≤n*ety.size:=Nat.mul_le_mul_right _ hmn
   omega
  obtain ⟨w',k1,k2,k3⟩:=lay_cells (P:=P) hr hb hl hnews hle2
  rcases Nat.eq_zero_or_pos xs.length with h0 | h0
  ·
   have e1:xs=[]:=List.eq_nil_of_length_eq_zero h0
   subst e1
   cases hnews
   have e2:spl cs off []=cs:=by simp [spl]
   rw [e2] at k2 k3 ⊢
   have e3:hp.set id (.cells cs)=hp:=by
    apply List.ext_getElem?
    intro i
    rw [List.getElem?_set]
    have hlt:id<hp.length:=hid
    by_cases e:id=i
    ·
     rw [if_pos e,if_pos hlt,← e,List.getElem?_eq_getElem hlt]
     simp only [Blk.look,List.getElem?_eq_getElem hlt,Option.getD_some] at hl
     rw [hl]
    ·
     rw [if_neg e]
   rw [e3]
   refine ⟨_,w,bs,.inl ?_,rfl,hr,Step.refl _ _ _ _⟩
   have hstore:∀ x:Option Addr,(match x with | some a=>(storeCells a []:Sem Unit) | none=>pure ()).run P w=.ok () w:=by
    intro x; cases x <;> rfl
   cases ad with
   | none=>simp [Builtin.copy_,Sem.run_bind,run_underlying hu,Builtin.lenOf,run_sizeOf hsi,hload,goInt,Result.andThen]
   | some ad=>simp [Builtin.copy_,Sem.run_bind,run_underlying hu,Builtin.lenOf,run_sizeOf hsi,hload,goInt,storeCells,Result.andThen]
  ·
   have hn0:0<n:=by
    rcases Nat.eq_zero_or_pos n with hn | hn
    ·
     subst hn; simp at hmn; rw [hlen] at h0; simp [hmn] at h0
    ·
     exact hn
   obtain rfl:=ha (by omega)
   refine ⟨_,w',bs,.inl ?_,rfl,k2,k3⟩
   simp only [Builtin.copy_,Sem.run_bind,run_underlying hu,Result.andThen_ok,Builtin.lenOf,Sem.run_pure,run_sizeOf hsi,hload,k1,goInt,List.getElem?_toArray,List.getElem?_cons_zero,List.getElem?_cons_succ]
 unfold copyEv at h ⊢
 split at h
 ·
  rename_i e ety bytes ty id off n cap htd
  split at h
  ·
   rename_i cs ty' ys ex hl
   obtain ⟨rfl,rfl,h3⟩:=h
   obtain ⟨a,c,rfl,x1,x2,x3,x4⟩:=hs
   obtain ⟨olds,o1,o2,o3,o4⟩:=slice_cells (hp:=hp) x4
   have hlen:(ty'.flats (ys.take n)).length=Nat.min ys.length n*ty'.size:=by rw [flats_length,List.length_take,Nat.min_comm]
   have hcut:All2 (fun x u=>relSV w (Mof M0 bs) bs hp x u∧u.oneCell'=true) (ty'.flats (ys.take n)) (olds.take (n*ty'.size)):=by
    rw [take_flats]
    exact All2.of_get (by rw [List.length_take,List.length_take,o4.length]) fun i x u hx hu=>by
     rw [List.getElem?_take] at hx hu
     split at hx
     ·
      rename_i hi
      rw [if_pos hi] at hu
      obtain ⟨u',k1,k2⟩:=o4.get i x hx
      rw [hu] at k1; cases k1; exact k2
     ·
      cases hx
   refine key htd hd hl rfl h3 hlen hcut (fun ad had j v hj=>o2 ad had j v ?_) (fun h0=>o3 ?_)
   ·
    rw [List.getElem?_take] at hj
    split at hj
    ·
     exact hj
    ·
     cases hj
   ·
    rw [hlen] at h0
    rcases Nat.eq_zero_or_pos ys.length with h1 | h1
    ·
     rw [h1] at h0; simp at h0
    ·
     exact h1
  ·
   rename_i cs ty' id' off' n' cap' hl
   split at h
   ·
    rename_i cs' hl'
    obtain ⟨rfl,rfl,h3,h4⟩:=h
    obtain ⟨hid,hnc,hcm,ad,rfl,hx⟩:=hs
    obtain ⟨b,hb,ha⟩:=hx cs' hl'
    obtain ⟨b',cur,e',q1,q2,q3,q4⟩:=hr.cells id' cs' hl'
    rw [hb] at q1; cases q1
    have hmn:Nat.min n' n*ty'.size≤n'*ty'.size:=Nat.mul_le_mul_right _ (Nat.min_le_left _ _)
    obtain ⟨vs,v1,v2,v3⟩:=take_cells (off:=off') ⟨cur,e',q2,q4⟩ (Nat.min n' n*ty'.size) (by omega)
    have hlen:(takeAt cs' off' (Nat.min n' n*ty'.size)).length=Nat.min n' n*ty'.size:=by rw [v3.length,v1]
    refine key htd hd hl rfl h3 hlen v3 (fun a had j v hj => ?_) (fun h0 => ?_)
    ·
     have h0:0<cap':=by
      rcases Nat.eq_zero_or_pos n' with hn | hn
      ·
       subst hn
       have:(Nat.min 0 n)=0:=Nat.zero_min n
       rw [this,Nat.zero_mul] at v1
       have:vs=[]:=List.eq_nil_of_length_eq_zero v1
       rw [this] at hj; simp at hj
      ·
       omega
     rw [ha h0] at had
     cases had
     rw [addr_add]
     exact v2 j v hj
    ·
     refine ⟨_,ha ?_⟩
     rw [hlen] at h0
     rcases Nat.eq_zero_or_pos n' with hn | hn
     ·
      subst hn
      have:(Nat.min 0 n)=0:=Nat.zero_min n
      rw [this] at h0; simp at h0
     ·
      omega
   ·
    simp [nope] at h
  ·
   simp [nope] at h
 ·
  simp [nope] at h
theorem cvEv_sound (hg:g.ok P) (hr:HR w M0 bs hp) (s d:TypeId) (x:AV) (v:Value) (hx:relAV w (Mof M0 bs) bs hp x v) (h:(cvEv g s d x).1):PDid w M0 bs hp ((do pure (Next.value (← convert s d v)):Sem Next).run P w) (cvEv g s d x).2:=by
 unfold cvEv at h ⊢
 split at h
 ·
  rename_i e ety bytes b hs hd
  split at h
  ·
   rename_i he
   have h1:=G.td_ok hg s
   have h2:=G.td_ok hg d
   have h3:=G.td_ok hg e
   rw [hs] at h1
   rw [hd] at h2
   rw [he] at h3
   obtain rfl:v=.string b:=hx
   have hrun:=Lib.run_convert_string_bytes (P:=P) w s d e b h1.1 h2.1 h3.1
   have hold:∀ c,c<w.heap.size→(Lib.bytesWorld w e b).heap[c]?=w.heap[c]?:=fun c hc=>Lib.bytesWorld_at_old w e b c hc
   have hev:Evo (Mof M0 bs) (Mof M0 bs) w (Lib.bytesWorld w e b):=⟨rfl,rfl,rfl,by rw [Lib.bytesWorld_size]; omega,by simp [Lib.bytesWorld,World.freeze,World.alloc,World.drew,-World.alloc_eq,-World.drew_eq],fun c hc _=>hold c hc,fun _ _ h=>h⟩
   obtain ⟨k1,k2⟩:=hr.keep hev (fun id c hc=>hold c (hr.lt id c hc)) (fun c hc _=>hold c hc)
   have hn:¬ Mof M0 bs w.heap.size:=by
    rintro (h | ⟨id,h⟩)
    ·
     have:=hr.m0 _ h; omega
    ·
     have:=hr.lt _ _ h; omega
   have hlen:(strL b).length=b.size:=by obtain ⟨⟨a⟩⟩:=b; simp [strL,ByteArray.size]
   refine ⟨_,_,by rw [Sem.run_bind,hrun]; rfl,⟨_,_,by rw [hlen],by rw [hlen]; exact grownCap_ge _ _ _ _,grownCap_le_maxLen _ _ _ _ h,by simp,.inr ⟨w.heap.size,0,rfl,hn,by rw [Lib.bytesWorld_size]; omega,fun i x hi => ?_⟩⟩,k1,k2⟩
   have hi2:=(List.getElem?_eq_some_iff.1 hi).1
   rw [hlen] at hi2
   refine ⟨[.int .u8 x],rfl,rfl,fun j u hj => ?_⟩
   cases j with
   | succ j=>simp at hj
   | zero =>
    simp at hj
    subst hj
    have:=Lib.bytesWorld_cell w e b i hi2
    simp only [Nat.zero_add,Nat.mul_one,Nat.add_zero]
    rw [this]
    have e1:(b.data.toList.getD i 0).toNat=x:=by
     simp only [strL,List.getElem?_map,Option.map_eq_some_iff] at hi
     obtain ⟨c,hc,rfl⟩:=hi
     rw [List.getD_eq_getElem?_getD,hc]
     rfl
    rw [← e1]
  ·
   exact h.elim
 ·
  obtain ⟨z,h1,h2⟩:=convEv_sound (P:=P) hg s d _ v hx h
  exact ⟨z,w,by rw [Sem.run_bind,h1]; rfl,h2,hr,Step.refl _ _ _ _⟩
theorem grown_blk (hr:HR w M0 bs hp) {olds news:List Value} {l m:List SV} {z:Value} {n size:Nat} (e:TypeId) (al:Bool) (h1:All2 (fun x u=>relSV w (Mof M0 bs) bs hp x u∧u.oneCell'=true) l olds) (h2:All2 (fun x u=>relSV w (Mof M0 bs) bs hp x u∧u.oneCell'=true) m news) :
  IsBlk w.drew (Mof M0 bs) bs hp (.cells (olds.toArray++news.toArray++Builtin.zeroCells z.cells n) e) (.arr al (l++m)):=by
 refine ⟨_,e,rfl,fun j x hj => ?_⟩
 obtain ⟨u,k1,k2,k3⟩:=all2_cells (h1.append h2) (Builtin.zeroCells z.cells n).toList j x hj
 exact ⟨u,by rw [← k1]; congr 1; apply Array.ext'; simp,k3,relSV_step hr.keep_drew.2 x u k2⟩
def TailOf (w:World) (M0:Nat→Prop) (bs:Bs) (hp:List Blk) (y:AV) (vy:Value):Prop :=
 ∀ (ty:Ty) (ys:List ty.T) (ex:Bool),y=.s (.sl ty ys ex)→∃ a2 c2,vy=.slice a2 ys.length c2∧∃ news,news.length=ys.length*ty.size∧(∀ ad,a2=some ad→∀ j v,news[j]?=some v→w.cell? (ad.add j)=some v)∧(0<ys.length→∃ ad,a2=some ad) ∧
  All2 (fun x u=>relSV w (Mof M0 bs) bs hp x u∧u.oneCell'=true) (ty.flats ys) news
theorem TailOf.of {y:AV} {vy:Value} (hy:relAV w (Mof M0 bs) bs hp y vy):TailOf w M0 bs hp y vy:=by
 intro ty ys ex e
 subst e
 obtain ⟨a2,c2,rfl,_,_,_,y3⟩:=hy
 exact ⟨a2,c2,rfl,slice_cells (hp:=hp) y3⟩
theorem TailOf.step {y:AV} {vy:Value} {bs':Bs} {hp':List Blk} (hs:∀ x u,relSV w (Mof M0 bs) bs hp x u→relSV w (Mof M0 bs') bs' hp' x u) (hy:TailOf w M0 bs hp y vy):TailOf w M0 bs' hp' y vy:=by
 intro ty ys ex e
 obtain ⟨a2,c2,h1,news,h2,h3,h4,h5⟩:=hy ty ys ex e
 exact ⟨a2,c2,h1,news,h2,h3,h4,h5.imp fun x u hu=>⟨hs x u hu.1,hu.2⟩⟩
theorem appendEv0_sound (hg:g.ok P) (hr:HR w M0 bs hp) (t o:TypeId) (s y:AV) (vs vy:Value) (hs:relAV w (Mof M0 bs) bs hp s vs) (hy:TailOf w M0 bs hp y vy) (h:(appendEv0 g hp t s y).1) :
  Did w M0 bs hp ((do pure (Next.value (← Builtin.append_ #[t,t] o #[vs,vy])):Sem Next).run P w) (appendEv0 g hp t s y).2.1 (appendEv0 g hp t s y).2.2:=by
 have ht:=G.td_ok hg t
 unfold appendEv0 at h ⊢
 split at h
 ·
  rename_i e ety bytes ty' ys ex htd
  rw [htd] at ht
  obtain ⟨hu,hsz,hinfo,⟨z,hz,hzs,hzc⟩,_⟩:=ht
  obtain ⟨i,hi⟩:∃ i,P.info? e=some i:=by cases hi:P.info? e with
   | none=>simp [hi] at hinfo
   | some i=>exact ⟨i,rfl⟩
  simp [hi] at hinfo hz
  obtain ⟨a2,c2,rfl,y3⟩:=hy _ _ _ rfl
  have hsi:(P.info? e).map (fun i=>i.size)=some ety.size:=by simp [hi,hinfo.1]
  split at h
  ·
   
   rename_i ty xs
   obtain ⟨rfl,rfl,h3,h4⟩:=h
   obtain ⟨a,c,rfl,x1,x2,x3,x4⟩:=hs
   have hc:=x3 rfl
   subst hc
   cases ys with
   | nil =>
    obtain ⟨k1,k2⟩:=hr.virt (ty'.flats xs)
    refine ⟨_,w,_,.inl (by rw [Sem.run_bind,show ([]:List ty'.T).length=0 from rfl,app_zero hu hsi o a a2 xs.length xs.length c2 (Nat.le_refl _)]; rfl),⟨by simp,fun al cs hl => ?_⟩,by simpa [Ty.flats] using k1,by simpa [Ty.flats] using k2⟩
    rw [look_push,if_pos rfl] at hl
    simp [Ty.flats] at hl
    obtain ⟨rfl,rfl⟩:=hl
    refine ⟨by simp [flats_length],fun _=>.inr ⟨by rw [at_push,if_pos (by have:=hr.len; omega)],xs,a,by simp,by simpa using x2,rfl,by simp,x4.evo k2.evo⟩⟩
   | cons y ys =>
    obtain ⟨olds,o1,o2,o3,o4⟩:=slice_cells (hp:=hp) x4
    obtain ⟨news,n1,n2,n3,n4⟩:=y3
    obtain ⟨ad2,rfl⟩:=n3 (by simp)
    obtain ⟨cap',rest,g1,g2,rfl,g4⟩:=app_grow (P:=P) hu hi hz o a xs.length xs.length olds (by rw [o1,hinfo.1]) o2 (fun hn=>by
     cases xs with
     | nil=>exact ⟨rfl,rfl⟩
     | cons x xs=>obtain ⟨ad,had⟩:=o3 (by simp); rw [hn] at had; cases had) ad2 (y::ys).length c2 news (by rw [n1,hinfo.1]) (n2 ad2 rfl) (by simp) (by simp) h4 (by rw [hinfo.2]; exact h3)
    obtain ⟨d1,d2⟩:=hr.keep_drew
    obtain ⟨k1,k2⟩:=d1.push _ (.arr true (ty'.flats xs++ty'.flats (y::ys))) (grown_blk hr (z:=z) (n:=cap' - (xs.length+(y::ys).length)) (size:=0) e true o4 n4)
    refine ⟨_,_,_,.inl (by rw [Sem.run_bind,g4]; rfl),⟨by simp,fun al cs hl => ?_⟩,k1,d2.trans k2⟩
    rw [look_push,if_pos rfl] at hl
    simp only [Blk.arr.injEq] at hl
    obtain ⟨rfl,rfl⟩:=hl
    refine ⟨by simp [flats_length,Nat.add_mul],fun _=>.inl ⟨_,cap',by rw [at_push,if_pos (by have:=hr.len; omega)],rfl,g1,?_⟩⟩
    refine ⟨_,e,heap_alloc_new _ _,?_,g2⟩
    simp only [Array.size_append,List.size_toArray,size_zeroCells,hzs,o1,n1,← Nat.add_mul]
    congr 1
    omega
  ·
   
   rename_i ty id n
   cases hl:Blk.look hp id with
   | dead=>simp [hl,nope] at h
   | trace l' xs' i' st'=>simp [hl,nope] at h
   | map k v es=>simp [hl,nope] at h
   | cells cs=>simp [hl,nope] at h
   | arr al cs =>
    simp only [hl] at h ⊢
    obtain ⟨rfl,rfl,h2,h3,h4⟩:=h
    obtain ⟨hid,hs⟩:=hs
    have hs0:=hs
    have hs:=(hs al cs hl).2 h2
    cases ys with
    | nil =>
     have hset:hp.set id (.arr (al || !([]:List ty'.T).isEmpty) (cs++ty'.flats []))=hp:=by
      have:hp[id]?=some (.arr al cs):=by
       unfold Blk.look at hl
       rw [List.getElem?_eq_getElem hid] at hl ⊢
       simpa using hl
      simp [Ty.flats]
      apply List.ext_getElem?
      intro j
      rw [List.getElem?_set]
      split
      ·
       rename_i e; subst e; exact this.symm
      ·
       rfl
     rw [hset]
     have hrun:∃ base cap,vs=.slice base n cap∧n≤cap:=by
      rcases hs with ⟨b,cap,_,rfl,hn,_⟩ | ⟨_,xs,a,_,_,_,rfl,_⟩
      ·
       exact ⟨_,cap,rfl,hn⟩
      ·
       exact ⟨_,n,rfl,Nat.le_refl _⟩
     obtain ⟨base,cap,rfl,hn⟩:=hrun
     exact ⟨_,w,bs,.inl (by rw [Sem.run_bind,show ([]:List ty'.T).length=0 from rfl,app_zero hu hsi o base a2 n cap c2 hn]; rfl),⟨hid,by simpa using hs0⟩,hr,Step.refl _ _ _ _⟩
    | cons y ys =>
     obtain ⟨news,n1,n2,n3,n4⟩:=y3
     obtain ⟨ad2,rfl⟩:=n3 (by simp)
     have hlong:cs.length<(cs++ty'.flats (y::ys)).length:=by
      have h5:1*1≤(y::ys).length*ty'.size:=Nat.mul_le_mul (by simp) hsz
      simp only [List.length_append,flats_length]; omega
     have hlen2:(cs++ty'.flats (y::ys)).length=(n+(y::ys).length)*ty'.size:=by simp only [List.length_append,flats_length,h2,Nat.add_mul]
     have hal:(al || !(y::ys).isEmpty)=true:=by simp
     rw [hal]
     obtain ⟨d1,d2⟩:=hr.keep_drew
     have moved:∀ (base:Option Addr) (cap:Nat) (olds:List Value),vs=.slice base n cap→olds.length=n*ty'.size→(∀ ad,base=some ad→∀ j v,olds[j]?=some v→w.cell? (ad.add j)=some v) →
       (base=none→n=0∧cap=0)→cap<n+(y::ys).length→All2 (fun x u=>relSV w (Mof M0 bs) bs hp x u∧u.oneCell'=true) cs olds →
       Did w M0 bs hp ((do pure (Next.value (← Builtin.append_ #[t,t] o #[vs,.slice (some ad2) (y::ys).length c2])):Sem Next).run P w) (.v (.s (.own ty' id (n+(y::ys).length)))) (hp.set id (.arr true (cs++ty'.flats (y::ys)))):=by
      rintro base cap olds rfl o1 o2 hbase hcap o4
      obtain ⟨cap',rest,g1,g2,rfl,g4⟩:=app_grow (P:=P) hu hi hz o base n cap olds (by rw [o1,hinfo.1]) o2 hbase ad2 (y::ys).length c2 news (by rw [n1,hinfo.1]) (n2 ad2 rfl) (by simp) hcap h4 (by rw [hinfo.2]; exact h3)
      obtain ⟨k1,k2⟩:=d1.move hl _ true (cs++ty'.flats (y::ys)) hlong (grown_blk hr (z:=z) (n:=cap' - (n+(y::ys).length)) (size:=0) e true o4 n4)
      refine ⟨_,_,_,.inl (by rw [Sem.run_bind,g4]; rfl),⟨by simpa using hid,fun al' cs' hl' => ?_⟩,k1,d2.trans k2⟩
      rw [look_set _ _ _ hid,if_pos rfl] at hl'
      simp only [Blk.arr.injEq] at hl'
      obtain ⟨rfl,rfl⟩:=hl'
      refine ⟨by rw [hlen2]; exact Nat.le_refl _,fun _=>.inl ⟨_,cap',by rw [at_set _ _ _ (by have:=hr.len; omega),if_pos rfl],rfl,g1,?_⟩⟩
      refine ⟨_,e,heap_alloc_new _ _,?_,g2⟩
      simp only [Array.size_append,List.size_toArray,size_zeroCells,hzs,o1,n1,← Nat.add_mul]
      congr 1
      omega
     rcases hs with ⟨b,cap,hb,hv,hn,⟨cur,e',q1,q2,q3⟩⟩ | ⟨hb,xs,a,x1,x2,x3,hv,x4⟩
     ·
      obtain ⟨cur',e'',r1,r2⟩:=hr.arr id al cs b hl hb
      rw [q1] at r1
      simp only [Option.some.injEq,Obj.cells.injEq,and_true] at r1
      obtain ⟨rfl,rfl⟩:=r1
      have hncur:n*ty'.size≤cur.size:=by rw [q2]; exact Nat.mul_le_mul_right _ hn
      by_cases hroom:n+(y::ys).length≤cap
      ·
       have hfit:n*ty'.size+news.length≤cur.size:=by rw [q2,n1,← Nat.add_mul]; exact Nat.mul_le_mul_right _ hroom
       have hnone:∀ u∈news,u.oneCell'=true:=fun u hu=>by
        obtain ⟨j,hj⟩:=List.getElem?_of_mem hu
        have hl4:=n4.length
        obtain ⟨x,hx⟩:∃ x,(ty'.flats (y::ys))[j]?=some x:=⟨_,List.getElem?_eq_getElem (by have:=(List.getElem?_eq_some_iff.1 hj).1; omega)⟩
        obtain ⟨u',h1,h2⟩:=n4.get j x hx
        rw [hj] at h1; cases h1; exact h2.2
       subst hv
       have hrun:=app_room (P:=P) hu hi o b n cap cur q1 ad2 (y::ys).length c2 news (by rw [n1,hinfo.1]) (n2 ad2 rfl) hnone hroom (by rw [hinfo.1]; exact hfit)
       rw [hinfo.1] at hrun
       have hnew:(w.setRow b (spl cur.toList (n*ty'.size) news).toArray).heap[b]?=some (.cells (spl cur.toList (n*ty'.size) news).toArray e' (0,0)):=setRow_heap w b cur _ e' (0,0) q1
       obtain ⟨k1,k2⟩:=hr.rewrite hb (setRow_evo (.inr ⟨id,hb⟩)) (fun c hne hlt=>setRow_other w b c _ hne) hnew (.arr true (cs++ty'.flats (y::ys))) ⟨_,e',rfl,fun j x hj=>by
        simp only [List.getElem?_toArray,spl,List.append_assoc]
        rcases Nat.lt_or_ge j cs.length with hlt | hge
        ·
         rw [List.getElem?_append_left hlt] at hj
         obtain ⟨u,k1,k2⟩:=r2 j x hj
         exact ⟨u,by rw [List.getElem?_append_left (by simp; omega),List.getElem?_take,if_pos (by omega)]; simpa using k1,k2⟩
        ·
         rw [List.getElem?_append_right hge] at hj
         obtain ⟨u,k1,k2,k3⟩:=n4.get _ x hj
         have hlt2:=(List.getElem?_eq_some_iff.1 k1).1
         refine ⟨u,?_,k3,k2⟩
         rw [List.getElem?_append_right (by simp; omega),List.getElem?_append_left (by simp; omega)]
         rw [← k1]; congr 1; simp; omega⟩ (by rw [hl]; exact .inl hlong)
       refine ⟨_,_,bs,.inl (by rw [Sem.run_bind,hrun]; rfl),⟨by simpa using hid,fun al' cs' hl' => ?_⟩,k1,k2⟩
       rw [look_set _ _ _ hid,if_pos rfl] at hl'
       simp only [Blk.arr.injEq] at hl'
       obtain ⟨rfl,rfl⟩:=hl'
       refine ⟨by rw [hlen2]; exact Nat.le_refl _,fun _=>.inl ⟨b,cap,hb,rfl,hroom,_,e',hnew,?_,q3⟩⟩
       simp only [List.size_toArray]
       rw [spl_length _ _ _ (by simpa using hfit)]
       simpa using q2
      ·
       refine moved _ cap (cur.toList.take (n*ty'.size)) hv (by simp; omega) (fun ad had j v hj => ?_) (by simp) (by omega) (All2.of_get (by simp; omega) fun j x u hx hu => ?_)
       ·
        injection had with had
        subst had
        rw [List.getElem?_take] at hj
        split at hj
        ·
         rw [addr_add]; simp [World.cell?,q1]; simpa using hj
        ·
         cases hj
       ·
        obtain ⟨u',k1,k2,k3⟩:=r2 j x hx
        rw [List.getElem?_take] at hu
        split at hu
        ·
         simp at hu; rw [k1] at hu; cases hu; exact ⟨k3,k2⟩
        ·
         cases hu
     ·
      obtain ⟨olds,o1,o2,o3,o4⟩:=slice_cells (hp:=hp) x4
      refine moved a n olds hv (by rw [o1,x1]) o2 (fun hn => ?_) (by simp) (by rw [x3]; exact o4)
      cases xs with
      | nil=>simp at x1; omega
      | cons x xs=>obtain ⟨ad,had⟩:=o3 (by simp); rw [hn] at had; cases had
  ·
   simp [nope] at h
 ·
  simp [nope] at h
theorem strCells_rel (z:ByteArray):All2 (fun x u=>relSV w (Mof M0 bs) bs hp x u∧u.oneCell'=true) (Ty.flats (.int .u8) (strL z)) (Lib.strCells z):=by
 unfold strL Lib.strCells
 generalize z.data.toList=l
 induction l with
 | nil=>exact .nil
 | cons x l ih=>exact .cons ⟨rfl,rfl⟩ ih
theorem strL_length (z:ByteArray):(strL z).length=z.size:=by
 rw [strL,List.length_map,Array.length_toList]; rfl
theorem appStrEv_sound (hg:g.ok P) (hr:HR w M0 bs hp) (t u o:TypeId) (s:AV) (z:ByteArray) (vs:Value) (hs:relAV w (Mof M0 bs) bs hp s vs) (h:(appStrEv g hp t u s z).1) :
  Did w M0 bs hp ((do pure (Next.value (← Builtin.append_ #[t,u] o #[vs,.string z])):Sem Next).run P w) (appStrEv g hp t u s z).2.1 (appStrEv g hp t u s z).2.2:=by
 have ht:=G.td_ok hg t
 have hu:=G.td_ok hg u
 unfold appStrEv at h ⊢
 split at h
 ·
  rename_i e bytes id n htd hud
  rw [htd] at ht
  rw [hud] at hu
  obtain ⟨hut,hsz,hinfo,⟨zv,hz,hzs,hzc⟩,_⟩:=ht
  have huu:P.underlying u=some .string:=hu.1
  obtain ⟨i,hi⟩:∃ i,P.info? e=some i:=by cases hi:P.info? e with
   | none=>simp [hi] at hinfo
   | some i=>exact ⟨i,rfl⟩
  simp [hi] at hinfo hz
  split at h
  ·
   rename_i cs hl
   simp only [hl]
   obtain ⟨hby,hcs,h3,h4⟩:=h
   obtain ⟨hid,hs⟩:=hs
   have hs:=(hs true cs hl).2 (by simpa using hcs)
   obtain ⟨b,hb⟩:=hr.al id cs hl
   rcases hs with ⟨b',cap,hb',rfl,hn,⟨cur,e',q1,q2,q3⟩⟩ | ⟨hb',_⟩
   ·
    rw [hb] at hb'; injection hb' with hb'; subst hb'
    obtain ⟨cur',e'',r1,r2⟩:=hr.arr id true cs b hl hb
    rw [q1] at r1
    simp only [Option.some.injEq,Obj.cells.injEq,and_true] at r1
    obtain ⟨rfl,rfl⟩:=r1
    have q2':cur.size=cap:=by simpa using q2
    have hzl:=Lib.strCells_length z
    have hrel:=strCells_rel (w:=w) (M0:=M0) (bs:=bs) (hp:=hp) z
    have hfl:(cs++Ty.flats (.int .u8) (strL z)).length=n+z.size:=by rw [List.length_append,flats_length,strL_length,hcs]; simp
    by_cases hroom:n+z.size≤cap
    ·
     have hrun:(Builtin.append_ #[t,u] o #[.slice (some ⟨b,0,none⟩) n cap,.string z]).run P w=.ok (.slice (some ⟨b,0,none⟩) (n+z.size) cap) (w.setRow b (cur.toList.take n++Lib.strCells z++cur.toList.drop (n+z.size)).toArray):=by
      have hf:=Lib.run_firstCells_string (P:=P) w 1 z
      have hst:=run_storeCells_at P b n e' (Lib.strCells z) 0 cur w q1 (by simpa [hzl] using (by omega)) (Lib.strCells_oneCell z)
      simp only [Nat.add_zero,hzl] at hst
      simp [Builtin.append_,run_underlying hut,run_underlying huu,sizeOf,typeInfo,hi,hinfo.1,Builtin.lenOf,hroom,hf,Addr.add_lit,hst]
     have hnew:=setRow_heap w b cur (cur.toList.take n++Lib.strCells z++cur.toList.drop (n+z.size)).toArray e' (0,0) q1
     obtain ⟨k1,k2⟩:=hr.rewrite hb (setRow_evo (.inr ⟨id,hb⟩)) (fun c hne hlt=>setRow_other w b c _ hne) hnew (.arr true (cs++Ty.flats (.int .u8) (strL z))) ⟨_,e',rfl,fun j x hj=>by
      simp only [List.getElem?_toArray,List.append_assoc]
      rcases Nat.lt_or_ge j cs.length with hlt | hge
      ·
       rw [List.getElem?_append_left hlt] at hj
       obtain ⟨u,k1,k2⟩:=r2 j x hj
       exact ⟨u,by rw [List.getElem?_append_left (by simp; omega),List.getElem?_take,if_pos (by omega)]; simpa using k1,k2⟩
      ·
       rw [List.getElem?_append_right hge] at hj
       obtain ⟨u,k1,k2,k3⟩:=hrel.get _ x hj
       have hlt2:=(List.getElem?_eq_some_iff.1 k1).1
       refine ⟨u,?_,k3,k2⟩
       rw [List.getElem?_append_right (by simp; omega),List.getElem?_append_left (by simp; omega)]
       rw [← k1]; congr 1; simp; omega⟩ (by
      rw [hl]
      show cs.length<_∨_
      rw [hfl,hcs]
      rcases Nat.eq_zero_or_pos z.size with h0 | h0
      ·
       refine .inr ⟨by omega,fun cap' size ⟨cur2,e2,w1,w2,w3⟩ => ?_⟩
       rw [q1] at w1
       injection w1 with w1
       injection w1 with w1 w4
       subst w1
       refine ⟨_,e',hnew,?_,w3⟩
       rw [← w2]
       simp only [List.size_toArray,List.length_append,List.length_take,List.length_drop,Array.length_toList,hzl]
       omega
      ·
       exact .inl (by omega))
     refine ⟨_,_,bs,.inl (by rw [Sem.run_bind,hrun]; rfl),⟨by simpa using hid,fun al' cs' hl' => ?_⟩,k1,k2⟩
     rw [look_set _ _ _ hid,if_pos rfl] at hl'
     simp only [Blk.arr.injEq] at hl'
     obtain ⟨rfl,rfl⟩:=hl'
     refine ⟨by rw [hfl]; simp,fun _=>.inl ⟨b,cap,hb,rfl,hroom,_,e',hnew,?_,q3⟩⟩
     simp only [List.size_toArray,List.length_append,List.length_take,List.length_drop,Array.length_toList,hzl]
     omega
    ·
     have hlong:cs.length<(cs++Ty.flats (.int .u8) (strL z)).length:=by omega
     have hold:All2 (fun x u=>relSV w (Mof M0 bs) bs hp x u∧u.oneCell'=true) cs (cur.toList.take n):=by
      refine All2.of_get (by simp only [List.length_take,Array.length_toList,q2',hcs]; omega) fun j x u hx hu => ?_
      obtain ⟨u',k1,k2,k3⟩:=r2 j x hx
      rw [List.getElem?_take] at hu
      split at hu
      ·
       rw [Array.getElem?_toList,k1] at hu; cases hu; exact ⟨k3,k2⟩
      ·
       cases hu
     obtain ⟨d1,d2⟩:=hr.keep_drew
     have hrun:=Lib.run_append_grow_string (P:=P) w t u o e i zv hut huu hi hz ⟨b,0,none⟩ n cap (cur.toList.take n) (by rw [hinfo.1]; simp; omega) (fun j v hj=>by
      rw [List.getElem?_take] at hj
      split at hj
      ·
       rw [addr_add]
       simpa [World.cell?,q1] using hj
      ·
       cases hj) z (by omega) (by simp only [maxLen] at h4; omega) (growslice_fits (by omega) (by rw [hinfo.2,hby]; omega))
     obtain ⟨k1,k2⟩:=d1.move hl _ true (cs++Ty.flats (.int .u8) (strL z)) hlong (grown_blk hr (z:=zv) (n:=grownCap w (n+z.size) cap e - (n+z.size)) (size:=0) e true hold hrel)
     refine ⟨_,_,_,.inl (by rw [Sem.run_bind,hrun]; rfl),⟨by simpa using hid,fun al' cs' hl' => ?_⟩,k1,d2.trans k2⟩
     rw [look_set _ _ _ hid,if_pos rfl] at hl'
     simp only [Blk.arr.injEq] at hl'
     obtain ⟨rfl,rfl⟩:=hl'
     have hge:=grownCap_ge w (n+z.size) cap e
     refine ⟨by rw [hfl]; simp,fun _=>.inl ⟨_,grownCap w (n+z.size) cap e,by rw [at_set _ _ _ (by have:=hr.len; omega),if_pos rfl],rfl,hge,?_⟩⟩
     refine ⟨_,e,heap_alloc_new _ _,?_,grownCap_le_maxLen _ _ _ _ h4⟩
     have hz1:zv.cells.size=1:=by rw [hzs]
     simp only [Array.size_append,List.size_toArray,size_zeroCells,hz1,hzl,List.length_take,Array.length_toList]
     simp
     omega
   ·
    rw [hb] at hb'; cases hb'
  ·
   simp [nope] at h
 ·
  simp [nope] at h
theorem appendEv1_sound (hg:g.ok P) (hr:HR w M0 bs hp) (t o:TypeId) (s y:AV) (vs vy:Value) (hs:relAV w (Mof M0 bs) bs hp s vs) (hy:relAV w (Mof M0 bs) bs hp y vy) (h:(appendEv1 g hp t s y).1) :
  Did w M0 bs hp ((do pure (Next.value (← Builtin.append_ #[t,t] o #[vs,vy])):Sem Next).run P w) (appendEv1 g hp t s y).2.1 (appendEv1 g hp t s y).2.2:=by
 unfold appendEv1 at h ⊢
 split at h
 ·
  rename_i ty id n m
  split at h
  ·
   rename_i cs hl
   obtain ⟨hc,h⟩:=h
   obtain ⟨hid,hmn,hs⟩:=hs
   obtain ⟨b,cap,k1,rfl,k3,k4⟩:=(hs true cs hl).2 hc
   obtain ⟨r1,r2⟩:=hr.cut hl k1 (cs':=cs.take (m*ty.size)) (fun j x hj=>by
    rw [List.getElem?_take] at hj
    split at hj
    ·
     exact hj
    ·
     cases hj)
   have hmul:=Nat.mul_le_mul_right ty.size hmn
   have hown:relAV w (Mof M0 (bs.set id none++[some b])) (bs.set id none++[some b]) (hp.set id .dead++[.arr true (cs.take (m*ty.size))]) (.s (.own ty hp.length m)) (.slice (some ⟨b,0,none⟩) m cap):=by
    refine ⟨by simp,fun al cs' hl' => ?_⟩
    rw [look_push,if_pos (by simp)] at hl'
    injection hl' with _ hl'
    subst hl'
    rw [List.length_take]
    refine ⟨by omega,fun _=>.inl ⟨b,cap,?_,rfl,by omega,k4⟩⟩
    rw [at_push,if_pos (by simp [hr.len])]
   obtain ⟨z,w',bs',q1,q2,q3,q4⟩:=appendEv0_sound hg r1 t o _ y _ vy hown (.of (relAV_step r2 _ _ hy)) h
   exact ⟨z,w',bs',q1,q2,q3,r2.trans q4⟩
  ·
   simp [nope] at h
 ·
  exact appendEv0_sound hg hr t o s y vs vy hs (.of hy) h
theorem suf_cells (hr:HR w M0 bs hp) {t:Ty} {id n k:Nat} {al:Bool} {cs:List SV} {ys:List t.T} {vy:Value} (hl:Blk.look hp id=.arr al cs) (hlen:cs.length=n*t.size) (hp':t.parses n cs=some ys)
  (hy:relSV w (Mof M0 bs) bs hp (.suf t id n k) vy):TailOf w M0 bs hp (.s (.sl t (ys.drop k) false)) vy:=by
 obtain ⟨hid,hkn,hs⟩:=hy
 obtain ⟨b,cap,a,k1,rfl,k5,k3,⟨cur,e,q1,q2,q3⟩⟩:=(hs al cs hl).2 hlen
 obtain ⟨cur',e',r1,r2⟩:=hr.arr id al cs b hl k1
 rw [q1] at r1
 simp only [Option.some.injEq,Obj.cells.injEq,and_true] at r1
 obtain ⟨rfl,rfl⟩:=r1
 have hus:∃ us:List Value,All2 (relSV w (Mof M0 bs) bs hp) cs us∧∀ (j:Nat) (v:Value),us[j]?=some v→cur[j]?=some v:=by
  refine ⟨cur.toList.take cs.length,All2.of_get ?_ (fun i x u hx hu => ?_),fun j v hj => ?_⟩
  ·
   have h1:cur.toList.length=cap*t.size:=by rw [Array.length_toList]; exact q2
   have:=Nat.mul_le_mul_right t.size k3
   rw [List.length_take,h1]
   omega
  ·
   obtain ⟨u',r1,r2,r3⟩:=r2 i x hx
   have hi:=(List.getElem?_eq_some_iff.1 hx).1
   rw [List.getElem?_take_of_lt hi,Array.getElem?_toList,r1] at hu
   cases hu; exact r3
  ·
   have hj':j<cs.length:=by
    have:=(List.getElem?_eq_some_iff.1 hj).1
    rw [List.length_take] at this
    omega
   rw [List.getElem?_take_of_lt hj',Array.getElem?_toList] at hj
   exact hj
 obtain ⟨us,u1,u2⟩:=hus
 obtain ⟨s1,s2⟩:=parses_rows t n cs ys us hp' u1
 obtain ⟨news,n1,n2,n3⟩:=row_cells (w:=w) (M:=Mof M0 bs) (bs:=bs) (hp:=hp) (t:=t) (xs:=ys.drop k) (b:=b) (off:=0) k (fun i x hx=>by
  rw [List.getElem?_drop] at hx
  obtain ⟨cs',t1,t2,t3⟩:=s2 _ x hx
  refine ⟨cs',t1,t2,fun j v hj => ?_⟩
  have:=u2 _ _ (t3 j v hj)
  simp only [World.cell?,q1,Nat.zero_add]
  exact this)
 intro ty ys' ex e1
 injection e1 with e1
 injection e1 with e1 e2 _
 subst e1
 obtain rfl:=eq_of_heq e2
 have hlen':(ys.drop k).length=n - k:=by rw [List.length_drop,s1]
 refine ⟨a,_,by rw [hlen'],news,n1,fun ad had j v hj => ?_,fun hpos => ?_,n3⟩
 ·
  have hlt:k<n:=by
   have h0:=(List.getElem?_eq_some_iff.1 hj).1
   rw [n1,hlen'] at h0
   rcases Nat.lt_or_ge k n with h | h
   ·
    exact h
   ·
    rw [show n - k=0 by omega,Nat.zero_mul] at h0; omega
  rw [k5 hlt] at had
  injection had with had
  subst had
  have:=n2 j v hj
  rw [addr_add,← this]
  congr 2
  omega
 ·
  rw [hlen'] at hpos
  exact ⟨_,k5 (by omega)⟩
theorem zeros_rel (ety:Ty) (hsz:0<ety.size) (z:Array Value) (hz:z.size=ety.size) (hzc:z=ety.zcells.toArray) (k:Nat) :
  All2 (fun x u=>relSV w (Mof M0 bs) bs hp x u∧u.oneCell'=true) (ety.flats (List.replicate k ety.dflt)) (Builtin.zeroCells z k).toList:=by
 refine All2.of_get ?_ (fun j s v hj hv => ?_)
 ·
  simp [Builtin.zeroCells,flats_length,hz]
 ·
  have hj2:=(List.getElem?_eq_some_iff.1 hj).1
  rw [flats_length,List.length_replicate] at hj2
  rw [flats_rep _ _ _ _ hj2] at hj
  have hz2:=rep_flat (bs:=bs) (hp:=hp) ety ety.dflt _ (rep_dflt (w:=w) (M:=Mof M0 bs) ety)
  obtain ⟨q,q1,q2,q3⟩:=hz2.get _ _ hj
  have hk':j % ety.size<z.size:=by rw [hz]; exact Nat.mod_lt _ hsz
  have hv':v=z[j % ety.size]! := by
   have:(Builtin.zeroCells z k)[j]?=some v:=by rw [← hv]; simp
   unfold Builtin.zeroCells at this
   simp [hz,hj2] at this
   exact this.symm
  rw [getElem!_pos z _ hk'] at hv'
  have hq:q=v:=by
   rw [hv']
   have:z[j % ety.size]?=some q:=by rw [hzc]; simpa using q1
   rw [Array.getElem?_eq_getElem hk'] at this
   injection this with this
   exact this.symm
  rw [← hq]
  exact ⟨q2,q3⟩
theorem zapEv_sound (hg:g.ok P) (hr:HR w M0 bs hp) (t u o:TypeId) (s:AV) (n:Int) (vs:Value) (hs:relAV w (Mof M0 bs) bs hp s vs) (h:(zapEv g hp t u s n).1) :
  Did w M0 bs hp ((do pure (Next.value (← Builtin.append_ #[t,u] o #[vs,.int .i64 n])):Sem Next).run P w) (zapEv g hp t u s n).2.1 (zapEv g hp t u s n).2.2:=by
 have ht:=G.td_ok hg t
 have hu:=G.td_ok hg u
 unfold zapEv at h ⊢
 split at h
 ·
  rename_i e ety bytes ty htd hud
  rw [htd] at ht
  rw [hud] at hu
  obtain ⟨hun,hsz,hinfo,⟨z,hz,hzs,hzc⟩,_⟩:=ht
  have hu1:P.underlying u=some (.int .i64):=hu.1
  obtain ⟨i,hi⟩:∃ i,P.info? e=some i:=by cases hi:P.info? e with
   | none=>simp [hi] at hinfo
   | some i=>exact ⟨i,rfl⟩
  simp [hi] at hinfo hz
  obtain ⟨rfl,h1,h2,h3⟩:=h
  obtain ⟨a,c,rfl,x1,x2,x3,x4⟩:=hs
  have hc:=x3 rfl
  subst hc
  obtain ⟨k,rfl⟩:∃ k:Nat,n=k:=⟨n.toNat,by omega⟩
  rw [Int.toNat_natCast]
  have hb:k*i.bytes≤140737488355328:=by
   have:((k*i.bytes:Nat):Int)=(k:Int)*i.bytes:=Int.natCast_mul _ _
   rw [hinfo.2] at this ⊢
   omega
  have h63:k≤9223372036854775807:=by simp only [maxLen] at h3; omega
  have hnx:Builtin.nextslicecap (0+k) 0=k:=by unfold Builtin.nextslicecap; rw [if_pos (by omega)]; omega
  have hrun:=Lib.run_append_grow_zeros (P:=P) w t u o e i z .i64 .i64 hun hu1 hi hz a 0 0 [] (by cases a <;> simp [Builtin.firstCells,loadCells,loadCellsFrom]) k (by omega) (by rw [hinfo.1]; exact hsz) (by omega) (by omega) (by omega) (by rw [hnx]; omega)
  obtain ⟨d1,d2⟩:=hr.keep_drew
  have hall:=zeros_rel (w:=w) (M0:=M0) (bs:=bs) (hp:=hp) ty hsz z.cells hzs hzc k
  obtain ⟨k1,k2⟩:=d1.push _ (.arr true (ty.flats (List.replicate k ty.dflt))) (grown_blk hr (z:=z) (n:=grownCap w (0+k) 0 e - (0+k)) (size:=0) e true (All2.nil (R:=fun x u=>relSV w (Mof M0 bs) bs hp x u∧u.oneCell'=true)) hall)
  refine ⟨_,_,_,.inl (by rw [Sem.run_bind,show ([]:List ty.T).length=0 from rfl,hrun]; rfl),⟨by simp,fun al cs hl => ?_⟩,by simpa using k1,by simpa using d2.trans k2⟩
  rw [look_push,if_pos rfl] at hl
  simp only [Blk.arr.injEq] at hl
  obtain ⟨rfl,rfl⟩:=hl
  have hge:=grownCap_ge w (0+k) 0 e
  have hle:=grownCap_le_maxLen w (0+k) 0 e (by rw [Nat.zero_add]; omega)
  refine ⟨by simp [flats_length],fun _=>.inl ⟨_,grownCap w (0+k) 0 e,by rw [at_push,if_pos (by have:=hr.len; omega)],by rw [Nat.zero_add],by omega,?_⟩⟩
  refine ⟨_,e,heap_alloc_new _ _,?_,hle⟩
  rw [Nat.zero_add] at hge ⊢
  simp only [Array.size_append,List.size_toArray,size_zeroCells,hzs,List.length_nil,Nat.zero_add,← Nat.add_mul]
  congr 1
  omega
 ·
  simp [nope] at h
theorem appendEv_sound (hg:g.ok P) (hr:HR w M0 bs hp) (t o:TypeId) (s y:AV) (vs vy:Value) (hs:relAV w (Mof M0 bs) bs hp s vs) (hy:relAV w (Mof M0 bs) bs hp y vy) (h:(appendEv g hp t s y).1) :
  Did w M0 bs hp ((do pure (Next.value (← Builtin.append_ #[t,t] o #[vs,vy])):Sem Next).run P w) (appendEv g hp t s y).2.1 (appendEv g hp t s y).2.2:=by
 unfold appendEv at h ⊢
 split at h
 ·
  rename_i ty id n k
  split at h
  ·
   rename_i al cs hl
   split at h
   ·
    rename_i ys hps
    obtain ⟨hc,h⟩:=h
    exact appendEv0_sound hg hr t o s _ vs vy hs (suf_cells hr hl hc hps hy) h
   ·
    simp [nope] at h
  ·
   simp [nope] at h
 ·
  exact appendEv1_sound hg hr t o s y vs vy hs hy h
end
end Go.Am
namespace Go.Am
open Go.RowKit
theorem parses_flat (t:Ty):∀ (x:t.T) (l:List SV),t.parse (t.flat x++l)=some (x,l):=by
 induction t with
 | int k=>intro x l; simp [Ty.flat,Ty.parse]
 | bool=>intro x l; simp [Ty.flat,Ty.parse]
 | str=>intro x l; simp [Ty.flat,Ty.parse]
 | fn=>intro x l; simp [Ty.flat,Ty.parse]
 | slice t=>intro x l; simp [Ty.flat,Ty.parse]
 | nil=>intro x l; simp [Ty.flat,Ty.parse]
 | cons t r iht ihr =>
  intro x l
  simp only [Ty.flat,Ty.parse,List.append_assoc]
  rw [iht,]
  simp only [ihr]
 | tree h ih =>
  intro x l
  simp only [Ty.flat,Ty.parse,List.append_assoc]
  rw [ih]
  simp [mk_eta]
theorem parses_flats (t:Ty) (xs:List t.T):t.parses xs.length (t.flats xs)=some xs:=by
 induction xs with
 | nil=>rfl
 | cons x xs ih=>simp only [List.length_cons,Ty.parses,Ty.flats,parses_flat,ih]
theorem kill_blkH {w:World} {M0:Nat→Prop} {bs:Bs} {hp:List Blk} (hr:HR w M0 bs hp) {id:Nat} (hid:id<hp.length) (hnm:∀ k u es,Blk.look hp id≠.map k u es) :
  HR w M0 (bs.set id none) (hp.set id .dead)∧Step false w (Mof M0 bs) bs hp w (Mof M0 (bs.set id none)) (bs.set id none) (hp.set id .dead) ∧
   (∀ j b,Bs.at (bs.set id none) j=some b→j≠id∧bs.at j=some b)∧Evo (Mof M0 bs) (Mof M0 (bs.set id none)) w w:=by
 have hid':id<bs.length:=by rw [hr.len]; exact hid
 have hat:∀ j,Bs.at (bs.set id none) j=if j=id then none else bs.at j:=fun j=>at_set id _ j hid'
 have hlk:∀ j,Blk.look (hp.set id .dead) j=if j=id then .dead else Blk.look hp j:=fun j=>look_set id _ j hid
 have hat':∀ j b,Bs.at (bs.set id none) j=some b→j≠id∧bs.at j=some b:=by
  intro j b h
  rw [hat] at h
  split at h
  ·
   cases h
  ·
   exact ⟨by assumption,h⟩
 have hlk':∀ j x,Blk.look (hp.set id .dead) j=x→x≠.dead→j≠id∧Blk.look hp j=x:=by
  intro j x h hne
  rw [hlk] at h
  split at h
  ·
   exact absurd h.symm hne
  ·
   exact ⟨by assumption,h⟩
 have hmof:∀ b,Mof M0 (bs.set id none) b→Mof M0 bs b:=by
  rintro b (h | ⟨j,h⟩)
  ·
   exact .inl h
  ·
   exact .inr ⟨j,(hat' j b h).2⟩
 have he:Evo (Mof M0 bs) (Mof M0 (bs.set id none)) w w:=Evo.more w fun b _=>hmof b
 have hst:Step false w (Mof M0 bs) bs hp w (Mof M0 (bs.set id none)) (bs.set id none) (hp.set id .dead):=by
  refine ⟨he,by simp,?_,?_,?_,fun _=>⟨fun _ _ _=>rfl,fun b hb hn j h=>hn j (hat' j b h).2,fun j l ys i st h => ?_⟩⟩
  ·
   intro j cs h1 h2
   obtain ⟨hne,h2⟩:=hlk' j _ h2 (by simp)
   exact ⟨⟨cs,h2⟩,by rw [hat,if_neg hne]⟩
  ·
   intro j b k u es h1 h2
   have hne:j≠id:=fun e=>by subst e; exact hnm _ _ _ h2
   rw [hat,hlk,if_neg hne,if_neg hne]
   exact ⟨h1,es,h2⟩
  ·
   intro j al' cs' hj h
   obtain ⟨hne,h⟩:=hlk' j _ h (by simp)
   exact ⟨al',cs',h,.inr ⟨rfl,by rw [hat,if_neg hne],fun _=>rfl,fun c hc cap size ho=>ho⟩⟩
  ·
   exact (hlk' j _ h (by simp)).2
 refine ⟨⟨by simp [hr.len],hr.m0,fun j b h=>hr.lt j b (hat' j b h).2,fun i j b h1 h2=>hr.inj i j b (hat' i b h1).2 (hat' j b h2).2,fun j b h=>hr.out j b (hat' j b h).2,?_,?_,?_,?_,hr.gl.evo he⟩,hst,hat',he⟩
 ·
  intro j cs h
  obtain ⟨hne,h⟩:=hlk' j _ h (by simp)
  obtain ⟨b,hb⟩:=hr.al j cs h
  exact ⟨b,by rw [hat,if_neg hne]; exact hb⟩
 ·
  intro j cs h
  obtain ⟨hne,h⟩:=hlk' j _ h (by simp)
  obtain ⟨b,cur,e,h1,h2,h3,h4⟩:=hr.cells j cs h
  refine ⟨b,cur,e,by rw [hat,if_neg hne]; exact h1,h2,h3,fun i x hi => ?_⟩
  obtain ⟨u,k1,k2,k3⟩:=h4 i x hi
  exact ⟨u,k1,k2,relSV_step hst x u k3⟩
 ·
  intro j al' cs b h hb
  obtain ⟨hne,h⟩:=hlk' j _ h (by simp)
  obtain ⟨cur,e,h2,h4⟩:=hr.arr j al' cs b h (hat' j b hb).2
  refine ⟨cur,e,h2,fun i x hi => ?_⟩
  obtain ⟨u,k1,k2,k3⟩:=h4 i x hi
  exact ⟨u,k1,k2,relSV_step hst x u k3⟩
 ·
  intro j k v es h
  obtain ⟨hne,h⟩:=hlk' j _ h (by simp)
  obtain ⟨b,ents,clock,h1,h2,h3⟩:=hr.map j k v es h
  exact ⟨b,ents,clock,by rw [hat,if_neg hne]; exact h1,h2,h3.imp fun x m hm=>⟨hm.1,repV_evo he hm.2⟩⟩
theorem freeze_blkH {w:World} {M0:Nat→Prop} {bs:Bs} {hp:List Blk} (hr:HR w M0 bs hp) {id:Nat} {al:Bool} {t:Ty} {xs:List t.T} (hl:Blk.look hp id=.arr al (t.flats xs)) :
  HR w M0 (bs.set id none) (hp.set id .dead)∧Step false w (Mof M0 bs) bs hp w (Mof M0 (bs.set id none)) (bs.set id none) (hp.set id .dead) ∧
   ∀ v,relSV w (Mof M0 bs) bs hp (.own t id xs.length) v→relSV w (Mof M0 (bs.set id none)) (bs.set id none) (hp.set id .dead) (.sl t xs false) v:=by
 have hid:id<hp.length:=look_lt (by rw [hl]; simp)
 obtain ⟨g1,g3,hat',he⟩:=kill_blkH hr hid (by rw [hl]; intro _ _ _ h; cases h)
 refine ⟨g1,g3,?_⟩
 ·
  intro v hv
  rcases (hv.2 al _ hl).2 (flats_length t xs) with ⟨b,cap,k1,rfl,k3,k4⟩ | ⟨k1,ys,a,k2,k3,k4,rfl,k6⟩
  ·
   obtain ⟨cur,e,q1,q2⟩:=hr.arr id al _ b hl k1
   obtain ⟨cur',e',q3,q4,q5⟩:=k4
   rw [q1] at q3
   injection q3 with q3; injection q3 with q3 _ _
   subst q3
   refine ⟨some ⟨b,0,none⟩,cap,rfl,k3,q5,by simp,.inr ⟨b,0,rfl,?_,hr.lt id b k1,fun i x hi => ?_⟩⟩
   ·
    rintro (h | ⟨j,h⟩)
    ·
     exact hr.out id b k1 h
    ·
     obtain ⟨hne,h⟩:=hat' j b h
     exact hne (hr.inj j id b h k1)
   ·
    have hus:∃ us:List Value,All2 (relSV w (Mof M0 bs) bs hp) (t.flats xs) us∧∀ (j:Nat) (v:Value),us[j]?=some v→cur[j]?=some v:=by
     refine ⟨cur.toList.take (t.flats xs).length,All2.of_get ?_ (fun i x u hx hu => ?_),fun j v hj => ?_⟩
     ·
      have h1:cur.toList.length=cap*t.size:=by rw [Array.length_toList]; exact q4
      have:=Nat.mul_le_mul_right t.size k3
      rw [List.length_take,h1,flats_length]
      omega
     ·
      obtain ⟨u',r1,r2,r3⟩:=q2 i x hx
      have hi:=(List.getElem?_eq_some_iff.1 hx).1
      rw [List.getElem?_take_of_lt hi,Array.getElem?_toList,r1] at hu
      cases hu; exact r3
     ·
      have hj':j<(t.flats xs).length:=by
       have:=(List.getElem?_eq_some_iff.1 hj).1
       rw [List.length_take] at this
       omega
      rw [List.getElem?_take_of_lt hj',Array.getElem?_toList] at hj
      exact hj
    obtain ⟨us,r1,r2⟩:=hus
    obtain ⟨s1,s2⟩:=parses_rows t xs.length _ xs us (parses_flats t xs) r1
    obtain ⟨cs',t1,t2,t3⟩:=s2 i x hi
    refine ⟨cs',t1,rep_evo he _ _ _ t2,fun j v hj => ?_⟩
    have:=r2 _ _ (t3 j v hj)
    simp only [World.cell?,q1,Nat.zero_add]
    exact this
  ·
   have:ys=xs:=by
    have h1:=parses_flats t xs
    rw [k4,← k2,parses_flats] at h1
    injection h1
   subst this
   exact ⟨a,ys.length,rfl,Nat.le_refl _,k3,by simp,k6.evo he⟩
def Ty.unfl (t:Ty) (n:Nat) (cs:List SV):Option (List t.T):=t.parses n cs
theorem unfl_flats {t:Ty} {xs:List t.T} {n:Nat} (h:xs.length=n):t.unfl n (t.flats xs)=some xs:=by subst h; exact parses_flats t xs
theorem unfl_cons {x:Int} {xs:List Int}:(Ty.int .i64).unfl (1+xs.length) ((Ty.int .i64).flats (x::xs))=some (x::xs):=unfl_flats (t:=.int .i64) (by rw [List.length_cons,Nat.add_comm])
def fzEv (r:Prop×RV×List Blk):Prop×RV×List Blk :=
 match r with
 | (p,.v (.s (.own ty id n)),hp)=>match Blk.look hp id with
  | .arr _ cs=>match ty.unfl n cs with
   | some xs=>(p∧cs=ty.flats xs∧n=xs.length,.v (.s (.sl ty xs false)),hp.set id .dead)
   | none=>nope hp
  | _=>nope hp
 | (_,_,hp)=>nope hp
def isFz (g:G):Operand→Bool
 | .tmp n=>g.fz.contains n
 | _=>false
theorem Did.fz {w:World} {M0:Nat→Prop} {bs:Bs} {hp:List Blk} {res:Result Next} {p:Prop} {rv:RV} {hp':List Blk} (h:p→Did w M0 bs hp res rv hp') (hk:(fzEv (p,rv,hp')).1):Did w M0 bs hp res (fzEv (p,rv,hp')).2.1 (fzEv (p,rv,hp')).2.2:=by
 unfold fzEv at hk ⊢
 split at hk
 ·
  rename_i p' ty id n hp'' heq
  injection heq with e1 heq
  injection heq with e2 e3
  subst e1; subst e2; subst e3
  split at hk
  ·
   rename_i al cs hl
   split at hk
   ·
    rename_i xs hpz
    obtain ⟨k1,k2,k3⟩:=hk
    subst k3
    rw [k2] at hl
    obtain ⟨z,w',bs',hres,hrel,hr',hst⟩:=h k1
    obtain ⟨g1,g2,g3⟩:=freeze_blkH hr' hl
    simp only [hl,Ty.unfl,parses_flats]
    exact ⟨z,w',bs'.set id none,hres,g3 z hrel,g1,hst.trans g2⟩
   ·
    simp [nope] at hk
  ·
   simp [nope] at hk
 ·
  simp [nope] at hk
def FW (r:Option Nat):Fence:={ fn:=fun _=>True,depth:=none,alive:=false,round:=r }
abbrev Env:=List (Nat×SL)
def junk:SL:=⟨true,.v (.s .any)⟩
def getE (e:Env) (s:Nat):SL:=(look e s).getD junk
def constRV:Value→RV
 | .bool b=>.v (.s (.bool b))
 | .int k n=>.v (.s (.int k n))
 | .string s=>.v (.s (.str s))
 | v=>.v (.s (.val v))
def oper (e:Env):Operand→SL
 | .tmp t=>getE e t
 | .const v=>⟨true,constRV v⟩
 | .func f=>⟨true,.v (.s (.fnp f []))⟩
 | .global n=>match look globs n with
  | some c=>⟨true,.v (.s (.eptr c.1 c.2))⟩
  | none=>junk
def opRV (e:Env) (x:Operand):RV:=(oper e x).v
def putE (d:Option Nat) (x:SL) (e:Env):Env :=
 match d with
 | some d=>(d,x)::e
 | none=>e
def allOk (e:Env):List Operand→Prop
 | []=>True
 | x::r=>(oper e x).ok=true∧allOk e r
def okOps (e:Env):Op→Prop
 | .pick c a b=>(oper e c).ok=true∧(match opRV e c with
  | .v (.s (.bool q))=>(q=true→(oper e a).ok=true)∧(q=false→(oper e b).ok=true)
  | _=>False)
 | op=>allOk e op.operands.toList
def SV.pure:SV→Bool
 | .box _ _=>false
 | .own _ _ _=>false
 | .eown _ _ _ _=>false
 | .pre _ _ _ _=>false
 | .suf _ _ _ _=>false
 | .fn _ caps=>caps.isEmpty
 | .mp _=>false
 | .ib _ _=>false
 | .part _ _ _ _ _=>false
 | .bbx _ _ _=>false
 | _=>true
def AV.pure:AV→Bool
 | .s x=>x.pure
 | .agg cs=>cs.all SV.pure
def argsEv (g:G) (e:Env):List Operand→List TypeId→List AV
 | x::xs,t::ts=>coeA g t (opRV e x)::argsEv g e xs ts
 | x::xs,[]=>(opRV e x).av::argsEv g e xs []
 | [],_=>[]
def callEv (g:G) (f:FuncId) (args:List AV):Prop×RV :=
 match look g.Γ f with
 | some c=>(c.pre args∧args.all AV.pure=true,c.val args)
 | none=>(False,.v (.s .any))
def boxCap (hp:List Blk) (id:Nat):Option (Sigma Ty.T):=match Blk.look hp id with
 | .cells [x]=>x.sig
 | .cells cs=>sigs cs
 | _=>none
def boxCaps (hp:List Blk):List Nat→Option (List (Sigma Ty.T))
 | []=>some []
 | id::r=>match boxCap hp id,boxCaps hp r with
  | some c,some cs=>some (c::cs)
  | _,_=>none
def capAV (c:Sigma Ty.T):AV:=.s (.eptr c.1 c.2)
def SV.scalar:SV→Bool
 | .bool _=>true
 | .int _ _=>true
 | .str _=>true
 | _=>false
def AV.scalar:AV→Bool
 | .s x=>x.scalar
 | .agg cs=>cs.all SV.scalar
def RV.scalar:RV→Bool
 | .v x=>x.scalar
 | .tup xs=>xs.all AV.scalar
def callVal (g:G) (hp:List Blk) (f:RV) (args:List AV):Prop×RV :=
 match f with
 | .v (.s (.fn f []))=>callEv g f args
 | .v (.s (.fnp f caps))=>callEv g f (args++caps.map capAV)
 | .v (.s (.fn f ids))=>match boxCaps hp ids with
  | some caps=>((callEv g f (args++caps.map capAV)).1∧(callEv g f (args++caps.map capAV)).2.scalar=true,(callEv g f (args++caps.map capAV)).2)
  | none=>(False,.v (.s .any))
 | .v (.s (.fv x))=>match x.parts with
  | some (f,caps)=>callEv g f (args++caps.map capAV)
  | none=>match x.bpart with
   | some (f,c)=>(((c.1.nfld≠0∨c.1.size=1)∧(callEv g f (c.1.av c.2::args)).1),(callEv g f (c.1.av c.2::args)).2)
   | none=>(False,.v (.s .any))
 | _=>(False,.v (.s .any))
def borSV (hp:List Blk):SV→Option SV
 | .part t id off n _=>match Blk.look hp id with
  | .cells cs=>if off+n*t.size≤cs.length then (t.parses n (takeAt cs off (n*t.size))).map fun xs=>.sl t xs false else none
  | _=>none
 | .own t id n=>match Blk.look hp id with
  | .arr _ cs=>if cs.length=n*t.size then (t.parses n cs).map fun xs=>.sl t xs false else none
  | _=>none
 | .box id 0=>(boxCap hp id).map fun c=>.eptr c.1 c.2
 | x=>if x.pure then some x else none
def borAV (hp:List Blk):AV→Option AV
 | .s x=>(borSV hp x).map .s
 | .agg cs=>if cs.all SV.pure then some (.agg cs) else none
def borAll (hp:List Blk):List AV→Option (List AV)
 | []=>some []
 | x::r=>match borAV hp x,borAll hp r with
  | some y,some s=>some (y::s)
  | _,_=>none
def callBor (g:G) (hp:List Blk) (f:RV) (args:List AV):Prop×RV :=
 match borAll hp args with
 | some args'=>((callVal g hp f args').1∧(callVal g hp f args').2.scalar=true,(callVal g hp f args').2)
 | none=>(False,.v (.s .any))
def callAny (g:G) (hp:List Blk) (f:RV) (args:List AV):Prop×RV :=
 match g.bo with
 | true=>callBor g hp f args
 | false=>callVal g hp f args
def pEv (g:G) (hp:List Blk) (e:Env) (t:TypeId):Op→Prop×RV
 | .buildSlice u len ps=>((buildSliceEv g hp u len (ps.toList.map fun p=>(p.1,(opRV e p.2).av))).1,(buildSliceEv g hp u len (ps.toList.map fun p=>(p.1,(opRV e p.2).av))).2.1)
 | .build u ps=>((buildEv g hp u (ps.toList.map fun p=>(p.1,(opRV e p.2).av))).1,(buildEv g hp u (ps.toList.map fun p=>(p.1,(opRV e p.2).av))).2.1)
 | .call { callee:=.value f,args:=xs,argTypes:=ts }=>callAny g hp (opRV e f) (argsEv g e xs.toList ts.toList)
 | .convert s d x=>cvEv g s d (opRV e x).av
 | op=>qEv g hp (opRV e) t op
def isMem0:Op→Bool
 | .alloc _=>true
 | .box _ _=>true
 | .store _ _ _=>true
 | .makeMap _ _=>true
 | .makeSlice _ _ _=>true
 | .mapUpdate _ _ _ _=>true
 | .insert _ _ _ _=>true
 | .call { callee:=.builtin .append,.. }=>true
 | .call { callee:=.builtin .copy,.. }=>true
 | _=>false
def isMem (ye:Bool×List FuncId):Op→Bool
 | .call { callee:=.value (.tmp _),.. }=>ye.1
 | .call { callee:=.value (.func f),.. }=>ye.2.contains f
 | op=>isMem0 op
def mapUpdateEv (g:G) (hp:List Blk) (t:TypeId) (m k v:AV):Prop×RV×List Blk :=
 match g.td t,m with
 | .map _ _ kt vt,.s (.mp id)=>match Blk.look hp id with
  | .map kt' vt' es=>match kt'.of k,vt'.of (coeTy vt' v) with
   | some key,some val=>(kt'=kt∧vt'=vt,.v (.s .any),hp.set id (.map kt' vt' (mput kt'.beq key val es)))
   | _,_=>nope hp
  | _=>nope hp
 | _,_=>nope hp
def appendArgs (g:G) (hp:List Blk) (e:Env):List Operand→List TypeId→Prop×RV×List Blk
 | [s,y],[t,u]=>match isFz g s with
  | true=>fzEv ((t=u∧(appendEv g hp t (coeA g t (opRV e s)) (coeA g t (opRV e y))).1),(appendEv g hp t (coeA g t (opRV e s)) (coeA g t (opRV e y))).2.1,(appendEv g hp t (coeA g t (opRV e s)) (coeA g t (opRV e y))).2.2)
  | false=>match opRV e y with
   | .v (.s (.int .i64 n))=>zapEv g hp t u (coeA g t (opRV e s)) n
   | .v (.s (.str z))=>appStrEv g hp t u (coeA g t (opRV e s)) z
   | _=>((t=u∧(appendEv g hp t (coeA g t (opRV e s)) (coeA g t (opRV e y))).1),(appendEv g hp t (coeA g t (opRV e s)) (coeA g t (opRV e y))).2)
 | _,_=>nope hp
def copyArgs (g:G) (hp:List Blk) (e:Env):List Operand→List TypeId→Prop×RV×List Blk
 | [d,s],[t,u]=>copyEv g hp t (coeA g t (opRV e d)) (coeA g u (opRV e s))
 | _,_=>nope hp
def plainTD:TD→Bool
 | .other=>false
 | .map ..=>false
 | .eqs _=>false
 | _=>true
def mEv (g:G) (hp:List Blk) (e:Env):Op→Prop×RV×List Blk
 | .alloc u=>allocEv g hp u
 | .box u x=>boxEv hp (coeA g u (opRV e x))
 | .store u a x=>((plainTD (g.td u)=true∧(storeEv g hp u (opRV e a).av (coeA g u (opRV e x))).1),(storeEv g hp u (opRV e a).av (coeA g u (opRV e x))).2)
 | .makeMap u none=>makeMapEv g hp u
 | .makeSlice u l c=>match g.pm with
  | true=>makePartEv g hp u (opRV e l).av (opRV e c).av
  | false=>makeSliceEv g hp u (opRV e l).av (opRV e c).av
 | .mapUpdate u m k v=>mapUpdateEv g hp u (opRV e m).av (opRV e k).av (opRV e v).av
 | .insert u m k v=>mapUpdateEv g hp u (opRV e m).av (opRV e k).av (opRV e v).av
 | .call { callee:=.builtin .append,args:=xs,argTypes:=ts }=>appendArgs g hp e xs.toList ts.toList
 | .call { callee:=.builtin .copy,args:=xs,argTypes:=ts }=>copyArgs g hp e xs.toList ts.toList
 | _=>nope hp
def gcond (ops:List Oper) (e:Env):Option (Nat×Bool)→Option Bool
 | none=>some true
 | some (j,want)=>match (ops[j]?).bind (fun o=>o.dst) with
  | some d=>match getE e d with
   | ⟨ok,.v (.s (.bool b))⟩=>some (ok&&(b==want))
   | _=>none
  | none=>none
def yieldOf (g:G) (e:Env):Op→Option (Nat×List AV)
 | .call { callee:=.value (.tmp f),args:=xs,argTypes:=ts }=>match opRV e (.tmp f) with
  | .v (.s (.val (.func (.yield l) ⟨[]⟩ ⟨[]⟩)))=>some (l,argsEv g e xs.toList ts.toList)
  | _=>none
 | _=>none
def yieldVC (hp:List Blk) (l:Nat) (args:List AV) (K:Bool→List Blk→Prop):Prop :=
 match Blk.look hp 0 with
 | .trace l' xs i false=>l'=l∧xs[i]?=some args∧args.all AV.pure=true∧∀ b,K b (hp.set 0 (.trace l xs (i+1) (!b)))
 | _=>False
def SV.ids:SV→List Nat
 | .box id _=>[id]
 | .own _ id _=>[id]
 | .eown _ id _ _=>[id]
 | .pre _ id _ _=>[id]
 | .suf _ id _ _=>[id]
 | .fn _ ids=>ids
 | .mp id=>[id]
 | .part _ id _ _ _=>[id]
 | .bbx _ id _=>[id]
 | _=>[]
def AV.ids:AV→List Nat
 | .s x=>x.ids
 | .agg cs=>cs.flatMap SV.ids
def dedup:List Nat→List Nat→List Nat
 | acc,[]=>acc
 | acc,x::l=>if acc.contains x then dedup acc l else dedup (acc++[x]) l
def SV.ren (σ:Nat→Nat):SV→SV
 | .box id off=>.box (σ id) off
 | .own t id n=>.own t (σ id) n
 | .eown t id n off=>.eown t (σ id) n off
 | .pre t id n m=>.pre t (σ id) n m
 | .suf t id n k=>.suf t (σ id) n k
 | .fn f ids=>.fn f (ids.map σ)
 | .mp id=>.mp (σ id)
 | .part t id off n c=>.part t (σ id) off n c
 | .bbx f id off=>.bbx f (σ id) off
 | x=>x
def AV.ren (σ:Nat→Nat):AV→AV
 | .s x=>.s (x.ren σ)
 | .agg cs=>.agg (cs.map (SV.ren σ))
def RV.ren (σ:Nat→Nat):RV→RV
 | .v x=>.v (x.ren σ)
 | .tup xs=>.tup (xs.map (AV.ren σ))
def idx:List Nat→Nat→Nat
 | [],_=>0
 | x::l,i=>if x=i then 0 else idx l i+1
def outId (sel:List Nat) (n j:Nat):Nat:=match sel[j]? with
 | some i=>i
 | none=>n+(j - sel.length)
def mergeB {α:Type}:List α→List Nat→List α→List α
 | hp,[],out=>hp++out
 | hp,id::sel,b::out=>mergeB (hp.set id b) sel out
 | hp,_::_,[]=>hp
def Blk.pureB:Blk→Bool
 | .cells cs=>cs.all SV.pure
 | .arr _ cs=>cs.all SV.pure
 | .map _ _ _=>true
 | .dead=>false
 | .trace _ _ _ _=>false
def effVC (hp:List Blk) (c:ECon) (args:List AV) (K:RV→List Blk→Prop):Prop :=
 ((dedup [] (args.flatMap AV.ids)).all fun id=>(Blk.look hp id).pureB)=true ∧
  c.wp (args.map (AV.ren (idx (dedup [] (args.flatMap AV.ids))))) ((dedup [] (args.flatMap AV.ids)).map (Blk.look hp)) fun rv out=>K (rv.ren (outId (dedup [] (args.flatMap AV.ids)) hp.length)) (mergeB hp (dedup [] (args.flatMap AV.ids)) out)
def Blk.sound:Blk→Bool
 | .cells _=>true
 | .arr _ _=>true
 | .map _ _ _=>true
 | .dead=>false
 | .trace _ _ _ _=>false
def Blk.ids (b:Blk):List Nat:=if b.pureB then [] else match b with
 | .cells cs=>cs.flatMap SV.ids
 | .arr _ cs=>cs.flatMap SV.ids
 | _=>[]
def Blk.ren (σ:Nat→Nat) (b:Blk):Blk:=if b.pureB then b else match b with
 | .cells cs=>.cells (cs.map (SV.ren σ))
 | .arr al cs=>.arr al (cs.map (SV.ren σ))
 | b=>b
def Blk.scalarB:Blk→Bool
 | .cells cs=>cs.all SV.scalar
 | .arr _ cs=>cs.all SV.scalar
 | _=>false
def reachB (hp:List Blk):Nat→List Nat→List Nat
 | 0,l=>l
 | n+1,l=>reachB hp n (dedup l (l.flatMap fun id=>(Blk.look hp id).ids))
def closedB (hp:List Blk) (sel:List Nat):Bool:=sel.all fun id=>(Blk.look hp id).sound&&(Blk.look hp id).ids.all sel.contains
def selOf (hp:List Blk) (args:List AV):List Nat:=reachB hp 2 (dedup [] (args.flatMap AV.ids))
def borAt (hp:List Blk) (l:List Nat):Nat→List AV→Option (List AV)
 | _,[]=>some []
 | i,x::r=>match (if l.contains i then borAV hp x else some x),borAt hp l (i+1) r with
  | some y,some s=>some (y::s)
  | _,_=>none
def borIds (l:List Nat):Nat→List AV→List Nat
 | _,[]=>[]
 | i,x::r=>(if l.contains i then x.ids else [])++borIds l (i+1) r
def effVC2 (hp:List Blk) (c:ECon2) (args:List AV) (K:RV→List Blk→Prop):Prop :=
 match borAt hp c.bor 0 args with
 | none=>False
 | some args'=>closedB hp (selOf hp args')=true∧(borIds c.bor 0 args).all (fun id => !(selOf hp args').contains id)=true ∧
  c.wp (args'.map (AV.ren (idx (selOf hp args')))) ((selOf hp args').map fun id=>(Blk.look hp id).ren (idx (selOf hp args'))) fun rv out =>
   (borIds c.bor 0 args=[]∨(rv.scalar=true∧out.all Blk.scalarB=true))∧K (rv.ren (outId (selOf hp args') hp.length)) (mergeB hp (selOf hp args') (out.map (Blk.ren (outId (selOf hp args') hp.length))))
def effOf2V (g:G) (f:RV) (args:List AV):Option (ECon2×List AV) :=
 match f with
 | .v (.s (.bbx f id off))=>(look g.E2 f).map fun c=>(c,.s (.box id off)::args)
 | .v (.s (.fn f ids))=>(look g.E2 f).map fun c=>(c,args++ids.map fun id=>.s (.box id 0))
 | .v (.s (.fnp f caps))=>(look g.E2 f).map fun c=>(c,args++caps.map capAV)
 | .v (.s (.fv x))=>match x.parts with
  | some (f,caps)=>(look g.E2 f).map fun c=>(c,args++caps.map capAV)
  | none=>none
 | _=>none
def effOf2 (g:G) (e:Env):Op→Option (ECon2×List AV)
 | .call { callee:=.value (.func f),args:=xs,argTypes:=ts }=>match look g.E2 f with
  | some c=>some (c,argsEv g e xs.toList ts.toList)
  | none=>none
 | .call { callee:=.value (.tmp f),args:=xs,argTypes:=ts }=>match g.te with
  | true=>effOf2V g (opRV e (.tmp f)) (argsEv g e xs.toList ts.toList)
  | false=>none
 | _=>none
def effOf (g:G) (e:Env):Op→Option (ECon×List AV)
 | .call { callee:=.value (.func f),args:=xs,argTypes:=ts }=>match look g.E f with
  | some c=>some (c,argsEv g e xs.toList ts.toList)
  | none=>none
 | _=>none
def opVC (g:G) (e:Env) (hp:List Blk) (o:Oper) (K:SL→List Blk→Prop):Prop :=
 okOps e o.op∧match isMem0 o.op with
 | true=>(mEv g hp e o.op).1∧K ⟨true,(mEv g hp e o.op).2.1⟩ (mEv g hp e o.op).2.2
 | false=>match (if g.y then yieldOf g e o.op else none) with
  | some (l,args)=>yieldVC hp l args fun b hp'=>K ⟨true,.v (.s (.bool b))⟩ hp'
  | none=>match effOf g e o.op with
   | some (c,args)=>effVC hp c args fun rv hp'=>K ⟨true,rv⟩ hp'
   | none=>match effOf2 g e o.op with
    | some (c,args)=>effVC2 hp c args fun rv hp'=>K ⟨true,rv⟩ hp'
    | none=>(pEv g hp e o.type o.op).1∧K ⟨true,(pEv g hp e o.type o.op).2⟩ hp
def vcOps (g:G) (ops:List Oper):List Oper→Env→List Blk→(Env→List Blk→Prop)→Prop
 | [],e,hp,K=>K e hp
 | o::r,e,hp,K=>match o.guard with
  | none=>opVC g e hp o fun x hp'=>vcOps g ops r (putE o.dst x e) hp' K
  | some gd=>match gcond ops e (some gd) with
   | none=>False
   | some gc=>match isMem g.ye o.op with
    | true=>(gc=true→opVC g e hp o fun x hp'=>vcOps g ops r (putE o.dst x e) hp' K)∧(gc=false→vcOps g ops r (putE o.dst ⟨false,.v (.s .any)⟩ e) hp K)
    | false=>(gc=true→okOps e o.op∧(pEv g hp e o.type o.op).1)∧vcOps g ops r (putE o.dst ⟨gc,(pEv g hp e o.type o.op).2⟩ e) hp K
def PureOk (P:Program) (f:FuncId) (c:Con):Prop :=
 ∀ (w:World) (M0:Nat→Prop) (args:List AV) (vs:List Value),c.pre args→MOk w M0→All2 (relAV w M0 [] []) args vs →
  Calls P f vs.toArray w (fun e w'=>∃ v,e=.returned v∧relRV w' M0 [] [] (c.val args) v∧Below w.heap.size w w'∧w.drawn≤w'.drawn)
def EffOk (P:Program) (f:FuncId) (c:ECon):Prop :=
 ∀ (w:World) (M0:Nat→Prop) (bs:Bs) (hp:List Blk) (args:List AV) (vs:List Value) (K:RV→List Blk→Prop),c.wp args hp K→HR w M0 bs hp→hp.all Blk.pureB=true→All2 (relAV w (Mof M0 bs) bs hp) args vs →
  Calls P f vs.toArray w (fun o w'=>∃ v rv hp' bs',o=.returned v∧K rv hp'∧relRV w' (Mof M0 bs') bs' hp' rv v∧hp'.all Blk.pureB=true∧HR w' M0 bs' hp'∧Step false w (Mof M0 bs) bs hp w' (Mof M0 bs') bs' hp')
def EffOk2 (P:Program) (f:FuncId) (c:ECon2):Prop :=
 ∀ (w:World) (M0:Nat→Prop) (bs:Bs) (hp:List Blk) (args:List AV) (vs:List Value) (K:RV→List Blk→Prop),c.wp args hp K→HR w M0 bs hp→hp.all Blk.sound=true→(∀ id,∀ i∈(Blk.look hp id).ids,i<hp.length)→All2 (relAV w (Mof M0 bs) bs hp) args vs →
  Calls P f vs.toArray w (fun o w'=>∃ v rv hp' bs',o=.returned v∧K rv hp'∧relRV w' (Mof M0 bs') bs' hp' rv v∧hp'.all Blk.sound=true∧HR w' M0 bs' hp'∧Step false w (Mof M0 bs) bs hp w' (Mof M0 bs') bs' hp')
def PanOk (P:Program) (f:FuncId) (c:PCon):Prop :=
 ∀ (w:World) (M0:Nat→Prop) (args:List AV) (vs:List Value),c.when args→MOk w M0→All2 (relAV w M0 [] []) args vs →
  Calls P f vs.toArray w (fun e w'=>e=.panicked [{ v:=c.what args,recovered:=false }]∧Below w.heap.size w w'∧w.drawn≤w'.drawn)
def G.good (P:Program) (g:G):Prop:=g.ok P∧(∀ f c,look g.Γ f=some c→(∀ (args:Array Value) (w:World),(callFunc f args).run P w=.ok (.enter f args) w)∧PureOk P f c) ∧
 (∀ f c,look g.E f=some c→(∀ (args:Array Value) (w:World),(callFunc f args).run P w=.ok (.enter f args) w)∧EffOk P f c) ∧
 (∀ f c,look g.Pn f=some c→(∀ (args:Array Value) (w:World),(callFunc f args).run P w=.ok (.enter f args) w)∧PanOk P f c) ∧
 ∀ f c,look g.E2 f=some c→(∀ (args:Array Value) (w:World),(callFunc f args).run P w=.ok (.enter f args) w)∧EffOk2 P f c
section
variable {P:Program} {g:G} {w:World} {M0:Nat→Prop} {bs:Bs} {hp:List Blk}
theorem relSV_pure {M:Nat→Prop} {x:SV} {v:Value} (hx:x.pure=true) (h:relSV w M bs hp x v):relSV w M [] [] x v:=by
 cases x with
 | fn f caps =>
  cases caps with
  | nil=>obtain ⟨ps,rfl,h2⟩:=h; cases h2; exact ⟨[],rfl,.nil⟩
  | cons c cs=>simp [SV.pure] at hx
 | _=>first | exact h | simp [SV.pure] at hx
theorem relAV_pure {M:Nat→Prop} {x:AV} {v:Value} (hx:x.pure=true) (h:relAV w M bs hp x v):relAV w M [] [] x v:=by
 cases x with
 | s x=>exact relSV_pure hx h
 | agg cs =>
  obtain ⟨vs,rfl,h⟩:=h
  refine ⟨vs,rfl,?_⟩
  simp only [AV.pure] at hx
  induction h with
  | nil=>exact .nil
  | cons r _ ih =>
   simp only [List.all_cons,Bool.and_eq_true] at hx
   exact .cons ⟨relSV_pure hx.1 r.1,r.2⟩ (ih hx.2)
theorem relSV_lift {M:Nat→Prop} {x:SV} {v:Value} (h:relSV w M [] [] x v):relSV w M bs hp x v:=by
 cases x with
 | box id off=>obtain ⟨h1,_⟩:=h; simp at h1
 | own t id n=>obtain ⟨h1,_⟩:=h; simp at h1
 | eown t id n off=>obtain ⟨h1,_⟩:=h; simp at h1
 | pre t id n m=>obtain ⟨h1,_⟩:=h; simp at h1
 | suf t id n k=>obtain ⟨h1,_⟩:=h; simp at h1
 | part t id off n c=>obtain ⟨h1,_⟩:=h; simp at h1
 | bbx f id off=>obtain ⟨h1,_⟩:=h; simp at h1
 | fn f caps =>
  obtain ⟨ps,rfl,h2⟩:=h
  cases h2 with
  | nil=>exact ⟨[],rfl,.nil⟩
  | cons r _=>obtain ⟨r,_⟩:=r; simp [Bs.at] at r
 | mp id=>obtain ⟨b,_,_,_,h1,_⟩:=h; simp [Bs.at] at h1
 | _=>exact h
theorem relAV_lift {M:Nat→Prop} {x:AV} {v:Value} (h:relAV w M [] [] x v):relAV w M bs hp x v:=by
 cases x with
 | s x=>exact relSV_lift h
 | agg cs=>obtain ⟨vs,rfl,h⟩:=h; exact ⟨vs,rfl,h.imp fun x u hu=>⟨relSV_lift hu.1,hu.2⟩⟩
theorem relRV_lift {M:Nat→Prop} {x:RV} {v:Value} (h:relRV w M [] [] x v):relRV w M bs hp x v:=by
 cases x with
 | v x=>exact relAV_lift h
 | tup xs=>obtain ⟨vs,rfl,h⟩:=h; exact ⟨vs,rfl,h.imp fun x u hu=>relAV_lift hu⟩
theorem Evo.of_below {M:Nat→Prop} {w w':World} (h:Below w.heap.size w w') (hd:w.drawn≤w'.drawn):Evo M M w w' :=
 ⟨h.os,h.tape,h.output,h.size,hd,fun b hb _=>h.block b hb,fun _ _ hm=>hm⟩
def relEnv (w:World) (M:Nat→Prop) (bs:Bs) (hp:List Blk) (e:Env) (a:Act):Prop:=∀ s x,look e s=some x→relSL w M bs hp x (a.tmps.getD s undef)
theorem relEnv_step {v₀:Bool} {w':World} {M M':Nat→Prop} {bs':Bs} {hp':List Blk} {e:Env} {a:Act} (h:Step v₀ w M bs hp w' M' bs' hp') (k:relEnv w M bs hp e a):relEnv w' M' bs' hp' e a :=
 fun s x hs=>relSL_step h _ _ (k s x hs)
theorem getE_rel {M:Nat→Prop} {e:Env} {a:Act} (h:relEnv w M bs hp e a) (s:Nat):relSL w M bs hp (getE e s) (a.tmps.getD s undef):=by
 unfold getE
 cases hl:look e s with
 | none=>exact ⟨fun _=>trivial,fun hn=>by cases hn⟩
 | some x=>exact h s x hl
theorem look_mem {α:Type}:∀ (l:List (Nat×α)) (n:Nat) (c:α),look l n=some c→(n,c)∈l
 | [],n,c,h=>by simp [look] at h
 | (k,x)::r,n,c,h=>by
  simp only [look] at h
  split at h
  ·
   rename_i e; subst e; injection h with h; subst h; exact List.mem_cons_self ..
  ·
   exact List.mem_cons_of_mem _ (look_mem r n c h)
theorem global_rel {M:Nat→Prop} (hgl:GlobOk w M) (e:Env) (a:Act) (n:Nat):relRV w M bs hp (opRV e (.global n)) (a.eval (.global n)):=by
 simp only [opRV,oper]
 cases hl:look globs n with
 | none=>trivial
 | some c=>exact hgl _ (look_mem globs n c hl)
theorem oper_rel {M:Nat→Prop} (hgl:GlobOk w M) {e:Env} {a:Act} (h:relEnv w M bs hp e a) (x:Operand) (hx:(oper e x).ok=true):relRV w M bs hp (opRV e x) (a.eval x):=by
 cases x with
 | tmp t=>exact (getE_rel h t).1 hx
 | const v=>cases v <;> exact rfl
 | func f=>exact ⟨[],rfl,.nil⟩
 | global n=>exact global_rel hgl e a n
theorem allOk_mem {e:Env}:∀ {l:List Operand},allOk e l→∀ x∈l,(oper e x).ok=true
 | [],_,x,hx=>by cases hx
 | y::l,h,x,hx=>by
  cases hx with
  | head=>exact h.1
  | tail _ hm=>exact allOk_mem h.2 x hm
theorem put_eval (a:Act) (d:Option Nat) (v:Value):(a.put d v).tmps.size=a.tmps.size:=by
 cases d <;> simp [Act.put]
theorem relEnv_put {M:Nat→Prop} {e:Env} {a:Act} (h:relEnv w M bs hp e a) (d:Option Nat) (x:SL) (v:Value) (hx:relSL w M bs hp x v) (hd:∀ k,d=some k→k<a.tmps.size) :
  relEnv w M bs hp (putE d x e) (a.put d v):=by
 intro s y hs
 cases d with
 | none=>exact h s y hs
 | some k =>
  simp only [putE,look] at hs
  simp only [Act.put]
  have hk:=hd k rfl
  split at hs
  ·
   rename_i e; subst e
   injection hs with hs; subst hs
   simp [Array.getD_eq_getD_getElem?,hk]
   exact hx
  ·
   rename_i hne
   have:=h s y hs
   simp only [Array.getD_eq_getD_getElem?] at this ⊢
   rw [Array.getElem?_setIfInBounds_ne hne]
   exact this
theorem did_wp {F:Fence} (hF:∀ f,F.fn f) {n:Nat} {o:Oper} {a:Act} {rv:RV} {hp':List Blk} {K:Act→World→Prop} {Q:Exit→Act→World→Prop} (hdef:∀ c,o.op≠.defer c)
  (h:Did w M0 bs hp ((execOp a.eval o).run P w) rv hp') (hK:∀ z w' bs',relRV w' (Mof M0 bs') bs' hp' rv z→HR w' M0 bs' hp'→Step false w (Mof M0 bs) bs hp w' (Mof M0 bs') bs' hp'→K (a.put o.dst z) w') :
  o.wpIn F n P a w K Q:=by
 obtain ⟨z,w',bs',hres,h1,h2,h3⟩:=h
 refine ⟨fun f _=>hF f,?_⟩
 rw [Oper.semAt_eq _ _ _ hdef]
 rcases hres with hres | ⟨hres,rfl⟩
 ·
  rw [hres]; exact hK z w' bs' h1 h2 h3
 ·
  rw [hres]; exact hK undef w' bs' h1 h2 h3
theorem pdid_of_quiet (hr:HR w M0 bs hp) {res:Result Next} {rv:RV} (h:∃ z,res=.ok (.value z) w∧relRV w (Mof M0 bs) bs hp rv z):PDid w M0 bs hp res rv:=by
 obtain ⟨z,h1,h2⟩:=h
 exact ⟨z,w,h1,h2,hr,Step.refl _ _ _ _⟩
theorem parts_rel {e:Env} {a:Act}:∀ (l:List (Nat×Operand)),(∀ p∈l,relRV w (Mof M0 bs) bs hp (opRV e p.2) (a.eval p.2)) →
  PartsRel w (Mof M0 bs) bs hp (l.map fun p=>(p.1,(opRV e p.2).av)) (l.map fun p=>(p.1,a.eval p.2))
 | [],_=>.nil
 | p::l,h=>.cons ⟨rfl,relRV_av (h p (by simp))⟩ (parts_rel l fun q hq=>h q (by simp [hq]))
theorem args_rel (hg:g.ok P) {e:Env} {a:Act}:∀ (l:List Operand) (ts:List TypeId),(∀ x∈l,relRV w (Mof M0 bs) bs hp (opRV e x) (a.eval x))→All2 (relAV w (Mof M0 bs) bs hp) (argsEv g e l ts) (l.map a.eval)
 | [],_,_=>.nil
 | x::l,[],h=>.cons (relRV_av (h x (by simp))) (args_rel hg l [] fun y hy=>h y (by simp [hy]))
 | x::l,t::ts,h=>.cons (relRV_av (coe_sound hg t _ _ (h x (by simp)))) (args_rel hg l ts fun y hy=>h y (by simp [hy]))
theorem okOps_all {e:Env} {op:Op} (hp:∀ c a b,op≠.pick c a b) (h:okOps e op):∀ x∈op.operands.toList,(oper e x).ok=true:=by
 unfold okOps at h
 split at h
 ·
  exact absurd rfl (hp _ _ _)
 ·
  exact allOk_mem h
theorem all2_pure {l:List AV} {vs:List Value} {M:Nat→Prop} (hp':l.all AV.pure=true) (h:All2 (relAV w M bs hp) l vs):All2 (relAV w M [] []) l vs:=by
 induction h with
 | nil=>exact .nil
 | cons r _ ih =>
  simp only [List.all_cons,Bool.and_eq_true] at hp'
  exact .cons (relAV_pure hp'.1 r) (ih hp'.2)
theorem callsIn_FW {r:Option Nat} {n:Nat} {f:FuncId} {args:Array Value} {R:Ending→World→Prop} (h:Calls P f args w R):CallsIn (FW r) n P f args w R:=by
 have:=(callsIn_wide (n:=n)).2 h
 exact this
theorem parts_map (a:Act) (ps:Array (Nat×Operand)):(ps.map fun p=>(p.1,a.eval p.2)).toList=ps.toList.map fun p=>(p.1,a.eval p.2):=by simp
theorem relSV_weaken {M M':Nat→Prop} (hM:∀ b,M' b→M b) {x:SV} {v:Value} (h:relSV w M [] [] x v):relSV w M' [] [] x v:=by
 have he:Evo M M' w w:=Evo.more w fun b _=>hM b
 exact relSV_step (v₀:=true) ⟨he,Nat.le_refl _,fun id cs h1 _=>by simp at h1,fun id b k u es h1 _=>by simp [Bs.at] at h1,fun id al cs h _=>by simp at h,by simp⟩ x v h
theorem relAV_weaken {M M':Nat→Prop} (hM:∀ b,M' b→M b) {x:AV} {v:Value} (h:relAV w M [] [] x v):relAV w M' [] [] x v:=by
 cases x with
 | s x=>exact relSV_weaken hM h
 | agg cs=>obtain ⟨vs,rfl,h⟩:=h; exact ⟨vs,rfl,h.imp fun x u hu=>⟨relSV_weaken hM hu.1,hu.2⟩⟩
theorem all2_weaken {M M':Nat→Prop} (hM:∀ b,M' b→M b) {l:List AV} {vs:List Value} (h:All2 (relAV w M [] []) l vs):All2 (relAV w M' [] []) l vs:=h.imp fun _ _ k=>relAV_weaken hM k
theorem relSV_scalar {M M':Nat→Prop} {bs':Bs} {hp':List Blk} {x:SV} {v:Value} (hx:x.scalar=true) (h:relSV w M bs hp x v):relSV w M' bs' hp' x v:=by
 cases x <;> first | exact h | simp [SV.scalar] at hx
theorem relAV_scalar {M M':Nat→Prop} {bs':Bs} {hp':List Blk} {x:AV} {v:Value} (hx:x.scalar=true) (h:relAV w M bs hp x v):relAV w M' bs' hp' x v:=by
 cases x with
 | s x=>exact relSV_scalar hx h
 | agg cs =>
  obtain ⟨vs,rfl,h⟩:=h
  refine ⟨vs,rfl,?_⟩
  simp only [AV.scalar] at hx
  induction h with
  | nil=>exact .nil
  | cons r _ ih =>
   simp only [List.all_cons,Bool.and_eq_true] at hx
   exact .cons ⟨relSV_scalar hx.1 r.1,r.2⟩ (ih hx.2)
theorem relRV_scalar {M M':Nat→Prop} {bs':Bs} {hp':List Blk} {x:RV} {v:Value} (hx:x.scalar=true) (h:relRV w M bs hp x v):relRV w M' bs' hp' x v:=by
 cases x with
 | v x=>exact relAV_scalar hx h
 | tup xs =>
  obtain ⟨vs,rfl,h⟩:=h
  refine ⟨vs,rfl,?_⟩
  simp only [RV.scalar] at hx
  induction h with
  | nil=>exact .nil
  | cons r _ ih =>
   simp only [List.all_cons,Bool.and_eq_true] at hx
   exact .cons (relAV_scalar hx.1 r) (ih hx.2)
theorem boxCap_sound (hr:HR w M0 bs hp) {id b:Nat} {c:Sigma Ty.T} {M':Nat→Prop} (hb:bs.at id=some b) (hc:boxCap hp id=some c) (hM:∀ b,M' b→Mof M0 bs b) (hn:¬ M' b) :
  FrozenAt w M' c (.pointer (some ⟨b,0,none⟩)):=by
 unfold boxCap at hc
 have key:∀ cs,Blk.look hp id=.cells cs→∃ us:List Value,All2 (relSV w (Mof M0 bs) bs hp) cs us∧CellsAt w b 0 us:=by
  intro cs hl
  obtain ⟨b',cur,e,k1,k2,k3,k4⟩:=hr.cells id cs hl
  rw [hb] at k1; cases k1
  refine ⟨cur.toList,All2.of_get (by simpa using k3) (fun i x u hx hu => ?_),fun j v hj => ?_⟩
  ·
   obtain ⟨u',q1,q2,q3⟩:=k4 i x hx
   rw [Array.getElem?_toList,q1] at hu
   cases hu; exact q3
  ·
   rw [Array.getElem?_toList] at hj
   simp [World.cell?,k2,hj]
 have hw:Evo (Mof M0 bs) M' w w:=Evo.more w fun b _=>hM b
 have hlt:=hr.lt id b hb
 split at hc
 ·
  rename_i x hl
  obtain ⟨us,h1,h2⟩:=key _ hl
  cases h1 with
  | cons h1 h1' =>
   cases h1'
   exact ⟨b,0,_,rfl,hn,hlt,rep_evo hw _ _ _ (sig_sound hc h1),h2⟩
 ·
  rename_i cs _ hl
  obtain ⟨us,h1,h2⟩:=key _ hl
  exact ⟨b,0,_,rfl,hn,hlt,rep_evo hw _ _ _ (sigs_sound hc h1),h2⟩
 ·
  cases hc
theorem boxCap_cells {id:Nat} {c:Sigma Ty.T} (hc:boxCap hp id=some c):∃ cs,Blk.look hp id=.cells cs:=by
 unfold boxCap at hc
 split at hc
 ·
  rename_i hl; exact ⟨_,hl⟩
 ·
  rename_i hl; exact ⟨_,hl⟩
 ·
  cases hc
theorem boxCaps_at:∀ {ids:List Nat} {ps:List Nat} {caps:List (Sigma Ty.T)},boxCaps hp ids=some caps→All2 (fun id b=>id<hp.length∧∀ cs,Blk.look hp id=.cells cs→bs.at id=some b) ids ps→All2 (fun id b=>bs.at id=some b∧∃ cs,Blk.look hp id=.cells cs) ids ps
 | [],_,caps,h,.nil=>.nil
 | id::r,_,caps,h,.cons h1 h2=>by
  simp only [boxCaps] at h
  split at h
  ·
   rename_i c cs hc1 hc2
   obtain ⟨k,hk⟩:=boxCap_cells hc1
   exact .cons ⟨h1.2 k hk,k,hk⟩ (boxCaps_at hc2 h2)
  ·
   cases h
theorem boxCaps_sound (hr:HR w M0 bs hp) {M':Nat→Prop} (hM:∀ b,M' b→Mof M0 bs b):∀ {ids:List Nat} {ps:List Nat} {caps:List (Sigma Ty.T)},boxCaps hp ids=some caps →
  All2 (fun id b=>bs.at id=some b∧∃ cs,Blk.look hp id=.cells cs) ids ps→(∀ b∈ps,¬ M' b)→All2 (FrozenAt w M') caps (ps.map fun b=>.pointer (some ⟨b,0,none⟩))
 | [],_,caps,hc,.nil,_=>by simp [boxCaps] at hc; subst hc; exact .nil
 | id::ids,_,caps,hc,.cons h1 h2,hn=>by
  simp only [boxCaps] at hc
  split at hc
  ·
   rename_i c cs hc1 hc2
   injection hc with hc
   subst hc
   exact .cons (boxCap_sound hr h1.1 hc1 hM (hn _ (by simp))) (boxCaps_sound hr hM hc2 h2 fun b hb=>hn b (by simp [hb]))
  ·
   cases hc
theorem caps_rel {M:Nat→Prop} {caps:List (Sigma Ty.T)} {ps:List Value} (h:All2 (FrozenAt w M) caps ps):All2 (relAV w M [] []) (caps.map capAV) ps:=by
 induction h with
 | nil=>exact .nil
 | cons r _ ih=>exact .cons r ih
theorem callVal_parts (hr:HR w M0 bs hp) (f:RV) (args:List AV) (v:Value) (hf:relRV w (Mof M0 bs) bs hp f v) (h:(callVal g hp f args).1) :
  ∃ (f0:FuncId) (ps qs:List Value),v=.func (.func f0) ps.toArray qs.toArray∧∃ (M':Nat→Prop) (pav:List AV) (caps:List (Sigma Ty.T)),(∀ b,M' b→Mof M0 bs b)∧All2 (relAV w M' [] []) pav ps∧All2 (relAV w M' [] []) (caps.map capAV) qs ∧
   ((callEv g f0 (pav++(args++caps.map capAV))).1∧(callEv g f0 (pav++(args++caps.map capAV))).2=(callVal g hp f args).2) ∧
   ∀ w' u,relRV w' M' [] [] (callVal g hp f args).2 u→relRV w' (Mof M0 bs) bs hp (callVal g hp f args).2 u:=by
 unfold callVal at h ⊢
 split at h
 ·
  rename_i f0
  obtain ⟨ps,rfl,h2⟩:=hf
  cases h2
  exact ⟨f0,[],[],rfl,Mof M0 bs,[],[],fun _ h=>h,.nil,.nil,⟨by simpa using h,by simp⟩,fun w' u hu=>relRV_lift hu⟩
 ·
  rename_i f0 caps
  obtain ⟨ps,rfl,h2⟩:=hf
  exact ⟨f0,[],ps,rfl,Mof M0 bs,[],caps,fun _ h=>h,.nil,caps_rel h2,⟨h,rfl⟩,fun w' u hu=>relRV_lift hu⟩
 ·
  rename_i f0 ids hne
  obtain ⟨ps,rfl,h2⟩:=hf
  split at h
  ·
   rename_i caps hcaps
   refine ⟨f0,[],ps.map fun b=>.pointer (some ⟨b,0,none⟩),rfl,fun b=>Mof M0 bs b∧b∉ps,[],caps,fun _ h=>h.1,.nil,?_,?_⟩
   ·
    exact caps_rel (boxCaps_sound hr (fun _ h=>h.1) hcaps (boxCaps_at hcaps h2) fun b hb h=>h.2 hb)
   ·
    exact ⟨⟨h.1,rfl⟩,fun w' u hu=>relRV_scalar h.2 hu⟩
  ·
   exact h.elim
 ·
  rename_i x
  split at h
  ·
   rename_i f0 caps heq
   obtain ⟨ps,rfl,h2⟩:=repD_parts hf heq
   exact ⟨f0,[],ps,rfl,Mof M0 bs,[],caps,fun _ h=>h,.nil,caps_rel h2,⟨h,rfl⟩,fun w' u hu=>relRV_lift hu⟩
  ·
   split at h
   ·
    rename_i f0 c heq
    obtain ⟨cs,rfl,h2⟩:=repD_bpart hf heq
    have hav:relAV w (Mof M0 bs) [] [] (c.1.av c.2) (bndV c.1 cs):=by
     obtain ⟨t,x⟩:=c
     have:=relSV_av (bs:=[]) (hp:=[]) t x h2 h.1
     cases t <;> exact this
    exact ⟨f0,[bndV c.1 cs],[],rfl,Mof M0 bs,[c.1.av c.2],[],fun _ h=>h,.cons hav .nil,.nil,⟨by simpa using h.2,by simp⟩,fun w' u hu=>relRV_lift hu⟩
   ·
    exact h.elim
 ·
  exact h.elim
theorem row_rep {M:Nat→Prop} {t:Ty} {n b off:Nat} {xs:List t.T} {us:List Value} (hb:b<w.heap.size) (hm:¬ M b) (hps:xs.length=n∧∀ i x,xs[i]?=some x→∃ cs,cs.length=t.size∧rep w M t x cs∧∀ j v,cs[j]?=some v→us[i*t.size+j]?=some v)
  (hc:CellsAt w b off us):RowAt w M (fun x cs=>rep w M t x cs) t.size (some ⟨b,off,none⟩) xs:=.inr ⟨b,off,rfl,hm,hb,fun i x hi=>by
 obtain ⟨cs,q1,q2,q3⟩:=hps.2 i x hi
 refine ⟨cs,q1,q2,fun j v hj => ?_⟩
 have:=hc _ v (q3 j v hj)
 rw [← this]; congr 2; omega⟩
theorem borSV_sound (hr:HR w M0 bs hp) {M':Nat→Prop} (hM:∀ b,M' b→Mof M0 bs b) {x y:SV} {v:Value} (hx:relSV w (Mof M0 bs) bs hp x v) (hb:borSV hp x=some y) (hn:∀ id∈x.ids,∀ b,bs.at id=some b→¬ M' b):relSV w M' [] [] y v:=by
 have hev:Evo (Mof M0 bs) M' w w:=Evo.more w fun b _=>hM b
 have hpu:∀ x:SV,x.pure=true→relSV w (Mof M0 bs) bs hp x v→relSV w M' [] [] x v:=fun x h1 h2=>relSV_weaken hM (relSV_pure h1 h2)
 unfold borSV at hb
 split at hb
 ·
  rename_i t id off n cap
  obtain ⟨hid,hnc,hcm,a,rfl,hx⟩:=hx
  cases hl:Blk.look hp id with
  | cells cs =>
   simp only [hl] at hb
   split at hb
   ·
    rename_i hle
    cases hps:t.parses n (takeAt cs off (n*t.size)) with
    | none=>simp [hps] at hb
    | some xs =>
     simp [hps] at hb
     subst hb
     obtain ⟨b,hat,ha⟩:=hx cs hl
     obtain ⟨b',cur,e,q1,q2,q3,q4⟩:=hr.cells id cs hl
     rw [hat] at q1; cases q1
     obtain ⟨us,v1,v2,v3⟩:=take_cells (off:=off) ⟨cur,e,q2,q4⟩ (n*t.size) (by omega)
     obtain ⟨p1,p2⟩:=parses_rows t n _ xs us hps (v3.imp fun _ _ q=>q.1)
     refine ⟨a,cap,by rw [p1],by rw [p1]; exact hnc,hcm,by simp,?_⟩
     rcases Nat.eq_zero_or_pos cap with h0 | h0
     ·
      left; exact List.eq_nil_of_length_eq_zero (by omega)
     ·
      rw [ha h0]
      exact (row_rep (hr.lt id b hat) (hn id (by simp [SV.ids]) b hat) (us:=us) (n:=n) ⟨p1,fun i x hx=>by
       obtain ⟨cs',r1,r2,r3⟩:=p2 i x hx
       exact ⟨cs',r1,rep_evo hev _ _ _ r2,r3⟩⟩ v2)
   ·
    cases hb
  | _=>simp [hl] at hb
 ·
  rename_i t id n
  obtain ⟨hid,hx⟩:=hx
  cases hl:Blk.look hp id with
  | dead=>simp [hl] at hb
  | trace l' xs' i' st'=>simp [hl] at hb
  | map k v es=>simp [hl] at hb
  | cells cs=>simp [hl] at hb
  | arr al cs =>
   simp only [hl] at hb
   split at hb
   ·
    rename_i hlen
    cases hps:t.parses n cs with
    | none=>simp [hps] at hb
    | some xs =>
     simp [hps] at hb
     subst hb
     rcases (hx al cs hl).2 hlen with ⟨b,cap,hat,rfl,k3,cur0,e0,k4,k5,k6⟩ | ⟨_,ys,a,k2,k3,k4,rfl,k6⟩
     ·
      obtain ⟨cur,e,q2,q4⟩:=hr.arr id al cs b hl hat
      obtain ⟨us,v1,v2,v3⟩:=take_cells (off:=0) ⟨cur,e,q2,q4⟩ (n*t.size) (by omega)
      have e1:takeAt cs 0 (n*t.size)=cs:=by simp [takeAt,← hlen]
      rw [e1] at v3
      obtain ⟨p1,p2⟩:=parses_rows t n _ xs us hps (v3.imp fun _ _ q=>q.1)
      exact ⟨_,cap,by rw [p1],by rw [p1]; exact k3,k6,by simp,(row_rep (hr.lt id b hat) (hn id (by simp [SV.ids]) b hat) (us:=us) (n:=n) ⟨p1,fun i x hx=>by
       obtain ⟨cs',r1,r2,r3⟩:=p2 i x hx
       exact ⟨cs',r1,rep_evo hev _ _ _ r2,r3⟩⟩ v2)⟩
     ·
      have e1:ys=xs:=by
       have:=parses_flats t ys
       rw [k2,← k4,hps] at this
       injection this with this
       exact this.symm
      subst e1
      exact ⟨a,n,by rw [k2],by omega,k3,by simp,k6.evo hev⟩
   ·
    cases hb
 ·
  rename_i id
  cases hc:boxCap hp id with
  | none=>simp [hc] at hb
  | some c =>
   simp [hc] at hb
   subst hb
   obtain ⟨cs,hl⟩:=boxCap_cells hc
   obtain ⟨b,hat,rfl⟩:=hx.2 cs hl
   exact boxCap_sound hr hat hc hM (hn id (by simp [SV.ids]) b hat)
 ·
  split at hb
  ·
   rename_i hp'
   injection hb with hb
   subst hb
   exact hpu _ hp' hx
  ·
   cases hb
theorem borAV_sound (hr:HR w M0 bs hp) {M':Nat→Prop} (hM:∀ b,M' b→Mof M0 bs b) {x y:AV} {v:Value} (hx:relAV w (Mof M0 bs) bs hp x v) (hb:borAV hp x=some y) (hn:∀ id∈x.ids,∀ b,bs.at id=some b→¬ M' b):relAV w M' [] [] y v:=by
 cases x with
 | s x =>
  simp only [borAV,Option.map_eq_some_iff] at hb
  obtain ⟨z,h1,rfl⟩:=hb
  exact borSV_sound hr hM hx h1 hn
 | agg cs =>
  simp only [borAV] at hb
  split at hb
  ·
   rename_i hp'
   injection hb with hb
   subst hb
   exact relAV_weaken hM (relAV_pure hp' hx)
  ·
   cases hb
theorem borAll_sound (hr:HR w M0 bs hp) {M':Nat→Prop} (hM:∀ b,M' b→Mof M0 bs b):∀ {xs ys:List AV} {vs:List Value},All2 (relAV w (Mof M0 bs) bs hp) xs vs→borAll hp xs=some ys→(∀ id∈xs.flatMap AV.ids,∀ b,bs.at id=some b→¬ M' b)→All2 (relAV w M' [] []) ys vs
 | [],ys,_,.nil,hb,_=>by simp [borAll] at hb; subst hb; exact .nil
 | x::xs,ys,_,.cons h1 h2,hb,hn=>by
  simp only [borAll] at hb
  split at hb
  ·
   rename_i y s hy hs
   injection hb with hb
   subst hb
   exact .cons (borAV_sound hr hM h1 hy fun id hid=>hn id (by simp [hid])) (borAll_sound hr hM h2 hs fun id hid=>hn id (by simp only [List.flatMap_cons,List.mem_append]; exact .inr hid))
  ·
   cases hb
theorem call_wp (hg:g.good P) (hr:HR w M0 bs hp) {e:Env} {a:Act} {dst:Option Tmp} {f:Operand} {xs:Array Operand} {ts:Array TypeId} {t:TypeId} {pos:String} {after:Array Edge} {guard:Option (Nat×Bool)} {M1:Nat→Prop} {args:List AV}
  (hf:relRV w (Mof M0 bs) bs hp (opRV e f) (a.eval f)) (hM1:∀ b,M1 b→Mof M0 bs b) (hargs:All2 (relAV w M1 [] []) args (xs.toList.map a.eval)) (h:(callVal g hp (opRV e f) args).1) (hback:M1=Mof M0 bs∨(callVal g hp (opRV e f) args).2.scalar=true) {r:Option Nat} {n:Nat}
  {K:Act→World→Prop} {Q:Exit→Act→World→Prop}
  (hK:∀ z w',relRV w' (Mof M0 bs) bs hp (callVal g hp (opRV e f) args).2 z→HR w' M0 bs hp→Step false w (Mof M0 bs) bs hp w' (Mof M0 bs) bs hp→K (a.put dst z) w') :
  (Oper.mk dst (.call { callee:=.value f,args:=xs,argTypes:=ts }) t pos after guard).wpIn (FW r) n P a w K Q:=by
 obtain ⟨f0,ps,qs,hev,M',pav,caps,hM,hpv,hq,hce,hsc⟩:=callVal_parts hr _ _ _ hf h
 unfold callEv at hce
 cases hc:look g.Γ f0 with
 | none=>simp [hc] at hce
 | some c =>
  simp only [hc] at hce
  obtain ⟨⟨hpre,hpure⟩,hval⟩:=hce
  obtain ⟨hent,hcon⟩:=hg.2.1 f0 c hc
  obtain ⟨M2,hM2,hM2',hM21,hback2⟩:∃ M2:Nat→Prop,(∀ b,M2 b→M' b)∧(∀ b,M2 b→Mof M0 bs b)∧(∀ b,M2 b→M1 b)∧∀ w' u,relRV w' M2 [] [] (callVal g hp (opRV e f) args).2 u→relRV w' (Mof M0 bs) bs hp (callVal g hp (opRV e f) args).2 u:=by
   rcases hback with rfl | hs
   ·
    exact ⟨M',fun _ h=>h,hM,hM,hsc⟩
   ·
    exact ⟨fun b=>M' b∧M1 b,fun _ h=>h.1,fun b h=>hM b h.1,fun _ h=>h.2,fun w' u hu=>relRV_scalar hs hu⟩
  have hargs':All2 (relAV w M2 [] []) (pav++(args++caps.map capAV)) (ps++(xs.toList.map a.eval++qs)) :=
   (all2_weaken hM2 hpv).append ((all2_weaken hM21 hargs).append (all2_weaken hM2 hq))
  refine ⟨fun f _=>trivial,?_⟩
  rw [Oper.semAt_eq _ _ _ (by simp)]
  have hrun:(execOp a.eval { dst:=dst,op:=.call { callee:=.value f,args:=xs,argTypes:=ts },type:=t,pos:=pos,after:=after,guard:=guard }).run P w=.ok (.enter f0 (ps++(xs.toList.map a.eval++qs)).toArray) w:=by
   have:=hent (ps++(xs.toList.map a.eval++qs)).toArray w
   simp only [execOp,resolve,hev,Deferred.ofValue,Sem.run_bind,Sem.run_pure,Result.andThen_ok,invoke,map_arr]
   simpa using this
  rw [hrun]
  refine ⟨fun hd=>by simp [FW] at hd,callsIn_FW ((hcon w M2 _ _ hpre ⟨fun b hb => ?_,hr.gl.evo (Evo.more w fun b _=>hM2' b)⟩ hargs').mono ?_)⟩
  ·
   rcases hM2' b hb with hb | ⟨id,hb⟩
   ·
    exact hr.m0 b hb
   ·
    exact hr.lt id b hb
  ·
   rintro e1 w' ⟨v,rfl,hv,hbel,hdr⟩
   obtain ⟨k1,k2⟩:=hr.keep (Evo.of_below hbel hdr) (fun id b hb=>hbel.block b (hr.lt id b hb)) (fun b hb _=>hbel.block b hb)
   rw [hval] at hv
   exact hK v w' (hback2 w' v hv) k1 k2
theorem callVal_pure (f:RV) (args:List AV) (h:(callVal g hp f args).1):args.all AV.pure=true:=by
 have key:∀ (f:FuncId) (l r:List AV),(callEv g f (l++(args++r))).1→args.all AV.pure=true:=by
  intro f l r h
  unfold callEv at h
  split at h
  ·
   have:=h.2
   rw [List.all_append,List.all_append,Bool.and_eq_true,Bool.and_eq_true] at this
   exact this.2.1
  ·
   exact h.elim
 unfold callVal at h
 split at h
 ·
  exact key _ [] [] (by simpa using h)
 ·
  exact key _ [] _ h
 ·
  split at h
  ·
   exact key _ [] _ h.1
  ·
   exact h.elim
 ·
  split at h
  ·
   exact key _ [] _ h
  ·
   split at h
   ·
    exact key _ [_] [] (by simpa using h.2)
   ·
    exact h.elim
 ·
  exact h.elim
theorem pEv_wp (hg:g.good P) (hr:HR w M0 bs hp) {e:Env} {a:Act} (o:Oper) (he:∀ x∈o.op.operands.toList,(oper e x).ok=true→relRV w (Mof M0 bs) bs hp (opRV e x) (a.eval x)) (hok:okOps e o.op) (h:(pEv g hp e o.type o.op).1) {r:Option Nat} {n:Nat}
  {K:Act→World→Prop} {Q:Exit→Act→World→Prop}
  (hK:∀ z w',relRV w' (Mof M0 bs) bs hp (pEv g hp e o.type o.op).2 z→HR w' M0 bs hp→Step false w (Mof M0 bs) bs hp w' (Mof M0 bs) bs hp→K (a.put o.dst z) w') :
  o.wpIn (FW r) n P a w K Q:=by
 have fin:∀ (rv:RV),(pEv g hp e o.type o.op).2=rv→(∀ c,o.op≠.defer c)→PDid w M0 bs hp ((execOp a.eval o).run P w) rv→o.wpIn (FW r) n P a w K Q:=by
  intro rv hrv hdef hd
  obtain ⟨z,w',h1,h2,h3,h4⟩:=hd
  refine ⟨fun f _=>trivial,?_⟩
  rw [Oper.semAt_eq _ _ _ hdef,h1]
  exact hK z w' (hrv▸h2) h3 h4
 obtain ⟨dst,op,t,pos,after,guard⟩:=o
 simp only at h hok hK fin he ⊢
 unfold pEv at h
 split at h
 ·
  
  rename_i u len ps
  refine fin _ rfl (by simp) ?_
  have hps:=parts_rel (e:=e) (a:=a) ps.toList (fun p hp=>he p.2 (by simp [Op.operands]; exact ⟨p.1,by simpa using hp⟩) (okOps_all (by simp) hok p.2 (by simp [Op.operands]; exact ⟨p.1,by simpa using hp⟩)))
  rw [← parts_map] at hps
  have:=buildSliceEv_sound (P:=P) hg.1 hr u len _ _ hps h
  simpa [execOp,pEv] using this
 ·
  
  rename_i u ps
  refine fin _ rfl (by simp) ?_
  have hps:=parts_rel (e:=e) (a:=a) ps.toList (fun p hp=>he p.2 (by simp [Op.operands]; exact ⟨p.1,by simpa using hp⟩) (okOps_all (by simp) hok p.2 (by simp [Op.operands]; exact ⟨p.1,by simpa using hp⟩)))
  rw [← parts_map] at hps
  have:=buildEv_sound (P:=P) hg.1 hr u _ _ hps h
  simpa [execOp,pEv] using this
 ·
  
  rename_i f xs ts
  clear fin
  simp only [pEv] at hK
  have hargs:=args_rel hg.1 (e:=e) (a:=a) xs.toList ts.toList (fun x hx=>he x (by simp [Op.operands,Call.operands]; simp at hx; simp [hx]) (okOps_all (by simp) hok x (by simp [Op.operands,Call.operands]; simp at hx; simp [hx])))
  have hf:=he f (by simp [Op.operands,Call.operands]) (okOps_all (by simp) hok f (by simp [Op.operands,Call.operands]))
  unfold callAny at h hK
  cases hbo:g.bo with
  | false =>
   simp only [hbo] at h hK
   exact call_wp hg hr hf (fun _ h=>h) (all2_pure (callVal_pure _ _ h) hargs) h (.inl rfl) hK
  | true =>
   simp only [hbo,callBor] at h hK
   cases hba:borAll hp (argsEv g e xs.toList ts.toList) with
   | none=>simp [hba] at h
   | some args' =>
    simp only [hba] at h hK
    refine call_wp hg hr hf (M1:=fun b=>Mof M0 bs b∧¬ ∃ id∈(argsEv g e xs.toList ts.toList).flatMap AV.ids,bs.at id=some b) (fun _ h=>h.1) (borAll_sound hr (fun _ h=>h.1) hargs hba fun id hid b hb hm=>hm.2 ⟨id,hid,hb⟩) h.1 (.inr h.2) hK
 ·
  
  rename_i s d x
  have hx:=relRV_av (he x (by simp [Op.operands]) (okOps_all (by simp) hok x (by simp [Op.operands])))
  refine fin _ rfl (by simp) ?_
  have:=cvEv_sound (P:=P) hg.1 hr s d _ _ hx h
  simpa [execOp,pEv] using this
 ·
  
  rename_i hn1 hn2 hn3 hn4
  have heq:pEv g hp e t op=qEv g hp (opRV e) t op:=by
   unfold pEv
   split
   ·
    exact absurd rfl (hn1 _ _ _)
   ·
    exact absurd rfl (hn2 _ _)
   ·
    exact absurd rfl (hn3 _ _ _)
   ·
    exact absurd rfl (hn4 _ _ _)
   ·
    rfl
  rw [heq] at fin
  clear hK
  by_cases hpk:∃ c x y,op=.pick c x y
  ·
   obtain ⟨c,x,y,rfl⟩:=hpk
   refine fin _ rfl (by simp) (pdid_of_quiet hr ?_)
   simp only [okOps] at hok
   obtain ⟨hc,hxy⟩:=hok
   have hcv:=he c (by simp [Op.operands]) hc
   simp only [qEv] at h ⊢
   cases hcr:opRV e c with
   | tup xs=>simp [hcr] at hxy
   | v cv =>
    cases cv with
    | agg cs=>simp [hcr] at hxy
    | s sv =>
     cases sv with
     | bool q =>
      simp only [hcr] at hxy h hcv ⊢
      obtain hcv:a.eval c=.bool q:=hcv
      unfold pickEv at h ⊢
      split at h
      ·
       rename_i q' b1 b2 e1 e2 e3
       obtain rfl:q=q':=by simpa [RV.av] using e1
       cases q with
       | true =>
        have hx:=relRV_av (he x (by simp [Op.operands]) (hxy.1 rfl))
        rw [e2] at hx
        obtain hx:a.eval x=.bool b1:=hx
        exact ⟨.bool b1,by simp [execOp,hcv,asBool,hx],rfl⟩
       | false =>
        have hy:=relRV_av (he y (by simp [Op.operands]) (hxy.2 rfl))
        rw [e3] at hy
        obtain hy:a.eval y=.bool b2:=hy
        exact ⟨.bool b2,by simp [execOp,hcv,asBool,hy],rfl⟩
      ·
       rename_i q' b2 e1 e2 e3
       obtain rfl:q=q':=by simpa [RV.av] using e1
       simp only at h
       subst h
       have hy:=relRV_av (he y (by simp [Op.operands]) (hxy.2 rfl))
       rw [e3] at hy
       obtain hy:a.eval y=.bool b2:=hy
       exact ⟨.bool b2,by simp [execOp,hcv,asBool,hy],rfl⟩
      ·
       rename_i q' b1 e1 e2 e3
       obtain rfl:q=q':=by simpa [RV.av] using e1
       simp only at h
       subst h
       have hx:=relRV_av (he x (by simp [Op.operands]) (hxy.1 rfl))
       rw [e2] at hx
       obtain hx:a.eval x=.bool b1:=hx
       exact ⟨.bool b1,by simp [execOp,hcv,asBool,hx],rfl⟩
      ·
       exact h.elim
     | _=>simp [hcr] at hxy
  ·
   refine fin _ rfl ?_ (pdid_of_quiet hr (qEv_sound hg.1 hr ⟨dst,op,t,pos,after,guard⟩ (opRV e) a (fun x hx=>he x hx (okOps_all (fun c x y he=>hpk ⟨c,x,y,he⟩) hok x hx)) h))
   intro c hc
   subst hc
   simp [qEv] at h
theorem of_one {t:Ty} {x:AV} {y:t.T} (h:t.of x=some y) (h0:t.nfld=0) {v:Value} {M:Nat→Prop} (hx:relAV w M bs hp x v):rep w M t y [v]:=by
 cases x with
 | agg cs=>simp [Ty.of,h0] at h
 | s sv =>
  simp only [Ty.of,h0,if_true] at h
  split at h
  ·
   rename_i z heq
   injection h with h
   subst h
   obtain ⟨c1,c2,hc,h1,h2⟩:=parse_rep t [sv] z [] [v] heq (.cons hx .nil)
   cases h2
   simp at hc
   subst hc
   exact h1
  ·
   cases h
theorem all2_set {α β:Type} {R:α→β→Prop} {l:List α} {m:List β} (h:All2 R l m) (j:Nat) (x:α) (y:β) (hxy:R x y):All2 R (l.set j x) (m.set j y):=by
 induction h generalizing j with
 | nil=>exact .nil
 | cons r h ih =>
  cases j with
  | zero=>exact .cons hxy h
  | succ j=>exact .cons r (ih j)
theorem of_repV {t:Ty} {x:AV} {y:t.T} {v:Value} (h:t.of x=some y) (hx:relAV w (Mof M0 bs) bs hp x v):repV w (Mof M0 bs) t y v:=by
 cases x with
 | s sv =>
  by_cases h0:t.nfld=0
  ·
   have:=of_one h h0 hx
   cases ht:t.isAgg with
   | false=>exact ⟨[v],by simp [unitV,ht],this⟩
   | true =>
    cases t with
    | nil=>simp [rep] at this
    | cons a b=>simp [Ty.nfld] at h0
    | tree a=>simp [Ty.nfld] at h0
    | _=>simp [Ty.isAgg] at ht
  ·
   simp [Ty.of,h0] at h
 | agg cs =>
  by_cases h0:t.nfld=0
  ·
   simp [Ty.of,h0] at h
  ·
   simp only [Ty.of,h0,if_false] at h
   split at h
   ·
    rename_i z heq
    injection h with h
    subst h
    obtain ⟨vs,rfl,hvs⟩:=hx
    obtain ⟨c1,c2,hc,h1,h2⟩:=parse_rep t cs z [] vs heq (hvs.imp fun _ _ q=>q.1)
    cases h2
    simp at hc
    subst hc
    have ht:t.isAgg=true:=by cases t <;> simp_all [Ty.nfld,Ty.isAgg]
    exact ⟨vs,by simp [unitV,ht],h1⟩
   ·
    cases h
theorem keyStays {k:Ty} (hk:k.keyOk=true) (a:k.T):Instr.keyThatStays (kval k a) (kval k a)=pure (kval k a):=by
 cases k <;> simp [Ty.keyOk] at hk <;> simp [kval,Instr.keyThatStays,Instr.sameBits,(bytes_beq _ _).2 rfl]
theorem mapUpdateEv_sound (hg:g.ok P) (hr:HR w M0 bs hp) (t:TypeId) (m k v:AV) (vm vk vv:Value) (hm:relAV w (Mof M0 bs) bs hp m vm) (hk:relAV w (Mof M0 bs) bs hp k vk) (hv:relAV w (Mof M0 bs) bs hp v vv)
  (h:(mapUpdateEv g hp t m k v).1):Did w M0 bs hp ((do Instr.mapUpdate t vm vk vv; pure .skip:Sem Next).run P w) (mapUpdateEv g hp t m k v).2.1 (mapUpdateEv g hp t m k v).2.2:=by
 have ht:=G.td_ok hg t
 unfold mapUpdateEv at h ⊢
 split at h
 ·
  rename_i kk ee kt vt id htd
  rw [htd] at ht
  obtain ⟨b,k0,u0,es,hb,hl,rfl⟩:=hm
  simp only [hl] at h ⊢
  cases hof:k0.of k with
  | none=>simp [hof,nope] at h
  | some key =>
   cases hov:u0.of (coeTy u0 v) with
   | none=>simp [hof,hov,nope] at h
   | some val =>
    simp only [hof,hov] at h ⊢
    obtain ⟨rfl,rfl⟩:=h
    obtain ⟨h1,h2,h3,h5,h6⟩:=ht
    obtain ⟨b',ents,clock,hb',hheap,hes⟩:=hr.map id _ _ _ hl
    rw [hb] at hb'; cases hb'
    obtain rfl:=of_key h5 hof hk
    have hval:=of_repV hov (coeTy_sound u0 v vv hv)
    have hget:(getObj b).run P w=.ok (.map ents clock) w:=by simp [getObj,Sem.run,hheap]
    have hset:∀ o,(setObj b o).run P w=.ok () (w.putObj b o):=fun o=>by simp [setObj,Sem.run,hheap,World.putObj]
    have hfk:∀ r,Instr.findNow k0.desc (kval k0 key) ents.toList 0=some r→(Instr.findKey kk (kval k0 key) ents.toList).run P w=.ok r w:=fun r hr=>by
     simp [Instr.findKey,Sem.run_bind,run_underlying h2,hr]
    have hblt:=hr.lt id b hb
    have fin:∀ (o:Obj) (es':List (k0.T×u0.T)) (ents':Array MapEntry) (c':Nat),o=.map ents' c'→(Instr.mapUpdate t (.map (some b)) (kval k0 key) vv).run P w=.ok () (w.putObj b o) →
      All2 (fun x (m:MapEntry)=>m.key=kval k0 x.1∧repV w (Mof M0 bs) u0 x.2 m.val) es' ents'.toList →
      Did w M0 bs hp ((do Instr.mapUpdate t (.map (some b)) (kval k0 key) vv; pure .skip:Sem Next).run P w) (.v (.s .any)) (hp.set id (.map k0 u0 es')):=by
     rintro o es' ents' c' rfl hrun hes'
     have hevo:Evo (Mof M0 bs) (Mof M0 bs) w (w.putObj b (.map ents' c')) :=
      ⟨rfl,rfl,rfl,by simp [World.putObj],Nat.le_refl _,fun c _ hm=>World.putObj_heap_other (fun e=>hm (e▸.inr ⟨id,hb⟩)),fun _ _ h=>h⟩
     obtain ⟨k1,k2⟩:=hr.rewrite hb hevo (fun c hne _=>World.putObj_heap_other hne) (World.putObj_heap_same hblt) (.map k0 u0 es') ⟨ents',c',rfl,hes'⟩ (by rw [hl]; exact ⟨rfl,rfl⟩)
     exact ⟨undef,_,bs,.inr ⟨by rw [Sem.run_bind,hrun]; rfl,rfl⟩,trivial,k1,k2⟩
    rcases find_rel (w:=w) (M:=Mof M0 bs) h5 key es ents.toList 0 hes with ⟨f1,f2,f3⟩ | ⟨j,x,me,f1,f2,f3,f4,f5,f6⟩
    ·
     rw [f3]
     refine fin (.map (ents.push { key:=kval k0 key,val:=vv,born:=clock }) (clock+1)) _ _ _ rfl ?_ (by simpa using hes.append (.cons ⟨rfl,hval⟩ .nil))
     simp only [Instr.mapUpdate,Sem.run_bind,run_underlying h1,Result.andThen_ok,hget,run_checkKey h5 h2 _ 9999,hfk _ f1,hset]
    ·
     rw [f6]
     have hkey:me.key=kval k0 key:=by
      obtain ⟨m',hm',hmr⟩:=hes.get j x f1
      rw [f2] at hm'; cases hm'
      rw [← f3]; exact hmr.1
     refine fin (.map (ents.modify (0+j) fun e=>{ e with key:=kval k0 key,val:=vv }) clock) _ _ _ rfl ?_ ?_
     ·
      have hj:ents[0+j]?=some me:=by simpa using f2
      simp only [Instr.mapUpdate,Sem.run_bind,run_underlying h1,Result.andThen_ok,hget,run_checkKey h5 h2 _ 9999,hfk _ f4,hj,Option.map_some,Option.getD_some,hkey]
      rw [keyStays h5]; simp [hset]
     ·
      have:(ents.modify (0+j) fun e=>{ e with key:=kval k0 key,val:=vv }).toList=ents.toList.set j { me with key:=kval k0 key,val:=vv }:=by
       apply List.ext_getElem?
       intro i
       rw [Nat.zero_add,Array.getElem?_toList,Array.getElem?_modify,List.getElem?_set]
       by_cases e:j=i
       ·
        subst e
        have hlt:=(List.getElem?_eq_some_iff.1 f2).1
        simp only [Array.length_toList] at hlt
        simp [hlt]
        simp at f2
        rw [Array.getElem?_eq_getElem hlt] at f2
        injection f2 with f2
        rw [f2]
       ·
        simp [e]
      rw [this]
      exact all2_set hes j _ _ ⟨rfl,hval⟩
 ·
  simp [nope] at h
theorem plain_td {t:TypeId} (h:plainTD (g.td t)=true):g.td t≠.other∧(∀ k e kt vt,g.td t≠.map k e kt vt)∧∀ ty,g.td t≠.eqs ty:=by
 cases hd:g.td t <;> simp_all [plainTD]
theorem mEv_did (hg:g.good P) (hr:HR w M0 bs hp) {e:Env} {a:Act} (o:Oper) (he:∀ x∈o.op.operands.toList,(oper e x).ok=true→relRV w (Mof M0 bs) bs hp (opRV e x) (a.eval x)) (hok:okOps e o.op) (h:(mEv g hp e o.op).1) :
  Did w M0 bs hp ((execOp a.eval o).run P w) (mEv g hp e o.op).2.1 (mEv g hp e o.op).2.2∧∀ c,o.op≠.defer c:=by
 obtain ⟨dst,op,t,pos,after,guard⟩:=o
 simp only at h hok ⊢
 unfold mEv at h ⊢
 split at h
 ·
  rename_i u
  exact ⟨by simpa only [execOp] using allocEv_sound hg.1 hr u h,by simp⟩
 ·
  rename_i u x
  exact ⟨by simpa only [execOp] using boxEv_sound hr u _ _ (relRV_av (coe_sound hg.1 u _ _ (he x (by simp [Op.operands]) (okOps_all (by simp) hok x (by simp [Op.operands]))))) h,by simp⟩
 ·
  rename_i u y x
  obtain ⟨h1,h2⟩:=h
  obtain ⟨k1,k2⟩:=plain_td h1
  exact ⟨by simpa only [execOp] using storeEv_sound hg.1 hr u _ _ _ _ (relRV_av (he y (by simp [Op.operands]) (okOps_all (by simp) hok y (by simp [Op.operands])))) (relRV_av (coe_sound hg.1 u _ _ (he x (by simp [Op.operands]) (okOps_all (by simp) hok x (by simp [Op.operands]))))) k1 k2 h2,by simp⟩
 ·
  rename_i u
  exact ⟨by simpa only [execOp,Option.map_none] using makeMapEv_sound hg.1 hr u h,by simp⟩
 ·
  rename_i u l c
  cases hpm:g.pm with
  | false =>
   simp only [hpm] at h ⊢
   exact ⟨by simpa only [execOp] using makeSliceEv_sound hg.1 hr u _ _ _ _ (relRV_av (he l (by simp [Op.operands]) (okOps_all (by simp) hok l (by simp [Op.operands])))) (relRV_av (he c (by simp [Op.operands]) (okOps_all (by simp) hok c (by simp [Op.operands])))) h,by simp⟩
  | true =>
   simp only [hpm] at h ⊢
   exact ⟨by simpa only [execOp] using makePartEv_sound hg.1 hr u _ _ _ _ (relRV_av (he l (by simp [Op.operands]) (okOps_all (by simp) hok l (by simp [Op.operands])))) (relRV_av (he c (by simp [Op.operands]) (okOps_all (by simp) hok c (by simp [Op.operands])))) h,by simp⟩
 ·
  rename_i u m k v
  exact ⟨by simpa only [execOp] using mapUpdateEv_sound hg.1 hr u _ _ _ _ _ _ (relRV_av (he m (by simp [Op.operands]) (okOps_all (by simp) hok m (by simp [Op.operands])))) (relRV_av (he k (by simp [Op.operands]) (okOps_all (by simp) hok k (by simp [Op.operands])))) (relRV_av (he v (by simp [Op.operands]) (okOps_all (by simp) hok v (by simp [Op.operands])))) h,by simp⟩
 ·
  rename_i u m k v
  exact ⟨by simpa only [execOp] using mapUpdateEv_sound hg.1 hr u _ _ _ _ _ _ (relRV_av (he m (by simp [Op.operands]) (okOps_all (by simp) hok m (by simp [Op.operands])))) (relRV_av (he k (by simp [Op.operands]) (okOps_all (by simp) hok k (by simp [Op.operands])))) (relRV_av (he v (by simp [Op.operands]) (okOps_all (by simp) hok v (by simp [Op.operands])))) h,by simp⟩
 ·
  rename_i xs ts
  unfold appendArgs at h ⊢
  split at h
  ·
   rename_i s y t1 t2 e1 e2
   obtain rfl:xs=#[s,y]:=by cases xs; simpa using e1
   obtain rfl:ts=#[t1,t2]:=by cases ts; simpa using e2
   refine ⟨?_,by simp⟩
   have hap:(t1=t2∧(appendEv g hp t1 (coeA g t1 (opRV e s)) (coeA g t1 (opRV e y))).1)→Did w M0 bs hp ((execOp a.eval ⟨dst,.call { callee:=.builtin .append,args:=#[s,y],argTypes:=#[t1,t2] },t,pos,after,guard⟩).run P w) (appendEv g hp t1 (coeA g t1 (opRV e s)) (coeA g t1 (opRV e y))).2.1 (appendEv g hp t1 (coeA g t1 (opRV e s)) (coeA g t1 (opRV e y))).2.2:=by
    rintro ⟨rfl,hq⟩
    have:=appendEv_sound hg.1 hr t1 t _ _ _ _ (relRV_av (coe_sound hg.1 t1 _ _ (he s (by simp [Op.operands,Call.operands]) (okOps_all (by simp) hok s (by simp [Op.operands,Call.operands]))))) (relRV_av (coe_sound hg.1 t1 _ _ (he y (by simp [Op.operands,Call.operands]) (okOps_all (by simp) hok y (by simp [Op.operands,Call.operands]))))) hq
    simpa [execOp,resolve,invoke,builtin] using this
   split at h
   ·
    exact Did.fz hap h
   ·
    split at h
    ·
     rename_i n hn
     have h2:=he y (by simp [Op.operands,Call.operands]) (okOps_all (by simp) hok y (by simp [Op.operands,Call.operands]))
     rw [hn] at h2
     have h3:a.eval y=.int .i64 n:=h2
     have:=zapEv_sound hg.1 hr t1 t2 t _ n _ (relRV_av (coe_sound hg.1 t1 _ _ (he s (by simp [Op.operands,Call.operands]) (okOps_all (by simp) hok s (by simp [Op.operands,Call.operands]))))) h
     simpa [execOp,resolve,invoke,builtin,h3] using this
    ·
     rename_i z hn
     have h2:=he y (by simp [Op.operands,Call.operands]) (okOps_all (by simp) hok y (by simp [Op.operands,Call.operands]))
     rw [hn] at h2
     have h3:a.eval y=.string z:=h2
     have:=appStrEv_sound hg.1 hr t1 t2 t _ z _ (relRV_av (coe_sound hg.1 t1 _ _ (he s (by simp [Op.operands,Call.operands]) (okOps_all (by simp) hok s (by simp [Op.operands,Call.operands]))))) h
     simpa [execOp,resolve,invoke,builtin,h3] using this
    ·
     exact hap h
  ·
   simp [nope] at h
 ·
  rename_i xs ts
  unfold copyArgs at h ⊢
  split at h
  ·
   rename_i d s t1 t2 e1 e2
   obtain rfl:xs=#[d,s]:=by cases xs; simpa using e1
   obtain rfl:ts=#[t1,t2]:=by cases ts; simpa using e2
   refine ⟨?_,by simp⟩
   have:=copyEv_sound hg.1 hr t1 t2 t _ _ _ _ (relRV_av (coe_sound hg.1 t1 _ _ (he d (by simp [Op.operands,Call.operands]) (okOps_all (by simp) hok d (by simp [Op.operands,Call.operands]))))) (relRV_av (coe_sound hg.1 t2 _ _ (he s (by simp [Op.operands,Call.operands]) (okOps_all (by simp) hok s (by simp [Op.operands,Call.operands]))))) h
   simpa [execOp,resolve,invoke,builtin] using this
  ·
   simp [nope] at h
 ·
  simp [nope] at h
end
end Go.Am
