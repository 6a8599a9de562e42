/- Part 4 of the proof's base. -/
import Derived.Test.YtgnoaabcdccpoaaGreatDoorK3
set_option linter.all false
noncomputable section
namespace Go.Am
open Go.RowKit
section
variable {w:World} {M M0:Nat→Prop} {bs bs':Bs} {hp hp':List Blk}
theorem relSV_ren {σ:Nat→Nat} {x:SV} {v:Value} (hl:bs.length=hp.length) (hσ:∀ id,id∈x.ids→id<hp.length→Blk.look hp' (σ id)=Blk.look hp id∧bs'.at (σ id)=bs.at id∧σ id<hp'.length) (h:relSV w M bs hp x v):relSV w M bs' hp' (x.ren σ) v:=by
 cases x with
 | box id off =>
  obtain ⟨h1,h2⟩:=h
  obtain ⟨k1,k2,k3⟩:=hσ id (by simp [SV.ids]) h1
  refine ⟨k3,fun cs hl => ?_⟩
  rw [k1] at hl
  rw [k2]
  exact h2 cs hl
 | own t id n =>
  obtain ⟨h1,h2⟩:=h
  obtain ⟨k1,k2,k3⟩:=hσ id (by simp [SV.ids]) h1
  refine ⟨k3,fun al cs hl => ?_⟩
  rw [k1] at hl
  rw [k2]
  exact h2 al cs hl
 | eown t id n off =>
  obtain ⟨h1,h2⟩:=h
  obtain ⟨k1,k2,k3⟩:=hσ id (by simp [SV.ids]) h1
  refine ⟨k3,fun al cs hl => ?_⟩
  rw [k1] at hl
  rw [k2]
  exact h2 al cs hl
 | pre t id n m =>
  obtain ⟨h1,hm,h2⟩:=h
  obtain ⟨k1,k2,k3⟩:=hσ id (by simp [SV.ids]) h1
  refine ⟨k3,hm,fun al cs hl => ?_⟩
  rw [k1] at hl
  rw [k2]
  exact h2 al cs hl
 | suf t id n k =>
  obtain ⟨h1,hm,h2⟩:=h
  obtain ⟨k1,k2,k3⟩:=hσ id (by simp [SV.ids]) h1
  refine ⟨k3,hm,fun al cs hl => ?_⟩
  rw [k1] at hl
  rw [k2]
  exact h2 al cs hl
 | fn f ids =>
  obtain ⟨ps,h1,h2⟩:=h
  refine ⟨ps,h1,?_⟩
  have key:∀ {l:List Nat} {m:List Nat},(∀ id∈l,id<hp.length→Blk.look hp' (σ id)=Blk.look hp id∧bs'.at (σ id)=bs.at id∧σ id<hp'.length)→All2 (fun id b=>id<hp.length∧∀ cs,Blk.look hp id=.cells cs→bs.at id=some b) l m →
    All2 (fun id b=>id<hp'.length∧∀ cs,Blk.look hp' id=.cells cs→bs'.at id=some b) (l.map σ) m:=by
   intro l m hs h
   induction h with
   | nil=>exact .nil
   | cons r _ ih =>
    obtain ⟨r1,r2⟩:=r
    obtain ⟨k1,k2,k3⟩:=hs _ (List.mem_cons_self ..) r1
    exact .cons ⟨k3,fun cs hl=>by rw [k2]; exact r2 cs (by rw [← k1]; exact hl)⟩ (ih fun id hid=>hs id (by simp [hid]))
  exact key (fun id hid=>hσ id hid) h2
 | mp id =>
  obtain ⟨b,k,u,es,h1,h2,h3⟩:=h
  obtain ⟨k1,k2,_⟩:=hσ id (by simp [SV.ids]) (look_lt (by rw [h2]; simp))
  exact ⟨b,k,u,es,by rw [k2]; exact h1,by rw [k1]; exact h2,h3⟩
 | part t id off n c =>
  obtain ⟨h1,q1,q2,a,q3,h2⟩:=h
  obtain ⟨k1,k2,k3⟩:=hσ id (by simp [SV.ids]) h1
  refine ⟨k3,q1,q2,a,q3,fun cs hl => ?_⟩
  rw [k1] at hl
  rw [k2]
  exact h2 cs hl
 | bbx f id off =>
  obtain ⟨h1,q,q3,h2⟩:=h
  obtain ⟨k1,k2,k3⟩:=hσ id (by simp [SV.ids]) h1
  refine ⟨k3,q,q3,fun cs hl => ?_⟩
  rw [k1] at hl
  rw [k2]
  exact h2 cs hl
 | _=>exact h
theorem relAV_ren {σ:Nat→Nat} {x:AV} {v:Value} (hl:bs.length=hp.length) (hσ:∀ id,id∈x.ids→id<hp.length→Blk.look hp' (σ id)=Blk.look hp id∧bs'.at (σ id)=bs.at id∧σ id<hp'.length) (h:relAV w M bs hp x v):relAV w M bs' hp' (x.ren σ) v:=by
 cases x with
 | s x=>exact relSV_ren hl hσ h
 | agg cs =>
  obtain ⟨vs,rfl,h⟩:=h
  refine ⟨vs,rfl,?_⟩
  simp only [AV.ids] at hσ
  induction h with
  | nil=>exact .nil
  | cons r _ ih=>exact .cons ⟨relSV_ren hl (fun id hid=>hσ id (by simp [hid])) r.1,r.2⟩ (ih fun id hid=>hσ id (by simp at hid ⊢; exact .inr hid))
theorem relRV_ren {σ:Nat→Nat} {x:RV} {v:Value} (hl:bs.length=hp.length) (hσ:∀ id,id<hp.length→Blk.look hp' (σ id)=Blk.look hp id∧bs'.at (σ id)=bs.at id∧σ id<hp'.length) (h:relRV w M bs hp x v):relRV w M bs' hp' (x.ren σ) v:=by
 cases x with
 | v x=>exact relAV_ren hl (fun id _=>hσ id) h
 | tup xs =>
  obtain ⟨vs,rfl,h⟩:=h
  refine ⟨vs,rfl,?_⟩
  induction h with
  | nil=>exact .nil
  | cons r _ ih=>exact .cons (relAV_ren hl (fun id _=>hσ id) r) ih
theorem all2_ren {σ:Nat→Nat} (hl:bs.length=hp.length):∀ {xs:List AV} {vs:List Value},(∀ id,id∈xs.flatMap AV.ids→id<hp.length→Blk.look hp' (σ id)=Blk.look hp id∧bs'.at (σ id)=bs.at id∧σ id<hp'.length)→All2 (relAV w M bs hp) xs vs→All2 (relAV w M bs' hp') (xs.map (AV.ren σ)) vs
 | [],_,_,.nil=>.nil
 | x::xs,_,hσ,.cons r h=>.cons (relAV_ren hl (fun id hid=>hσ id (by simp [hid])) r) (all2_ren hl (fun id hid=>hσ id (by simp only [List.flatMap_cons,List.mem_append]; exact .inr hid)) h)
theorem dedup_spec:∀ (l acc:List Nat),acc.Nodup→(dedup acc l).Nodup∧∀ x,x∈dedup acc l↔x∈acc∨x∈l
 | [],acc,h=>by simp [dedup,h]
 | y::l,acc,h=>by
  simp only [dedup]
  split
  ·
   rename_i hc
   obtain ⟨h1,h2⟩:=dedup_spec l acc h
   refine ⟨h1,fun x => ?_⟩
   rw [h2]
   simp only [List.mem_cons]
   constructor
   ·
    rintro (h | h)
    ·
     exact .inl h
    ·
     exact .inr (.inr h)
   ·
    rintro (h | h | h)
    ·
     exact .inl h
    ·
     subst h; exact .inl (by simpa using hc)
    ·
     exact .inr h
  ·
   rename_i hc
   have hy:y∉acc:=by simpa using hc
   obtain ⟨h1,h2⟩:=dedup_spec l (acc++[y]) (by
    rw [List.nodup_append]
    exact ⟨h,by simp,fun a ha b hb=>by simp at hb; subst hb; intro e; subst e; exact hy ha⟩)
   refine ⟨h1,fun x => ?_⟩
   rw [h2]
   simp only [List.mem_append,List.mem_cons,List.not_mem_nil,or_false]
   constructor
   ·
    rintro ((h | h) | h)
    ·
     exact .inl h
    ·
     exact .inr (.inl h)
    ·
     exact .inr (.inr h)
   ·
    rintro (h | h | h)
    ·
     exact .inl (.inl h)
    ·
     exact .inl (.inr h)
    ·
     exact .inr h
theorem idx_spec:∀ (l:List Nat) (x:Nat),x∈l→l[idx l x]?=some x
 | y::l,x,h=>by
  simp only [idx]
  split
  ·
   rename_i e; subst e; rfl
  ·
   rename_i hne
   have:x∈l:=by
    cases h with
    | head=>exact absurd rfl hne
    | tail _ h=>exact h
   simpa using idx_spec l x this
theorem mergeB_length {α:Type}:∀ (sel:List Nat) (l out:List α),sel.length≤out.length→(mergeB l sel out).length=l.length+(out.length - sel.length)
 | [],l,out,_=>by simp [mergeB]
 | id::sel,l,[],h=>by simp at h
 | id::sel,l,b::out,h=>by
  simp only [mergeB]
  rw [mergeB_length sel _ out (by simpa using h)]
  simp
theorem mergeB_other {α:Type}:∀ (sel:List Nat) (l out:List α) (id:Nat),sel.length≤out.length→id∉sel→id<l.length→(mergeB l sel out)[id]?=l[id]?
 | [],l,out,id,_,_,h=>by simp only [mergeB]; rw [List.getElem?_append_left h]
 | i::sel,l,[],id,h,_,_=>by simp at h
 | i::sel,l,b::out,id,h,hn,hlt=>by
  simp only [List.mem_cons,not_or] at hn
  simp only [mergeB]
  rw [mergeB_other sel _ out id (by simpa using h) hn.2 (by simpa using hlt),List.getElem?_set_ne (fun e=>hn.1 e.symm)]
theorem mergeB_new {α:Type}:∀ (sel:List Nat) (l out:List α) (i:Nat),sel.length≤out.length→(mergeB l sel out)[l.length+i]?=out[sel.length+i]?
 | [],l,out,i,_=>by simp [mergeB,List.getElem?_append_right]
 | id::sel,l,[],i,h=>by simp at h
 | id::sel,l,b::out,i,h=>by
  simp only [mergeB]
  have:=mergeB_new sel (l.set id b) out i (by simpa using h)
  rw [List.length_set] at this
  rw [this,List.length_cons,show sel.length+1+i=sel.length+i+1 by omega]
  simp
theorem mergeB_sel {α:Type}:∀ (sel:List Nat) (l out:List α) (j id:Nat),sel.length≤out.length→sel.Nodup→(∀ i∈sel,i<l.length)→sel[j]?=some id→(mergeB l sel out)[id]?=out[j]?
 | [],l,out,j,id,_,_,_,h=>by simp at h
 | i::sel,l,[],j,id,h,_,_,_=>by simp at h
 | i::sel,l,b::out,j,id,h,hn,hlt,hj=>by
  simp only [mergeB]
  rw [List.nodup_cons] at hn
  cases j with
  | zero =>
   simp at hj; subst hj
   rw [mergeB_other sel _ out i (by simpa using h) hn.1 (by simpa using hlt i (by simp))]
   simp [hlt i (by simp)]
  | succ j =>
   rw [mergeB_sel sel _ out j id (by simpa using h) hn.2 (fun k hk=>by simpa using hlt k (by simp [hk])) (by simpa using hj)]
   simp
theorem look_get {l:List Blk} {i:Nat} {l':List Blk} {j:Nat} (h:l[i]?=l'[j]?):Blk.look l i=Blk.look l' j:=by unfold Blk.look; rw [h]
theorem at_get {l:Bs} {i:Nat} {l':Bs} {j:Nat} (h:l[i]?=l'[j]?):Bs.at l i=Bs.at l' j:=by unfold Bs.at; rw [h]
theorem at_map (sel:List Nat) (j:Nat):Bs.at (sel.map bs.at) j=(sel[j]?).bind bs.at:=by
 unfold Bs.at
 rw [List.getElem?_map]
 cases sel[j]? <;> rfl
theorem look_map (sel:List Nat) (j:Nat):Blk.look (sel.map (Blk.look hp)) j=match sel[j]? with | some id=>Blk.look hp id | none=>.dead:=by
 unfold Blk.look
 rw [List.getElem?_map]
 cases sel[j]? <;> rfl
theorem relSV_pure_any {M':Nat→Prop} {w':World} {x:SV} {v:Value} (hx:x.pure=true) (he:Evo M M' w w') (h:relSV w M bs hp x v):relSV w' M' bs' hp' x v:=by
 have h1:relSV w M [] [] x v:=relSV_pure hx h
 have h2:relSV w' M' [] [] x v:=by
  cases x with
  | sl t xs ex=>obtain ⟨a,c,q1,q2,q3,q4,q5⟩:=h1; exact ⟨a,c,q1,q2,q3,q4,q5.evo he⟩
  | eptr t x=>obtain ⟨b,off,cs,q1,q2,q3,q4,q5⟩:=h1; exact ⟨b,off,cs,q1,he.free b q3 q2,Nat.lt_of_lt_of_le q3 he.size,rep_evo he _ _ _ q4,q5.evo he q3 q2⟩
  | fnp f caps=>obtain ⟨ps,q1,q2⟩:=h1; exact ⟨ps,q1,q2.imp fun c p hp=>hp.evo he⟩
  | fv x=>exact RepD.evo he h1
  | box id off=>simp [SV.pure] at hx
  | own t id n=>simp [SV.pure] at hx
  | eown t id n off=>simp [SV.pure] at hx
  | pre t id n m=>simp [SV.pure] at hx
  | suf t id n k=>simp [SV.pure] at hx
  | part t id off n c=>simp [SV.pure] at hx
  | bbx f id off=>simp [SV.pure] at hx
  | mp id=>simp [SV.pure] at hx
  | ib p q=>simp [SV.pure] at hx
  | _=>exact h1
 exact relSV_lift h2
theorem pure_cells {id:Nat} {cs:List SV} (h:hp.all Blk.pureB=true) (hl:Blk.look hp id=.cells cs) {i:Nat} {x:SV} (hx:cs[i]?=some x):x.pure=true:=by
 rw [List.all_eq_true] at h
 have hlt:id<hp.length:=look_lt (by rw [hl]; simp)
 have:=h hp[id] (List.getElem_mem hlt)
 simp only [Blk.look,List.getElem?_eq_getElem hlt,Option.getD_some] at hl
 rw [hl] at this
 simp only [Blk.pureB,List.all_eq_true] at this
 exact this x (List.mem_of_getElem? hx)
theorem pure_arr {id:Nat} {al:Bool} {cs:List SV} (h:hp.all Blk.pureB=true) (hl:Blk.look hp id=.arr al cs) {i:Nat} {x:SV} (hx:cs[i]?=some x):x.pure=true:=by
 rw [List.all_eq_true] at h
 have hlt:id<hp.length:=look_lt (by rw [hl]; simp)
 have:=h hp[id] (List.getElem_mem hlt)
 simp only [Blk.look,List.getElem?_eq_getElem hlt,Option.getD_some] at hl
 rw [hl] at this
 simp only [Blk.pureB,List.all_eq_true] at this
 exact this x (List.mem_of_getElem? hx)
theorem HR.select {M0':Nat→Prop} (hr:HR w M0 bs hp) (sel:List Nat) (hnd:sel.Nodup) (hpure:∀ id∈sel,(Blk.look hp id).pureB=true) (hm:∀ b,M0' b→b<w.heap.size) (hout:∀ id∈sel,∀ b,bs.at id=some b→¬ M0' b)
  (hsub:∀ b,b<w.heap.size→Mof M0' (sel.map bs.at) b→Mof M0 bs b):HR w M0' (sel.map bs.at) (sel.map (Blk.look hp)):=by
 have hev:Evo (Mof M0 bs) (Mof M0' (sel.map bs.at)) w w:=Evo.more w hsub
 have hat:∀ j b,Bs.at (sel.map bs.at) j=some b→∃ id,sel[j]?=some id∧bs.at id=some b:=by
  intro j b h
  rw [at_map] at h
  cases hs:sel[j]? with
  | none=>rw [hs] at h; cases h
  | some id=>rw [hs] at h; exact ⟨id,rfl,h⟩
 have hlk:∀ j x,Blk.look (sel.map (Blk.look hp)) j=x→x≠.dead→∃ id,sel[j]?=some id∧Blk.look hp id=x∧x.pureB=true:=by
  intro j x h hne
  rw [look_map] at h
  cases hs:sel[j]? with
  | none=>rw [hs] at h; exact absurd h.symm hne
  | some id =>
   rw [hs] at h
   exact ⟨id,rfl,h,by rw [← h]; exact hpure id (List.mem_of_getElem? hs)⟩
 refine ⟨by simp,hm,fun j b h => ?_,fun i j b h1 h2 => ?_,fun j b h => ?_,fun j cs h => ?_,fun j cs h => ?_,fun j al cs b h hb => ?_,fun j k v es h => ?_,hr.gl.evo hev⟩
 ·
  obtain ⟨id,h1,h2⟩:=hat j b h
  exact hr.lt id b h2
 ·
  obtain ⟨id1,q1,q2⟩:=hat i b h1
  obtain ⟨id2,q3,q4⟩:=hat j b h2
  have:=hr.inj id1 id2 b q2 q4
  subst this
  exact (List.getElem?_inj (List.getElem?_eq_some_iff.1 q1).1 hnd).1 (q1.trans q3.symm)
 ·
  obtain ⟨id,h1,h2⟩:=hat j b h
  exact hout id (List.mem_of_getElem? h1) b h2
 ·
  obtain ⟨id,h1,h2,_⟩:=hlk j _ h (by simp)
  obtain ⟨b,hb⟩:=hr.al id cs h2
  exact ⟨b,by rw [at_map,h1]; exact hb⟩
 ·
  obtain ⟨id,h1,h2,h3⟩:=hlk j _ h (by simp)
  obtain ⟨b,cur,e,q1,q2,q3,q4⟩:=hr.cells id cs h2
  refine ⟨b,cur,e,by rw [at_map,h1]; exact q1,q2,q3,fun i x hx => ?_⟩
  obtain ⟨u,r1,r2,r3⟩:=q4 i x hx
  simp only [Blk.pureB,List.all_eq_true] at h3
  exact ⟨u,r1,r2,relSV_pure_any (h3 x (List.mem_of_getElem? hx)) hev r3⟩
 ·
  obtain ⟨id,h1,h2,h3⟩:=hlk j _ h (by simp)
  rw [at_map,h1] at hb
  obtain ⟨cur,e,q2,q4⟩:=hr.arr id al cs b h2 hb
  refine ⟨cur,e,q2,fun i x hx => ?_⟩
  obtain ⟨u,r1,r2,r3⟩:=q4 i x hx
  simp only [Blk.pureB,List.all_eq_true] at h3
  exact ⟨u,r1,r2,relSV_pure_any (h3 x (List.mem_of_getElem? hx)) hev r3⟩
 ·
  obtain ⟨id,h1,h2,h3⟩:=hlk j _ h (by simp)
  obtain ⟨b,ents,clock,q1,q2,q3⟩:=hr.map id k v es h2
  exact ⟨b,ents,clock,by rw [at_map,h1]; exact q1,q2,q3.imp fun x m hm=>⟨hm.1,repV_evo hev hm.2⟩⟩
theorem merge_hr {w':World} {bsL':Bs} {hpL':List Blk} (hr:HR w M0 bs hp) (sel:List Nat) (hnd:sel.Nodup) (hlt:∀ id∈sel,id<hp.length)
  (hr':HR w' (fun b=>Mof M0 bs b∧¬ ∃ id∈sel,bs.at id=some b) bsL' hpL') (hpure:hpL'.all Blk.pureB=true)
  (hst:Step false w (Mof (fun b=>Mof M0 bs b∧¬ ∃ id∈sel,bs.at id=some b) (sel.map bs.at)) (sel.map bs.at) (sel.map (Blk.look hp)) w' (Mof (fun b=>Mof M0 bs b∧¬ ∃ id∈sel,bs.at id=some b) bsL') bsL' hpL') :
  HR w' M0 (mergeB bs sel bsL') (mergeB hp sel hpL')∧Step false w (Mof M0 bs) bs hp w' (Mof M0 (mergeB bs sel bsL')) (mergeB bs sel bsL') (mergeB hp sel hpL') ∧
   (∀ j,j<hpL'.length→Blk.look (mergeB hp sel hpL') (outId sel hp.length j)=Blk.look hpL' j∧Bs.at (mergeB bs sel bsL') (outId sel hp.length j)=bsL'.at j∧outId sel hp.length j<(mergeB hp sel hpL').length) ∧
   ∀ b,Mof M0 (mergeB bs sel bsL') b↔Mof (fun b=>Mof M0 bs b∧¬ ∃ id∈sel,bs.at id=some b) bsL' b:=by
 have hlenL:sel.length≤hpL'.length:=by have:=hst.len; simpa using this
 have hlenB:sel.length≤bsL'.length:=by rw [hr'.len]; exact hlenL
 have hltb:∀ id∈sel,id<bs.length:=fun id h=>by rw [hr.len]; exact hlt id h
 have hmlen:(mergeB hp sel hpL').length=hp.length+(hpL'.length - sel.length):=mergeB_length sel hp hpL' hlenL
 have hsel:∀ j id,sel[j]?=some id→Blk.look (mergeB hp sel hpL') id=Blk.look hpL' j∧Bs.at (mergeB bs sel bsL') id=bsL'.at j:=fun j id h =>
  ⟨look_get (mergeB_sel sel hp hpL' j id hlenL hnd hlt h),at_get (mergeB_sel sel bs bsL' j id hlenB hnd hltb h)⟩
 have hoth:∀ id,id∉sel→id<hp.length→Blk.look (mergeB hp sel hpL') id=Blk.look hp id∧Bs.at (mergeB bs sel bsL') id=bs.at id:=fun id h h' =>
  ⟨look_get (mergeB_other sel hp hpL' id hlenL h h'),at_get (mergeB_other sel bs bsL' id hlenB h (by rw [hr.len]; exact h'))⟩
 have hnew:∀ i,Blk.look (mergeB hp sel hpL') (hp.length+i)=Blk.look hpL' (sel.length+i)∧Bs.at (mergeB bs sel bsL') (hp.length+i)=bsL'.at (sel.length+i):=fun i =>
  ⟨look_get (mergeB_new sel hp hpL' i hlenL),at_get (by have:=mergeB_new sel bs bsL' i hlenB; rwa [hr.len] at this)⟩
 have hout:∀ j,j<hpL'.length→Blk.look (mergeB hp sel hpL') (outId sel hp.length j)=Blk.look hpL' j∧Bs.at (mergeB bs sel bsL') (outId sel hp.length j)=bsL'.at j∧outId sel hp.length j<(mergeB hp sel hpL').length:=by
  intro j hj
  unfold outId
  cases hs:sel[j]? with
  | some id=>exact ⟨(hsel j id hs).1,(hsel j id hs).2,by rw [hmlen]; have:=hlt id (List.mem_of_getElem? hs); simp only; omega⟩
  | none =>
   have hge:sel.length≤j:=by simpa using hs
   have:=hnew (j - sel.length)
   rw [show sel.length+(j - sel.length)=j by omega] at this
   exact ⟨this.1,this.2,by rw [hmlen]; simp only; omega⟩
 have hany:∀ id,(∃ j,id=outId sel hp.length j∧(j<sel.length∨sel.length≤j)∧Blk.look (mergeB hp sel hpL') id=Blk.look hpL' j∧Bs.at (mergeB bs sel bsL') id=bsL'.at j∧(sel[j]?=some id∨(sel.length≤j∧hp.length≤id))) ∨
   (id∉sel∧id<hp.length∧Blk.look (mergeB hp sel hpL') id=Blk.look hp id∧Bs.at (mergeB bs sel bsL') id=bs.at id):=by
  intro id
  by_cases hin:id∈sel
  ·
   obtain ⟨j,hj⟩:=List.getElem?_of_mem hin
   left
   exact ⟨j,by unfold outId; rw [hj],.inl (List.getElem?_eq_some_iff.1 hj).1,(hsel j id hj).1,(hsel j id hj).2,.inl hj⟩
  ·
   by_cases hl:id<hp.length
   ·
    right; exact ⟨hin,hl,(hoth id hin hl).1,(hoth id hin hl).2⟩
   ·
    left
    have:=hnew (id - hp.length)
    rw [show hp.length+(id - hp.length)=id by omega] at this
    refine ⟨sel.length+(id - hp.length),?_,.inr (by omega),this.1,this.2,.inr ⟨by omega,by omega⟩⟩
    unfold outId
    rw [List.getElem?_eq_none (by omega)]
    simp only
    omega
 have hM0:∀ id∈sel,∀ b,bs.at id=some b→¬ M0 b:=fun id _ b hb=>hr.out id b hb
 have hMB:∀ b,Mof M0 bs b↔Mof (fun b=>Mof M0 bs b∧¬ ∃ id∈sel,bs.at id=some b) (sel.map bs.at) b:=by
  intro b
  constructor
  ·
   intro h
   by_cases hs:∃ id∈sel,bs.at id=some b
   ·
    obtain ⟨id,hid,hb⟩:=hs
    obtain ⟨j,hj⟩:=List.getElem?_of_mem hid
    exact .inr ⟨j,by rw [at_map,hj]; exact hb⟩
   ·
    exact .inl ⟨h,hs⟩
  ·
   rintro (h | ⟨j,h⟩)
   ·
    exact h.1
   ·
    rw [at_map] at h
    cases hs:sel[j]? with
    | none=>rw [hs] at h; cases h
    | some id=>rw [hs] at h; exact .inr ⟨id,h⟩
 have hMA:∀ b,Mof M0 (mergeB bs sel bsL') b↔Mof (fun b=>Mof M0 bs b∧¬ ∃ id∈sel,bs.at id=some b) bsL' b:=by
  intro b
  constructor
  ·
   rintro (h | ⟨id,h⟩)
   ·
    refine .inl ⟨.inl h,?_⟩
    rintro ⟨id,hid,hb⟩
    exact hM0 id hid b hb h
   ·
    rcases hany id with ⟨j,_,_,_,k2,_⟩ | ⟨k0,_,_,k2⟩
    ·
     exact .inr ⟨j,by rw [← k2]; exact h⟩
    ·
     rw [k2] at h
     refine .inl ⟨.inr ⟨id,h⟩,?_⟩
     rintro ⟨id',hid',hb⟩
     exact k0 (hr.inj id id' b h hb▸hid')
  ·
   rintro (⟨h | ⟨id,h⟩,hn⟩ | ⟨j,h⟩)
   ·
    exact .inl h
   ·
    have hid:id∉sel:=fun hin=>hn ⟨id,hin,h⟩
    exact .inr ⟨id,by rw [(hoth id hid (by rw [← hr.len]; exact at_lt h)).2]; exact h⟩
   ·
    exact .inr ⟨_,by rw [(hout j (by rw [← hr'.len]; exact at_lt h)).2.1]; exact h⟩
 have hMBf:Mof (fun b=>Mof M0 bs b∧¬ ∃ id∈sel,bs.at id=some b) (sel.map bs.at)=Mof M0 bs:=funext fun b=>propext (hMB b).symm
 have hMAf:Mof (fun b=>Mof M0 bs b∧¬ ∃ id∈sel,bs.at id=some b) bsL'=Mof M0 (mergeB bs sel bsL'):=funext fun b=>propext (hMA b).symm
 rw [hMBf,hMAf] at hst
 have hold:∀ id b,id∉sel→bs.at id=some b→w'.heap[b]?=w.heap[b]?:=fun id b hid hb =>
  (hst.only rfl).old b (hr.lt id b hb) (fun j hj=>by
   rw [at_map] at hj
   cases hs:sel[j]? with
   | none=>rw [hs] at hj; cases hj
   | some id' =>
    rw [hs] at hj
    exact hid (hr.inj id id' b hb hj▸List.mem_of_getElem? hs))
 have hS:Step false w (Mof M0 bs) bs hp w' (Mof M0 (mergeB bs sel bsL')) (mergeB bs sel bsL') (mergeB hp sel hpL'):=by
  refine ⟨hst.evo,by rw [hmlen]; omega,?_,?_,?_,fun _=>⟨?_,?_,?_⟩⟩
  ·
   intro id cs h1 h2
   by_cases hin:id∈sel
   ·
    obtain ⟨j,hj⟩:=List.getElem?_of_mem hin
    rw [(hsel j id hj).1] at h2
    obtain ⟨⟨cs',q1⟩,q2⟩:=hst.box j cs (by simpa using (List.getElem?_eq_some_iff.1 hj).1) h2
    rw [look_map,hj] at q1
    rw [at_map,hj] at q2
    exact ⟨⟨cs',q1⟩,by rw [(hsel j id hj).2]; exact q2⟩
   ·
    have:=hoth id hin h1
    exact ⟨⟨cs,by rw [← this.1]; exact h2⟩,this.2⟩
  ·
   intro id b k u es h1 h2
   by_cases hin:id∈sel
   ·
    obtain ⟨j,hj⟩:=List.getElem?_of_mem hin
    obtain ⟨q1,es',q2⟩:=hst.map j b k u es (by rw [at_map,hj]; exact h1) (by rw [look_map,hj]; exact h2)
    exact ⟨by rw [(hsel j id hj).2]; exact q1,es',by rw [(hsel j id hj).1]; exact q2⟩
   ·
    have:=hoth id hin (look_lt (by rw [h2]; simp))
    exact ⟨by rw [this.2]; exact h1,es,by rw [this.1]; exact h2⟩
  ·
   intro id al cs hid hl
   by_cases hin:id∈sel
   ·
    obtain ⟨j,hj⟩:=List.getElem?_of_mem hin
    rw [(hsel j id hj).1] at hl
    obtain ⟨al0,cs0,q1,q2⟩:=hst.own j al cs (by simpa using (List.getElem?_eq_some_iff.1 hj).1) hl
    rw [look_map,hj] at q1
    refine ⟨al0,cs0,q1,?_⟩
    rw [(hsel j id hj).2]
    rw [at_map,hj] at q2
    exact q2
   ·
    have:=hoth id hin hid
    rw [this.1] at hl
    refine ⟨al,cs,hl,.inr ⟨rfl,this.2,fun _=>rfl,fun b hb cap size ho => ?_⟩⟩
    obtain ⟨cur,e,q1,q2⟩:=ho
    exact ⟨cur,e,by rw [hold id b hin hb]; exact q1,q2⟩
  ·
   intro b hb hn
   refine (hst.only rfl).old b hb fun j hj => ?_
   rw [at_map] at hj
   cases hs:sel[j]? with
   | none=>rw [hs] at hj; cases hj
   | some id=>rw [hs] at hj; exact hn id hj
  ·
   intro b hb hn id hid
   rcases hany id with ⟨j,_,_,_,k2,_⟩ | ⟨_,_,_,k2⟩
   ·
    refine (hst.only rfl).new b hb (fun i hi => ?_) j (by rw [← k2]; exact hid)
    rw [at_map] at hi
    cases hs:sel[i]? with
    | none=>rw [hs] at hi; cases hi
    | some id=>rw [hs] at hi; exact hn id hi
   ·
    exact hn id (by rw [← k2]; exact hid)
  ·
   intro id l xs i st ht
   rcases hany id with ⟨j,_,_,k1,_,k3⟩ | ⟨_,_,k1,_⟩
   ·
    rw [k1] at ht
    exfalso
    rw [List.all_eq_true] at hpure
    have hjl:j<hpL'.length:=look_lt (by rw [ht]; simp)
    have:=hpure hpL'[j] (List.getElem_mem hjl)
    simp only [Blk.look,List.getElem?_eq_getElem hjl,Option.getD_some] at ht
    rw [ht] at this
    simp [Blk.pureB] at this
   ·
    rw [← k1]; exact ht
 refine ⟨⟨?_,fun b hb => ?_,?_,?_,?_,?_,?_,?_,?_,hr.gl.evo hS.evo⟩,hS,hout,hMA⟩
 ·
  rw [mergeB_length sel bs bsL' hlenB,hmlen,hr.len,hr'.len]
 ·
  exact Nat.lt_of_lt_of_le (hr.m0 b hb) hst.evo.size
 ·
  intro id b h
  rcases hany id with ⟨j,_,_,_,k2,_⟩ | ⟨_,_,_,k2⟩
  ·
   exact hr'.lt j b (by rw [← k2]; exact h)
  ·
   exact Nat.lt_of_lt_of_le (hr.lt id b (by rw [← k2]; exact h)) hst.evo.size
 ·
  intro i j b h1 h2
  rcases hany i with ⟨i',e1,_,_,k2,_⟩ | ⟨n1,_,_,k2⟩ <;> rcases hany j with ⟨j',e2,_,_,k4,_⟩ | ⟨n2,_,_,k4⟩
  ·
   have:=hr'.inj i' j' b (by rw [← k2]; exact h1) (by rw [← k4]; exact h2)
   rw [e1,e2,this]
  ·
   exfalso
   rw [k2] at h1; rw [k4] at h2
   refine hr'.out i' b h1 ⟨.inr ⟨j,h2⟩,?_⟩
   rintro ⟨id,hid,hb⟩
   exact n2 (hr.inj j id b h2 hb▸hid)
  ·
   exfalso
   rw [k2] at h1; rw [k4] at h2
   refine hr'.out j' b h2 ⟨.inr ⟨i,h1⟩,?_⟩
   rintro ⟨id,hid,hb⟩
   exact n1 (hr.inj i id b h1 hb▸hid)
  ·
   exact hr.inj i j b (by rw [← k2]; exact h1) (by rw [← k4]; exact h2)
 ·
  intro id b h hm
  rcases hany id with ⟨j,_,_,_,k2,_⟩ | ⟨_,_,_,k2⟩
  ·
   rw [k2] at h
   refine hr'.out j b h ⟨.inl hm,?_⟩
   rintro ⟨id',hid',hb⟩
   exact hM0 id' hid' b hb hm
  ·
   exact hr.out id b (by rw [← k2]; exact h) hm
 ·
  intro id cs h
  rcases hany id with ⟨j,_,_,k1,k2,_⟩ | ⟨_,_,k1,k2⟩
  ·
   obtain ⟨b,hb⟩:=hr'.al j cs (by rw [← k1]; exact h)
   exact ⟨b,by rw [k2]; exact hb⟩
  ·
   obtain ⟨b,hb⟩:=hr.al id cs (by rw [← k1]; exact h)
   exact ⟨b,by rw [k2]; exact hb⟩
 ·
  intro id cs h
  rcases hany id with ⟨j,_,_,k1,k2,_⟩ | ⟨n1,_,k1,k2⟩
  ·
   rw [k1] at h
   obtain ⟨b,cur,e,q1,q2,q3,q4⟩:=hr'.cells j cs h
   refine ⟨b,cur,e,by rw [k2]; exact q1,q2,q3,fun i x hx => ?_⟩
   obtain ⟨u,r1,r2,r3⟩:=q4 i x hx
   rw [hMAf] at r3
   exact ⟨u,r1,r2,relSV_pure_any (pure_cells hpure h hx) (Evo.refl _ _) r3⟩
  ·
   rw [k1] at h
   obtain ⟨b,cur,e,q1,q2,q3,q4⟩:=hr.cells id cs h
   refine ⟨b,cur,e,by rw [k2]; exact q1,by rw [hold id b n1 q1]; exact q2,q3,fun i x hx => ?_⟩
   obtain ⟨u,r1,r2,r3⟩:=q4 i x hx
   exact ⟨u,r1,r2,relSV_step hS x u r3⟩
 ·
  intro id al cs b h hb
  rcases hany id with ⟨j,_,_,k1,k2,_⟩ | ⟨n1,_,k1,k2⟩
  ·
   rw [k1] at h; rw [k2] at hb
   obtain ⟨cur,e,q2,q4⟩:=hr'.arr j al cs b h hb
   refine ⟨cur,e,q2,fun i x hx => ?_⟩
   obtain ⟨u,r1,r2,r3⟩:=q4 i x hx
   rw [hMAf] at r3
   exact ⟨u,r1,r2,relSV_pure_any (pure_arr hpure h hx) (Evo.refl _ _) r3⟩
  ·
   rw [k1] at h; rw [k2] at hb
   obtain ⟨cur,e,q2,q4⟩:=hr.arr id al cs b h hb
   refine ⟨cur,e,by rw [hold id b n1 hb]; exact q2,fun i x hx => ?_⟩
   obtain ⟨u,r1,r2,r3⟩:=q4 i x hx
   exact ⟨u,r1,r2,relSV_step hS x u r3⟩
 ·
  intro id k v es h
  rcases hany id with ⟨j,_,_,k1,k2,_⟩ | ⟨n1,_,k1,k2⟩
  ·
   rw [k1] at h
   obtain ⟨b,ents,clock,q1,q2,q3⟩:=hr'.map j k v es h
   rw [hMAf] at q3
   exact ⟨b,ents,clock,by rw [k2]; exact q1,q2,q3⟩
  ·
   rw [k1] at h
   obtain ⟨b,ents,clock,q1,q2,q3⟩:=hr.map id k v es h
   exact ⟨b,ents,clock,by rw [k2]; exact q1,by rw [hold id b n1 q1]; exact q2,q3.imp fun x m hm=>⟨hm.1,repV_evo hS.evo hm.2⟩⟩
theorem effVC_sound {P:Program} {f:FuncId} {c:ECon} (hE:EffOk P f c) (hr:HR w M0 bs hp) {args:List AV} {vs:List Value} {K:RV→List Blk→Prop} (h:effVC hp c args K) (hargs:All2 (relAV w (Mof M0 bs) bs hp) args vs) :
  Calls P f vs.toArray w (fun o w'=>∃ v rv hp' bs',o=.returned v∧K rv hp'∧relRV w' (Mof M0 bs') bs' hp' rv v∧HR w' M0 bs' hp'∧Step false w (Mof M0 bs) bs hp w' (Mof M0 bs') bs' hp'):=by
 obtain ⟨h1,h2⟩:=h
 obtain ⟨hnd,hmem⟩:=dedup_spec (args.flatMap AV.ids) [] (by simp)
 generalize dedup [] (args.flatMap AV.ids)=sel at *
 have hpure:∀ id∈sel,(Blk.look hp id).pureB=true:=by simpa only [List.all_eq_true] using h1
 have hlt:∀ id∈sel,id<hp.length:=fun id hid=>look_lt (by
  have:=hpure id hid
  intro e; rw [e] at this; simp [Blk.pureB] at this)
 have hMB:∀ b,Mof M0 bs b↔Mof (fun b=>Mof M0 bs b∧¬ ∃ id∈sel,bs.at id=some b) (sel.map bs.at) b:=by
  intro b
  constructor
  ·
   intro h
   by_cases hs:∃ id∈sel,bs.at id=some b
   ·
    obtain ⟨id,hid,hb⟩:=hs
    obtain ⟨j,hj⟩:=List.getElem?_of_mem hid
    exact .inr ⟨j,by rw [at_map,hj]; exact hb⟩
   ·
    exact .inl ⟨h,hs⟩
  ·
   rintro (h | ⟨j,h⟩)
   ·
    exact h.1
   ·
    rw [at_map] at h
    cases hs:sel[j]? with
    | none=>rw [hs] at h; cases h
    | some id=>rw [hs] at h; exact .inr ⟨id,h⟩
 have hMBf:Mof M0 bs=Mof (fun b=>Mof M0 bs b∧¬ ∃ id∈sel,bs.at id=some b) (sel.map bs.at):=funext fun b=>propext (hMB b)
 have hr1:=hr.select (M0':=fun b=>Mof M0 bs b∧¬ ∃ id∈sel,bs.at id=some b) sel hnd hpure (fun b hb=>by
  rcases hb.1 with hb | ⟨id,hb⟩
  ·
   exact hr.m0 b hb
  ·
   exact hr.lt id b hb) (fun id hid b hb hm=>hm.2 ⟨id,hid,hb⟩) (fun b _ hb=>(hMB b).2 hb)
 have hargs1:All2 (relAV w (Mof (fun b=>Mof M0 bs b∧¬ ∃ id∈sel,bs.at id=some b) (sel.map bs.at)) (sel.map bs.at) (sel.map (Blk.look hp))) (args.map (AV.ren (idx sel))) vs:=by
  rw [← hMBf]
  refine all2_ren hr.len (fun id hid _ => ?_) hargs
  have hs:=idx_spec sel id ((hmem id).2 (.inr hid))
  exact ⟨by rw [look_map,hs],by rw [at_map,hs]; rfl,by simpa using (List.getElem?_eq_some_iff.1 hs).1⟩
 have hp1:(sel.map (Blk.look hp)).all Blk.pureB=true:=by
  rw [List.all_map,List.all_eq_true]; exact hpure
 refine (hE w _ _ _ _ _ _ h2 hr1 hp1 hargs1).mono ?_
 rintro o w' ⟨v,rv,hpL',bsL',rfl,hK,hv,hpu,hr',hst⟩
 obtain ⟨k1,k2,k3,k4⟩:=merge_hr hr sel hnd hlt hr' hpu hst
 refine ⟨v,_,_,_,rfl,hK,?_,k1,k2⟩
 have hMAf:Mof M0 (mergeB bs sel bsL')=Mof (fun b=>Mof M0 bs b∧¬ ∃ id∈sel,bs.at id=some b) bsL':=funext fun b=>propext (k4 b)
 rw [hMAf]
 exact relRV_ren hr'.len (fun id hid=>k3 id hid) hv
end
end Go.Am
namespace Go.Am
open Go.RowKit
theorem SV.pure_ids {x:SV} (h:x.pure=true):x.ids=[]:=by
 cases x with
 | fn f caps=>cases caps <;> simp_all [SV.pure,SV.ids]
 | _=>first | rfl | simp [SV.pure] at h
theorem SV.ren_ids0 {σ:Nat→Nat} {x:SV} (h:x.ids=[]):x.ren σ=x:=by
 cases x with
 | fn f caps=>simp only [SV.ids] at h; subst h; rfl
 | _=>first | rfl | simp [SV.ids] at h
theorem map_ren_pure {σ:Nat→Nat} {cs:List SV} (h:cs.all SV.pure=true):cs.map (SV.ren σ)=cs:=by
 conv=>rhs; rw [← List.map_id cs]
 rw [List.all_eq_true] at h
 exact List.map_congr_left fun x hx=>SV.ren_ids0 (SV.pure_ids (h x hx))
theorem Blk.ren_cells (σ:Nat→Nat) (cs:List SV):(Blk.cells cs).ren σ=.cells (cs.map (SV.ren σ)):=by
 unfold Blk.ren
 split
 ·
  rename_i h; simp only [Blk.pureB] at h; rw [map_ren_pure h]
 ·
  rfl
theorem Blk.ren_arr (σ:Nat→Nat) (al:Bool) (cs:List SV):(Blk.arr al cs).ren σ=.arr al (cs.map (SV.ren σ)):=by
 unfold Blk.ren
 split
 ·
  rename_i h; simp only [Blk.pureB] at h; rw [map_ren_pure h]
 ·
  rfl
theorem Blk.ren_map (σ:Nat→Nat) (k v:Ty) (es:List (k.T×v.T)):(Blk.map k v es).ren σ=.map k v es:=rfl
theorem Blk.ren_dead (σ:Nat→Nat):Blk.dead.ren σ=.dead:=rfl
theorem Blk.ren_trace (σ:Nat→Nat) (l:Nat) (xs:List (List AV)) (i:Nat) (st:Bool):(Blk.trace l xs i st).ren σ=.trace l xs i st:=rfl
theorem Blk.ids_cells {cs:List SV} {x:SV} (hx:x∈cs) {id:Nat} (hid:id∈x.ids):id∈(Blk.cells cs).ids:=by
 unfold Blk.ids
 split
 ·
  rename_i h
  simp only [Blk.pureB,List.all_eq_true] at h
  rw [SV.pure_ids (h x hx)] at hid
  cases hid
 ·
  exact List.mem_flatMap.2 ⟨x,hx,hid⟩
theorem Blk.ids_arr {al:Bool} {cs:List SV} {x:SV} (hx:x∈cs) {id:Nat} (hid:id∈x.ids):id∈(Blk.arr al cs).ids:=by
 unfold Blk.ids
 split
 ·
  rename_i h
  simp only [Blk.pureB,List.all_eq_true] at h
  rw [SV.pure_ids (h x hx)] at hid
  cases hid
 ·
  exact List.mem_flatMap.2 ⟨x,hx,hid⟩
theorem Blk.ren_inv {σ:Nat→Nat} {b c:Blk} (h:b.ren σ=c):match c with
  | .cells cs'=>∃ cs,b=.cells cs∧cs'=cs.map (SV.ren σ)
  | .arr al cs'=>∃ cs,b=.arr al cs∧cs'=cs.map (SV.ren σ)
  | c=>b=c:=by
 cases b with
 | cells cs=>rw [Blk.ren_cells] at h; subst h; exact ⟨cs,rfl,rfl⟩
 | arr al cs=>rw [Blk.ren_arr] at h; subst h; exact ⟨cs,rfl,rfl⟩
 | map k v es=>rw [Blk.ren_map] at h; subst h; rfl
 | dead=>rw [Blk.ren_dead] at h; subst h; rfl
 | trace l xs i st=>rw [Blk.ren_trace] at h; subst h; rfl
theorem Blk.ren_inv_cells {σ:Nat→Nat} {b:Blk} {cs':List SV} (h:b.ren σ=.cells cs'):∃ cs,b=.cells cs∧cs'=cs.map (SV.ren σ):=Blk.ren_inv h
theorem Blk.ren_inv_arr {σ:Nat→Nat} {b:Blk} {al:Bool} {cs':List SV} (h:b.ren σ=.arr al cs'):∃ cs,b=.arr al cs∧cs'=cs.map (SV.ren σ):=Blk.ren_inv h
theorem Blk.ren_inv_map {σ:Nat→Nat} {b:Blk} {k v:Ty} {es:List (k.T×v.T)} (h:b.ren σ=.map k v es):b=.map k v es:=Blk.ren_inv h
theorem Blk.ren_inv_trace {σ:Nat→Nat} {b:Blk} {l:Nat} {xs:List (List AV)} {i:Nat} {st:Bool} (h:b.ren σ=.trace l xs i st):b=.trace l xs i st:=Blk.ren_inv h
theorem SV.ids_ren {σ:Nat→Nat} {x:SV} {i:Nat} (h:i∈(x.ren σ).ids):∃ k∈x.ids,i=σ k:=by
 cases x <;> simp only [SV.ren,SV.ids,List.mem_singleton,List.not_mem_nil] at h ⊢
 all_goals first
  | exact h.elim
  | (refine ⟨_,rfl,?_⟩; exact h)
  | (obtain ⟨k,hk,rfl⟩:=List.mem_map.1 h; exact ⟨k,hk,rfl⟩)
theorem Blk.ids_cells' {cs:List SV} {i:Nat} (h:i∈(Blk.cells cs).ids):∃ x∈cs,i∈x.ids:=by
 unfold Blk.ids at h
 split at h
 ·
  cases h
 ·
  exact List.mem_flatMap.1 h
theorem Blk.ids_arr' {al:Bool} {cs:List SV} {i:Nat} (h:i∈(Blk.arr al cs).ids):∃ x∈cs,i∈x.ids:=by
 unfold Blk.ids at h
 split at h
 ·
  cases h
 ·
  exact List.mem_flatMap.1 h
theorem Blk.ids_ren {σ:Nat→Nat} {b:Blk} {i:Nat} (h:i∈(b.ren σ).ids):∃ k∈b.ids,i=σ k:=by
 cases b with
 | cells cs =>
  rw [Blk.ren_cells] at h
  obtain ⟨x,hx,hi⟩:=Blk.ids_cells' h
  obtain ⟨y,hy,rfl⟩:=List.mem_map.1 hx
  obtain ⟨k,hk,e⟩:=SV.ids_ren hi
  exact ⟨k,Blk.ids_cells hy hk,e⟩
 | arr al cs =>
  rw [Blk.ren_arr] at h
  obtain ⟨x,hx,hi⟩:=Blk.ids_arr' h
  obtain ⟨y,hy,rfl⟩:=List.mem_map.1 hx
  obtain ⟨k,hk,e⟩:=SV.ids_ren hi
  exact ⟨k,Blk.ids_arr hy hk,e⟩
 | map k v es=>rw [Blk.ren_map] at h; simp [Blk.ids,Blk.pureB] at h
 | dead=>rw [Blk.ren_dead] at h; simp [Blk.ids,Blk.pureB] at h
 | trace l xs j st=>rw [Blk.ren_trace] at h; simp [Blk.ids,Blk.pureB] at h
theorem Blk.ren_sound {σ:Nat→Nat} {b:Blk}:(b.ren σ).sound=b.sound:=by
 cases b with
 | cells cs=>rw [Blk.ren_cells]; rfl
 | arr al cs=>rw [Blk.ren_arr]; rfl
 | _=>rfl
theorem flats_all_pure:∀ (t:Ty) (x:t.T),(t.flat x).all SV.pure=true
 | .int _,_=>rfl
 | .bool,_=>rfl
 | .str,_=>rfl
 | .slice _,_=>rfl
 | .nil,_=>rfl
 | .cons t r,x=>by simp only [Ty.flat,List.all_append,flats_all_pure t x.1,flats_all_pure r x.2,Bool.and_true]
 | .fn,_=>rfl
 | .tree h,x=>by simp only [Ty.flat,List.all_append,flats_all_pure h,Bool.true_and]; rfl
theorem flats_ren {σ:Nat→Nat} (t:Ty) (xs:List t.T):(t.flats xs).map (SV.ren σ)=t.flats xs:=by
 refine map_ren_pure ?_
 induction xs with
 | nil=>rfl
 | cons x xs ih=>simp only [Ty.flats,List.all_append,flats_all_pure,ih,Bool.and_true]
section
variable {w:World} {M M0:Nat→Prop} {bs bs':Bs} {hp hp':List Blk}
theorem relSV_renB {σ:Nat→Nat} {x:SV} {v:Value} (hσ:∀ id,id∈x.ids→id<hp.length→Blk.look hp' (σ id)=(Blk.look hp id).ren σ∧bs'.at (σ id)=bs.at id∧σ id<hp'.length) (h:relSV w M bs hp x v):relSV w M bs' hp' (x.ren σ) v:=by
 cases x with
 | box id off =>
  obtain ⟨h1,h2⟩:=h
  obtain ⟨k1,k2,k3⟩:=hσ id (by simp [SV.ids]) h1
  refine ⟨k3,fun cs hl => ?_⟩
  rw [k1] at hl
  obtain ⟨cs0,hl,_⟩:=Blk.ren_inv_cells hl
  rw [k2]
  exact h2 cs0 hl
 | own t id n =>
  obtain ⟨h1,h2⟩:=h
  obtain ⟨k1,k2,k3⟩:=hσ id (by simp [SV.ids]) h1
  refine ⟨k3,fun al cs hl => ?_⟩
  rw [k1] at hl
  obtain ⟨cs0,hl0,rfl⟩:=Blk.ren_inv_arr hl
  obtain ⟨q1,q2⟩:=h2 al cs0 hl0
  rw [k2,List.length_map]
  refine ⟨q1,fun hlen => ?_⟩
  rcases q2 hlen with q | ⟨r1,xs,a,r2,r3,r4,r5,r6⟩
  ·
   exact .inl q
  ·
   exact .inr ⟨r1,xs,a,r2,r3,by rw [r4,flats_ren],r5,r6⟩
 | eown t id n off =>
  obtain ⟨h1,h2⟩:=h
  obtain ⟨k1,k2,k3⟩:=hσ id (by simp [SV.ids]) h1
  refine ⟨k3,fun al cs hl => ?_⟩
  rw [k1] at hl
  obtain ⟨cs0,hl0,rfl⟩:=Blk.ren_inv_arr hl
  rw [k2,List.length_map]
  exact h2 al cs0 hl0
 | pre t id n m =>
  obtain ⟨h1,hm,h2⟩:=h
  obtain ⟨k1,k2,k3⟩:=hσ id (by simp [SV.ids]) h1
  refine ⟨k3,hm,fun al cs hl => ?_⟩
  rw [k1] at hl
  obtain ⟨cs0,hl0,rfl⟩:=Blk.ren_inv_arr hl
  rw [k2,List.length_map]
  exact h2 al cs0 hl0
 | suf t id n k =>
  obtain ⟨h1,hm,h2⟩:=h
  obtain ⟨k1,k2,k3⟩:=hσ id (by simp [SV.ids]) h1
  refine ⟨k3,hm,fun al cs hl => ?_⟩
  rw [k1] at hl
  obtain ⟨cs0,hl0,rfl⟩:=Blk.ren_inv_arr hl
  rw [k2,List.length_map]
  exact h2 al cs0 hl0
 | fn f ids =>
  obtain ⟨ps,h1,h2⟩:=h
  refine ⟨ps,h1,?_⟩
  have key:∀ {l:List Nat} {m:List Nat},(∀ id∈l,id<hp.length→Blk.look hp' (σ id)=(Blk.look hp id).ren σ∧bs'.at (σ id)=bs.at id∧σ id<hp'.length)→All2 (fun id b=>id<hp.length∧∀ cs,Blk.look hp id=.cells cs→bs.at id=some b) l m →
    All2 (fun id b=>id<hp'.length∧∀ cs,Blk.look hp' id=.cells cs→bs'.at id=some b) (l.map σ) m:=by
   intro l m hs h
   induction h with
   | nil=>exact .nil
   | cons r _ ih =>
    obtain ⟨r1,r2⟩:=r
    obtain ⟨k1,k2,k3⟩:=hs _ (List.mem_cons_self ..) r1
    refine .cons ⟨k3,fun cs hl => ?_⟩ (ih fun id hid=>hs id (by simp [hid]))
    rw [k1] at hl
    obtain ⟨cs0,hl,_⟩:=Blk.ren_inv_cells hl
    rw [k2]
    exact r2 cs0 hl
  exact key (fun id hid=>hσ id hid) h2
 | mp id =>
  obtain ⟨b,k,u,es,h1,h2,h3⟩:=h
  obtain ⟨k1,k2,_⟩:=hσ id (by simp [SV.ids]) (look_lt (by rw [h2]; simp))
  exact ⟨b,k,u,es,by rw [k2]; exact h1,by rw [k1,h2]; rfl,h3⟩
 | part t id off n c =>
  obtain ⟨h1,q1,q2,a,q3,h2⟩:=h
  obtain ⟨k1,k2,k3⟩:=hσ id (by simp [SV.ids]) h1
  refine ⟨k3,q1,q2,a,q3,fun cs hl => ?_⟩
  rw [k1] at hl
  obtain ⟨cs0,hl,_⟩:=Blk.ren_inv_cells hl
  rw [k2]
  exact h2 cs0 hl
 | bbx f id off =>
  obtain ⟨h1,q,q3,h2⟩:=h
  obtain ⟨k1,k2,k3⟩:=hσ id (by simp [SV.ids]) h1
  refine ⟨k3,q,q3,fun cs hl => ?_⟩
  rw [k1] at hl
  obtain ⟨cs0,hl,_⟩:=Blk.ren_inv_cells hl
  rw [k2]
  exact h2 cs0 hl
 | _=>exact h
theorem relAV_renB {σ:Nat→Nat} {x:AV} {v:Value} (hσ:∀ id,id∈x.ids→id<hp.length→Blk.look hp' (σ id)=(Blk.look hp id).ren σ∧bs'.at (σ id)=bs.at id∧σ id<hp'.length) (h:relAV w M bs hp x v):relAV w M bs' hp' (x.ren σ) v:=by
 cases x with
 | s x=>exact relSV_renB hσ h
 | agg cs =>
  obtain ⟨vs,rfl,h⟩:=h
  refine ⟨vs,rfl,?_⟩
  simp only [AV.ids] at hσ
  induction h with
  | nil=>exact .nil
  | cons r _ ih=>exact .cons ⟨relSV_renB (fun id hid=>hσ id (by simp [hid])) r.1,r.2⟩ (ih fun id hid=>hσ id (by simp at hid ⊢; exact .inr hid))
theorem relRV_renB {σ:Nat→Nat} {x:RV} {v:Value} (hσ:∀ id,id<hp.length→Blk.look hp' (σ id)=(Blk.look hp id).ren σ∧bs'.at (σ id)=bs.at id∧σ id<hp'.length) (h:relRV w M bs hp x v):relRV w M bs' hp' (x.ren σ) v:=by
 cases x with
 | v x=>exact relAV_renB (fun id _=>hσ id) h
 | tup xs =>
  obtain ⟨vs,rfl,h⟩:=h
  refine ⟨vs,rfl,?_⟩
  induction h with
  | nil=>exact .nil
  | cons r _ ih=>exact .cons (relAV_renB (fun id _=>hσ id) r) ih
theorem all2_renB {σ:Nat→Nat}:∀ {xs:List AV} {vs:List Value},(∀ id,id∈xs.flatMap AV.ids→id<hp.length→Blk.look hp' (σ id)=(Blk.look hp id).ren σ∧bs'.at (σ id)=bs.at id∧σ id<hp'.length)→All2 (relAV w M bs hp) xs vs→All2 (relAV w M bs' hp') (xs.map (AV.ren σ)) vs
 | [],_,_,.nil=>.nil
 | x::xs,_,hσ,.cons r h=>.cons (relAV_renB (fun id hid=>hσ id (by simp [hid])) r) (all2_renB (fun id hid=>hσ id (by simp only [List.flatMap_cons,List.mem_append]; exact .inr hid)) h)
theorem relSV_sub {M':Nat→Prop} (hM:∀ b,M' b→M b) {x:SV} {v:Value} (h:relSV w M bs hp x v):relSV w M' bs hp x v :=
 relSV_step (v₀:=false) ⟨Evo.more w fun b _=>hM b,Nat.le_refl _,fun id cs _ h=>⟨⟨cs,h⟩,rfl⟩,fun id b k u es h1 h2=>⟨h1,es,h2⟩,fun id al cs _ h=>⟨al,cs,h,.inr ⟨rfl,rfl,fun _=>rfl,fun b hb cap size ho=>ho⟩⟩,fun _=>Only.refl _ _ _⟩ x v h
theorem look_mapB (f:Blk→Blk) (hf:f .dead=.dead) (l:List Blk) (j:Nat):Blk.look (l.map f) j=f (Blk.look l j):=by
 unfold Blk.look
 rw [List.getElem?_map]
 cases l[j]? <;> simp [hf]
theorem look_selB (σ:Nat→Nat) (sel:List Nat) (j:Nat):Blk.look (sel.map fun id=>(Blk.look hp id).ren σ) j=match sel[j]? with | some id=>(Blk.look hp id).ren σ | none=>.dead:=by
 unfold Blk.look
 rw [List.getElem?_map]
 cases sel[j]? <;> rfl
def ClosedSel (hp:List Blk) (sel:List Nat):Prop:=∀ id∈sel,(Blk.look hp id).sound=true∧∀ i∈(Blk.look hp id).ids,i∈sel
theorem closedB_iff {sel:List Nat} (h:closedB hp sel=true):ClosedSel hp sel:=by
 unfold closedB at h
 rw [List.all_eq_true] at h
 intro id hid
 have:=h id hid
 rw [Bool.and_eq_true,List.all_eq_true] at this
 exact ⟨this.1,fun i hi=>by simpa using this.2 i hi⟩
theorem sound_lt {id:Nat} (h:(Blk.look hp id).sound=true):id<hp.length:=look_lt (by intro e; rw [e] at h; simp [Blk.sound] at h)
theorem HR.selectB {M0':Nat→Prop} (hr:HR w M0 bs hp) (sel:List Nat) (hnd:sel.Nodup) (hcl:ClosedSel hp sel) (hm:∀ b,M0' b→b<w.heap.size) (hout:∀ id∈sel,∀ b,bs.at id=some b→¬ M0' b)
  (hsub:∀ b,b<w.heap.size→Mof M0' (sel.map bs.at) b→Mof M0 bs b):HR w M0' (sel.map bs.at) (sel.map fun id=>(Blk.look hp id).ren (idx sel)):=by
 have hsub':∀ b,Mof M0' (sel.map bs.at) b→Mof M0 bs b:=fun b hb=>hsub b (by
  rcases hb with hb | ⟨j,hb⟩
  ·
   exact hm b hb
  ·
   rw [at_map] at hb
   cases hs:sel[j]? with
   | none=>rw [hs] at hb; cases hb
   | some id=>rw [hs] at hb; exact hr.lt id b hb) hb
 have hev:Evo (Mof M0 bs) (Mof M0' (sel.map bs.at)) w w:=Evo.more w hsub
 have hat:∀ j b,Bs.at (sel.map bs.at) j=some b→∃ id,sel[j]?=some id∧bs.at id=some b:=by
  intro j b h
  rw [at_map] at h
  cases hs:sel[j]? with
  | none=>rw [hs] at h; cases h
  | some id=>rw [hs] at h; exact ⟨id,rfl,h⟩
 have hlk:∀ j x,Blk.look (sel.map fun id=>(Blk.look hp id).ren (idx sel)) j=x→x≠.dead→∃ id,sel[j]?=some id∧(Blk.look hp id).ren (idx sel)=x:=by
  intro j x h hne
  rw [look_selB] at h
  cases hs:sel[j]? with
  | none=>rw [hs] at h; exact absurd h.symm hne
  | some id=>rw [hs] at h; exact ⟨id,rfl,h⟩
 have hcell:∀ {x:SV} {u:Value},(∀ i∈x.ids,i∈sel)→relSV w (Mof M0 bs) bs hp x u→relSV w (Mof M0' (sel.map bs.at)) (sel.map bs.at) (sel.map fun id=>(Blk.look hp id).ren (idx sel)) (x.ren (idx sel)) u:=by
  intro x u hx h
  refine relSV_renB (fun id hid _ => ?_) (relSV_sub hsub' h)
  have hs:=idx_spec sel id (hx id hid)
  exact ⟨by rw [look_selB,hs],by rw [at_map,hs]; rfl,by simpa using (List.getElem?_eq_some_iff.1 hs).1⟩
 refine ⟨by simp,hm,fun j b h => ?_,fun i j b h1 h2 => ?_,fun j b h => ?_,fun j cs h => ?_,fun j cs h => ?_,fun j al cs b h hb => ?_,fun j k v es h => ?_,hr.gl.evo hev⟩
 ·
  obtain ⟨id,h1,h2⟩:=hat j b h
  exact hr.lt id b h2
 ·
  obtain ⟨id1,q1,q2⟩:=hat i b h1
  obtain ⟨id2,q3,q4⟩:=hat j b h2
  have:=hr.inj id1 id2 b q2 q4
  subst this
  exact (List.getElem?_inj (List.getElem?_eq_some_iff.1 q1).1 hnd).1 (q1.trans q3.symm)
 ·
  obtain ⟨id,h1,h2⟩:=hat j b h
  exact hout id (List.mem_of_getElem? h1) b h2
 ·
  obtain ⟨id,h1,h2⟩:=hlk j _ h (by simp)
  obtain ⟨cs0,h3,rfl⟩:=Blk.ren_inv_arr h2
  obtain ⟨b,hb⟩:=hr.al id cs0 h3
  exact ⟨b,by rw [at_map,h1]; exact hb⟩
 ·
  obtain ⟨id,h1,h2⟩:=hlk j _ h (by simp)
  obtain ⟨cs0,h3,rfl⟩:=Blk.ren_inv_cells h2
  obtain ⟨b,cur,e,q1,q2,q3,q4⟩:=hr.cells id cs0 h3
  refine ⟨b,cur,e,by rw [at_map,h1]; exact q1,q2,by rw [List.length_map]; exact q3,fun i x hx => ?_⟩
  rw [List.getElem?_map,Option.map_eq_some_iff] at hx
  obtain ⟨x,hx,rfl⟩:=hx
  obtain ⟨u,r1,r2,r3⟩:=q4 i x hx
  refine ⟨u,r1,r2,hcell (fun k hk=>(hcl id (List.mem_of_getElem? h1)).2 k ?_) r3⟩
  rw [h3]
  exact Blk.ids_cells (List.mem_of_getElem? hx) hk
 ·
  obtain ⟨id,h1,h2⟩:=hlk j _ h (by simp)
  obtain ⟨cs0,h3,rfl⟩:=Blk.ren_inv_arr h2
  rw [at_map,h1] at hb
  obtain ⟨cur,e,q2,q4⟩:=hr.arr id al cs0 b h3 hb
  refine ⟨cur,e,q2,fun i x hx => ?_⟩
  rw [List.getElem?_map,Option.map_eq_some_iff] at hx
  obtain ⟨x,hx,rfl⟩:=hx
  obtain ⟨u,r1,r2,r3⟩:=q4 i x hx
  refine ⟨u,r1,r2,hcell (fun k hk=>(hcl id (List.mem_of_getElem? h1)).2 k ?_) r3⟩
  rw [h3]
  exact Blk.ids_arr (List.mem_of_getElem? hx) hk
 ·
  obtain ⟨id,h1,h2⟩:=hlk j _ h (by simp)
  have h3:=Blk.ren_inv_map h2
  obtain ⟨b,ents,clock,q1,q2,q3⟩:=hr.map id k v es h3
  exact ⟨b,ents,clock,by rw [at_map,h1]; exact q1,q2,q3.imp fun x m hm=>⟨hm.1,repV_evo hev hm.2⟩⟩
theorem idx_out {sel:List Nat} {n id:Nat} (h:id∈sel):outId sel n (idx sel id)=id:=by
 unfold outId
 rw [idx_spec sel id h]
theorem SV.ren_ren {σ τ:Nat→Nat} {x:SV} (h:∀ id∈x.ids,τ (σ id)=id):(x.ren σ).ren τ=x:=by
 cases x with
 | fn f ids =>
  simp only [SV.ids] at h
  simp only [SV.ren,List.map_map,SV.fn.injEq,true_and]
  conv=>rhs; rw [← List.map_id ids]
  exact List.map_congr_left fun id hid=>h id hid
 | _=>simp_all [SV.ren,SV.ids]
theorem map_ren_ren {σ τ:Nat→Nat} {cs:List SV} (h:∀ x∈cs,∀ id∈x.ids,τ (σ id)=id):(cs.map (SV.ren σ)).map (SV.ren τ)=cs:=by
 rw [List.map_map]
 conv=>rhs; rw [← List.map_id cs]
 exact List.map_congr_left fun x hx=>SV.ren_ren (h x hx)
theorem merge_hrB {w':World} {bsL':Bs} {hpL':List Blk} {Mx:Nat→Prop} (hr:HR w M0 bs hp) (sel:List Nat) (hnd:sel.Nodup) (hcl:ClosedSel hp sel) (hMx:∀ b,Mx b→Mof M0 bs b∧¬ ∃ id∈sel,bs.at id=some b)
  (hr':HR w' Mx bsL' hpL') (hsound:hpL'.all Blk.sound=true)
  (hst:Step false w (Mof Mx (sel.map bs.at)) (sel.map bs.at) (sel.map fun id=>(Blk.look hp id).ren (idx sel)) w' (Mof Mx bsL') bsL' hpL')
  (hfree:(∀ b,Mof M0 bs b→¬ (∃ id∈sel,bs.at id=some b)→Mx b)∨hpL'.all Blk.scalarB=true) :
  HR w' M0 (mergeB bs sel bsL') (mergeB hp sel (hpL'.map (Blk.ren (outId sel hp.length))))∧Step false w (Mof M0 bs) bs hp w' (Mof M0 (mergeB bs sel bsL')) (mergeB bs sel bsL') (mergeB hp sel (hpL'.map (Blk.ren (outId sel hp.length)))) ∧
   (∀ j,j<hpL'.length→Blk.look (mergeB hp sel (hpL'.map (Blk.ren (outId sel hp.length)))) (outId sel hp.length j)=(Blk.look hpL' j).ren (outId sel hp.length)∧Bs.at (mergeB bs sel bsL') (outId sel hp.length j)=bsL'.at j∧outId sel hp.length j<(mergeB hp sel (hpL'.map (Blk.ren (outId sel hp.length)))).length) ∧
   ((∀ b,Mof M0 bs b→¬ (∃ id∈sel,bs.at id=some b)→Mx b)→∀ b,Mof M0 (mergeB bs sel bsL') b→Mof Mx bsL' b):=by
 have hlt:∀ id∈sel,id<hp.length:=fun id h=>sound_lt (hcl id h).1
 generalize hren:Blk.ren (outId sel hp.length)=ren
 have hrd:ren .dead=.dead:=by rw [← hren]; rfl
 have hlen':(hpL'.map ren).length=hpL'.length:=List.length_map ..
 have hlenL:sel.length≤hpL'.length:=by have:=hst.len; simpa using this
 have hlenB:sel.length≤bsL'.length:=by rw [hr'.len]; exact hlenL
 have hlenM:sel.length≤(hpL'.map ren).length:=by rw [hlen']; exact hlenL
 have hltb:∀ id∈sel,id<bs.length:=fun id h=>by rw [hr.len]; exact hlt id h
 have hmlen:(mergeB hp sel (hpL'.map ren)).length=hp.length+(hpL'.length - sel.length):=by rw [mergeB_length sel hp _ hlenM,hlen']
 have hlkm:∀ j,Blk.look (hpL'.map ren) j=ren (Blk.look hpL' j):=look_mapB ren hrd hpL'
 have hsel:∀ j id,sel[j]?=some id→Blk.look (mergeB hp sel (hpL'.map ren)) id=ren (Blk.look hpL' j)∧Bs.at (mergeB bs sel bsL') id=bsL'.at j:=fun j id h =>
  ⟨by rw [← hlkm]; exact look_get (mergeB_sel sel hp _ j id hlenM hnd hlt h),at_get (mergeB_sel sel bs bsL' j id hlenB hnd hltb h)⟩
 have hoth:∀ id,id∉sel→id<hp.length→Blk.look (mergeB hp sel (hpL'.map ren)) id=Blk.look hp id∧Bs.at (mergeB bs sel bsL') id=bs.at id:=fun id h h' =>
  ⟨look_get (mergeB_other sel hp _ id hlenM h h'),at_get (mergeB_other sel bs bsL' id hlenB h (by rw [hr.len]; exact h'))⟩
 have hnew:∀ i,Blk.look (mergeB hp sel (hpL'.map ren)) (hp.length+i)=ren (Blk.look hpL' (sel.length+i))∧Bs.at (mergeB bs sel bsL') (hp.length+i)=bsL'.at (sel.length+i):=fun i =>
  ⟨by rw [← hlkm]; exact look_get (mergeB_new sel hp _ i hlenM),at_get (by have:=mergeB_new sel bs bsL' i hlenB; rwa [hr.len] at this)⟩
 have hout:∀ j,j<hpL'.length→Blk.look (mergeB hp sel (hpL'.map ren)) (outId sel hp.length j)=ren (Blk.look hpL' j)∧Bs.at (mergeB bs sel bsL') (outId sel hp.length j)=bsL'.at j∧outId sel hp.length j<(mergeB hp sel (hpL'.map ren)).length:=by
  intro j hj
  unfold outId
  cases hs:sel[j]? with
  | some id=>exact ⟨(hsel j id hs).1,(hsel j id hs).2,by rw [hmlen]; have:=hlt id (List.mem_of_getElem? hs); simp only; omega⟩
  | none =>
   have hge:sel.length≤j:=by simpa using hs
   have:=hnew (j - sel.length)
   rw [show sel.length+(j - sel.length)=j by omega] at this
   exact ⟨this.1,this.2,by rw [hmlen]; simp only; omega⟩
 have hany:∀ id,(∃ j,id=outId sel hp.length j∧Blk.look (mergeB hp sel (hpL'.map ren)) id=ren (Blk.look hpL' j)∧Bs.at (mergeB bs sel bsL') id=bsL'.at j) ∨
   (id∉sel∧id<hp.length∧Blk.look (mergeB hp sel (hpL'.map ren)) id=Blk.look hp id∧Bs.at (mergeB bs sel bsL') id=bs.at id):=by
  intro id
  by_cases hin:id∈sel
  ·
   obtain ⟨j,hj⟩:=List.getElem?_of_mem hin
   left
   exact ⟨j,by unfold outId; rw [hj],(hsel j id hj).1,(hsel j id hj).2⟩
  ·
   by_cases hl:id<hp.length
   ·
    right; exact ⟨hin,hl,(hoth id hin hl).1,(hoth id hin hl).2⟩
   ·
    left
    have:=hnew (id - hp.length)
    rw [show hp.length+(id - hp.length)=id by omega] at this
    refine ⟨sel.length+(id - hp.length),?_,this.1,this.2⟩
    unfold outId
    rw [List.getElem?_eq_none (by omega)]
    simp only
    omega
 have hM0:∀ id∈sel,∀ b,bs.at id=some b→¬ M0 b:=fun id _ b hb=>hr.out id b hb
 have hMB:∀ b,Mof Mx (sel.map bs.at) b→Mof M0 bs b:=by
  rintro b (h | ⟨j,h⟩)
  ·
   exact (hMx b h).1
  ·
   rw [at_map] at h
   cases hs:sel[j]? with
   | none=>rw [hs] at h; cases h
   | some id=>rw [hs] at h; exact .inr ⟨id,h⟩
 have hMBn:∀ b,b<w.heap.size→¬ Mof M0 bs b→¬ Mof Mx (sel.map bs.at) b:=fun b _ h hm=>h (hMB b hm)
 have hnsel:∀ id b,id∉sel→bs.at id=some b→∀ j,Bs.at (sel.map bs.at) j≠some b:=fun id b hid hb j hj=>by
  rw [at_map] at hj
  cases hs:sel[j]? with
  | none=>rw [hs] at hj; cases hj
  | some id' =>
   rw [hs] at hj
   exact hid (hr.inj id id' b hb hj▸List.mem_of_getElem? hs)
 have hold:∀ id b,id∉sel→bs.at id=some b→w'.heap[b]?=w.heap[b]?:=fun id b hid hb=>(hst.only rfl).old b (hr.lt id b hb) (hnsel id b hid hb)
 have hnew2:∀ id b,id∉sel→bs.at id=some b→∀ j,bsL'.at j≠some b:=fun id b hid hb=>(hst.only rfl).new b (hr.lt id b hb) (hnsel id b hid hb)
 have hM0n:∀ b,M0 b→∀ j,bsL'.at j≠some b:=fun b hb=>(hst.only rfl).new b (hr.m0 b hb) fun j hj=>by
  rw [at_map] at hj
  cases hs:sel[j]? with
  | none=>rw [hs] at hj; cases hj
  | some id=>rw [hs] at hj; exact hr.out id b hj hb
 have hev:Evo (Mof M0 bs) (Mof M0 (mergeB bs sel bsL')) w w':=by
  refine ⟨hst.evo.os,hst.evo.tape,hst.evo.output,hst.evo.size,hst.evo.drawn,fun b hb hn=>hst.evo.block b hb (hMBn b hb hn),fun b hb hn hm => ?_⟩
  have h1:=hst.evo.free b hb (hMBn b hb hn)
  rcases hm with hm | ⟨id,hm⟩
  ·
   exact hn (.inl hm)
  ·
   rcases hany id with ⟨j,_,_,k2⟩ | ⟨_,_,_,k2⟩
   ·
    exact h1 (.inr ⟨j,by rw [← k2]; exact hm⟩)
   ·
    exact hn (.inr ⟨id,by rw [← k2]; exact hm⟩)
 have hlkinv:∀ {j:Nat} {b:Blk},ren (Blk.look hpL' j)=b→(Blk.look hpL' j).ren (outId sel hp.length)=b:=fun h=>by rw [hren]; exact h
 have hback:∀ {id:Nat} {cs:List SV},id∈sel→(Blk.look hp id=.cells cs∨∃ al,Blk.look hp id=.arr al cs)→(cs.map (SV.ren (idx sel))).map (SV.ren (outId sel hp.length))=cs:=by
  intro id cs hid hc
  refine map_ren_ren fun x hx i hi=>idx_out ((hcl id hid).2 i ?_)
  rcases hc with hc | ⟨al,hc⟩
  ·
   rw [hc]; exact Blk.ids_cells hx hi
  ·
   rw [hc]; exact Blk.ids_arr hx hi
 have hS:Step false w (Mof M0 bs) bs hp w' (Mof M0 (mergeB bs sel bsL')) (mergeB bs sel bsL') (mergeB hp sel (hpL'.map ren)):=by
  refine ⟨hev,by rw [hmlen]; omega,?_,?_,?_,fun _=>⟨?_,?_,?_⟩⟩
  ·
   intro id cs h1 h2
   by_cases hin:id∈sel
   ·
    obtain ⟨j,hj⟩:=List.getElem?_of_mem hin
    rw [(hsel j id hj).1] at h2
    obtain ⟨cs1,h3,_⟩:=Blk.ren_inv_cells (hlkinv h2)
    obtain ⟨⟨cs',q1⟩,q2⟩:=hst.box j cs1 (by simpa using (List.getElem?_eq_some_iff.1 hj).1) h3
    rw [look_selB,hj] at q1
    obtain ⟨cs2,h4,_⟩:=Blk.ren_inv_cells q1
    rw [at_map,hj] at q2
    exact ⟨⟨cs2,h4⟩,by rw [(hsel j id hj).2]; exact q2⟩
   ·
    have:=hoth id hin h1
    exact ⟨⟨cs,by rw [← this.1]; exact h2⟩,this.2⟩
  ·
   intro id b k u es h1 h2
   by_cases hin:id∈sel
   ·
    obtain ⟨j,hj⟩:=List.getElem?_of_mem hin
    obtain ⟨q1,es',q2⟩:=hst.map j b k u es (by rw [at_map,hj]; exact h1) (by rw [look_selB,hj]; simp only [h2]; rfl)
    exact ⟨by rw [(hsel j id hj).2]; exact q1,es',by rw [(hsel j id hj).1,q2,← hren]; rfl⟩
   ·
    have:=hoth id hin (look_lt (by rw [h2]; simp))
    exact ⟨by rw [this.2]; exact h1,es,by rw [this.1]; exact h2⟩
  ·
   intro id al cs hid hl
   by_cases hin:id∈sel
   ·
    obtain ⟨j,hj⟩:=List.getElem?_of_mem hin
    rw [(hsel j id hj).1] at hl
    obtain ⟨cs1,h3,rfl⟩:=Blk.ren_inv_arr (hlkinv hl)
    obtain ⟨al0,cs0,q1,q2⟩:=hst.own j al cs1 (by simpa using (List.getElem?_eq_some_iff.1 hj).1) h3
    rw [look_selB,hj] at q1
    obtain ⟨cs2,h4,rfl⟩:=Blk.ren_inv_arr q1
    refine ⟨al0,cs2,h4,?_⟩
    rw [(hsel j id hj).2]
    rw [at_map,hj] at q2
    rw [List.length_map] at q2 ⊢
    rcases q2 with q2 | ⟨q2,q3,q4,q5⟩
    ·
     exact .inl q2
    ·
     exact .inr ⟨q2,q3,fun hn=>by rw [q4 hn]; exact hback hin (.inr ⟨al0,h4⟩),q5⟩
   ·
    have:=hoth id hin hid
    rw [this.1] at hl
    refine ⟨al,cs,hl,.inr ⟨rfl,this.2,fun _=>rfl,fun b hb cap size ho => ?_⟩⟩
    obtain ⟨cur,e,q1,q2⟩:=ho
    exact ⟨cur,e,by rw [hold id b hin hb]; exact q1,q2⟩
  ·
   intro b hb hn
   refine (hst.only rfl).old b hb fun j hj => ?_
   rw [at_map] at hj
   cases hs:sel[j]? with
   | none=>rw [hs] at hj; cases hj
   | some id=>rw [hs] at hj; exact hn id hj
  ·
   intro b hb hn id hid
   rcases hany id with ⟨j,_,_,k2⟩ | ⟨_,_,_,k2⟩
   ·
    refine (hst.only rfl).new b hb (fun i hi => ?_) j (by rw [← k2]; exact hid)
    rw [at_map] at hi
    cases hs:sel[i]? with
    | none=>rw [hs] at hi; cases hi
    | some id=>rw [hs] at hi; exact hn id hi
   ·
    exact hn id (by rw [← k2]; exact hid)
  ·
   intro id l xs i st ht
   rcases hany id with ⟨j,_,k1,_⟩ | ⟨_,_,k1,_⟩
   ·
    rw [k1] at ht
    exfalso
    have ht:=Blk.ren_inv_trace (hlkinv ht)
    rw [List.all_eq_true] at hsound
    have hjl:j<hpL'.length:=look_lt (by rw [ht]; simp)
    have:=hsound hpL'[j] (List.getElem_mem hjl)
    simp only [Blk.look,List.getElem?_eq_getElem hjl,Option.getD_some] at ht
    rw [ht] at this
    simp [Blk.sound] at this
   ·
    rw [← k1]; exact ht
 have hMA:(∀ b,Mof M0 bs b→¬ (∃ id∈sel,bs.at id=some b)→Mx b)→∀ b,Mof M0 (mergeB bs sel bsL') b→Mof Mx bsL' b:=by
  rintro hf b (h | ⟨id,h⟩)
  ·
   refine .inl (hf b (.inl h) ?_)
   rintro ⟨id,hid,hb⟩
   exact hM0 id hid b hb h
  ·
   rcases hany id with ⟨j,_,_,k2⟩ | ⟨k0,_,_,k2⟩
   ·
    exact .inr ⟨j,by rw [← k2]; exact h⟩
   ·
    rw [k2] at h
    refine .inl (hf b (.inr ⟨id,h⟩) ?_)
    rintro ⟨id',hid',hb⟩
    exact k0 (hr.inj id id' b h hb▸hid')
 have hcell:∀ {j:Nat} {cs:List SV} {i:Nat} {x:SV} {u:Value},(Blk.look hpL' j=.cells cs∨∃ al,Blk.look hpL' j=.arr al cs)→cs[i]?=some x→relSV w' (Mof Mx bsL') bsL' hpL' x u→relSV w' (Mof M0 (mergeB bs sel bsL')) (mergeB bs sel bsL') (mergeB hp sel (hpL'.map ren)) (x.ren (outId sel hp.length)) u:=by
  intro j cs i x u hl hx h
  have hnum:relSV w' (Mof Mx bsL') (mergeB bs sel bsL') (mergeB hp sel (hpL'.map ren)) (x.ren (outId sel hp.length)) u :=
   relSV_renB (fun id _ hid=>by
    have:=hout id hid
    rw [hren]; exact this) h
  rcases hfree with hf | hf
  ·
   exact relSV_sub (hMA hf) hnum
  ·
   rw [List.all_eq_true] at hf
   have hjl:j<hpL'.length:=look_lt (by rcases hl with hl | ⟨al,hl⟩ <;> rw [hl] <;> simp)
   have h1:=hf hpL'[j] (List.getElem_mem hjl)
   simp only [Blk.look,List.getElem?_eq_getElem hjl,Option.getD_some] at hl
   have h2:x.scalar=true:=by
    rcases hl with hl | ⟨al,hl⟩ <;> (rw [hl] at h1; simp only [Blk.scalarB,List.all_eq_true] at h1; exact h1 x (List.mem_of_getElem? hx))
   have h3:x.ren (outId sel hp.length)=x:=SV.ren_ids0 (by cases x <;> first | rfl | simp [SV.scalar] at h2)
   rw [h3]
   exact relSV_scalar h2 h
 refine ⟨⟨?_,fun b hb => ?_,?_,?_,?_,?_,?_,?_,?_,hr.gl.evo hS.evo⟩,hS,hout,hMA⟩
 ·
  rw [mergeB_length sel bs bsL' hlenB,hmlen,hr.len,hr'.len]
 ·
  exact Nat.lt_of_lt_of_le (hr.m0 b hb) hst.evo.size
 ·
  intro id b h
  rcases hany id with ⟨j,_,_,k2⟩ | ⟨_,_,_,k2⟩
  ·
   exact hr'.lt j b (by rw [← k2]; exact h)
  ·
   exact Nat.lt_of_lt_of_le (hr.lt id b (by rw [← k2]; exact h)) hst.evo.size
 ·
  intro i j b h1 h2
  rcases hany i with ⟨i',e1,_,k2⟩ | ⟨n1,_,_,k2⟩ <;> rcases hany j with ⟨j',e2,_,k4⟩ | ⟨n2,_,_,k4⟩
  ·
   have:=hr'.inj i' j' b (by rw [← k2]; exact h1) (by rw [← k4]; exact h2)
   rw [e1,e2,this]
  ·
   exfalso
   rw [k2] at h1; rw [k4] at h2
   exact hnew2 j b n2 h2 i' h1
  ·
   exfalso
   rw [k2] at h1; rw [k4] at h2
   exact hnew2 i b n1 h1 j' h2
  ·
   exact hr.inj i j b (by rw [← k2]; exact h1) (by rw [← k4]; exact h2)
 ·
  intro id b h hm
  rcases hany id with ⟨j,_,_,k2⟩ | ⟨_,_,_,k2⟩
  ·
   rw [k2] at h
   exact hM0n b hm j h
  ·
   exact hr.out id b (by rw [← k2]; exact h) hm
 ·
  intro id cs h
  rcases hany id with ⟨j,_,k1,k2⟩ | ⟨_,_,k1,k2⟩
  ·
   rw [k1] at h
   obtain ⟨cs1,h3,_⟩:=Blk.ren_inv_arr (hlkinv h)
   obtain ⟨b,hb⟩:=hr'.al j cs1 h3
   exact ⟨b,by rw [k2]; exact hb⟩
  ·
   obtain ⟨b,hb⟩:=hr.al id cs (by rw [← k1]; exact h)
   exact ⟨b,by rw [k2]; exact hb⟩
 ·
  intro id cs h
  rcases hany id with ⟨j,_,k1,k2⟩ | ⟨n1,_,k1,k2⟩
  ·
   rw [k1] at h
   obtain ⟨cs1,h3,rfl⟩:=Blk.ren_inv_cells (hlkinv h)
   obtain ⟨b,cur,e,q1,q2,q3,q4⟩:=hr'.cells j cs1 h3
   refine ⟨b,cur,e,by rw [k2]; exact q1,q2,by rw [List.length_map]; exact q3,fun i x hx => ?_⟩
   rw [List.getElem?_map,Option.map_eq_some_iff] at hx
   obtain ⟨x,hx,rfl⟩:=hx
   obtain ⟨u,r1,r2,r3⟩:=q4 i x hx
   exact ⟨u,r1,r2,hcell (.inl h3) hx r3⟩
  ·
   rw [k1] at h
   obtain ⟨b,cur,e,q1,q2,q3,q4⟩:=hr.cells id cs h
   refine ⟨b,cur,e,by rw [k2]; exact q1,by rw [hold id b n1 q1]; exact q2,q3,fun i x hx => ?_⟩
   obtain ⟨u,r1,r2,r3⟩:=q4 i x hx
   exact ⟨u,r1,r2,relSV_step hS x u r3⟩
 ·
  intro id al cs b h hb
  rcases hany id with ⟨j,_,k1,k2⟩ | ⟨n1,_,k1,k2⟩
  ·
   rw [k1] at h; rw [k2] at hb
   obtain ⟨cs1,h3,rfl⟩:=Blk.ren_inv_arr (hlkinv h)
   obtain ⟨cur,e,q2,q4⟩:=hr'.arr j al cs1 b h3 hb
   refine ⟨cur,e,q2,fun i x hx => ?_⟩
   rw [List.getElem?_map,Option.map_eq_some_iff] at hx
   obtain ⟨x,hx,rfl⟩:=hx
   obtain ⟨u,r1,r2,r3⟩:=q4 i x hx
   exact ⟨u,r1,r2,hcell (.inr ⟨al,h3⟩) hx r3⟩
  ·
   rw [k1] at h; rw [k2] at hb
   obtain ⟨cur,e,q2,q4⟩:=hr.arr id al cs b h hb
   refine ⟨cur,e,by rw [hold id b n1 hb]; exact q2,fun i x hx => ?_⟩
   obtain ⟨u,r1,r2,r3⟩:=q4 i x hx
   exact ⟨u,r1,r2,relSV_step hS x u r3⟩
 ·
  intro id k v es h
  rcases hany id with ⟨j,_,k1,k2⟩ | ⟨n1,_,k1,k2⟩
  ·
   rw [k1] at h
   have h3:=Blk.ren_inv_map (hlkinv h)
   obtain ⟨b,ents,clock,q1,q2,q3⟩:=hr'.map j k v es h3
   refine ⟨b,ents,clock,by rw [k2]; exact q1,q2,?_⟩
   rcases hfree with hf | hf
   ·
    exact q3.imp fun x m hm=>⟨hm.1,repV_evo (Evo.more w' fun b _=>hMA hf b) hm.2⟩
   ·
    exfalso
    rw [List.all_eq_true] at hf
    have hjl:j<hpL'.length:=look_lt (by rw [h3]; simp)
    have h1:=hf hpL'[j] (List.getElem_mem hjl)
    simp only [Blk.look,List.getElem?_eq_getElem hjl,Option.getD_some] at h3
    rw [h3] at h1
    simp [Blk.scalarB] at h1
  ·
   rw [k1] at h
   obtain ⟨b,ents,clock,q1,q2,q3⟩:=hr.map id k v es h
   exact ⟨b,ents,clock,by rw [k2]; exact q1,by rw [hold id b n1 q1]; exact q2,q3.imp fun x m hm=>⟨hm.1,repV_evo hS.evo hm.2⟩⟩
theorem relAV_sub {M':Nat→Prop} (hM:∀ b,M' b→M b) {x:AV} {v:Value} (h:relAV w M bs hp x v):relAV w M' bs hp x v:=by
 cases x with
 | s x=>exact relSV_sub hM h
 | agg cs=>obtain ⟨vs,rfl,h⟩:=h; exact ⟨vs,rfl,h.imp fun x u hu=>⟨relSV_sub hM hu.1,hu.2⟩⟩
theorem relRV_sub {M':Nat→Prop} (hM:∀ b,M' b→M b) {x:RV} {v:Value} (h:relRV w M bs hp x v):relRV w M' bs hp x v:=by
 cases x with
 | v x=>exact relAV_sub hM h
 | tup xs=>obtain ⟨vs,rfl,h⟩:=h; exact ⟨vs,rfl,h.imp fun x u hu=>relAV_sub hM hu⟩
theorem scalar_ren {σ:Nat→Nat} {x:RV} (h:x.scalar=true):x.ren σ=x:=by
 have h1:∀ y:SV,y.scalar=true→y.ren σ=y:=fun y hy=>SV.ren_ids0 (by cases y <;> first | rfl | simp [SV.scalar] at hy)
 have h2:∀ y:AV,y.scalar=true→y.ren σ=y:=by
  intro y hy
  cases y with
  | s y=>simp only [AV.ren,h1 y hy]
  | agg cs =>
   simp only [AV.scalar,List.all_eq_true] at hy
   simp only [AV.ren,AV.agg.injEq]
   conv=>rhs; rw [← List.map_id cs]
   exact List.map_congr_left fun y hm=>h1 y (hy y hm)
 cases x with
 | v y=>simp only [RV.ren,h2 y h]
 | tup xs =>
  simp only [RV.scalar,List.all_eq_true] at h
  simp only [RV.ren,RV.tup.injEq]
  conv=>rhs; rw [← List.map_id xs]
  exact List.map_congr_left fun y hm=>h2 y (h y hm)
theorem reachB_nodup:∀ (n:Nat) (l:List Nat),l.Nodup→(reachB hp n l).Nodup∧∀ x∈l,x∈reachB hp n l
 | 0,l,h=>⟨h,fun x hx=>hx⟩
 | n+1,l,h=>by
  obtain ⟨h1,h2⟩:=dedup_spec (l.flatMap fun id=>(Blk.look hp id).ids) l h
  obtain ⟨h3,h4⟩:=reachB_nodup n _ h1
  exact ⟨h3,fun x hx=>h4 x ((h2 x).2 (.inl hx))⟩
theorem selOf_spec (args:List AV):(selOf hp args).Nodup∧∀ id∈args.flatMap AV.ids,id∈selOf hp args:=by
 obtain ⟨h1,h2⟩:=dedup_spec (args.flatMap AV.ids) [] (by simp)
 obtain ⟨h3,h4⟩:=reachB_nodup (hp:=hp) 2 _ h1
 exact ⟨h3,fun id hid=>h4 id ((h2 id).2 (.inr hid))⟩
theorem borAt_sound (hr:HR w M0 bs hp) {M':Nat→Prop} (hM:∀ b,M' b→Mof M0 bs b) (l:List Nat):∀ {i:Nat} {xs ys:List AV} {vs:List Value},All2 (relAV w (Mof M0 bs) bs hp) xs vs→borAt hp l i xs=some ys→(∀ id∈borIds l i xs,∀ b,bs.at id=some b→¬ M' b)→All2 (relAV w M' bs hp) ys vs
 | i,[],ys,_,.nil,hb,_=>by simp [borAt] at hb; subst hb; exact .nil
 | i,x::xs,ys,_,.cons h1 h2,hb,hn=>by
  simp only [borAt] at hb
  split at hb
  ·
   rename_i y s hy hs
   injection hb with hb
   subst hb
   refine .cons ?_ (borAt_sound hr hM l h2 hs fun id hid=>hn id (by simp only [borIds,List.mem_append]; exact .inr hid))
   split at hy
   ·
    rename_i hc
    exact relAV_lift (borAV_sound hr hM h1 hy fun id hid=>hn id (by simp only [borIds,hc,if_true,List.mem_append]; exact .inl hid))
   ·
    injection hy with hy
    subst hy
    exact relAV_sub hM h1
  ·
   cases hb
theorem effVC2_sound {P:Program} {f:FuncId} {c:ECon2} (hE:EffOk2 P f c) (hr:HR w M0 bs hp) {args:List AV} {vs:List Value} {K:RV→List Blk→Prop} (h:effVC2 hp c args K) (hargs:All2 (relAV w (Mof M0 bs) bs hp) args vs) :
  Calls P f vs.toArray w (fun o w'=>∃ v rv hp' bs',o=.returned v∧K rv hp'∧relRV w' (Mof M0 bs') bs' hp' rv v∧HR w' M0 bs' hp'∧Step false w (Mof M0 bs) bs hp w' (Mof M0 bs') bs' hp'):=by
 unfold effVC2 at h
 split at h
 ·
  exact h.elim
 ·
  rename_i args' hbor
  obtain ⟨hcl,hdis,hwp⟩:=h
  have hcl:=closedB_iff hcl
  obtain ⟨hnd,hin⟩:=selOf_spec (hp:=hp) args'
  generalize selOf hp args'=sel at *
  generalize hB:borIds c.bor 0 args=B at *
  rw [List.all_eq_true] at hdis
  have hMx:∀ b,(Mof M0 bs b∧(¬ ∃ id∈sel,bs.at id=some b)∧¬ ∃ id∈B,bs.at id=some b)→Mof M0 bs b∧¬ ∃ id∈sel,bs.at id=some b:=fun b h=>⟨h.1,h.2.1⟩
  generalize hMxe:(fun b=>Mof M0 bs b∧(¬ ∃ id∈sel,bs.at id=some b)∧¬ ∃ id∈B,bs.at id=some b)=Mx at *
  have hmx:∀ b,Mx b↔(Mof M0 bs b∧(¬ ∃ id∈sel,bs.at id=some b)∧¬ ∃ id∈B,bs.at id=some b):=fun b=>by rw [← hMxe]
  have hsub:∀ b,Mof Mx (sel.map bs.at) b→Mof M0 bs b:=by
   rintro b (hb | ⟨j,hb⟩)
   ·
    exact ((hmx b).1 hb).1
   ·
    rw [at_map] at hb
    cases hs:sel[j]? with
    | none=>rw [hs] at hb; cases hb
    | some id=>rw [hs] at hb; exact .inr ⟨id,hb⟩
  have hr1:=hr.selectB (M0':=Mx) sel hnd hcl (fun b hb=>by
   rcases ((hmx b).1 hb).1 with hb | ⟨id,hb⟩
   ·
    exact hr.m0 b hb
   ·
    exact hr.lt id b hb) (fun id hid b hb hm=>((hmx b).1 hm).2.1 ⟨id,hid,hb⟩) (fun b _ hb=>hsub b hb)
  have hargs1:All2 (relAV w (Mof Mx (sel.map bs.at)) bs hp) args' vs:=borAt_sound hr hsub c.bor hargs hbor (by
   rw [hB]
   rintro id hid b hb (hm | ⟨j,hm⟩)
   ·
    exact ((hmx b).1 hm).2.2 ⟨id,hid,hb⟩
   ·
    rw [at_map] at hm
    cases hs:sel[j]? with
    | none=>rw [hs] at hm; cases hm
    | some id' =>
     rw [hs] at hm
     have:=hr.inj id id' b hb hm
     subst this
     have:=hdis id hid
     simp at this
     exact this (List.mem_of_getElem? hs))
  have hargs2:=all2_renB (σ:=idx sel) (bs':=sel.map bs.at) (hp':=sel.map fun id=>(Blk.look hp id).ren (idx sel)) (fun id hid _=>by
   have hs:=idx_spec sel id (hin id hid)
   exact ⟨by rw [look_selB,hs],by rw [at_map,hs]; rfl,by simpa using (List.getElem?_eq_some_iff.1 hs).1⟩) hargs1
  have hp1:(sel.map fun id=>(Blk.look hp id).ren (idx sel)).all Blk.sound=true:=by
   rw [List.all_map,List.all_eq_true]
   intro id hid
   simp only [Function.comp,Blk.ren_sound]
   exact (hcl id hid).1
  have hp2:∀ id,∀ i∈(Blk.look (sel.map fun id=>(Blk.look hp id).ren (idx sel)) id).ids,i<(sel.map fun id=>(Blk.look hp id).ren (idx sel)).length:=by
   intro j i hi
   rw [look_selB] at hi
   cases hs:sel[j]? with
   | none=>rw [hs] at hi; simp [Blk.ids,Blk.pureB] at hi
   | some id =>
    rw [hs] at hi
    obtain ⟨k,hk,rfl⟩:=Blk.ids_ren hi
    have:=(List.getElem?_eq_some_iff.1 (idx_spec sel k ((hcl id (List.mem_of_getElem? hs)).2 k hk))).1
    simpa using this
  refine (hE w _ _ _ _ _ _ hwp hr1 hp1 hp2 hargs2).mono ?_
  rintro o w' ⟨v,rv,hpL',bsL',rfl,⟨hor,hK⟩,hv,hso,hr',hst⟩
  have hfull:B=[]→∀ b,Mof M0 bs b→¬ (∃ id∈sel,bs.at id=some b)→Mx b:=fun h b h1 h2=>(hmx b).2 ⟨h1,h2,by rw [h]; simp⟩
  obtain ⟨k1,k2,k3,k4⟩:=merge_hrB hr sel hnd hcl (fun b hb=>hMx b ((hmx b).1 hb)) hr' hso hst (by
   rcases hor with hor | hor
   ·
    exact .inl (hfull hor)
   ·
    exact .inr hor.2)
  refine ⟨v,_,_,_,rfl,hK,?_,k1,k2⟩
  rcases hor with hor | hor
  ·
   exact relRV_sub (k4 (hfull hor)) (relRV_renB (fun id hid=>k3 id hid) hv)
  ·
   rw [scalar_ren hor.1]
   exact relRV_scalar hor.1 hv
end
def edg (o:Oper):List Nat:=(o.after.toList.filter (Region.binds .any)).map (·.on)
def temps:List Operand→List Nat
 | []=>[]
 | .tmp t::r=>t::temps r
 | _::r=>temps r
def dstIs (ops:List Oper) (j:Nat) (t:Nat):Bool:=((ops[j]?).bind (·.dst))==some t
def clo:List Oper→List (List Nat)→List (List Nat)
 | [],acc=>acc
 | o::r,acc=>clo r (acc++[edg o++(edg o).flatMap fun j=>acc.getD j []])
def drawOk (y:Bool×List FuncId) (ops:List Oper) (m:Nat):Bool :=
 (List.range ops.length).all fun i=>match ops[i]? with
  | none=>true
  | some o=>(edg o).all (fun k=>k<i) &&
   (if i<m then
    !isMem y o.op &&
    (temps o.op.operands.toList).all (fun t=>(List.range m).all fun j => !dstIs ops j t||(j<i&&(edg o).contains j)) &&
    (match o.guard with
     | none=>true
     | some (j,_)=>j<m&&(edg o).contains j) &&
    (List.range m).all (fun j=>j==i||(match o.dst with
     | some d => !dstIs ops j d
     | none=>true))
   else (List.range i).all fun k=>((clo ops []).getD i []).contains k)
def regionOk (y:Bool×List FuncId) (N:Nat) (ops:List Oper) (draw:Bool):Bool :=
 ops.all (fun o=>match o.dst with | some d=>d<N | none=>true)&&(!draw||(List.range (ops.length+1)).any fun m=>drawOk y ops m)
abbrev XT:=Nat→List (List AV)→Nat→Bool→World→(Nat→Prop)→(Nat→Prop)→Prop
def inBs (bs:Bs) (b:Nat):Prop:=∃ id,bs.at id=some b
structure YStep (w:World) (M0 B:Nat→Prop) (w':World) (M0':Nat→Prop):Prop where
 evo:Evo (fun b=>M0 b∨B b) (fun b=>M0' b∨B b) w w'
 own:∀ b,B b→w'.heap[b]?=w.heap[b]?
 m0:∀ b,M0' b→b<w'.heap.size
 out:∀ b,B b→¬ M0' b
structure XOk (P:Program) (X:XT):Prop where
 stable:∀ {l xs i st} {w w':World} {M0 B B':Nat→Prop},X l xs i st w M0 B→w'.os=w.os→w'.tape=w.tape→w'.output=w.output→w.heap.size≤w'.heap.size→w.drawn≤w'.drawn →
  (∀ b,b<w.heap.size→¬ B b→w'.heap[b]?=w.heap[b]?)→(∀ b,b<w.heap.size→¬ B b→¬ B' b)→(∀ b,B' b→b<w'.heap.size)→X l xs i st w' M0 B'
 yield:∀ {l xs i} {w:World} {M0 B:Nat→Prop} {args:List AV} {vs:List Value},X l xs i false w M0 B→xs[i]?=some args→(∀ b,M0 b→b<w.heap.size)→(∀ b,B b→b<w.heap.size∧¬ M0 b) →
  All2 (relAV w (fun b=>M0 b∨B b) [] []) args vs→∃ fn tmps assign body,(Instr.yield l vs.toArray).run P w=.ok (.round l fn tmps assign body) w ∧
   ∀ n r,RoundIn (FW r) n P l fn tmps assign body w fun e w'=>∃ b M0',e=.returned (.bool b)∧X l xs (i+1) (!b) w' M0' B∧YStep w M0 B w' M0'
def XR (X:XT) (w:World) (M0:Nat→Prop) (bs:Bs) (hp:List Blk):Prop:=∀ l xs i st,Blk.look hp 0=.trace l xs i st→X l xs i st w M0 (inBs bs)
section
variable {P:Program} {g:G} {X:XT} {w:World} {M0:Nat→Prop} {bs:Bs} {hp:List Blk}
theorem guard_rel {M:Nat→Prop} {ops:Array Oper} {e:Env} {a:Act} {gd:Nat×Bool} {gc:Bool} (hc:gcond ops.toList e (some gd)=some gc) (o:Oper) (ho:o.guard=some gd)
  (he:∀ d,((ops[gd.1]?).bind (·.dst))=some d→relSL w M bs hp (getE e d) (a.tmps.getD d undef)):Region.wanted o (yielded ops a.tmps)=gc:=by
 obtain ⟨j,want⟩:=gd
 simp only [gcond] at hc
 have heq:ops.toList[j]?=ops[j]?:=by simp
 rw [heq] at hc
 cases hd:(ops[j]?).bind (·.dst) with
 | none =>
  have:(ops[j]?).bind (fun o=>o.dst)=none:=hd
  rw [this] at hc
  simp at hc
 | some d =>
  have hd':(ops[j]?).bind (fun o=>o.dst)=some d:=hd
  rw [hd'] at hc
  have hr:=he d hd
  simp only [Region.wanted,ho,yielded,hd]
  simp only at hc
  generalize getE e d=x at *
  obtain ⟨ok,v⟩:=x
  cases v with
  | tup xs=>simp at hc
  | v av =>
   cases av with
   | agg cs=>simp at hc
   | s sv =>
    cases sv with
    | bool b =>
     simp only [Option.some.injEq] at hc
     subst hc
     cases ok with
     | true =>
      have h1:a.tmps.getD d undef=.bool b:=hr.1 rfl
      rw [Array.getD_eq_getD_getElem?] at h1
      cases ht:a.tmps[d]? with
      | none=>rw [ht] at h1; simp [undef] at h1
      | some v=>rw [ht] at h1; simp at h1; subst h1; simp [ht]
     | false =>
      have h1:a.tmps.getD d undef=undef:=hr.2 rfl
      rw [Array.getD_eq_getD_getElem?] at h1
      cases ht:a.tmps[d]? with
      | none=>simp [ht]
      | some v=>rw [ht] at h1; simp at h1; subst h1; simp [ht,undef]
    | _=>simp at hc
theorem XR.step (hX:XOk P X) (h:XR X w M0 bs hp) {w':World} {M M':Nat→Prop} {bs':Bs} {hp':List Blk} (hs:Step false w M bs hp w' M' bs' hp') (hr':∀ id b,bs'.at id=some b→b<w'.heap.size):XR X w' M0 bs' hp':=by
 intro l xs i st ht
 have ho:=hs.only rfl
 exact hX.stable (h l xs i st (ho.tr 0 l xs i st ht)) hs.evo.os hs.evo.tape hs.evo.output hs.evo.size hs.evo.drawn (fun b hb hn=>ho.old b hb (fun id hid=>hn ⟨id,hid⟩)) (fun b hb hn ⟨id,hid⟩=>ho.new b hb (fun id hid=>hn ⟨id,hid⟩) id hid) (fun b ⟨id,hid⟩=>hr' id b hid)
theorem HR.yielded (hr:HR w M0 bs hp) {l l':Nat} {xs xs':List (List AV)} {i i':Nat} {st st':Bool} (hl0:Blk.look hp 0=.trace l xs i st) {w':World} {M0':Nat→Prop} (hy:YStep w M0 (inBs bs) w' M0') :
  HR w' M0' bs (hp.set 0 (.trace l' xs' i' st'))∧Step true w (Mof M0 bs) bs hp w' (Mof M0' bs) bs (hp.set 0 (.trace l' xs' i' st')):=by
 have hid:0<hp.length:=look_lt (by rw [hl0]; simp)
 have he:Evo (Mof M0 bs) (Mof M0' bs) w w':=hy.evo
 have hlk:∀ j,Blk.look (hp.set 0 (.trace l' xs' i' st')) j=if j=0 then .trace l' xs' i' st' else Blk.look hp j:=fun j=>look_set 0 _ j hid
 have hs:∀ id b,bs.at id=some b→w'.heap[b]?=w.heap[b]?:=fun id b hb=>hy.own b ⟨id,hb⟩
 have hlk':∀ j x,Blk.look (hp.set 0 (.trace l' xs' i' st')) j=x→(∀ a b c d,x≠.trace a b c d)→Blk.look hp j=x:=by
  intro j x h hne
  rw [hlk] at h
  split at h
  ·
   exact absurd h.symm (hne _ _ _ _)
  ·
   exact h
 have hne0:∀ j,(∀ a b c d,Blk.look hp j≠.trace a b c d)→Blk.look (hp.set 0 (.trace l' xs' i' st')) j=Blk.look hp j:=by
  intro j h
  rw [hlk,if_neg (fun e=>by subst e; exact h _ _ _ _ hl0)]
 have hst:Step true w (Mof M0 bs) bs hp w' (Mof M0' bs) bs (hp.set 0 (.trace l' xs' i' st')) :=
  ⟨he,by simp,fun id cs h1 h2=>⟨⟨cs,hlk' _ _ h2 (by simp)⟩,rfl⟩,fun id b k u es h1 h2=>⟨h1,es,by rw [hne0 id (by rw [h2]; simp)]; exact h2⟩,fun id al cs _ h=>⟨al,cs,hlk' _ _ h (by simp),.inr ⟨rfl,rfl,fun _=>rfl,fun b hb cap size ho=>by
   obtain ⟨cur,e,h1,h2⟩:=ho
   exact ⟨cur,e,by rw [hs id b hb]; exact h1,h2⟩⟩⟩,by simp⟩
 refine ⟨⟨by simp [hr.len],hy.m0,fun id b h=>Nat.lt_of_lt_of_le (hr.lt id b h) he.size,hr.inj,fun id b h=>hy.out b ⟨id,h⟩,fun id cs h=>hr.al id cs (hlk' _ _ h (by simp)),?_,?_,?_,hr.gl.evo hst.evo⟩,hst⟩
 ·
  intro id cs hl
  obtain ⟨b,cur,e,h1,h2,h3,h4⟩:=hr.cells id cs (hlk' _ _ hl (by simp))
  refine ⟨b,cur,e,h1,by rw [hs id b h1]; exact h2,h3,fun j x hj => ?_⟩
  obtain ⟨u,k1,k2,k3⟩:=h4 j x hj
  exact ⟨u,k1,k2,relSV_step hst x u k3⟩
 ·
  intro id al cs b hl hb
  obtain ⟨cur,e,h2,h4⟩:=hr.arr id al cs b (hlk' _ _ hl (by simp)) hb
  refine ⟨cur,e,by rw [hs id b hb]; exact h2,fun j x hj => ?_⟩
  obtain ⟨u,k1,k2,k3⟩:=h4 j x hj
  exact ⟨u,k1,k2,relSV_step hst x u k3⟩
 ·
  intro id k v es hl
  obtain ⟨b,ents,clock,h1,h2,h3⟩:=hr.map id k v es (hlk' _ _ hl (by simp))
  exact ⟨b,ents,clock,h1,by rw [hs id b h1]; exact h2,h3.imp fun x m hm=>⟨hm.1,repV_evo he hm.2⟩⟩
structure Nx (P:Program) (g:G) (X:XT) (w:World) (M0:Nat→Prop) (bs:Bs) (hp:List Blk) (w':World) (M0':Nat→Prop) (bs':Bs) (hp':List Blk):Prop where
 hr:HR w' M0' bs' hp'
 xr:XR X w' M0' bs' hp'
 st:Step g.y w (Mof M0 bs) bs hp w' (Mof M0' bs') bs' hp'
 eq:g.y=false→M0'=M0
theorem Nx.refl (h:HR w M0 bs hp) (k:XR X w M0 bs hp):Nx P g X w M0 bs hp w M0 bs hp:=⟨h,k,Step.refl _ _ _ _,fun _=>rfl⟩
theorem Nx.trans {w' w'':World} {M0' M0'':Nat→Prop} {bs' bs'':Bs} {hp' hp'':List Blk} (h:Nx P g X w M0 bs hp w' M0' bs' hp') (k:Nx P g X w' M0' bs' hp' w'' M0'' bs'' hp''):Nx P g X w M0 bs hp w'' M0'' bs'' hp'' :=
 ⟨k.hr,k.xr,h.st.trans k.st,fun hy=>(k.eq hy).trans (h.eq hy)⟩
theorem Nx.of_step (hX:XOk P X) (k:XR X w M0 bs hp) {w':World} {bs':Bs} {hp':List Blk} (h:HR w' M0 bs' hp') (st:Step false w (Mof M0 bs) bs hp w' (Mof M0 bs') bs' hp'):Nx P g X w M0 bs hp w' M0 bs' hp' :=
 ⟨h,k.step hX st h.lt,st.weaken,fun _=>rfl⟩
theorem yieldOf_some {e:Env} {op:Op} {l:Nat} {args:List AV} (h:yieldOf g e op=some (l,args)) :
  ∃ f xs ts,op=.call { callee:=.value (.tmp f),args:=xs,argTypes:=ts }∧opRV e (.tmp f)=.v (.s (.val (.func (.yield l) #[] #[])))∧args=argsEv g e xs.toList ts.toList:=by
 unfold yieldOf at h
 split at h
 ·
  rename_i f xs ts
  split at h
  ·
   rename_i l' heq
   injection h with h; injection h with h1 h2
   subst h1; subst h2
   exact ⟨f,xs,ts,rfl,heq,rfl⟩
  ·
   cases h
 ·
  cases h
theorem effOf2V_sound {w:World} {M0:Nat→Prop} {bs:Bs} {hp:List Blk} {fv:RV} {v:Value} {args args':List AV} {c:ECon2} (h:effOf2V g fv args=some (c,args')) (hf:relRV w (Mof M0 bs) bs hp fv v) :
  ∃ (f:FuncId) (ps qs:List Value) (pav qav:List AV),look g.E2 f=some c∧args'=pav++(args++qav)∧v=.func (.func f) ps.toArray qs.toArray∧All2 (relAV w (Mof M0 bs) bs hp) pav ps∧All2 (relAV w (Mof M0 bs) bs hp) qav qs:=by
 have hcaps:∀ {caps:List (Sigma Ty.T)} {ps:List Value},All2 (FrozenAt w (Mof M0 bs)) caps ps→All2 (relAV w (Mof M0 bs) bs hp) (caps.map capAV) ps:=fun h=>(caps_rel h).imp fun _ _ q=>relAV_lift q
 unfold effOf2V at h
 split at h
 ·
  rename_i f id off
  obtain ⟨h1,q,rfl,h2⟩:=hf
  cases hc:look g.E2 f with
  | none=>simp [hc] at h
  | some c' =>
   simp [hc] at h
   obtain ⟨rfl,rfl⟩:=h
   exact ⟨f,[q],[],[.s (.box id off)],[],hc,by simp,rfl,.cons ⟨h1,h2⟩ .nil,.nil⟩
 ·
  rename_i f ids
  obtain ⟨ps,rfl,h2⟩:=hf
  cases hc:look g.E2 f with
  | none=>simp [hc] at h
  | some c' =>
   simp [hc] at h
   obtain ⟨rfl,rfl⟩:=h
   refine ⟨f,[],ps.map fun b=>.pointer (some ⟨b,0,none⟩),[],ids.map fun id=>.s (.box id 0),hc,rfl,rfl,.nil,?_⟩
   clear hc
   induction h2 with
   | nil=>exact .nil
   | cons r _ ih=>exact .cons ⟨r.1,fun cs hl=>⟨_,r.2 cs hl,rfl⟩⟩ ih
 ·
  rename_i f caps
  obtain ⟨ps,rfl,h2⟩:=hf
  cases hc:look g.E2 f with
  | none=>simp [hc] at h
  | some c' =>
   simp [hc] at h
   obtain ⟨rfl,rfl⟩:=h
   exact ⟨f,[],ps,[],caps.map capAV,hc,rfl,rfl,.nil,hcaps h2⟩
 ·
  rename_i x
  split at h
  ·
   rename_i f caps heq
   obtain ⟨ps,rfl,h2⟩:=repD_parts hf heq
   cases hc:look g.E2 f with
   | none=>simp [hc] at h
   | some c' =>
    simp [hc] at h
    obtain ⟨rfl,rfl⟩:=h
    exact ⟨f,[],ps,[],caps.map capAV,hc,rfl,rfl,.nil,hcaps h2⟩
  ·
   cases h
 ·
  cases h
theorem opVC_sound (hg:g.good P) (hX:XOk P X) {n:Nat} {r:Option Nat} {Q:Exit→Act→World→Prop} {K:SL→List Blk→Prop} (o:Oper) (e:Env) (hp:List Blk) (bs:Bs) (a:Act) (w:World)
  (h:opVC g e hp o K) (hr:HR w M0 bs hp) (hx:XR X w M0 bs hp) (he:relEnv w (Mof M0 bs) bs hp e a) (Kn:Act→World→Prop)
  (next:∀ (x:SL) (z:Value) (hp':List Blk) (M0':Nat→Prop) (bs':Bs) (w':World),relSL w' (Mof M0' bs') bs' hp' x z→Nx P g X w M0 bs hp w' M0' bs' hp'→K x hp'→Kn (a.put o.dst z) w') :
  o.wpIn (FW r) n P a w Kn Q:=by
 obtain ⟨hok,h⟩:=h
 cases hmem:isMem0 o.op with
 | true =>
  simp only [hmem] at h
  obtain ⟨h2,h3⟩:=h
  obtain ⟨hdid,hdef⟩:=mEv_did hg hr o (fun x _ hx=>oper_rel hr.gl he x hx) hok h2
  exact did_wp (fun _=>trivial) hdef hdid fun z w' bs' k1 k2 k3=>next ⟨true,_⟩ z _ _ bs' w' ⟨fun _=>k1,by simp⟩ (.of_step hX hx k2 k3) h3
 | false =>
  simp only [hmem] at h
  split at h
  ·
   rename_i l args heq
   cases hy:g.y with
   | false=>simp [hy] at heq
   | true =>
    simp only [hy,if_true] at heq
    obtain ⟨f,xs,ts,hop,hf,rfl⟩:=yieldOf_some heq
    obtain ⟨dst,op,t,pos,after,guard⟩:=o
    simp only at hop hok hmem h next ⊢
    subst hop
    have hargs:=args_rel hg.1 (e:=e) (a:=a) xs.toList ts.toList (fun x hx=>oper_rel hr.gl he x (okOps_all (by simp) hok x (by simp [Op.operands,Call.operands]; simp at hx; simp [hx])))
    have hev:a.eval (.tmp f)=.func (.yield l) #[] #[]:=by
     have:=oper_rel hr.gl he (.tmp f) (okOps_all (by simp) hok (.tmp f) (by simp [Op.operands,Call.operands]))
     rw [hf] at this; exact this
    unfold yieldVC at h
    split at h
    ·
     rename_i l' tr i hl
     obtain ⟨rfl,hi,hpure,hK⟩:=h
     obtain ⟨fn,tmps,assign,body,hy1,hy2⟩:=hX.yield (hx _ _ _ _ hl) hi hr.m0 (fun b ⟨id,hb⟩=>⟨hr.lt id b hb,hr.out id b hb⟩) (all2_pure hpure hargs)
     refine ⟨fun f _=>trivial,?_⟩
     rw [Oper.semAt_eq _ _ _ (by simp)]
     have hrun:(execOp a.eval { dst:=dst,op:=.call { callee:=.value (.tmp f),args:=xs,argTypes:=ts },type:=t,pos:=pos,after:=after,guard:=guard }).run P w=.ok (.round l' fn tmps assign body) w:=by
      simp only [execOp,resolve,hev,Deferred.ofValue,Sem.run_bind,Sem.run_pure,Result.andThen_ok,invoke,map_arr]
      simpa using hy1
     rw [hrun,Oper.uponIn_round]
     refine ⟨fun hd=>by simp [FW] at hd,(hy2 _ _).mono ?_⟩
     rintro e1 w' ⟨b,M0',rfl,hX',hys⟩
     obtain ⟨k1,k2⟩:=hr.yielded (l':=l') (xs':=tr) (i':=i+1) (st' := !b) hl hys
     have hid:0<hp.length:=look_lt (by rw [hl]; simp)
     refine next ⟨true,.v (.s (.bool b))⟩ (.bool b) _ M0' bs w' ⟨fun _=>rfl,by simp⟩ ⟨k1,?_,by rw [hy]; exact k2,by simp [hy]⟩ (hK b)
     intro l2 xs2 i2 st2 ht
     rw [look_set 0 _ 0 hid,if_pos rfl] at ht
     injection ht with q1 q2 q3 q4
     subst q1; subst q2; subst q3; subst q4
     exact hX'
    ·
     exact h.elim
  ·
   split at h
   ·
    rename_i c args heq
    obtain ⟨dst,op,t,pos,after,guard⟩:=o
    simp only at hok hmem heq next ⊢
    unfold effOf at heq
    split at heq
    ·
     rename_i f xs ts _
     cases hc:look g.E f with
     | none=>simp [hc] at heq
     | some c' =>
      simp only [hc,Option.some.injEq,Prod.mk.injEq] at heq
      obtain ⟨rfl,rfl⟩:=heq
      obtain ⟨hent,hcon⟩:=hg.2.2.1 f c' hc
      have hargs:=args_rel hg.1 (e:=e) (a:=a) xs.toList ts.toList (fun x hx=>oper_rel hr.gl he x (okOps_all (by simp) hok x (by simp [Op.operands,Call.operands]; simp at hx; simp [hx])))
      refine ⟨fun f _=>trivial,?_⟩
      rw [Oper.semAt_eq _ _ _ (by simp)]
      have hrun:(execOp a.eval { dst:=dst,op:=.call { callee:=.value (.func f),args:=xs,argTypes:=ts },type:=t,pos:=pos,after:=after,guard:=guard }).run P w=.ok (.enter f (xs.toList.map a.eval).toArray) w:=by
       have:=hent (xs.toList.map a.eval).toArray w
       simp only [execOp,resolve,Act.eval,Deferred.ofValue,Sem.run_bind,Sem.run_pure,Result.andThen_ok,invoke,map_arr]
       simpa using this
      rw [hrun]
      refine ⟨fun hd=>by simp [FW] at hd,callsIn_FW ((effVC_sound hcon hr h hargs).mono ?_)⟩
      rintro e1 w' ⟨v,rv,hp',bs',rfl,hK,hv,k1,k2⟩
      exact next ⟨true,rv⟩ v hp' _ bs' w' ⟨fun _=>hv,by simp⟩ (.of_step hX hx k1 k2) hK
    ·
     cases heq
   ·
    split at h
    ·
     rename_i c args heq
     obtain ⟨dst,op,t,pos,after,guard⟩:=o
     simp only at hok hmem heq next ⊢
     have fin:∀ (f:FuncId) (vs:List Value),look g.E2 f=some c→All2 (relAV w (Mof M0 bs) bs hp) args vs→(execOp a.eval ⟨dst,op,t,pos,after,guard⟩).run P w=.ok (.enter f vs.toArray) w→(∀ c,op≠.defer c)→(Oper.mk dst op t pos after guard).wpIn (FW r) n P a w Kn Q:=by
      intro f vs hc hargs hrun hdef
      obtain ⟨hent,hcon⟩:=hg.2.2.2.2 f c hc
      refine ⟨fun f _=>trivial,?_⟩
      rw [Oper.semAt_eq _ _ _ hdef,hrun]
      refine ⟨fun hd=>by simp [FW] at hd,callsIn_FW ((effVC2_sound hcon hr h hargs).mono ?_)⟩
      rintro e1 w' ⟨v,rv,hp',bs',rfl,hK,hv,k1,k2⟩
      exact next ⟨true,rv⟩ v hp' _ bs' w' ⟨fun _=>hv,by simp⟩ (.of_step hX hx k1 k2) hK
     unfold effOf2 at heq
     split at heq
     ·
      rename_i f xs ts _ _
      cases hc:look g.E2 f with
      | none=>simp [hc] at heq
      | some c' =>
       simp only [hc,Option.some.injEq,Prod.mk.injEq] at heq
       obtain ⟨rfl,rfl⟩:=heq
       have hargs:=args_rel hg.1 (e:=e) (a:=a) xs.toList ts.toList (fun x hx=>oper_rel hr.gl he x (okOps_all (by simp) hok x (by simp [Op.operands,Call.operands]; simp at hx; simp [hx])))
       refine fin f _ hc hargs ?_ (by simp)
       have:=(hg.2.2.2.2 f c' hc).1 (xs.toList.map a.eval).toArray w
       simp only [execOp,resolve,Act.eval,Deferred.ofValue,Sem.run_bind,Sem.run_pure,Result.andThen_ok,invoke,map_arr]
       simpa using this
     ·
      rename_i f xs ts _ _
      split at heq
      ·
       have hargs:=args_rel hg.1 (e:=e) (a:=a) xs.toList ts.toList (fun x hx=>oper_rel hr.gl he x (okOps_all (by simp) hok x (by simp [Op.operands,Call.operands]; simp at hx; simp [hx])))
       have hf:=oper_rel hr.gl he (.tmp f) (okOps_all (by simp) hok (.tmp f) (by simp [Op.operands,Call.operands]))
       generalize opRV e (.tmp f)=fv at heq hf
       obtain ⟨f0,ps,qs,pav,qav,hc,rfl,hev,hps,hqs⟩:=effOf2V_sound heq hf
       refine fin f0 (ps++(xs.toList.map a.eval++qs)) hc (hps.append (hargs.append hqs)) ?_ (by simp)
       have:=(hg.2.2.2.2 f0 c hc).1 (ps++(xs.toList.map a.eval++qs)).toArray w
       simp only [execOp,resolve,hev,Deferred.ofValue,Sem.run_bind,Sem.run_pure,Result.andThen_ok,invoke,map_arr]
       simpa using this
      ·
       cases heq
     ·
      cases heq
    ·
     exact pEv_wp hg hr o (fun x _ hx=>oper_rel hr.gl he x hx) hok h.1 fun z w' k1 k2 k3=>next ⟨true,_⟩ z hp _ bs w' ⟨fun _=>k1,by simp⟩ (.of_step hX hx k2 k3) h.2
theorem vcOps_step (hg:g.good P) (hX:XOk P X) {n:Nat} {r:Option Nat} {Q:Exit→Act→World→Prop} {K:Env→List Blk→Prop} (ops:Array Oper) (o:Oper) (l:List Oper) (e:Env) (hp:List Blk) (bs:Bs) (a:Act) (w:World)
  (h:vcOps g ops.toList (o::l) e hp K) (hr:HR w M0 bs hp) (hx:XR X w M0 bs hp) (he:relEnv w (Mof M0 bs) bs hp e a) (Kn:Act→World→Prop)
  (next:∀ (x:SL) (z:Value) (hp':List Blk) (M0':Nat→Prop) (bs':Bs) (w':World),relSL w' (Mof M0' bs') bs' hp' x z→Nx P g X w M0 bs hp w' M0' bs' hp'→vcOps g ops.toList l (putE o.dst x e) hp' K→Kn (a.put o.dst z) w') :
  if Region.wanted o (yielded ops a.tmps)=true then o.wpIn (FW r) n P a w Kn Q else (∀ f,o.about P w a.eval=some f→(FW r).fn f)∧Kn (a.put o.dst undef) w:=by
 simp only [vcOps] at h
 cases hgd:o.guard with
 | none =>
  rw [if_pos (by simp [Region.wanted,hgd])]
  simp only [hgd] at h
  exact opVC_sound hg hX o e hp bs a w h hr hx he Kn next
 | some gd =>
  simp only [hgd] at h
  cases hgc:gcond ops.toList e (some gd) with
  | none=>simp [hgc] at h
  | some gc =>
   simp only [hgc] at h
   rw [guard_rel hgc o hgd (fun d _=>getE_rel he d)]
   cases hmem:isMem g.ye o.op with
   | true =>
    simp only [hmem] at h
    cases gc with
    | true=>exact opVC_sound hg hX o e hp bs a w (h.1 rfl) hr hx he Kn next
    | false=>exact ⟨fun _ _=>trivial,next ⟨false,_⟩ undef hp _ bs w ⟨by simp,fun _=>rfl⟩ (.refl hr hx) (h.2 rfl)⟩
   | false =>
    simp only [hmem] at h
    obtain ⟨h1,h3⟩:=h
    cases gc with
    | true =>
     obtain ⟨h1,h2⟩:=h1 rfl
     exact pEv_wp hg hr o (fun x _ hx=>oper_rel hr.gl he x hx) h1 h2 fun z w' k1 k2 k3=>next ⟨true,_⟩ z hp _ bs w' ⟨fun _=>k1,by simp⟩ (.of_step hX hx k2 k3) h3
    | false =>
     exact ⟨fun _ _=>trivial,next ⟨false,_⟩ undef hp _ bs w ⟨by simp,fun _=>rfl⟩ (.refl hr hx) h3⟩
theorem put_defers (a:Act) (d:Option Nat) (v:Value):(a.put d v).defers=a.defers:=by cases d <;> rfl
def Behind (P:Program) (g:G) (X:XT) (M0:Nat→Prop) (N:Nat) (Q:Exit→Act→World→Prop) (K:Env→List Blk→Prop) (w:World) (bs:Bs) (hp:List Blk) (df:List Deferred):Prop :=
 ∀ e' hp' M0' bs' a' w',K e' hp'→Nx P g X w M0 bs hp w' M0' bs' hp'→relEnv w' (Mof M0' bs') bs' hp' e' a'→a'.tmps.size=N→a'.defers=df→Q .normal a' w'
theorem Behind.step {N:Nat} {Q:Exit→Act→World→Prop} {K:Env→List Blk→Prop} {w':World} {M0':Nat→Prop} {bs':Bs} {hp':List Blk} {df:List Deferred} (h:Behind P g X M0 N Q K w bs hp df)
  (hst:Nx P g X w M0 bs hp w' M0' bs' hp'):Behind P g X M0' N Q K w' bs' hp' df :=
 fun e' hp'' M0'' bs'' a' w'' hk k1 k2 k3 k4=>h e' hp'' M0'' bs'' a' w'' hk (hst.trans k1) k2 k3 k4
theorem vcOps_sound (hg:g.good P) (hX:XOk P X) {N n:Nat} {r:Option Nat} {Q:Exit→Act→World→Prop} {K:Env→List Blk→Prop} (ops:Array Oper) :
  ∀ (l:List Oper) (e:Env) (hp:List Blk) (M0:Nat→Prop) (bs:Bs) (a:Act) (w:World),(∀ o∈l,∀ d,o.dst=some d→d<N)→vcOps g ops.toList l e hp K→HR w M0 bs hp→XR X w M0 bs hp→relEnv w (Mof M0 bs) bs hp e a→a.tmps.size=N →
  Behind P g X M0 N Q K w bs hp a.defers→wpListIn (FW r) n P ops Q l a w:=by
 intro l
 induction l with
 | nil=>intro e hp M0 bs a w _ h hr hx he hN hQ; exact hQ e hp M0 bs a w h (.refl hr hx) he hN rfl
 | cons o l ih =>
  intro e hp M0 bs a w hdst h hr hx he hN hQ
  refine vcOps_step hg hX ops o l e hp bs a w h hr hx he _ ?_
  intro x z hp' M0' bs' w' hx hst hv
  exact ih _ hp' M0' bs' _ w' (fun o' ho'=>hdst o' (by simp [ho'])) hv hst.hr hst.xr (relEnv_put (relEnv_step hst.st he) o.dst x z hx (fun d hd=>by rw [hN]; exact hdst o (by simp) d hd)) (by rw [put_eval]; exact hN)
   (by rw [put_defers]; exact hQ.step hst)
def valAt (g:G) (ops:List Oper) (hp:List Blk) (o:Oper) (e:Env):SL :=
 match o.guard with
 | none=>⟨true,(pEv g hp e o.type o.op).2⟩
 | some gd=>match gcond ops e (some gd) with
  | some gc=>⟨gc,(pEv g hp e o.type o.op).2⟩
  | none=>junk
def envAt (g:G) (ops:List Oper) (hp:List Blk) (e:Env):Nat→Env
 | 0=>e
 | i+1=>match ops[i]? with
  | some o=>putE o.dst (valAt g ops hp o (envAt g ops hp e i)) (envAt g ops hp e i)
  | none=>envAt g ops hp e i
def oblAt (g:G) (ops:List Oper) (hp:List Blk) (o:Oper) (e:Env):Prop :=
 match o.guard with
 | none=>okOps e o.op∧(pEv g hp e o.type o.op).1
 | some gd=>∃ gc,gcond ops e (some gd)=some gc∧(gc=true→okOps e o.op∧(pEv g hp e o.type o.op).1)
theorem isMem_false {y:Bool×List FuncId} {op:Op} (h:isMem y op=false):isMem0 op=false:=by
 unfold isMem at h
 split at h
 ·
  rfl
 ·
  rfl
 ·
  exact h
theorem yieldOf_none {e:Env} {op:Op} (h:isMem g.ye op=false):(if g.y then yieldOf g e op else none)=none:=by
 cases hy:g.y with
 | false=>simp
 | true =>
  simp only [if_true]
  unfold yieldOf
  split
  ·
   simp [isMem,hy] at h
  ·
   rfl
theorem look_ids {α:Type}:∀ {l:List (Nat×α)} {f:Nat} {c:α},look l f=some c→(l.map (·.1)).contains f=true
 | [],f,c,h=>by simp [look] at h
 | (k,x)::r,f,c,h=>by
  simp only [look] at h
  split at h
  ·
   rename_i e; subst e; simp
  ·
   have:=look_ids h
   simp only [List.map_cons,List.contains_cons,this,Bool.or_true]
theorem effOf_none {e:Env} {op:Op} (h:isMem g.ye op=false):effOf g e op=none:=by
 unfold effOf
 split
 ·
  rename_i f xs ts
  split
  ·
   rename_i c hc
   have h1:=look_ids hc
   simp only [isMem,List.contains_eq_mem,List.mem_append,decide_eq_false_iff_not,not_or,decide_eq_true_eq] at h h1
   exact absurd h1 h.1
  ·
   rfl
 ·
  rfl
theorem effOf2_none {e:Env} {op:Op} (h:isMem g.ye op=false):effOf2 g e op=none:=by
 unfold effOf2
 split
 ·
  rename_i f xs ts
  split
  ·
   rename_i c hc
   have h1:=look_ids hc
   simp only [isMem,List.contains_eq_mem,List.mem_append,decide_eq_false_iff_not,not_or,decide_eq_true_eq] at h h1
   exact absurd h1 h.2.1
  ·
   rfl
 ·
  rename_i f xs ts
  simp only [isMem,Bool.or_eq_false_iff] at h
  rw [h.2]
 ·
  rfl
theorem opVC_quiet {e:Env} {o:Oper} {K:SL→List Blk→Prop} (h:opVC g e hp o K) (hm:isMem g.ye o.op=false):okOps e o.op∧(pEv g hp e o.type o.op).1∧K ⟨true,(pEv g hp e o.type o.op).2⟩ hp:=by
 obtain ⟨h1,h2⟩:=h
 rw [isMem_false hm,yieldOf_none hm] at h2
 simp only [effOf_none hm,effOf2_none hm] at h2
 exact ⟨h1,h2⟩
theorem vc_pre {ops:List Oper} {e:Env} {K:Env→List Blk→Prop} (h:vcOps g ops ops e hp K):∀ (i:Nat),(∀ j o,j<i→ops[j]?=some o→isMem g.ye o.op=false)→i≤ops.length →
  vcOps g ops (ops.drop i) (envAt g ops hp e i) hp K∧∀ j o,j<i→ops[j]?=some o→oblAt g ops hp o (envAt g ops hp e j):=by
 intro i
 induction i with
 | zero=>intro _ _; exact ⟨by simpa [envAt] using h,fun j o hj=>by omega⟩
 | succ i ih =>
  intro hm hi
  obtain ⟨h1,h2⟩:=ih (fun j o hj=>hm j o (by omega)) (by omega)
  have hlt:i<ops.length:=by omega
  have ho:ops[i]?=some ops[i]:=List.getElem?_eq_getElem hlt
  rw [List.drop_eq_getElem_cons hlt] at h1
  have hmem:=hm i _ (by omega) ho
  simp only [vcOps] at h1
  have key:vcOps g ops (ops.drop (i+1)) (envAt g ops hp e (i+1)) hp K∧oblAt g ops hp ops[i] (envAt g ops hp e i):=by
   simp only [envAt,ho,valAt,oblAt]
   cases hgd:ops[i].guard with
   | none =>
    simp only [hgd] at h1
    obtain ⟨q1,q2,q3⟩:=opVC_quiet h1 hmem
    exact ⟨q3,q1,q2⟩
   | some gd =>
    simp only [hgd] at h1
    cases hgc:gcond ops (envAt g ops hp e i) (some gd) with
    | none=>simp [hgc] at h1
    | some gc =>
     simp only [hgc,hmem] at h1 ⊢
     exact ⟨h1.2,gc,rfl,h1.1⟩
  refine ⟨key.1,fun j o hj hjo => ?_⟩
  rcases Nat.lt_succ_iff_lt_or_eq.1 hj with hlt' | rfl
  ·
   exact h2 j o hlt' hjo
  ·
   rw [ho] at hjo; cases hjo; exact key.2
theorem getE_put (d:Option Nat) (x:SL) (e:Env) (s:Nat):getE (putE d x e) s=if d=some s then x else getE e s:=by
 cases d with
 | none=>simp [putE]
 | some k =>
  simp only [putE,getE,look]
  by_cases h:k=s
  ·
   subst h; simp
  ·
   simp [h]
theorem envAt_get (ops:List Oper) (e:Env) (s:Nat):∀ i,i≤ops.length →
  (∃ j o,j<i∧ops[j]?=some o∧o.dst=some s∧getE (envAt g ops hp e i) s=valAt g ops hp o (envAt g ops hp e j)) ∨
  ((∀ j o,j<i→ops[j]?=some o→o.dst≠some s)∧getE (envAt g ops hp e i) s=getE e s):=by
 intro i
 induction i with
 | zero=>intro _; right; exact ⟨fun j o hj=>by omega,rfl⟩
 | succ i ih =>
  intro hi
  have hlt:i<ops.length:=by omega
  have ho:ops[i]?=some ops[i]:=List.getElem?_eq_getElem hlt
  simp only [envAt,ho]
  rw [getE_put]
  by_cases hd:ops[i].dst=some s
  ·
   left
   exact ⟨i,_,by omega,ho,hd,by rw [if_pos hd]⟩
  ·
   rw [if_neg hd]
   rcases ih (by omega) with ⟨j,o,h1,h2,h3,h4⟩ | ⟨h1,h2⟩
   ·
    exact .inl ⟨j,o,by omega,h2,h3,h4⟩
   ·
    refine .inr ⟨fun j o hj hjo => ?_,h2⟩
    rcases Nat.lt_succ_iff_lt_or_eq.1 hj with hlt' | rfl
    ·
     exact h1 j o hlt' hjo
    ·
     rw [ho] at hjo; cases hjo; exact hd
theorem mem_temps {t:Nat}:∀ {l:List Operand},Operand.tmp t∈l→t∈temps l
 | .tmp u::l,h=>by
  simp only [temps,List.mem_cons] at h ⊢
  rcases h with h | h
  ·
   injection h with h; exact .inl h
  ·
   exact .inr (mem_temps h)
 | .const _::l,h=>by
  simp only [temps,List.mem_cons] at h ⊢
  rcases h with h | h
  ·
   cases h
  ·
   exact mem_temps h
 | .global _::l,h=>by
  simp only [temps,List.mem_cons] at h ⊢
  rcases h with h | h
  ·
   cases h
  ·
   exact mem_temps h
 | .func _::l,h=>by
  simp only [temps,List.mem_cons] at h ⊢
  rcases h with h | h
  ·
   cases h
  ·
   exact mem_temps h
theorem drawOk_spec {y:Bool×List FuncId} {ops:List Oper} {m:Nat} (h:drawOk y ops m=true) {i:Nat} {o:Oper} (ho:ops[i]?=some o) :
  (∀ k∈edg o,k<i)∧(i<m→isMem y o.op=false∧(∀ t∈temps o.op.operands.toList,∀ j,j<m→dstIs ops j t=true→j<i∧j∈edg o)∧(∀ gd,o.guard=some gd→gd.1<m∧gd.1∈edg o) ∧
   (∀ j,j<m→j≠i→∀ d,o.dst=some d→dstIs ops j d=false))∧(m≤i→∀ k,k<i→k∈(clo ops []).getD i []):=by
 unfold drawOk at h
 rw [List.all_eq_true] at h
 have hi:=(List.getElem?_eq_some_iff.1 ho).1
 have h1:=h i (by simpa using hi)
 rw [ho] at h1
 simp only [Bool.and_eq_true,List.all_eq_true,decide_eq_true_eq] at h1
 obtain ⟨h1,h2⟩:=h1
 refine ⟨h1,fun hlt => ?_,fun hge => ?_⟩
 ·
  rw [if_pos hlt] at h2
  simp only [Bool.and_eq_true,List.all_eq_true,Bool.not_eq_true',List.mem_range,Bool.or_eq_true,decide_eq_true_eq,beq_iff_eq] at h2
  obtain ⟨⟨⟨q1,q2⟩,q3⟩,q4⟩:=h2
  refine ⟨q1,fun t ht j hj hd => ?_,fun gd hgd => ?_,fun j hj hne d hd => ?_⟩
  ·
   rcases q2 t ht j hj with q | q
   ·
    rw [hd] at q; cases q
   ·
    exact ⟨q.1,by simpa using q.2⟩
  ·
   rw [hgd] at q3
   obtain ⟨x,y⟩:=gd
   simp only [Bool.and_eq_true,decide_eq_true_eq] at q3
   exact ⟨q3.1,by simpa using q3.2⟩
  ·
   have:=q4 j hj
   rw [hd] at this
   simpa [hne] using this
 ·
  rw [if_neg (by omega)] at h2
  simp only [List.all_eq_true,List.mem_range] at h2
  exact fun k hk=>by simpa using h2 k hk
def Closed (ops:List Oper) (p:Nat→Prop):Prop:=∀ i o,ops[i]?=some o→p i→∀ k∈edg o,p k
theorem clo_acc:∀ (l:List Oper) (acc:List (List Nat)) (i:Nat),i<acc.length→(clo l acc).getD i []=acc.getD i []
 | [],acc,i,_=>rfl
 | o::l,acc,i,h=>by
  simp only [clo]
  rw [clo_acc l _ i (by simp; omega)]
  simp only [List.getD_eq_getElem?_getD]
  rw [List.getElem?_append_left h]
theorem clo_spec {ops:List Oper} {p:Nat→Prop} (hp':Closed ops p):∀ (l:List Oper) (acc:List (List Nat)),(∀ j,l[j]?=ops[acc.length+j]?) →
  (∀ i o,i<acc.length→ops[i]?=some o→(∀ k∈edg o,p k)→∀ k∈acc.getD i [],p k)→(∀ i o,ops[i]?=some o→∀ k∈edg o,k<i) →
  ∀ i o,i<acc.length+l.length→ops[i]?=some o→(∀ k∈edg o,p k)→∀ k∈(clo l acc).getD i [],p k:=by
 intro l
 induction l with
 | nil=>intro acc _ ha _ i o hi ho hk k hkm; exact ha i o (by simpa using hi) ho hk k hkm
 | cons o l ih =>
  intro acc hl ha hlt i o' hi ho' hk k hkm
  simp only [clo] at hkm
  refine ih (acc++[edg o++(edg o).flatMap fun j=>acc.getD j []]) (fun j => ?_) ?_ hlt i o' (by simp at hi ⊢; omega) ho' hk k hkm
  ·
   have:=hl (j+1)
   simp only [List.getElem?_cons_succ] at this
   rw [this,List.length_append]; congr 1; simp; omega
  ·
   intro i o' hi ho' hk k hkm
   simp only [List.getD_eq_getElem?_getD] at hkm
   rcases Nat.lt_or_ge i acc.length with h | h
   ·
    rw [List.getElem?_append_left h] at hkm
    exact ha i o' h ho' hk k (by rw [List.getD_eq_getElem?_getD]; exact hkm)
   ·
    have hie:i=acc.length:=by simp at hi; omega
    subst hie
    simp at hkm
    have h0:=hl 0
    simp at h0
    rw [← h0] at ho'
    cases ho'
    rcases hkm with hkm | ⟨j,hj,hkm⟩
    ·
     exact hk k hkm
    ·
     have hjp:=hk j hj
     have hjlt:=hlt acc.length o (by rw [← h0]) j hj
     obtain ⟨oj,hoj⟩:∃ oj,ops[j]?=some oj:=⟨_,List.getElem?_eq_getElem (by have:=(List.getElem?_eq_some_iff.1 h0.symm).1; omega)⟩
     exact ha j oj hjlt hoj (hp' j oj hoj hjp) k (by rw [List.getD_eq_getElem?_getD]; exact hkm)
theorem filter_le {α:Type} (p q:α→Bool) (h:∀ x,q x=true→p x=true):∀ (l:List α),(l.filter q).length≤(l.filter p).length
 | []=>Nat.le_refl _
 | x::l=>by
  have ih:=filter_le p q h l
  simp only [List.filter_cons]
  cases hq:q x with
  | true=>rw [h x hq]; simpa using ih
  | false=>cases p x <;> simp <;> omega
theorem filter_lt {α:Type} (p q:α→Bool) (h:∀ x,q x=true→p x=true) (i:α) (hp1:p i=true) (hq1:q i=false):∀ (l:List α),i∈l→(l.filter q).length<(l.filter p).length
 | [],hi=>by cases hi
 | x::l,hi=>by
  simp only [List.filter_cons]
  by_cases e:i=x
  ·
   subst e
   rw [hp1,hq1]
   have:=filter_le p q h l
   simp; omega
  ·
   have hi':i∈l:=by cases hi with
    | head=>exact absurd rfl e
    | tail _ hm=>exact hm
   have ih:=filter_lt p q h i hp1 hq1 l hi'
   cases hq:q x with
   | true=>rw [h x hq]; simpa using ih
   | false=>cases p x <;> simp <;> omega
theorem getD_tf {listed:Array Bool} {j:Nat} (h:j<listed.size):listed.getD j true=listed.getD j false:=by
 simp [Array.getD_eq_getD_getElem?,h]
theorem set_get (listed:Array Bool) (i j:Nat) (h:i<listed.size):(listed.setIfInBounds i true).getD j true=(if i=j then true else listed.getD j true):=by
 by_cases e:i=j
 ·
  subst e; simp [Array.getD_eq_getD_getElem?,h]
 ·
  simp only [Array.getD_eq_getD_getElem?,if_neg e]
  rw [Array.getElem?_setIfInBounds_ne e]
theorem phaseB (hg:g.good P) (hX:XOk P X) {N n:Nat} {r:Option Nat} {Q:Exit→Act→World→Prop} {K:Env→List Blk→Prop} (ops:Array Oper) (hdst:∀ o∈ops.toList,∀ d,o.dst=some d→d<N)
  (hlt:∀ i o,ops.toList[i]?=some o→∀ k∈edg o,k<i) :
  ∀ (fuel i:Nat) (listed:Array Bool) (e:Env) (hp:List Blk) (M0:Nat→Prop) (bs:Bs) (a:Act) (w:World),listed.size=ops.size→(∀ j,j<ops.size→(listed.getD j true=true↔j<i))→i≤ops.size→ops.size - i≤fuel →
  (∀ j,i≤j→j<ops.size→∀ k,k<j→k∈(clo ops.toList []).getD j []) →
  vcOps g ops.toList (ops.toList.drop i) e hp K→HR w M0 bs hp→XR X w M0 bs hp→relEnv w (Mof M0 bs) bs hp e a→a.tmps.size=N→Behind P g X M0 N Q K w bs hp a.defers→wpAnyIn (FW r) n P .any ops Q fuel listed a w:=by
 intro fuel
 induction fuel with
 | zero =>
  intro i listed e hp M0 bs a w hsz hl hi hf _ hv hr hx he hN hQ
  have hie:i=ops.size:=by omega
  subst hie
  refine ⟨?_,?_⟩
  ·
   cases hr':Region.ready .any ops listed with
   | nil=>rfl
   | cons j js =>
    have:j∈Region.ready .any ops listed:=by rw [hr']; simp
    obtain ⟨h1,o,ho,_⟩:=mem_ready.1 this
    have hj:=(Array.getElem?_eq_some_iff.1 ho).1
    rw [(hl j hj).2 hj] at h1; cases h1
  ·
   rw [List.drop_of_length_le (by simp)] at hv
   exact hQ e hp M0 bs a w hv (.refl hr hx) he hN rfl
 | succ fuel ih =>
  intro i listed e hp M0 bs a w hsz hl hi hf hforce hv hr hx he hN hQ
  have hready:∀ j∈Region.ready .any ops listed,j=i∧i<ops.size:=by
   intro j hj
   obtain ⟨h1,o,ho,h2⟩:=mem_ready.1 hj
   have hjs:=(Array.getElem?_eq_some_iff.1 ho).1
   have hji:¬ j<i:=fun h=>by rw [(hl j hjs).2 h] at h1; cases h1
   refine ⟨?_,by omega⟩
   rcases Nat.lt_or_ge i j with hij | hij
   ·
    exfalso
    have hcl:Closed ops.toList (fun k=>listed.getD k true=true∧k<ops.size):=by
     intro k ok hok hk q hq
     have hk2:=(List.getElem?_eq_some_iff.1 hok).1
     simp only [Array.length_toList] at hk2
     have:=hlt k ok hok q hq
     have hki:=(hl k hk2).1 hk.1
     exact ⟨(hl q (by omega)).2 (by omega),by omega⟩
    have:=clo_spec hcl ops.toList [] (by simp) (fun i o h=>by simp at h) hlt j o (by simpa using hjs) (by simpa using ho) (fun q hq=>by
     simp only [edg,List.mem_map,List.mem_filter] at hq
     obtain ⟨ed,⟨hed,hb⟩,rfl⟩:=hq
     have hqlt:=hlt j o (by simpa using ho) ed.on (by simp only [edg,List.mem_map,List.mem_filter]; exact ⟨ed,⟨hed,hb⟩,rfl⟩)
     have:=h2 ed (by simpa using hed) hb
     exact ⟨by rw [getD_tf (by omega)]; exact this,by omega⟩) i (hforce j (by omega) hjs i hij)
    exact absurd ((hl i (by omega)).1 this.1) (by omega)
   ·
    omega
  refine ⟨fun hnil => ?_,fun j hj => ?_⟩
  ·
   rcases Nat.lt_or_ge i ops.size with hilt | hige
   ·
    exfalso
    have ho:ops[i]?=some ops[i]:=Array.getElem?_eq_getElem hilt
    have:i∈Region.ready .any ops listed:=mem_ready.2 ⟨by
     cases hli:listed.getD i true with
     | false=>rfl
     | true=>exact absurd ((hl i hilt).1 hli) (by omega),_,ho,fun ed hed hb=>by
     have hk:=hlt i _ (by rw [Array.getElem?_toList]; exact ho) ed.on (by simp only [edg,List.mem_map,List.mem_filter]; exact ⟨ed,⟨by simpa using hed,hb⟩,rfl⟩)
     rw [← getD_tf (by omega)]
     exact (hl ed.on (by omega)).2 hk⟩
    rw [hnil] at this; cases this
   ·
    have hie:i=ops.size:=by omega
    subst hie
    rw [List.drop_of_length_le (by simp)] at hv
    exact hQ e hp M0 bs a w hv (.refl hr hx) he hN rfl
  ·
   obtain ⟨rfl,hjs⟩:=hready j hj
   have ho:ops[j]?=some ops[j]:=Array.getElem?_eq_getElem hjs
   rw [List.drop_eq_getElem_cons (by simpa using hjs)] at hv
   unfold wpOpIn
   rw [ho]
   simp only [Array.getElem_toList] at hv
   refine vcOps_step hg hX ops ops[j] _ e hp bs a w hv hr hx he _ ?_
   intro x z hp' M0' bs' w' hx hst hv'
   refine ih (j+1) _ _ hp' M0' bs' _ w' (by simp [hsz]) (fun k hk => ?_) hjs (by omega) (fun k hk hk2=>hforce k (by omega) hk2) hv' hst.hr hst.xr
    (relEnv_put (relEnv_step hst.st he) _ x z hx (fun d hd=>by rw [hN]; exact hdst ops[j] (by simp) d hd)) (by rw [put_eval]; exact hN) (by rw [put_defers]; exact hQ.step hst)
   rw [set_get _ _ _ (by omega)]
   by_cases e:j=k
   ·
    subst e; simp
   ·
    rw [if_neg e,hl k hk]; omega
structure InvA (g:G) (X:XT) (M0:Nat→Prop) (ops:List Oper) (m:Nat) (e:Env) (bs:Bs) (hp:List Blk) (listed:Array Bool) (a:Act) (w:World):Prop where
 size:listed.size=ops.length
 pre:∀ i,m≤i→i<ops.length→listed.getD i true=false
 closed:∀ i o,ops[i]?=some o→listed.getD i true=true→∀ k∈edg o,listed.getD k true=true
 hr:HR w M0 bs hp
 xr:XR X w M0 bs hp
 done:∀ j o,j<m→ops[j]?=some o→listed.getD j true=true→∀ d,o.dst=some d→relSL w (Mof M0 bs) bs hp (valAt g ops hp o (envAt g ops hp e j)) (a.tmps.getD d undef)
 old:∀ s,(∀ j,j<m→dstIs ops j s=false)→relSL w (Mof M0 bs) bs hp (getE e s) (a.tmps.getD s undef)
theorem dstIs_of {ops:List Oper} {j:Nat} {o:Oper} {s:Nat} (ho:ops[j]?=some o) (hd:o.dst=some s):dstIs ops j s=true:=by simp [dstIs,ho,hd]
theorem dstIs_not {ops:List Oper} {j:Nat} {s:Nat} (h:dstIs ops j s=true):∃ o,ops[j]?=some o∧o.dst=some s:=by
 unfold dstIs at h
 cases ho:ops[j]? with
 | none=>simp [ho] at h
 | some o=>simp [ho] at h; exact ⟨o,rfl,h⟩
theorem least_not {p:Nat→Bool} {m:Nat} (h:∃ i,i<m∧p i=false):∃ i,i<m∧p i=false∧∀ k,k<i→p k=true:=by
 induction m with
 | zero=>obtain ⟨i,h1,_⟩:=h; omega
 | succ m ih =>
  by_cases hm:∃ i,i<m∧p i=false
  ·
   obtain ⟨i,h1,h2,h3⟩:=ih hm
   exact ⟨i,by omega,h2,h3⟩
  ·
   obtain ⟨i,h1,h2⟩:=h
   have hi:i=m:=by
    rcases Nat.lt_or_ge i m with h | h
    ·
     exact absurd ⟨i,h,h2⟩ hm
    ·
     omega
   subst hi
   refine ⟨i,h1,h2,fun k hk => ?_⟩
   cases hpk:p k with
   | true=>rfl
   | false=>exact absurd ⟨k,hk,hpk⟩ hm
theorem getD_put {a:Act} {d:Option Nat} {z:Value} (s:Nat) (h:d≠some s):(a.put d z).tmps.getD s undef=a.tmps.getD s undef:=by
 cases d with
 | none=>rfl
 | some k =>
  have hk:k≠s:=fun e=>h (by rw [e])
  simp only [Act.put,Array.getD_eq_getD_getElem?]
  rw [Array.getElem?_setIfInBounds_ne hk]
theorem getD_put_same {a:Act} {k:Nat} {z:Value} (h:k<a.tmps.size):(a.put (some k) z).tmps.getD k undef=z:=by
 simp [Act.put,Array.getD_eq_getD_getElem?,h]
theorem phaseA (hg:g.good P) (hX:XOk P X) {N n:Nat} {r:Option Nat} {Q:Exit→Act→World→Prop} {K:Env→List Blk→Prop} (ops:Array Oper) (hdst:∀ o∈ops.toList,∀ d,o.dst=some d→d<N) (m:Nat) (hm:m≤ops.size)
  (hok:drawOk g.ye ops.toList m=true) (e:Env) (hp:List Blk) (bs:Bs) (hv:vcOps g ops.toList ops.toList e hp K) :
  ∀ (fuel:Nat) (listed:Array Bool) (a:Act) (w:World),InvA g X M0 ops.toList m e bs hp listed a w→a.tmps.size=N→Behind P g X M0 N Q K w bs hp a.defers →
  ((List.range m).filter (fun j => !listed.getD j true)).length+(ops.size - m)≤fuel→wpAnyIn (FW r) n P .any ops Q fuel listed a w:=by
 have hlt:∀ i o,ops.toList[i]?=some o→∀ k∈edg o,k<i:=fun i o ho=>(drawOk_spec hok ho).1
 obtain ⟨hvm,hobl⟩:=vc_pre hv m (fun j o hj ho=>((drawOk_spec hok ho).2.1 hj).1) (by simpa using hm)
 have hsizes:ops.toList.length=ops.size:=by simp
 intro fuel
 induction fuel with
 | zero =>
  intro listed a w hI hN hQ hf
  have hall:∀ i,i<m→listed.getD i true=true:=by
   intro i hi
   cases hli:listed.getD i true with
   | true=>rfl
   | false =>
    have:i∈(List.range m).filter (fun j => !listed.getD j true):=List.mem_filter.2 ⟨List.mem_range.2 hi,by rw [hli]; rfl⟩
    have:=List.length_pos_of_mem this
    omega
  refine phaseB hg hX ops hdst hlt 0 m listed (envAt g ops.toList hp e m) hp M0 bs a w (by rw [hI.size,hsizes]) (fun j hj=>⟨fun h => ?_,fun h=>hall j h⟩) hm (by omega)
   (fun j hj hj2 k hk=>(drawOk_spec hok (List.getElem?_eq_getElem (by simpa using hj2))).2.2 hj k hk) hvm hI.hr hI.xr ?_ hN hQ
  ·
   rcases Nat.lt_or_ge j m with h' | h'
   ·
    exact h'
   ·
    rw [hI.pre j h' (by omega)] at h; cases h
  ·
   intro s x hx
   have hgx:getE (envAt g ops.toList hp e m) s=x:=by simp [getE,hx]
   rw [← hgx]
   rcases envAt_get (g:=g) (hp:=hp) ops.toList e s m (by simpa using hm) with ⟨j,o,h1,h2,h3,h4⟩ | ⟨h1,h2⟩
   ·
    rw [h4]; exact hI.done j o h1 h2 (hall j h1) s h3
   ·
    rw [h2]; refine hI.old s fun j hj => ?_
    cases hds:dstIs ops.toList j s with
    | false=>rfl
    | true=>obtain ⟨o,ho,hd⟩:=dstIs_not hds; exact absurd hd (h1 j o hj ho)
 | succ fuel ih =>
  intro listed a w hI hN hQ hf
  by_cases hall:∀ i,i<m→listed.getD i true=true
  ·
   refine phaseB hg hX ops hdst hlt (fuel+1) m listed (envAt g ops.toList hp e m) hp M0 bs a w (by rw [hI.size,hsizes]) (fun j hj=>⟨fun h => ?_,fun h=>hall j h⟩) hm (by omega)
    (fun j hj hj2 k hk=>(drawOk_spec hok (List.getElem?_eq_getElem (by simpa using hj2))).2.2 hj k hk) hvm hI.hr hI.xr ?_ hN hQ
   ·
    rcases Nat.lt_or_ge j m with h' | h'
    ·
     exact h'
    ·
     rw [hI.pre j h' (by omega)] at h; cases h
   ·
    intro s x hx
    have hgx:getE (envAt g ops.toList hp e m) s=x:=by simp [getE,hx]
    rw [← hgx]
    rcases envAt_get (g:=g) (hp:=hp) ops.toList e s m (by simpa using hm) with ⟨j,o,h1,h2,h3,h4⟩ | ⟨h1,h2⟩
    ·
     rw [h4]; exact hI.done j o h1 h2 (hall j h1) s h3
    ·
     rw [h2]; refine hI.old s fun j hj => ?_
     cases hds:dstIs ops.toList j s with
     | false=>rfl
     | true=>obtain ⟨o,ho,hd⟩:=dstIs_not hds; exact absurd hd (h1 j o hj ho)
  ·
   have hex:∃ i,i<m∧listed.getD i true=false:=by
    apply Classical.byContradiction
    intro hne
    refine hall fun i hi => ?_
    cases hli:listed.getD i true with
    | true=>rfl
    | false=>exact absurd ⟨i,hi,hli⟩ hne
   obtain ⟨i0,hi0,hi1,hi2⟩:=least_not (p:=fun i=>listed.getD i true) hex
   have hls:listed.size=ops.size:=by rw [hI.size,hsizes]
   refine ⟨fun hnil => ?_,fun j hj => ?_⟩
   ·
    exfalso
    have hio:ops[i0]?=some ops[i0]:=Array.getElem?_eq_getElem (by omega)
    have:i0∈Region.ready .any ops listed:=mem_ready.2 ⟨hi1,_,hio,fun ed hed hb=>by
     have hk:=hlt i0 _ (by rw [Array.getElem?_toList]; exact hio) ed.on (by simp only [edg,List.mem_map,List.mem_filter]; exact ⟨ed,⟨by simpa using hed,hb⟩,rfl⟩)
     rw [← getD_tf (by omega)]
     exact hi2 ed.on hk⟩
    rw [hnil] at this; cases this
   ·
    obtain ⟨h1,o,ho,h2⟩:=mem_ready.1 hj
    have hjs:=(Array.getElem?_eq_some_iff.1 ho).1
    have hol:ops.toList[j]?=some o:=by rw [Array.getElem?_toList]; exact ho
    obtain ⟨d1,d2,d3⟩:=drawOk_spec hok hol
    have hedg:∀ k∈edg o,listed.getD k true=true:=by
     intro k hk
     have hk0:=hk
     simp only [edg,List.mem_map,List.mem_filter] at hk
     obtain ⟨ed,⟨hed,hb⟩,rfl⟩:=hk
     have:=d1 ed.on hk0
     rw [getD_tf (by omega)]
     exact h2 ed (by simpa using hed) hb
    have hjm:j<m:=by
     rcases Nat.lt_or_ge j m with h | h
     ·
      exact h
     ·
      exfalso
      have hcl:Closed ops.toList (fun k=>listed.getD k true=true):=fun k ok hok' hk q hq=>hI.closed k ok hok' hk q hq
      have:=clo_spec hcl ops.toList [] (by simp) (fun i o h=>by simp at h) hlt j o (by simpa using hjs) hol hedg i0 (d3 h i0 (by omega))
      rw [hi1] at this; cases this
    obtain ⟨q1,q2,q3,q4⟩:=d2 hjm
    have hob:=hobl j o hjm hol
    have hslot:∀ t,(∀ j',j'<m→dstIs ops.toList j' t=true→j'<j∧j'∈edg o)→relSL w (Mof M0 bs) bs hp (getE (envAt g ops.toList hp e j) t) (a.tmps.getD t undef):=by
     intro t ht
     rcases envAt_get (g:=g) (hp:=hp) ops.toList e t j (by simp; omega) with ⟨j',o',k1,k2,k3,k4⟩ | ⟨k1,k2⟩
     ·
      rw [k4]
      exact hI.done j' o' (by omega) k2 (hedg j' (ht j' (by omega) (dstIs_of k2 k3)).2) t k3
     ·
      rw [k2]
      refine hI.old t fun j' hj' => ?_
      cases hds:dstIs ops.toList j' t with
      | false=>rfl
      | true =>
       obtain ⟨o',ho',hd'⟩:=dstIs_not hds
       exact absurd hd' (k1 j' o' (ht j' hj' hds).1 ho')
    have hops:∀ x∈o.op.operands.toList,(oper (envAt g ops.toList hp e j) x).ok=true→relRV w (Mof M0 bs) bs hp (opRV (envAt g ops.toList hp e j) x) (a.eval x):=by
     intro x hx hxo
     cases x with
     | tmp t=>exact (hslot t (fun j' hj' hds=>q2 t (mem_temps hx) j' hj' hds)).1 hxo
     | const v=>cases v <;> exact rfl
     | func f=>exact ⟨[],rfl,.nil⟩
     | global n=>exact global_rel hI.hr.gl _ a n
    have next:∀ (z:Value) (w':World),relSL w' (Mof M0 bs) bs hp (valAt g ops.toList hp o (envAt g ops.toList hp e j)) z→HR w' M0 bs hp→Step false w (Mof M0 bs) bs hp w' (Mof M0 bs) bs hp →
      wpAnyIn (FW r) n P .any ops Q fuel (listed.setIfInBounds j true) (a.put o.dst z) w':=by
     intro z w' hz hr' hst
     refine ih _ _ w' ⟨by simp [hI.size],?_,?_,hr',hI.xr.step hX hst hr'.lt,?_,?_⟩ (by rw [put_eval]; exact hN) (by rw [put_defers]; exact hQ.step (.of_step hX hI.xr hr' hst)) ?_
     ·
      intro i hmi hi
      rw [set_get _ _ _ (by omega),if_neg (by omega)]
      exact hI.pre i hmi hi
     ·
      intro i oi hoi hli k hk
      rw [set_get _ _ _ (by omega)] at hli ⊢
      by_cases e1:j=k
      ·
       rw [if_pos e1]
      ·
       rw [if_neg e1]
       by_cases e2:j=i
       ·
        subst e2; rw [hol] at hoi; cases hoi; exact hedg k hk
       ·
        rw [if_neg e2] at hli; exact hI.closed i oi hoi hli k hk
     ·
      intro j' o' hj' ho' hl' d hd
      by_cases e1:j=j'
      ·
       subst e1
       rw [hol] at ho'; cases ho'
       rw [hd,getD_put_same (by rw [hN]; exact hdst o (List.mem_of_getElem? hol) d hd)]
       exact hz
      ·
       have hne:o.dst≠some d:=fun h=>by
        have:=q4 j' hj' (fun e=>e1 e.symm) d h
        rw [dstIs_of ho' hd] at this; cases this
       rw [getD_put d hne]
       rw [set_get _ _ _ (by omega),if_neg e1] at hl'
       exact relSL_step hst _ _ (hI.done j' o' hj' ho' hl' d hd)
     ·
      intro s hs
      have hne:o.dst≠some s:=fun h=>by
       have:=hs j hjm
       rw [dstIs_of hol h] at this; cases this
      rw [getD_put s hne]
      exact relSL_step hst _ _ (hI.old s hs)
     ·
      have:=filter_lt (fun k => !listed.getD k true) (fun k => !(listed.setIfInBounds j true).getD k true) (fun x hx=>by
       simp only [set_get _ _ _ (show j<listed.size by omega)] at hx
       by_cases e1:j=x
       ·
        rw [if_pos e1] at hx; simp at hx
       ·
        rw [if_neg e1] at hx; exact hx) j (by simp [h1]) (by simp [set_get _ _ _ (show j<listed.size by omega)]) (List.range m) (by simpa using hjm)
      omega
    unfold wpOpIn
    rw [ho]
    simp only
    unfold oblAt at hob
    unfold valAt at next
    cases hgd:o.guard with
    | none =>
     rw [if_pos (by simp [Region.wanted,hgd])]
     simp only [hgd] at hob next
     exact pEv_wp hg hI.hr o hops hob.1 hob.2 fun z w' k1 k2 k3=>next z w' ⟨fun _=>k1,by simp⟩ k2 k3
    | some gd =>
     simp only [hgd] at hob next
     obtain ⟨gc,hgc,hob⟩:=hob
     simp only [hgc] at next
     obtain ⟨q5,q6⟩:=q3 gd hgd
     rw [guard_rel (ops:=ops) hgc o hgd (fun d hd=>hslot d (fun j' hj' hds=>by
      have hgo:∃ og,ops.toList[gd.1]?=some og∧og.dst=some d:=by
       rw [Array.getElem?_toList]
       cases hog:ops[gd.1]? with
       | none=>simp [hog] at hd
       | some og=>simp [hog] at hd; exact ⟨og,rfl,hd⟩
      obtain ⟨og,hog,hogd⟩:=hgo
      have hjg:j'=gd.1:=by
       apply Classical.byContradiction
       intro hne
       have:=((drawOk_spec hok hog).2.1 q5).2.2.2 j' hj' hne d hogd
       rw [hds] at this; cases this
      subst hjg
      exact ⟨d1 _ q6,q6⟩))]
     cases gc with
     | true =>
      obtain ⟨k1,k2⟩:=hob rfl
      exact pEv_wp hg hI.hr o hops k1 k2 fun z w' k1 k2 k3=>next z w' ⟨fun _=>k1,by simp⟩ k2 k3
     | false=>exact ⟨fun _ _=>trivial,next undef w ⟨by simp,fun _=>rfl⟩ hI.hr (Step.refl _ _ _ _)⟩
theorem region_sound (hg:g.good P) (hX:XOk P X) (hm:P.follows .mixedOrders=true) {N n:Nat} {r:Option Nat} {Q:Exit→Act→World→Prop} {K:Env→List Blk→Prop} (id:Nat) (ops:Array Oper) (draw:Bool) (hok:regionOk g.ye N ops.toList draw=true)
  (e:Env) (hp:List Blk) (bs:Bs) (a:Act) (w:World) (hv:vcOps g ops.toList ops.toList e hp K) (hr:HR w M0 bs hp) (hx:XR X w M0 bs hp) (he:relEnv w (Mof M0 bs) bs hp e a) (hN:a.tmps.size=N) (hQ:Behind P g X M0 N Q K w bs hp a.defers) :
  (Code.region id ops draw).wpIn (FW r) n P Q a w:=by
 unfold regionOk at hok
 simp only [Bool.and_eq_true,List.all_eq_true] at hok
 obtain ⟨h1,h2⟩:=hok
 have hdst:∀ o∈ops.toList,∀ d,o.dst=some d→d<N:=fun o ho d hd=>by have:=h1 o ho; rw [hd] at this; simpa using this
 cases draw with
 | false=>exact wpIn_region_list (vcOps_sound hg hX ops ops.toList e hp M0 bs a w hdst hv hr hx he hN hQ)
 | true =>
  simp only [Bool.not_true,Bool.false_or,List.any_eq_true,List.mem_range] at h2
  obtain ⟨m,hm1,hm2⟩:=h2
  refine wpIn_region_any hm ?_
  obtain ⟨k1,k2⟩:=hr.keep_drew
  refine phaseA hg hX ops hdst m (by simp at hm1; omega) hm2 e hp bs hv _ _ a _ ⟨by simp,?_,?_,k1,hx.step hX k2 k1.lt,?_,?_⟩ hN (hQ.step (.of_step hX hx k1 k2)) ?_
  ·
   intro i _ hi; simp at hi; simp [Array.getD_eq_getD_getElem?,hi]
  ·
   intro i o ho hl
   have hi:=(List.getElem?_eq_some_iff.1 ho).1
   simp at hi
   simp [Array.getD_eq_getD_getElem?,hi] at hl
  ·
   intro j o hj ho hl
   have hi:=(List.getElem?_eq_some_iff.1 ho).1
   simp at hi
   simp [Array.getD_eq_getD_getElem?,hi] at hl
  ·
   intro s _; exact relSL_step k2 _ _ (getE_rel he s)
  ·
   have:=List.length_filter_le (fun j => !(Array.replicate ops.size false).getD j true) (List.range m)
   simp at this hm1 ⊢
   omega
def readyL (ops:List Oper) (done:List Nat):List Nat :=
 (List.range ops.length).filter fun j => !done.contains j&&match ops[j]? with
  | some o=>(edg o).all fun k=>done.contains k
  | none=>false
def allP:List Nat→(Nat→Prop)→Prop
 | [],_=>True
 | j::r,f=>f j∧allP r f
theorem allP_mem {f:Nat→Prop}:∀ {l:List Nat},allP l f→∀ j∈l,f j
 | [],_,j,h=>by cases h
 | k::r,h,j,hj=>by
  cases hj with
  | head=>exact h.1
  | tail _ hj=>exact allP_mem h.2 j hj
def vcAll (g:G) (ops:List Oper):Nat→List Nat→Env→List Blk→(Env→List Blk→Prop)→Prop
 | 0,done,e,hp,K=>(readyL ops done).isEmpty=true∧K e hp
 | f+1,done,e,hp,K=>((readyL ops done).isEmpty=true→K e hp)∧allP (readyL ops done) fun j=>match ops[j]? with
  | some o=>vcOps g ops [o] e hp fun e' hp'=>vcAll g ops f (j::done) e' hp' K
  | none=>False
theorem ready_eq {ops:Array Oper} {listed:Array Bool} {done:List Nat} (hsz:listed.size=ops.size) (hd:∀ j,listed.getD j false=done.contains j) (j:Nat):j∈Region.ready .any ops listed↔j∈readyL ops.toList done:=by
 rw [mem_ready,readyL,List.mem_filter,List.mem_range]
 constructor
 ·
  rintro ⟨h1,o,ho,h2⟩
  have hj:=(Array.getElem?_eq_some_iff.1 ho).1
  refine ⟨by simpa using hj,?_⟩
  rw [getD_tf (by omega),hd] at h1
  rw [Array.getElem?_toList,ho]
  simp only [Bool.and_eq_true,Bool.not_eq_true',List.all_eq_true]
  refine ⟨h1,fun k hk => ?_⟩
  simp only [edg,List.mem_map,List.mem_filter] at hk
  obtain ⟨ed,⟨hed,hb⟩,rfl⟩:=hk
  rw [← hd]; exact h2 ed (by simpa using hed) hb
 ·
  rintro ⟨h1,h2⟩
  have hj:j<ops.size:=by simpa using h1
  have ho:ops[j]?=some ops[j]:=Array.getElem?_eq_getElem hj
  rw [Array.getElem?_toList,ho] at h2
  simp only [Bool.and_eq_true,Bool.not_eq_true',List.all_eq_true] at h2
  refine ⟨by rw [getD_tf (by omega),hd]; exact h2.1,_,ho,fun ed hed hb => ?_⟩
  rw [hd]
  exact h2.2 ed.on (by simp only [edg,List.mem_map,List.mem_filter]; exact ⟨ed,⟨by simpa using hed,hb⟩,rfl⟩)
theorem vcAll_sound (hg:g.good P) (hX:XOk P X) {N n:Nat} {r:Option Nat} {Q:Exit→Act→World→Prop} {K:Env→List Blk→Prop} (ops:Array Oper) (hdst:∀ o∈ops.toList,∀ d,o.dst=some d→d<N) :
  ∀ (fuel:Nat) (done:List Nat) (listed:Array Bool) (e:Env) (hp:List Blk) (M0:Nat→Prop) (bs:Bs) (a:Act) (w:World),listed.size=ops.size→(∀ j,listed.getD j false=done.contains j)→vcAll g ops.toList fuel done e hp K →
  HR w M0 bs hp→XR X w M0 bs hp→relEnv w (Mof M0 bs) bs hp e a→a.tmps.size=N→Behind P g X M0 N Q K w bs hp a.defers→wpAnyIn (FW r) n P .any ops Q fuel listed a w:=by
 intro fuel
 induction fuel with
 | zero =>
  intro done listed e hp M0 bs a w hsz hd hv hr hx he hN hQ
  refine ⟨?_,hQ e hp M0 bs a w hv.2 (.refl hr hx) he hN rfl⟩
  cases hr':Region.ready .any ops listed with
  | nil=>rfl
  | cons j js =>
   have:j∈readyL ops.toList done:=(ready_eq hsz hd j).1 (by rw [hr']; simp)
   rw [List.isEmpty_iff.1 hv.1] at this; cases this
 | succ fuel ih =>
  intro done listed e hp M0 bs a w hsz hd hv hr hx he hN hQ
  obtain ⟨hv1,hv2⟩:=hv
  refine ⟨fun hnil => ?_,fun j hj => ?_⟩
  ·
   refine hQ e hp M0 bs a w (hv1 ?_) (.refl hr hx) he hN rfl
   cases hr':readyL ops.toList done with
   | nil=>rfl
   | cons j js =>
    have:j∈Region.ready .any ops listed:=(ready_eq hsz hd j).2 (by rw [hr']; simp)
    rw [hnil] at this; cases this
  ·
   have hjr:=(ready_eq hsz hd j).1 hj
   have hvj:=allP_mem hv2 j hjr
   obtain ⟨_,o,ho,_⟩:=mem_ready.1 hj
   have hjs:=(Array.getElem?_eq_some_iff.1 ho).1
   rw [Array.getElem?_toList,ho] at hvj
   simp only at hvj
   unfold wpOpIn
   rw [ho]
   simp only
   have hmem:o∈ops.toList:=List.mem_of_getElem? (by rw [Array.getElem?_toList]; exact ho)
   refine vcOps_step hg hX ops o [] e hp bs a w hvj hr hx he _ ?_
   intro x z hp' M0' bs' w' hx' hst hv'
   refine ih (j::done) _ _ hp' M0' bs' _ w' (by simp [hsz]) (fun k => ?_) hv' hst.hr hst.xr (relEnv_put (relEnv_step hst.st he) _ x z hx' (fun d hd=>by rw [hN]; exact hdst o hmem d hd)) (by rw [put_eval]; exact hN) (by rw [put_defers]; exact hQ.step hst)
   simp only [Array.getD_eq_getD_getElem?,List.contains_cons]
   by_cases e1:j=k
   ·
    subst e1; simp [hsz,hjs]
   ·
    rw [Array.getElem?_setIfInBounds_ne e1,← Array.getD_eq_getD_getElem?,hd]
    have:(k==j)=false:=by simp; exact fun h=>e1 h.symm
    rw [this]; rfl
def dstOk (N:Nat) (ops:List Oper):Bool:=ops.all (fun o=>match o.dst with | some d=>d<N | none=>true)
theorem region_all (hg:g.good P) (hX:XOk P X) (hm:P.follows .mixedOrders=true) {N n:Nat} {r:Option Nat} {Q:Exit→Act→World→Prop} {K:Env→List Blk→Prop} (id:Nat) (ops:Array Oper) (hok:dstOk N ops.toList=true)
  (e:Env) (hp:List Blk) (bs:Bs) (a:Act) (w:World) (hv:vcAll g ops.toList ops.toList.length [] e hp K) (hr:HR w M0 bs hp) (hx:XR X w M0 bs hp) (he:relEnv w (Mof M0 bs) bs hp e a) (hN:a.tmps.size=N) (hQ:Behind P g X M0 N Q K w bs hp a.defers) :
  (Code.region id ops true).wpIn (FW r) n P Q a w:=by
 have hdst:∀ o∈ops.toList,∀ d,o.dst=some d→d<N:=by
  unfold dstOk at hok
  rw [List.all_eq_true] at hok
  intro o ho d hd
  have:=hok o ho; rw [hd] at this; simpa using this
 refine wpIn_region_any hm ?_
 obtain ⟨k1,k2⟩:=hr.keep_drew
 have hn:Nx P g X w M0 bs hp { w with drawn:=w.drawn+1 } M0 bs hp:=.of_step hX hx k1 k2
 rw [show ops.size=ops.toList.length by simp]
 refine vcAll_sound hg hX ops hdst _ [] _ e hp M0 bs a _ (by simp) (fun j => ?_) hv hn.hr hn.xr (relEnv_step k2 he) hN (hQ.step hn)
 simp only [Array.getD_eq_getD_getElem?]
 cases h:(Array.replicate ops.toList.length false)[j]? with
 | none=>rfl
 | some b =>
  have:=(Array.getElem?_eq_some_iff.1 h)
  obtain ⟨h1,h2⟩:=this
  simp at h2; subst h2; rfl
end
end Go.Am
