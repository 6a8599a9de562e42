/- Part 4 of the proof's base. -/
import Derived.Test.YtejcoioabaejlaaGreatDoorK3
set_option linter.all false
noncomputable section
namespace Go.Am
open Go.RowKit
def frzSV (hp:List Blk):SV→Option SV
 | .sl t xs _=>some (.sl t xs false)
 | .own t id n=>match Blk.look hp id with
  | .arr _ cs=>if cs.length=n*t.size then (t.parses n cs).map fun xs=>.sl t xs false else none
  | _=>none
 | .fn f []=>some (.fn f [])
 | .fn f ids=>(boxCaps hp ids).map fun caps=>.fnp f caps
 | .box _ _=>none
 | .eown _ _ _ _=>none
 | .suf _ _ _ _=>none
 | .pre t id n m=>match Blk.look hp id with
  | .arr _ cs=>if cs.length=n*t.size∧m≤n then (t.parses n cs).map fun xs=>.sl t (xs.take m) false else none
  | _=>none
 | .mp _=>none
 | .ib _ _=>none
 | x=>some x
def frzL (hp:List Blk):List SV→Option (List SV)
 | []=>some []
 | x::r=>match frzSV hp x,frzL hp r with
  | some y,some s=>some (y::s)
  | _,_=>none
def frzAV (hp:List Blk):AV→Option AV
 | .s x=>(frzSV hp x).map .s
 | .agg cs=>(frzL hp cs).map .agg
def frzAs (hp:List Blk):List AV→Option (List AV)
 | []=>some []
 | x::r=>match frzAV hp x,frzAs hp r with
  | some y,some s=>some (y::s)
  | _,_=>none
def resEv (g:G) (e:Env) (hp:List Blk):ResultVar→Prop×AV
 | .tmp t=>((getE e t).ok=true,(getE e t).v.av)
 | .cell a t=>((getE e a).ok=true∧(loadEv g hp t (getE e a).v.av).1,(loadEv g hp t (getE e a).v.av).2.av)
def resOk (g:G) (e:Env) (hp:List Blk):List ResultVar→Prop
 | []=>True
 | x::r=>(resEv g e hp x).1∧resOk g e hp r
def resVs (g:G) (e:Env) (hp:List Blk) (l:List ResultVar):List AV:=l.map fun x=>(resEv g e hp x).2
def oneRV:List AV→RV
 | [x]=>.v x
 | l=>.tup l
def retOk (g:G) (fn:Func) (s:St) (rv:RV):Prop:=resOk g s.e s.hp fn.results.toList∧∃ vs,frzAs s.hp (resVs g s.e s.hp fn.results.toList)=some vs∧oneRV vs=rv
def argEnv:Nat→List AV→Env
 | _,[]=>[]
 | i,x::r=>(i,⟨true,.v x⟩)::argEnv (i+1) r
section
variable {P:Program} {g:G} {X:XT} {N:Nat} {L:Cfg} {w:World} {M0:Nat→Prop} {bs:Bs} {hp:List Blk}
theorem Evo.to_m0 (hr:HR w M0 bs hp):Evo (Mof M0 bs) M0 w w:=Evo.more w fun b _ h=>.inl h
theorem own_row (hr:HR w M0 bs hp) {t:Ty} {id n b cap:Nat} {al:Bool} {cs:List SV} {xs:List t.T} (hl:Blk.look hp id=.arr al cs) (k1:bs.at id=some b) (k3:n≤cap) (k4:OwnAt w b cap t.size)
  (hlen:cs.length=n*t.size) (hp':t.parses n cs=some xs):xs.length=n∧cap≤maxLen∧RowAt w M0 (fun x cs=>rep w M0 t x cs) t.size (some ⟨b,0,none⟩) xs:=by
 have he:=Evo.to_m0 hr
 obtain ⟨cur,e,q1,q2⟩:=hr.arr id al cs b hl k1
 obtain ⟨cur',e',q3,q4,q5⟩:=k4
 rw [q1] at q3
 injection q3 with q3; injection q3 with q3 _ _
 subst q3
 have hus:∃ us:List Value,All2 (relSV w (Mof M0 bs) bs hp) cs us∧∀ (j:Nat) (v:Value),us[j]?=some v→cur[j]?=some v:=by
  refine ⟨cur.toList.take cs.length,All2.of_get ?_ (fun i x u hx hu => ?_),fun j v hj => ?_⟩
  ·
   have h1:cur.toList.length=cap*t.size:=by rw [Array.length_toList]; exact q4
   have:=Nat.mul_le_mul_right t.size k3
   rw [List.length_take,h1]
   omega
  ·
   obtain ⟨u',r1,r2,r3⟩:=q2 i x hx
   have hi:=(List.getElem?_eq_some_iff.1 hx).1
   rw [List.getElem?_take_of_lt hi,Array.getElem?_toList,r1] at hu
   cases hu; exact r3
  ·
   have hj':j<cs.length:=by
    have:=(List.getElem?_eq_some_iff.1 hj).1
    rw [List.length_take] at this
    omega
   rw [List.getElem?_take_of_lt hj',Array.getElem?_toList] at hj
   exact hj
 obtain ⟨us,r1,r2⟩:=hus
 obtain ⟨s1,s2⟩:=parses_rows t n cs xs us hp' r1
 refine ⟨s1,q5,.inr ⟨b,0,rfl,hr.out id b k1,hr.lt id b k1,fun i x hx => ?_⟩⟩
 obtain ⟨cs',t1,t2,t3⟩:=s2 i x hx
 refine ⟨cs',t1,rep_evo he _ _ _ t2,fun j v hj => ?_⟩
 have:=r2 _ _ (t3 j v hj)
 simp only [World.cell?,q1,Nat.zero_add]
 exact this
theorem frzSV_sound (hr:HR w M0 bs hp) {x y:SV} {v:Value} (h:relSV w (Mof M0 bs) bs hp x v) (hf:frzSV hp x=some y):relSV w M0 [] [] y v:=by
 have he:=Evo.to_m0 hr
 cases x with
 | any=>simp [frzSV] at hf; subst hf; trivial
 | bool b=>simp [frzSV] at hf; subst hf; exact h
 | int k n=>simp [frzSV] at hf; subst hf; exact h
 | str s=>simp [frzSV] at hf; subst hf; exact h
 | val u=>simp [frzSV] at hf; subst hf; exact h
 | sl t xs ex =>
  simp [frzSV] at hf; subst hf
  obtain ⟨a,c,h1,h2,h3,h4,h5⟩:=h
  exact ⟨a,c,h1,h2,h3,by simp,h5.evo he⟩
 | eptr t x =>
  simp [frzSV] at hf; subst hf
  obtain ⟨b,off,cs,h1,h2,h3,h4,h5⟩:=h
  exact ⟨b,off,cs,h1,fun h=>h2 (.inl h),h3,rep_evo he _ _ _ h4,h5⟩
 | box id off=>simp [frzSV] at hf
 | eown t id n off=>simp [frzSV] at hf
 | suf t id n k=>simp [frzSV] at hf
 | pre t id n m =>
  simp only [frzSV] at hf
  cases hl:Blk.look hp id with
  | arr al cs =>
   simp only [hl] at hf
   split at hf
   ·
    rename_i hlen
    cases hp':t.parses n cs with
    | none=>simp [hp'] at hf
    | some xs =>
     simp [hp'] at hf
     subst hf
     obtain ⟨b,cap,k1,rfl,k3,k4⟩:=(h.2.2 al cs hl).2 hlen.1
     obtain ⟨q1,q2,q3⟩:=own_row hr hl k1 k3 k4 hlen.1 hp'
     have hm:(xs.take m).length=m:=by rw [List.length_take]; omega
     refine ⟨some ⟨b,0,none⟩,cap,by rw [hm],by omega,q2,by simp,?_⟩
     have:=RowAt_cut q3 0 m (some ⟨b,0,none⟩) (fun _=>by simp [addr_add]) (by omega) (by omega)
     simpa using this
   ·
    cases hf
  | _=>simp [hl] at hf
 | mp id=>simp [frzSV] at hf
 | ib p q=>simp [frzSV] at hf
 | fv x=>simp [frzSV] at hf; subst hf; exact RepD.evo he h
 | fnp f caps =>
  simp [frzSV] at hf; subst hf
  obtain ⟨ps,h1,h2⟩:=h
  exact ⟨ps,h1,h2.imp fun c p hp=>hp.evo he⟩
 | fn f ids =>
  cases ids with
  | nil =>
   simp [frzSV] at hf; subst hf
   obtain ⟨ps,h1,h2⟩:=h
   cases h2
   exact ⟨[],h1,.nil⟩
  | cons i ids =>
   simp only [frzSV] at hf
   cases hb:boxCaps hp (i::ids) with
   | none=>simp [hb] at hf
   | some caps =>
    simp [hb] at hf
    subst hf
    obtain ⟨ps,h1,h2⟩:=h
    have h2:=boxCaps_at hb h2
    refine ⟨_,h1,boxCaps_sound hr (fun b hb=>.inl hb) hb h2 fun b hb => ?_⟩
    have:∀ {l:List Nat} {m:List Nat},All2 (fun id b=>bs.at id=some b∧∃ cs,Blk.look hp id=.cells cs) l m→∀ b∈m,∃ id,bs.at id=some b:=by
     intro l m hlm
     induction hlm with
     | nil=>intro b hb; cases hb
     | cons r _ ih =>
      intro b hb
      cases hb with
      | head=>exact ⟨_,r.1⟩
      | tail _ hb=>exact ih b hb
    obtain ⟨id,hid⟩:=this h2 b hb
    exact hr.out id b hid
 | own t id n =>
  simp only [frzSV] at hf
  cases hl:Blk.look hp id with
  | arr al cs =>
   simp only [hl] at hf
   split at hf
   ·
    rename_i hlen
    cases hp':t.parses n cs with
    | none=>simp [hp'] at hf
    | some xs =>
     simp [hp'] at hf
     subst hf
     rcases (h.2 al cs hl).2 hlen with ⟨b,cap,k1,rfl,k3,k4⟩ | ⟨k1,ys,a,k2,k3,rfl,rfl,k6⟩
     ·
      obtain ⟨q1,q2,q3⟩:=own_row hr hl k1 k3 k4 hlen hp'
      exact ⟨some ⟨b,0,none⟩,cap,by rw [q1],by omega,q2,by simp,q3⟩
     ·
      subst k2
      rw [parses_flats] at hp'
      cases hp'
      exact ⟨a,xs.length,rfl,Nat.le_refl _,k3,by simp,k6.evo he⟩
   ·
    cases hf
  | _=>simp [hl] at hf
theorem frzL_sound (hr:HR w M0 bs hp):∀ {cs ds:List SV} {vs:List Value},All2 (fun x u=>relSV w (Mof M0 bs) bs hp x u∧u.oneCell'=true) cs vs→frzL hp cs=some ds→All2 (fun x u=>relSV w M0 [] [] x u∧u.oneCell'=true) ds vs
 | [],ds,_,.nil,hf=>by simp [frzL] at hf; subst hf; exact .nil
 | x::r,ds,_,.cons h1 h2,hf=>by
  simp only [frzL] at hf
  split at hf
  ·
   rename_i y s e1 e2
   injection hf with hf; subst hf
   exact .cons ⟨frzSV_sound hr h1.1 e1,h1.2⟩ (frzL_sound hr h2 e2)
  ·
   cases hf
theorem frzAV_sound (hr:HR w M0 bs hp) {x y:AV} {v:Value} (h:relAV w (Mof M0 bs) bs hp x v) (hf:frzAV hp x=some y):relAV w M0 [] [] y v:=by
 cases x with
 | s x =>
  simp only [frzAV] at hf
  cases hx:frzSV hp x with
  | none=>simp [hx] at hf
  | some z=>simp [hx] at hf; subst hf; exact frzSV_sound hr h hx
 | agg cs =>
  simp only [frzAV] at hf
  cases hx:frzL hp cs with
  | none=>simp [hx] at hf
  | some z=>simp [hx] at hf; subst hf; obtain ⟨vs,rfl,h⟩:=h; exact ⟨vs,rfl,frzL_sound hr h hx⟩
theorem frzAs_sound (hr:HR w M0 bs hp):∀ {xs ys:List AV} {vs:List Value},All2 (relAV w (Mof M0 bs) bs hp) xs vs→frzAs hp xs=some ys→All2 (relAV w M0 [] []) ys vs
 | [],ys,_,.nil,hf=>by simp [frzAs] at hf; subst hf; exact .nil
 | x::r,ys,_,.cons h1 h2,hf=>by
  simp only [frzAs] at hf
  split at hf
  ·
   rename_i y s e1 e2
   injection hf with hf; subst hf
   exact .cons (frzAV_sound hr h1 e1) (frzAs_sound hr h2 e2)
  ·
   cases hf
theorem RepD.cells {M:Nat→Prop} {w':World} (hc:∀ p v,w.cell? p=some v→w'.cell? p=some v) (hs:w.heap.size≤w'.heap.size) {t:Ty} {d:D t} {cs:List Value} (hr:RepD w M t d cs):RepD w' M t d cs:=by
 induction hr with
 | int k n=>exact .int _ _
 | bool b=>exact .bool _
 | str s=>exact .str _
 | slice t xs a c b off css h1 h2 h3 h4 h5 ih =>
  refine .slice t xs a c b off css h1 h2 (fun hn => ?_) (fun i x hx=>⟨(h4 i x hx).1,fun j v hj=>hc _ _ ((h4 i x hx).2 j v hj)⟩) ih
  obtain ⟨k1,k2,k3⟩:=h3 hn
  exact ⟨k1,k2,Nat.lt_of_lt_of_le k3 hs⟩
 | nil=>exact .nil
 | cons t r x y c1 c2 _ _ ih1 ih2=>exact .cons _ _ _ _ _ _ ih1 ih2
 | nofn=>exact .nofn
 | fn f caps ps css bo h1 h2 h3 ih =>
  refine .fn f caps ps css bo h1 (fun i p hp => ?_) ih
  obtain ⟨k1,k2,k3,k4⟩:=h2 i p hp
  exact ⟨k1,k2,Nat.lt_of_lt_of_le k3 hs,fun j v hj=>hc _ _ (k4 j v hj)⟩
 | bnd f t x cs _ ih=>exact .bnd f t x cs ih
theorem rep_cells {M:Nat→Prop} {w':World} (hc:∀ p v,w.cell? p=some v→w'.cell? p=some v) (hs:w.heap.size≤w'.heap.size):∀ (t:Ty) (x:t.T) (cs:List Value),rep w M t x cs→rep w' M t x cs
 | .int k,n,cs,hr=>by simpa only [rep] using hr
 | .bool,b,cs,hr=>by simpa only [rep] using hr
 | .str,s,cs,hr=>by simpa only [rep] using hr
 | .slice t,xs,cs,hr=>by
  simp only [rep] at hr ⊢
  obtain ⟨a,c,rfl,h1,h2,h3⟩:=hr
  refine ⟨a,c,rfl,h1,h2,?_⟩
  rcases h3 with h3 | ⟨b,off,ha,hm,hb,he⟩
  ·
   exact .inl h3
  ·
   refine .inr ⟨b,off,ha,hm,Nat.lt_of_lt_of_le hb hs,fun i x hi => ?_⟩
   obtain ⟨cs,hl,hx,hcs⟩:=he i x hi
   exact ⟨cs,hl,rep_cells hc hs t x cs hx,fun j v hj=>hc _ _ (hcs j v hj)⟩
 | .nil,_,cs,hr=>by simpa only [rep] using hr
 | .cons t r,x,cs,hr=>by
  simp only [rep] at hr ⊢
  obtain ⟨c1,c2,rfl,h1,h2⟩:=hr
  exact ⟨c1,c2,rfl,rep_cells hc hs t _ _ h1,rep_cells hc hs r _ _ h2⟩
 | .fn,x,cs,hr=>by
  simp only [rep] at hr ⊢
  exact hr.cells hc hs
structure Same (w w':World) (bs:Bs):Prop where
 cells:∀ p v,w.cell? p=some v→w'.cell? p=some v
 size:w'.heap.size=w.heap.size
 own:∀ id b,bs.at id=some b→w'.heap[b]?=w.heap[b]?
theorem relSV_same {M:Nat→Prop} {w':World} (hs:Same w w' bs) {x:SV} {v:Value} (h:relSV w M bs hp x v):relSV w' M bs hp x v:=by
 have hc:=hs.cells
 have hsz:w.heap.size≤w'.heap.size:=by rw [hs.size]; exact Nat.le_refl _
 have hrow:∀ (t:Ty) (a:Option Addr) (xs:List t.T),RowAt w M (fun x cs=>rep w M t x cs) t.size a xs→RowAt w' M (fun x cs=>rep w' M t x cs) t.size a xs:=by
  intro t a xs h5
  rcases h5 with h5 | ⟨b,off,ha,hm,hb,he⟩
  ·
   exact .inl h5
  ·
   refine .inr ⟨b,off,ha,hm,Nat.lt_of_lt_of_le hb hsz,fun i x hi => ?_⟩
   obtain ⟨cs,hl,hx,hcs⟩:=he i x hi
   exact ⟨cs,hl,rep_cells hc hsz t x cs hx,fun j v hj=>hc _ _ (hcs j v hj)⟩
 have hown:∀ id b,bs.at id=some b→∀ cap size,OwnAt w b cap size→OwnAt w' b cap size:=by
  intro id b hb cap size ⟨cur,e,h1,h2⟩
  exact ⟨cur,e,by rw [hs.own id b hb]; exact h1,h2⟩
 cases x with
 | sl t xs ex =>
  obtain ⟨a,c,h1,h2,h3,h4,h5⟩:=h
  exact ⟨a,c,h1,h2,h3,h4,hrow _ _ _ h5⟩
 | eptr t x =>
  obtain ⟨b,off,cs,h1,h2,h3,h4,h5⟩:=h
  exact ⟨b,off,cs,h1,h2,Nat.lt_of_lt_of_le h3 hsz,rep_cells hc hsz _ _ _ h4,fun j v hj=>hc _ _ (h5 j v hj)⟩
 | fnp f caps =>
  obtain ⟨ps,h1,h2⟩:=h
  refine ⟨ps,h1,h2.imp fun c p hp => ?_⟩
  obtain ⟨b,off,cs,h1,h2,h3,h4,h5⟩:=hp
  exact ⟨b,off,cs,h1,h2,Nat.lt_of_lt_of_le h3 hsz,rep_cells hc hsz _ _ _ h4,fun j v hj=>hc _ _ (h5 j v hj)⟩
 | own t id n =>
  obtain ⟨h1,h2⟩:=h
  refine ⟨h1,fun al cs hl=>⟨(h2 al cs hl).1,fun hlen => ?_⟩⟩
  rcases (h2 al cs hl).2 hlen with ⟨b,cap,k1,k2,k3,k4⟩ | ⟨k1,xs,a,k2,k3,k4,k5,k6⟩
  ·
   exact .inl ⟨b,cap,k1,k2,k3,hown id b k1 _ _ k4⟩
  ·
   exact .inr ⟨k1,xs,a,k2,k3,k4,k5,hrow _ _ _ k6⟩
 | pre t id n m =>
  obtain ⟨h1,hm,h2⟩:=h
  refine ⟨h1,hm,fun al cs hl=>⟨(h2 al cs hl).1,fun hlen => ?_⟩⟩
  obtain ⟨b,cap,k1,k2,k3,k4⟩:=(h2 al cs hl).2 hlen
  exact ⟨b,cap,k1,k2,k3,hown id b k1 _ _ k4⟩
 | suf t id n k =>
  obtain ⟨h1,hm,h2⟩:=h
  refine ⟨h1,hm,fun al cs hl=>⟨(h2 al cs hl).1,fun hlen => ?_⟩⟩
  obtain ⟨b,cap,a,k1,k2,k5,k3,k4⟩:=(h2 al cs hl).2 hlen
  exact ⟨b,cap,a,k1,k2,k5,k3,hown id b k1 _ _ k4⟩
 | fv x=>exact RepD.cells hc hsz h
 | _=>exact h
theorem relAV_same {M:Nat→Prop} {w':World} (hs:Same w w' bs) {x:AV} {v:Value} (h:relAV w M bs hp x v):relAV w' M bs hp x v:=by
 cases x with
 | s x=>exact relSV_same hs h
 | agg cs=>obtain ⟨vs,rfl,h⟩:=h; exact ⟨vs,rfl,h.imp fun x u hu=>⟨relSV_same hs hu.1,hu.2⟩⟩
theorem relRV_same {M:Nat→Prop} {w':World} (hs:Same w w' bs) {x:RV} {v:Value} (h:relRV w M bs hp x v):relRV w' M bs hp x v:=by
 cases x with
 | v x=>exact relAV_same hs h
 | tup xs=>obtain ⟨vs,rfl,h⟩:=h; exact ⟨vs,rfl,h.imp fun x u hu=>relAV_same hs hu⟩
theorem HR.same {w':World} (hr:HR w M0 bs hp) (hs:Same w w' bs):HR w' M0 bs hp:=by
 refine ⟨hr.len,fun b hb=>by rw [hs.size]; exact hr.m0 b hb,fun id b h=>by rw [hs.size]; exact hr.lt id b h,hr.inj,hr.out,hr.al,?_,?_,?_⟩
 ·
  intro id cs hl
  obtain ⟨b,cur,e,h1,h2,h3,h4⟩:=hr.cells id cs hl
  refine ⟨b,cur,e,h1,by rw [hs.own id b h1]; exact h2,h3,fun j x hj => ?_⟩
  obtain ⟨u,k1,k2,k3⟩:=h4 j x hj
  exact ⟨u,k1,k2,relSV_same hs k3⟩
 ·
  intro id al cs b hl hb
  obtain ⟨cur,e,h2,h4⟩:=hr.arr id al cs b hl hb
  refine ⟨cur,e,by rw [hs.own id b hb]; exact h2,fun j x hj => ?_⟩
  obtain ⟨u,k1,k2,k3⟩:=h4 j x hj
  exact ⟨u,k1,k2,relSV_same hs k3⟩
 ·
  intro id k v es hl
  obtain ⟨b,ents,clock,h1,h2,h3⟩:=hr.map id k v es hl
  exact ⟨b,ents,clock,h1,by rw [hs.own id b h1]; exact h2,h3.imp fun x m hm=>⟨hm.1,by obtain ⟨cs,q1,q2⟩:=hm.2; exact ⟨cs,q1,rep_cells hs.cells (by rw [hs.size]; exact Nat.le_refl _) _ _ _ q2⟩⟩⟩
theorem relEnv_same {M:Nat→Prop} {w':World} {e:Env} {a:Act} (hs:Same w w' bs) (h:relEnv w M bs hp e a):relEnv w' M bs hp e a :=
 fun s x hx=>⟨fun ho=>relRV_same hs ((h s x hx).1 ho),(h s x hx).2⟩
theorem loadAt_asAddr {t:TypeId} {v u:Value} {w w':World} (h:(Instr.loadAt t v).run P w=.ok u w'):(do loadVar t (← asAddr v):Sem Value).run P w=.ok u w':=by
 cases v with
 | pointer p =>
  cases p with
  | none=>simp [Instr.loadAt,Instr.sureAddr,stuck,Sem.run_bind] at h
  | some a=>simpa [Instr.loadAt,Instr.sureAddr,asAddr] using h
 | _=>simp [Instr.loadAt,Instr.sureAddr,stuck,Sem.run_bind] at h
theorem results_run (hg:g.ok P) (hr:HR w M0 bs hp) {e:Env} {a:Act} (he:relEnv w (Mof M0 bs) bs hp e a) (fn:Func) (hok:resOk g e hp fn.results.toList) (tm:Array Value) (htm:tm=a.tmps) :
  ∃ vs:List Value,(results fn tm).run P w=.ok (if h:vs.toArray.size=1 then vs.toArray[0] else .tuple vs.toArray) w∧All2 (relAV w (Mof M0 bs) bs hp) (resVs g e hp fn.results.toList) vs:=by
 subst htm
 have key:∀ (f:ResultVar→Sem Value) (hf1:∀ t,f (.tmp t)=pure (a.tmps.getD t undef)) (hf2:∀ c t,f (.cell c t)=(do loadVar t (← asAddr (a.tmps.getD c undef)))) (l:List ResultVar),resOk g e hp l →
   ∃ vs:List Value,(l.mapM f).run P w=.ok vs w∧All2 (relAV w (Mof M0 bs) bs hp) (resVs g e hp l) vs:=by
  intro f hf1 hf2 l
  induction l with
  | nil=>intro _; exact ⟨[],rfl,.nil⟩
  | cons x r ih =>
   intro h
   obtain ⟨h1,h2⟩:=h
   obtain ⟨vs,k1,k2⟩:=ih h2
   have hx:∃ v,(f x).run P w=.ok v w∧relAV w (Mof M0 bs) bs hp (resEv g e hp x).2 v:=by
    cases x with
    | tmp t=>rw [hf1]; exact ⟨_,rfl,relRV_av ((getE_rel he t).1 h1)⟩
    | cell c t =>
     rw [hf2]
     obtain ⟨q1,q2⟩:=h1
     obtain ⟨u,q3,q4⟩:=loadEv_sound hg hr t _ _ (relRV_av ((getE_rel he c).1 q1)) q2
     exact ⟨u,loadAt_asAddr q3,relRV_av q4⟩
   obtain ⟨v,hv1,hv2⟩:=hx
   refine ⟨v::vs,?_,.cons hv2 k2⟩
   rw [List.mapM_cons,Sem.run_bind,hv1]
   simp only [Result.andThen_ok]
   rw [Sem.run_bind,k1]
   rfl
 have fin:∀ (f:ResultVar→Sem Value) (hf1:∀ t,f (.tmp t)=pure (a.tmps.getD t undef)) (hf2:∀ c t,f (.cell c t)=(do loadVar t (← asAddr (a.tmps.getD c undef)))),
   ∃ vs:List Value,((List.mapM f fn.results.toList).run P w).andThen (fun a w'=>(Sem.run P (pure a.toArray) w').andThen fun a w'=>Sem.run P (pure (if h:a.size=1 then a[0] else .tuple a)) w') =
    .ok (if h:vs.toArray.size=1 then vs.toArray[0] else .tuple vs.toArray) w∧All2 (relAV w (Mof M0 bs) bs hp) (resVs g e hp fn.results.toList) vs:=by
  intro f hf1 hf2
  obtain ⟨vs,k1,k2⟩:=key f hf1 hf2 _ hok
  refine ⟨vs,?_,k2⟩
  rw [k1]
  simp [Result.andThen_ok]
 unfold results
 rw [Array.mapM_eq_mapM_toList]
 simp only [Sem.run_bind,bind_assoc,map_eq_pure_bind]
 exact fin _ (fun _=>rfl) (fun _ _=>rfl)
theorem oneRV_rel {w:World} {M:Nat→Prop} {xs:List AV} {vs:List Value} (h:All2 (relAV w M bs hp) xs vs):relRV w M bs hp (oneRV xs) (if h:vs.toArray.size=1 then vs.toArray[0] else .tuple vs.toArray):=by
 cases h with
 | nil=>exact ⟨[],rfl,.nil⟩
 | cons r h =>
  cases h with
  | nil=>exact r
  | cons r2 h=>exact ⟨_,by simp,.cons r (.cons r2 h)⟩
def Ty.lenOk:(t:Ty)→t.T→Prop
 | .slice t,xs=>xs.length≤maxLen∧∀ x∈xs,t.lenOk x
 | .cons t r,x=>t.lenOk x.1∧r.lenOk x.2
 | .int _,_=>True
 | .bool,_=>True
 | .str,_=>True
 | .nil,_=>True
 | .fn,_=>True
def SV.lenOk:SV→Prop
 | .sl t xs _=>(Ty.slice t).lenOk xs
 | .eptr t x=>t.lenOk x
 | _=>True
def AV.lenOk:AV→Prop
 | .s x=>x.lenOk
 | .agg cs=>∀ x∈cs,x.lenOk
def allLen:List AV→Prop
 | []=>True
 | x::r=>x.lenOk∧allLen r
theorem rep_lenOk {w:World} {M:Nat→Prop}:∀ (t:Ty) (x:t.T) (cs:List Value),rep w M t x cs→t.lenOk x
 | .int k,n,cs,h=>trivial
 | .bool,b,cs,h=>trivial
 | .str,s,cs,h=>trivial
 | .slice t,xs,cs,h=>by
  simp only [rep] at h
  obtain ⟨a,c,rfl,h1,h2,h3⟩:=h
  refine ⟨Nat.le_trans h1 h2,fun x hx => ?_⟩
  rcases h3 with rfl | ⟨b,off,ha,hm,hb,he⟩
  ·
   cases hx
  ·
   obtain ⟨i,hi,rfl⟩:=List.getElem_of_mem hx
   obtain ⟨cs,_,k,_⟩:=he i _ (List.getElem?_eq_getElem hi)
   exact rep_lenOk t _ _ k
 | .nil,_,cs,h=>trivial
 | .cons t r,x,cs,h=>by
  simp only [rep] at h
  obtain ⟨c1,c2,rfl,h1,h2⟩:=h
  exact ⟨rep_lenOk t _ _ h1,rep_lenOk r _ _ h2⟩
 | .fn,_,cs,h=>trivial
theorem relSV_lenOk {w:World} {M:Nat→Prop} {bs:Bs} {hp:List Blk} {x:SV} {v:Value} (h:relSV w M bs hp x v):x.lenOk:=by
 cases x with
 | sl t xs ex =>
  obtain ⟨a,c,h1,h2,h3,h4,h5⟩:=h
  exact rep_lenOk (w:=w) (M:=M) (.slice t) xs [.slice a xs.length c] (by simp only [rep]; exact ⟨a,c,rfl,h2,h3,h5⟩)
 | eptr t x=>obtain ⟨b,off,cs,h1,h2,h3,h4,h5⟩:=h; exact rep_lenOk _ _ _ h4
 | _=>trivial
theorem relAV_lenOk {w:World} {M:Nat→Prop} {bs:Bs} {hp:List Blk} {x:AV} {v:Value} (h:relAV w M bs hp x v):x.lenOk:=by
 cases x with
 | s x=>exact relSV_lenOk h
 | agg cs =>
  obtain ⟨vs,rfl,h⟩:=h
  intro x hx
  obtain ⟨i,hi,rfl⟩:=List.getElem_of_mem hx
  obtain ⟨u,_,k,_⟩:=h.get i _ (List.getElem?_eq_getElem hi)
  exact relSV_lenOk k
theorem allLen_rel {w:World} {M:Nat→Prop} {bs:Bs} {hp:List Blk} {xs:List AV} {vs:List Value} (h:All2 (relAV w M bs hp) xs vs):allLen xs:=by
 induction h with
 | nil=>trivial
 | cons r _ ih=>exact ⟨relAV_lenOk r,ih⟩
theorem argEnv_rel {w:World} {M:Nat→Prop} {bs:Bs} {hp:List Blk}:∀ {xs:List AV} {vs:List Value} (i:Nat) (a:Act),All2 (relAV w M bs hp) xs vs→(∀ (j:Nat) (v:Value),vs[j]?=some v→a.tmps.getD (i+j) undef=v)→relEnv w M bs hp (argEnv i xs) a
 | [],_,i,a,.nil,h=>fun s x hs=>by simp [argEnv,look] at hs
 | x::xs,_,i,a,.cons r hr,h=>fun s y hs=>by
  simp only [argEnv,look] at hs
  split at hs
  ·
   rename_i e; subst e
   injection hs with hs; subst hs
   have:=h 0 _ rfl
   simp only [Nat.add_zero] at this
   rw [this]
   exact ⟨fun _=>r,by simp⟩
  ·
   exact argEnv_rel (i+1) a hr (fun j v hj=>by rw [← h (j+1) v (by simpa using hj)]; congr 1; omega) s y hs
def X0:XT:=fun _ _ _ _ _ _ _=>False
theorem X0_ok:XOk P X0:=⟨fun h=>h.elim,fun h=>h.elim⟩
theorem shut_marks {fn:Func} {tmps:Array Value} {r:Option Nat} {n:Nat}:∀ (Ds:List Nat) (w:World) (R:Ending→World→Prop),Ds.Nodup→(∀ D∈Ds,w.heap[D]?=some (.deferred (some []))) →
  (∀ w',w'.heap.size=w.heap.size→w'.os=w.os→w'.tape=w.tape→w'.output=w.output→w'.drawn=w.drawn→(∀ b,b∉Ds→w'.heap[b]?=w.heap[b]?)→∃ v,(results fn tmps).run P w'=.ok v w'∧R (.returned v) w') →
  LeavesInM (FW r) n P fn tmps R (Ds.map markOf) .returning w
 | [],w,R,_,_,h=>by
  obtain ⟨v,h1,h2⟩:=h w rfl rfl rfl rfl rfl (fun _ _=>rfl)
  exact ⟨v,h1,h2⟩
 | D::Ds,w,R,hnd,hd,h=>by
  refine ⟨by simp,.inl ⟨D,w.putObj D (.deferred none),rfl,run_takeDeferred (hd D (by simp)),?_⟩⟩
  refine shut_marks Ds _ R (List.nodup_cons.1 hnd).2 (fun E hE => ?_) (fun w' h1 h2 h3 h4 hdr h5 => ?_)
  ·
   have hne:E≠D:=fun e=>(List.nodup_cons.1 hnd).1 (e▸hE)
   rw [World.putObj_heap_other hne]
   exact hd E (by simp [hE])
  ·
   refine h w' (by rw [h1]; simp) h2 h3 h4 hdr (fun b hb => ?_)
   simp only [List.mem_cons,not_or] at hb
   rw [h5 b hb.2,World.putObj_heap_other hb.1]
theorem pureOk_of (hg:g.good P) (hy:g.y=false) (hm:P.follows .mixedOrders=true) {f:FuncId} {fn:Func} {c:Code} (hf:P.funcs[f]?=some fn) (hb:fn.body=some c) (con:Con) (k:Nat) (hk:k≤fn.ntmps)
  (hok:codeOk' L g.ye fn.ntmps c=true)
  (h:∀ args,con.pre args→allLen args→args.length=k∧vc P g X0 fn.ntmps L c ⟨argEnv 0 args,[]⟩ (fun e s=>(e=.normal∨e=.ret)∧retOk g fn s (con.val args))):PureOk P f con:=by
 intro w M0 args vs hpre hM0 hargs
 obtain ⟨hlen,hvc⟩:=h args hpre (allLen_rel hargs)
 have hwp:=vc_sound (X:=X0) (L:=L) hg X0_ok hm c hok _ _ hvc
 refine (callsIn_wide (n:=0)).1 ?_
 have hF:(FW none)=Fence.wide:=rfl
 rw [← hF]
 have hr0:HR w M0 [] []:=by
  refine ⟨rfl,hM0,?_,?_,?_,?_,?_,?_,?_⟩ <;> intros <;> simp_all [Bs.at,Blk.look]
 have hN:(vs.toArray++Array.replicate (fn.ntmps - vs.toArray.size) undef).size=fn.ntmps:=by
  have:=hargs.length
  simp; omega
 refine callsIn_of_wp_marks (n:=0) hf hb trivial (wpIn_mono (hwp 0 none (some (w.heap.size,[])) M0 [] { tmps:=vs.toArray++Array.replicate (fn.ntmps - vs.toArray.size) undef,defers:=[] } w ⟨fun _=>rfl,by simp [hy]⟩ ⟨hr0,?_,?_,hN,⟨Nat.le_refl _,[],rfl,.nil,by simp⟩⟩) ?_)
 ·
  intro l xs i st ht; simp [Blk.look] at ht
 ·
  refine argEnv_rel 0 _ (hargs.imp fun x v h=>relAV_weaken (fun b hb=>hb.elim id fun ⟨id,h⟩=>by simp [Bs.at] at h) h) (fun j v hj => ?_)
  have hj2:=(List.getElem?_eq_some_iff.1 hj).1
  simp only [Array.getD_eq_getD_getElem?,Nat.zero_add]
  rw [Array.getElem?_append_left (by simpa using hj2)]
  simp [hj]
 ·
  rintro e a' w' ⟨s',M0',bs',⟨hke,hk1,vs',hk2,hk3⟩,hr',hn⟩
  obtain rfl:M0'=M0:=hn.eq hy
  obtain ⟨_,Ds,hdf,hnd,hD⟩:=hr'.df
  have hst:Step false w (Mof M0' []) [] [] w' (Mof M0' bs') bs' s'.hp:=by have:=hn.st; rwa [hy] at this
  have hold:=hst.only rfl
  have:LeavesInM (FW none) 0 P fn a'.tmps (fun e w'=>∃ v,e=.returned v∧relRV w' M0' [] [] (con.val args) v∧Below w.heap.size w w'∧w.drawn≤w'.drawn) a'.defers .returning w':=by
   rw [hdf,List.append_nil]
   refine shut_marks Ds w' _ hnd (fun D h=>(hD D h).2.2.2) fun w'' h1 h2 h3 h4 hdr h5 => ?_
   have hsame:Same w' w'' bs':=by
    refine ⟨fun p u hp => ?_,h1,fun id b hb=>h5 b fun hm=>(hD b hm).2.2.1 (.inr ⟨id,hb⟩)⟩
    have hne:p.block∉Ds:=fun hm=>by
     have:=(hD _ hm).2.2.2
     simp [World.cell?,this] at hp
    rw [← hp]
    exact World.cell?_of_block (h5 _ hne)
   obtain ⟨us,q1,q2⟩:=results_run hg.1 (hr'.hr.same hsame) (relEnv_same hsame hr'.env) fn hk1 _ rfl
   have q3:=frzAs_sound (hr'.hr.same hsame) q2 hk2
   refine ⟨_,q1,_,rfl,?_,?_⟩
   ·
    rw [← hk3]; exact oneRV_rel q3
   ·
    have e1:=hst.evo
    refine ⟨⟨h2.trans e1.os,h3.trans e1.tape,h4.trans e1.output,by rw [h1]; exact e1.size,fun b hb=>by
     rw [h5 b (fun hm=>by have:=(hD b hm).1; omega)]
     exact hold.old b hb (by simp [Bs.at])⟩,by rw [hdr]; exact e1.drawn⟩
  rcases hke with rfl | rfl <;> exact this
end
structure ItCon where
 pre:List AV→Prop
 xs:List AV→List (List AV)
def ItOk (P:Program) (f:FuncId) (ic:ItCon):Prop :=
 (∀ (args:Array Value) (w:World),(callFunc f args).run P w=.ok (.enter f args) w) ∧
 ∀ (X:XT) (l:Nat) (w:World) (M0:Nat→Prop) (caps:List AV) (vs:List Value),XOk P X→ic.pre caps→(∀ b,M0 b→b<w.heap.size)→All2 (relAV w M0 [] []) caps vs→X l (ic.xs caps) 0 false w M0 (fun _=>False) →
  ∀ n,CallsIn (FW none) n P f (#[.func (.yield l) #[] #[]]++vs.toArray) w fun e w'=>∃ v i st M0' B',e=.returned v∧X l (ic.xs caps) i st w' M0' B'∧(st=false→i=(ic.xs caps).length)
section
variable {P:Program} {g:G} {X:XT} {N:Nat} {n0:Option Nat} {L:Cfg} {w:World} {M0:Nat→Prop} {bs:Bs} {hp:List Blk}
def yieldAV (l:Nat):AV:=.s (.val (.func (.yield l) #[] #[]))
theorem itOk_of (hg:g.good P) (hy:g.y=true) (hm:P.follows .mixedOrders=true) {f:FuncId} {fn:Func} {c:Code} (hf:P.funcs[f]?=some fn) (hent:∀ (args:Array Value) (w:World),(callFunc f args).run P w=.ok (.enter f args) w) (hb:fn.body=some c) (hres:fn.results=#[]) (ic:ItCon) (k:Nat) (hk:k<fn.ntmps)
  (hok:codeOk' L g.ye fn.ntmps c=true)
  (h:∀ caps l,ic.pre caps→allLen caps→caps.length=k∧∀ X,XOk P X→vc P g X fn.ntmps L c ⟨argEnv 0 (yieldAV l::caps),[.trace l (ic.xs caps) 0 false]⟩ (fun e s=>(e=.normal∨e=.ret)∧∃ i st,Blk.look s.hp 0=.trace l (ic.xs caps) i st∧(st=false→i=(ic.xs caps).length))) :
  ItOk P f ic:=by
 refine ⟨hent,fun X l w M0 caps vs hX hpre hM0 hargs hx n => ?_⟩
 obtain ⟨hlen,hvc⟩:=h caps l hpre (allLen_rel hargs)
 have hwp:=vc_sound (X:=X) (L:=L) hg hX hm c hok _ _ (hvc X hX)
 have hr0:HR w M0 [none] [.trace l (ic.xs caps) 0 false]:=by
  have hat:∀ id b,Bs.at [none] id≠some b:=by
   intro id b h
   cases id <;> simp [Bs.at] at h
  have hlk:∀ id x,Blk.look [.trace l (ic.xs caps) 0 false] id=x→x=.trace l (ic.xs caps) 0 false∨x=.dead:=by
   intro id x h
   cases id <;> simp [Blk.look] at h
   ·
    exact .inl h.symm
   ·
    exact .inr h.symm
  refine ⟨rfl,hM0,fun id b h=>absurd h (hat id b),fun i j b h=>absurd h (hat i b),fun id b h=>absurd h (hat id b),fun id cs h => ?_,fun id cs h => ?_,fun id al cs b _ h=>absurd h (hat id b),fun id k v es h => ?_⟩
  all_goals (rcases hlk _ _ h with h | h <;> cases h)
 have hmof:∀ b,Mof M0 [none] b→M0 b:=by
  rintro b (h | ⟨id,h⟩)
  ·
   exact h
  ·
   cases id <;> simp [Bs.at] at h
 have hrel:All2 (relAV w (Mof M0 [none]) [none] [.trace l (ic.xs caps) 0 false]) (yieldAV l::caps) (.func (.yield l) #[] #[]::vs) :=
  .cons rfl (hargs.imp fun x v h=>relAV_lift (relAV_weaken hmof h))
 have hvs : #[.func (.yield l) #[] #[]]++vs.toArray=((.func (.yield l) #[] #[]::vs:List Value)).toArray:=by simp
 rw [hvs]
 have hN:((.func (.yield l) #[] #[]::vs:List Value).toArray++Array.replicate (fn.ntmps - (.func (.yield l) #[] #[]::vs:List Value).toArray.size) undef).size=fn.ntmps:=by
  have:=hargs.length
  simp; omega
 refine callsIn_of_wp_marks (n:=n) hf hb trivial (wpIn_mono (hwp n none none M0 [none] { tmps:=(.func (.yield l) #[] #[]::vs:List Value).toArray++Array.replicate (fn.ntmps - (.func (.yield l) #[] #[]::vs:List Value).toArray.size) undef,defers:=[] } w ⟨fun _=>rfl,by simp [hy]⟩ ⟨hr0,?_,?_,hN,rfl⟩) ?_)
 ·
  intro l2 xs i st ht
  simp [Blk.look] at ht
  obtain ⟨rfl,rfl,rfl,rfl⟩:=ht
  have:inBs [none]=fun _=>False:=by
   funext b; apply propext; constructor
   ·
    rintro ⟨id,h⟩; cases id <;> simp [Bs.at] at h
   ·
    exact False.elim
  rw [this]; exact hx
 ·
  refine argEnv_rel 0 _ hrel (fun j v hj => ?_)
  have hj2:=(List.getElem?_eq_some_iff.1 hj).1
  simp only [Array.getD_eq_getD_getElem?,Nat.zero_add]
  rw [Array.getElem?_append_left (by simpa using hj2)]
  simp only [List.getElem?_toArray,hj,Option.getD_some]
 ·
  rintro e a' w' ⟨s',M0',bs',⟨hke,i,st,hlk,hend⟩,hr',hn⟩
  have hdf:a'.defers=[]:=hr'.df
  have:LeavesInM (FW none) n P fn a'.tmps (fun e w'=>∃ v i st M0' B',e=.returned v∧X l (ic.xs caps) i st w' M0' B'∧(st=false→i=(ic.xs caps).length)) a'.defers .returning w':=by
   rw [hdf]
   exact ⟨.tuple #[],by simp [results,hres],_,i,st,M0',_,rfl,hr'.xr _ _ _ _ hlk,hend⟩
  rcases hke with rfl | rfl <;> exact this
def psE:List Nat→List AV→Env→Env
 | p::ps,x::xs,e=>psE ps xs ((p,⟨true,.v x⟩)::e)
 | _,_,e=>e
theorem psE_rel {M:Nat→Prop} (d:List Deferred):∀ (ps:List Nat) (xs:List AV) (vs:List Value) (e:Env) (tm:Array Value),All2 (relAV w M bs hp) xs vs→(∀ p∈ps,p<tm.size)→relEnv w M bs hp e { tmps:=tm,defers:=d } →
  relEnv w M bs hp (psE ps xs e) { tmps:=(ps.zip vs).foldl (fun t (p,v)=>t.setIfInBounds p v) tm,defers:=d }∧((ps.zip vs).foldl (fun t (p,v)=>t.setIfInBounds p v) tm).size=tm.size
 | [],xs,vs,e,tm,_,_,h=>by cases xs <;> exact ⟨h,rfl⟩
 | p::ps,_,_,e,tm,.nil,_,h=>⟨h,rfl⟩
 | p::ps,_,_,e,tm,.cons r hr,hp',h=>by
  have h1:=relEnv_put (a:={ tmps:=tm,defers:=d }) h (some p) ⟨true,.v _⟩ _ ⟨fun _=>r,by simp⟩ (fun k hk=>by cases hk; exact hp' p (by simp))
  have:=psE_rel d ps _ _ _ (tm.setIfInBounds p _) hr (fun q hq=>by simp; exact hp' q (by simp [hq])) h1
  simp only [psE,List.zip_cons_cons,List.foldl_cons]
  refine ⟨this.1,this.2.trans (by simp)⟩
def jumpC:Exit→Option Code
 | .ret=>some .ret
 | .exit id=>some (.exit id)
 | .goto t=>some (.goto t)
 | _=>none
def G.round (g:G):G:={ g with top:=false }
def recOf (fn:FuncId) (tmps:Array Value) (ps:Array Tmp) (assign body:Code) (D:Nat) (st:LoopState) (pe:Option Code):Loop:={ state:=st,pending:=pe,fn,tmps,params:=ps,assign,body,defers:=D }
theorem HR.keep' {M0':Nat→Prop} (hr:HR w M0 bs hp) {w':World} (he:Evo (Mof M0 bs) (Mof M0' bs) w w') (hs:∀ id b,bs.at id=some b→w'.heap[b]?=w.heap[b]?) (hm:∀ b,M0' b→b<w'.heap.size) (ho:∀ id b,bs.at id=some b→¬ M0' b) :
  HR w' M0' bs hp∧Step true w (Mof M0 bs) bs hp w' (Mof M0' bs) bs hp:=by
 have hst:Step true w (Mof M0 bs) bs hp w' (Mof M0' bs) bs hp :=
  ⟨he,Nat.le_refl _,fun id cs _ h=>⟨⟨cs,h⟩,rfl⟩,fun id b k u es h1 h2=>⟨h1,es,h2⟩,fun id al cs _ h=>⟨al,cs,h,.inr ⟨rfl,rfl,fun _=>rfl,fun b hb cap size ho=>by
   obtain ⟨cur,e,h1,h2⟩:=ho
   exact ⟨cur,e,by rw [hs id b hb]; exact h1,h2⟩⟩⟩,by simp⟩
 refine ⟨⟨hr.len,hm,fun id b h=>Nat.lt_of_lt_of_le (hr.lt id b h) he.size,hr.inj,ho,hr.al,?_,?_,?_⟩,hst⟩
 ·
  intro id cs hl
  obtain ⟨b,cur,e,h1,h2,h3,h4⟩:=hr.cells id cs hl
  refine ⟨b,cur,e,h1,by rw [hs id b h1]; exact h2,h3,fun j x hj => ?_⟩
  obtain ⟨u,k1,k2,k3⟩:=h4 j x hj
  exact ⟨u,k1,k2,relSV_step hst x u k3⟩
 ·
  intro id al cs b hl hb
  obtain ⟨cur,e,h2,h4⟩:=hr.arr id al cs b hl hb
  refine ⟨cur,e,by rw [hs id b hb]; exact h2,fun j x hj => ?_⟩
  obtain ⟨u,k1,k2,k3⟩:=h4 j x hj
  exact ⟨u,k1,k2,relSV_step hst x u k3⟩
 ·
  intro id k v es hl
  obtain ⟨b,ents,clock,h1,h2,h3⟩:=hr.map id k v es hl
  exact ⟨b,ents,clock,h1,by rw [hs id b h1]; exact h2,h3.imp fun x m hm=>⟨hm.1,repV_evo he hm.2⟩⟩
structure Stays (w0:World) (M0:Nat→Prop) (bs0:Bs) (hp0:List Blk) (D l:Nat) (B:Nat→Prop) (w:World) (bs:Bs) (hp:List Blk):Prop where
 hr:HR w (fun b=>M0 b∨b=l∨B b) bs hp
 st:Step true w0 (Mof M0 bs0) bs0 hp0 w (Mof (fun b=>M0 b∨b=l∨B b) bs) bs hp
 only:Only w0 bs0 hp0 w bs hp
 tr:∀ l xs i st,Blk.look hp 0≠.trace l xs i st
 dD:DefOk (some (0,[])) w (Mof (fun b=>M0 b∨b=l∨B b) bs) [markOf D]
def XC (K:Exit→List Blk→Prop) (R:Nat→List Blk→Prop) (fn:FuncId) (tmps:Array Value) (ps:Array Tmp) (assign body:Code) (w0:World) (M0:Nat→Prop) (bs0:Bs) (hp0:List Blk) (D l0:Nat) (xs0:List (List AV)):XT :=
 fun l xs i st w MI B=>l=l0∧xs=xs0∧∃ bs hp pe,(∀ b,MI b↔(M0 b∨inBs bs b∨b=l0))∧w.heap[l0]?=some (.loop (recOf fn tmps ps assign body D (if st then .done else .ready) pe))∧¬ B l0∧¬ inBs bs l0∧w0.heap.size≤l0∧(∀ b,B b→w0.heap.size≤b) ∧
  Stays w0 M0 bs0 hp0 D l0 B w bs hp∧(st=false→pe=none∧R i hp)∧(st=true→∃ e c,pe=some c∧jumpC e=some c∧K e hp)
theorem XC_stable {K:Exit→List Blk→Prop} {R:Nat→List Blk→Prop} {fn:FuncId} {tmps:Array Value} {ps:Array Tmp} {assign body:Code} {w0:World} {bs0:Bs} {hp0:List Blk} {D l0:Nat} {xs0:List (List AV)}
  {l:Nat} {xs:List (List AV)} {i:Nat} {st:Bool} {w w':World} {MI B B':Nat→Prop} (h:XC K R fn tmps ps assign body w0 M0 bs0 hp0 D l0 xs0 l xs i st w MI B) (hos:w'.os=w.os) (htp:w'.tape=w.tape) (hou:w'.output=w.output) (hsz:w.heap.size≤w'.heap.size) (hdr:w.drawn≤w'.drawn)
  (hsame:∀ b,b<w.heap.size→¬ B b→w'.heap[b]?=w.heap[b]?) (hnew:∀ b,b<w.heap.size→¬ B b→¬ B' b) (hB':∀ b,B' b→b<w'.heap.size):XC K R fn tmps ps assign body w0 M0 bs0 hp0 D l0 xs0 l xs i st w' MI B':=by
 obtain ⟨rfl,rfl,bs,hp,pe,hMI,hrec,hBl,hbl,hl0,hB0,hS,h1,h2⟩:=h
 have hll:l<w.heap.size:=(Array.getElem?_eq_some_iff.1 hrec).1
 have hw0:w0.heap.size≤w.heap.size:=by omega
 have he:Evo (Mof (fun b=>M0 b∨b=l∨B b) bs) (Mof (fun b=>M0 b∨b=l∨B' b) bs) w w':=by
  refine ⟨hos,htp,hou,hsz,hdr,fun b hb hn=>hsame b hb fun hB=>hn (.inl (.inr (.inr hB))),fun b hb hn hm => ?_⟩
  have hnB:¬ B b:=fun hB=>hn (.inl (.inr (.inr hB)))
  rcases hm with (hm | hm | hm) | hm
  ·
   exact hn (.inl (.inl hm))
  ·
   exact hn (.inl (.inr (.inl hm)))
  ·
   exact hnew b hb hnB hm
  ·
   exact hn (.inr hm)
 have hBbs:∀ id b,bs.at id=some b→¬ B b:=fun id b hb hB=>hS.hr.out id b hb (.inr (.inr hB))
 obtain ⟨k1,k2⟩:=hS.hr.keep' he (fun id b hb=>hsame b (hS.hr.lt id b hb) (hBbs id b hb)) (fun b hb=>by
  rcases hb with hb | hb | hb
  ·
   exact Nat.lt_of_lt_of_le (hS.hr.m0 b (.inl hb)) hsz
  ·
   subst hb; omega
  ·
   exact hB' b hb) (fun id b hb hm=>by
  rcases hm with hm | hm | hm
  ·
   exact hS.hr.out id b hb (.inl hm)
  ·
   exact hS.hr.out id b hb (.inr (.inl hm))
  ·
   exact hnew b (hS.hr.lt id b hb) (hBbs id b hb) hm)
 have hge:∀ b,B' b→w0.heap.size≤b:=fun b hb=>by
  rcases Nat.lt_or_ge b w.heap.size with hlt | hge
  ·
   by_cases hB:B b
   ·
    exact hB0 b hB
   ·
    exact absurd hb (hnew b hlt hB)
  ·
   omega
 refine ⟨rfl,rfl,bs,hp,pe,hMI,by rw [hsame l hll hBl]; exact hrec,hnew l hll hBl,hbl,hl0,hge,⟨k1,hS.st.trans k2,?_,hS.tr,hS.dD.evo he⟩,h1,h2⟩
 refine ⟨fun b hb hn=>(hsame b (by omega) fun hB=>by have:=hB0 b hB; omega).trans (hS.only.old b hb hn),hS.only.new,hS.only.tr⟩
theorem Only.touch {w0:World} {bs0:Bs} {hp0:List Blk} (h:Only w0 bs0 hp0 w bs hp) {w':World} (hs:∀ b,b<w0.heap.size→w'.heap[b]?=w.heap[b]?):Only w0 bs0 hp0 w' bs hp :=
 ⟨fun b hb hn=>(hs b hb).trans (h.old b hb hn),h.new,h.tr⟩
theorem Evo.congr {A B A' B':Nat→Prop} {w w':World} (h:Evo A B w w') (h1:∀ b,A b↔A' b) (h2:∀ b,B b↔B' b):Evo A' B' w w' :=
 ⟨h.os,h.tape,h.output,h.size,h.drawn,fun b hb hn=>h.block b hb fun k=>hn ((h1 b).1 k),fun b hb hn k=>h.free b hb (fun k=>hn ((h1 b).1 k)) ((h2 b).2 k)⟩
theorem Evo.putObj {M:Nat→Prop} {l:Nat} (o:Obj) (hl:M l):Evo M M w (w.putObj l o) :=
 ⟨rfl,rfl,rfl,by simp,Nat.le_refl _,fun b hb hn=>World.putObj_heap_other (fun e=>hn (e▸hl)),fun _ _ h=>h⟩
theorem Stays.record {w0:World} {bs0:Bs} {hp0:List Blk} {D l:Nat} {B:Nat→Prop} (h:Stays w0 M0 bs0 hp0 D l B w bs hp) (hl0:w0.heap.size≤l) (hl:¬ inBs bs l) (hll:l<w.heap.size) {r0:Loop} (hr0:w.heap[l]?=some (.loop r0)) (r1:Loop):Stays w0 M0 bs0 hp0 D l B (w.putObj l (.loop r1)) bs hp:=by
 have he:Evo (Mof (fun b=>M0 b∨b=l∨B b) bs) (Mof (fun b=>M0 b∨b=l∨B b) bs) w (w.putObj l (.loop r1)):=Evo.putObj _ (.inl (.inr (.inl rfl)))
 obtain ⟨k1,k2⟩:=h.hr.keep' he (fun id b hb=>World.putObj_heap_other fun e=>hl ⟨id,e▸hb⟩) (fun b hb=>by have:=h.hr.m0 b hb; simpa using this) h.hr.out
 exact ⟨k1,h.st.trans k2,h.only.touch fun b hb=>World.putObj_heap_other (by omega),h.tr,h.dD.evo he⟩
theorem Stays.step {w0:World} {bs0:Bs} {hp0:List Blk} {D l:Nat} {B:Nat→Prop} (h:Stays w0 M0 bs0 hp0 D l B w bs hp) {w':World} {bs':Bs} {hp':List Blk} (hr:HR w' (fun b=>M0 b∨b=l∨B b) bs' hp')
  (hs:Step false w (Mof (fun b=>M0 b∨b=l∨B b) bs) bs hp w' (Mof (fun b=>M0 b∨b=l∨B b) bs') bs' hp'):Stays w0 M0 bs0 hp0 D l B w' bs' hp' :=
 ⟨hr,h.st.trans hs.weaken,h.only.trans h.st.evo.size (hs.only rfl),fun l xs i st ht=>h.tr l xs i st ((hs.only rfl).tr 0 l xs i st ht),h.dD.evo hs.evo⟩
theorem zip_foldl (ps:Array Tmp) (vs:List Value) (tm:Array Value) :
  (ps.zip vs.toArray).foldl (fun t (x:Tmp×Value)=>t.setIfInBounds x.1 x.2) tm=(ps.toList.zip vs).foldl (fun t (p,v)=>t.setIfInBounds p v) tm:=by
 rw [← Array.foldl_toList]; simp
def TrT (n:Nat) (hp hp':List Blk):Prop:=hp'=hp∨∃ junk,hp=hp'++junk∧n≤hp'.length∧hp'.all (fun b=>b.below hp'.length)=true
theorem TrT.refl (n:Nat) (hp:List Blk):TrT n hp hp:=.inl rfl
theorem TrT.drop {n:Nat} {hp junk:List Blk} (h:n≤hp.length) (hb:hp.all (fun b=>b.below hp.length)=true):TrT n (hp++junk) hp:=.inr ⟨junk,rfl,h,hb⟩
theorem Step.trunc' {v:Bool} {w0 w:World} {MM M:Nat→Prop} {bs0 bs:Bs} {hp0 hp junk:List Blk} (hl:hp0.length≤hp.length) (hst:Step v w0 MM bs0 hp0 w (Mof M bs) bs (hp++junk)):Step v w0 MM bs0 hp0 w (Mof M (bs.take hp.length)) (bs.take hp.length) hp:=by
 have hev:Evo (Mof M bs) (Mof M (bs.take hp.length)) w w:=Evo.more w fun b _=>Mof_take
 refine ⟨hst.evo.trans hev,by omega,?_,?_,?_,fun hv => ?_⟩
 ·
  intro id cs h1 h2
  rw [at_take (by omega)]
  exact hst.box id cs h1 (by rw [look_app (by omega)]; exact h2)
 ·
  intro id b k u es h1 h2
  have hlt:id<hp0.length:=look_lt (by rw [h2]; simp)
  obtain ⟨k1,es',k2⟩:=hst.map id b k u es h1 h2
  exact ⟨by rw [at_take (by omega)]; exact k1,es',by rw [← look_app (junk:=junk) (by omega)]; exact k2⟩
 ·
  intro id al cs hid h
  rw [at_take (by omega)]
  exact hst.own id al cs hid (by rw [look_app (by omega)]; exact h)
 ·
  have ho:=hst.only hv
  exact ⟨ho.old,fun b hb hn j hj=>ho.new b hb hn j (at_take' hj),fun j l ys i st ht=>ho.tr j l ys i st (by rw [look_app (look_lt (by rw [ht]; simp))]; exact ht)⟩
theorem Stays.trunc {w0 w:World} {bs0 bs:Bs} {hp0 hp junk:List Blk} {D l:Nat} {B:Nat→Prop} (h:Stays w0 M0 bs0 hp0 D l B w bs (hp++junk)) (hl:hp0.length≤hp.length) (hb:hp.all (fun b=>b.below hp.length)=true):Stays w0 M0 bs0 hp0 D l B w (bs.take hp.length) hp :=
  ⟨h.hr.trunc hb,Step.trunc' hl h.st,⟨h.only.old,fun b hb hn j hj=>h.only.new b hb hn j (at_take' hj),fun j l ys i st ht=>h.only.tr j l ys i st (by rw [look_app (look_lt (by rw [ht]; simp))]; exact ht)⟩,
   fun l xs i st ht=>h.tr l xs i st (by rw [look_app (look_lt (by rw [ht]; simp))]; exact ht),h.dD.evo (Evo.more w fun b _=>Mof_take)⟩
def roundK (KJ:Exit→List Blk→Prop) (R:List Blk→Prop) (n:Nat):Exit→St→Prop
 | .normal,s=>∃ hp',TrT n s.hp hp'∧R hp'
 | .ret,s=>KJ .ret s.hp
 | .exit id,s=>KJ (.exit id) s.hp
 | .goto t,s=>KJ (.goto t) s.hp
 | _,_=>False
theorem XC_ok (hg:g.good P) (hy:g.y=false) (hm:P.follows .mixedOrders=true) {KJ:Exit→List Blk→Prop} {R:Nat→List Blk→Prop} {fn:FuncId} {tmps:Array Value} {ps:Array Tmp} {assign body:Code} {w0:World} {bs0:Bs} {hp0:List Blk} {D l0:Nat} {xs0:List (List AV)} {e0:Env}
  (he0:relEnv w0 (Mof M0 bs0) bs0 hp0 e0 { tmps:=tmps,defers:=[] }) (hN:tmps.size=N) (hps:∀ p∈ps.toList,p<N) (hoka:codeOk' L g.ye N assign=true) (hokb:codeOk' L g.ye N body=true)
  (hround:∀ i args hp,xs0[i]?=some args→R i hp→args.length=ps.size∧vc P g.round X0 N L assign ⟨psE ps.toList args e0,hp⟩ (thenK (fun s1=>vc P g.round X0 N L body s1 (roundK KJ (R (i+1)) hp0.length)) (fun _ _=>False))) :
  XOk P (XC KJ R fn tmps ps assign body w0 M0 bs0 hp0 D l0 xs0):=by
 refine ⟨fun h h1 h2 h3 h4 h4d h5 h6 h7=>XC_stable h h1 h2 h3 h4 h4d h5 h6 h7,?_⟩
 rintro l xs i w MI B args vs ⟨rfl,rfl,bs,hp,pe,hMI,hrec,hBl,hbl,hl0,hB0,hS,h1,_⟩ hi hMI0 hB hargs
 obtain ⟨rfl,hR⟩:=h1 rfl
 obtain ⟨hlen,hvc⟩:=hround i args hp hi hR
 have hll:l<w.heap.size:=(Array.getElem?_eq_some_iff.1 hrec).1
 simp only [if_neg,Bool.false_eq_true,not_false_eq_true] at hrec
 have hy':=run_yield (P:=P) (args:=vs.toArray) hrec (by have:=hargs.length; simp [recOf]; omega)
 refine ⟨fn,_,assign,body,hy',fun n r=>roundIn_of_wpIn trivial ?_⟩
 have hgr:g.round.good P:=hg
 have hA:=vc_sound (L:=L) (N:=N) hgr X0_ok hm assign hoka _ _ hvc
 have hsub:∀ b,Mof (fun b=>M0 b∨b=l∨B b) bs b→(fun b=>MI b∨B b) b:=by
  rintro b ((hb | hb | hb) | hb)
  ·
   exact .inl ((hMI b).2 (.inl hb))
  ·
   exact .inl ((hMI b).2 (.inr (.inr hb)))
  ·
   exact .inr hb
  ·
   exact .inl ((hMI b).2 (.inr (.inl hb)))
 obtain ⟨q1,q2⟩:=psE_rel [] ps.toList args vs e0 tmps ((all2_weaken hsub hargs).imp fun x v h=>relAV_lift (bs:=bs) (hp:=hp) h) (by rw [hN]; exact hps) (relEnv_step hS.st he0)
 have htm:(ps.zip vs.toArray).foldl (fun t (x:Tmp×Value)=>t.setIfInBounds x.1 x.2) tmps=(ps.toList.zip vs).foldl (fun t (p,v)=>t.setIfInBounds p v) tmps:=zip_foldl ps vs tmps
 have hrel:Rel P X0 N (some (0,[])) w (fun b=>M0 b∨b=l∨B b) bs { tmps:=(ps.toList.zip vs).foldl (fun t (p,v)=>t.setIfInBounds p v) tmps,defers:=[] } ⟨psE ps.toList args e0,hp⟩ :=
  ⟨hS.hr,fun l xs i st ht=>absurd ht (hS.tr l xs i st),q1,q2.trans hN,⟨Nat.zero_le _,[],rfl,.nil,by simp⟩⟩
 have hFW:(FW r).inRound l=FW (some l):=rfl
 rw [hFW]
 have hgoal:=hA n (some l) (some (0,[])) _ bs _ w ⟨by simp [G.round],by simp [G.round,hy]⟩ hrel
 rw [← htm] at hgoal
 refine wpIn_mono hgoal ?_
 rintro e a1 w1 ⟨s1,M1,bs1,hK1,hrel1,hnx1⟩
 obtain rfl:M1=_:=hnx1.eq hy
 cases e with
 | normal =>
  have hst1:Step false w (Mof (fun b=>M0 b∨b=l∨B b) bs) bs hp w1 (Mof (fun b=>M0 b∨b=l∨B b) bs1) bs1 s1.hp:=by have:=hnx1.st; rwa [show g.round.y=false from hy] at this
  have hS1:=hS.step hrel1.hr hst1
  have ho1:=hst1.only rfl
  have hl1:¬ inBs bs1 l:=fun ⟨id,h⟩=>ho1.new l hll (fun id h=>hbl ⟨id,h⟩) id h
  have hrec1:w1.heap[l]?=some (.loop (recOf fn tmps ps assign body D .ready none)):=(ho1.old l hll fun id h=>hbl ⟨id,h⟩).trans hrec
  have hll1:l<w1.heap.size:=(Array.getElem?_eq_some_iff.1 hrec1).1
  refine ⟨_,run_beginRound hrec1 rfl,?_⟩
  have hS2:=hS1.record hl0 hl1 hll1 hrec1 ({ recOf fn tmps ps assign body D .ready none with state:=.busy })
  have hev2:Evo (Mof (fun b=>M0 b∨b=l∨B b) bs1) (Mof (fun b=>M0 b∨b=l∨B b) bs1) w1 (w1.putObj l (.loop { recOf fn tmps ps assign body D .ready none with state:=.busy })):=Evo.putObj _ (.inl (.inr (.inl rfl)))
  obtain ⟨_,hst2⟩:=hrel1.hr.keep' hev2 (fun id b hb=>World.putObj_heap_other fun e=>hl1 ⟨id,e▸hb⟩) (fun b hb=>by have:=hrel1.hr.m0 b hb; simpa using this) hrel1.hr.out
  have hB2:=vc_sound (L:=L) (N:=N) hgr X0_ok hm body hokb _ _ hK1
  have hrel2:Rel P X0 N (some (0,[])) (w1.putObj l (.loop { recOf fn tmps ps assign body D .ready none with state:=.busy })) (fun b=>M0 b∨b=l∨B b) bs1 a1 s1 :=
   ⟨hS2.hr,fun l xs i st ht=>absurd ht (hS2.tr l xs i st),relEnv_step hst2 hrel1.env,hrel1.size,hrel1.df.evo hev2⟩
  refine wpIn_mono (hB2 n (some l) (some (0,[])) _ bs1 a1 _ ⟨by simp [G.round],by simp [G.round,hy]⟩ hrel2) ?_
  rintro e a2 w2 ⟨s2,M2,bs2,hK2,hrel3,hnx2⟩
  obtain rfl:M2=_:=hnx2.eq hy
  have hst3:=hnx2.st
  rw [show g.round.y=false from hy] at hst3
  have hS3:=hS2.step hrel3.hr hst3
  have ho3:=hst3.only rfl
  have hl2:¬ inBs bs2 l:=fun ⟨id,h⟩=>ho3.new l (by simpa using hll1) (fun id h=>hl1 ⟨id,h⟩) id h
  have hrec2:w2.heap[l]?=some (.loop { recOf fn tmps ps assign body D .ready none with state:=.busy }):=(ho3.old l (by simpa using hll1) fun id h=>hl1 ⟨id,h⟩).trans (World.putObj_heap_same hll1)
  have hll2:l<w2.heap.size:=(Array.getElem?_eq_some_iff.1 hrec2).1
  have fin:∀ (bsF:Bs) (hpF:List Blk),Stays w0 M0 bs0 hp0 D l B w2 bsF hpF→(∀ b,inBs bsF b→inBs bs2 b)→∀ (jump:Option Code),(jump=none→R (i+1) hpF)→(∀ c,jump=some c→∃ e,jumpC e=some c∧KJ e hpF) →
    ∃ v w',(Instr.endRound l jump).run P w2=.ok v w'∧∃ b M0',Ending.returned v=.returned (.bool b)∧XC KJ R fn tmps ps assign body w0 M0 bs0 hp0 D l xs l xs (i+1) (!b) w' M0' B∧YStep w MI B w' M0':=by
   intro bsF hpF hSF hle jump hj1 hj2
   have hlF:¬ inBs bsF l:=fun h=>hl2 (hle l h)
   refine ⟨_,_,run_endRound jump hrec2,jump.isNone,(fun b=>M0 b∨inBs bsF b∨b=l),rfl,?_,?_⟩
   ·
    have hS4:=hSF.record hl0 hlF hll2 hrec2 ({ recOf fn tmps ps assign body D .ready none with state:=if jump.isNone then .ready else .done,pending:=jump })
    refine ⟨rfl,rfl,bsF,hpF,jump,fun b=>Iff.rfl,?_,hBl,hlF,hl0,hB0,hS4,?_,?_⟩
    ·
     rw [World.putObj_heap_same hll2]
     cases jump <;> rfl
    ·
     intro hb
     cases jump with
     | none=>exact ⟨rfl,hj1 rfl⟩
     | some c=>simp at hb
    ·
     intro hb
     cases jump with
     | none=>simp at hb
     | some c =>
      obtain ⟨e,k1,k2⟩:=hj2 c rfl
      exact ⟨e,c,rfl,k1,k2⟩
   ·
    have hset1:∀ b,Mof (fun b=>M0 b∨b=l∨B b) bs b↔(fun b=>MI b∨B b) b:=fun b=>⟨hsub b,by
     rintro (hb | hb)
     ·
      rcases (hMI b).1 hb with hb | hb | hb
      ·
       exact .inl (.inl hb)
      ·
       exact .inr hb
      ·
       exact .inl (.inr (.inl hb))
     ·
      exact .inl (.inr (.inr hb))⟩
    have hset2:∀ b,Mof (fun b=>M0 b∨b=l∨B b) bsF b↔(fun b=>(M0 b∨inBs bsF b∨b=l)∨B b) b:=fun b=>⟨by
     rintro ((hb | hb | hb) | hb)
     ·
      exact .inl (.inl hb)
     ·
      exact .inl (.inr (.inr hb))
     ·
      exact .inr hb
     ·
      exact .inl (.inr (.inl hb)),by
     rintro ((hb | hb | hb) | hb)
     ·
      exact .inl (.inl hb)
     ·
      exact .inr hb
     ·
      exact .inl (.inr (.inl hb))
     ·
      exact .inl (.inr (.inr hb))⟩
    have hev4:Evo (Mof (fun b=>M0 b∨b=l∨B b) bs2) (Mof (fun b=>M0 b∨b=l∨B b) bs2) w2 (w2.putObj l (.loop { recOf fn tmps ps assign body D .ready none with state:=if jump.isNone then .ready else .done,pending:=jump })):=Evo.putObj _ (.inl (.inr (.inl rfl)))
    have hevF:Evo (Mof (fun b=>M0 b∨b=l∨B b) bs2) (Mof (fun b=>M0 b∨b=l∨B b) bsF) _ _:=Evo.more (w2.putObj l (.loop { recOf fn tmps ps assign body D .ready none with state:=if jump.isNone then .ready else .done,pending:=jump })) fun b _ hb=>by
     rcases hb with hb | hb
     ·
      exact .inl hb
     ·
      exact .inr (hle b hb)
    have hev:=(((hst1.evo.trans hev2).trans hst3.evo).trans hev4).trans hevF
    have hBb:∀ b,B b→b≠l∧¬ inBs bs b∧¬ inBs bs1 b∧¬ inBs bs2 b:=fun b hb=>by
     have h0:¬ inBs bs b:=fun h=>(hB b hb).2 ((hMI b).2 (.inr (.inl h)))
     have h1:¬ inBs bs1 b:=fun ⟨id,h⟩=>ho1.new b (hB b hb).1 (fun id h=>h0 ⟨id,h⟩) id h
     have h2:¬ inBs bs2 b:=fun ⟨id,h⟩=>ho3.new b (by have:=hst1.evo.size; have:=(hB b hb).1; simp; omega) (fun id h=>h1 ⟨id,h⟩) id h
     exact ⟨fun e=>hBl (e▸hb),h0,h1,h2⟩
    refine ⟨hev.congr hset1 hset2,fun b hb => ?_,?_,?_⟩
    ·
     obtain ⟨g1,g2,g3,g4⟩:=hBb b hb
     have hb1:=(hB b hb).1
     rw [World.putObj_heap_other g1,ho3.old b (by have:=hst1.evo.size; simp; omega) (fun id h=>g3 ⟨id,h⟩),World.putObj_heap_other g1,ho1.old b hb1 (fun id h=>g2 ⟨id,h⟩)]
    ·
     rintro b (hb | hb | hb)
     ·
      have:=hSF.hr.m0 b (.inl hb); simpa using this
     ·
      obtain ⟨id,hb⟩:=hb; have:=hSF.hr.lt id b hb; simpa using this
     ·
      subst hb; simpa using hll2
    ·
     intro b hb hm
     obtain ⟨g1,g2,g3,g4⟩:=hBb b hb
     rcases hm with hm | hm | hm
     ·
      exact (hB b hb).2 ((hMI b).2 (.inl hm))
     ·
      exact g4 (hle b hm)
     ·
      exact g1 hm
  cases e with
  | normal =>
   obtain ⟨hp',htr,hR⟩:=hK2
   rcases htr with rfl | ⟨junk,heq,hlen,hbel⟩
   ·
    exact fin bs2 s2.hp hS3 (fun _ h=>h) none (fun _=>hR) (by simp)
   ·
    rw [heq] at hS3
    exact fin _ hp' (hS3.trunc hlen hbel) (fun b ⟨j,hj⟩=>⟨j,at_take' hj⟩) none (fun _=>hR) (by simp)
  | ret=>exact fin bs2 s2.hp hS3 (fun _ h=>h) (some .ret) (by simp) (fun c hc=>by injection hc with hc; subst hc; exact ⟨.ret,rfl,hK2⟩)
  | exit id=>exact fin bs2 s2.hp hS3 (fun _ h=>h) (some (.exit id)) (by simp) (fun c hc=>by injection hc with hc; subst hc; exact ⟨.exit id,rfl,hK2⟩)
  | goto t=>exact fin bs2 s2.hp hS3 (fun _ h=>h) (some (.goto t)) (by simp) (fun c hc=>by injection hc with hc; subst hc; exact ⟨.goto t,rfl,hK2⟩)
  | panic ch=>exact hK2.elim
  | outgrown=>exact hK2.elim
 | _=>exact hK1.elim
theorem Wp.rangeFunc (hg:g.good P) (hm:P.follows .mixedOrders=true) (hy:g.y=false) (htop:g.top=true) {gop:Operand} {ps:Array Tmp} {assign body:Code} {s:St} {K:Exit→St→Prop} (f:FuncId) (caps:List (Sigma Ty.T))
  (hop:oper s.e gop=⟨true,.v (.s (.fnp f caps))⟩) (ic:ItCon) (hit:ItOk P f ic) (hpre:ic.pre (caps.map capAV)) (hps:∀ p∈ps.toList,p<N) (hoka:codeOk' L g.ye N assign=true) (hokb:codeOk' L g.ye N body=true) (htr:∀ l xs i st,Blk.look s.hp 0≠.trace l xs i st)
  (R:Nat→List Blk→Prop) (h0:R 0 s.hp)
  (hround:∀ i args hp,(ic.xs (caps.map capAV))[i]?=some args→R i hp→args.length=ps.size ∧
   vc P g.round X0 N L assign ⟨psE ps.toList args s.e,hp⟩ (thenK (fun s1=>vc P g.round X0 N L body s1 (roundK (fun e hp=>K e ⟨s.e,hp⟩) (R (i+1)) s.hp.length)) (fun _ _=>False)))
  (hend:∀ hp,R (ic.xs (caps.map capAV)).length hp→K .normal ⟨s.e,hp⟩):Wp P g X0 N (.rangeFunc gop ps assign body) s K:=by
 intro n r n0 M0 bs a w hT hr
 obtain rfl:r=none:=hT.1 htop
 refine wpIn_rangeFunc ?_
 intro fn hfn
 have ho:=oper_rel hr.env gop
 unfold opRV at ho
 rw [hop] at ho
 obtain ⟨qs,hev,hq⟩:=ho rfl
 obtain ⟨W1,hW1⟩:∃ W1,(w.alloc (.deferred (some []))).alloc (.loop (recOf fn a.tmps ps assign body w.heap.size .ready none))=W1:=⟨_,rfl⟩
 have hL1:W1.heap[w.heap.size+1]?=some (.loop (recOf fn a.tmps ps assign body w.heap.size .ready none)):=by
  rw [← hW1]; have:=World.alloc_heap_new (w.alloc (.deferred (some []))) (.loop (recOf fn a.tmps ps assign body w.heap.size .ready none)); rwa [World.size_alloc] at this
 have hK1:W1.heap[w.heap.size]?=some (.deferred (some [])):=by
  rw [← hW1]; exact (Below.heap_alloc _ _ _ (by simp)).trans (World.alloc_heap_new w _)
 have hsz1:W1.heap.size=w.heap.size+2:=by rw [← hW1]; simp
 have hev0:Evo (Mof M0 bs) (Mof (fun b=>M0 b∨b=w.heap.size+1∨False) bs) w W1:=by
  have e1:Evo (Mof M0 bs) (Mof M0 bs) w W1:=by rw [← hW1]; exact (Evo.alloc _ _ _).trans (Evo.alloc _ _ _)
  refine ⟨e1.os,e1.tape,e1.output,e1.size,e1.drawn,e1.block,fun b hb hn hm => ?_⟩
  rcases hm with (hm | hm | hm) | hm
  ·
   exact hn (.inl hm)
  ·
   omega
  ·
   exact hm
  ·
   exact hn (.inr hm)
 have hold:∀ b,b<w.heap.size→W1.heap[b]?=w.heap[b]?:=fun b hb=>by
  rw [← hW1]; exact (Below.heap_alloc _ _ _ (by simp; omega)).trans (Below.heap_alloc w _ b hb)
 obtain ⟨k1,k2⟩:=hr.hr.keep' (M0':=fun b=>M0 b∨b=w.heap.size+1∨False) hev0 (fun id b hb=>hold b (hr.hr.lt id b hb)) (fun b hb=>by
  rcases hb with hb | hb | hb
  ·
   have:=hr.hr.m0 b hb; omega
  ·
   omega
  ·
   exact hb.elim) (fun id b hb hm=>by
  rcases hm with hm | hm | hm
  ·
   exact hr.hr.out id b hb hm
  ·
   have:=hr.hr.lt id b hb; omega
  ·
   exact hm)
 have hS:Stays w M0 bs s.hp w.heap.size (w.heap.size+1) (fun _=>False) W1 bs s.hp:=by
  refine ⟨k1,k2,⟨fun b hb _=>hold b hb,fun b _ h=>h,fun _ _ _ _ _ h=>h⟩,htr,⟨Nat.zero_le _,[w.heap.size],rfl,by simp,?_⟩⟩
  intro D hD
  simp only [List.mem_singleton] at hD
  subst hD
  refine ⟨Nat.zero_le _,by omega,?_,hK1⟩
  rintro ((hm | hm | hm) | ⟨id,hm⟩)
  ·
   have:=hr.hr.m0 _ hm; omega
  ·
   omega
  ·
   exact hm
  ·
   have:=hr.hr.lt id _ hm; omega
 have hXok:XOk P (XC (fun e hp=>K e ⟨s.e,hp⟩) R fn a.tmps ps assign body w M0 bs s.hp w.heap.size (w.heap.size+1) (ic.xs (caps.map capAV))) :=
  XC_ok (L:=L) hg hy hm (e0:=s.e) (fun t x hx=>hr.env t x hx) hr.size hps hoka hokb hround
 have hrun:=hit.1
 refine ⟨w.heap.size+1,[markOf w.heap.size],W1,{ target:=.fn (.func f) qs.toArray,args:=#[.func (.yield (w.heap.size+1)) #[] #[]] },W1,f,
  #[.func (.yield (w.heap.size+1)) #[] #[]]++qs.toArray,W1,?_,?_,?_,?_,fun hd=>by simp [FW] at hd,?_⟩
 ·
  rw [← hW1]; exact run_enterLoop_outer _ _ _ _ _
 ·
  simp only [resolve,hev]
  simp [go_sem]
 ·
  intro f' _; trivial
 ·
  simp [invoke,go_sem,hrun]
 ·
  refine (hit.2 _ (w.heap.size+1) W1 (fun b=>M0 b∨inBs bs b∨b=w.heap.size+1) (caps.map capAV) qs hXok hpre ?_ ?_ ?_ (n - 1)).mono ?_
  ·
   rintro b (hb | ⟨id,hb⟩ | hb)
   ·
    have:=hr.hr.m0 b hb; omega
   ·
    have:=hr.hr.lt id b hb; omega
   ·
    omega
  ·
   refine caps_rel (hq.imp fun c p hp=>FrozenAt.evo (M':=fun b=>M0 b∨inBs bs b∨b=w.heap.size+1) (hev0.congr (fun b=>Iff.rfl) fun b => ?_) hp)
   constructor
   ·
    rintro ((h | h | h) | h)
    ·
     exact .inl h
    ·
     exact .inr (.inr h)
    ·
     exact h.elim
    ·
     exact .inr (.inl h)
   ·
    rintro (h | h | h)
    ·
     exact .inl (.inl h)
    ·
     exact .inr h
    ·
     exact .inl (.inr (.inl h))
  ·
   exact ⟨rfl,rfl,bs,s.hp,none,fun b=>Iff.rfl,hL1,fun h=>h,fun ⟨id,h⟩=>by have:=hr.hr.lt id _ h; omega,by omega,fun b h=>h.elim,hS,fun _=>⟨rfl,h0⟩,by simp⟩
  ·
   rintro e w3 ⟨v,i,st,MI3,B3,rfl,⟨_,_,bs3,hp3,pe,hMI,hrec,hBl,hbl,hl0,hB0,hS3,hs1,hs2⟩,hst⟩
   have hll:w.heap.size+1<w3.heap.size:=(Array.getElem?_eq_some_iff.1 hrec).1
   refine ⟨pe,_,run_endLoop hrec (by cases st <;> simp [recOf]),?_⟩
   have hS4:=hS3.record hl0 hbl hll hrec ({ recOf fn a.tmps ps assign body w.heap.size (if st then .done else .ready) pe with state:=.exhausted })
   have hev5:Evo (Mof (fun b=>M0 b∨b=w.heap.size+1∨B3 b) bs3) (Mof M0 bs3) (w3.putObj (w.heap.size+1) (.loop { recOf fn a.tmps ps assign body w.heap.size (if st then .done else .ready) pe with state:=.exhausted })) (w3.putObj (w.heap.size+1) (.loop { recOf fn a.tmps ps assign body w.heap.size (if st then .done else .ready) pe with state:=.exhausted })) :=
    Evo.more _ fun b _ h=>h.elim (fun h=>.inl (.inl h)) .inr
   obtain ⟨j1,j2⟩:=hS4.hr.keep' hev5 (fun _ _ _=>rfl) (fun b hb=>hS4.hr.m0 b (.inl hb)) (fun id b hb hm=>hS4.hr.out id b hb (.inl hm))
   have hfull:=hS4.st.trans j2
   have hx4:XR X0 (w3.putObj (w.heap.size+1) (.loop { recOf fn a.tmps ps assign body w.heap.size (if st then .done else .ready) pe with state:=.exhausted })) M0 bs3 hp3:=fun l xs i st ht=>absurd ht (hS4.tr l xs i st)
   have hrel:Rel P X0 N n0 (w3.putObj (w.heap.size+1) (.loop { recOf fn a.tmps ps assign body w.heap.size (if st then .done else .ready) pe with state:=.exhausted })) M0 bs3 { a with defers:=[markOf w.heap.size]++a.defers } ⟨s.e,hp3⟩:=by
    refine ⟨j1,hx4,fun t x hx=>relEnv_step hfull hr.env t x hx,hr.size,?_⟩
    cases hn0:n0 with
    | none=>have:=hT.2; simp [hn0,hy] at this
    | some nb =>
     obtain ⟨m0,B0⟩:=nb
     have hd:=hr.df
     rw [hn0] at hd
     obtain ⟨d1,Ds,d2,d3,d4⟩:=hd
     have hd':DefOk (some (m0,B0)) w (Mof M0 bs) a.defers:=⟨d1,Ds,d2,d3,d4⟩
     obtain ⟨f1,Ds',f2,f3,f4⟩:=hd'.evo hfull.evo
     obtain ⟨_,Es,g2,g3,g4⟩:=hS4.dD.evo hev5
     have hEs:Es=[w.heap.size]:=by
      cases Es with
      | nil=>simp [markOf] at g2
      | cons x Es =>
       cases Es with
       | nil=>simp [markOf] at g2; rw [g2]
       | cons y Es=>simp at g2
     subst hEs
     refine ⟨f1,w.heap.size::Ds,by rw [d2]; rfl,?_,?_⟩
     ·
      refine List.nodup_cons.2 ⟨fun h => ?_,d3⟩
      have:=(d4 _ h).2.1
      omega
     ·
      intro E hE
      rcases List.mem_cons.1 hE with rfl | hE
      ·
       exact ⟨d1,(g4 _ (by simp)).2⟩
      ·
       have hmap:Ds'=Ds:=by
        have:Ds'.map markOf=Ds.map markOf:=List.append_cancel_right (f2.symm.trans d2)
        exact (List.map_inj_right (fun x y h=>by simpa [markOf] using h)).1 this
       rw [hmap] at f4
       exact f4 E hE
   have hnx:Nx P g X0 w M0 bs s.hp (w3.putObj (w.heap.size+1) (.loop { recOf fn a.tmps ps assign body w.heap.size (if st then .done else .ready) pe with state:=.exhausted })) M0 bs3 hp3 :=
    ⟨j1,hx4,⟨hfull.evo,hfull.len,hfull.box,hfull.map,hfull.own,fun _=>hS4.only⟩,fun _=>rfl⟩
   cases st with
   | false =>
    obtain ⟨rfl,hR⟩:=hs1 rfl
    rw [hst rfl] at hR
    exact ⟨⟨s.e,hp3⟩,M0,bs3,hend _ hR,hrel,hnx⟩
   | true =>
    obtain ⟨e,c,rfl,hc,hK⟩:=hs2 rfl
    cases e with
    | ret=>injection hc with hc; subst hc; exact wpIn_ret ⟨⟨s.e,hp3⟩,M0,bs3,hK,hrel,hnx⟩
    | exit id=>injection hc with hc; subst hc; exact wpIn_exit ⟨⟨s.e,hp3⟩,M0,bs3,hK,hrel,hnx⟩
    | goto t=>injection hc with hc; subst hc; exact wpIn_goto ⟨⟨s.e,hp3⟩,M0,bs3,hK,hrel,hnx⟩
    | _=>simp [jumpC] at hc
theorem round_td (t:TypeId):g.round.td t=g.td t:=rfl
theorem round_y:g.round.y=g.y:=rfl
theorem round_Γ:g.round.Γ=g.Γ:=rfl
end
abbrev vI (n:Int):SL:=⟨true,.v (.s (.int .i64 n))⟩
abbrev vB (b:Bool):SL:=⟨true,.v (.s (.bool b))⟩
abbrev vS (t:Ty) (xs:List t.T) (ex:Bool):SL:=⟨true,.v (.s (.sl t xs ex))⟩
abbrev aI (n:Int):AV:=.s (.int .i64 n)
abbrev aB (b:Bool):AV:=.s (.bool b)
abbrev aS (t:Ty) (xs:List t.T) (ex:Bool):AV:=.s (.sl t xs ex)
theorem getD_lt {α:Type} {xs:List α} {i:Nat} (h:i<xs.length) (d:α):xs[i]?.getD d=xs[i]:=by simp [h]
structure Dum {α:Type} (x:α):Type where
section
variable {P:Program} {g:G} {X:XT} {N:Nat} {L:Cfg}
def WpD (P:Program) (g:G) (X:XT) (N:Nat) (c:Code) (s:St) (K:Exit→St→Prop) (_:Dum (c,K)):Prop:=Wp P g X N c s K
def thenKD (K1:St→Prop) (K:Exit→St→Prop) (_:Dum (K1,K)) (e:Exit) (s:St):Prop:=thenK K1 K e s
def inBlockKD (id:Nat) (K:Exit→St→Prop) (_:Dum K) (e:Exit) (s:St):Prop:=inBlockK id K e s
def noGotoKD (K:Exit→St→Prop) (_:Dum K) (e:Exit) (s:St):Prop:=noGotoK K e s
def roundKD (KJ:Exit→List Blk→Prop) (R:List Blk→Prop) (n:Nat) (_:Dum (KJ,R)) (e:Exit) (s:St):Prop:=roundK KJ R n e s
def opVCD (g:G) (e:Env) (hp:List Blk) (o:Oper) (K:SL→List Blk→Prop) (_:Dum (o,K)):Prop:=opVC g e hp o K
def effVCD (hp:List Blk) (c:ECon) (args:List AV) (K:RV→List Blk→Prop) (_:Dum K):Prop:=effVC hp c args K
def yieldVCD (hp:List Blk) (l:Nat) (args:List AV) (K:Bool→List Blk→Prop) (_:Dum K):Prop:=yieldVC hp l args K
def vcOpsD (g:G) (ops l:List Oper) (e:Env) (hp:List Blk) (K:Env→List Blk→Prop) (_:Dum ((ops,l),K)):Prop:=vcOps g ops l e hp K
def vcAllD (g:G) (ops:List Oper) (f:Nat) (done:List Nat) (e:Env) (hp:List Blk) (K:Env→List Blk→Prop) (_:Dum (ops,K)):Prop:=vcAll g ops f done e hp K
def vcFlD (g:G) (ops:List Oper) (ps:List (Nat×Nat)) (l:List Oper) (e:Env) (hp:List Blk) (acc:List (Env×List Blk)) (_:Dum (ops,l)):Prop:=vcFl g ops ps l e hp acc
def flPairs (g:G) (ops:List Oper) (l:List (Env×List Blk)):(ps:List (Nat×Nat))→Dum ops→Prop
 | [],_=>True
 | p::r,_=>(match l[p.1]?,l[p.2]? with
  | some s,some s'=>eqAt g ops p.1 s s'
  | _,_=>False)∧flPairs g ops l r ⟨⟩
def flOfD (g:G) (fl:List (Nat×List (Nat×Nat))) (id:Nat) (ops:List Oper) (s:St) (_:Dum ops):Prop:=flOf g fl id ops s
def vcFrD (g:G) (ops:List Oper) (fr:List (Nat×List Nat)) (i:Nat) (l:List Oper) (s:St) (K:St→Prop) (KP:Value→St→Prop) (_:Dum ((ops,l),(K,KP))):Prop:=vcFr g ops fr i l s K KP
def frzSlotD (k:Nat) (s:St) (K:St→Prop) (_:Dum K):Prop:=frzSlot k s K
def epsSlotD (k:Nat) (s:St) (K:St→Prop) (_:Dum K):Prop:=epsSlot k s K
def epsSlotsD (l:List Nat) (s:St) (K:St→Prop) (_:Dum K):Prop:=epsSlots l s K
def frzSlotsD (l:List Nat) (s:St) (K:St→Prop) (_:Dum K):Prop:=frzSlots l s K
def vcD (P:Program) (g:G) (X:XT) (N:Nat) (L:Cfg) (c:Code) (s:St) (K:Exit→St→Prop) (_:Dum ((c,L),K)):Prop:=vc P g X N L c s K
def isCutD (l:List Nat) (x:Code) (_:Dum x):Bool:=isCut l x
def firstRegD (x:Code) (_:Dum x):Option Nat:=firstReg x
def vcCondD (x:SL) (A B:Prop):Prop:=vcCond x A B
variable {K:Exit→St→Prop} {K1:St→Prop} {s:St}
theorem thenKD_normal {d:Dum (K1,K)}:thenKD K1 K d .normal s=K1 s:=rfl
theorem thenKD_exit {d:Dum (K1,K)} {id:Nat}:thenKD K1 K d (.exit id) s=K (.exit id) s:=rfl
theorem thenKD_goto {d:Dum (K1,K)} {id:Nat}:thenKD K1 K d (.goto id) s=K (.goto id) s:=rfl
theorem thenKD_ret {d:Dum (K1,K)}:thenKD K1 K d .ret s=K .ret s:=rfl
theorem inBlockKD_normal {i:Nat} {d:Dum K}:inBlockKD i K d .normal s=K .normal s:=rfl
theorem inBlockKD_exit {i j:Nat} {d:Dum K}:inBlockKD i K d (.exit j) s=if j=i then K .normal s else K (.exit j) s:=rfl
theorem inBlockKD_goto {i j:Nat} {d:Dum K}:inBlockKD i K d (.goto j) s=K (.goto j) s:=rfl
theorem inBlockKD_ret {i:Nat} {d:Dum K}:inBlockKD i K d .ret s=K .ret s:=rfl
theorem noGotoKD_normal {d:Dum K}:noGotoKD K d .normal s=K .normal s:=rfl
theorem noGotoKD_exit {d:Dum K} {j:Nat}:noGotoKD K d (.exit j) s=K (.exit j) s:=rfl
theorem noGotoKD_goto {d:Dum K} {j:Nat}:noGotoKD K d (.goto j) s=False:=rfl
theorem noGotoKD_ret {d:Dum K}:noGotoKD K d .ret s=K .ret s:=rfl
theorem roundKD_normal {KJ:Exit→List Blk→Prop} {R:List Blk→Prop} {n:Nat} {d:Dum (KJ,R)}:roundKD KJ R n d .normal s=∃ hp',TrT n s.hp hp'∧R hp':=rfl
theorem roundKD_exit {KJ:Exit→List Blk→Prop} {R:List Blk→Prop} {n:Nat} {d:Dum (KJ,R)} {j:Nat}:roundKD KJ R n d (.exit j) s=KJ (.exit j) s.hp:=rfl
theorem roundKD_goto {KJ:Exit→List Blk→Prop} {R:List Blk→Prop} {n:Nat} {d:Dum (KJ,R)} {j:Nat}:roundKD KJ R n d (.goto j) s=KJ (.goto j) s.hp:=rfl
theorem roundKD_ret {KJ:Exit→List Blk→Prop} {R:List Blk→Prop} {n:Nat} {d:Dum (KJ,R)}:roundKD KJ R n d .ret s=KJ .ret s.hp:=rfl
def eptrOf:Sigma Ty.T→SV
 | ⟨t,x⟩=>.eptr t x
theorem eptrOf_mk {t:Ty} {x:t.T}:eptrOf ⟨t,x⟩=.eptr t x:=rfl
theorem epsSlotsD_nil {d:Dum K1}:epsSlotsD [] s K1 d=K1 s:=rfl
theorem epsSlotsD_cons {k:Nat} {r:List Nat} {d:Dum K1}:epsSlotsD (k::r) s K1 d=epsSlotD k s (fun s'=>epsSlotsD r s' K1 ⟨⟩) ⟨⟩:=rfl
theorem epsSlotD_eq {k:Nat} {d:Dum K1}:epsSlotD k s K1 d=match look s.e k with
 | some ⟨true,.v (.s (.box b 0))⟩=>match boxCap s.hp b with
  | some c=>K1 ⟨(k,⟨true,.v (.s (eptrOf c))⟩)::s.e,s.hp.set b .dead⟩
  | none=>False
 | _=>K1 s:=rfl
theorem frzSlotsD_nil {d:Dum K1}:frzSlotsD [] s K1 d=K1 s:=rfl
theorem frzSlotsD_cons {k:Nat} {r:List Nat} {d:Dum K1}:frzSlotsD (k::r) s K1 d=frzSlotD k s (fun s'=>frzSlotsD r s' K1 ⟨⟩) ⟨⟩:=rfl
theorem frzSlotD_eq {k:Nat} {d:Dum K1}:frzSlotD k s K1 d=match look s.e k with
 | some ⟨true,.v (.s (.own t id n))⟩=>match Blk.look s.hp id with
  | .arr _ cs=>∃ xs:List t.T,cs=t.flats xs∧n=xs.length∧K1 ⟨(k,⟨true,.v (.s (.sl t xs false))⟩)::s.e,s.hp.set id .dead⟩
  | _=>False
 | some ⟨true,.v (.s (.pre t id n m))⟩=>match Blk.look s.hp id with
  | .arr _ cs=>∃ xs:List t.T,cs=t.flats xs∧n=xs.length∧K1 ⟨(k,⟨true,.v (.s (.sl t (xs.take m) false))⟩)::s.e,s.hp.set id .dead⟩
  | _=>False
 | some ⟨true,.v (.s (.box b off))⟩=>match Blk.look s.hp b with
  | .cells bc=>match bc[off]? with
   | some (.own t id n)=>match Blk.look s.hp id with
    | .arr _ cs=>∃ xs:List t.T,cs=t.flats xs∧n=xs.length∧K1 ⟨s.e,(s.hp.set b (.cells (bc.set off (.sl t xs false)))).set id .dead⟩
    | _=>False
   | _=>K1 s
  | _=>K1 s
 | _=>K1 s:=rfl
theorem yieldVCD_trace {hp:List Blk} {l l':Nat} {xs:List (List AV)} {i:Nat} {args:List AV} {KB:Bool→List Blk→Prop} {d:Dum KB}:yieldVCD (.trace l' xs i false::hp) l args KB d=(l'=l∧xs[i]?=some args∧args.all AV.pure=true∧∀ b,KB b (.trace l xs (i+1) (!b)::hp)):=rfl
theorem opVCD_eq {e:Env} {hp:List Blk} {o:Oper} {KO:SL→List Blk→Prop} {d:Dum (o,KO)}:opVCD g e hp o KO d=(okOps e o.op∧match isMem0 o.op with
 | true=>(mEv g hp e o.op).1∧KO ⟨true,(mEv g hp e o.op).2.1⟩ (mEv g hp e o.op).2.2
 | false=>match (if g.y then yieldOf g e o.op else none) with
  | some (l,args)=>yieldVCD hp l args (fun b hp'=>KO ⟨true,.v (.s (.bool b))⟩ hp') ⟨⟩
  | none=>match effOf g e o.op with
   | some (c,args)=>effVCD hp c args (fun rv hp'=>KO ⟨true,rv⟩ hp') ⟨⟩
   | none=>(pEv g hp e o.type o.op).1∧KO ⟨true,(pEv g hp e o.type o.op).2⟩ hp):=rfl
theorem effVCD_eq {hp:List Blk} {c:ECon} {args:List AV} {KE:RV→List Blk→Prop} {d:Dum KE}:effVCD hp c args KE d=(((dedup [] (args.flatMap AV.ids)).all fun id=>(Blk.look hp id).pureB)=true ∧
  c.wp (args.map (AV.ren (idx (dedup [] (args.flatMap AV.ids))))) ((dedup [] (args.flatMap AV.ids)).map (Blk.look hp)) fun rv out=>KE (rv.ren (outId (dedup [] (args.flatMap AV.ids)) hp.length)) (mergeB hp (dedup [] (args.flatMap AV.ids)) out)):=rfl
theorem vcOpsD_nil {ops:List Oper} {e:Env} {hp:List Blk} {KE:Env→List Blk→Prop} {d:Dum ((ops,([]:List Oper)),KE)}:vcOpsD g ops [] e hp KE d=KE e hp:=rfl
theorem vcOpsD_cons {ops r:List Oper} {o:Oper} {e:Env} {hp:List Blk} {KE:Env→List Blk→Prop} {d:Dum ((ops,o::r),KE)}:vcOpsD g ops (o::r) e hp KE d=match o.guard with
  | none=>opVCD g e hp o (fun x hp'=>vcOpsD g ops r (putE o.dst x e) hp' KE ⟨⟩) ⟨⟩
  | some gd=>match gcond ops e (some gd) with
   | none=>False
   | some gc=>match isMem g.ye o.op with
    | true=>(gc=true→opVCD g e hp o (fun x hp'=>vcOpsD g ops r (putE o.dst x e) hp' KE ⟨⟩) ⟨⟩)∧(gc=false→vcOpsD g ops r (putE o.dst ⟨false,.v (.s .any)⟩ e) hp KE ⟨⟩)
    | false=>(gc=true→okOps e o.op∧(pEv g hp e o.type o.op).1)∧vcOpsD g ops r (putE o.dst ⟨gc,(pEv g hp e o.type o.op).2⟩ e) hp KE ⟨⟩:=rfl
def edgA (o:Oper):List Nat:=(o.after.toList.filter (fun e=>match e.ground with | .textOnly _=>false | .gcOnly _=>false | _=>true)).map (·.on)
theorem edg_eq (o:Oper):edg o=edgA o:=by
 have h:∀ l:List Edge,l.filter (Region.binds .any)=l.filter (fun e=>match e.ground with | .textOnly _=>false | .gcOnly _=>false | _=>true):=by
  intro l
  refine List.filter_congr fun e _ => ?_
  unfold Region.binds
  cases e.ground <;> rfl
 unfold edg edgA
 rw [h]
def readyAux (done:List Nat):Nat→List Oper→List Nat
 | _,[]=>[]
 | i,o::r=>if (!done.contains i&&(edgA o).all fun k=>done.contains k)=true then i::readyAux done (i+1) r else readyAux done (i+1) r
theorem readyAux_eq (ops:List Oper) (done:List Nat):∀ (l:List Oper) (k:Nat),(∀ j:Nat,ops[k+j]?=l[j]?)→readyAux done k l=(List.range' k l.length).filter fun j => !done.contains j&&match ops[j]? with
  | some o=>(edg o).all fun k=>done.contains k
  | none=>false
 | [],k,_=>rfl
 | o::r,k,h=>by
  have h0:ops[k]?=some o:=by simpa using h 0
  have ih:=readyAux_eq ops done r (k+1) (fun j=>by have:=h (j+1); rw [show k+1+j=k+(j+1) by omega]; simpa using this)
  simp only [readyAux,List.length_cons,List.range'_succ,List.filter_cons,h0,edg_eq]
  rw [ih]
  simp only [edg_eq]
theorem readyL_eq (ops:List Oper) (done:List Nat):readyL ops done=readyAux done 0 ops:=by
 rw [readyAux_eq ops done ops 0 (fun j=>by simp),readyL,List.range_eq_range']
 rfl
theorem vcAllD_zero {ops:List Oper} {done:List Nat} {e:Env} {hp:List Blk} {KE:Env→List Blk→Prop} {d:Dum (ops,KE)}:vcAllD g ops 0 done e hp KE d=((readyAux done 0 ops).isEmpty=true∧KE e hp):=by rw [← readyL_eq]; rfl
def allAtD (g:G) (ops:List Oper) (f:Nat) (done:List Nat) (e:Env) (hp:List Blk) (K:Env→List Blk→Prop) (js:List Nat) (_:Dum (ops,K)):Prop:=allP js fun j=>match ops[j]? with
 | some o=>vcOps g ops [o] e hp fun e' hp'=>vcAll g ops f (j::done) e' hp' K
 | none=>False
theorem allAtD_nil {ops:List Oper} {f:Nat} {done:List Nat} {e:Env} {hp:List Blk} {KE:Env→List Blk→Prop} {d:Dum (ops,KE)}:allAtD g ops f done e hp KE [] d=True:=rfl
theorem allAtD_cons {ops:List Oper} {f j:Nat} {js:List Nat} {done:List Nat} {e:Env} {hp:List Blk} {KE:Env→List Blk→Prop} {d:Dum (ops,KE)}:allAtD g ops f done e hp KE (j::js) d=((match ops[j]? with
 | some o=>vcOpsD g ops [o] e hp (fun e' hp'=>vcAllD g ops f (j::done) e' hp' KE ⟨⟩) ⟨⟩
 | none=>False)∧allAtD g ops f done e hp KE js ⟨⟩):=rfl
theorem vcAllD_succ {ops:List Oper} {f:Nat} {done:List Nat} {e:Env} {hp:List Blk} {KE:Env→List Blk→Prop} {d:Dum (ops,KE)}:vcAllD g ops (f+1) done e hp KE d=(((readyAux done 0 ops).isEmpty=true→KE e hp)∧allAtD g ops f done e hp KE (readyAux done 0 ops) ⟨⟩):=by rw [← readyL_eq]; rfl
theorem vcD_skip {d:Dum ((Code.skip,L),K)}:vcD P g X N L .skip s K d=K .normal s:=rfl
theorem vcD_label {l:Nat} {d:Dum ((Code.label l,L),K)}:vcD P g X N L (.label l) s K d=K .normal s:=rfl
theorem vcD_exit {l:Nat} {d:Dum ((Code.exit l,L),K)}:vcD P g X N L (.exit l) s K d=K (.exit l) s:=rfl
theorem vcD_goto {l:Nat} {d:Dum ((Code.goto l,L),K)}:vcD P g X N L (.goto l) s K d=K (.goto l) s:=rfl
theorem vcD_ret {d:Dum ((Code.ret,L),K)}:vcD P g X N L .ret s K d=K .ret s:=rfl
theorem vcD_region {id:Nat} {ops:List Oper} {dr:Bool} {d:Dum ((Code.region id (List.toArray ops) dr,L),K)}:vcD P g X N L (.region id (List.toArray ops) dr) s K d =
  frzSlotsD ((look L.frz id).getD []) s (fun s=>epsSlotsD ((look L.eps id).getD []) s (fun s=>match dr&&L.all.contains id with
  | true=>vcAllD g ops ops.length [] s.e s.hp (fun e hp=>K .normal ⟨keepE L.live e,hp⟩) ⟨⟩
  | false=>match look L.fin id with
   | some fr=>vcFrD g ops fr 0 ops s (fun s=>K .normal ⟨keepE L.live s.e,s.hp⟩) (fun v s=>K (.panic [{ v:=v,recovered:=false }]) ⟨keepE L.live s.e,s.hp⟩) ⟨⟩
   | none=>match L.qy.contains id with
    | true=>vcOpsD g.quiet ops ops s.e s.hp (fun e hp=>K .normal ⟨keepE L.live e,hp⟩) ⟨⟩∧flOfD g.quiet L.fl id ops s ⟨⟩
    | false=>vcOpsD g ops ops s.e s.hp (fun e hp=>K .normal ⟨keepE L.live e,hp⟩) ⟨⟩∧flOfD g L.fl id ops s ⟨⟩) ⟨⟩) ⟨⟩:=rfl
theorem vcFrD_nil {ops:List Oper} {fr:List (Nat×List Nat)} {i:Nat} {KP:Value→St→Prop} {d:Dum ((ops,([]:List Oper)),(K1,KP))}:vcFrD g ops fr i [] s K1 KP d=K1 s:=rfl
def panVCD (g:G) (o:Oper) (s:St) (KP:Value→St→Prop) (A:St→Prop) (_:Dum (KP,A)):Prop:=match panOf g s.e o with
  | none=>A s
  | some (p,v)=>okOps s.e o.op∧(p→KP v s)∧(¬ p→A s)
theorem panVCD_eq {o:Oper} {KP:Value→St→Prop} {A:St→Prop} {d:Dum (KP,A)}:panVCD g o s KP A d=match panOf g s.e o with
  | none=>A s
  | some (p,v)=>okOps s.e o.op∧(p→KP v s)∧(¬ p→A s):=rfl
theorem vcFrD_cons {ops r:List Oper} {o:Oper} {fr:List (Nat×List Nat)} {i:Nat} {KP:Value→St→Prop} {d:Dum ((ops,o::r),(K1,KP))}:vcFrD g ops fr i (o::r) s K1 KP d =
  frzSlotsD ((look fr i).getD []) s (fun s=>panVCD g o s KP (fun s=>vcOpsD g ops [o] s.e s.hp (fun e hp=>vcFrD g ops fr (i+1) r ⟨e,hp⟩ K1 KP ⟨⟩) ⟨⟩) ⟨⟩) ⟨⟩:=rfl
theorem flOfD_nil {id:Nat} {ops:List Oper} {d:Dum ops}:flOfD g [] id ops s d=True:=rfl
theorem flOfD_cons {id k:Nat} {ps:List (Nat×Nat)} {r:List (Nat×List (Nat×Nat))} {ops:List Oper} {d:Dum ops}:flOfD g ((k,ps)::r) id ops s d=match look ((k,ps)::r) id with
 | some ps=>vcFlD g ops ps ops s.e s.hp [] ⟨⟩
 | none=>True:=rfl
theorem vcFlD_cons {ops r:List Oper} {o:Oper} {ps:List (Nat×Nat)} {e:Env} {hp:List Blk} {acc:List (Env×List Blk)} {d:Dum (ops,o::r)}:vcFlD g ops ps (o::r) e hp acc d =
  vcFlD g ops ps r (putE o.dst (match isMem0 o.op with
   | true=>match gcond ops e o.guard with
    | some true=>⟨true,(mEv g hp e o.op).2.1⟩
    | _=>⟨false,.v (.s .any)⟩
   | false=>match o.guard with
    | none=>⟨true,(pEv g hp e o.type o.op).2⟩
    | some gd=>match gcond ops e (some gd) with
     | some gc=>⟨gc,(pEv g hp e o.type o.op).2⟩
     | none=>junk) e) (match isMem0 o.op with
   | true=>match gcond ops e o.guard with
    | some true=>(mEv g hp e o.op).2.2
    | _=>hp
   | false=>hp) (acc++[(e,hp)]) ⟨⟩:=rfl
theorem vcFlD_nil {ops:List Oper} {ps:List (Nat×Nat)} {e:Env} {hp:List Blk} {acc:List (Env×List Blk)} {d:Dum (ops,([]:List Oper))}:vcFlD g ops ps [] e hp acc d=flPairs g ops (acc++[(e,hp)]) ps ⟨⟩:=by
 apply propext
 unfold vcFlD vcFl
 generalize acc++[(e,hp)]=l
 constructor
 ·
  intro h
  induction ps with
  | nil=>trivial
  | cons p r ih=>exact ⟨h p (by simp),ih fun q hq=>h q (by simp [hq])⟩
 ·
  intro h
  induction ps with
  | nil=>simp
  | cons p r ih =>
   obtain ⟨h1,h2⟩:=h
   intro q hq
   rcases List.mem_cons.1 hq with rfl | hq
   ·
    exact h1
   ·
    exact ih h2 q hq
theorem flPairs_nil {ops:List Oper} {l:List (Env×List Blk)} {d:Dum ops}:flPairs g ops l [] d=True:=rfl
theorem flPairs_cons {ops:List Oper} {l:List (Env×List Blk)} {i q:Nat} {r:List (Nat×Nat)} {d:Dum ops}:flPairs g ops l ((i,q)::r) d=((match l[i]?,l[q]? with
  | some s,some s'=>match ops[i]? with
   | some o=>(pEv g s'.2 s.1 o.type o.op).1∧(pEv g s'.2 s.1 o.type o.op).2=(pEv g s.2 s.1 o.type o.op).2
   | none=>True
  | _,_=>False)∧flPairs g ops l r ⟨⟩):=rfl
theorem vcD_seq {x y:Code} {d:Dum ((Code.seq x y,L),K)} (h:isCutD L.cut x ⟨⟩=false):vcD P g X N L (.seq x y) s K d=vcD P g X N L x s (thenKD (fun s'=>vcD P g X N L y s' K ⟨⟩) K ⟨⟩) ⟨⟩:=by
 unfold isCutD at h
 simp only [vcD,vc,h]
 rfl
theorem vcD_seqC {x y:Code} {d:Dum ((Code.seq x y,L),K)} (h:isCutD L.cut x ⟨⟩=true):vcD P g X N L (.seq x y) s K d=WpD P g X N (.seq x y) s K ⟨⟩:=by
 unfold isCutD at h
 simp only [vcD,vc,h]
 rfl
theorem isCutD_nil {x:Code} {d:Dum x}:isCutD [] x d=false:=by unfold isCutD isCut; cases firstReg x <;> rfl
theorem isCutD_cons {x:Code} {l:List Nat} {k:Nat} {d:Dum x}:isCutD (k::l) x d=match firstRegD x ⟨⟩ with
 | some id=>(k::l).contains id
 | none=>false:=rfl
theorem firstReg_region {id:Nat} {ops:Array Oper} {dr:Bool} {d:Dum (Code.region id ops dr)}:firstRegD (.region id ops dr) d=some id:=rfl
theorem firstReg_seq {x y:Code} {d:Dum (Code.seq x y)}:firstRegD (.seq x y) d=firstRegD x ⟨⟩:=rfl
theorem firstReg_skip {d:Dum Code.skip}:firstRegD .skip d=none:=rfl
theorem firstReg_ret {d:Dum Code.ret}:firstRegD .ret d=none:=rfl
theorem firstReg_label {l:Nat} {d:Dum (Code.label l)}:firstRegD (.label l) d=none:=rfl
theorem firstReg_exit {l:Nat} {d:Dum (Code.exit l)}:firstRegD (.exit l) d=none:=rfl
theorem firstReg_goto {l:Nat} {d:Dum (Code.goto l)}:firstRegD (.goto l) d=none:=rfl
theorem firstReg_cond {o:Operand} {x y:Code} {d:Dum (Code.cond o x y)}:firstRegD (.cond o x y) d=none:=rfl
theorem firstReg_block {i:Nat} {x:Code} {d:Dum (Code.block i x)}:firstRegD (.block i x) d=none:=rfl
theorem firstReg_scope {x:Code} {d:Dum (Code.scope x)}:firstRegD (.scope x) d=none:=rfl
theorem firstReg_loop {x:Code} {d:Dum (Code.loop x)}:firstRegD (.loop x) d=none:=rfl
theorem firstReg_rf {o:Operand} {x y:Code} {ps:Array Tmp} {d:Dum (Code.rangeFunc o ps x y)}:firstRegD (.rangeFunc o ps x y) d=none:=rfl
theorem vcD_cond {c:Operand} {x y:Code} {d:Dum ((Code.cond c x y,L),K)}:vcD P g X N L (.cond c x y) s K d=vcCondD (oper s.e c) (vcD P g X N L x s K ⟨⟩) (vcD P g X N L y s K ⟨⟩):=rfl
theorem vcCondD_ib {p q A B:Prop}:vcCondD ⟨true,.v (.s (.ib p q))⟩ A B=((p→A)∧(q→B)):=rfl
theorem vcCondD_bool {b:Bool} {A B:Prop}:vcCondD ⟨true,.v (.s (.bool b))⟩ A B=((b=true→A)∧(b=false→B)):=rfl
theorem vcD_block {id:Nat} {c:Code} {d:Dum ((Code.block id c,L),K)}:vcD P g X N L (.block id c) s K d=vcD P g X N L c s (inBlockKD id K ⟨⟩) ⟨⟩:=rfl
theorem vcD_scope {c:Code} {d:Dum ((Code.scope c,L),K)}:vcD P g X N L (.scope c) s K d=vcD P g X N L c s (noGotoKD K ⟨⟩) ⟨⟩:=rfl
theorem vcD_loop {c:Code} {d:Dum ((Code.loop c,L),K)}:vcD P g X N L (.loop c) s K d=WpD P g X N (.loop c) s K ⟨⟩:=rfl
theorem vcD_rangeFunc {f:Operand} {ps:Array Tmp} {a b:Code} {d:Dum ((Code.rangeFunc f ps a b,L),K)}:vcD P g X N L (.rangeFunc f ps a b) s K d=WpD P g X N (.rangeFunc f ps a b) s K ⟨⟩:=rfl
theorem parses_flats' {t:Ty} {xs:List t.T} {n:Nat} (h:xs.length=n):t.parses n (t.flats xs)=some xs:=by subst h; exact parses_flats t xs
theorem capAV_mk {t:Ty} {x:t.T}:capAV ⟨t,x⟩=.s (.eptr t x):=rfl
theorem av_int {k:IntKind} {n:Int}:Ty.av (.int k) n=.s (.int k n):=rfl
theorem av_bool {b:Bool}:Ty.av .bool b=.s (.bool b):=rfl
theorem av_str {b:ByteArray}:Ty.av .str b=.s (.str b):=rfl
theorem av_slice {t:Ty} {xs:List t.T}:Ty.av (.slice t) xs=.s (.sl t xs false):=rfl
theorem av_cons {t r:Ty} {x:t.T×r.T}:Ty.av (.cons t r) x=.agg (t.flat x.1++r.flat x.2):=rfl
theorem av_fld0 {t r:Ty} {x:t.T}:Ty.av (Ty.fld (.cons t r) 0) x=Ty.av t x:=rfl
theorem av_fld1 {t r:Ty} {x:(r.fld 0).T}:Ty.av (Ty.fld (.cons t r) 1) x=Ty.av (Ty.fld r 0) x:=rfl
theorem av_fld2 {t r:Ty} {x:(r.fld 1).T}:Ty.av (Ty.fld (.cons t r) 2) x=Ty.av (Ty.fld r 1) x:=rfl
theorem av_fld3 {t r:Ty} {x:(r.fld 2).T}:Ty.av (Ty.fld (.cons t r) 3) x=Ty.av (Ty.fld r 2) x:=rfl
theorem av_fld4 {t r:Ty} {x:(r.fld 3).T}:Ty.av (Ty.fld (.cons t r) 4) x=Ty.av (Ty.fld r 3) x:=rfl
theorem WpD.loop {c:Code} {d:Dum ((Code.loop c),K)} (hg:g.good P) (hX:XOk P X) (hm:P.follows .mixedOrders=true) (hok:codeOk' L g.ye N c=true) {ι:Type} (S:ι→St) (R:ι→Prop) (μ:ι→Nat) (i0:ι) (h0:R i0) (hs:Turn P g X N s (S i0))
  (h:∀ i,R i→vcD P g X N L c (S i) (thenKD (fun s'=>∃ j,R j∧μ j<μ i∧TurnT P g X N s.hp.length s' (S j)) K ⟨⟩) ⟨⟩):WpD P g X N (.loop c) s K d:=Wp.loop (L:=L) hg hX hm hok S R μ i0 h0 hs h
theorem WpD.cut {c:Code} {s:St} {K:Exit→St→Prop} {d:Dum (c,K)} (hg:g.good P) (hX:XOk P X) (hm:P.follows .mixedOrders=true) (hok:codeOk' L g.ye N c=true) (s':St) (hs:Turn P g X N s s') (h:vcD P g X N L c s' K ⟨⟩):WpD P g X N c s K d:=Wp.cut (L:=L) hg hX hm hok hs h
theorem WpD.turn {c:Code} {s:St} {K:Exit→St→Prop} {d:Dum (c,K)} (s':St) (hs:Turn P g X N s s') (h:WpD P g X N c s' K ⟨⟩):WpD P g X N c s K d:=Wp.turn hs h
theorem pureOkD {P:Program} {g:G} (hg:g.good P) (hy:g.y=false) (hm:P.follows .mixedOrders=true) {f:FuncId} {fn:Func} {c:Code} (hf:P.funcs[f]?=some fn) (hb:fn.body=some c) (con:Con) (k:Nat) (hk:k≤fn.ntmps)
  (hok:codeOk' L g.ye fn.ntmps c=true)
  (h:∀ args,con.pre args→allLen args→args.length=k∧vcD P g X0 fn.ntmps L c ⟨argEnv 0 args,[]⟩ (fun e s=>(e=.normal∨e=.ret)∧retOk g fn s (con.val args)) ⟨⟩):PureOk P f con:=pureOk_of (L:=L) hg hy hm hf hb con k hk hok h
theorem itOkD {P:Program} {g:G} (hg:g.good P) (hy:g.y=true) (hm:P.follows .mixedOrders=true) {f:FuncId} {fn:Func} {c:Code} (hf:P.funcs[f]?=some fn) (hent:∀ (args:Array Value) (w:World),(callFunc f args).run P w=.ok (.enter f args) w) (hb:fn.body=some c) (hres:fn.results=#[]) (ic:ItCon) (k:Nat) (hk:k<fn.ntmps)
  (hok:codeOk' L g.ye fn.ntmps c=true)
  (h:∀ caps l,ic.pre caps→allLen caps→caps.length=k∧∀ X,XOk P X→vcD P g X fn.ntmps L c ⟨argEnv 0 (yieldAV l::caps),[.trace l (ic.xs caps) 0 false]⟩ (fun e s=>(e=.normal∨e=.ret)∧∃ i st,Blk.look s.hp 0=.trace l (ic.xs caps) i st∧(st=false→i=(ic.xs caps).length)) ⟨⟩) :
  ItOk P f ic:=itOk_of (L:=L) hg hy hm hf hent hb hres ic k hk hok h
theorem WpD.rangeFunc (hg:g.good P) (hm:P.follows .mixedOrders=true) (hy:g.y=false) (htop:g.top=true) {gop:Operand} {ps:List Tmp} {assign body:Code} {d:Dum ((Code.rangeFunc gop (List.toArray ps) assign body),K)} (f:FuncId) (caps:List (Sigma Ty.T))
  (hop:oper s.e gop=⟨true,.v (.s (.fnp f caps))⟩) (ic:ItCon) (hit:ItOk P f ic) (hpre:ic.pre (caps.map capAV)) (hps:∀ p∈ps,p<N) (hoka:codeOk' L g.ye N assign=true) (hokb:codeOk' L g.ye N body=true) (htr:∀ l xs i st,Blk.look s.hp 0≠.trace l xs i st)
  (R:Nat→List Blk→Prop) (h0:R 0 s.hp)
  (hround:∀ i args hp,(ic.xs (caps.map capAV))[i]?=some args→R i hp→args.length=ps.length ∧
   vcD P g.round X0 N L assign ⟨psE ps args s.e,hp⟩ (thenKD (fun s1=>vcD P g.round X0 N L body s1 (roundKD (fun e hp=>K e ⟨s.e,hp⟩) (R (i+1)) s.hp.length ⟨⟩) ⟨⟩) (fun _ _=>False) ⟨⟩) ⟨⟩)
  (hend:∀ hp,R (ic.xs (caps.map capAV)).length hp→K .normal ⟨s.e,hp⟩):WpD P g X0 N (.rangeFunc gop (List.toArray ps) assign body) s K d :=
 Wp.rangeFunc (L:=L) hg hm hy htop f caps hop ic hit hpre hps hoka hokb htr R h0 hround hend
end
def retEff (g:G) (fn:Func) (k:Nat) (s:St) (K:RV→List Blk→Prop):Prop :=
 resOk g s.e s.hp fn.results.toList ∧
 ((dedup (List.range k) ((resVs g s.e s.hp fn.results.toList).flatMap AV.ids)).all fun id=>(Blk.look s.hp id).pureB)=true ∧
 K (oneRV ((resVs g s.e s.hp fn.results.toList).map (AV.ren (idx (dedup (List.range k) ((resVs g s.e s.hp fn.results.toList).flatMap AV.ids))))))
  ((dedup (List.range k) ((resVs g s.e s.hp fn.results.toList).flatMap AV.ids)).map (Blk.look s.hp))
theorem dedup_prefix:∀ (l acc:List Nat),∃ r,dedup acc l=acc++r
 | [],acc=>⟨[],by simp [dedup]⟩
 | y::l,acc=>by
  simp only [dedup]
  split
  ·
   exact dedup_prefix l acc
  ·
   obtain ⟨r,hr⟩:=dedup_prefix l (acc++[y])
   exact ⟨y::r,by rw [hr]; simp⟩
section
variable {P:Program} {g:G} {X:XT} {N:Nat} {L:Cfg} {w:World} {M0:Nat→Prop} {bs:Bs} {hp:List Blk}
theorem relAV_more {M M':Nat→Prop} (h:∀ b,M' b→M b) {x:AV} {v:Value} (hx:relAV w M bs hp x v):relAV w M' bs hp x v :=
 relAV_step (v₀:=false) ⟨Evo.more w fun b _=>h b,Nat.le_refl _,fun id cs _ h=>⟨⟨cs,h⟩,rfl⟩,fun id b k u es h1 h2=>⟨h1,es,h2⟩,fun id al cs _ h=>⟨al,cs,h,.inr ⟨rfl,rfl,fun _=>rfl,fun b hb cap size ho=>ho⟩⟩,fun _=>Only.refl _ _ _⟩ x v hx
theorem effOk_of (hg:g.good P) (hy:g.y=false) (hm:P.follows .mixedOrders=true) {f:FuncId} {fn:Func} {c:Code} (hf:P.funcs[f]?=some fn) (hb:fn.body=some c) (ec:ECon) (k:Nat) (hk:k≤fn.ntmps)
  (hok:codeOk' L g.ye fn.ntmps c=true)
  (h:∀ args hp K,ec.wp args hp K→allLen args→args.length=k∧vc P g X0 fn.ntmps L c ⟨argEnv 0 args,hp⟩ (fun e s=>(e=.normal∨e=.ret)∧retEff g fn hp.length s K)):EffOk P f ec:=by
 intro w M0 bs hp args vs K hpre hr00 hpure hargs
 obtain ⟨hlen,hvc⟩:=h args hp K hpre (allLen_rel hargs)
 have hwp:=vc_sound (X:=X0) (L:=L) hg X0_ok hm c hok _ _ hvc
 refine (callsIn_wide (n:=0)).1 ?_
 have hF:(FW none)=Fence.wide:=rfl
 rw [← hF]
 have hN:(vs.toArray++Array.replicate (fn.ntmps - vs.toArray.size) undef).size=fn.ntmps:=by
  have:=hargs.length
  simp; omega
 have hnotr:∀ (l:List Blk),l.all Blk.pureB=true→∀ id a b c d,Blk.look l id≠.trace a b c d:=by
  intro l hl id a b c d ht
  rw [List.all_eq_true] at hl
  have hlt:id<l.length:=look_lt (by rw [ht]; simp)
  have:=hl l[id] (List.getElem_mem hlt)
  simp only [Blk.look,List.getElem?_eq_getElem hlt,Option.getD_some] at ht
  rw [ht] at this
  simp [Blk.pureB] at this
 refine callsIn_of_wp_marks (n:=0) hf hb trivial (wpIn_mono (hwp 0 none (some (w.heap.size,[])) M0 bs { tmps:=vs.toArray++Array.replicate (fn.ntmps - vs.toArray.size) undef,defers:=[] } w ⟨fun _=>rfl,by simp [hy]⟩ ⟨hr00,?_,?_,hN,⟨Nat.le_refl _,[],rfl,.nil,by simp⟩⟩) ?_)
 ·
  intro l xs i st ht; exact absurd ht (hnotr hp hpure 0 l xs i st)
 ·
  refine argEnv_rel 0 _ hargs (fun j v hj => ?_)
  have hj2:=(List.getElem?_eq_some_iff.1 hj).1
  simp only [Array.getD_eq_getD_getElem?,Nat.zero_add]
  rw [Array.getElem?_append_left (by simpa using hj2)]
  simp [hj]
 ·
  rintro e a' w' ⟨s',M0',bs',⟨hke,hk1,hk2,hk3⟩,hr',hn⟩
  obtain rfl:M0'=M0:=hn.eq hy
  obtain ⟨_,Ds,hdf,hnd,hD⟩:=hr'.df
  have hst:Step false w (Mof M0' bs) bs hp w' (Mof M0' bs') bs' s'.hp:=by have:=hn.st; rwa [hy] at this
  have hold:=hst.only rfl
  have:LeavesInM (FW none) 0 P fn a'.tmps (fun o w'=>∃ v rv hp' bs',o=.returned v∧K rv hp'∧relRV w' (Mof M0' bs') bs' hp' rv v∧hp'.all Blk.pureB=true∧HR w' M0' bs' hp'∧Step false w (Mof M0' bs) bs hp w' (Mof M0' bs') bs' hp') a'.defers .returning w':=by
   rw [hdf,List.append_nil]
   refine shut_marks Ds w' _ hnd (fun D h=>(hD D h).2.2.2) fun w'' h1 h2 h3 h4 hdr h5 => ?_
   have hsame:Same w' w'' bs':=by
    refine ⟨fun p u hp => ?_,h1,fun id b hb=>h5 b fun hm=>(hD b hm).2.2.1 (.inr ⟨id,hb⟩)⟩
    have hne:p.block∉Ds:=fun hm=>by
     have:=(hD _ hm).2.2.2
     simp [World.cell?,this] at hp
    rw [← hp]
    exact World.cell?_of_block (h5 _ hne)
   have hr2:=hr'.hr.same hsame
   obtain ⟨us,q1,q2⟩:=results_run hg.1 hr2 (relEnv_same hsame hr'.env) fn hk1 _ rfl
   generalize hrs:resVs g s'.e s'.hp fn.results.toList=rs at *
   obtain ⟨r,hpre⟩:=dedup_prefix (rs.flatMap AV.ids) (List.range hp.length)
   obtain ⟨hsn,hsm⟩:=dedup_spec (rs.flatMap AV.ids) (List.range hp.length) List.nodup_range
   generalize hsel:dedup (List.range hp.length) (rs.flatMap AV.ids)=sel at *
   have hfst:∀ id,id<hp.length→sel[id]?=some id:=fun id hid=>by
    rw [hpre,List.getElem?_append_left (by simpa using hid)]
    simp [hid]
   have hpu:∀ id∈sel,(Blk.look s'.hp id).pureB=true:=by simpa only [List.all_eq_true] using hk2
   have hsub:∀ b,Mof M0' (sel.map bs'.at) b→Mof M0' bs' b:=by
    rintro b (hb | ⟨j,hb⟩)
    ·
     exact .inl hb
    ·
     rw [at_map] at hb
     cases hs:sel[j]? with
     | none=>rw [hs] at hb; cases hb
     | some id=>rw [hs] at hb; exact .inr ⟨id,hb⟩
   have hr3:=hr2.select (M0':=M0') sel hsn hpu hr2.m0 (fun id _ b hb=>hr2.out id b hb) (fun b _=>hsub b)
   have hpsel:(sel.map (Blk.look s'.hp)).all Blk.pureB=true:=by rw [List.all_map,List.all_eq_true]; exact hpu
   refine ⟨_,q1,_,_,sel.map (Blk.look s'.hp),sel.map bs'.at,rfl,hk3,?_,hpsel,hr3,?_⟩
   ·
    refine oneRV_rel ?_
    refine all2_ren (by simpa using hr2.len) (fun id hid _ => ?_) (q2.imp fun x v hx=>relAV_more hsub hx)
    have hs:=idx_spec sel id ((hsm id).2 (.inr hid))
    exact ⟨by rw [look_map,hs],by rw [at_map,hs]; rfl,by simpa using (List.getElem?_eq_some_iff.1 hs).1⟩
   ·
    have e1:=hst.evo
    have hlk:∀ id,id<hp.length→Blk.look (sel.map (Blk.look s'.hp)) id=Blk.look s'.hp id∧Bs.at (sel.map bs'.at) id=bs'.at id:=fun id hid=>by
     rw [look_map,at_map,hfst id hid]; exact ⟨rfl,rfl⟩
    have hDn:∀ b,b<w.heap.size→b∉Ds:=fun b hb hm=>by have:=(hD b hm).1; omega
    refine ⟨⟨h2.trans e1.os,h3.trans e1.tape,h4.trans e1.output,by rw [h1]; exact e1.size,by rw [hdr]; exact e1.drawn,fun b hb hn=>(h5 b (hDn b hb)).trans (e1.block b hb hn),fun b hb hn hm=>e1.free b hb hn (hsub b hm)⟩,?_,?_,?_,?_,fun _=>⟨?_,?_,?_⟩⟩
    ·
     rw [hpre]; simp
    ·
     intro id cs hid hl
     rw [(hlk id hid).1] at hl
     rw [(hlk id hid).2]
     exact hst.box id cs hid hl
    ·
     intro id b kt u es g1 g2
     have hid:id<hp.length:=look_lt (by rw [g2]; simp)
     obtain ⟨g3,es',g4⟩:=hst.map id b kt u es g1 g2
     exact ⟨by rw [(hlk id hid).2]; exact g3,es',by rw [(hlk id hid).1]; exact g4⟩
    ·
     intro id al cs hid hl
     rw [(hlk id hid).1] at hl
     obtain ⟨al0,cs0,g1,g2⟩:=hst.own id al cs hid hl
     refine ⟨al0,cs0,g1,?_⟩
     rw [(hlk id hid).2]
     rcases g2 with g2 | ⟨g2,g3,g4,g5⟩
     ·
      exact .inl g2
     ·
      refine .inr ⟨g2,g3,g4,fun b hb cap size ho => ?_⟩
      obtain ⟨cur,e,j1,j2⟩:=g5 b hb cap size ho
      exact ⟨cur,e,by rw [hsame.own id b (by rw [g3]; exact hb)]; exact j1,j2⟩
    ·
     intro b hb hn
     exact (h5 b (hDn b hb)).trans (hold.old b hb hn)
    ·
     intro b hb hn id hid
     rw [at_map] at hid
     cases hs:sel[id]? with
     | none=>rw [hs] at hid; cases hid
     | some j=>rw [hs] at hid; exact hold.new b hb hn j hid
    ·
     intro id l xs i st ht
     exact absurd ht (hnotr _ hpsel id l xs i st)
  rcases hke with rfl | rfl <;> exact this
end
section
variable {P:Program} {g:G} {X:XT} {N:Nat} {L:Cfg}
theorem effOkD (hg:g.good P) (hy:g.y=false) (hm:P.follows .mixedOrders=true) {f:FuncId} {fn:Func} {c:Code} (hf:P.funcs[f]?=some fn) (hb:fn.body=some c) (ec:ECon) (k:Nat) (hk:k≤fn.ntmps)
  (hok:codeOk' L g.ye fn.ntmps c=true)
  (h:∀ args hp K,ec.wp args hp K→allLen args→args.length=k∧vcD P g X0 fn.ntmps L c ⟨argEnv 0 args,hp⟩ (fun e s=>(e=.normal∨e=.ret)∧retEff g fn hp.length s K) ⟨⟩):EffOk P f ec:=effOk_of (L:=L) hg hy hm hf hb ec k hk hok h
theorem flat_pure:∀ (t:Ty) (x:t.T),(t.flat x).all SV.pure=true
 | .int _,_=>rfl
 | .bool,_=>rfl
 | .str,_=>rfl
 | .slice _,_=>rfl
 | .nil,_=>rfl
 | .cons t r,x=>by simp only [Ty.flat,List.all_append,flat_pure t x.1,flat_pure r x.2,Bool.and_true]
 | .fn,_=>rfl
theorem flats_pure (t:Ty) (xs:List t.T):(t.flats xs).all SV.pure=true:=by
 induction xs with
 | nil=>rfl
 | cons x xs ih=>simp only [Ty.flats,List.all_append,flat_pure,ih,Bool.and_true]
theorem av_fn {x:D .fn}:Ty.av .fn x=.s (.fv x):=rfl
theorem round_E:g.round.E=g.E:=rfl
theorem round_Pn:g.round.Pn=g.Pn:=rfl
theorem round_fz:g.round.fz=g.fz:=rfl
theorem good_of_all {P:Program} {g:G} (h0:g.ok P) (h:∀ p∈g.Γ,(∀ (args:Array Value) (w:World),(callFunc p.1 args).run P w=.ok (.enter p.1 args) w)∧PureOk P p.1 p.2)
  (hE:∀ p∈g.E,(∀ (args:Array Value) (w:World),(callFunc p.1 args).run P w=.ok (.enter p.1 args) w)∧EffOk P p.1 p.2)
  (hP:∀ p∈g.Pn,(∀ (args:Array Value) (w:World),(callFunc p.1 args).run P w=.ok (.enter p.1 args) w)∧PanOk P p.1 p.2):g.good P:=by
 have key:∀ {α:Type} (l:List (Nat×α)) (f:Nat) (c:α),look l f=some c→(f,c)∈l:=by
  intro α l
  induction l with
  | nil=>intro f c h; simp [look] at h
  | cons p r ih =>
   intro f c hl
   obtain ⟨k,x⟩:=p
   simp only [look] at hl
   split at hl
   ·
    rename_i e; subst e; injection hl with hl; subst hl; exact List.mem_cons_self ..
   ·
    exact List.mem_cons_of_mem _ (ih f c hl)
 exact ⟨h0,fun f c hl=>h _ (key _ f c hl),fun f c hl=>hE _ (key _ f c hl),fun f c hl=>hP _ (key _ f c hl)⟩
end
structure DCon where
 run:Option Value→List AV→List Blk→Option (List Blk)
def modeOf:Option Value→FrameMode
 | none=>.returning
 | some v=>.panicking [{ v:=v,recovered:=false }]
def DefCOk (P:Program) (f:FuncId) (c:DCon):Prop :=
 ∀ (n:Nat) (w:World) (M0:Nat→Prop) (bs:Bs) (hp hp':List Blk) (args:List AV) (vs:List Value) (m:Option Value),c.run m args hp=some hp'→HR w M0 bs hp→All2 (relAV w (Mof M0 bs) bs hp) args vs →
  CallsDIn (FW none) n P f vs.toArray (modeOf m) w (fun e u' w'=>(∃ v,e=.returned v)∧settle u'=.returning∧HR w' M0 bs hp'∧Step false w (Mof M0 bs) bs hp w' (Mof M0 bs) bs hp')
def runDefs:Option Value→List (DCon×List AV)→List Blk→(List Blk→Prop)→(Value→Prop)→Prop
 | none,[],hp,K,_=>K hp
 | some v,[],_,_,KP=>KP v
 | m,(dc,args)::ds,hp,K,KP=>match dc.run m args hp with
  | some hp'=>runDefs none ds hp' K KP
  | none=>False
def exitOk (ds:List (DCon×List AV)) (e:Exit) (s:St) (K:List Blk→Prop) (KP:Value→Prop):Prop:=match e with
 | .normal=>runDefs none ds s.hp K KP
 | .ret=>runDefs none ds s.hp K KP
 | .panic [⟨v,false,false⟩]=>runDefs (some v) ds s.hp K KP
 | _=>False
def isDefer (o:Oper):Bool:=match o.op with
 | .defer _=>o.guard.isNone&&o.dst.isNone
 | _=>false
def defReg:Code→Option Oper
 | .region _ ops false=>match ops.toList with
  | [o]=>if isDefer o then some o else none
  | _=>none
 | _=>none
def defReg2:Code→Option (Oper×Oper)
 | .region _ ops false=>match ops.toList with
  | [a,o]=>if isDefer o&&a.guard.isNone then some (a,o) else none
  | _=>none
 | _=>none
def defOf (g:G) (Dl:List (FuncId×DCon)) (e:Env) (o:Oper):Option (DCon×List AV):=match o.op with
 | .defer { callee:=.value (.func d),args:=xs,argTypes:=ts }=>(look Dl d).map fun dc=>(dc,argsEv g e xs.toList ts.toList)
 | .defer { callee:=.value (.tmp t),args:=xs,argTypes:=_ }=>match xs.toList,getE e t with
  | [],⟨true,.v (.s (.fn d ids))⟩=>(look Dl d).map fun dc=>(dc,ids.map fun id=>.s (.box id 0))
  | _,_=>none
 | _=>none
def vcDef (P:Program) (g:G) (N:Nat) (L:Cfg) (Dl:List (FuncId×DCon)) (K:List (DCon×List AV)→Exit→St→Prop):List (DCon×List AV)→Code→St→Prop
 | ds,.seq (.region id ops dr) rest,s=>match defReg (.region id ops dr) with
  | some o=>match defOf g Dl s.e o with
   | some x=>okOps s.e o.op∧vcDef P g N L Dl K (x::ds) rest s
   | none=>False
  | none=>match defReg2 (.region id ops dr) with
   | some (a,o)=>okOps s.e a.op∧(pEv g s.hp s.e a.type a.op).1∧a.dst.getD 0<N∧match defOf g Dl (putE a.dst ⟨true,(pEv g s.hp s.e a.type a.op).2⟩ s.e) o with
    | some x=>okOps (putE a.dst ⟨true,(pEv g s.hp s.e a.type a.op).2⟩ s.e) o.op∧vcDef P g N L Dl K (x::ds) rest ⟨putE a.dst ⟨true,(pEv g s.hp s.e a.type a.op).2⟩ s.e,s.hp⟩
    | none=>False
   | none=>vc P g X0 N L (.region id ops dr) s (thenK (fun s'=>vcDef P g N L Dl K ds rest s') (K ds))
 | ds,c,s=>vc P g X0 N L c s (K ds)
def DlOk (P:Program) (Dl:List (FuncId×DCon)):Prop:=∀ f c,look Dl f=some c→(∀ (args:Array Value) (w:World),(callFunc f args).run P w=.ok (.enter f args) w)∧DefCOk P f c
section
variable {P:Program} {g:G} {N:Nat} {L:Cfg} {w:World} {M0:Nat→Prop} {bs:Bs} {hp:List Blk}
theorem shut_marksB {fn:Func} {tmps:Array Value} {r:Option Nat} {n:Nat} {B:List Deferred} {m:FrameMode} (hm:m≠.run):∀ (Ds:List Nat) (w:World) (R:Ending→World→Prop),Ds.Nodup→(∀ D∈Ds,w.heap[D]?=some (.deferred (some []))) →
  (∀ w',w'.heap.size=w.heap.size→w'.os=w.os→w'.tape=w.tape→w'.output=w.output→w'.drawn=w.drawn→(∀ b,b∉Ds→w'.heap[b]?=w.heap[b]?)→LeavesInM (FW r) n P fn tmps R B m w') →
  LeavesInM (FW r) n P fn tmps R (Ds.map markOf++B) m w
 | [],w,R,_,_,h=>h w rfl rfl rfl rfl rfl (fun _ _=>rfl)
 | D::Ds,w,R,hnd,hd,h=>by
  refine ⟨hm,.inl ⟨D,w.putObj D (.deferred none),rfl,run_takeDeferred (hd D (by simp)),?_⟩⟩
  refine shut_marksB hm Ds _ R (List.nodup_cons.1 hnd).2 (fun E hE => ?_) (fun w' h1 h2 h3 h4 hdr h5 => ?_)
  ·
   have hne:E≠D:=fun e=>(List.nodup_cons.1 hnd).1 (e▸hE)
   rw [World.putObj_heap_other hne]
   exact hd E (by simp [hE])
  ·
   refine h w' (by rw [h1]; simp) h2 h3 h4 hdr (fun b hb => ?_)
   simp only [List.mem_cons,not_or] at hb
   rw [h5 b hb.2,World.putObj_heap_other hb.1]
def Waits (P:Program) (w:World) (M:Nat→Prop) (bs:Bs) (hp:List Blk) (x:DCon×List AV) (d:Deferred):Prop :=
 ∃ (f:FuncId) (vs:List Value) (fv:Fn) (cap:Array Value),d.target=.fn fv cap∧(∀ w,(invoke d.target d.args).run P w=.ok (.enter f vs.toArray) w)∧DefCOk P f x.1∧All2 (relAV w M bs hp) x.2 vs
theorem Waits.step {v:Bool} {w':World} {M M':Nat→Prop} {bs':Bs} {hp':List Blk} {x:DCon×List AV} {d:Deferred} (h:Waits P w M bs hp x d) (k:Step v w M bs hp w' M' bs' hp'):Waits P w' M' bs' hp' x d:=by
 obtain ⟨f,vs,fv,cap,h1,h2,h3,h4⟩:=h
 exact ⟨f,vs,fv,cap,h1,h2,h3,h4.imp fun x u hu=>relAV_step k x u hu⟩
theorem modeOf_run (m:Option Value):modeOf m≠.run:=by cases m <;> simp [modeOf]
theorem leaves_defs {fn:Func} {tmps:Array Value} {n:Nat} {R:Ending→World→Prop} {K:List Blk→Prop} {KP:Value→Prop}:∀ (ds:List (DCon×List AV)) (B:List Deferred) (m:Option Value) (w:World) (hp:List Blk),
  All2 (Waits P w (Mof M0 bs) bs hp) ds B→runDefs m ds hp K KP→HR w M0 bs hp →
  (∀ w' hp',K hp'→HR w' M0 bs hp'→Step false w (Mof M0 bs) bs hp w' (Mof M0 bs) bs hp'→∃ v,(results fn tmps).run P w'=.ok v w'∧R (.returned v) w') →
  (∀ v,m=some v→KP v→R (.panicked [{ v:=v,recovered:=false }]) w) →
  LeavesInM (FW none) n P fn tmps R B (modeOf m) w
 | [],_,m,w,hp,.nil,h,hr,hK,hP=>by
  cases m with
  | none=>exact hK w hp h hr (Step.refl _ _ _ _)
  | some v=>exact hP v rfl h
 | (dc,args)::ds,_,m,w,hp,.cons (b:=d) hd hds,h,hr,hK,hP=>by
  obtain ⟨f,vs,fv,cap,h1,h2,h3,h4⟩:=hd
  have hrun:∃ hp',dc.run m args hp=some hp'∧runDefs none ds hp' K KP:=by
   cases m <;> (simp only [runDefs] at h; split at h) <;> first | exact ⟨_,by assumption,h⟩ | exact h.elim
  obtain ⟨hp',e1,e2⟩:=hrun
  refine ⟨modeOf_run m,.inr ⟨fun hd=>by simp [FW] at hd,fv,cap,f,vs.toArray,h1,h2 w,fun _ _=>trivial,?_⟩⟩
  obtain ⟨k1,k2⟩:=h3 (n - 1) w M0 bs hp hp' args vs m e1 hr h4
  refine ⟨k1,fun c cs hc hroom => ?_⟩
  obtain ⟨e,u',w',fr,⟨⟨v,rfl⟩,hu,hr',hst⟩,rest⟩:=k2 c cs hc hroom
  refine ⟨.returned v,u',w',fr,?_,rest⟩
  show LeavesInM (FW none) n P fn tmps R _ (settle u') w'
  rw [hu]
  exact leaves_defs ds _ none w' hp' (hds.imp fun x d hd=>hd.step hst) e2 hr' (fun w'' hp'' q1 q2 q3=>hK w'' hp'' q1 q2 (hst.trans q3)) (fun v hv=>by cases hv)
theorem deferred_list (hg:g.good P) {Dl:List (FuncId×DCon)} (hD:DlOk P Dl) {n:Nat} {Q:Exit→Act→World→Prop} {ops:Array Oper} {o:Oper} {e:Env} {hp:List Blk} {a:Act} {x:DCon×List AV}
  (hdf:isDefer o=true) (h2:defOf g Dl e o=some x) (hok:okOps e o.op) (hr:HR w M0 bs hp) (he:relEnv w (Mof M0 bs) bs hp e a)
  (hQ:∀ d,Waits P w (Mof M0 bs) bs hp x d→Q .normal { a with defers:=d::a.defers } w):wpListIn (FW none) n P ops Q [o] a w:=by
 obtain ⟨dst,op,t,pos,after,guard⟩:=o
 unfold isDefer at hdf
 split at hdf
 ·
  rename_i c heq
  simp only at heq hdf
  subst heq
  simp only [Bool.and_eq_true,Option.isNone_iff_eq_none] at hdf
  obtain ⟨hgd,hdd⟩:=hdf
  subst hgd
  subst hdd
  show ite _ _ _
  rw [if_pos (by simp [Region.wanted])]
  refine ⟨fun f _=>trivial,?_⟩
  have hsem:∀ o:Oper,Oper.semAt (FW none).round a.eval o=execOp a.eval o:=fun o=>Oper.semAt_none _ _
  rw [hsem]
  unfold defOf at h2
  split at h2
  ·
   rename_i d xs ts heq
   simp only at heq
   injection heq with heq
   subst heq
   cases hl:look Dl d with
   | none=>simp [hl] at h2
   | some dc =>
    simp [hl] at h2
    subst h2
    obtain ⟨hent,hdc⟩:=hD d dc hl
    have hall:=okOps_all (by simp) hok
    have hargs:=args_rel hg.1 xs.toList ts.toList (fun x hx=>oper_rel he x (hall x (by simp [Op.operands,Call.operands]; exact .inr (by simpa using hx))))
    have hrun:(execOp a.eval { dst:=none,op:=.defer { callee:=.value (.func d),args:=xs,argTypes:=ts },type:=t,pos:=pos,after:=after,guard:=none }).run P w=.ok (.defer { target:=.fn (.func d) #[],args:=(xs.toList.map a.eval).toArray }) w:=by
     simp [execOp,resolve,Act.eval,Deferred.ofValue,Sem.run_bind,map_arr]
    rw [hrun]
    refine hQ _ ⟨d,xs.toList.map a.eval,_,_,rfl,fun w => ?_,hdc,hargs⟩
    simpa [invoke] using hent (xs.toList.map a.eval).toArray w
  ·
   rename_i t xs ts heq
   simp only at heq
   injection heq with heq
   subst heq
   split at h2
   ·
    rename_i d ids hxs hgt
    cases hl:look Dl d with
    | none=>simp [hl] at h2
    | some dc =>
     simp [hl] at h2
     subst h2
     obtain ⟨hent,hdc⟩:=hD d dc hl
     have hrel:=(getE_rel he t)
     rw [hgt] at hrel
     obtain ⟨ps,hv,hps⟩:=hrel.1 rfl
     have hxs':xs=#[]:=by cases xs; simpa using hxs
     subst hxs'
     have hrun:∀ (ta:Array TypeId) (tt:TypeId),(execOp a.eval { dst:=none,op:=.defer { callee:=.value (.tmp t),args:=#[],argTypes:=ta },type:=tt,pos:=pos,after:=after,guard:=none }).run P w=.ok (.defer { target:=.fn (.func d) (ps.map fun b=>.pointer (some ⟨b,0,none⟩)).toArray,args:=#[] }) w:=fun ta tt=>by
      simp [execOp,resolve,Act.eval,hv,Deferred.ofValue,Sem.run_bind]
     rw [hrun]
     refine hQ _ ⟨d,ps.map fun b=>.pointer (some ⟨b,0,none⟩),_,_,rfl,fun w => ?_,hdc,?_⟩
     ·
      simpa [invoke] using hent (ps.map fun b=>.pointer (some ⟨b,0,none⟩)).toArray w
     ·
      clear hv hgt hrel hQ hrun
      induction hps with
      | nil=>exact .nil
      | cons r _ ih=>exact .cons ⟨r.1,fun cs hc=>⟨_,r.2 cs hc,rfl⟩⟩ ih
   ·
    cases h2
  ·
   cases h2
 ·
  cases hdf
theorem deferred_wp (hg:g.good P) {Dl:List (FuncId×DCon)} (hD:DlOk P Dl) {n:Nat} {Q:Exit→Act→World→Prop} {id:Nat} {ops:Array Oper} {dr:Bool} {o:Oper} {e:Env} {hp:List Blk} {a:Act} {x:DCon×List AV}
  (h1:defReg (.region id ops dr)=some o) (h2:defOf g Dl e o=some x) (hok:okOps e o.op) (hr:HR w M0 bs hp) (he:relEnv w (Mof M0 bs) bs hp e a)
  (hQ:∀ d,Waits P w (Mof M0 bs) bs hp x d→Q .normal { a with defers:=d::a.defers } w):(Code.region id ops dr).wpIn (FW none) n P Q a w:=by
 unfold defReg at h1
 split at h1
 ·
  rename_i heq
  injection heq with e1 e2 e3
  subst e1; subst e2; subst e3
  split at h1
  ·
   rename_i o' hops
   split at h1
   ·
    rename_i hdf
    injection h1 with h1
    subst h1
    refine wpIn_region_list ?_
    rw [hops]
    exact deferred_list hg hD hdf h2 hok hr he hQ
   ·
    cases h1
  ·
   cases h1
 ·
  cases h1
theorem defReg2_eq {id:Nat} {ops:Array Oper} {dr:Bool} {a0 o:Oper} (h:defReg2 (.region id ops dr)=some (a0,o)):dr=false∧ops.toList=[a0,o]∧isDefer o=true∧a0.guard=none:=by
 unfold defReg2 at h
 split at h
 ·
  rename_i heq
  injection heq with e1 e2 e3
  subst e1; subst e2; subst e3
  split at h
  ·
   rename_i x y hops
   split at h
   ·
    rename_i hc
    injection h with h
    injection h with h1 h2
    subst h1; subst h2
    rw [Bool.and_eq_true,Option.isNone_iff_eq_none] at hc
    exact ⟨rfl,hops,hc.1,hc.2⟩
   ·
    cases h
  ·
   cases h
 ·
  cases h
def PostDef (P:Program) (g:G) (N m:Nat) (K:List (DCon×List AV)→Exit→St→Prop) (w:World) (M0:Nat→Prop) (bs:Bs) (hp:List Blk) (e:Exit) (a':Act) (w':World):Prop :=
 ∃ s' M0' bs' ds' B',K ds' e s'∧Rel P X0 N (some (m,B')) w' M0' bs' a' s'∧Nx P g X0 w M0 bs hp w' M0' bs' s'.hp∧All2 (Waits P w' (Mof M0' bs') bs' s'.hp) ds' B'
theorem vcDef_sound (hg:g.good P) (hm:P.follows .mixedOrders=true) (hy:g.y=false) {Dl:List (FuncId×DCon)} (hD:DlOk P Dl) (K:List (DCon×List AV)→Exit→St→Prop):∀ (c:Code),codeOk' L g.ye N c=true →
  ∀ (ds:List (DCon×List AV)) (s:St),vcDef P g N L Dl K ds c s→∀ (n m:Nat) (M0:Nat→Prop) (bs:Bs) (a:Act) (w:World) (B:List Deferred),Rel P X0 N (some (m,B)) w M0 bs a s→a.defers=B→All2 (Waits P w (Mof M0 bs) bs s.hp) ds B →
  c.wpIn (FW none) n P (PostDef P g N m K w M0 bs s.hp) a w:=by
 have plain:∀ (c:Code),codeOk' L g.ye N c=true→∀ (ds:List (DCon×List AV)) (s:St),vc P g X0 N L c s (K ds)→∀ (n m:Nat) (M0:Nat→Prop) (bs:Bs) (a:Act) (w:World) (B:List Deferred),Rel P X0 N (some (m,B)) w M0 bs a s →
   All2 (Waits P w (Mof M0 bs) bs s.hp) ds B→c.wpIn (FW none) n P (PostDef P g N m K w M0 bs s.hp) a w:=by
  intro c hok ds s hv n m M0 bs a w B hr hw
  refine wpIn_mono (vc_sound hg X0_ok hm c hok s (K ds) hv n none (some (m,B)) M0 bs a w ⟨fun _=>rfl,by simp [hy]⟩ hr) ?_
  rintro e a' w' ⟨s',M0',bs',k,x,y⟩
  exact ⟨s',M0',bs',ds,B,k,x,y,hw.imp fun x d hd=>hd.step y.st⟩
 intro c
 induction c with
 | seq x rest _ ihr =>
  cases x with
  | region id ops dr =>
   intro hok ds s hv n m M0 bs a w B hr hB hw
   simp only [codeOk',Bool.and_eq_true] at hok
   simp only [vcDef] at hv
   refine wpIn_seq ?_
   cases hdr:defReg (.region id ops dr) with
   | some o =>
    rw [hdr] at hv
    cases hdo:defOf g Dl s.e o with
    | none=>simp [hdo] at hv
    | some x =>
     simp only [hdo] at hv
     refine deferred_wp hg hD hdr hdo hv.1 hr.hr hr.env fun d hd => ?_
     refine ihr hok.2 (x::ds) s hv.2 n m M0 bs _ w (d::B) ⟨hr.hr,hr.xr,hr.env,hr.size,?_⟩ (by rw [hB]) (.cons hd hw)
     obtain ⟨h0,_⟩:=hr.df
     exact ⟨h0,[],by rw [hB]; rfl,.nil,by simp⟩
   | none =>
    rw [hdr] at hv
    cases hdr2:defReg2 (.region id ops dr) with
    | some q =>
     obtain ⟨a0,o⟩:=q
     rw [hdr2] at hv
     simp only at hv
     obtain ⟨v1,v2,v3,hv⟩:=hv
     obtain ⟨rfl,hops,hdf,hgn⟩:=defReg2_eq hdr2
     cases hdo:defOf g Dl (putE a0.dst ⟨true,(pEv g s.hp s.e a0.type a0.op).2⟩ s.e) o with
     | none=>simp [hdo] at hv
     | some x =>
      simp only [hdo] at hv
      refine wpIn_region_list ?_
      rw [hops]
      show ite _ _ _
      rw [if_pos (by simp [Region.wanted,hgn])]
      refine pEv_wp hg hr.hr a0 (fun x _ hx=>oper_rel hr.env x hx) v1 v2 fun z w' k1 k2 k3 => ?_
      have hn:=Nx.of_step (P:=P) (g:=g) X0_ok hr.xr k2 k3
      have he':=relEnv_put (relEnv_step hn.st hr.env) a0.dst ⟨true,(pEv g s.hp s.e a0.type a0.op).2⟩ z ⟨fun _=>k1,by simp⟩ (fun d hd=>by rw [hd] at v3; rw [hr.size]; exact v3)
      refine deferred_list hg hD hdf hdo hv.1 hn.hr he' fun d hd => ?_
      refine wpIn_mono (ihr hok.2 (x::ds) _ hv.2 n m M0 bs _ w' (d::B) ⟨hn.hr,hn.xr,he',by rw [put_eval]; exact hr.size,?_⟩ (by rw [put_defers,hB]) (.cons hd (hw.imp fun x d hd=>hd.step hn.st))) ?_
      ·
       obtain ⟨h0,_⟩:=hr.df.evo hn.st.evo
       exact ⟨h0,[],by rw [put_defers,hB]; rfl,.nil,by simp⟩
      ·
       rintro e2 a2 w2 ⟨s2,M2,bs2,ds2,B2,k2,hr2,hn2,hw2⟩
       exact ⟨s2,M2,bs2,ds2,B2,k2,hr2,hn.trans hn2,hw2⟩
    | none =>
    rw [hdr2] at hv
    refine wpIn_mono (vc_region hg X0_ok hm id ops dr (by simpa [codeOk'] using hok.1) s _ hv n none (some (m,B)) M0 bs a w ⟨fun _=>rfl,by simp [hy]⟩ hr) ?_
    rintro e a' w' ⟨⟨s',M0',bs',k,hr',hn⟩,hdf⟩
    have hw':=hw.imp fun x d hd=>hd.step hn.st
    cases e with
    | normal =>
     refine wpIn_mono (ihr hok.2 ds s' k n m M0' bs' a' w' B hr' (hdf.trans hB) hw') ?_
     rintro e2 a2 w2 ⟨s2,M2,bs2,ds2,B2,k2,hr2,hn2,hw2⟩
     exact ⟨s2,M2,bs2,ds2,B2,k2,hr2,hn.trans hn2,hw2⟩
    | _=>exact ⟨s',M0',bs',ds,B,k,hr',hn,hw'⟩
  | _=>intro hok ds s hv n m M0 bs a w B hr hB hw; exact plain _ hok ds s hv n m M0 bs a w B hr hw
 | _=>intro hok ds s hv n m M0 bs a w B hr hB hw; exact plain _ hok ds s hv n m M0 bs a w B hr hw
theorem Waits.same {w':World} (hs:Same w w' bs) {x:DCon×List AV} {d:Deferred} (h:Waits P w (Mof M0 bs) bs hp x d):Waits P w' (Mof M0 bs) bs hp x d:=by
 obtain ⟨f,vs,fv,cap,h1,h2,h3,h4⟩:=h
 exact ⟨f,vs,fv,cap,h1,h2,h3,h4.imp fun x u hu=>relAV_same hs hu⟩
theorem calls_gen (hg:g.good P) (hy:g.y=false) (hm:P.follows .mixedOrders=true) {Dl:List (FuncId×DCon)} (hD:DlOk P Dl) {f:FuncId} {fn:Func} {c:Code} (hf:P.funcs[f]?=some fn) (hb:fn.body=some c) (k:Nat) (hk:k≤fn.ntmps)
  (hok:codeOk' L g.ye fn.ntmps c=true) {A:Prop} {B:Value→Prop} {rv:RV} {args:List AV} {vs:List Value} (hM0:∀ b,M0 b→b<w.heap.size) (hargs:All2 (relAV w M0 [] []) args vs) (hlen:args.length=k)
  (h:vcDef P g fn.ntmps L Dl (fun ds e s=>exitOk ds e s (fun hp'=>A∧retOk g fn ⟨s.e,hp'⟩ rv) B) [] c ⟨argEnv 0 args,[]⟩) :
  Calls P f vs.toArray w (fun e w'=>((A∧∃ v,e=.returned v∧relRV w' M0 [] [] rv v)∨∃ v,B v∧e=.panicked [{ v:=v,recovered:=false }])∧Below w.heap.size w w'∧w.drawn≤w'.drawn):=by
 refine (callsIn_wide (n:=0)).1 ?_
 have hF:(FW none)=Fence.wide:=rfl
 rw [← hF]
 have hr0:HR w M0 [] []:=by
  refine ⟨rfl,hM0,?_,?_,?_,?_,?_,?_,?_⟩ <;> intros <;> simp_all [Bs.at,Blk.look]
 have hN:(vs.toArray++Array.replicate (fn.ntmps - vs.toArray.size) undef).size=fn.ntmps:=by
  have:=hargs.length
  simp; omega
 refine callsIn_of_wp_marks (n:=0) hf hb trivial (wpIn_mono (vcDef_sound hg hm hy hD _ c hok [] _ h 0 w.heap.size M0 [] { tmps:=vs.toArray++Array.replicate (fn.ntmps - vs.toArray.size) undef,defers:=[] } w [] ⟨hr0,?_,?_,hN,⟨Nat.le_refl _,[],rfl,.nil,by simp⟩⟩ rfl .nil) ?_)
 ·
  intro l xs i st ht; simp [Blk.look] at ht
 ·
  refine argEnv_rel 0 _ (hargs.imp fun x v h=>relAV_weaken (fun b hb=>hb.elim id fun ⟨id,h⟩=>by simp [Bs.at] at h) h) (fun j v hj => ?_)
  have hj2:=(List.getElem?_eq_some_iff.1 hj).1
  simp only [Array.getD_eq_getD_getElem?,Nat.zero_add]
  rw [Array.getElem?_append_left (by simpa using hj2)]
  simp [hj]
 ·
  rintro e a' w' ⟨s',M0',bs',ds',B',hK,hr',hn,hw⟩
  obtain rfl:M0'=M0:=hn.eq hy
  obtain ⟨_,Ds,hdf,hnd,hD'⟩:=hr'.df
  have hst:Step false w (Mof M0' []) [] [] w' (Mof M0' bs') bs' s'.hp:=by have:=hn.st; rwa [hy] at this
  have hold:=hst.only rfl
  have key:∀ m:Option Value,runDefs m ds' s'.hp (fun hp'=>A∧retOk g fn ⟨s'.e,hp'⟩ rv) B→LeavesInM (FW none) 0 P fn a'.tmps (fun e w'=>((A∧∃ v,e=.returned v∧relRV w' M0' [] [] rv v)∨∃ v,B v∧e=.panicked [{ v:=v,recovered:=false }])∧Below w.heap.size w w'∧w.drawn≤w'.drawn) a'.defers (modeOf m) w':=by
   intro m hrun
   rw [hdf]
   refine shut_marksB (modeOf_run m) Ds w' _ hnd (fun D h=>(hD' D h).2.2.2) fun w'' h1 h2 h3 h4 hdr h5 => ?_
   have hsame:Same w' w'' bs':=by
    refine ⟨fun p u hp => ?_,h1,fun id b hb=>h5 b fun hm=>(hD' b hm).2.2.1 (.inr ⟨id,hb⟩)⟩
    have hne:p.block∉Ds:=fun hm=>by
     have:=(hD' _ hm).2.2.2
     simp [World.cell?,this] at hp
    rw [← hp]
    exact World.cell?_of_block (h5 _ hne)
   have hbel:Below w.heap.size w w''∧w.drawn≤w''.drawn:=by
    have e1:=hst.evo
    exact ⟨⟨h2.trans e1.os,h3.trans e1.tape,h4.trans e1.output,by rw [h1]; exact e1.size,fun b hb=>by
     rw [h5 b (fun hm=>by have:=(hD' b hm).1; omega)]
     exact hold.old b hb (by simp [Bs.at])⟩,by rw [hdr]; exact e1.drawn⟩
   refine leaves_defs ds' B' m w'' s'.hp (hw.imp fun x d hd=>hd.same hsame) hrun (hr'.hr.same hsame) (fun w3 hp3 hK3 hr3 hst3 => ?_) (fun v _ hv=>⟨.inr ⟨v,hv,rfl⟩,hbel⟩)
   obtain ⟨hA,hk1,vs',hk2,hk3⟩:=hK3
   obtain ⟨us,q1,q2⟩:=results_run hg.1 hr3 (relEnv_step hst3 (relEnv_same hsame hr'.env)) fn hk1 _ rfl
   have q3:=frzAs_sound hr3 q2 hk2
   refine ⟨_,q1,.inl ⟨hA,_,rfl,?_⟩,?_⟩
   ·
    rw [← hk3]; exact oneRV_rel q3
   ·
    have e3:=hst3.evo
    have ho3:=(hst3.only rfl).old
    refine ⟨⟨e3.os.trans hbel.1.os,e3.tape.trans hbel.1.tape,e3.output.trans hbel.1.output,Nat.le_trans hbel.1.size e3.size,fun b hb => ?_⟩,Nat.le_trans hbel.2 e3.drawn⟩
    rw [ho3 b (Nat.lt_of_lt_of_le hb hbel.1.size) (fun id hid=>hold.new b hb (by simp [Bs.at]) id hid)]
    exact hbel.1.block b hb
  cases e with
  | normal=>exact key none hK
  | ret=>exact key none hK
  | panic ch =>
   simp only [exitOk] at hK
   split at hK
   ·
    rename_i heq; cases heq
   ·
    rename_i heq; cases heq
   ·
    rename_i v heq
    injection heq with heq
    subst heq
    exact key (some v) hK
   ·
    exact hK.elim
  | exit id=>exact hK.elim
  | goto l=>exact hK.elim
  | outgrown=>exact hK.elim
theorem pureOk_def (hg:g.good P) (hy:g.y=false) (hm:P.follows .mixedOrders=true) {Dl:List (FuncId×DCon)} (hD:DlOk P Dl) {f:FuncId} {fn:Func} {c:Code} (hf:P.funcs[f]?=some fn) (hb:fn.body=some c) (con:Con) (k:Nat) (hk:k≤fn.ntmps)
  (hok:codeOk' L g.ye fn.ntmps c=true)
  (h:∀ args,con.pre args→allLen args→args.length=k∧vcDef P g fn.ntmps L Dl (fun ds e s=>exitOk ds e s (fun hp'=>retOk g fn ⟨s.e,hp'⟩ (con.val args)) fun _=>False) [] c ⟨argEnv 0 args,[]⟩):PureOk P f con:=by
 intro w M0 args vs hpre hM0 hargs
 obtain ⟨hlen,hvc⟩:=h args hpre (allLen_rel hargs)
 refine (calls_gen (L:=L) (A:=True) (B:=fun _=>False) hg hy hm hD hf hb k hk hok hM0 hargs hlen (by simpa only [true_and] using hvc)).mono ?_
 rintro e w' ⟨⟨_,v,h1,h2⟩ | ⟨v,hB,_⟩,h3,h4⟩
 ·
  exact ⟨v,h1,h2,h3,h4⟩
 ·
  exact hB.elim
theorem panOk_def (hg:g.good P) (hy:g.y=false) (hm:P.follows .mixedOrders=true) {Dl:List (FuncId×DCon)} (hD:DlOk P Dl) {f:FuncId} {fn:Func} {c:Code} (hf:P.funcs[f]?=some fn) (hb:fn.body=some c) (con:PCon) (k:Nat) (hk:k≤fn.ntmps)
  (hok:codeOk' L g.ye fn.ntmps c=true)
  (h:∀ args,con.when args→allLen args→args.length=k∧vcDef P g fn.ntmps L Dl (fun ds e s=>exitOk ds e s (fun hp'=>False) fun v=>v=con.what args) [] c ⟨argEnv 0 args,[]⟩):PanOk P f con:=by
 intro w M0 args vs hpre hM0 hargs
 obtain ⟨hlen,hvc⟩:=h args hpre (allLen_rel hargs)
 refine (calls_gen (L:=L) (A:=False) (B:=fun v=>v=con.what args) (rv:=.tup []) hg hy hm hD hf hb k hk hok hM0 hargs hlen (by simpa only [false_and] using hvc)).mono ?_
 rintro e w' ⟨⟨hA,_⟩ | ⟨v,rfl,h1⟩,h3,h4⟩
 ·
  exact hA.elim
 ·
  exact ⟨h1,h3,h4⟩
structure CaughtRaw (P:Program) (f:FuncId) (tE:TypeId):Prop where
 idle:∀ (n:Nat) (p:Addr) (w:World),CallsDIn (FW none) n P f #[.pointer (some p)] .returning w fun e u' w'=>e=.returned (.tuple #[])∧u'=.returning∧w'=w
 hit:∀ (n:Nat) (p:Addr) (x m:Int) (w:World),w.cell? p=some (.int .i64 x)→w.frozen? p=false→CallsDIn (FW none) n P f #[.pointer (some p)] (.panicking [{ v:=.iface tE (.int .i64 m),recovered:=false }]) w fun e u' w' =>
  e=.returned (.tuple #[])∧u'=.panicking [{ v:=.iface tE (.int .i64 m),recovered:=true }]∧w'=w.setCell p (.int .i64 m)
def caughtCon (tE:TypeId):DCon:=⟨fun m args hp=>match args with
 | [.s (.box id 0)]=>match Blk.look hp id with
  | .cells [.int .i64 _]=>match m with
   | none=>some hp
   | some (.iface t (.int .i64 n))=>if t=tE then some (hp.set id (.cells [.int .i64 n])) else none
   | _=>none
  | _=>none
 | _=>none⟩
theorem caught_ok {f:FuncId} {tE:TypeId} (h:CaughtRaw P f tE):DefCOk P f (caughtCon tE):=by
 intro n w M0 bs hp hp' args vs m hrun hr hargs
 simp only [caughtCon] at hrun
 split at hrun
 ·
  rename_i id
  split at hrun
  ·
   rename_i x hl
   obtain ⟨b,cur,e,h1,h2,h3,h4⟩:=hr.cells id _ hl
   cases hargs with
   | cons ha hnil =>
    cases hnil
    obtain ⟨b',hb',rfl⟩:=ha.2 _ hl
    rw [h1] at hb'; cases hb'
    obtain ⟨u,k1,k2,k3⟩:=h4 0 _ rfl
    obtain rfl:u=.int .i64 x:=k3
    have hsz:cur.size=1:=by simpa using h3.symm
    have hcell:w.cell? ⟨b,0,none⟩=some (.int .i64 x):=by simp [World.cell?,h2,k1]
    split at hrun
    ·
     injection hrun with hrun; subst hrun
     obtain ⟨q1,q2⟩:=h.idle n ⟨b,0,none⟩ w
     refine ⟨q1,fun c cs hc hroom => ?_⟩
     obtain ⟨e',u',w',fr,⟨rfl,rfl,rfl⟩,rest⟩:=q2 c cs hc hroom
     exact ⟨_,_,_,fr,⟨⟨_,rfl⟩,rfl,hr,Step.refl _ _ _ _⟩,rest⟩
    ·
     rename_i t n'
     split at hrun
     ·
      rename_i ht
      subst ht
      injection hrun with hrun; subst hrun
      obtain ⟨q1,q2⟩:=h.hit n ⟨b,0,none⟩ x n' w hcell (by simp [World.frozen?,h2])
      refine ⟨q1,fun c cs hc hroom => ?_⟩
      obtain ⟨e',u',w',fr,⟨rfl,rfl,rfl⟩,rest⟩:=q2 c cs hc hroom
      have hheap:∀ c,(w.setCell ⟨b,0,none⟩ (.int .i64 n')).heap[c]?=if b=c then some (.cells (cur.setIfInBounds 0 (.int .i64 n')) e (0,0)) else w.heap[c]?:=by
       intro c
       simp only [World.setCell,Array.getElem?_modify]
       split
       ·
        rename_i hbc; subst hbc; rw [h2]; rfl
       ·
        rfl
      have hMb:Mof M0 bs b:=.inr ⟨id,h1⟩
      have hevo:Evo (Mof M0 bs) (Mof M0 bs) w (w.setCell ⟨b,0,none⟩ (.int .i64 n')) :=
       ⟨rfl,rfl,rfl,by simp [World.setCell],Nat.le_refl _,fun c _ hm=>by rw [hheap,if_neg (by rintro rfl; exact hm hMb)],fun _ _ h=>h⟩
      obtain ⟨r1,r2⟩:=hr.rewrite h1 hevo (fun c hne _=>by rw [hheap,if_neg (fun e=>hne e.symm)]) (by rw [hheap,if_pos rfl]) (.cells [.int .i64 n'])
       ⟨_,e,rfl,by simp [hsz],fun j y hj=>by
        cases j with
        | zero =>
         simp at hj; subst hj
         exact ⟨.int .i64 n',by simp [hsz],rfl,rfl⟩
        | succ j=>simp at hj⟩ (by rw [hl]; trivial)
      exact ⟨_,_,_,fr,⟨⟨_,rfl⟩,rfl,r1,r2⟩,rest⟩
     ·
      cases hrun
    ·
     cases hrun
  ·
   cases hrun
 ·
  cases hrun
theorem dl_nil:DlOk P []:=fun f c h=>by simp [look] at h
theorem dl_cons {f:FuncId} {c:DCon} {Dl:List (FuncId×DCon)} (h1:(∀ (args:Array Value) (w:World),(callFunc f args).run P w=.ok (.enter f args) w)∧DefCOk P f c) (h2:DlOk P Dl):DlOk P ((f,c)::Dl):=fun f' c' h=>by
 simp only [look] at h
 split at h
 ·
  rename_i e; subst e; injection h with h; subst h; exact h1
 ·
  exact h2 f' c' h
end
section
variable {P:Program} {g:G} {N:Nat} {L:Cfg}
def vcDefD (P:Program) (g:G) (N:Nat) (L:Cfg) (Dl:List (FuncId×DCon)) (K:List (DCon×List AV)→Exit→St→Prop) (ds:List (DCon×List AV)) (c:Code) (s:St) (_:Dum ((c,L),(K,Dl))):Prop:=vcDef P g N L Dl K ds c s
def defRegD (id:Nat) (ops:List Oper) (dr:Bool):Option Oper:=match dr,ops with
 | false,[o]=>if isDefer o then some o else none
 | _,_=>none
def defReg2D (id:Nat) (ops:List Oper) (dr:Bool):Option (Oper×Oper):=match dr,ops with
 | false,[a,o]=>if isDefer o&&a.guard.isNone then some (a,o) else none
 | _,_=>none
variable {Dl:List (FuncId×DCon)} {K:List (DCon×List AV)→Exit→St→Prop} {ds:List (DCon×List AV)} {s:St}
theorem vcDefD_seqR {id:Nat} {ops:List Oper} {dr:Bool} {rest:Code} {d:Dum ((Code.seq (.region id (List.toArray ops) dr) rest,L),(K,Dl))}:vcDefD P g N L Dl K ds (.seq (.region id (List.toArray ops) dr) rest) s d=match defRegD id ops dr with
  | some o=>match defOf g Dl s.e o with
   | some x=>okOps s.e o.op∧vcDefD P g N L Dl K (x::ds) rest s ⟨⟩
   | none=>False
  | none=>match defReg2D id ops dr with
   | some (a,o)=>okOps s.e a.op∧(pEv g s.hp s.e a.type a.op).1∧a.dst.getD 0<N∧match defOf g Dl (putE a.dst ⟨true,(pEv g s.hp s.e a.type a.op).2⟩ s.e) o with
    | some x=>okOps (putE a.dst ⟨true,(pEv g s.hp s.e a.type a.op).2⟩ s.e) o.op∧vcDefD P g N L Dl K (x::ds) rest ⟨putE a.dst ⟨true,(pEv g s.hp s.e a.type a.op).2⟩ s.e,s.hp⟩ ⟨⟩
    | none=>False
   | none=>vcD P g X0 N L (.region id (List.toArray ops) dr) s (thenKD (fun s'=>vcDefD P g N L Dl K ds rest s' ⟨⟩) (K ds) ⟨⟩) ⟨⟩:=by
 have:defReg (.region id (List.toArray ops) dr)=defRegD id ops dr:=by
  unfold defReg defRegD
  cases dr
  ·
   cases ops with
   | nil=>rfl
   | cons o r=>cases r <;> rfl
  ·
   rfl
 have this2:defReg2 (.region id (List.toArray ops) dr)=defReg2D id ops dr:=by
  unfold defReg2 defReg2D
  cases dr
  ·
   cases ops with
   | nil=>rfl
   | cons o r =>
    cases r with
    | nil=>rfl
    | cons o2 r2=>cases r2 <;> rfl
  ·
   rfl
 show vcDef P g N L Dl K ds (.seq (.region id (List.toArray ops) dr) rest) s=_
 rw [vcDef,this]
 cases defRegD id ops dr with
 | none =>
  simp only
  rw [this2]
  cases defReg2D id ops dr with
  | none=>rfl
  | some q =>
   obtain ⟨a,o⟩:=q
   simp only
   cases defOf g Dl (putE a.dst ⟨true,(pEv g s.hp s.e a.type a.op).2⟩ s.e) o <;> rfl
 | some o =>
  simp only
  cases defOf g Dl s.e o <;> rfl
theorem vcDefD_seqS {x y rest:Code} {d:Dum ((Code.seq (.seq x y) rest,L),(K,Dl))}:vcDefD P g N L Dl K ds (.seq (.seq x y) rest) s d=vcD P g X0 N L (.seq (.seq x y) rest) s (K ds) ⟨⟩:=rfl
theorem vcDefD_seqC {o:Operand} {x y rest:Code} {d:Dum ((Code.seq (.cond o x y) rest,L),(K,Dl))}:vcDefD P g N L Dl K ds (.seq (.cond o x y) rest) s d=vcD P g X0 N L (.seq (.cond o x y) rest) s (K ds) ⟨⟩:=rfl
theorem vcDefD_seqB {i:Nat} {x rest:Code} {d:Dum ((Code.seq (.block i x) rest,L),(K,Dl))}:vcDefD P g N L Dl K ds (.seq (.block i x) rest) s d=vcD P g X0 N L (.seq (.block i x) rest) s (K ds) ⟨⟩:=rfl
theorem vcDefD_seqL {x rest:Code} {d:Dum ((Code.seq (.loop x) rest,L),(K,Dl))}:vcDefD P g N L Dl K ds (.seq (.loop x) rest) s d=vcD P g X0 N L (.seq (.loop x) rest) s (K ds) ⟨⟩:=rfl
theorem vcDefD_seqF {o:Operand} {ps:Array Tmp} {x y rest:Code} {d:Dum ((Code.seq (.rangeFunc o ps x y) rest,L),(K,Dl))}:vcDefD P g N L Dl K ds (.seq (.rangeFunc o ps x y) rest) s d=vcD P g X0 N L (.seq (.rangeFunc o ps x y) rest) s (K ds) ⟨⟩:=rfl
theorem vcDefD_seqSc {x rest:Code} {d:Dum ((Code.seq (.scope x) rest,L),(K,Dl))}:vcDefD P g N L Dl K ds (.seq (.scope x) rest) s d=vcD P g X0 N L (.seq (.scope x) rest) s (K ds) ⟨⟩:=rfl
theorem vcDefD_region {id:Nat} {ops:Array Oper} {dr:Bool} {d:Dum ((Code.region id ops dr,L),(K,Dl))}:vcDefD P g N L Dl K ds (.region id ops dr) s d=vcD P g X0 N L (.region id ops dr) s (K ds) ⟨⟩:=rfl
theorem vcDefD_ret {d:Dum ((Code.ret,L),(K,Dl))}:vcDefD P g N L Dl K ds .ret s d=K ds .ret s:=rfl
theorem vcDefD_cond {o:Operand} {x y:Code} {d:Dum ((Code.cond o x y,L),(K,Dl))}:vcDefD P g N L Dl K ds (.cond o x y) s d=vcD P g X0 N L (.cond o x y) s (K ds) ⟨⟩:=rfl
theorem vcDefD_block {i:Nat} {x:Code} {d:Dum ((Code.block i x,L),(K,Dl))}:vcDefD P g N L Dl K ds (.block i x) s d=vcD P g X0 N L (.block i x) s (K ds) ⟨⟩:=rfl
theorem vcDefD_loop {x:Code} {d:Dum ((Code.loop x,L),(K,Dl))}:vcDefD P g N L Dl K ds (.loop x) s d=vcD P g X0 N L (.loop x) s (K ds) ⟨⟩:=rfl
variable {K0:Exit→St→Prop} {K1:St→Prop} {ch:List PanicEntry}
theorem thenKD_panic {d:Dum (K1,K0)}:thenKD K1 K0 d (.panic ch) s=K0 (.panic ch) s:=rfl
theorem inBlockKD_panic {i:Nat} {d:Dum K0}:inBlockKD i K0 d (.panic ch) s=K0 (.panic ch) s:=rfl
theorem noGotoKD_panic {d:Dum K0}:noGotoKD K0 d (.panic ch) s=K0 (.panic ch) s:=rfl
theorem exitOk_normal {K:List Blk→Prop} {KP:Value→Prop}:exitOk ds .normal s K KP=runDefs none ds s.hp K KP:=rfl
theorem exitOk_ret {K:List Blk→Prop} {KP:Value→Prop}:exitOk ds .ret s K KP=runDefs none ds s.hp K KP:=rfl
theorem exitOk_panic {K:List Blk→Prop} {KP:Value→Prop} {v:Value}:exitOk ds (.panic [⟨v,false,false⟩]) s K KP=runDefs (some v) ds s.hp K KP:=rfl
theorem exitOk_exit {K:List Blk→Prop} {KP:Value→Prop} {i:Nat}:exitOk ds (.exit i) s K KP=False:=rfl
theorem runDefs_none {K:List Blk→Prop} {KP:Value→Prop} {hp:List Blk}:runDefs none [] hp K KP=K hp:=rfl
theorem runDefs_some {K:List Blk→Prop} {KP:Value→Prop} {hp:List Blk} {v:Value}:runDefs (some v) [] hp K KP=KP v:=rfl
theorem runDefs_cons {K:List Blk→Prop} {KP:Value→Prop} {hp:List Blk} {m:Option Value} {dc:DCon} {args:List AV}:runDefs m ((dc,args)::ds) hp K KP=match dc.run m args hp with
  | some hp'=>runDefs none ds hp' K KP
  | none=>False:=by cases m <;> rfl
theorem pureDefD (hg:g.good P) (hy:g.y=false) (hm:P.follows .mixedOrders=true) {Dl:List (FuncId×DCon)} (hD:DlOk P Dl) {f:FuncId} {fn:Func} {c:Code} (hf:P.funcs[f]?=some fn) (hb:fn.body=some c) (con:Con) (k:Nat) (hk:k≤fn.ntmps)
  (hok:codeOk' L g.ye fn.ntmps c=true)
  (h:∀ args,con.pre args→allLen args→args.length=k∧vcDefD P g fn.ntmps L Dl (fun ds e s=>exitOk ds e s (fun hp'=>retOk g fn ⟨s.e,hp'⟩ (con.val args)) fun _=>False) [] c ⟨argEnv 0 args,[]⟩ ⟨⟩):PureOk P f con :=
 pureOk_def (L:=L) hg hy hm hD hf hb con k hk hok h
theorem panDefD (hg:g.good P) (hy:g.y=false) (hm:P.follows .mixedOrders=true) {Dl:List (FuncId×DCon)} (hD:DlOk P Dl) {f:FuncId} {fn:Func} {c:Code} (hf:P.funcs[f]?=some fn) (hb:fn.body=some c) (con:PCon) (k:Nat) (hk:k≤fn.ntmps)
  (hok:codeOk' L g.ye fn.ntmps c=true)
  (h:∀ args,con.when args→allLen args→args.length=k∧vcDefD P g fn.ntmps L Dl (fun ds e s=>exitOk ds e s (fun hp'=>False) fun v=>v=con.what args) [] c ⟨argEnv 0 args,[]⟩ ⟨⟩):PanOk P f con :=
 panOk_def (L:=L) hg hy hm hD hf hb con k hk hok h
end
end Go.Am
namespace Go.Am
def dig (n:Nat):List Int:=if h:n=0 then [] else ((n % 1073741824:Nat):Int)::dig (n / 1073741824)
termination_by n
decreasing_by omega
def vl:List Int→Nat
 | []=>0
 | d::r=>d.toNat+1073741824*vl r
def okD (xs:List Int):Prop:=∀ d∈xs,0≤d∧d≤1073741823
def trimL:List Int→List Int
 | []=>[]
 | d::r=>match trimL r with
  | []=>if d=0 then [] else [d]
  | s=>d::s
def canon (xs:List Int):Prop:=okD xs∧xs.getLast?≠some 0
theorem dig_zero:dig 0=[]:=by rw [dig]; rfl
theorem dig_pos {n:Nat} (h:n≠0):dig n=((n % 1073741824:Nat):Int)::dig (n / 1073741824):=by rw [dig]; simp [h]
theorem vl_dig (n:Nat):vl (dig n)=n:=by
 induction n using Nat.strongRecOn with
 | _ n ih =>
  by_cases h:n=0
  ·
   subst h; rw [dig_zero]; rfl
  ·
   rw [dig_pos h]
   simp only [vl]
   rw [ih _ (by omega)]
   omega
theorem okD_dig (n:Nat):okD (dig n):=by
 induction n using Nat.strongRecOn with
 | _ n ih =>
  by_cases h:n=0
  ·
   subst h; rw [dig_zero]; intro d hd; cases hd
  ·
   rw [dig_pos h]
   intro d hd
   rcases List.mem_cons.1 hd with rfl | hd
   ·
    omega
   ·
    exact ih _ (by omega) d hd
theorem okD_nil:okD []:=fun d h=>by cases h
theorem okD_cons {d:Int} {r:List Int}:okD (d::r)↔(0≤d∧d≤1073741823)∧okD r:=by simp [okD]
theorem okD_append {x y:List Int}:okD (x++y)↔okD x∧okD y:=by
 simp only [okD,List.mem_append]
 constructor
 ·
  intro h; exact ⟨fun d hd=>h d (.inl hd),fun d hd=>h d (.inr hd)⟩
 ·
  rintro ⟨h1,h2⟩ d (hd | hd)
  ·
   exact h1 d hd
  ·
   exact h2 d hd
theorem okD_get {xs:List Int} (h:okD xs) {i:Nat} (hi:i<xs.length):0≤xs[i]?.getD 0∧xs[i]?.getD 0≤1073741823:=by
 rw [List.getElem?_eq_getElem hi]; exact h _ (List.getElem_mem hi)
theorem okD_take {xs:List Int} (h:okD xs) (n:Nat):okD (xs.take n):=fun d hd=>h d (List.mem_of_mem_take hd)
theorem okD_drop {xs:List Int} (h:okD xs) (n:Nat):okD (xs.drop n):=fun d hd=>h d (List.mem_of_mem_drop hd)
theorem okD_set {xs:List Int} (h:okD xs) {i:Nat} {x:Int} (hx:0≤x∧x≤1073741823):okD (xs.set i x):=fun d hd=>by
 rcases List.mem_or_eq_of_mem_set hd with hd | rfl
 ·
  exact h d hd
 ·
  exact hx
theorem okD_rep (n:Nat):okD (List.replicate n 0):=fun d hd=>by rw [List.eq_of_mem_replicate hd]; omega
theorem vl_append (x y:List Int):vl (x++y)=vl x+1073741824 ^ x.length*vl y:=by
 induction x with
 | nil=>simp [vl]
 | cons d r ih=>simp only [List.cons_append,vl,ih,List.length_cons,Nat.pow_succ]; grind
theorem vl_rep (n:Nat):vl (List.replicate n 0)=0:=by
 induction n with
 | zero=>rfl
 | succ n ih=>simp [List.replicate_succ,vl,ih]
theorem vl_one (d:Int):vl [d]=d.toNat:=by simp [vl]
theorem pow_pos' (n:Nat):0<1073741824 ^ n:=Nat.pow_pos (by decide)
theorem vl_lt {xs:List Int} (h:okD xs):vl xs<1073741824 ^ xs.length:=by
 induction xs with
 | nil=>simp [vl]
 | cons d r ih =>
  obtain ⟨h1,h2⟩:=okD_cons.1 h
  have:=ih h2
  simp only [vl,List.length_cons,Nat.pow_succ]
  generalize 1073741824 ^ r.length=p at *
  omega
theorem vl_take_drop (xs:List Int) (n:Nat) (h:n≤xs.length):vl xs=vl (xs.take n)+1073741824 ^ n*vl (xs.drop n):=by
 conv=>lhs; rw [← List.take_append_drop n xs]
 rw [vl_append,List.length_take,Nat.min_eq_left h]
theorem vl_take_succ {xs:List Int} {i:Nat} (hi:i<xs.length):vl (xs.take (i+1))=vl (xs.take i)+1073741824 ^ i*(xs[i]?.getD 0).toNat:=by
 rw [List.take_add_one,List.getElem?_eq_getElem hi]
 simp only [Option.toList_some,Option.getD_some]
 rw [vl_append,vl_one,List.length_take,Nat.min_eq_left (by omega)]
theorem vl_set {xs:List Int} {i:Nat} (hi:i<xs.length) (x:Int):vl (xs.set i x)+1073741824 ^ i*(xs[i]?.getD 0).toNat=vl xs+1073741824 ^ i*x.toNat:=by
 induction xs generalizing i with
 | nil=>simp at hi
 | cons d r ih =>
  cases i with
  | zero=>simp [vl]; omega
  | succ i =>
   have:=ih (i:=i) (by simpa using hi)
   simp only [List.set_cons_succ,vl,List.getElem?_cons_succ,Nat.pow_succ]
   grind
theorem trimL_nil {r:List Int}:trimL r=[]↔∀ d∈r,d=0:=by
 induction r with
 | nil=>simp [trimL]
 | cons d r ih =>
  simp only [trimL,List.mem_cons,forall_eq_or_imp]
  cases ht:trimL r with
  | nil =>
   rw [ht] at ih
   have:=ih.1 rfl
   by_cases h:d=0
   ·
    simp only [h,if_true,true_and]; exact ⟨fun _=>this,fun _=>trivial⟩
   ·
    simp [h]
  | cons e s =>
   rw [ht] at ih
   have:¬ ∀ d∈r,d=0:=fun h=>by have:=ih.2 h; cases this
   simp [this]
theorem vl_trim (xs:List Int):vl (trimL xs)=vl xs:=by
 induction xs with
 | nil=>rfl
 | cons d r ih =>
  simp only [trimL]
  cases ht:trimL r with
  | nil =>
   rw [ht] at ih
   have h0:vl r=0:=ih.symm
   simp only [vl,h0]
   split
   ·
    rename_i h; subst h; rfl
   ·
    simp [vl]
  | cons e s=>rw [ht] at ih; simp only [vl,← ih]
theorem okD_trim {xs:List Int} (h:okD xs):okD (trimL xs):=by
 induction xs with
 | nil=>exact okD_nil
 | cons d r ih =>
  obtain ⟨h1,h2⟩:=okD_cons.1 h
  simp only [trimL]
  have:=ih h2
  cases ht:trimL r with
  | nil =>
   by_cases h0:d=0
   ·
    simp only [h0,if_true]; exact okD_nil
   ·
    simp only [h0,if_false]; exact okD_cons.2 ⟨h1,okD_nil⟩
  | cons e s=>rw [ht] at this; exact okD_cons.2 ⟨h1,this⟩
theorem vl_zero {xs:List Int} (h:okD xs) (hz:vl xs=0):∀ d∈xs,d=0:=by
 induction xs with
 | nil=>intro d hd; cases hd
 | cons d r ih =>
  obtain ⟨h1,h2⟩:=okD_cons.1 h
  simp only [vl] at hz
  intro e he
  rcases List.mem_cons.1 he with rfl | he
  ·
   omega
  ·
   exact ih h2 (by omega) e he
theorem dig_vl {xs:List Int} (h:okD xs):dig (vl xs)=trimL xs:=by
 induction xs with
 | nil=>exact dig_zero
 | cons d r ih =>
  obtain ⟨h1,h2⟩:=okD_cons.1 h
  have ih:=ih h2
  by_cases hz:vl (d::r)=0
  ·
   rw [hz,dig_zero]
   exact (trimL_nil.2 (vl_zero h hz)).symm
  ·
   rw [dig_pos hz]
   have e1:vl (d::r) % 1073741824=d.toNat:=by simp only [vl]; omega
   have e2:vl (d::r) / 1073741824=vl r:=by simp only [vl]; omega
   rw [e1,e2,ih,Int.toNat_of_nonneg h1.1]
   simp only [trimL]
   cases ht:trimL r with
   | nil =>
    have h0:vl r=0:=by rw [← vl_trim,ht]; rfl
    rw [if_neg]
    intro hd; subst hd
    simp [vl,h0] at hz
   | cons e s=>rfl
theorem trim_canon {xs:List Int} (h:canon xs):trimL xs=xs:=by
 obtain ⟨h1,h2⟩:=h
 clear h1
 induction xs with
 | nil=>rfl
 | cons d r ih =>
  simp only [trimL]
  cases r with
  | nil =>
   simp only [List.getLast?_singleton] at h2
   simp only [trimL]
   rw [if_neg (fun e=>h2 (by rw [e]))]
  | cons e s =>
   rw [ih (by rwa [List.getLast?_cons_cons] at h2)]
theorem canon_dig (n:Nat):canon (dig n):=by
 refine ⟨okD_dig n,?_⟩
 induction n using Nat.strongRecOn with
 | _ n ih =>
  by_cases h:n=0
  ·
   subst h; rw [dig_zero]; simp
  ·
   rw [dig_pos h]
   by_cases h2:n / 1073741824=0
   ·
    rw [h2,dig_zero]
    simp only [List.getLast?_singleton]
    intro hh
    injection hh with hh
    omega
   ·
    have:=ih _ (show n / 1073741824<n by omega)
    rw [dig_pos h2] at this ⊢
    rw [List.getLast?_cons_cons]
    exact this
theorem canon_eq {xs:List Int} (h:canon xs):dig (vl xs)=xs:=by rw [dig_vl h.1,trim_canon h]
theorem canon_nil:canon []:=⟨okD_nil,by simp⟩
theorem canon_len {xs:List Int} (h:canon xs) {k:Nat}:xs.length≤k↔vl xs<1073741824 ^ k:=by
 constructor
 ·
  intro hk
  exact Nat.lt_of_lt_of_le (vl_lt h.1) (Nat.pow_le_pow_right (by decide) hk)
 ·
  intro hv
  rcases Nat.lt_or_ge k xs.length with hlt | hge
  ·
   exfalso
   have h0:xs≠[]:=by intro e; subst e; simp at hlt
   have hl:xs=xs.dropLast++[xs.getLast h0]:=(List.dropLast_concat_getLast h0).symm
   have hne:xs.getLast h0≠0:=fun e=>h.2 (by rw [List.getLast?_eq_some_getLast h0,e])
   have hr:=h.1 _ (List.getLast_mem h0)
   rw [hl,vl_append,vl_one] at hv
   have hle:1073741824 ^ k≤1073741824 ^ xs.dropLast.length:=Nat.pow_le_pow_right (by decide) (by rw [List.length_dropLast]; omega)
   have h1:1≤(xs.getLast h0).toNat:=by omega
   have:=Nat.mul_le_mul_left (1073741824 ^ xs.dropLast.length) h1
   omega
  ·
   exact hge
theorem dig_len {n k:Nat}:(dig n).length≤k↔n<1073741824 ^ k:=by rw [canon_len (canon_dig n),vl_dig]
theorem dig_le {n k j:Nat} (h:n<1073741824 ^ k) (hk:k≤j):(dig n).length≤j:=by rw [dig_len]; exact Nat.lt_of_lt_of_le h (Nat.pow_le_pow_right (by decide) hk)
theorem dig_same {n j:Nat} {xs:List Int} (hc:canon xs) (h:n≤vl xs) (hk:xs.length≤j):(dig n).length≤j:=dig_le (Nat.lt_of_le_of_lt h (vl_lt hc.1)) hk
theorem canon_zero {xs:List Int} (h:canon xs):vl xs=0↔xs=[]:=by
 constructor
 ·
  intro hz; rw [← canon_eq h,hz,dig_zero]
 ·
  intro e; subst e; rfl
theorem dig_nil {n:Nat}:dig n=[]↔n=0:=by
 constructor
 ·
  intro h
  have:=vl_dig n
  rw [h] at this
  exact this.symm
 ·
  rintro rfl; exact dig_zero
theorem dig_one:dig 1=[1]:=by rw [dig_pos (by decide),dig_zero]; rfl
theorem vl_pos {xs:List Int} (h:canon xs):0<vl xs↔0<xs.length:=by
 have:=canon_zero h
 constructor
 ·
  intro hp; rw [List.length_pos_iff]; intro e; rw [this.2 e] at hp; omega
 ·
  intro hp; rw [List.length_pos_iff] at hp; rcases Nat.eq_zero_or_pos (vl xs) with h | h
  ·
   exact absurd (this.1 h) hp
  ·
   exact h
theorem canon_last {xs:List Int} (h:canon xs) (hp:0<xs.length):1≤xs[xs.length - 1]?.getD 0∧xs[xs.length - 1]?.getD 0≤1073741823:=by
 have hr:=okD_get h.1 (i:=xs.length - 1) (by omega)
 refine ⟨?_,hr.2⟩
 have hne:xs[xs.length - 1]?.getD 0≠0:=fun e=>h.2 (by rw [List.getLast?_eq_getElem?,List.getElem?_eq_getElem (by omega)]; rw [List.getElem?_eq_getElem (by omega)] at e; simpa using e)
 omega
theorem canon_of {xs:List Int} (h:okD xs) (hl:0<xs.length→xs[xs.length - 1]?.getD 0≠0):canon xs:=by
 refine ⟨h,fun e => ?_⟩
 rw [List.getLast?_eq_getElem?] at e
 have hp:0<xs.length:=by
  cases xs with
  | nil=>simp at e
  | cons a b=>simp
 exact hl hp (by rw [e]; rfl)
theorem vl_drop (xs:List Int) {i:Nat} (h:i<xs.length):vl (xs.drop i)=(xs[i]?.getD 0).toNat+1073741824*vl (xs.drop (i+1)):=by
 rw [List.drop_eq_getElem_cons h,List.getElem?_eq_getElem h]; rfl
theorem vl_less {a b:List Int} (ha:okD a) (hb:okD b) {i:Nat} (hia:i<a.length) (hib:i<b.length) (hd:a.drop (i+1)=b.drop (i+1)) (h:a[i]?.getD 0<b[i]?.getD 0):vl a<vl b:=by
 rw [vl_take_drop a i (by omega),vl_take_drop b i (by omega),vl_drop a hia,vl_drop b hib,hd]
 have h1:=vl_lt (okD_take ha i)
 rw [List.length_take,Nat.min_eq_left (by omega)] at h1
 have h2:=okD_get ha hia
 have h3:(a[i]?.getD 0).toNat+1≤(b[i]?.getD 0).toNat:=by omega
 have h4:=Nat.mul_le_mul_left (1073741824 ^ i) h3
 rw [Nat.mul_add,Nat.mul_one] at h4
 rw [Nat.mul_add,Nat.mul_add]
 omega
theorem vl_len {a b:List Int} (ha:canon a) (hb:canon b) (h:a.length<b.length):vl a<vl b:=by
 have h1:=vl_lt ha.1
 have h2:¬ vl b<1073741824 ^ a.length:=fun h2=>by have:=(canon_len hb).2 h2; omega
 omega
def cmpN (a b:Nat):Int:=if a<b then -1 else if b<a then 1 else 0
theorem cmpN_lt {a b:Nat} (h:a<b):cmpN a b = -1:=if_pos h
theorem cmpN_gt {a b:Nat} (h:b<a):cmpN a b=1:=by unfold cmpN; rw [if_neg (by omega),if_pos h]
theorem cmpN_eq (a:Nat):cmpN a a=0:=by unfold cmpN; rw [if_neg (by omega),if_neg (by omega)]
theorem trimL_append_zero (x y:List Int) (h:∀ d∈y,d=0):trimL (x++y)=trimL x:=by
 induction x with
 | nil=>exact trimL_nil.2 h
 | cons d r ih=>simp only [List.cons_append,trimL,ih]
theorem trimL_last (x:List Int) (d:Int) (h:d≠0):trimL (x++[d])=x++[d]:=by
 induction x with
 | nil=>simp [trimL,h]
 | cons e r ih =>
  simp only [List.cons_append,trimL,ih]
  cases r <;> rfl
theorem take_trim {xs:List Int} {n:Nat} (hn:n≤xs.length) (hz:∀ d∈xs.drop n,d=0) (h:0<n→xs[n - 1]?.getD 0≠0):xs.take n=trimL xs:=by
 conv=>rhs; rw [← List.take_append_drop n xs,trimL_append_zero _ _ hz]
 rcases Nat.eq_zero_or_pos n with rfl | hp
 ·
  rfl
 ·
  have:=h hp
  rw [List.getElem?_eq_getElem (by omega),Option.getD_some] at this
  have e:xs.take n=xs.take (n - 1)++[xs[n - 1]]:=by
   conv=>lhs; rw [show n=(n - 1)+1 by omega]
   rw [List.take_add_one,List.getElem?_eq_getElem (by omega)]
   rfl
  rw [e,trimL_last _ _ this]
theorem trimL_len (xs:List Int):(trimL xs).length≤xs.length:=by
 induction xs with
 | nil=>exact Nat.le_refl _
 | cons d r ih =>
  simp only [trimL]
  cases ht:trimL r with
  | nil=>by_cases h:d=0 <;> simp [h]
  | cons e s=>rw [ht] at ih; simp only [List.length_cons] at ih ⊢; omega
theorem trimL_take (xs:List Int):trimL xs=xs.take (trimL xs).length:=by
 induction xs with
 | nil=>rfl
 | cons d r ih =>
  simp only [trimL]
  cases ht:trimL r with
  | nil=>by_cases h:d=0 <;> simp [h]
  | cons e s=>rw [ht] at ih; simp only [List.length_cons,List.take_succ_cons] at ih ⊢; rw [← ih]
theorem mul_range {x y:Int} (hx:0≤x∧x≤1073741823) (hy:0≤y∧y≤1073741823):0≤x*y∧x*y≤1152921502459363329:=by
 refine ⟨Int.mul_nonneg hx.1 hy.1,?_⟩
 have h1:=Int.mul_le_mul hx.2 hy.2 hy.1 (by decide:(0:Int)≤1073741823)
 simpa using h1
theorem mul_step {xs ys b:List Int} {i k:Nat} {A ov s:Int} (hyo:okD ys) (hik:i+k<ys.length) (hk:k<b.length) (hb:okD b) (hA:0≤A∧A≤1073741823) (hov:0≤ov∧ov≤1073741823)
  (hyv:vl ys+1073741824 ^ (i+k)*ov.toNat=vl xs+1073741824 ^ i*(A.toNat*vl (b.take k))) (hs:s=ys[i+k]?.getD 0+A*b[k]?.getD 0+ov) :
  (0≤s∧s≤1152921504606846975)∧(0≤s / 1073741824∧s / 1073741824≤1073741823)∧(0≤s % 1073741824∧s % 1073741824≤1073741823)∧okD (ys.set (i+k) (s % 1073741824)) ∧
   vl (ys.set (i+k) (s % 1073741824))+1073741824 ^ (i+(k+1))*(s / 1073741824).toNat=vl xs+1073741824 ^ i*(A.toNat*vl (b.take (k+1))):=by
 have hy:=okD_get hyo hik
 have hbk:=okD_get hb hk
 have hm:=mul_range hA hbk
 have hs0:0≤s∧s≤1152921504606846975:=by omega
 have hr:0≤s % 1073741824∧s % 1073741824≤1073741823:=by omega
 refine ⟨hs0,by omega,hr,okD_set hyo hr,?_⟩
 have h1:=vl_set hik (s % 1073741824)
 have h2:=vl_take_succ hk
 have hsn:s.toNat=(ys[i+k]?.getD 0).toNat+A.toNat*(b[k]?.getD 0).toNat+ov.toNat:=by
  rw [← Int.toNat_mul hA.1 hbk.1]
  omega
 have hdm:s.toNat=1073741824*(s / 1073741824).toNat+(s % 1073741824).toNat:=by omega
 rw [h2]
 generalize (s / 1073741824).toNat=q at *
 generalize (s % 1073741824).toNat=r at *
 generalize (ys[i+k]?.getD 0).toNat=Y at *
 generalize (b[k]?.getD 0).toNat=C at *
 generalize A.toNat=A' at *
 generalize ov.toNat=o at *
 generalize vl (ys.set (i+k) (s % 1073741824))=V at *
 generalize vl ys=W at *
 generalize vl xs=X at *
 generalize vl (b.take k)=T at *
 have e1:1073741824 ^ (i+(k+1))=1073741824 ^ (i+k)*1073741824:=by rw [← Nat.add_assoc,Nat.pow_succ]
 have e2:1073741824 ^ (i+k)=1073741824 ^ i*1073741824 ^ k:=Nat.pow_add ..
 rw [e1]
 generalize hp:1073741824 ^ (i+k)=p at *
 generalize 1073741824 ^ i=pi at *
 generalize 1073741824 ^ k=pk at *
 grind
theorem drop_set_succ (ys:List Int) (j:Nat) (r:Int):(ys.set j r).drop (j+1)=ys.drop (j+1):=List.drop_set_of_lt (by omega)
theorem drop_eq_succ {ys xs:List Int} {j:Nat} (h:ys.drop j=xs.drop j):ys.drop (j+1)=xs.drop (j+1):=by
 rw [← List.drop_drop,← List.drop_drop,h]
theorem row_end {xs ys a b:List Int} {i:Nat} {ov:Int} (hil:i<a.length) (hl:ys.length=a.length+b.length) (hyo:okD ys) (ha:okD a) (hov:0≤ov∧ov≤1073741823)
  (hyv:vl ys+1073741824 ^ (i+b.length)*ov.toNat=vl xs+1073741824 ^ i*((a[i]?.getD 0).toNat*vl (b.take b.length))) (hyd:ys.drop (i+b.length)=xs.drop (i+b.length)) (hxz:∀ d∈xs.drop (i+b.length),d=0)
  (hxv:vl xs=vl (a.take i)*vl b):okD (ys.set (i+b.length) ov)∧vl (ys.set (i+b.length) ov)=vl (a.take (i+1))*vl b∧∀ d∈(ys.set (i+b.length) ov).drop (i+1+b.length),d=0:=by
 have hlt:i+b.length<ys.length:=by omega
 have h0:ys[i+b.length]?.getD 0=0:=by
  rw [List.getElem?_eq_getElem hlt,Option.getD_some]
  refine hxz _ ?_
  rw [← hyd,List.drop_eq_getElem_cons hlt]
  exact List.mem_cons_self ..
 refine ⟨okD_set hyo hov,?_,?_⟩
 ·
  have h1:=vl_set hlt ov
  rw [h0] at h1
  have h2:=vl_take_succ hil
  rw [h2]
  rw [List.take_of_length_le (Nat.le_refl _),hxv] at hyv
  simp only [Int.toNat_zero,Nat.mul_zero,Nat.add_zero] at h1
  rw [h1,hyv]
  generalize (a[i]?.getD 0).toNat=A
  generalize 1073741824 ^ i=p
  grind
 ·
  rw [show i+1+b.length=i+b.length+1 by omega,drop_set_succ,drop_eq_succ hyd]
  intro d hd
  refine hxz d ?_
  rw [← List.drop_drop] at hd
  exact List.mem_of_mem_drop hd
theorem less_ring1 {p v d b y a x o:Nat} (h:v+b=a+p*o) (hd:d+y+o=x+1073741824):v+p*d+(b+p*y)=a+p*x+p*1073741824*1:=by
 have h1:p*d+p*y+p*o=p*x+p*1073741824:=by rw [← Nat.mul_add,← Nat.mul_add,← Nat.mul_add,hd]
 rw [Nat.mul_one]
 generalize p*d=q1 at *
 generalize p*y=q2 at *
 generalize p*o=q3 at *
 generalize p*x=q4 at *
 generalize p*1073741824=q5 at *
 omega
theorem less_ring2 {p v d b y a x o q:Nat} (h:v+b=a+p*o) (hd:d+y+o=x):v+p*d+(b+p*y)=a+p*x+q*0:=by
 have h1:p*d+p*y+p*o=p*x:=by rw [← Nat.mul_add,← Nat.mul_add,hd]
 rw [Nat.mul_zero]
 omega
theorem less_step {a b out:List Int} {i ow:Nat} {n:Int} (ha:okD a) (hb:okD b) (hi:i<a.length) (hlen:out.length=i) (ho:okD out) (how:ow=0∨ow=1)
  (hv:vl out+vl (b.take i)=vl (a.take i)+1073741824 ^ i*ow) (hn:n=a[i]?.getD 0 - b[i]?.getD 0 - ow) :
  (-1073741824≤n∧n≤1073741823)∧(n<0→okD (out++[n+1073741824])∧vl (out++[n+1073741824])+vl (b.take (i+1))=vl (a.take (i+1))+1073741824 ^ (i+1)*1) ∧
   (0≤n→okD (out++[n])∧vl (out++[n])+vl (b.take (i+1))=vl (a.take (i+1))+1073741824 ^ (i+1)*0):=by
 have h1:=okD_get ha hi
 have h2:0≤b[i]?.getD 0∧b[i]?.getD 0≤1073741823:=by
  rcases Nat.lt_or_ge i b.length with h | h
  ·
   exact okD_get hb h
  ·
   rw [List.getElem?_eq_none h,Option.getD_none]; omega
 have e1:=vl_take_succ hi
 have e2:vl (b.take (i+1))=vl (b.take i)+1073741824 ^ i*(b[i]?.getD 0).toNat:=by
  rcases Nat.lt_or_ge i b.length with h | h
  ·
   exact vl_take_succ h
  ·
   rw [List.getElem?_eq_none h,List.take_of_length_le (by omega),List.take_of_length_le (by omega),Option.getD_none,Int.toNat_zero,Nat.mul_zero,Nat.add_zero]
 have hr : -1073741824≤n∧n≤1073741823:=by omega
 have key:∀ d:Int,0≤d→vl (out++[d])=vl out+1073741824 ^ i*d.toNat:=fun d hd=>by rw [vl_append,vl_one,hlen]
 refine ⟨hr,fun hneg=>⟨okD_append.2 ⟨ho,okD_cons.2 ⟨⟨by omega,by omega⟩,okD_nil⟩⟩,?_⟩,fun hpos=>⟨okD_append.2 ⟨ho,okD_cons.2 ⟨⟨by omega,by omega⟩,okD_nil⟩⟩,?_⟩⟩
 ·
  rw [key _ (by omega),e1,e2,Nat.pow_succ]
  exact less_ring1 hv (by omega)
 ·
  rw [key _ hpos,e1,e2]
  exact less_ring2 hv (by omega)
theorem less_end {a b out:List Int} {ow:Nat} (ha:okD a) (hb:canon b) (hle:vl b≤vl a) (hlen:out.length=a.length) (ho:okD out) (how:ow=0∨ow=1)
  (hv:vl out+vl (b.take a.length)=vl (a.take a.length)+1073741824 ^ a.length*ow):trimL out=dig (vl a - vl b):=by
 have hbl:b.length≤a.length:=(canon_len hb).2 (Nat.lt_of_le_of_lt hle (vl_lt ha))
 rw [List.take_of_length_le hbl,List.take_of_length_le (Nat.le_refl _)] at hv
 have hlt:=vl_lt ho
 rw [hlen] at hlt
 rw [← dig_vl ho]
 congr 1
 generalize 1073741824 ^ a.length=p at *
 rcases how with rfl | rfl
 ·
  rw [Nat.mul_zero] at hv; omega
 ·
  rw [Nat.mul_one] at hv; omega
theorem cmpN_neg {a b:Nat}:cmpN a b<0↔a<b:=by
 unfold cmpN
 split
 ·
  simp_all
 ·
  split <;> simp_all
theorem cmpN_pos {a b:Nat}:0<cmpN a b↔b<a:=by
 unfold cmpN
 split
 ·
  simp_all; omega
 ·
  split <;> simp_all
theorem div_push {a:List Int} (ha:okD a) {k:Nat} (hk:k<a.length) (R:Nat):trimL (a[k]?.getD 0::dig R)=dig ((a[k]?.getD 0).toNat+1073741824*R):=by
 rw [← dig_vl (okD_cons.2 ⟨okD_get ha hk,okD_dig R⟩)]
 simp only [vl,vl_dig]
theorem div_lt {x R v:Nat} (hx:x≤1073741823) (hR:R<v):x+1073741824*R<(1073741823+1)*v:=by omega
theorem div_row {a q:List Int} {k R lo vb:Nat} (hk:k<a.length) (hql:q.length=a.length) (hqo:okD q) (hqz:∀ d∈q.take (k+1),d=0) (hqv:vl (a.drop (k+1))=vl (q.drop (k+1))*vb+R)
  (hlo:lo≤1073741823) (h1:lo*vb≤(a[k]?.getD 0).toNat+1073741824*R):okD (q.set k lo)∧(∀ d∈(q.set k lo).take k,d=0) ∧
   vl (a.drop k)=vl ((q.set k (lo:Int)).drop k)*vb+((a[k]?.getD 0).toNat+1073741824*R - lo*vb):=by
 have hkq:k<q.length:=by omega
 refine ⟨okD_set hqo (by omega),fun d hd => ?_,?_⟩
 ·
  rw [List.take_set_of_le (by omega)] at hd
  exact hqz d (List.mem_of_mem_take (by rw [List.take_take,Nat.min_eq_left (by omega)]; exact hd:d∈List.take k (q.take (k+1))))
 ·
  rw [vl_drop a hk,vl_drop (q.set k lo) (by rw [List.length_set]; exact hkq),drop_set_succ,hqv]
  rw [List.getElem?_set_self hkq,Option.getD_some,Int.toNat_natCast]
  have e:(lo+1073741824*vl (q.drop (k+1)))*vb=lo*vb+1073741824*(vl (q.drop (k+1))*vb):=by rw [Nat.add_mul,Nat.mul_assoc]
  rw [e]
  generalize vl (q.drop (k+1))*vb=Q
  generalize lo*vb=L at *
  omega
theorem set_same {q:List Int} {k:Nat} (hk:k<q.length) (h:∀ d∈q.take (k+1),d=0):q.set k ((0:Nat):Int)=q:=by
 have:q[k]=0:=h _ (by rw [List.mem_take_iff_getElem]; exact ⟨k,by omega,rfl⟩)
 rw [show ((0:Nat):Int)=q[k] from this.symm]
 exact List.set_getElem_self hk
theorem dig_len_mul {n m k:Nat} {b:List Int} (hb:canon b) (hm:m≤1073741823) (hn:n≤m*vl b) (hk:b.length+1≤k):(dig n).length≤k:=by
 rw [dig_len]
 have h1:=vl_lt hb.1
 have h2:1073741824 ^ (b.length+1)≤1073741824 ^ k:=Nat.pow_le_pow_right (by decide) hk
 have h3:m*vl b≤1073741823*vl b:=Nat.mul_le_mul_right _ hm
 rw [Nat.pow_succ] at h2
 generalize 1073741824 ^ b.length=p at *
 omega
def cmpZ (a b:Int):Int:=if a<b then -1 else if b<a then 1 else 0
theorem cmpZ_nat (a b:Nat):cmpZ (a:Int) (b:Int)=cmpN a b:=by
 unfold cmpZ cmpN
 simp only [Int.ofNat_lt]
theorem cmpZ_neg (a b:Int):cmpZ (-a) (-b)=cmpZ b a:=by
 unfold cmpZ
 split <;> split <;> (try split) <;> (try split) <;> omega
theorem cmpZ_lt {a b:Int} (h:a<b):cmpZ a b = -1:=if_pos h
theorem cmpZ_gt {a b:Int} (h:b<a):cmpZ a b=1:=by unfold cmpZ; rw [if_neg (by omega),if_pos h]
def sgn (ng:Bool) (m:List Int):Int:=if ng then -(vl m:Int) else (vl m:Int)
theorem sgn_true (m:List Int):sgn true m = -(vl m:Int):=rfl
theorem sgn_false (m:List Int):sgn false m=(vl m:Int):=rfl
theorem make_step {out:List Int} {k n:Int} (ho:okD out) (hv:vl out+1073741824 ^ out.length*k.natAbs=n.natAbs) (d:Int) (hd:d=if k.tmod 1073741824<0 then -(k.tmod 1073741824) else k.tmod 1073741824) :
  okD (out++[d])∧vl (out++[d])+1073741824 ^ (out++[d]).length*(k.tdiv 1073741824).natAbs=n.natAbs:=by
 have h1:(k.tdiv 1073741824).natAbs=k.natAbs / 1073741824:=by rw [Int.natAbs_tdiv]; rfl
 have h2:d=((k.natAbs % 1073741824:Nat):Int):=by
  have h3:(k.tmod 1073741824).natAbs=k.natAbs % 1073741824:=by rw [Int.natAbs_tmod]; rfl
  split at hd <;> omega
 refine ⟨okD_append.2 ⟨ho,okD_cons.2 ⟨by omega,okD_nil⟩⟩,?_⟩
 rw [vl_append,vl_one,h1,h2,List.length_append,List.length_singleton,Nat.pow_succ,Int.toNat_natCast,← hv,Nat.mul_assoc,Nat.add_assoc,← Nat.mul_add]
 congr 2
 omega
theorem canon_snoc {x:List Int} {d:Int} (h:okD (x++[d])) (hd:d≠0):canon (x++[d]):=⟨h,by rw [List.getLast?_concat]; simpa using hd⟩
theorem flats_int_get {k:IntKind}:∀ (xs:List Int) (j:Nat),((Ty.int k).flats xs)[j]?=(xs[j]?).map (SV.int k)
 | [],j=>by simp [Ty.flats]
 | x::xs,0=>by simp [Ty.flats,Ty.flat]
 | x::xs,j+1=>by simp [Ty.flats,Ty.flat,flats_int_get xs j]
def fvParts:SV→Option (FuncId×List (Sigma Ty.T))
 | .fn f []=>some (f,[])
 | .fnp f caps=>some (f,caps)
 | .fv x=>x.parts
 | _=>none
end Go.Am
