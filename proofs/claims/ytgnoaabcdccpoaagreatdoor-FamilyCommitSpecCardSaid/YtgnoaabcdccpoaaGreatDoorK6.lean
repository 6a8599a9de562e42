/- Part 6 of the proof's base. -/
import Derived.Test.YtgnoaabcdccpoaaGreatDoorK5
set_option linter.all false
noncomputable section
namespace Go.Am
open Go.RowKit
structure ItCon where
 pre:List AV→Prop
 xs:List AV→List (List AV)
def ItOk (P:Program) (f:FuncId) (ic:ItCon):Prop :=
 (∀ (args:Array Value) (w:World),(callFunc f args).run P w=.ok (.enter f args) w) ∧
 ∀ (X:XT) (l:Nat) (w:World) (M0:Nat→Prop) (caps:List AV) (vs:List Value),XOk P X→ic.pre caps→MOk w M0→All2 (relAV w M0 [] []) caps vs→X l (ic.xs caps) 0 false w M0 (fun _=>False) →
  ∀ n,CallsIn (FW none) n P f (#[.func (.yield l) #[] #[]]++vs.toArray) w fun e w'=>∃ v i st M0' B',e=.returned v∧X l (ic.xs caps) i st w' M0' B'∧(st=false→i=(ic.xs caps).length)
section
variable {P:Program} {g:G} {X:XT} {N:Nat} {n0:Option Nat} {L:Cfg} {w:World} {M0:Nat→Prop} {bs:Bs} {hp:List Blk}
def yieldAV (l:Nat):AV:=.s (.val (.func (.yield l) #[] #[]))
theorem itOk_of (hg:g.good P) (hy:g.y=true) (hm:P.follows .mixedOrders=true) {f:FuncId} {fn:Func} {c:Code} (hf:P.funcs[f]?=some fn) (hent:∀ (args:Array Value) (w:World),(callFunc f args).run P w=.ok (.enter f args) w) (hb:fn.body=some c) (hres:fn.results=#[]) (ic:ItCon) (k:Nat) (hk:k<fn.ntmps)
  (hok:codeOk' L g.ye fn.ntmps c=true)
  (h:∀ caps l,ic.pre caps→allLen caps→caps.length=k∧∀ X,XOk P X→vc P g X fn.ntmps L c ⟨argEnv 0 (yieldAV l::caps),[.trace l (ic.xs caps) 0 false]⟩ (fun e s=>(e=.normal∨e=.ret)∧∃ i st,Blk.look s.hp 0=.trace l (ic.xs caps) i st∧(st=false→i=(ic.xs caps).length))) :
  ItOk P f ic:=by
 refine ⟨hent,fun X l w M0 caps vs hX hpre hM0 hargs hx n => ?_⟩
 obtain ⟨hlen,hvc⟩:=h caps l hpre (allLen_rel hargs)
 have hwp:=vc_sound (X:=X) (L:=L) hg hX hm c hok _ _ (hvc X hX)
 have hr0:HR w M0 [none] [.trace l (ic.xs caps) 0 false]:=by
  have hat:∀ id b,Bs.at [none] id≠some b:=by
   intro id b h
   cases id <;> simp [Bs.at] at h
  have hlk:∀ id x,Blk.look [.trace l (ic.xs caps) 0 false] id=x→x=.trace l (ic.xs caps) 0 false∨x=.dead:=by
   intro id x h
   cases id <;> simp [Blk.look] at h
   ·
    exact .inl h.symm
   ·
    exact .inr h.symm
  refine ⟨rfl,hM0.lt,fun id b h=>absurd h (hat id b),fun i j b h=>absurd h (hat i b),fun id b h=>absurd h (hat id b),fun id cs h => ?_,fun id cs h => ?_,fun id al cs b _ h=>absurd h (hat id b),fun id k v es h => ?_,hM0.gl.evo (Evo.more w fun b _ h=>h.elim id fun ⟨j,h⟩=>absurd h (hat j b))⟩
  all_goals (rcases hlk _ _ h with h | h <;> cases h)
 have hmof:∀ b,Mof M0 [none] b→M0 b:=by
  rintro b (h | ⟨id,h⟩)
  ·
   exact h
  ·
   cases id <;> simp [Bs.at] at h
 have hrel:All2 (relAV w (Mof M0 [none]) [none] [.trace l (ic.xs caps) 0 false]) (yieldAV l::caps) (.func (.yield l) #[] #[]::vs) :=
  .cons rfl (hargs.imp fun x v h=>relAV_lift (relAV_weaken hmof h))
 have hvs : #[.func (.yield l) #[] #[]]++vs.toArray=((.func (.yield l) #[] #[]::vs:List Value)).toArray:=by simp
 rw [hvs]
 have hN:((.func (.yield l) #[] #[]::vs:List Value).toArray++Array.replicate (fn.ntmps - (.func (.yield l) #[] #[]::vs:List Value).toArray.size) undef).size=fn.ntmps:=by
  have:=hargs.length
  simp; omega
 refine callsIn_of_wp_marks (n:=n) hf hb trivial (wpIn_mono (hwp n none none M0 [none] { tmps:=(.func (.yield l) #[] #[]::vs:List Value).toArray++Array.replicate (fn.ntmps - (.func (.yield l) #[] #[]::vs:List Value).toArray.size) undef,defers:=[] } w ⟨fun _=>rfl,by simp [hy]⟩ ⟨hr0,?_,?_,hN,rfl⟩) ?_)
 ·
  intro l2 xs i st ht
  simp [Blk.look] at ht
  obtain ⟨rfl,rfl,rfl,rfl⟩:=ht
  have:inBs [none]=fun _=>False:=by
   funext b; apply propext; constructor
   ·
    rintro ⟨id,h⟩; cases id <;> simp [Bs.at] at h
   ·
    exact False.elim
  rw [this]; exact hx
 ·
  refine argEnv_rel 0 _ hrel (fun j v hj => ?_)
  have hj2:=(List.getElem?_eq_some_iff.1 hj).1
  simp only [Array.getD_eq_getD_getElem?,Nat.zero_add]
  rw [Array.getElem?_append_left (by simpa using hj2)]
  simp only [List.getElem?_toArray,hj,Option.getD_some]
 ·
  rintro e a' w' ⟨s',M0',bs',⟨hke,i,st,hlk,hend⟩,hr',hn⟩
  have hdf:a'.defers=[]:=hr'.df
  have:LeavesInM (FW none) n P fn a'.tmps (fun e w'=>∃ v i st M0' B',e=.returned v∧X l (ic.xs caps) i st w' M0' B'∧(st=false→i=(ic.xs caps).length)) a'.defers .returning w':=by
   rw [hdf]
   exact ⟨.tuple #[],by simp [results,hres],_,i,st,M0',_,rfl,hr'.xr _ _ _ _ hlk,hend⟩
  rcases hke with rfl | rfl <;> exact this
def psE:List Nat→List AV→Env→Env
 | p::ps,x::xs,e=>psE ps xs ((p,⟨true,.v x⟩)::e)
 | _,_,e=>e
theorem psE_rel {M:Nat→Prop} (d:List Deferred):∀ (ps:List Nat) (xs:List AV) (vs:List Value) (e:Env) (tm:Array Value),All2 (relAV w M bs hp) xs vs→(∀ p∈ps,p<tm.size)→relEnv w M bs hp e { tmps:=tm,defers:=d } →
  relEnv w M bs hp (psE ps xs e) { tmps:=(ps.zip vs).foldl (fun t (p,v)=>t.setIfInBounds p v) tm,defers:=d }∧((ps.zip vs).foldl (fun t (p,v)=>t.setIfInBounds p v) tm).size=tm.size
 | [],xs,vs,e,tm,_,_,h=>by cases xs <;> exact ⟨h,rfl⟩
 | p::ps,_,_,e,tm,.nil,_,h=>⟨h,rfl⟩
 | p::ps,_,_,e,tm,.cons r hr,hp',h=>by
  have h1:=relEnv_put (a:={ tmps:=tm,defers:=d }) h (some p) ⟨true,.v _⟩ _ ⟨fun _=>r,by simp⟩ (fun k hk=>by cases hk; exact hp' p (by simp))
  have:=psE_rel d ps _ _ _ (tm.setIfInBounds p _) hr (fun q hq=>by simp; exact hp' q (by simp [hq])) h1
  simp only [psE,List.zip_cons_cons,List.foldl_cons]
  refine ⟨this.1,this.2.trans (by simp)⟩
def jumpC:Exit→Option Code
 | .ret=>some .ret
 | .exit id=>some (.exit id)
 | .goto t=>some (.goto t)
 | _=>none
def G.round (g:G):G:={ g with top:=false }
def recOf (fn:FuncId) (tmps:Array Value) (ps:Array Tmp) (assign body:Code) (D:Nat) (st:LoopState) (pe:Option Code):Loop:={ state:=st,pending:=pe,fn,tmps,params:=ps,assign,body,defers:=D }
theorem HR.keep' {M0':Nat→Prop} (hr:HR w M0 bs hp) {w':World} (he:Evo (Mof M0 bs) (Mof M0' bs) w w') (hs:∀ id b,bs.at id=some b→w'.heap[b]?=w.heap[b]?) (hm:∀ b,M0' b→b<w'.heap.size) (ho:∀ id b,bs.at id=some b→¬ M0' b) :
  HR w' M0' bs hp∧Step true w (Mof M0 bs) bs hp w' (Mof M0' bs) bs hp:=by
 have hst:Step true w (Mof M0 bs) bs hp w' (Mof M0' bs) bs hp :=
  ⟨he,Nat.le_refl _,fun id cs _ h=>⟨⟨cs,h⟩,rfl⟩,fun id b k u es h1 h2=>⟨h1,es,h2⟩,fun id al cs _ h=>⟨al,cs,h,.inr ⟨rfl,rfl,fun _=>rfl,fun b hb cap size ho=>by
   obtain ⟨cur,e,h1,h2⟩:=ho
   exact ⟨cur,e,by rw [hs id b hb]; exact h1,h2⟩⟩⟩,by simp⟩
 refine ⟨⟨hr.len,hm,fun id b h=>Nat.lt_of_lt_of_le (hr.lt id b h) he.size,hr.inj,ho,hr.al,?_,?_,?_,hr.gl.evo hst.evo⟩,hst⟩
 ·
  intro id cs hl
  obtain ⟨b,cur,e,h1,h2,h3,h4⟩:=hr.cells id cs hl
  refine ⟨b,cur,e,h1,by rw [hs id b h1]; exact h2,h3,fun j x hj => ?_⟩
  obtain ⟨u,k1,k2,k3⟩:=h4 j x hj
  exact ⟨u,k1,k2,relSV_step hst x u k3⟩
 ·
  intro id al cs b hl hb
  obtain ⟨cur,e,h2,h4⟩:=hr.arr id al cs b hl hb
  refine ⟨cur,e,by rw [hs id b hb]; exact h2,fun j x hj => ?_⟩
  obtain ⟨u,k1,k2,k3⟩:=h4 j x hj
  exact ⟨u,k1,k2,relSV_step hst x u k3⟩
 ·
  intro id k v es hl
  obtain ⟨b,ents,clock,h1,h2,h3⟩:=hr.map id k v es hl
  exact ⟨b,ents,clock,h1,by rw [hs id b h1]; exact h2,h3.imp fun x m hm=>⟨hm.1,repV_evo he hm.2⟩⟩
structure Stays (w0:World) (M0:Nat→Prop) (bs0:Bs) (hp0:List Blk) (D l:Nat) (B:Nat→Prop) (w:World) (bs:Bs) (hp:List Blk):Prop where
 hr:HR w (fun b=>M0 b∨b=l∨B b) bs hp
 st:Step true w0 (Mof M0 bs0) bs0 hp0 w (Mof (fun b=>M0 b∨b=l∨B b) bs) bs hp
 only:Only w0 bs0 hp0 w bs hp
 tr:∀ l xs i st,Blk.look hp 0≠.trace l xs i st
 dD:DefOk (some (0,[])) w (Mof (fun b=>M0 b∨b=l∨B b) bs) [markOf D]
def XC (K:Exit→List Blk→Prop) (R:Nat→List Blk→Prop) (fn:FuncId) (tmps:Array Value) (ps:Array Tmp) (assign body:Code) (w0:World) (M0:Nat→Prop) (bs0:Bs) (hp0:List Blk) (D l0:Nat) (xs0:List (List AV)):XT :=
 fun l xs i st w MI B=>l=l0∧xs=xs0∧∃ bs hp pe,(∀ b,MI b↔(M0 b∨inBs bs b∨b=l0))∧w.heap[l0]?=some (.loop (recOf fn tmps ps assign body D (if st then .done else .ready) pe))∧¬ B l0∧¬ inBs bs l0∧w0.heap.size≤l0∧(∀ b,B b→w0.heap.size≤b) ∧
  Stays w0 M0 bs0 hp0 D l0 B w bs hp∧(st=false→pe=none∧R i hp)∧(st=true→∃ e c,pe=some c∧jumpC e=some c∧K e hp)
theorem XC_stable {K:Exit→List Blk→Prop} {R:Nat→List Blk→Prop} {fn:FuncId} {tmps:Array Value} {ps:Array Tmp} {assign body:Code} {w0:World} {bs0:Bs} {hp0:List Blk} {D l0:Nat} {xs0:List (List AV)}
  {l:Nat} {xs:List (List AV)} {i:Nat} {st:Bool} {w w':World} {MI B B':Nat→Prop} (h:XC K R fn tmps ps assign body w0 M0 bs0 hp0 D l0 xs0 l xs i st w MI B) (hos:w'.os=w.os) (htp:w'.tape=w.tape) (hou:w'.output=w.output) (hsz:w.heap.size≤w'.heap.size) (hdr:w.drawn≤w'.drawn)
  (hsame:∀ b,b<w.heap.size→¬ B b→w'.heap[b]?=w.heap[b]?) (hnew:∀ b,b<w.heap.size→¬ B b→¬ B' b) (hB':∀ b,B' b→b<w'.heap.size):XC K R fn tmps ps assign body w0 M0 bs0 hp0 D l0 xs0 l xs i st w' MI B':=by
 obtain ⟨rfl,rfl,bs,hp,pe,hMI,hrec,hBl,hbl,hl0,hB0,hS,h1,h2⟩:=h
 have hll:l<w.heap.size:=(Array.getElem?_eq_some_iff.1 hrec).1
 have hw0:w0.heap.size≤w.heap.size:=by omega
 have he:Evo (Mof (fun b=>M0 b∨b=l∨B b) bs) (Mof (fun b=>M0 b∨b=l∨B' b) bs) w w':=by
  refine ⟨hos,htp,hou,hsz,hdr,fun b hb hn=>hsame b hb fun hB=>hn (.inl (.inr (.inr hB))),fun b hb hn hm => ?_⟩
  have hnB:¬ B b:=fun hB=>hn (.inl (.inr (.inr hB)))
  rcases hm with (hm | hm | hm) | hm
  ·
   exact hn (.inl (.inl hm))
  ·
   exact hn (.inl (.inr (.inl hm)))
  ·
   exact hnew b hb hnB hm
  ·
   exact hn (.inr hm)
 have hBbs:∀ id b,bs.at id=some b→¬ B b:=fun id b hb hB=>hS.hr.out id b hb (.inr (.inr hB))
 obtain ⟨k1,k2⟩:=hS.hr.keep' he (fun id b hb=>hsame b (hS.hr.lt id b hb) (hBbs id b hb)) (fun b hb=>by
  rcases hb with hb | hb | hb
  ·
   exact Nat.lt_of_lt_of_le (hS.hr.m0 b (.inl hb)) hsz
  ·
   subst hb; omega
  ·
   exact hB' b hb) (fun id b hb hm=>by
  rcases hm with hm | hm | hm
  ·
   exact hS.hr.out id b hb (.inl hm)
  ·
   exact hS.hr.out id b hb (.inr (.inl hm))
  ·
   exact hnew b (hS.hr.lt id b hb) (hBbs id b hb) hm)
 have hge:∀ b,B' b→w0.heap.size≤b:=fun b hb=>by
  rcases Nat.lt_or_ge b w.heap.size with hlt | hge
  ·
   by_cases hB:B b
   ·
    exact hB0 b hB
   ·
    exact absurd hb (hnew b hlt hB)
  ·
   omega
 refine ⟨rfl,rfl,bs,hp,pe,hMI,by rw [hsame l hll hBl]; exact hrec,hnew l hll hBl,hbl,hl0,hge,⟨k1,hS.st.trans k2,?_,hS.tr,hS.dD.evo he⟩,h1,h2⟩
 refine ⟨fun b hb hn=>(hsame b (by omega) fun hB=>by have:=hB0 b hB; omega).trans (hS.only.old b hb hn),hS.only.new,hS.only.tr⟩
theorem Only.touch {w0:World} {bs0:Bs} {hp0:List Blk} (h:Only w0 bs0 hp0 w bs hp) {w':World} (hs:∀ b,b<w0.heap.size→w'.heap[b]?=w.heap[b]?):Only w0 bs0 hp0 w' bs hp :=
 ⟨fun b hb hn=>(hs b hb).trans (h.old b hb hn),h.new,h.tr⟩
theorem Evo.congr {A B A' B':Nat→Prop} {w w':World} (h:Evo A B w w') (h1:∀ b,A b↔A' b) (h2:∀ b,B b↔B' b):Evo A' B' w w' :=
 ⟨h.os,h.tape,h.output,h.size,h.drawn,fun b hb hn=>h.block b hb fun k=>hn ((h1 b).1 k),fun b hb hn k=>h.free b hb (fun k=>hn ((h1 b).1 k)) ((h2 b).2 k)⟩
theorem Evo.putObj {M:Nat→Prop} {l:Nat} (o:Obj) (hl:M l):Evo M M w (w.putObj l o) :=
 ⟨rfl,rfl,rfl,by simp,Nat.le_refl _,fun b hb hn=>World.putObj_heap_other (fun e=>hn (e▸hl)),fun _ _ h=>h⟩
theorem Stays.record {w0:World} {bs0:Bs} {hp0:List Blk} {D l:Nat} {B:Nat→Prop} (h:Stays w0 M0 bs0 hp0 D l B w bs hp) (hl0:w0.heap.size≤l) (hl:¬ inBs bs l) (hll:l<w.heap.size) {r0:Loop} (hr0:w.heap[l]?=some (.loop r0)) (r1:Loop):Stays w0 M0 bs0 hp0 D l B (w.putObj l (.loop r1)) bs hp:=by
 have he:Evo (Mof (fun b=>M0 b∨b=l∨B b) bs) (Mof (fun b=>M0 b∨b=l∨B b) bs) w (w.putObj l (.loop r1)):=Evo.putObj _ (.inl (.inr (.inl rfl)))
 obtain ⟨k1,k2⟩:=h.hr.keep' he (fun id b hb=>World.putObj_heap_other fun e=>hl ⟨id,e▸hb⟩) (fun b hb=>by have:=h.hr.m0 b hb; simpa using this) h.hr.out
 exact ⟨k1,h.st.trans k2,h.only.touch fun b hb=>World.putObj_heap_other (by omega),h.tr,h.dD.evo he⟩
theorem Stays.step {w0:World} {bs0:Bs} {hp0:List Blk} {D l:Nat} {B:Nat→Prop} (h:Stays w0 M0 bs0 hp0 D l B w bs hp) {w':World} {bs':Bs} {hp':List Blk} (hr:HR w' (fun b=>M0 b∨b=l∨B b) bs' hp')
  (hs:Step false w (Mof (fun b=>M0 b∨b=l∨B b) bs) bs hp w' (Mof (fun b=>M0 b∨b=l∨B b) bs') bs' hp'):Stays w0 M0 bs0 hp0 D l B w' bs' hp' :=
 ⟨hr,h.st.trans hs.weaken,h.only.trans h.st.evo.size (hs.only rfl),fun l xs i st ht=>h.tr l xs i st ((hs.only rfl).tr 0 l xs i st ht),h.dD.evo hs.evo⟩
theorem zip_foldl (ps:Array Tmp) (vs:List Value) (tm:Array Value) :
  (ps.zip vs.toArray).foldl (fun t (x:Tmp×Value)=>t.setIfInBounds x.1 x.2) tm=(ps.toList.zip vs).foldl (fun t (p,v)=>t.setIfInBounds p v) tm:=by
 rw [← Array.foldl_toList]; simp
def TrT (n:Nat) (hp hp':List Blk):Prop:=hp'=hp∨∃ junk,hp=hp'++junk∧n≤hp'.length∧hp'.all (fun b=>b.below hp'.length)=true
theorem TrT.refl (n:Nat) (hp:List Blk):TrT n hp hp:=.inl rfl
theorem TrT.drop {n:Nat} {hp junk:List Blk} (h:n≤hp.length) (hb:hp.all (fun b=>b.below hp.length)=true):TrT n (hp++junk) hp:=.inr ⟨junk,rfl,h,hb⟩
theorem Step.trunc' {v:Bool} {w0 w:World} {MM M:Nat→Prop} {bs0 bs:Bs} {hp0 hp junk:List Blk} (hl:hp0.length≤hp.length) (hst:Step v w0 MM bs0 hp0 w (Mof M bs) bs (hp++junk)):Step v w0 MM bs0 hp0 w (Mof M (bs.take hp.length)) (bs.take hp.length) hp:=by
 have hev:Evo (Mof M bs) (Mof M (bs.take hp.length)) w w:=Evo.more w fun b _=>Mof_take
 refine ⟨hst.evo.trans hev,by omega,?_,?_,?_,fun hv => ?_⟩
 ·
  intro id cs h1 h2
  rw [at_take (by omega)]
  exact hst.box id cs h1 (by rw [look_app (by omega)]; exact h2)
 ·
  intro id b k u es h1 h2
  have hlt:id<hp0.length:=look_lt (by rw [h2]; simp)
  obtain ⟨k1,es',k2⟩:=hst.map id b k u es h1 h2
  exact ⟨by rw [at_take (by omega)]; exact k1,es',by rw [← look_app (junk:=junk) (by omega)]; exact k2⟩
 ·
  intro id al cs hid h
  rw [at_take (by omega)]
  exact hst.own id al cs hid (by rw [look_app (by omega)]; exact h)
 ·
  have ho:=hst.only hv
  exact ⟨ho.old,fun b hb hn j hj=>ho.new b hb hn j (at_take' hj),fun j l ys i st ht=>ho.tr j l ys i st (by rw [look_app (look_lt (by rw [ht]; simp))]; exact ht)⟩
theorem Stays.trunc {w0 w:World} {bs0 bs:Bs} {hp0 hp junk:List Blk} {D l:Nat} {B:Nat→Prop} (h:Stays w0 M0 bs0 hp0 D l B w bs (hp++junk)) (hl:hp0.length≤hp.length) (hb:hp.all (fun b=>b.below hp.length)=true):Stays w0 M0 bs0 hp0 D l B w (bs.take hp.length) hp :=
  ⟨h.hr.trunc hb,Step.trunc' hl h.st,⟨h.only.old,fun b hb hn j hj=>h.only.new b hb hn j (at_take' hj),fun j l ys i st ht=>h.only.tr j l ys i st (by rw [look_app (look_lt (by rw [ht]; simp))]; exact ht)⟩,
   fun l xs i st ht=>h.tr l xs i st (by rw [look_app (look_lt (by rw [ht]; simp))]; exact ht),h.dD.evo (Evo.more w fun b _=>Mof_take)⟩
def roundK (KJ:Exit→List Blk→Prop) (R:List Blk→Prop) (n:Nat):Exit→St→Prop
 | .normal,s=>∃ hp',TrT n s.hp hp'∧R hp'
 | .ret,s=>KJ .ret s.hp
 | .exit id,s=>KJ (.exit id) s.hp
 | .goto t,s=>KJ (.goto t) s.hp
 | _,_=>False
theorem XC_ok (hg:g.good P) (hy:g.y=false) (hm:P.follows .mixedOrders=true) {KJ:Exit→List Blk→Prop} {R:Nat→List Blk→Prop} {fn:FuncId} {tmps:Array Value} {ps:Array Tmp} {assign body:Code} {w0:World} {bs0:Bs} {hp0:List Blk} {D l0:Nat} {xs0:List (List AV)} {e0:Env}
  (he0:relEnv w0 (Mof M0 bs0) bs0 hp0 e0 { tmps:=tmps,defers:=[] }) (hN:tmps.size=N) (hps:∀ p∈ps.toList,p<N) (hoka:codeOk' L g.ye N assign=true) (hokb:codeOk' L g.ye N body=true)
  (hround:∀ i args hp,xs0[i]?=some args→R i hp→args.length=ps.size∧vc P g.round X0 N L assign ⟨psE ps.toList args e0,hp⟩ (thenK (fun s1=>vc P g.round X0 N L body s1 (roundK KJ (R (i+1)) hp0.length)) (fun _ _=>False))) :
  XOk P (XC KJ R fn tmps ps assign body w0 M0 bs0 hp0 D l0 xs0):=by
 refine ⟨fun h h1 h2 h3 h4 h4d h5 h6 h7=>XC_stable h h1 h2 h3 h4 h4d h5 h6 h7,?_⟩
 rintro l xs i w MI B args vs ⟨rfl,rfl,bs,hp,pe,hMI,hrec,hBl,hbl,hl0,hB0,hS,h1,_⟩ hi hMI0 hB hargs
 obtain ⟨rfl,hR⟩:=h1 rfl
 obtain ⟨hlen,hvc⟩:=hround i args hp hi hR
 have hll:l<w.heap.size:=(Array.getElem?_eq_some_iff.1 hrec).1
 simp only [if_neg,Bool.false_eq_true,not_false_eq_true] at hrec
 have hy':=run_yield (P:=P) (args:=vs.toArray) hrec (by have:=hargs.length; simp [recOf]; omega)
 refine ⟨fn,_,assign,body,hy',fun n r=>roundIn_of_wpIn trivial ?_⟩
 have hgr:g.round.good P:=hg
 have hA:=vc_sound (L:=L) (N:=N) hgr X0_ok hm assign hoka _ _ hvc
 have hsub:∀ b,Mof (fun b=>M0 b∨b=l∨B b) bs b→(fun b=>MI b∨B b) b:=by
  rintro b ((hb | hb | hb) | hb)
  ·
   exact .inl ((hMI b).2 (.inl hb))
  ·
   exact .inl ((hMI b).2 (.inr (.inr hb)))
  ·
   exact .inr hb
  ·
   exact .inl ((hMI b).2 (.inr (.inl hb)))
 obtain ⟨q1,q2⟩:=psE_rel [] ps.toList args vs e0 tmps ((all2_weaken hsub hargs).imp fun x v h=>relAV_lift (bs:=bs) (hp:=hp) h) (by rw [hN]; exact hps) (relEnv_step hS.st he0)
 have htm:(ps.zip vs.toArray).foldl (fun t (x:Tmp×Value)=>t.setIfInBounds x.1 x.2) tmps=(ps.toList.zip vs).foldl (fun t (p,v)=>t.setIfInBounds p v) tmps:=zip_foldl ps vs tmps
 have hrel:Rel P X0 N (some (0,[])) w (fun b=>M0 b∨b=l∨B b) bs { tmps:=(ps.toList.zip vs).foldl (fun t (p,v)=>t.setIfInBounds p v) tmps,defers:=[] } ⟨psE ps.toList args e0,hp⟩ :=
  ⟨hS.hr,fun l xs i st ht=>absurd ht (hS.tr l xs i st),q1,q2.trans hN,⟨Nat.zero_le _,[],rfl,.nil,by simp⟩⟩
 have hFW:(FW r).inRound l=FW (some l):=rfl
 rw [hFW]
 have hgoal:=hA n (some l) (some (0,[])) _ bs _ w ⟨by simp [G.round],by simp [G.round,hy]⟩ hrel
 rw [← htm] at hgoal
 refine wpIn_mono hgoal ?_
 rintro e a1 w1 ⟨s1,M1,bs1,hK1,hrel1,hnx1⟩
 obtain rfl:M1=_:=hnx1.eq hy
 cases e with
 | normal =>
  have hst1:Step false w (Mof (fun b=>M0 b∨b=l∨B b) bs) bs hp w1 (Mof (fun b=>M0 b∨b=l∨B b) bs1) bs1 s1.hp:=by have:=hnx1.st; rwa [show g.round.y=false from hy] at this
  have hS1:=hS.step hrel1.hr hst1
  have ho1:=hst1.only rfl
  have hl1:¬ inBs bs1 l:=fun ⟨id,h⟩=>ho1.new l hll (fun id h=>hbl ⟨id,h⟩) id h
  have hrec1:w1.heap[l]?=some (.loop (recOf fn tmps ps assign body D .ready none)):=(ho1.old l hll fun id h=>hbl ⟨id,h⟩).trans hrec
  have hll1:l<w1.heap.size:=(Array.getElem?_eq_some_iff.1 hrec1).1
  refine ⟨_,run_beginRound hrec1 rfl,?_⟩
  have hS2:=hS1.record hl0 hl1 hll1 hrec1 ({ recOf fn tmps ps assign body D .ready none with state:=.busy })
  have hev2:Evo (Mof (fun b=>M0 b∨b=l∨B b) bs1) (Mof (fun b=>M0 b∨b=l∨B b) bs1) w1 (w1.putObj l (.loop { recOf fn tmps ps assign body D .ready none with state:=.busy })):=Evo.putObj _ (.inl (.inr (.inl rfl)))
  obtain ⟨_,hst2⟩:=hrel1.hr.keep' hev2 (fun id b hb=>World.putObj_heap_other fun e=>hl1 ⟨id,e▸hb⟩) (fun b hb=>by have:=hrel1.hr.m0 b hb; simpa using this) hrel1.hr.out
  have hB2:=vc_sound (L:=L) (N:=N) hgr X0_ok hm body hokb _ _ hK1
  have hrel2:Rel P X0 N (some (0,[])) (w1.putObj l (.loop { recOf fn tmps ps assign body D .ready none with state:=.busy })) (fun b=>M0 b∨b=l∨B b) bs1 a1 s1 :=
   ⟨hS2.hr,fun l xs i st ht=>absurd ht (hS2.tr l xs i st),relEnv_step hst2 hrel1.env,hrel1.size,hrel1.df.evo hev2⟩
  refine wpIn_mono (hB2 n (some l) (some (0,[])) _ bs1 a1 _ ⟨by simp [G.round],by simp [G.round,hy]⟩ hrel2) ?_
  rintro e a2 w2 ⟨s2,M2,bs2,hK2,hrel3,hnx2⟩
  obtain rfl:M2=_:=hnx2.eq hy
  have hst3:=hnx2.st
  rw [show g.round.y=false from hy] at hst3
  have hS3:=hS2.step hrel3.hr hst3
  have ho3:=hst3.only rfl
  have hl2:¬ inBs bs2 l:=fun ⟨id,h⟩=>ho3.new l (by simpa using hll1) (fun id h=>hl1 ⟨id,h⟩) id h
  have hrec2:w2.heap[l]?=some (.loop { recOf fn tmps ps assign body D .ready none with state:=.busy }):=(ho3.old l (by simpa using hll1) fun id h=>hl1 ⟨id,h⟩).trans (World.putObj_heap_same hll1)
  have hll2:l<w2.heap.size:=(Array.getElem?_eq_some_iff.1 hrec2).1
  have fin:∀ (bsF:Bs) (hpF:List Blk),Stays w0 M0 bs0 hp0 D l B w2 bsF hpF→(∀ b,inBs bsF b→inBs bs2 b)→∀ (jump:Option Code),(jump=none→R (i+1) hpF)→(∀ c,jump=some c→∃ e,jumpC e=some c∧KJ e hpF) →
    ∃ v w',(Instr.endRound l jump).run P w2=.ok v w'∧∃ b M0',Ending.returned v=.returned (.bool b)∧XC KJ R fn tmps ps assign body w0 M0 bs0 hp0 D l xs l xs (i+1) (!b) w' M0' B∧YStep w MI B w' M0':=by
   intro bsF hpF hSF hle jump hj1 hj2
   have hlF:¬ inBs bsF l:=fun h=>hl2 (hle l h)
   refine ⟨_,_,run_endRound jump hrec2,jump.isNone,(fun b=>M0 b∨inBs bsF b∨b=l),rfl,?_,?_⟩
   ·
    have hS4:=hSF.record hl0 hlF hll2 hrec2 ({ recOf fn tmps ps assign body D .ready none with state:=if jump.isNone then .ready else .done,pending:=jump })
    refine ⟨rfl,rfl,bsF,hpF,jump,fun b=>Iff.rfl,?_,hBl,hlF,hl0,hB0,hS4,?_,?_⟩
    ·
     rw [World.putObj_heap_same hll2]
     cases jump <;> rfl
    ·
     intro hb
     cases jump with
     | none=>exact ⟨rfl,hj1 rfl⟩
     | some c=>simp at hb
    ·
     intro hb
     cases jump with
     | none=>simp at hb
     | some c =>
      obtain ⟨e,k1,k2⟩:=hj2 c rfl
      exact ⟨e,c,rfl,k1,k2⟩
   ·
    have hset1:∀ b,Mof (fun b=>M0 b∨b=l∨B b) bs b↔(fun b=>MI b∨B b) b:=fun b=>⟨hsub b,by
     rintro (hb | hb)
     ·
      rcases (hMI b).1 hb with hb | hb | hb
      ·
       exact .inl (.inl hb)
      ·
       exact .inr hb
      ·
       exact .inl (.inr (.inl hb))
     ·
      exact .inl (.inr (.inr hb))⟩
    have hset2:∀ b,Mof (fun b=>M0 b∨b=l∨B b) bsF b↔(fun b=>(M0 b∨inBs bsF b∨b=l)∨B b) b:=fun b=>⟨by
     rintro ((hb | hb | hb) | hb)
     ·
      exact .inl (.inl hb)
     ·
      exact .inl (.inr (.inr hb))
     ·
      exact .inr hb
     ·
      exact .inl (.inr (.inl hb)),by
     rintro ((hb | hb | hb) | hb)
     ·
      exact .inl (.inl hb)
     ·
      exact .inr hb
     ·
      exact .inl (.inr (.inl hb))
     ·
      exact .inl (.inr (.inr hb))⟩
    have hev4:Evo (Mof (fun b=>M0 b∨b=l∨B b) bs2) (Mof (fun b=>M0 b∨b=l∨B b) bs2) w2 (w2.putObj l (.loop { recOf fn tmps ps assign body D .ready none with state:=if jump.isNone then .ready else .done,pending:=jump })):=Evo.putObj _ (.inl (.inr (.inl rfl)))
    have hevF:Evo (Mof (fun b=>M0 b∨b=l∨B b) bs2) (Mof (fun b=>M0 b∨b=l∨B b) bsF) _ _:=Evo.more (w2.putObj l (.loop { recOf fn tmps ps assign body D .ready none with state:=if jump.isNone then .ready else .done,pending:=jump })) fun b _ hb=>by
     rcases hb with hb | hb
     ·
      exact .inl hb
     ·
      exact .inr (hle b hb)
    have hev:=(((hst1.evo.trans hev2).trans hst3.evo).trans hev4).trans hevF
    have hBb:∀ b,B b→b≠l∧¬ inBs bs b∧¬ inBs bs1 b∧¬ inBs bs2 b:=fun b hb=>by
     have h0:¬ inBs bs b:=fun h=>(hB b hb).2 ((hMI b).2 (.inr (.inl h)))
     have h1:¬ inBs bs1 b:=fun ⟨id,h⟩=>ho1.new b (hB b hb).1 (fun id h=>h0 ⟨id,h⟩) id h
     have h2:¬ inBs bs2 b:=fun ⟨id,h⟩=>ho3.new b (by have:=hst1.evo.size; have:=(hB b hb).1; simp; omega) (fun id h=>h1 ⟨id,h⟩) id h
     exact ⟨fun e=>hBl (e▸hb),h0,h1,h2⟩
    refine ⟨hev.congr hset1 hset2,fun b hb => ?_,?_,?_⟩
    ·
     obtain ⟨g1,g2,g3,g4⟩:=hBb b hb
     have hb1:=(hB b hb).1
     rw [World.putObj_heap_other g1,ho3.old b (by have:=hst1.evo.size; simp; omega) (fun id h=>g3 ⟨id,h⟩),World.putObj_heap_other g1,ho1.old b hb1 (fun id h=>g2 ⟨id,h⟩)]
    ·
     rintro b (hb | hb | hb)
     ·
      have:=hSF.hr.m0 b (.inl hb); simpa using this
     ·
      obtain ⟨id,hb⟩:=hb; have:=hSF.hr.lt id b hb; simpa using this
     ·
      subst hb; simpa using hll2
    ·
     intro b hb hm
     obtain ⟨g1,g2,g3,g4⟩:=hBb b hb
     rcases hm with hm | hm | hm
     ·
      exact (hB b hb).2 ((hMI b).2 (.inl hm))
     ·
      exact g4 (hle b hm)
     ·
      exact g1 hm
  cases e with
  | normal =>
   obtain ⟨hp',htr,hR⟩:=hK2
   rcases htr with rfl | ⟨junk,heq,hlen,hbel⟩
   ·
    exact fin bs2 s2.hp hS3 (fun _ h=>h) none (fun _=>hR) (by simp)
   ·
    rw [heq] at hS3
    exact fin _ hp' (hS3.trunc hlen hbel) (fun b ⟨j,hj⟩=>⟨j,at_take' hj⟩) none (fun _=>hR) (by simp)
  | ret=>exact fin bs2 s2.hp hS3 (fun _ h=>h) (some .ret) (by simp) (fun c hc=>by injection hc with hc; subst hc; exact ⟨.ret,rfl,hK2⟩)
  | exit id=>exact fin bs2 s2.hp hS3 (fun _ h=>h) (some (.exit id)) (by simp) (fun c hc=>by injection hc with hc; subst hc; exact ⟨.exit id,rfl,hK2⟩)
  | goto t=>exact fin bs2 s2.hp hS3 (fun _ h=>h) (some (.goto t)) (by simp) (fun c hc=>by injection hc with hc; subst hc; exact ⟨.goto t,rfl,hK2⟩)
  | panic ch=>exact hK2.elim
  | outgrown=>exact hK2.elim
 | _=>exact hK1.elim
theorem Wp.rangeFunc (hg:g.good P) (hm:P.follows .mixedOrders=true) (hy:g.y=false) (htop:g.top=true) {gop:Operand} {ps:Array Tmp} {assign body:Code} {s:St} {K:Exit→St→Prop} (f:FuncId) (caps:List (Sigma Ty.T))
  (hop:oper s.e gop=⟨true,.v (.s (.fnp f caps))⟩) (ic:ItCon) (hit:ItOk P f ic) (hpre:ic.pre (caps.map capAV)) (hps:∀ p∈ps.toList,p<N) (hoka:codeOk' L g.ye N assign=true) (hokb:codeOk' L g.ye N body=true) (htr:∀ l xs i st,Blk.look s.hp 0≠.trace l xs i st)
  (R:Nat→List Blk→Prop) (h0:R 0 s.hp)
  (hround:∀ i args hp,(ic.xs (caps.map capAV))[i]?=some args→R i hp→args.length=ps.size ∧
   vc P g.round X0 N L assign ⟨psE ps.toList args s.e,hp⟩ (thenK (fun s1=>vc P g.round X0 N L body s1 (roundK (fun e hp=>K e ⟨s.e,hp⟩) (R (i+1)) s.hp.length)) (fun _ _=>False)))
  (hend:∀ hp,R (ic.xs (caps.map capAV)).length hp→K .normal ⟨s.e,hp⟩):Wp P g X0 N (.rangeFunc gop ps assign body) s K:=by
 intro n r n0 M0 bs a w hT hr
 obtain rfl:r=none:=hT.1 htop
 refine wpIn_rangeFunc ?_
 intro fn hfn
 have ho:=oper_rel hr.hr.gl hr.env gop
 unfold opRV at ho
 rw [hop] at ho
 obtain ⟨qs,hev,hq⟩:=ho rfl
 obtain ⟨W1,hW1⟩:∃ W1,(w.alloc (.deferred (some []))).alloc (.loop (recOf fn a.tmps ps assign body w.heap.size .ready none))=W1:=⟨_,rfl⟩
 have hL1:W1.heap[w.heap.size+1]?=some (.loop (recOf fn a.tmps ps assign body w.heap.size .ready none)):=by
  rw [← hW1]; have:=World.alloc_heap_new (w.alloc (.deferred (some []))) (.loop (recOf fn a.tmps ps assign body w.heap.size .ready none)); rwa [World.size_alloc] at this
 have hK1:W1.heap[w.heap.size]?=some (.deferred (some [])):=by
  rw [← hW1]; exact (Below.heap_alloc _ _ _ (by simp)).trans (World.alloc_heap_new w _)
 have hsz1:W1.heap.size=w.heap.size+2:=by rw [← hW1]; simp
 have hev0:Evo (Mof M0 bs) (Mof (fun b=>M0 b∨b=w.heap.size+1∨False) bs) w W1:=by
  have e1:Evo (Mof M0 bs) (Mof M0 bs) w W1:=by rw [← hW1]; exact (Evo.alloc _ _ _).trans (Evo.alloc _ _ _)
  refine ⟨e1.os,e1.tape,e1.output,e1.size,e1.drawn,e1.block,fun b hb hn hm => ?_⟩
  rcases hm with (hm | hm | hm) | hm
  ·
   exact hn (.inl hm)
  ·
   omega
  ·
   exact hm
  ·
   exact hn (.inr hm)
 have hold:∀ b,b<w.heap.size→W1.heap[b]?=w.heap[b]?:=fun b hb=>by
  rw [← hW1]; exact (Below.heap_alloc _ _ _ (by simp; omega)).trans (Below.heap_alloc w _ b hb)
 obtain ⟨k1,k2⟩:=hr.hr.keep' (M0':=fun b=>M0 b∨b=w.heap.size+1∨False) hev0 (fun id b hb=>hold b (hr.hr.lt id b hb)) (fun b hb=>by
  rcases hb with hb | hb | hb
  ·
   have:=hr.hr.m0 b hb; omega
  ·
   omega
  ·
   exact hb.elim) (fun id b hb hm=>by
  rcases hm with hm | hm | hm
  ·
   exact hr.hr.out id b hb hm
  ·
   have:=hr.hr.lt id b hb; omega
  ·
   exact hm)
 have hS:Stays w M0 bs s.hp w.heap.size (w.heap.size+1) (fun _=>False) W1 bs s.hp:=by
  refine ⟨k1,k2,⟨fun b hb _=>hold b hb,fun b _ h=>h,fun _ _ _ _ _ h=>h⟩,htr,⟨Nat.zero_le _,[w.heap.size],rfl,by simp,?_⟩⟩
  intro D hD
  simp only [List.mem_singleton] at hD
  subst hD
  refine ⟨Nat.zero_le _,by omega,?_,hK1⟩
  rintro ((hm | hm | hm) | ⟨id,hm⟩)
  ·
   have:=hr.hr.m0 _ hm; omega
  ·
   omega
  ·
   exact hm
  ·
   have:=hr.hr.lt id _ hm; omega
 have hXok:XOk P (XC (fun e hp=>K e ⟨s.e,hp⟩) R fn a.tmps ps assign body w M0 bs s.hp w.heap.size (w.heap.size+1) (ic.xs (caps.map capAV))) :=
  XC_ok (L:=L) hg hy hm (e0:=s.e) (fun t x hx=>hr.env t x hx) hr.size hps hoka hokb hround
 have hrun:=hit.1
 have hevM:Evo (Mof M0 bs) (fun b=>M0 b∨inBs bs b∨b=w.heap.size+1) w W1:=by
  refine hev0.congr (fun b=>Iff.rfl) fun b => ?_
  constructor
  ·
   rintro ((h | h | h) | h)
   ·
    exact .inl h
   ·
    exact .inr (.inr h)
   ·
    exact h.elim
   ·
    exact .inr (.inl h)
  ·
   rintro (h | h | h)
   ·
    exact .inl (.inl h)
   ·
    exact .inr h
   ·
    exact .inl (.inr (.inl h))
 refine ⟨w.heap.size+1,[markOf w.heap.size],W1,{ target:=.fn (.func f) qs.toArray,args:=#[.func (.yield (w.heap.size+1)) #[] #[]] },W1,f,
  #[.func (.yield (w.heap.size+1)) #[] #[]]++qs.toArray,W1,?_,?_,?_,?_,fun hd=>by simp [FW] at hd,?_⟩
 ·
  rw [← hW1]; exact run_enterLoop_outer _ _ _ _ _
 ·
  simp only [resolve,hev]
  simp [go_sem]
 ·
  intro f' _; trivial
 ·
  simp [invoke,go_sem,hrun]
 ·
  refine (hit.2 _ (w.heap.size+1) W1 (fun b=>M0 b∨inBs bs b∨b=w.heap.size+1) (caps.map capAV) qs hXok hpre ?_ ?_ ?_ (n - 1)).mono ?_
  ·
   refine ⟨?_,hr.hr.gl.evo hevM⟩
   rintro b (hb | ⟨id,hb⟩ | hb)
   ·
    have:=hr.hr.m0 b hb; omega
   ·
    have:=hr.hr.lt id b hb; omega
   ·
    omega
  ·
   exact caps_rel (hq.imp fun c p hp=>FrozenAt.evo hevM hp)
  ·
   exact ⟨rfl,rfl,bs,s.hp,none,fun b=>Iff.rfl,hL1,fun h=>h,fun ⟨id,h⟩=>by have:=hr.hr.lt id _ h; omega,by omega,fun b h=>h.elim,hS,fun _=>⟨rfl,h0⟩,by simp⟩
  ·
   rintro e w3 ⟨v,i,st,MI3,B3,rfl,⟨_,_,bs3,hp3,pe,hMI,hrec,hBl,hbl,hl0,hB0,hS3,hs1,hs2⟩,hst⟩
   have hll:w.heap.size+1<w3.heap.size:=(Array.getElem?_eq_some_iff.1 hrec).1
   refine ⟨pe,_,run_endLoop hrec (by cases st <;> simp [recOf]),?_⟩
   have hS4:=hS3.record hl0 hbl hll hrec ({ recOf fn a.tmps ps assign body w.heap.size (if st then .done else .ready) pe with state:=.exhausted })
   have hev5:Evo (Mof (fun b=>M0 b∨b=w.heap.size+1∨B3 b) bs3) (Mof M0 bs3) (w3.putObj (w.heap.size+1) (.loop { recOf fn a.tmps ps assign body w.heap.size (if st then .done else .ready) pe with state:=.exhausted })) (w3.putObj (w.heap.size+1) (.loop { recOf fn a.tmps ps assign body w.heap.size (if st then .done else .ready) pe with state:=.exhausted })) :=
    Evo.more _ fun b _ h=>h.elim (fun h=>.inl (.inl h)) .inr
   obtain ⟨j1,j2⟩:=hS4.hr.keep' hev5 (fun _ _ _=>rfl) (fun b hb=>hS4.hr.m0 b (.inl hb)) (fun id b hb hm=>hS4.hr.out id b hb (.inl hm))
   have hfull:=hS4.st.trans j2
   have hx4:XR X0 (w3.putObj (w.heap.size+1) (.loop { recOf fn a.tmps ps assign body w.heap.size (if st then .done else .ready) pe with state:=.exhausted })) M0 bs3 hp3:=fun l xs i st ht=>absurd ht (hS4.tr l xs i st)
   have hrel:Rel P X0 N n0 (w3.putObj (w.heap.size+1) (.loop { recOf fn a.tmps ps assign body w.heap.size (if st then .done else .ready) pe with state:=.exhausted })) M0 bs3 { a with defers:=[markOf w.heap.size]++a.defers } ⟨s.e,hp3⟩:=by
    refine ⟨j1,hx4,fun t x hx=>relEnv_step hfull hr.env t x hx,hr.size,?_⟩
    cases hn0:n0 with
    | none=>have:=hT.2; simp [hn0,hy] at this
    | some nb =>
     obtain ⟨m0,B0⟩:=nb
     have hd:=hr.df
     rw [hn0] at hd
     obtain ⟨d1,Ds,d2,d3,d4⟩:=hd
     have hd':DefOk (some (m0,B0)) w (Mof M0 bs) a.defers:=⟨d1,Ds,d2,d3,d4⟩
     obtain ⟨f1,Ds',f2,f3,f4⟩:=hd'.evo hfull.evo
     obtain ⟨_,Es,g2,g3,g4⟩:=hS4.dD.evo hev5
     have hEs:Es=[w.heap.size]:=by
      cases Es with
      | nil=>simp [markOf] at g2
      | cons x Es =>
       cases Es with
       | nil=>simp [markOf] at g2; rw [g2]
       | cons y Es=>simp at g2
     subst hEs
     refine ⟨f1,w.heap.size::Ds,by rw [d2]; rfl,?_,?_⟩
     ·
      refine List.nodup_cons.2 ⟨fun h => ?_,d3⟩
      have:=(d4 _ h).2.1
      omega
     ·
      intro E hE
      rcases List.mem_cons.1 hE with rfl | hE
      ·
       exact ⟨d1,(g4 _ (by simp)).2⟩
      ·
       have hmap:Ds'=Ds:=by
        have:Ds'.map markOf=Ds.map markOf:=List.append_cancel_right (f2.symm.trans d2)
        exact (List.map_inj_right (fun x y h=>by simpa [markOf] using h)).1 this
       rw [hmap] at f4
       exact f4 E hE
   have hnx:Nx P g X0 w M0 bs s.hp (w3.putObj (w.heap.size+1) (.loop { recOf fn a.tmps ps assign body w.heap.size (if st then .done else .ready) pe with state:=.exhausted })) M0 bs3 hp3 :=
    ⟨j1,hx4,⟨hfull.evo,hfull.len,hfull.box,hfull.map,hfull.own,fun _=>hS4.only⟩,fun _=>rfl⟩
   cases st with
   | false =>
    obtain ⟨rfl,hR⟩:=hs1 rfl
    rw [hst rfl] at hR
    exact ⟨⟨s.e,hp3⟩,M0,bs3,hend _ hR,hrel,hnx⟩
   | true =>
    obtain ⟨e,c,rfl,hc,hK⟩:=hs2 rfl
    cases e with
    | ret=>injection hc with hc; subst hc; exact wpIn_ret ⟨⟨s.e,hp3⟩,M0,bs3,hK,hrel,hnx⟩
    | exit id=>injection hc with hc; subst hc; exact wpIn_exit ⟨⟨s.e,hp3⟩,M0,bs3,hK,hrel,hnx⟩
    | goto t=>injection hc with hc; subst hc; exact wpIn_goto ⟨⟨s.e,hp3⟩,M0,bs3,hK,hrel,hnx⟩
    | _=>simp [jumpC] at hc
theorem round_td (t:TypeId):g.round.td t=g.td t:=rfl
theorem round_y:g.round.y=g.y:=rfl
theorem round_Γ:g.round.Γ=g.Γ:=rfl
end
abbrev vI (n:Int):SL:=⟨true,.v (.s (.int .i64 n))⟩
abbrev vB (b:Bool):SL:=⟨true,.v (.s (.bool b))⟩
abbrev vS (t:Ty) (xs:List t.T) (ex:Bool):SL:=⟨true,.v (.s (.sl t xs ex))⟩
abbrev aI (n:Int):AV:=.s (.int .i64 n)
abbrev aB (b:Bool):AV:=.s (.bool b)
abbrev aS (t:Ty) (xs:List t.T) (ex:Bool):AV:=.s (.sl t xs ex)
theorem getD_lt {α:Type} {xs:List α} {i:Nat} (h:i<xs.length) (d:α):xs[i]?.getD d=xs[i]:=by simp [h]
structure Dum {α:Type} (x:α):Type where
section
variable {P:Program} {g:G} {X:XT} {N:Nat} {L:Cfg}
def WpD (P:Program) (g:G) (X:XT) (N:Nat) (c:Code) (s:St) (K:Exit→St→Prop) (_:Dum (c,K)):Prop:=Wp P g X N c s K
def thenKD (K1:St→Prop) (K:Exit→St→Prop) (_:Dum (K1,K)) (e:Exit) (s:St):Prop:=thenK K1 K e s
def inBlockKD (id:Nat) (K:Exit→St→Prop) (_:Dum K) (e:Exit) (s:St):Prop:=inBlockK id K e s
def noGotoKD (K:Exit→St→Prop) (_:Dum K) (e:Exit) (s:St):Prop:=noGotoK K e s
def roundKD (KJ:Exit→List Blk→Prop) (R:List Blk→Prop) (n:Nat) (_:Dum (KJ,R)) (e:Exit) (s:St):Prop:=roundK KJ R n e s
def opVCD (g:G) (e:Env) (hp:List Blk) (o:Oper) (K:SL→List Blk→Prop) (_:Dum (o,K)):Prop:=opVC g e hp o K
def effVCD (hp:List Blk) (c:ECon) (args:List AV) (K:RV→List Blk→Prop) (_:Dum K):Prop:=effVC hp c args K
def effVC2D (hp:List Blk) (c:ECon2) (args:List AV) (K:RV→List Blk→Prop) (_:Dum K):Prop:=effVC2 hp c args K
def effSelD (hp:List Blk) (c:ECon2) (args args':List AV) (sel:List Nat) (K:RV→List Blk→Prop) (_:Dum K):Prop :=
 closedB hp sel=true∧(borIds c.bor 0 args).all (fun id => !sel.contains id)=true ∧
  c.wp (args'.map (AV.ren (idx sel))) (sel.map fun id=>(Blk.look hp id).ren (idx sel)) fun rv out =>
   (borIds c.bor 0 args=[]∨(rv.scalar=true∧out.all Blk.scalarB=true))∧K (rv.ren (outId sel hp.length)) (mergeB hp sel (out.map (Blk.ren (outId sel hp.length))))
def piOpD (g:G) (ops:List Oper) (fl:Bool) (o:Oper) (e:Env) (hp:List Blk) (K:Env→List Blk→Prop) (_:Dum ((ops,o),K)):Prop:=piOp g ops fl o e hp K
def vcPiD (g:G) (ops:List Oper) (l:List (Nat×Bool)) (e:Env) (hp:List Blk) (K:Env→List Blk→Prop) (_:Dum (ops,K)):Prop:=vcPi g ops l e hp K
def yieldVCD (hp:List Blk) (l:Nat) (args:List AV) (K:Bool→List Blk→Prop) (_:Dum K):Prop:=yieldVC hp l args K
def vcOpsD (g:G) (ops l:List Oper) (e:Env) (hp:List Blk) (K:Env→List Blk→Prop) (_:Dum ((ops,l),K)):Prop:=vcOps g ops l e hp K
def vcAllD (g:G) (ops:List Oper) (f:Nat) (done:List Nat) (e:Env) (hp:List Blk) (K:Env→List Blk→Prop) (_:Dum (ops,K)):Prop:=vcAll g ops f done e hp K
def vcFlD (g:G) (ops:List Oper) (ps:List (Nat×Nat)) (l:List Oper) (e:Env) (hp:List Blk) (acc:List (Env×List Blk)) (_:Dum (ops,l)):Prop:=vcFl g ops ps l e hp acc
def flPairs (g:G) (ops:List Oper) (l:List (Env×List Blk)):(ps:List (Nat×Nat))→Dum ops→Prop
 | [],_=>True
 | p::r,_=>(match l[p.1]?,l[p.2]? with
  | some s,some s'=>eqAt g ops p.1 s s'
  | _,_=>False)∧flPairs g ops l r ⟨⟩
def flOfD (g:G) (fl:List (Nat×List (Nat×Nat))) (id:Nat) (ops:List Oper) (s:St) (_:Dum ops):Prop:=flOf g fl id ops s
def vcFrD (g:G) (ops:List Oper) (fr:List (Nat×List Nat)) (i:Nat) (l:List Oper) (s:St) (K:St→Prop) (KP:Value→St→Prop) (_:Dum ((ops,l),(K,KP))):Prop:=vcFr g ops fr i l s K KP
def frzSlotD (k:Nat) (s:St) (K:St→Prop) (_:Dum K):Prop:=frzSlot k s K
def epsSlotD (k:Nat) (s:St) (K:St→Prop) (_:Dum K):Prop:=epsSlot k s K
def epsSlotsD (l:List Nat) (s:St) (K:St→Prop) (_:Dum K):Prop:=epsSlots l s K
def frzSlotsD (l:List Nat) (s:St) (K:St→Prop) (_:Dum K):Prop:=frzSlots l s K
def vcD (P:Program) (g:G) (X:XT) (N:Nat) (L:Cfg) (c:Code) (s:St) (K:Exit→St→Prop) (_:Dum ((c,L),K)):Prop:=vc P g X N L c s K
def isCutD (l:List Nat) (x:Code) (_:Dum x):Bool:=isCut l x
def firstRegD (x:Code) (_:Dum x):Option Nat:=firstReg x
def vcCondD (x:SL) (A B:Prop):Prop:=vcCond x A B
variable {K:Exit→St→Prop} {K1:St→Prop} {s:St}
theorem thenKD_normal {d:Dum (K1,K)}:thenKD K1 K d .normal s=K1 s:=rfl
theorem thenKD_exit {d:Dum (K1,K)} {id:Nat}:thenKD K1 K d (.exit id) s=K (.exit id) s:=rfl
theorem thenKD_goto {d:Dum (K1,K)} {id:Nat}:thenKD K1 K d (.goto id) s=K (.goto id) s:=rfl
theorem thenKD_ret {d:Dum (K1,K)}:thenKD K1 K d .ret s=K .ret s:=rfl
theorem inBlockKD_normal {i:Nat} {d:Dum K}:inBlockKD i K d .normal s=K .normal s:=rfl
theorem inBlockKD_exit {i j:Nat} {d:Dum K}:inBlockKD i K d (.exit j) s=if j=i then K .normal s else K (.exit j) s:=rfl
theorem inBlockKD_goto {i j:Nat} {d:Dum K}:inBlockKD i K d (.goto j) s=K (.goto j) s:=rfl
theorem inBlockKD_ret {i:Nat} {d:Dum K}:inBlockKD i K d .ret s=K .ret s:=rfl
theorem noGotoKD_normal {d:Dum K}:noGotoKD K d .normal s=K .normal s:=rfl
theorem noGotoKD_exit {d:Dum K} {j:Nat}:noGotoKD K d (.exit j) s=K (.exit j) s:=rfl
theorem noGotoKD_goto {d:Dum K} {j:Nat}:noGotoKD K d (.goto j) s=False:=rfl
theorem noGotoKD_ret {d:Dum K}:noGotoKD K d .ret s=K .ret s:=rfl
theorem roundKD_normal {KJ:Exit→List Blk→Prop} {R:List Blk→Prop} {n:Nat} {d:Dum (KJ,R)}:roundKD KJ R n d .normal s=∃ hp',TrT n s.hp hp'∧R hp':=rfl
theorem roundKD_exit {KJ:Exit→List Blk→Prop} {R:List Blk→Prop} {n:Nat} {d:Dum (KJ,R)} {j:Nat}:roundKD KJ R n d (.exit j) s=KJ (.exit j) s.hp:=rfl
theorem roundKD_goto {KJ:Exit→List Blk→Prop} {R:List Blk→Prop} {n:Nat} {d:Dum (KJ,R)} {j:Nat}:roundKD KJ R n d (.goto j) s=KJ (.goto j) s.hp:=rfl
theorem roundKD_ret {KJ:Exit→List Blk→Prop} {R:List Blk→Prop} {n:Nat} {d:Dum (KJ,R)}:roundKD KJ R n d .ret s=KJ .ret s.hp:=rfl
def eptrOf:Sigma Ty.T→SV
 | ⟨t,x⟩=>.eptr t x
theorem eptrOf_mk {t:Ty} {x:t.T}:eptrOf ⟨t,x⟩=.eptr t x:=rfl
theorem epsSlotsD_nil {d:Dum K1}:epsSlotsD [] s K1 d=K1 s:=rfl
theorem epsSlotsD_cons {k:Nat} {r:List Nat} {d:Dum K1}:epsSlotsD (k::r) s K1 d=epsSlotD k s (fun s'=>epsSlotsD r s' K1 ⟨⟩) ⟨⟩:=rfl
theorem epsSlotD_eq {k:Nat} {d:Dum K1}:epsSlotD k s K1 d=match look s.e k with
 | some ⟨true,.v (.s (.box b 0))⟩=>match boxCap s.hp b with
  | some c=>K1 ⟨(k,⟨true,.v (.s (eptrOf c))⟩)::s.e,s.hp.set b .dead⟩
  | none=>False
 | _=>K1 s:=rfl
theorem frzSlotsD_nil {d:Dum K1}:frzSlotsD [] s K1 d=K1 s:=rfl
theorem frzSlotsD_cons {k:Nat} {r:List Nat} {d:Dum K1}:frzSlotsD (k::r) s K1 d=frzSlotD k s (fun s'=>frzSlotsD r s' K1 ⟨⟩) ⟨⟩:=rfl
theorem frzSlotD_eq {k:Nat} {d:Dum K1}:frzSlotD k s K1 d=match look s.e k with
 | some ⟨true,.v (.s (.own t id n))⟩=>match Blk.look s.hp id with
  | .arr _ cs=>∃ xs:List t.T,cs=t.flats xs∧n=xs.length∧K1 ⟨(k,⟨true,.v (.s (.sl t xs false))⟩)::s.e,s.hp.set id .dead⟩
  | _=>False
 | some ⟨true,.v (.s (.pre t id n m))⟩=>match Blk.look s.hp id with
  | .arr _ cs=>∃ xs:List t.T,cs=t.flats xs∧n=xs.length∧K1 ⟨(k,⟨true,.v (.s (.sl t (xs.take m) false))⟩)::s.e,s.hp.set id .dead⟩
  | _=>False
 | some ⟨true,.v (.s (.box b off))⟩=>match Blk.look s.hp b with
  | .cells bc=>match bc[off]? with
   | some (.own t id n)=>match Blk.look s.hp id with
    | .arr _ cs=>∃ xs:List t.T,cs=t.flats xs∧n=xs.length∧K1 ⟨s.e,(s.hp.set b (.cells (bc.set off (.sl t xs false)))).set id .dead⟩
    | _=>False
   | _=>K1 s
  | _=>K1 s
 | _=>K1 s:=rfl
theorem yieldVCD_trace {hp:List Blk} {l l':Nat} {xs:List (List AV)} {i:Nat} {args:List AV} {KB:Bool→List Blk→Prop} {d:Dum KB}:yieldVCD (.trace l' xs i false::hp) l args KB d=(l'=l∧xs[i]?=some args∧args.all AV.pure=true∧∀ b,KB b (.trace l xs (i+1) (!b)::hp)):=rfl
theorem opVCD_eq {e:Env} {hp:List Blk} {o:Oper} {KO:SL→List Blk→Prop} {d:Dum (o,KO)}:opVCD g e hp o KO d=(okOps e o.op∧match isMem0 o.op with
 | true=>(mEv g hp e o.op).1∧KO ⟨true,(mEv g hp e o.op).2.1⟩ (mEv g hp e o.op).2.2
 | false=>match (if g.y then yieldOf g e o.op else none) with
  | some (l,args)=>yieldVCD hp l args (fun b hp'=>KO ⟨true,.v (.s (.bool b))⟩ hp') ⟨⟩
  | none=>match effOf g e o.op with
   | some (c,args)=>effVCD hp c args (fun rv hp'=>KO ⟨true,rv⟩ hp') ⟨⟩
   | none=>match effOf2 g e o.op with
    | some (c,args)=>effVC2D hp c args (fun rv hp'=>KO ⟨true,rv⟩ hp') ⟨⟩
    | none=>(pEv g hp e o.type o.op).1∧KO ⟨true,(pEv g hp e o.type o.op).2⟩ hp):=rfl
theorem effVC2D_eq {hp:List Blk} {c:ECon2} {args:List AV} {KE:RV→List Blk→Prop} {d:Dum KE}:effVC2D hp c args KE d=match borAt hp c.bor 0 args with
  | none=>False
  | some args'=>effSelD hp c args args' (selOf hp args') KE ⟨⟩:=rfl
theorem effSelD_eq {hp:List Blk} {c:ECon2} {args args':List AV} {sel:List Nat} {KE:RV→List Blk→Prop} {d:Dum KE}:effSelD hp c args args' sel KE d=(closedB hp sel=true∧(borIds c.bor 0 args).all (fun id => !sel.contains id)=true ∧
  c.wp (args'.map (AV.ren (idx sel))) (sel.map fun id=>(Blk.look hp id).ren (idx sel)) fun rv out =>
   (borIds c.bor 0 args=[]∨(rv.scalar=true∧out.all Blk.scalarB=true))∧KE (rv.ren (outId sel hp.length)) (mergeB hp sel (out.map (Blk.ren (outId sel hp.length))))):=rfl
theorem effVCD_eq {hp:List Blk} {c:ECon} {args:List AV} {KE:RV→List Blk→Prop} {d:Dum KE}:effVCD hp c args KE d=(((dedup [] (args.flatMap AV.ids)).all fun id=>(Blk.look hp id).pureB)=true ∧
  c.wp (args.map (AV.ren (idx (dedup [] (args.flatMap AV.ids))))) ((dedup [] (args.flatMap AV.ids)).map (Blk.look hp)) fun rv out=>KE (rv.ren (outId (dedup [] (args.flatMap AV.ids)) hp.length)) (mergeB hp (dedup [] (args.flatMap AV.ids)) out)):=rfl
theorem vcPiD_nil {ops:List Oper} {e:Env} {hp:List Blk} {KE:Env→List Blk→Prop} {d:Dum (ops,KE)}:vcPiD g ops [] e hp KE d=KE e hp:=rfl
theorem vcPiD_cons {ops:List Oper} {j:Nat} {fl:Bool} {r:List (Nat×Bool)} {e:Env} {hp:List Blk} {KE:Env→List Blk→Prop} {d:Dum (ops,KE)}:vcPiD g ops ((j,fl)::r) e hp KE d=match ops[j]? with
  | some o=>piOpD g ops fl o e hp (fun e hp=>vcPiD g ops r e hp KE ⟨⟩) ⟨⟩
  | none=>False:=rfl
theorem piOpD_eq {ops:List Oper} {fl:Bool} {o:Oper} {e:Env} {hp:List Blk} {KE:Env→List Blk→Prop} {d:Dum ((ops,o),KE)}:piOpD g ops fl o e hp KE d=match isMem g.ye o.op with
  | true=>o.guard=none∧opVCD g e hp o (fun x hp'=>KE (putE o.dst x e) hp') ⟨⟩
  | false=>match gcond ops e o.guard with
   | none=>False
   | some gc=>(gc=true→okOps e o.op∧(pEv g hp e o.type o.op).1)∧(fl=true→∀ hp',pEv g hp' e o.type o.op=pEv g hp e o.type o.op)∧KE (putE o.dst ⟨gc,(pEv g hp e o.type o.op).2⟩ e) hp:=rfl
theorem vcOpsD_nil {ops:List Oper} {e:Env} {hp:List Blk} {KE:Env→List Blk→Prop} {d:Dum ((ops,([]:List Oper)),KE)}:vcOpsD g ops [] e hp KE d=KE e hp:=rfl
theorem vcOpsD_cons {ops r:List Oper} {o:Oper} {e:Env} {hp:List Blk} {KE:Env→List Blk→Prop} {d:Dum ((ops,o::r),KE)}:vcOpsD g ops (o::r) e hp KE d=match o.guard with
  | none=>opVCD g e hp o (fun x hp'=>vcOpsD g ops r (putE o.dst x e) hp' KE ⟨⟩) ⟨⟩
  | some gd=>match gcond ops e (some gd) with
   | none=>False
   | some gc=>match isMem g.ye o.op with
    | true=>(gc=true→opVCD g e hp o (fun x hp'=>vcOpsD g ops r (putE o.dst x e) hp' KE ⟨⟩) ⟨⟩)∧(gc=false→vcOpsD g ops r (putE o.dst ⟨false,.v (.s .any)⟩ e) hp KE ⟨⟩)
    | false=>(gc=true→okOps e o.op∧(pEv g hp e o.type o.op).1)∧vcOpsD g ops r (putE o.dst ⟨gc,(pEv g hp e o.type o.op).2⟩ e) hp KE ⟨⟩:=rfl
def edgA (o:Oper):List Nat:=(o.after.toList.filter (fun e=>match e.ground with | .textOnly _=>false | .gcOnly _=>false | _=>true)).map (·.on)
theorem edg_eq (o:Oper):edg o=edgA o:=by
 have h:∀ l:List Edge,l.filter (Region.binds .any)=l.filter (fun e=>match e.ground with | .textOnly _=>false | .gcOnly _=>false | _=>true):=by
  intro l
  refine List.filter_congr fun e _ => ?_
  unfold Region.binds
  cases e.ground <;> rfl
 unfold edg edgA
 rw [h]
def readyAux (done:List Nat):Nat→List Oper→List Nat
 | _,[]=>[]
 | i,o::r=>if (!done.contains i&&(edgA o).all fun k=>done.contains k)=true then i::readyAux done (i+1) r else readyAux done (i+1) r
theorem readyAux_eq (ops:List Oper) (done:List Nat):∀ (l:List Oper) (k:Nat),(∀ j:Nat,ops[k+j]?=l[j]?)→readyAux done k l=(List.range' k l.length).filter fun j => !done.contains j&&match ops[j]? with
  | some o=>(edg o).all fun k=>done.contains k
  | none=>false
 | [],k,_=>rfl
 | o::r,k,h=>by
  have h0:ops[k]?=some o:=by simpa using h 0
  have ih:=readyAux_eq ops done r (k+1) (fun j=>by have:=h (j+1); rw [show k+1+j=k+(j+1) by omega]; simpa using this)
  simp only [readyAux,List.length_cons,List.range'_succ,List.filter_cons,h0,edg_eq]
  rw [ih]
  simp only [edg_eq]
theorem readyL_eq (ops:List Oper) (done:List Nat):readyL ops done=readyAux done 0 ops:=by
 rw [readyAux_eq ops done ops 0 (fun j=>by simp),readyL,List.range_eq_range']
 rfl
theorem vcAllD_zero {ops:List Oper} {done:List Nat} {e:Env} {hp:List Blk} {KE:Env→List Blk→Prop} {d:Dum (ops,KE)}:vcAllD g ops 0 done e hp KE d=((readyAux done 0 ops).isEmpty=true∧KE e hp):=by rw [← readyL_eq]; rfl
def allAtD (g:G) (ops:List Oper) (f:Nat) (done:List Nat) (e:Env) (hp:List Blk) (K:Env→List Blk→Prop) (js:List Nat) (_:Dum (ops,K)):Prop:=allP js fun j=>match ops[j]? with
 | some o=>vcOps g ops [o] e hp fun e' hp'=>vcAll g ops f (j::done) e' hp' K
 | none=>False
theorem allAtD_nil {ops:List Oper} {f:Nat} {done:List Nat} {e:Env} {hp:List Blk} {KE:Env→List Blk→Prop} {d:Dum (ops,KE)}:allAtD g ops f done e hp KE [] d=True:=rfl
theorem allAtD_cons {ops:List Oper} {f j:Nat} {js:List Nat} {done:List Nat} {e:Env} {hp:List Blk} {KE:Env→List Blk→Prop} {d:Dum (ops,KE)}:allAtD g ops f done e hp KE (j::js) d=((match ops[j]? with
 | some o=>vcOpsD g ops [o] e hp (fun e' hp'=>vcAllD g ops f (j::done) e' hp' KE ⟨⟩) ⟨⟩
 | none=>False)∧allAtD g ops f done e hp KE js ⟨⟩):=rfl
theorem vcAllD_succ {ops:List Oper} {f:Nat} {done:List Nat} {e:Env} {hp:List Blk} {KE:Env→List Blk→Prop} {d:Dum (ops,KE)}:vcAllD g ops (f+1) done e hp KE d=(((readyAux done 0 ops).isEmpty=true→KE e hp)∧allAtD g ops f done e hp KE (readyAux done 0 ops) ⟨⟩):=by rw [← readyL_eq]; rfl
theorem vcD_skip {d:Dum ((Code.skip,L),K)}:vcD P g X N L .skip s K d=K .normal s:=rfl
theorem vcD_label {l:Nat} {d:Dum ((Code.label l,L),K)}:vcD P g X N L (.label l) s K d=K .normal s:=rfl
theorem vcD_exit {l:Nat} {d:Dum ((Code.exit l,L),K)}:vcD P g X N L (.exit l) s K d=K (.exit l) s:=rfl
theorem vcD_goto {l:Nat} {d:Dum ((Code.goto l,L),K)}:vcD P g X N L (.goto l) s K d=K (.goto l) s:=rfl
theorem vcD_ret {d:Dum ((Code.ret,L),K)}:vcD P g X N L .ret s K d=K .ret s:=rfl
theorem vcD_region {id:Nat} {ops:List Oper} {dr:Bool} {d:Dum ((Code.region id (List.toArray ops) dr,L),K)}:vcD P g X N L (.region id (List.toArray ops) dr) s K d =
    frzSlotsD ((look L.frz id).getD []) s (fun s=>epsSlotsD ((look L.eps id).getD []) s (fun s=>match dr&&L.all.contains id with
    | true=>vcAllD g ops ops.length [] s.e s.hp (fun e hp=>K .normal ⟨keepE L.live e,hp⟩) ⟨⟩
    | false=>match look L.fin id with
      | some fr=>vcFrD g ops fr 0 ops s (fun s=>K .normal ⟨keepE L.live s.e,s.hp⟩) (fun v s=>K (.panic [{ v:=v,recovered:=false }]) ⟨keepE L.live s.e,s.hp⟩) ⟨⟩
      | none=>match look L.pi id with
       | some l=>vcPiD g ops l s.e s.hp (fun e hp=>K .normal ⟨keepE L.live e,hp⟩) ⟨⟩
       | none=>match L.qy.contains id with
        | true=>vcOpsD g.quiet ops ops s.e s.hp (fun e hp=>K .normal ⟨keepE L.live e,hp⟩) ⟨⟩∧flOfD g.quiet L.fl id ops s ⟨⟩
        | false=>vcOpsD g ops ops s.e s.hp (fun e hp=>K .normal ⟨keepE L.live e,hp⟩) ⟨⟩∧flOfD g L.fl id ops s ⟨⟩) ⟨⟩) ⟨⟩:=rfl
theorem vcFrD_nil {ops:List Oper} {fr:List (Nat×List Nat)} {i:Nat} {KP:Value→St→Prop} {d:Dum ((ops,([]:List Oper)),(K1,KP))}:vcFrD g ops fr i [] s K1 KP d=K1 s:=rfl
def panVCD (g:G) (o:Oper) (s:St) (KP:Value→St→Prop) (A:St→Prop) (_:Dum (KP,A)):Prop:=match panOf g s.e o with
  | none=>A s
  | some (p,v)=>okOps s.e o.op∧(p→KP v s)∧(¬ p→A s)
theorem panVCD_eq {o:Oper} {KP:Value→St→Prop} {A:St→Prop} {d:Dum (KP,A)}:panVCD g o s KP A d=match panOf g s.e o with
  | none=>A s
  | some (p,v)=>okOps s.e o.op∧(p→KP v s)∧(¬ p→A s):=rfl
theorem vcFrD_cons {ops r:List Oper} {o:Oper} {fr:List (Nat×List Nat)} {i:Nat} {KP:Value→St→Prop} {d:Dum ((ops,o::r),(K1,KP))}:vcFrD g ops fr i (o::r) s K1 KP d =
  frzSlotsD ((look fr i).getD []) s (fun s=>panVCD g o s KP (fun s=>vcOpsD g ops [o] s.e s.hp (fun e hp=>vcFrD g ops fr (i+1) r ⟨e,hp⟩ K1 KP ⟨⟩) ⟨⟩) ⟨⟩) ⟨⟩:=rfl
theorem flOfD_nil {id:Nat} {ops:List Oper} {d:Dum ops}:flOfD g [] id ops s d=True:=rfl
theorem flOfD_cons {id k:Nat} {ps:List (Nat×Nat)} {r:List (Nat×List (Nat×Nat))} {ops:List Oper} {d:Dum ops}:flOfD g ((k,ps)::r) id ops s d=match look ((k,ps)::r) id with
 | some ps=>vcFlD g ops ps ops s.e s.hp [] ⟨⟩
 | none=>True:=rfl
theorem vcFlD_cons {ops r:List Oper} {o:Oper} {ps:List (Nat×Nat)} {e:Env} {hp:List Blk} {acc:List (Env×List Blk)} {d:Dum (ops,o::r)}:vcFlD g ops ps (o::r) e hp acc d =
  vcFlD g ops ps r (putE o.dst (match isMem0 o.op with
   | true=>match gcond ops e o.guard with
    | some true=>⟨true,(mEv g hp e o.op).2.1⟩
    | _=>⟨false,.v (.s .any)⟩
   | false=>match o.guard with
    | none=>⟨true,(pEv g hp e o.type o.op).2⟩
    | some gd=>match gcond ops e (some gd) with
     | some gc=>⟨gc,(pEv g hp e o.type o.op).2⟩
     | none=>junk) e) (match isMem0 o.op with
   | true=>match gcond ops e o.guard with
    | some true=>(mEv g hp e o.op).2.2
    | _=>hp
   | false=>hp) (acc++[(e,hp)]) ⟨⟩:=rfl
theorem vcFlD_nil {ops:List Oper} {ps:List (Nat×Nat)} {e:Env} {hp:List Blk} {acc:List (Env×List Blk)} {d:Dum (ops,([]:List Oper))}:vcFlD g ops ps [] e hp acc d=flPairs g ops (acc++[(e,hp)]) ps ⟨⟩:=by
 apply propext
 unfold vcFlD vcFl
 generalize acc++[(e,hp)]=l
 constructor
 ·
  intro h
  induction ps with
  | nil=>trivial
  | cons p r ih=>exact ⟨h p (by simp),ih fun q hq=>h q (by simp [hq])⟩
 ·
  intro h
  induction ps with
  | nil=>simp
  | cons p r ih =>
   obtain ⟨h1,h2⟩:=h
   intro q hq
   rcases List.mem_cons.1 hq with rfl | hq
   ·
    exact h1
   ·
    exact ih h2 q hq
theorem flPairs_nil {ops:List Oper} {l:List (Env×List Blk)} {d:Dum ops}:flPairs g ops l [] d=True:=rfl
theorem flPairs_cons {ops:List Oper} {l:List (Env×List Blk)} {i q:Nat} {r:List (Nat×Nat)} {d:Dum ops}:flPairs g ops l ((i,q)::r) d=((match l[i]?,l[q]? with
  | some s,some s'=>match ops[i]? with
   | some o=>(pEv g s'.2 s.1 o.type o.op).1∧(pEv g s'.2 s.1 o.type o.op).2=(pEv g s.2 s.1 o.type o.op).2
   | none=>True
  | _,_=>False)∧flPairs g ops l r ⟨⟩):=rfl
theorem vcD_seq {x y:Code} {d:Dum ((Code.seq x y,L),K)} (h:isCutD L.cut x ⟨⟩=false):vcD P g X N L (.seq x y) s K d=vcD P g X N L x s (thenKD (fun s'=>vcD P g X N L y s' K ⟨⟩) K ⟨⟩) ⟨⟩:=by
 unfold isCutD at h
 simp only [vcD,vc,h]
 rfl
theorem vcD_seqC {x y:Code} {d:Dum ((Code.seq x y,L),K)} (h:isCutD L.cut x ⟨⟩=true):vcD P g X N L (.seq x y) s K d=WpD P g X N (.seq x y) s K ⟨⟩:=by
 unfold isCutD at h
 simp only [vcD,vc,h]
 rfl
theorem isCutD_nil {x:Code} {d:Dum x}:isCutD [] x d=false:=by unfold isCutD isCut; cases firstReg x <;> rfl
theorem isCutD_cons {x:Code} {l:List Nat} {k:Nat} {d:Dum x}:isCutD (k::l) x d=match firstRegD x ⟨⟩ with
 | some id=>(k::l).contains id
 | none=>false:=rfl
theorem firstReg_region {id:Nat} {ops:Array Oper} {dr:Bool} {d:Dum (Code.region id ops dr)}:firstRegD (.region id ops dr) d=some id:=rfl
theorem firstReg_seq {x y:Code} {d:Dum (Code.seq x y)}:firstRegD (.seq x y) d=firstRegD x ⟨⟩:=rfl
theorem firstReg_skip {d:Dum Code.skip}:firstRegD .skip d=none:=rfl
theorem firstReg_ret {d:Dum Code.ret}:firstRegD .ret d=none:=rfl
theorem firstReg_label {l:Nat} {d:Dum (Code.label l)}:firstRegD (.label l) d=none:=rfl
theorem firstReg_exit {l:Nat} {d:Dum (Code.exit l)}:firstRegD (.exit l) d=none:=rfl
theorem firstReg_goto {l:Nat} {d:Dum (Code.goto l)}:firstRegD (.goto l) d=none:=rfl
theorem firstReg_cond {o:Operand} {x y:Code} {d:Dum (Code.cond o x y)}:firstRegD (.cond o x y) d=none:=rfl
theorem firstReg_block {i:Nat} {x:Code} {d:Dum (Code.block i x)}:firstRegD (.block i x) d=none:=rfl
theorem firstReg_scope {x:Code} {d:Dum (Code.scope x)}:firstRegD (.scope x) d=none:=rfl
theorem firstReg_loop {x:Code} {d:Dum (Code.loop x)}:firstRegD (.loop x) d=none:=rfl
theorem firstReg_rf {o:Operand} {x y:Code} {ps:Array Tmp} {d:Dum (Code.rangeFunc o ps x y)}:firstRegD (.rangeFunc o ps x y) d=none:=rfl
theorem vcD_cond {c:Operand} {x y:Code} {d:Dum ((Code.cond c x y,L),K)}:vcD P g X N L (.cond c x y) s K d=vcCondD (oper s.e c) (vcD P g X N L x s K ⟨⟩) (vcD P g X N L y s K ⟨⟩):=rfl
theorem vcCondD_ib {p q A B:Prop}:vcCondD ⟨true,.v (.s (.ib p q))⟩ A B=((p→A)∧(q→B)):=rfl
theorem vcCondD_bool {b:Bool} {A B:Prop}:vcCondD ⟨true,.v (.s (.bool b))⟩ A B=((b=true→A)∧(b=false→B)):=rfl
theorem vcD_block {id:Nat} {c:Code} {d:Dum ((Code.block id c,L),K)}:vcD P g X N L (.block id c) s K d=vcD P g X N L c s (inBlockKD id K ⟨⟩) ⟨⟩:=rfl
theorem vcD_scope {c:Code} {d:Dum ((Code.scope c,L),K)}:vcD P g X N L (.scope c) s K d=vcD P g X N L c s (noGotoKD K ⟨⟩) ⟨⟩:=rfl
theorem vcD_loop {c:Code} {d:Dum ((Code.loop c,L),K)}:vcD P g X N L (.loop c) s K d=WpD P g X N (.loop c) s K ⟨⟩:=rfl
theorem vcD_rangeFunc {f:Operand} {ps:Array Tmp} {a b:Code} {d:Dum ((Code.rangeFunc f ps a b,L),K)}:vcD P g X N L (.rangeFunc f ps a b) s K d=WpD P g X N (.rangeFunc f ps a b) s K ⟨⟩:=rfl
theorem parses_flats' {t:Ty} {xs:List t.T} {n:Nat} (h:xs.length=n):t.parses n (t.flats xs)=some xs:=by subst h; exact parses_flats t xs
theorem capAV_mk {t:Ty} {x:t.T}:capAV ⟨t,x⟩=.s (.eptr t x):=rfl
theorem av_int {k:IntKind} {n:Int}:Ty.av (.int k) n=.s (.int k n):=rfl
theorem av_bool {b:Bool}:Ty.av .bool b=.s (.bool b):=rfl
theorem av_str {b:ByteArray}:Ty.av .str b=.s (.str b):=rfl
theorem av_slice {t:Ty} {xs:List t.T}:Ty.av (.slice t) xs=.s (.sl t xs false):=rfl
theorem av_cons {t r:Ty} {x:t.T×r.T}:Ty.av (.cons t r) x=.agg (t.flat x.1++r.flat x.2):=rfl
theorem av_fld0 {t r:Ty} {x:t.T}:Ty.av (Ty.fld (.cons t r) 0) x=Ty.av t x:=rfl
theorem av_fld1 {t r:Ty} {x:(r.fld 0).T}:Ty.av (Ty.fld (.cons t r) 1) x=Ty.av (Ty.fld r 0) x:=rfl
theorem av_fld2 {t r:Ty} {x:(r.fld 1).T}:Ty.av (Ty.fld (.cons t r) 2) x=Ty.av (Ty.fld r 1) x:=rfl
theorem av_fld3 {t r:Ty} {x:(r.fld 2).T}:Ty.av (Ty.fld (.cons t r) 3) x=Ty.av (Ty.fld r 2) x:=rfl
theorem av_fld4 {t r:Ty} {x:(r.fld 3).T}:Ty.av (Ty.fld (.cons t r) 4) x=Ty.av (Ty.fld r 3) x:=rfl
theorem WpD.loop {c:Code} {d:Dum ((Code.loop c),K)} (hg:g.good P) (hX:XOk P X) (hm:P.follows .mixedOrders=true) (hok:codeOk' L g.ye N c=true) {ι:Type} (S:ι→St) (R:ι→Prop) (μ:ι→Nat) (i0:ι) (h0:R i0) (hs:Turn P g X N s (S i0))
  (h:∀ i,R i→vcD P g X N L c (S i) (thenKD (fun s'=>∃ j,R j∧μ j<μ i∧TurnT P g X N s.hp.length s' (S j)) K ⟨⟩) ⟨⟩):WpD P g X N (.loop c) s K d:=Wp.loop (L:=L) hg hX hm hok S R μ i0 h0 hs h
theorem WpD.cut {c:Code} {s:St} {K:Exit→St→Prop} {d:Dum (c,K)} (hg:g.good P) (hX:XOk P X) (hm:P.follows .mixedOrders=true) (hok:codeOk' L g.ye N c=true) (s':St) (hs:Turn P g X N s s') (h:vcD P g X N L c s' K ⟨⟩):WpD P g X N c s K d:=Wp.cut (L:=L) hg hX hm hok hs h
theorem Wp.piece {c:Code} {s:St} {K:Exit→St→Prop} (hg:g.good P) (hX:XOk P X) (hm:P.follows .mixedOrders=true) (hok:codeOk' L g.ye N c=true) (h:vcD P g X N L c s K ⟨⟩):Wp P g X N c s K:=vc_sound hg hX hm c hok s K h
theorem WpD.turn {c:Code} {s:St} {K:Exit→St→Prop} {d:Dum (c,K)} (s':St) (hs:Turn P g X N s s') (h:WpD P g X N c s' K ⟨⟩):WpD P g X N c s K d:=Wp.turn hs h
theorem pureOkD {P:Program} {g:G} (hg:g.good P) (hy:g.y=false) (hm:P.follows .mixedOrders=true) {f:FuncId} {fn:Func} {c:Code} (hf:P.funcs[f]?=some fn) (hb:fn.body=some c) (con:Con) (k:Nat) (hk:k≤fn.ntmps)
  (hok:codeOk' L g.ye fn.ntmps c=true)
  (h:∀ args,con.pre args→allLen args→args.length=k∧vcD P g X0 fn.ntmps L c ⟨argEnv 0 args,[]⟩ (fun e s=>(e=.normal∨e=.ret)∧retOk g fn s (con.val args)) ⟨⟩):PureOk P f con:=pureOk_of (L:=L) hg hy hm hf hb con k hk hok h
theorem itOkD {P:Program} {g:G} (hg:g.good P) (hy:g.y=true) (hm:P.follows .mixedOrders=true) {f:FuncId} {fn:Func} {c:Code} (hf:P.funcs[f]?=some fn) (hent:∀ (args:Array Value) (w:World),(callFunc f args).run P w=.ok (.enter f args) w) (hb:fn.body=some c) (hres:fn.results=#[]) (ic:ItCon) (k:Nat) (hk:k<fn.ntmps)
  (hok:codeOk' L g.ye fn.ntmps c=true)
  (h:∀ caps l,ic.pre caps→allLen caps→caps.length=k∧∀ X,XOk P X→vcD P g X fn.ntmps L c ⟨argEnv 0 (yieldAV l::caps),[.trace l (ic.xs caps) 0 false]⟩ (fun e s=>(e=.normal∨e=.ret)∧∃ i st,Blk.look s.hp 0=.trace l (ic.xs caps) i st∧(st=false→i=(ic.xs caps).length)) ⟨⟩) :
  ItOk P f ic:=itOk_of (L:=L) hg hy hm hf hent hb hres ic k hk hok h
theorem WpD.rangeFunc (hg:g.good P) (hm:P.follows .mixedOrders=true) (hy:g.y=false) (htop:g.top=true) {gop:Operand} {ps:List Tmp} {assign body:Code} {d:Dum ((Code.rangeFunc gop (List.toArray ps) assign body),K)} (f:FuncId) (caps:List (Sigma Ty.T))
  (hop:oper s.e gop=⟨true,.v (.s (.fnp f caps))⟩) (ic:ItCon) (hit:ItOk P f ic) (hpre:ic.pre (caps.map capAV)) (hps:∀ p∈ps,p<N) (hoka:codeOk' L g.ye N assign=true) (hokb:codeOk' L g.ye N body=true) (htr:∀ l xs i st,Blk.look s.hp 0≠.trace l xs i st)
  (R:Nat→List Blk→Prop) (h0:R 0 s.hp)
  (hround:∀ i args hp,(ic.xs (caps.map capAV))[i]?=some args→R i hp→args.length=ps.length ∧
   vcD P g.round X0 N L assign ⟨psE ps args s.e,hp⟩ (thenKD (fun s1=>vcD P g.round X0 N L body s1 (roundKD (fun e hp=>K e ⟨s.e,hp⟩) (R (i+1)) s.hp.length ⟨⟩) ⟨⟩) (fun _ _=>False) ⟨⟩) ⟨⟩)
  (hend:∀ hp,R (ic.xs (caps.map capAV)).length hp→K .normal ⟨s.e,hp⟩):WpD P g X0 N (.rangeFunc gop (List.toArray ps) assign body) s K d :=
 Wp.rangeFunc (L:=L) hg hm hy htop f caps hop ic hit hpre hps hoka hokb htr R h0 hround hend
end
def retEff (g:G) (fn:Func) (k:Nat) (s:St) (K:RV→List Blk→Prop):Prop :=
 resOk g s.e s.hp fn.results.toList ∧
 ((dedup (List.range k) ((resVs g s.e s.hp fn.results.toList).flatMap AV.ids)).all fun id=>(Blk.look s.hp id).pureB)=true ∧
 K (oneRV ((resVs g s.e s.hp fn.results.toList).map (AV.ren (idx (dedup (List.range k) ((resVs g s.e s.hp fn.results.toList).flatMap AV.ids))))))
  ((dedup (List.range k) ((resVs g s.e s.hp fn.results.toList).flatMap AV.ids)).map (Blk.look s.hp))
theorem dedup_prefix:∀ (l acc:List Nat),∃ r,dedup acc l=acc++r
 | [],acc=>⟨[],by simp [dedup]⟩
 | y::l,acc=>by
  simp only [dedup]
  split
  ·
   exact dedup_prefix l acc
  ·
   obtain ⟨r,hr⟩:=dedup_prefix l (acc++[y])
   exact ⟨y::r,by rw [hr]; simp⟩
section
variable {P:Program} {g:G} {X:XT} {N:Nat} {L:Cfg} {w:World} {M0:Nat→Prop} {bs:Bs} {hp:List Blk}
theorem relAV_more {M M':Nat→Prop} (h:∀ b,M' b→M b) {x:AV} {v:Value} (hx:relAV w M bs hp x v):relAV w M' bs hp x v :=
 relAV_step (v₀:=false) ⟨Evo.more w fun b _=>h b,Nat.le_refl _,fun id cs _ h=>⟨⟨cs,h⟩,rfl⟩,fun id b k u es h1 h2=>⟨h1,es,h2⟩,fun id al cs _ h=>⟨al,cs,h,.inr ⟨rfl,rfl,fun _=>rfl,fun b hb cap size ho=>ho⟩⟩,fun _=>Only.refl _ _ _⟩ x v hx
theorem effOk_of (hg:g.good P) (hy:g.y=false) (hm:P.follows .mixedOrders=true) {f:FuncId} {fn:Func} {c:Code} (hf:P.funcs[f]?=some fn) (hb:fn.body=some c) (ec:ECon) (k:Nat) (hk:k≤fn.ntmps)
  (hok:codeOk' L g.ye fn.ntmps c=true)
  (h:∀ args hp K,ec.wp args hp K→allLen args→args.length=k∧vc P g X0 fn.ntmps L c ⟨argEnv 0 args,hp⟩ (fun e s=>(e=.normal∨e=.ret)∧retEff g fn hp.length s K)):EffOk P f ec:=by
 intro w M0 bs hp args vs K hpre hr00 hpure hargs
 obtain ⟨hlen,hvc⟩:=h args hp K hpre (allLen_rel hargs)
 have hwp:=vc_sound (X:=X0) (L:=L) hg X0_ok hm c hok _ _ hvc
 refine (callsIn_wide (n:=0)).1 ?_
 have hF:(FW none)=Fence.wide:=rfl
 rw [← hF]
 have hN:(vs.toArray++Array.replicate (fn.ntmps - vs.toArray.size) undef).size=fn.ntmps:=by
  have:=hargs.length
  simp; omega
 have hnotr:∀ (l:List Blk),l.all Blk.pureB=true→∀ id a b c d,Blk.look l id≠.trace a b c d:=by
  intro l hl id a b c d ht
  rw [List.all_eq_true] at hl
  have hlt:id<l.length:=look_lt (by rw [ht]; simp)
  have:=hl l[id] (List.getElem_mem hlt)
  simp only [Blk.look,List.getElem?_eq_getElem hlt,Option.getD_some] at ht
  rw [ht] at this
  simp [Blk.pureB] at this
 refine callsIn_of_wp_marks (n:=0) hf hb trivial (wpIn_mono (hwp 0 none (some (w.heap.size,[])) M0 bs { tmps:=vs.toArray++Array.replicate (fn.ntmps - vs.toArray.size) undef,defers:=[] } w ⟨fun _=>rfl,by simp [hy]⟩ ⟨hr00,?_,?_,hN,⟨Nat.le_refl _,[],rfl,.nil,by simp⟩⟩) ?_)
 ·
  intro l xs i st ht; exact absurd ht (hnotr hp hpure 0 l xs i st)
 ·
  refine argEnv_rel 0 _ hargs (fun j v hj => ?_)
  have hj2:=(List.getElem?_eq_some_iff.1 hj).1
  simp only [Array.getD_eq_getD_getElem?,Nat.zero_add]
  rw [Array.getElem?_append_left (by simpa using hj2)]
  simp [hj]
 ·
  rintro e a' w' ⟨s',M0',bs',⟨hke,hk1,hk2,hk3⟩,hr',hn⟩
  obtain rfl:M0'=M0:=hn.eq hy
  obtain ⟨_,Ds,hdf,hnd,hD⟩:=hr'.df
  have hst:Step false w (Mof M0' bs) bs hp w' (Mof M0' bs') bs' s'.hp:=by have:=hn.st; rwa [hy] at this
  have hold:=hst.only rfl
  have:LeavesInM (FW none) 0 P fn a'.tmps (fun o w'=>∃ v rv hp' bs',o=.returned v∧K rv hp'∧relRV w' (Mof M0' bs') bs' hp' rv v∧hp'.all Blk.pureB=true∧HR w' M0' bs' hp'∧Step false w (Mof M0' bs) bs hp w' (Mof M0' bs') bs' hp') a'.defers .returning w':=by
   rw [hdf,List.append_nil]
   refine shut_marks Ds w' _ hnd (fun D h=>(hD D h).2.2.2) fun w'' h1 h2 h3 h4 hdr h5 => ?_
   have hsame:Same w' w'' bs':=by
    refine ⟨fun p u hp => ?_,h1,fun id b hb=>h5 b fun hm=>(hD b hm).2.2.1 (.inr ⟨id,hb⟩)⟩
    have hne:p.block∉Ds:=fun hm=>by
     have:=(hD _ hm).2.2.2
     simp [World.cell?,this] at hp
    rw [← hp]
    exact World.cell?_of_block (h5 _ hne)
   have hr2:=hr'.hr.same hsame
   obtain ⟨us,q1,q2⟩:=results_run hg.1 hr2 (relEnv_same hsame hr'.env) fn hk1 _ rfl
   generalize hrs:resVs g s'.e s'.hp fn.results.toList=rs at *
   obtain ⟨r,hpre⟩:=dedup_prefix (rs.flatMap AV.ids) (List.range hp.length)
   obtain ⟨hsn,hsm⟩:=dedup_spec (rs.flatMap AV.ids) (List.range hp.length) List.nodup_range
   generalize hsel:dedup (List.range hp.length) (rs.flatMap AV.ids)=sel at *
   have hfst:∀ id,id<hp.length→sel[id]?=some id:=fun id hid=>by
    rw [hpre,List.getElem?_append_left (by simpa using hid)]
    simp [hid]
   have hpu:∀ id∈sel,(Blk.look s'.hp id).pureB=true:=by simpa only [List.all_eq_true] using hk2
   have hsub:∀ b,Mof M0' (sel.map bs'.at) b→Mof M0' bs' b:=by
    rintro b (hb | ⟨j,hb⟩)
    ·
     exact .inl hb
    ·
     rw [at_map] at hb
     cases hs:sel[j]? with
     | none=>rw [hs] at hb; cases hb
     | some id=>rw [hs] at hb; exact .inr ⟨id,hb⟩
   have hr3:=hr2.select (M0':=M0') sel hsn hpu hr2.m0 (fun id _ b hb=>hr2.out id b hb) (fun b _=>hsub b)
   have hpsel:(sel.map (Blk.look s'.hp)).all Blk.pureB=true:=by rw [List.all_map,List.all_eq_true]; exact hpu
   refine ⟨_,q1,_,_,sel.map (Blk.look s'.hp),sel.map bs'.at,rfl,hk3,?_,hpsel,hr3,?_⟩
   ·
    refine oneRV_rel ?_
    refine all2_ren (by simpa using hr2.len) (fun id hid _ => ?_) (q2.imp fun x v hx=>relAV_more hsub hx)
    have hs:=idx_spec sel id ((hsm id).2 (.inr hid))
    exact ⟨by rw [look_map,hs],by rw [at_map,hs]; rfl,by simpa using (List.getElem?_eq_some_iff.1 hs).1⟩
   ·
    have e1:=hst.evo
    have hlk:∀ id,id<hp.length→Blk.look (sel.map (Blk.look s'.hp)) id=Blk.look s'.hp id∧Bs.at (sel.map bs'.at) id=bs'.at id:=fun id hid=>by
     rw [look_map,at_map,hfst id hid]; exact ⟨rfl,rfl⟩
    have hDn:∀ b,b<w.heap.size→b∉Ds:=fun b hb hm=>by have:=(hD b hm).1; omega
    refine ⟨⟨h2.trans e1.os,h3.trans e1.tape,h4.trans e1.output,by rw [h1]; exact e1.size,by rw [hdr]; exact e1.drawn,fun b hb hn=>(h5 b (hDn b hb)).trans (e1.block b hb hn),fun b hb hn hm=>e1.free b hb hn (hsub b hm)⟩,?_,?_,?_,?_,fun _=>⟨?_,?_,?_⟩⟩
    ·
     rw [hpre]; simp
    ·
     intro id cs hid hl
     rw [(hlk id hid).1] at hl
     rw [(hlk id hid).2]
     exact hst.box id cs hid hl
    ·
     intro id b kt u es g1 g2
     have hid:id<hp.length:=look_lt (by rw [g2]; simp)
     obtain ⟨g3,es',g4⟩:=hst.map id b kt u es g1 g2
     exact ⟨by rw [(hlk id hid).2]; exact g3,es',by rw [(hlk id hid).1]; exact g4⟩
    ·
     intro id al cs hid hl
     rw [(hlk id hid).1] at hl
     obtain ⟨al0,cs0,g1,g2⟩:=hst.own id al cs hid hl
     refine ⟨al0,cs0,g1,?_⟩
     rw [(hlk id hid).2]
     rcases g2 with g2 | ⟨g2,g3,g4,g5⟩
     ·
      exact .inl g2
     ·
      refine .inr ⟨g2,g3,g4,fun b hb cap size ho => ?_⟩
      obtain ⟨cur,e,j1,j2⟩:=g5 b hb cap size ho
      exact ⟨cur,e,by rw [hsame.own id b (by rw [g3]; exact hb)]; exact j1,j2⟩
    ·
     intro b hb hn
     exact (h5 b (hDn b hb)).trans (hold.old b hb hn)
    ·
     intro b hb hn id hid
     rw [at_map] at hid
     cases hs:sel[id]? with
     | none=>rw [hs] at hid; cases hid
     | some j=>rw [hs] at hid; exact hold.new b hb hn j hid
    ·
     intro id l xs i st ht
     exact absurd ht (hnotr _ hpsel id l xs i st)
  rcases hke with rfl | rfl <;> exact this
end
section
variable {P:Program} {g:G} {X:XT} {N:Nat} {L:Cfg}
theorem effOkD (hg:g.good P) (hy:g.y=false) (hm:P.follows .mixedOrders=true) {f:FuncId} {fn:Func} {c:Code} (hf:P.funcs[f]?=some fn) (hb:fn.body=some c) (ec:ECon) (k:Nat) (hk:k≤fn.ntmps)
  (hok:codeOk' L g.ye fn.ntmps c=true)
  (h:∀ args hp K,ec.wp args hp K→allLen args→args.length=k∧vcD P g X0 fn.ntmps L c ⟨argEnv 0 args,hp⟩ (fun e s=>(e=.normal∨e=.ret)∧retEff g fn hp.length s K) ⟨⟩):EffOk P f ec:=effOk_of (L:=L) hg hy hm hf hb ec k hk hok h
theorem flat_pure:∀ (t:Ty) (x:t.T),(t.flat x).all SV.pure=true
 | .int _,_=>rfl
 | .bool,_=>rfl
 | .str,_=>rfl
 | .slice _,_=>rfl
 | .nil,_=>rfl
 | .cons t r,x=>by simp only [Ty.flat,List.all_append,flat_pure t x.1,flat_pure r x.2,Bool.and_true]
 | .fn,_=>rfl
 | .tree h,x=>by simp only [Ty.flat,List.all_append,flat_pure h,Bool.true_and]; rfl
theorem flats_pure (t:Ty) (xs:List t.T):(t.flats xs).all SV.pure=true:=by
 induction xs with
 | nil=>rfl
 | cons x xs ih=>simp only [Ty.flats,List.all_append,flat_pure,ih,Bool.and_true]
theorem av_fn {x:D .fn}:Ty.av .fn x=.s (.fv x):=rfl
theorem round_E:g.round.E=g.E:=rfl
theorem round_Pn:g.round.Pn=g.Pn:=rfl
theorem round_fz:g.round.fz=g.fz:=rfl
theorem round_E2:g.round.E2=g.E2:=rfl
theorem round_te:g.round.te=g.te:=rfl
theorem round_bo:g.round.bo=g.bo:=rfl
theorem round_pm:g.round.pm=g.pm:=rfl
theorem good_of_all {P:Program} {g:G} (h0:g.ok P) (h:∀ p∈g.Γ,(∀ (args:Array Value) (w:World),(callFunc p.1 args).run P w=.ok (.enter p.1 args) w)∧PureOk P p.1 p.2)
  (hE:∀ p∈g.E,(∀ (args:Array Value) (w:World),(callFunc p.1 args).run P w=.ok (.enter p.1 args) w)∧EffOk P p.1 p.2)
  (hP:∀ p∈g.Pn,(∀ (args:Array Value) (w:World),(callFunc p.1 args).run P w=.ok (.enter p.1 args) w)∧PanOk P p.1 p.2)
  (hE2:∀ p∈g.E2,(∀ (args:Array Value) (w:World),(callFunc p.1 args).run P w=.ok (.enter p.1 args) w)∧EffOk2 P p.1 p.2):g.good P:=by
 have key:∀ {α:Type} (l:List (Nat×α)) (f:Nat) (c:α),look l f=some c→(f,c)∈l:=by
  intro α l
  induction l with
  | nil=>intro f c h; simp [look] at h
  | cons p r ih =>
   intro f c hl
   obtain ⟨k,x⟩:=p
   simp only [look] at hl
   split at hl
   ·
    rename_i e; subst e; injection hl with hl; subst hl; exact List.mem_cons_self ..
   ·
    exact List.mem_cons_of_mem _ (ih f c hl)
 exact ⟨h0,fun f c hl=>h _ (key _ f c hl),fun f c hl=>hE _ (key _ f c hl),fun f c hl=>hP _ (key _ f c hl),fun f c hl=>hE2 _ (key _ f c hl)⟩
end
def retEff2S (g:G) (fn:Func) (s:St) (K:RV→List Blk→Prop) (sel:List Nat):Prop :=
 resOk g s.e s.hp fn.results.toList∧closedB s.hp sel=true ∧
 K (oneRV ((resVs g s.e s.hp fn.results.toList).map (AV.ren (idx sel)))) (sel.map fun id=>(Blk.look s.hp id).ren (idx sel))
def retEff2 (g:G) (fn:Func) (k:Nat) (s:St) (K:RV→List Blk→Prop):Prop :=
 retEff2S g fn s K (reachB s.hp 2 (dedup (List.range k) ((resVs g s.e s.hp fn.results.toList).flatMap AV.ids)))
theorem reachB_prefix {hp:List Blk}:∀ (n:Nat) (l:List Nat),∃ r,reachB hp n l=l++r
 | 0,l=>⟨[],by simp [reachB]⟩
 | n+1,l=>by
  obtain ⟨r,hr⟩:=dedup_prefix (l.flatMap fun id=>(Blk.look hp id).ids) l
  obtain ⟨r',hr'⟩:=reachB_prefix (hp:=hp) n (dedup l (l.flatMap fun id=>(Blk.look hp id).ids))
  exact ⟨r++r',by simp only [reachB]; rw [hr',hr,List.append_assoc]⟩
theorem idx_prefix {k:Nat} {r:List Nat} {i:Nat} (h:i<k):idx (List.range k++r) i=i:=by
 have h1:(List.range k++r)[i]?=some i:=by rw [List.getElem?_append_left (by simpa using h)]; simp [h]
 have h2:=idx_spec (List.range k++r) i (List.mem_of_getElem? h1)
 have key:∀ (l:List Nat) (i j:Nat),l[i]?=some j→idx l j≤i:=by
  intro l
  induction l with
  | nil=>intro i j h; simp at h
  | cons a l ih =>
   intro i j h
   simp only [idx]
   split
   ·
    omega
   ·
    rename_i hne
    cases i with
    | zero=>simp at h; exact absurd h hne
    | succ i=>have:=ih i j (by simpa using h); omega
 have h3:=key _ _ _ h1
 clear key h1
 generalize idx (List.range k++r) i=q at *
 rw [List.getElem?_append_left (by rw [List.length_range]; omega),List.getElem?_range (by omega)] at h2
 injection h2
section
variable {P:Program} {g:G} {X:XT} {N:Nat} {L:Cfg} {w:World} {M0:Nat→Prop} {bs:Bs} {hp:List Blk}
theorem effOk2_of (hg:g.good P) (hy:g.y=false) (hm:P.follows .mixedOrders=true) {f:FuncId} {fn:Func} {c:Code} (hf:P.funcs[f]?=some fn) (hb:fn.body=some c) (ec:ECon2) (k:Nat) (hk:k≤fn.ntmps)
  (hok:codeOk' L g.ye fn.ntmps c=true)
  (h:∀ args hp K,ec.wp args hp K→allLen args→args.length=k∧vc P g X0 fn.ntmps L c ⟨argEnv 0 args,hp⟩ (fun e s=>(e=.normal∨e=.ret)∧retEff2 g fn hp.length s K)):EffOk2 P f ec:=by
 intro w M0 bs hp args vs K hpre hr00 hpure hclosed hargs
 obtain ⟨hlen,hvc⟩:=h args hp K hpre (allLen_rel hargs)
 have hwp:=vc_sound (X:=X0) (L:=L) hg X0_ok hm c hok _ _ hvc
 refine (callsIn_wide (n:=0)).1 ?_
 have hF:(FW none)=Fence.wide:=rfl
 rw [← hF]
 have hN:(vs.toArray++Array.replicate (fn.ntmps - vs.toArray.size) undef).size=fn.ntmps:=by
  have:=hargs.length
  simp; omega
 have hnotr:∀ (l:List Blk),l.all Blk.sound=true→∀ id a b c d,Blk.look l id≠.trace a b c d:=by
  intro l hl id a b c d ht
  rw [List.all_eq_true] at hl
  have hlt:id<l.length:=look_lt (by rw [ht]; simp)
  have:=hl l[id] (List.getElem_mem hlt)
  simp only [Blk.look,List.getElem?_eq_getElem hlt,Option.getD_some] at ht
  rw [ht] at this
  simp [Blk.sound] at this
 refine callsIn_of_wp_marks (n:=0) hf hb trivial (wpIn_mono (hwp 0 none (some (w.heap.size,[])) M0 bs { tmps:=vs.toArray++Array.replicate (fn.ntmps - vs.toArray.size) undef,defers:=[] } w ⟨fun _=>rfl,by simp [hy]⟩ ⟨hr00,?_,?_,hN,⟨Nat.le_refl _,[],rfl,.nil,by simp⟩⟩) ?_)
 ·
  intro l xs i st ht; exact absurd ht (hnotr hp hpure 0 l xs i st)
 ·
  refine argEnv_rel 0 _ hargs (fun j v hj => ?_)
  have hj2:=(List.getElem?_eq_some_iff.1 hj).1
  simp only [Array.getD_eq_getD_getElem?,Nat.zero_add]
  rw [Array.getElem?_append_left (by simpa using hj2)]
  simp [hj]
 ·
  rintro e a' w' ⟨s',M0',bs',⟨hke,hk1,hk2,hk3⟩,hr',hn⟩
  obtain rfl:M0'=M0:=hn.eq hy
  obtain ⟨_,Ds,hdf,hnd,hD⟩:=hr'.df
  have hst:Step false w (Mof M0' bs) bs hp w' (Mof M0' bs') bs' s'.hp:=by have:=hn.st; rwa [hy] at this
  have hold:=hst.only rfl
  have:LeavesInM (FW none) 0 P fn a'.tmps (fun o w'=>∃ v rv hp' bs',o=.returned v∧K rv hp'∧relRV w' (Mof M0' bs') bs' hp' rv v∧hp'.all Blk.sound=true∧HR w' M0' bs' hp'∧Step false w (Mof M0' bs) bs hp w' (Mof M0' bs') bs' hp') a'.defers .returning w':=by
   rw [hdf,List.append_nil]
   refine shut_marks Ds w' _ hnd (fun D h=>(hD D h).2.2.2) fun w'' h1 h2 h3 h4 hdr h5 => ?_
   have hsame:Same w' w'' bs':=by
    refine ⟨fun p u hp => ?_,h1,fun id b hb=>h5 b fun hm=>(hD b hm).2.2.1 (.inr ⟨id,hb⟩)⟩
    have hne:p.block∉Ds:=fun hm=>by
     have:=(hD _ hm).2.2.2
     simp [World.cell?,this] at hp
    rw [← hp]
    exact World.cell?_of_block (h5 _ hne)
   have hr2:=hr'.hr.same hsame
   obtain ⟨us,q1,q2⟩:=results_run hg.1 hr2 (relEnv_same hsame hr'.env) fn hk1 _ rfl
   generalize hrs:resVs g s'.e s'.hp fn.results.toList=rs at *
   obtain ⟨r1,hpre1⟩:=dedup_prefix (rs.flatMap AV.ids) (List.range hp.length)
   obtain ⟨hsn1,hsm1⟩:=dedup_spec (rs.flatMap AV.ids) (List.range hp.length) List.nodup_range
   obtain ⟨r2,hpre2⟩:=reachB_prefix (hp:=s'.hp) 2 (dedup (List.range hp.length) (rs.flatMap AV.ids))
   obtain ⟨hsn,hsm2⟩:=reachB_nodup (hp:=s'.hp) 2 _ hsn1
   have hsm:∀ id∈rs.flatMap AV.ids,id∈reachB s'.hp 2 (dedup (List.range hp.length) (rs.flatMap AV.ids)):=fun id hid=>hsm2 id ((hsm1 id).2 (.inr hid))
   obtain ⟨r,hpre⟩:∃ r,reachB s'.hp 2 (dedup (List.range hp.length) (rs.flatMap AV.ids))=List.range hp.length++r:=⟨r1++r2,by rw [hpre2,hpre1,List.append_assoc]⟩
   generalize hsel:reachB s'.hp 2 (dedup (List.range hp.length) (rs.flatMap AV.ids))=sel at *
   have hfst:∀ id,id<hp.length→sel[id]?=some id:=fun id hid=>by
    rw [hpre,List.getElem?_append_left (by simpa using hid)]
    simp [hid]
   have hcl:=closedB_iff hk2
   have hsub:∀ b,Mof M0' (sel.map bs'.at) b→Mof M0' bs' b:=by
    rintro b (hb | ⟨j,hb⟩)
    ·
     exact .inl hb
    ·
     rw [at_map] at hb
     cases hs:sel[j]? with
     | none=>rw [hs] at hb; cases hb
     | some id=>rw [hs] at hb; exact .inr ⟨id,hb⟩
   have hr3:=hr2.selectB (M0':=M0') sel hsn hcl hr2.m0 (fun id _ b hb=>hr2.out id b hb) (fun b _=>hsub b)
   have hpsel:(sel.map fun id=>(Blk.look s'.hp id).ren (idx sel)).all Blk.sound=true:=by
    rw [List.all_map,List.all_eq_true]
    intro id hid
    simp only [Function.comp,Blk.ren_sound]
    exact (hcl id hid).1
   refine ⟨_,q1,_,_,sel.map fun id=>(Blk.look s'.hp id).ren (idx sel),sel.map bs'.at,rfl,hk3,?_,hpsel,hr3,?_⟩
   ·
    refine oneRV_rel ?_
    refine all2_renB (fun id hid _ => ?_) (q2.imp fun x v hx=>relAV_more hsub hx)
    have hs:=idx_spec sel id (hsm id hid)
    exact ⟨by rw [look_selB,hs],by rw [at_map,hs]; rfl,by simpa using (List.getElem?_eq_some_iff.1 hs).1⟩
   ·
    have e1:=hst.evo
    have hlk:∀ id,id<hp.length→Blk.look (sel.map fun id=>(Blk.look s'.hp id).ren (idx sel)) id=(Blk.look s'.hp id).ren (idx sel)∧Bs.at (sel.map bs'.at) id=bs'.at id:=fun id hid=>by
     rw [look_selB,at_map,hfst id hid]; exact ⟨rfl,rfl⟩
    have hDn:∀ b,b<w.heap.size→b∉Ds:=fun b hb hm=>by have:=(hD b hm).1; omega
    refine ⟨⟨h2.trans e1.os,h3.trans e1.tape,h4.trans e1.output,by rw [h1]; exact e1.size,by rw [hdr]; exact e1.drawn,fun b hb hn=>(h5 b (hDn b hb)).trans (e1.block b hb hn),fun b hb hn hm=>e1.free b hb hn (hsub b hm)⟩,?_,?_,?_,?_,fun _=>⟨?_,?_,?_⟩⟩
    ·
     rw [hpre]; simp
    ·
     intro id cs hid hl
     rw [(hlk id hid).1] at hl
     obtain ⟨cs1,hl,_⟩:=Blk.ren_inv_cells hl
     rw [(hlk id hid).2]
     exact hst.box id cs1 hid hl
    ·
     intro id b kt u es g1 g2
     have hid:id<hp.length:=look_lt (by rw [g2]; simp)
     obtain ⟨g3,es',g4⟩:=hst.map id b kt u es g1 g2
     exact ⟨by rw [(hlk id hid).2]; exact g3,es',by rw [(hlk id hid).1,g4]; rfl⟩
    ·
     intro id al cs hid hl
     rw [(hlk id hid).1] at hl
     obtain ⟨cs1,hl1,rfl⟩:=Blk.ren_inv_arr hl
     obtain ⟨al0,cs0,g1,g2⟩:=hst.own id al cs1 hid hl1
     refine ⟨al0,cs0,g1,?_⟩
     rw [(hlk id hid).2,List.length_map]
     rcases g2 with g2 | ⟨g2,g3,g4,g5⟩
     ·
      exact .inl g2
     ·
      refine .inr ⟨g2,g3,fun hn => ?_,fun b hb cap size ho => ?_⟩
      ·
       rw [g4 hn]
       conv=>rhs; rw [← List.map_id cs0]
       refine List.map_congr_left fun x hx => ?_
       have hix:∀ i∈x.ids,i<hp.length:=fun i hi=>hclosed id i (by rw [g1]; exact Blk.ids_arr hx hi)
       have:=SV.ren_ren (σ:=idx sel) (τ:=fun i=>i) (x:=x) (fun i hi=>by rw [hpre]; exact idx_prefix (hix i hi))
       have h0:∀ y:SV,y.ren (fun i=>i)=y:=fun y=>by cases y <;> simp [SV.ren]
       rw [h0] at this
       exact this
      ·
       obtain ⟨cur,e,j1,j2⟩:=g5 b hb cap size ho
       exact ⟨cur,e,by rw [hsame.own id b (by rw [g3]; exact hb)]; exact j1,j2⟩
    ·
     intro b hb hn
     exact (h5 b (hDn b hb)).trans (hold.old b hb hn)
    ·
     intro b hb hn id hid
     rw [at_map] at hid
     cases hs:sel[id]? with
     | none=>rw [hs] at hid; cases hid
     | some j=>rw [hs] at hid; exact hold.new b hb hn j hid
    ·
     intro id l xs i st ht
     exact absurd ht (hnotr _ hpsel id l xs i st)
  rcases hke with rfl | rfl <;> exact this
theorem effOk2D (hg:g.good P) (hy:g.y=false) (hm:P.follows .mixedOrders=true) {f:FuncId} {fn:Func} {c:Code} (hf:P.funcs[f]?=some fn) (hb:fn.body=some c) (ec:ECon2) (k:Nat) (hk:k≤fn.ntmps)
  (hok:codeOk' L g.ye fn.ntmps c=true)
  (h:∀ args hp K,ec.wp args hp K→allLen args→args.length=k∧vcD P g X0 fn.ntmps L c ⟨argEnv 0 args,hp⟩ (fun e s=>(e=.normal∨e=.ret)∧retEff2 g fn hp.length s K) ⟨⟩):EffOk2 P f ec:=effOk2_of (L:=L) hg hy hm hf hb ec k hk hok h
end
end Go.Am
namespace Go.Am
theorem flats_int_get {k:IntKind}:∀ (xs:List Int) (j:Nat),((Ty.int k).flats xs)[j]?=(xs[j]?).map (SV.int k)
 | [],j=>by simp [Ty.flats]
 | x::xs,0=>by simp [Ty.flats,Ty.flat]
 | x::xs,j+1=>by simp [Ty.flats,Ty.flat,flats_int_get xs j]
def fvParts:SV→Option (FuncId×List (Sigma Ty.T))
 | .fn f []=>some (f,[])
 | .fnp f caps=>some (f,caps)
 | .fv x=>x.parts
 | _=>none
end Go.Am
namespace Go.Am
open Go.RowKit
structure DCon where
 run:Option Value→List AV→List Blk→Option (List Blk)
def modeOf:Option Value→FrameMode
 | none=>.returning
 | some v=>.panicking [{ v:=v,recovered:=false }]
def DefCOk (P:Program) (f:FuncId) (c:DCon):Prop :=
 ∀ (n:Nat) (w:World) (M0:Nat→Prop) (bs:Bs) (hp hp':List Blk) (args:List AV) (vs:List Value) (m:Option Value),c.run m args hp=some hp'→HR w M0 bs hp→All2 (relAV w (Mof M0 bs) bs hp) args vs →
  CallsDIn (FW none) n P f vs.toArray (modeOf m) w (fun e u' w'=>(∃ v,e=.returned v)∧settle u'=.returning∧HR w' M0 bs hp'∧Step false w (Mof M0 bs) bs hp w' (Mof M0 bs) bs hp')
def runDefs:Option Value→List (DCon×List AV)→List Blk→(List Blk→Prop)→(Value→Prop)→Prop
 | none,[],hp,K,_=>K hp
 | some v,[],_,_,KP=>KP v
 | m,(dc,args)::ds,hp,K,KP=>match dc.run m args hp with
  | some hp'=>runDefs none ds hp' K KP
  | none=>False
def exitOk (ds:List (DCon×List AV)) (e:Exit) (s:St) (K:List Blk→Prop) (KP:Value→Prop):Prop:=match e with
 | .normal=>runDefs none ds s.hp K KP
 | .ret=>runDefs none ds s.hp K KP
 | .panic [⟨v,false,false⟩]=>runDefs (some v) ds s.hp K KP
 | _=>False
def isDefer (o:Oper):Bool:=match o.op with
 | .defer _=>o.guard.isNone&&o.dst.isNone
 | _=>false
def defReg:Code→Option Oper
 | .region _ ops false=>match ops.toList with
  | [o]=>if isDefer o then some o else none
  | _=>none
 | _=>none
def defReg2:Code→Option (Oper×Oper)
 | .region _ ops false=>match ops.toList with
  | [a,o]=>if isDefer o&&a.guard.isNone then some (a,o) else none
  | _=>none
 | _=>none
def defOf (g:G) (Dl:List (FuncId×DCon)) (e:Env) (o:Oper):Option (DCon×List AV):=match o.op with
 | .defer { callee:=.value (.func d),args:=xs,argTypes:=ts }=>(look Dl d).map fun dc=>(dc,argsEv g e xs.toList ts.toList)
 | .defer { callee:=.value (.tmp t),args:=xs,argTypes:=_ }=>match xs.toList,getE e t with
  | [],⟨true,.v (.s (.fn d ids))⟩=>(look Dl d).map fun dc=>(dc,ids.map fun id=>.s (.box id 0))
  | _,_=>none
 | _=>none
def vcDef (P:Program) (g:G) (N:Nat) (L:Cfg) (Dl:List (FuncId×DCon)) (K:List (DCon×List AV)→Exit→St→Prop):List (DCon×List AV)→Code→St→Prop
 | ds,.seq (.region id ops dr) rest,s=>match defReg (.region id ops dr) with
  | some o=>match defOf g Dl s.e o with
   | some x=>okOps s.e o.op∧vcDef P g N L Dl K (x::ds) rest s
   | none=>False
  | none=>match defReg2 (.region id ops dr) with
   | some (a,o)=>okOps s.e a.op∧(pEv g s.hp s.e a.type a.op).1∧a.dst.getD 0<N∧match defOf g Dl (putE a.dst ⟨true,(pEv g s.hp s.e a.type a.op).2⟩ s.e) o with
    | some x=>okOps (putE a.dst ⟨true,(pEv g s.hp s.e a.type a.op).2⟩ s.e) o.op∧vcDef P g N L Dl K (x::ds) rest ⟨putE a.dst ⟨true,(pEv g s.hp s.e a.type a.op).2⟩ s.e,s.hp⟩
    | none=>False
   | none=>vc P g X0 N L (.region id ops dr) s (thenK (fun s'=>vcDef P g N L Dl K ds rest s') (K ds))
 | ds,c,s=>vc P g X0 N L c s (K ds)
def DlOk (P:Program) (Dl:List (FuncId×DCon)):Prop:=∀ f c,look Dl f=some c→(∀ (args:Array Value) (w:World),(callFunc f args).run P w=.ok (.enter f args) w)∧DefCOk P f c
section
variable {P:Program} {g:G} {N:Nat} {L:Cfg} {w:World} {M0:Nat→Prop} {bs:Bs} {hp:List Blk}
theorem shut_marksB {fn:Func} {tmps:Array Value} {r:Option Nat} {n:Nat} {B:List Deferred} {m:FrameMode} (hm:m≠.run):∀ (Ds:List Nat) (w:World) (R:Ending→World→Prop),Ds.Nodup→(∀ D∈Ds,w.heap[D]?=some (.deferred (some []))) →
  (∀ w',w'.heap.size=w.heap.size→w'.os=w.os→w'.tape=w.tape→w'.output=w.output→w'.drawn=w.drawn→(∀ b,b∉Ds→w'.heap[b]?=w.heap[b]?)→LeavesInM (FW r) n P fn tmps R B m w') →
  LeavesInM (FW r) n P fn tmps R (Ds.map markOf++B) m w
 | [],w,R,_,_,h=>h w rfl rfl rfl rfl rfl (fun _ _=>rfl)
 | D::Ds,w,R,hnd,hd,h=>by
  refine ⟨hm,.inl ⟨D,w.putObj D (.deferred none),rfl,run_takeDeferred (hd D (by simp)),?_⟩⟩
  refine shut_marksB hm Ds _ R (List.nodup_cons.1 hnd).2 (fun E hE => ?_) (fun w' h1 h2 h3 h4 hdr h5 => ?_)
  ·
   have hne:E≠D:=fun e=>(List.nodup_cons.1 hnd).1 (e▸hE)
   rw [World.putObj_heap_other hne]
   exact hd E (by simp [hE])
  ·
   refine h w' (by rw [h1]; simp) h2 h3 h4 hdr (fun b hb => ?_)
   simp only [List.mem_cons,not_or] at hb
   rw [h5 b hb.2,World.putObj_heap_other hb.1]
def Waits (P:Program) (w:World) (M:Nat→Prop) (bs:Bs) (hp:List Blk) (x:DCon×List AV) (d:Deferred):Prop :=
 ∃ (f:FuncId) (vs:List Value) (fv:Fn) (cap:Array Value),d.target=.fn fv cap∧(∀ w,(invoke d.target d.args).run P w=.ok (.enter f vs.toArray) w)∧DefCOk P f x.1∧All2 (relAV w M bs hp) x.2 vs
theorem Waits.step {v:Bool} {w':World} {M M':Nat→Prop} {bs':Bs} {hp':List Blk} {x:DCon×List AV} {d:Deferred} (h:Waits P w M bs hp x d) (k:Step v w M bs hp w' M' bs' hp'):Waits P w' M' bs' hp' x d:=by
 obtain ⟨f,vs,fv,cap,h1,h2,h3,h4⟩:=h
 exact ⟨f,vs,fv,cap,h1,h2,h3,h4.imp fun x u hu=>relAV_step k x u hu⟩
theorem modeOf_run (m:Option Value):modeOf m≠.run:=by cases m <;> simp [modeOf]
theorem leaves_defs {fn:Func} {tmps:Array Value} {n:Nat} {R:Ending→World→Prop} {K:List Blk→Prop} {KP:Value→Prop}:∀ (ds:List (DCon×List AV)) (B:List Deferred) (m:Option Value) (w:World) (hp:List Blk),
  All2 (Waits P w (Mof M0 bs) bs hp) ds B→runDefs m ds hp K KP→HR w M0 bs hp →
  (∀ w' hp',K hp'→HR w' M0 bs hp'→Step false w (Mof M0 bs) bs hp w' (Mof M0 bs) bs hp'→∃ v,(results fn tmps).run P w'=.ok v w'∧R (.returned v) w') →
  (∀ v,m=some v→KP v→R (.panicked [{ v:=v,recovered:=false }]) w) →
  LeavesInM (FW none) n P fn tmps R B (modeOf m) w
 | [],_,m,w,hp,.nil,h,hr,hK,hP=>by
  cases m with
  | none=>exact hK w hp h hr (Step.refl _ _ _ _)
  | some v=>exact hP v rfl h
 | (dc,args)::ds,_,m,w,hp,.cons (b:=d) hd hds,h,hr,hK,hP=>by
  obtain ⟨f,vs,fv,cap,h1,h2,h3,h4⟩:=hd
  have hrun:∃ hp',dc.run m args hp=some hp'∧runDefs none ds hp' K KP:=by
   cases m <;> (simp only [runDefs] at h; split at h) <;> first | exact ⟨_,by assumption,h⟩ | exact h.elim
  obtain ⟨hp',e1,e2⟩:=hrun
  refine ⟨modeOf_run m,.inr ⟨fun hd=>by simp [FW] at hd,fv,cap,f,vs.toArray,h1,h2 w,fun _ _=>trivial,?_⟩⟩
  obtain ⟨k1,k2⟩:=h3 (n - 1) w M0 bs hp hp' args vs m e1 hr h4
  refine ⟨k1,fun c cs hc hroom => ?_⟩
  obtain ⟨e,u',w',fr,⟨⟨v,rfl⟩,hu,hr',hst⟩,rest⟩:=k2 c cs hc hroom
  refine ⟨.returned v,u',w',fr,?_,rest⟩
  show LeavesInM (FW none) n P fn tmps R _ (settle u') w'
  rw [hu]
  exact leaves_defs ds _ none w' hp' (hds.imp fun x d hd=>hd.step hst) e2 hr' (fun w'' hp'' q1 q2 q3=>hK w'' hp'' q1 q2 (hst.trans q3)) (fun v hv=>by cases hv)
theorem deferred_list (hg:g.good P) {Dl:List (FuncId×DCon)} (hD:DlOk P Dl) {n:Nat} {Q:Exit→Act→World→Prop} {ops:Array Oper} {o:Oper} {e:Env} {hp:List Blk} {a:Act} {x:DCon×List AV}
  (hdf:isDefer o=true) (h2:defOf g Dl e o=some x) (hok:okOps e o.op) (hr:HR w M0 bs hp) (he:relEnv w (Mof M0 bs) bs hp e a)
  (hQ:∀ d,Waits P w (Mof M0 bs) bs hp x d→Q .normal { a with defers:=d::a.defers } w):wpListIn (FW none) n P ops Q [o] a w:=by
 obtain ⟨dst,op,t,pos,after,guard⟩:=o
 unfold isDefer at hdf
 split at hdf
 ·
  rename_i c heq
  simp only at heq hdf
  subst heq
  simp only [Bool.and_eq_true,Option.isNone_iff_eq_none] at hdf
  obtain ⟨hgd,hdd⟩:=hdf
  subst hgd
  subst hdd
  show ite _ _ _
  rw [if_pos (by simp [Region.wanted])]
  refine ⟨fun f _=>trivial,?_⟩
  have hsem:∀ o:Oper,Oper.semAt (FW none).round a.eval o=execOp a.eval o:=fun o=>Oper.semAt_none _ _
  rw [hsem]
  unfold defOf at h2
  split at h2
  ·
   rename_i d xs ts heq
   simp only at heq
   injection heq with heq
   subst heq
   cases hl:look Dl d with
   | none=>simp [hl] at h2
   | some dc =>
    simp [hl] at h2
    subst h2
    obtain ⟨hent,hdc⟩:=hD d dc hl
    have hall:=okOps_all (by simp) hok
    have hargs:=args_rel hg.1 xs.toList ts.toList (fun x hx=>oper_rel hr.gl he x (hall x (by simp [Op.operands,Call.operands]; exact .inr (by simpa using hx))))
    have hrun:(execOp a.eval { dst:=none,op:=.defer { callee:=.value (.func d),args:=xs,argTypes:=ts },type:=t,pos:=pos,after:=after,guard:=none }).run P w=.ok (.defer { target:=.fn (.func d) #[],args:=(xs.toList.map a.eval).toArray }) w:=by
     simp [execOp,resolve,Act.eval,Deferred.ofValue,Sem.run_bind,map_arr]
    rw [hrun]
    refine hQ _ ⟨d,xs.toList.map a.eval,_,_,rfl,fun w => ?_,hdc,hargs⟩
    simpa [invoke] using hent (xs.toList.map a.eval).toArray w
  ·
   rename_i t xs ts heq
   simp only at heq
   injection heq with heq
   subst heq
   split at h2
   ·
    rename_i d ids hxs hgt
    cases hl:look Dl d with
    | none=>simp [hl] at h2
    | some dc =>
     simp [hl] at h2
     subst h2
     obtain ⟨hent,hdc⟩:=hD d dc hl
     have hrel:=(getE_rel he t)
     rw [hgt] at hrel
     obtain ⟨ps,hv,hps⟩:=hrel.1 rfl
     have hxs':xs=#[]:=by cases xs; simpa using hxs
     subst hxs'
     have hrun:∀ (ta:Array TypeId) (tt:TypeId),(execOp a.eval { dst:=none,op:=.defer { callee:=.value (.tmp t),args:=#[],argTypes:=ta },type:=tt,pos:=pos,after:=after,guard:=none }).run P w=.ok (.defer { target:=.fn (.func d) (ps.map fun b=>.pointer (some ⟨b,0,none⟩)).toArray,args:=#[] }) w:=fun ta tt=>by
      simp [execOp,resolve,Act.eval,hv,Deferred.ofValue,Sem.run_bind]
     rw [hrun]
     refine hQ _ ⟨d,ps.map fun b=>.pointer (some ⟨b,0,none⟩),_,_,rfl,fun w => ?_,hdc,?_⟩
     ·
      simpa [invoke] using hent (ps.map fun b=>.pointer (some ⟨b,0,none⟩)).toArray w
     ·
      clear hv hgt hrel hQ hrun
      induction hps with
      | nil=>exact .nil
      | cons r _ ih=>exact .cons ⟨r.1,fun cs hc=>⟨_,r.2 cs hc,rfl⟩⟩ ih
   ·
    cases h2
  ·
   cases h2
 ·
  cases hdf
theorem deferred_wp (hg:g.good P) {Dl:List (FuncId×DCon)} (hD:DlOk P Dl) {n:Nat} {Q:Exit→Act→World→Prop} {id:Nat} {ops:Array Oper} {dr:Bool} {o:Oper} {e:Env} {hp:List Blk} {a:Act} {x:DCon×List AV}
  (h1:defReg (.region id ops dr)=some o) (h2:defOf g Dl e o=some x) (hok:okOps e o.op) (hr:HR w M0 bs hp) (he:relEnv w (Mof M0 bs) bs hp e a)
  (hQ:∀ d,Waits P w (Mof M0 bs) bs hp x d→Q .normal { a with defers:=d::a.defers } w):(Code.region id ops dr).wpIn (FW none) n P Q a w:=by
 unfold defReg at h1
 split at h1
 ·
  rename_i heq
  injection heq with e1 e2 e3
  subst e1; subst e2; subst e3
  split at h1
  ·
   rename_i o' hops
   split at h1
   ·
    rename_i hdf
    injection h1 with h1
    subst h1
    refine wpIn_region_list ?_
    rw [hops]
    exact deferred_list hg hD hdf h2 hok hr he hQ
   ·
    cases h1
  ·
   cases h1
 ·
  cases h1
theorem defReg2_eq {id:Nat} {ops:Array Oper} {dr:Bool} {a0 o:Oper} (h:defReg2 (.region id ops dr)=some (a0,o)):dr=false∧ops.toList=[a0,o]∧isDefer o=true∧a0.guard=none:=by
 unfold defReg2 at h
 split at h
 ·
  rename_i heq
  injection heq with e1 e2 e3
  subst e1; subst e2; subst e3
  split at h
  ·
   rename_i x y hops
   split at h
   ·
    rename_i hc
    injection h with h
    injection h with h1 h2
    subst h1; subst h2
    rw [Bool.and_eq_true,Option.isNone_iff_eq_none] at hc
    exact ⟨rfl,hops,hc.1,hc.2⟩
   ·
    cases h
  ·
   cases h
 ·
  cases h
def PostDef (P:Program) (g:G) (N m:Nat) (K:List (DCon×List AV)→Exit→St→Prop) (w:World) (M0:Nat→Prop) (bs:Bs) (hp:List Blk) (e:Exit) (a':Act) (w':World):Prop :=
 ∃ s' M0' bs' ds' B',K ds' e s'∧Rel P X0 N (some (m,B')) w' M0' bs' a' s'∧Nx P g X0 w M0 bs hp w' M0' bs' s'.hp∧All2 (Waits P w' (Mof M0' bs') bs' s'.hp) ds' B'
theorem vcDef_sound (hg:g.good P) (hm:P.follows .mixedOrders=true) (hy:g.y=false) {Dl:List (FuncId×DCon)} (hD:DlOk P Dl) (K:List (DCon×List AV)→Exit→St→Prop):∀ (c:Code),codeOk' L g.ye N c=true →
  ∀ (ds:List (DCon×List AV)) (s:St),vcDef P g N L Dl K ds c s→∀ (n m:Nat) (M0:Nat→Prop) (bs:Bs) (a:Act) (w:World) (B:List Deferred),Rel P X0 N (some (m,B)) w M0 bs a s→a.defers=B→All2 (Waits P w (Mof M0 bs) bs s.hp) ds B →
  c.wpIn (FW none) n P (PostDef P g N m K w M0 bs s.hp) a w:=by
 have plain:∀ (c:Code),codeOk' L g.ye N c=true→∀ (ds:List (DCon×List AV)) (s:St),vc P g X0 N L c s (K ds)→∀ (n m:Nat) (M0:Nat→Prop) (bs:Bs) (a:Act) (w:World) (B:List Deferred),Rel P X0 N (some (m,B)) w M0 bs a s →
   All2 (Waits P w (Mof M0 bs) bs s.hp) ds B→c.wpIn (FW none) n P (PostDef P g N m K w M0 bs s.hp) a w:=by
  intro c hok ds s hv n m M0 bs a w B hr hw
  refine wpIn_mono (vc_sound hg X0_ok hm c hok s (K ds) hv n none (some (m,B)) M0 bs a w ⟨fun _=>rfl,by simp [hy]⟩ hr) ?_
  rintro e a' w' ⟨s',M0',bs',k,x,y⟩
  exact ⟨s',M0',bs',ds,B,k,x,y,hw.imp fun x d hd=>hd.step y.st⟩
 intro c
 induction c with
 | seq x rest _ ihr =>
  cases x with
  | region id ops dr =>
   intro hok ds s hv n m M0 bs a w B hr hB hw
   simp only [codeOk',Bool.and_eq_true] at hok
   simp only [vcDef] at hv
   refine wpIn_seq ?_
   cases hdr:defReg (.region id ops dr) with
   | some o =>
    rw [hdr] at hv
    cases hdo:defOf g Dl s.e o with
    | none=>simp [hdo] at hv
    | some x =>
     simp only [hdo] at hv
     refine deferred_wp hg hD hdr hdo hv.1 hr.hr hr.env fun d hd => ?_
     refine ihr hok.2 (x::ds) s hv.2 n m M0 bs _ w (d::B) ⟨hr.hr,hr.xr,hr.env,hr.size,?_⟩ (by rw [hB]) (.cons hd hw)
     obtain ⟨h0,_⟩:=hr.df
     exact ⟨h0,[],by rw [hB]; rfl,.nil,by simp⟩
   | none =>
    rw [hdr] at hv
    cases hdr2:defReg2 (.region id ops dr) with
    | some q =>
     obtain ⟨a0,o⟩:=q
     rw [hdr2] at hv
     simp only at hv
     obtain ⟨v1,v2,v3,hv⟩:=hv
     obtain ⟨rfl,hops,hdf,hgn⟩:=defReg2_eq hdr2
     cases hdo:defOf g Dl (putE a0.dst ⟨true,(pEv g s.hp s.e a0.type a0.op).2⟩ s.e) o with
     | none=>simp [hdo] at hv
     | some x =>
      simp only [hdo] at hv
      refine wpIn_region_list ?_
      rw [hops]
      show ite _ _ _
      rw [if_pos (by simp [Region.wanted,hgn])]
      refine pEv_wp hg hr.hr a0 (fun x _ hx=>oper_rel hr.hr.gl hr.env x hx) v1 v2 fun z w' k1 k2 k3 => ?_
      have hn:=Nx.of_step (P:=P) (g:=g) X0_ok hr.xr k2 k3
      have he':=relEnv_put (relEnv_step hn.st hr.env) a0.dst ⟨true,(pEv g s.hp s.e a0.type a0.op).2⟩ z ⟨fun _=>k1,by simp⟩ (fun d hd=>by rw [hd] at v3; rw [hr.size]; exact v3)
      refine deferred_list hg hD hdf hdo hv.1 hn.hr he' fun d hd => ?_
      refine wpIn_mono (ihr hok.2 (x::ds) _ hv.2 n m M0 bs _ w' (d::B) ⟨hn.hr,hn.xr,he',by rw [put_eval]; exact hr.size,?_⟩ (by rw [put_defers,hB]) (.cons hd (hw.imp fun x d hd=>hd.step hn.st))) ?_
      ·
       obtain ⟨h0,_⟩:=hr.df.evo hn.st.evo
       exact ⟨h0,[],by rw [put_defers,hB]; rfl,.nil,by simp⟩
      ·
       rintro e2 a2 w2 ⟨s2,M2,bs2,ds2,B2,k2,hr2,hn2,hw2⟩
       exact ⟨s2,M2,bs2,ds2,B2,k2,hr2,hn.trans hn2,hw2⟩
    | none =>
    rw [hdr2] at hv
    refine wpIn_mono (vc_region hg X0_ok hm id ops dr (by simpa [codeOk'] using hok.1) s _ hv n none (some (m,B)) M0 bs a w ⟨fun _=>rfl,by simp [hy]⟩ hr) ?_
    rintro e a' w' ⟨⟨s',M0',bs',k,hr',hn⟩,hdf⟩
    have hw':=hw.imp fun x d hd=>hd.step hn.st
    cases e with
    | normal =>
     refine wpIn_mono (ihr hok.2 ds s' k n m M0' bs' a' w' B hr' (hdf.trans hB) hw') ?_
     rintro e2 a2 w2 ⟨s2,M2,bs2,ds2,B2,k2,hr2,hn2,hw2⟩
     exact ⟨s2,M2,bs2,ds2,B2,k2,hr2,hn.trans hn2,hw2⟩
    | _=>exact ⟨s',M0',bs',ds,B,k,hr',hn,hw'⟩
  | _=>intro hok ds s hv n m M0 bs a w B hr hB hw; exact plain _ hok ds s hv n m M0 bs a w B hr hw
 | _=>intro hok ds s hv n m M0 bs a w B hr hB hw; exact plain _ hok ds s hv n m M0 bs a w B hr hw
theorem Waits.same {w':World} (hs:Same w w' bs) {x:DCon×List AV} {d:Deferred} (h:Waits P w (Mof M0 bs) bs hp x d):Waits P w' (Mof M0 bs) bs hp x d:=by
 obtain ⟨f,vs,fv,cap,h1,h2,h3,h4⟩:=h
 exact ⟨f,vs,fv,cap,h1,h2,h3,h4.imp fun x u hu=>relAV_same hs hu⟩
theorem calls_gen (hg:g.good P) (hy:g.y=false) (hm:P.follows .mixedOrders=true) {Dl:List (FuncId×DCon)} (hD:DlOk P Dl) {f:FuncId} {fn:Func} {c:Code} (hf:P.funcs[f]?=some fn) (hb:fn.body=some c) (k:Nat) (hk:k≤fn.ntmps)
  (hok:codeOk' L g.ye fn.ntmps c=true) {A:Prop} {B:Value→Prop} {rv:RV} {args:List AV} {vs:List Value} (hM0:MOk w M0) (hargs:All2 (relAV w M0 [] []) args vs) (hlen:args.length=k)
  (h:vcDef P g fn.ntmps L Dl (fun ds e s=>exitOk ds e s (fun hp'=>A∧retOk g fn ⟨s.e,hp'⟩ rv) B) [] c ⟨argEnv 0 args,[]⟩) :
  Calls P f vs.toArray w (fun e w'=>((A∧∃ v,e=.returned v∧relRV w' M0 [] [] rv v)∨∃ v,B v∧e=.panicked [{ v:=v,recovered:=false }])∧Below w.heap.size w w'∧w.drawn≤w'.drawn):=by
 refine (callsIn_wide (n:=0)).1 ?_
 have hF:(FW none)=Fence.wide:=rfl
 rw [← hF]
 have hr0:HR w M0 [] []:=by
  exact hr_empty hM0
 have hN:(vs.toArray++Array.replicate (fn.ntmps - vs.toArray.size) undef).size=fn.ntmps:=by
  have:=hargs.length
  simp; omega
 refine callsIn_of_wp_marks (n:=0) hf hb trivial (wpIn_mono (vcDef_sound hg hm hy hD _ c hok [] _ h 0 w.heap.size M0 [] { tmps:=vs.toArray++Array.replicate (fn.ntmps - vs.toArray.size) undef,defers:=[] } w [] ⟨hr0,?_,?_,hN,⟨Nat.le_refl _,[],rfl,.nil,by simp⟩⟩ rfl .nil) ?_)
 ·
  intro l xs i st ht; simp [Blk.look] at ht
 ·
  refine argEnv_rel 0 _ (hargs.imp fun x v h=>relAV_weaken (fun b hb=>hb.elim id fun ⟨id,h⟩=>by simp [Bs.at] at h) h) (fun j v hj => ?_)
  have hj2:=(List.getElem?_eq_some_iff.1 hj).1
  simp only [Array.getD_eq_getD_getElem?,Nat.zero_add]
  rw [Array.getElem?_append_left (by simpa using hj2)]
  simp [hj]
 ·
  rintro e a' w' ⟨s',M0',bs',ds',B',hK,hr',hn,hw⟩
  obtain rfl:M0'=M0:=hn.eq hy
  obtain ⟨_,Ds,hdf,hnd,hD'⟩:=hr'.df
  have hst:Step false w (Mof M0' []) [] [] w' (Mof M0' bs') bs' s'.hp:=by have:=hn.st; rwa [hy] at this
  have hold:=hst.only rfl
  have key:∀ m:Option Value,runDefs m ds' s'.hp (fun hp'=>A∧retOk g fn ⟨s'.e,hp'⟩ rv) B→LeavesInM (FW none) 0 P fn a'.tmps (fun e w'=>((A∧∃ v,e=.returned v∧relRV w' M0' [] [] rv v)∨∃ v,B v∧e=.panicked [{ v:=v,recovered:=false }])∧Below w.heap.size w w'∧w.drawn≤w'.drawn) a'.defers (modeOf m) w':=by
   intro m hrun
   rw [hdf]
   refine shut_marksB (modeOf_run m) Ds w' _ hnd (fun D h=>(hD' D h).2.2.2) fun w'' h1 h2 h3 h4 hdr h5 => ?_
   have hsame:Same w' w'' bs':=by
    refine ⟨fun p u hp => ?_,h1,fun id b hb=>h5 b fun hm=>(hD' b hm).2.2.1 (.inr ⟨id,hb⟩)⟩
    have hne:p.block∉Ds:=fun hm=>by
     have:=(hD' _ hm).2.2.2
     simp [World.cell?,this] at hp
    rw [← hp]
    exact World.cell?_of_block (h5 _ hne)
   have hbel:Below w.heap.size w w''∧w.drawn≤w''.drawn:=by
    have e1:=hst.evo
    exact ⟨⟨h2.trans e1.os,h3.trans e1.tape,h4.trans e1.output,by rw [h1]; exact e1.size,fun b hb=>by
     rw [h5 b (fun hm=>by have:=(hD' b hm).1; omega)]
     exact hold.old b hb (by simp [Bs.at])⟩,by rw [hdr]; exact e1.drawn⟩
   refine leaves_defs ds' B' m w'' s'.hp (hw.imp fun x d hd=>hd.same hsame) hrun (hr'.hr.same hsame) (fun w3 hp3 hK3 hr3 hst3 => ?_) (fun v _ hv=>⟨.inr ⟨v,hv,rfl⟩,hbel⟩)
   obtain ⟨hA,hk1,vs',hk2,hk3⟩:=hK3
   obtain ⟨us,q1,q2⟩:=results_run hg.1 hr3 (relEnv_step hst3 (relEnv_same hsame hr'.env)) fn hk1 _ rfl
   have q3:=frzAs_sound hr3 q2 hk2
   refine ⟨_,q1,.inl ⟨hA,_,rfl,?_⟩,?_⟩
   ·
    rw [← hk3]; exact oneRV_rel q3
   ·
    have e3:=hst3.evo
    have ho3:=(hst3.only rfl).old
    refine ⟨⟨e3.os.trans hbel.1.os,e3.tape.trans hbel.1.tape,e3.output.trans hbel.1.output,Nat.le_trans hbel.1.size e3.size,fun b hb => ?_⟩,Nat.le_trans hbel.2 e3.drawn⟩
    rw [ho3 b (Nat.lt_of_lt_of_le hb hbel.1.size) (fun id hid=>hold.new b hb (by simp [Bs.at]) id hid)]
    exact hbel.1.block b hb
  cases e with
  | normal=>exact key none hK
  | ret=>exact key none hK
  | panic ch =>
   simp only [exitOk] at hK
   split at hK
   ·
    rename_i heq; cases heq
   ·
    rename_i heq; cases heq
   ·
    rename_i v heq
    injection heq with heq
    subst heq
    exact key (some v) hK
   ·
    exact hK.elim
  | exit id=>exact hK.elim
  | goto l=>exact hK.elim
  | outgrown=>exact hK.elim
theorem pureOk_def (hg:g.good P) (hy:g.y=false) (hm:P.follows .mixedOrders=true) {Dl:List (FuncId×DCon)} (hD:DlOk P Dl) {f:FuncId} {fn:Func} {c:Code} (hf:P.funcs[f]?=some fn) (hb:fn.body=some c) (con:Con) (k:Nat) (hk:k≤fn.ntmps)
  (hok:codeOk' L g.ye fn.ntmps c=true)
  (h:∀ args,con.pre args→allLen args→args.length=k∧vcDef P g fn.ntmps L Dl (fun ds e s=>exitOk ds e s (fun hp'=>retOk g fn ⟨s.e,hp'⟩ (con.val args)) fun _=>False) [] c ⟨argEnv 0 args,[]⟩):PureOk P f con:=by
 intro w M0 args vs hpre hM0 hargs
 obtain ⟨hlen,hvc⟩:=h args hpre (allLen_rel hargs)
 refine (calls_gen (L:=L) (A:=True) (B:=fun _=>False) hg hy hm hD hf hb k hk hok hM0 hargs hlen (by simpa only [true_and] using hvc)).mono ?_
 rintro e w' ⟨⟨_,v,h1,h2⟩ | ⟨v,hB,_⟩,h3,h4⟩
 ·
  exact ⟨v,h1,h2,h3,h4⟩
 ·
  exact hB.elim
theorem panOk_def (hg:g.good P) (hy:g.y=false) (hm:P.follows .mixedOrders=true) {Dl:List (FuncId×DCon)} (hD:DlOk P Dl) {f:FuncId} {fn:Func} {c:Code} (hf:P.funcs[f]?=some fn) (hb:fn.body=some c) (con:PCon) (k:Nat) (hk:k≤fn.ntmps)
  (hok:codeOk' L g.ye fn.ntmps c=true)
  (h:∀ args,con.when args→allLen args→args.length=k∧vcDef P g fn.ntmps L Dl (fun ds e s=>exitOk ds e s (fun hp'=>False) fun v=>v=con.what args) [] c ⟨argEnv 0 args,[]⟩):PanOk P f con:=by
 intro w M0 args vs hpre hM0 hargs
 obtain ⟨hlen,hvc⟩:=h args hpre (allLen_rel hargs)
 refine (calls_gen (L:=L) (A:=False) (B:=fun v=>v=con.what args) (rv:=.tup []) hg hy hm hD hf hb k hk hok hM0 hargs hlen (by simpa only [false_and] using hvc)).mono ?_
 rintro e w' ⟨⟨hA,_⟩ | ⟨v,rfl,h1⟩,h3,h4⟩
 ·
  exact hA.elim
 ·
  exact ⟨h1,h3,h4⟩
structure CaughtRaw (P:Program) (f:FuncId) (tE:TypeId):Prop where
 idle:∀ (n:Nat) (p:Addr) (w:World),CallsDIn (FW none) n P f #[.pointer (some p)] .returning w fun e u' w'=>e=.returned (.tuple #[])∧u'=.returning∧w'=w
 hit:∀ (n:Nat) (p:Addr) (x m:Int) (w:World),w.cell? p=some (.int .i64 x)→w.frozen? p=false→CallsDIn (FW none) n P f #[.pointer (some p)] (.panicking [{ v:=.iface tE (.int .i64 m),recovered:=false }]) w fun e u' w' =>
  e=.returned (.tuple #[])∧u'=.panicking [{ v:=.iface tE (.int .i64 m),recovered:=true }]∧w'=w.setCell p (.int .i64 m)
def caughtCon (tE:TypeId):DCon:=⟨fun m args hp=>match args with
 | [.s (.box id 0)]=>match Blk.look hp id with
  | .cells [.int .i64 _]=>match m with
   | none=>some hp
   | some (.iface t (.int .i64 n))=>if t=tE then some (hp.set id (.cells [.int .i64 n])) else none
   | _=>none
  | _=>none
 | _=>none⟩
theorem caught_ok {f:FuncId} {tE:TypeId} (h:CaughtRaw P f tE):DefCOk P f (caughtCon tE):=by
 intro n w M0 bs hp hp' args vs m hrun hr hargs
 simp only [caughtCon] at hrun
 split at hrun
 ·
  rename_i id
  split at hrun
  ·
   rename_i x hl
   obtain ⟨b,cur,e,h1,h2,h3,h4⟩:=hr.cells id _ hl
   cases hargs with
   | cons ha hnil =>
    cases hnil
    obtain ⟨b',hb',rfl⟩:=ha.2 _ hl
    rw [h1] at hb'; cases hb'
    obtain ⟨u,k1,k2,k3⟩:=h4 0 _ rfl
    obtain rfl:u=.int .i64 x:=k3
    have hsz:cur.size=1:=by simpa using h3.symm
    have hcell:w.cell? ⟨b,0,none⟩=some (.int .i64 x):=by simp [World.cell?,h2,k1]
    split at hrun
    ·
     injection hrun with hrun; subst hrun
     obtain ⟨q1,q2⟩:=h.idle n ⟨b,0,none⟩ w
     refine ⟨q1,fun c cs hc hroom => ?_⟩
     obtain ⟨e',u',w',fr,⟨rfl,rfl,rfl⟩,rest⟩:=q2 c cs hc hroom
     exact ⟨_,_,_,fr,⟨⟨_,rfl⟩,rfl,hr,Step.refl _ _ _ _⟩,rest⟩
    ·
     rename_i t n'
     split at hrun
     ·
      rename_i ht
      subst ht
      injection hrun with hrun; subst hrun
      obtain ⟨q1,q2⟩:=h.hit n ⟨b,0,none⟩ x n' w hcell (by simp [World.frozen?,h2])
      refine ⟨q1,fun c cs hc hroom => ?_⟩
      obtain ⟨e',u',w',fr,⟨rfl,rfl,rfl⟩,rest⟩:=q2 c cs hc hroom
      have hheap:∀ c,(w.setCell ⟨b,0,none⟩ (.int .i64 n')).heap[c]?=if b=c then some (.cells (cur.setIfInBounds 0 (.int .i64 n')) e (0,0)) else w.heap[c]?:=by
       intro c
       simp only [World.setCell,Array.getElem?_modify]
       split
       ·
        rename_i hbc; subst hbc; rw [h2]; rfl
       ·
        rfl
      have hMb:Mof M0 bs b:=.inr ⟨id,h1⟩
      have hevo:Evo (Mof M0 bs) (Mof M0 bs) w (w.setCell ⟨b,0,none⟩ (.int .i64 n')) :=
       ⟨rfl,rfl,rfl,by simp [World.setCell],Nat.le_refl _,fun c _ hm=>by rw [hheap,if_neg (by rintro rfl; exact hm hMb)],fun _ _ h=>h⟩
      obtain ⟨r1,r2⟩:=hr.rewrite h1 hevo (fun c hne _=>by rw [hheap,if_neg (fun e=>hne e.symm)]) (by rw [hheap,if_pos rfl]) (.cells [.int .i64 n'])
       ⟨_,e,rfl,by simp [hsz],fun j y hj=>by
        cases j with
        | zero =>
         simp at hj; subst hj
         exact ⟨.int .i64 n',by simp [hsz],rfl,rfl⟩
        | succ j=>simp at hj⟩ (by rw [hl]; trivial)
      exact ⟨_,_,_,fr,⟨⟨_,rfl⟩,rfl,r1,r2⟩,rest⟩
     ·
      cases hrun
    ·
     cases hrun
  ·
   cases hrun
 ·
  cases hrun
theorem dl_nil:DlOk P []:=fun f c h=>by simp [look] at h
theorem dl_cons {f:FuncId} {c:DCon} {Dl:List (FuncId×DCon)} (h1:(∀ (args:Array Value) (w:World),(callFunc f args).run P w=.ok (.enter f args) w)∧DefCOk P f c) (h2:DlOk P Dl):DlOk P ((f,c)::Dl):=fun f' c' h=>by
 simp only [look] at h
 split at h
 ·
  rename_i e; subst e; injection h with h; subst h; exact h1
 ·
  exact h2 f' c' h
end
section
variable {P:Program} {g:G} {N:Nat} {L:Cfg}
def vcDefD (P:Program) (g:G) (N:Nat) (L:Cfg) (Dl:List (FuncId×DCon)) (K:List (DCon×List AV)→Exit→St→Prop) (ds:List (DCon×List AV)) (c:Code) (s:St) (_:Dum ((c,L),(K,Dl))):Prop:=vcDef P g N L Dl K ds c s
def defRegD (id:Nat) (ops:List Oper) (dr:Bool):Option Oper:=match dr,ops with
 | false,[o]=>if isDefer o then some o else none
 | _,_=>none
def defReg2D (id:Nat) (ops:List Oper) (dr:Bool):Option (Oper×Oper):=match dr,ops with
 | false,[a,o]=>if isDefer o&&a.guard.isNone then some (a,o) else none
 | _,_=>none
variable {Dl:List (FuncId×DCon)} {K:List (DCon×List AV)→Exit→St→Prop} {ds:List (DCon×List AV)} {s:St}
theorem vcDefD_seqR {id:Nat} {ops:List Oper} {dr:Bool} {rest:Code} {d:Dum ((Code.seq (.region id (List.toArray ops) dr) rest,L),(K,Dl))}:vcDefD P g N L Dl K ds (.seq (.region id (List.toArray ops) dr) rest) s d=match defRegD id ops dr with
  | some o=>match defOf g Dl s.e o with
   | some x=>okOps s.e o.op∧vcDefD P g N L Dl K (x::ds) rest s ⟨⟩
   | none=>False
  | none=>match defReg2D id ops dr with
   | some (a,o)=>okOps s.e a.op∧(pEv g s.hp s.e a.type a.op).1∧a.dst.getD 0<N∧match defOf g Dl (putE a.dst ⟨true,(pEv g s.hp s.e a.type a.op).2⟩ s.e) o with
    | some x=>okOps (putE a.dst ⟨true,(pEv g s.hp s.e a.type a.op).2⟩ s.e) o.op∧vcDefD P g N L Dl K (x::ds) rest ⟨putE a.dst ⟨true,(pEv g s.hp s.e a.type a.op).2⟩ s.e,s.hp⟩ ⟨⟩
    | none=>False
   | none=>vcD P g X0 N L (.region id (List.toArray ops) dr) s (thenKD (fun s'=>vcDefD P g N L Dl K ds rest s' ⟨⟩) (K ds) ⟨⟩) ⟨⟩:=by
 have:defReg (.region id (List.toArray ops) dr)=defRegD id ops dr:=by
  unfold defReg defRegD
  cases dr
  ·
   cases ops with
   | nil=>rfl
   | cons o r=>cases r <;> rfl
  ·
   rfl
 have this2:defReg2 (.region id (List.toArray ops) dr)=defReg2D id ops dr:=by
  unfold defReg2 defReg2D
  cases dr
  ·
   cases ops with
   | nil=>rfl
   | cons o r =>
    cases r with
    | nil=>rfl
    | cons o2 r2=>cases r2 <;> rfl
  ·
   rfl
 show vcDef P g N L Dl K ds (.seq (.region id (List.toArray ops) dr) rest) s=_
 rw [vcDef,this]
 cases defRegD id ops dr with
 | none =>
  simp only
  rw [this2]
  cases defReg2D id ops dr with
  | none=>rfl
  | some q =>
   obtain ⟨a,o⟩:=q
   simp only
   cases defOf g Dl (putE a.dst ⟨true,(pEv g s.hp s.e a.type a.op).2⟩ s.e) o <;> rfl
 | some o =>
  simp only
  cases defOf g Dl s.e o <;> rfl
theorem vcDefD_seqS {x y rest:Code} {d:Dum ((Code.seq (.seq x y) rest,L),(K,Dl))}:vcDefD P g N L Dl K ds (.seq (.seq x y) rest) s d=vcD P g X0 N L (.seq (.seq x y) rest) s (K ds) ⟨⟩:=rfl
theorem vcDefD_seqC {o:Operand} {x y rest:Code} {d:Dum ((Code.seq (.cond o x y) rest,L),(K,Dl))}:vcDefD P g N L Dl K ds (.seq (.cond o x y) rest) s d=vcD P g X0 N L (.seq (.cond o x y) rest) s (K ds) ⟨⟩:=rfl
theorem vcDefD_seqB {i:Nat} {x rest:Code} {d:Dum ((Code.seq (.block i x) rest,L),(K,Dl))}:vcDefD P g N L Dl K ds (.seq (.block i x) rest) s d=vcD P g X0 N L (.seq (.block i x) rest) s (K ds) ⟨⟩:=rfl
theorem vcDefD_seqL {x rest:Code} {d:Dum ((Code.seq (.loop x) rest,L),(K,Dl))}:vcDefD P g N L Dl K ds (.seq (.loop x) rest) s d=vcD P g X0 N L (.seq (.loop x) rest) s (K ds) ⟨⟩:=rfl
theorem vcDefD_seqF {o:Operand} {ps:Array Tmp} {x y rest:Code} {d:Dum ((Code.seq (.rangeFunc o ps x y) rest,L),(K,Dl))}:vcDefD P g N L Dl K ds (.seq (.rangeFunc o ps x y) rest) s d=vcD P g X0 N L (.seq (.rangeFunc o ps x y) rest) s (K ds) ⟨⟩:=rfl
theorem vcDefD_seqSc {x rest:Code} {d:Dum ((Code.seq (.scope x) rest,L),(K,Dl))}:vcDefD P g N L Dl K ds (.seq (.scope x) rest) s d=vcD P g X0 N L (.seq (.scope x) rest) s (K ds) ⟨⟩:=rfl
theorem vcDefD_region {id:Nat} {ops:Array Oper} {dr:Bool} {d:Dum ((Code.region id ops dr,L),(K,Dl))}:vcDefD P g N L Dl K ds (.region id ops dr) s d=vcD P g X0 N L (.region id ops dr) s (K ds) ⟨⟩:=rfl
theorem vcDefD_ret {d:Dum ((Code.ret,L),(K,Dl))}:vcDefD P g N L Dl K ds .ret s d=K ds .ret s:=rfl
theorem vcDefD_cond {o:Operand} {x y:Code} {d:Dum ((Code.cond o x y,L),(K,Dl))}:vcDefD P g N L Dl K ds (.cond o x y) s d=vcD P g X0 N L (.cond o x y) s (K ds) ⟨⟩:=rfl
theorem vcDefD_block {i:Nat} {x:Code} {d:Dum ((Code.block i x,L),(K,Dl))}:vcDefD P g N L Dl K ds (.block i x) s d=vcD P g X0 N L (.block i x) s (K ds) ⟨⟩:=rfl
theorem vcDefD_loop {x:Code} {d:Dum ((Code.loop x,L),(K,Dl))}:vcDefD P g N L Dl K ds (.loop x) s d=vcD P g X0 N L (.loop x) s (K ds) ⟨⟩:=rfl
variable {K0:Exit→St→Prop} {K1:St→Prop} {ch:List PanicEntry}
theorem thenKD_panic {d:Dum (K1,K0)}:thenKD K1 K0 d (.panic ch) s=K0 (.panic ch) s:=rfl
theorem inBlockKD_panic {i:Nat} {d:Dum K0}:inBlockKD i K0 d (.panic ch) s=K0 (.panic ch) s:=rfl
theorem noGotoKD_panic {d:Dum K0}:noGotoKD K0 d (.panic ch) s=K0 (.panic ch) s:=rfl
theorem exitOk_normal {K:List Blk→Prop} {KP:Value→Prop}:exitOk ds .normal s K KP=runDefs none ds s.hp K KP:=rfl
theorem exitOk_ret {K:List Blk→Prop} {KP:Value→Prop}:exitOk ds .ret s K KP=runDefs none ds s.hp K KP:=rfl
theorem exitOk_panic {K:List Blk→Prop} {KP:Value→Prop} {v:Value}:exitOk ds (.panic [⟨v,false,false⟩]) s K KP=runDefs (some v) ds s.hp K KP:=rfl
theorem exitOk_exit {K:List Blk→Prop} {KP:Value→Prop} {i:Nat}:exitOk ds (.exit i) s K KP=False:=rfl
theorem runDefs_none {K:List Blk→Prop} {KP:Value→Prop} {hp:List Blk}:runDefs none [] hp K KP=K hp:=rfl
theorem runDefs_some {K:List Blk→Prop} {KP:Value→Prop} {hp:List Blk} {v:Value}:runDefs (some v) [] hp K KP=KP v:=rfl
theorem runDefs_cons {K:List Blk→Prop} {KP:Value→Prop} {hp:List Blk} {m:Option Value} {dc:DCon} {args:List AV}:runDefs m ((dc,args)::ds) hp K KP=match dc.run m args hp with
  | some hp'=>runDefs none ds hp' K KP
  | none=>False:=by cases m <;> rfl
theorem pureDefD (hg:g.good P) (hy:g.y=false) (hm:P.follows .mixedOrders=true) {Dl:List (FuncId×DCon)} (hD:DlOk P Dl) {f:FuncId} {fn:Func} {c:Code} (hf:P.funcs[f]?=some fn) (hb:fn.body=some c) (con:Con) (k:Nat) (hk:k≤fn.ntmps)
  (hok:codeOk' L g.ye fn.ntmps c=true)
  (h:∀ args,con.pre args→allLen args→args.length=k∧vcDefD P g fn.ntmps L Dl (fun ds e s=>exitOk ds e s (fun hp'=>retOk g fn ⟨s.e,hp'⟩ (con.val args)) fun _=>False) [] c ⟨argEnv 0 args,[]⟩ ⟨⟩):PureOk P f con :=
 pureOk_def (L:=L) hg hy hm hD hf hb con k hk hok h
theorem panDefD (hg:g.good P) (hy:g.y=false) (hm:P.follows .mixedOrders=true) {Dl:List (FuncId×DCon)} (hD:DlOk P Dl) {f:FuncId} {fn:Func} {c:Code} (hf:P.funcs[f]?=some fn) (hb:fn.body=some c) (con:PCon) (k:Nat) (hk:k≤fn.ntmps)
  (hok:codeOk' L g.ye fn.ntmps c=true)
  (h:∀ args,con.when args→allLen args→args.length=k∧vcDefD P g fn.ntmps L Dl (fun ds e s=>exitOk ds e s (fun hp'=>False) fun v=>v=con.what args) [] c ⟨argEnv 0 args,[]⟩ ⟨⟩):PanOk P f con :=
 panOk_def (L:=L) hg hy hm hD hf hb con k hk hok h
end
abbrev tI:Ty:=.int .i64
theorem ok_of_all {P:Program} {g:G} (h:∀ p∈g.τ,p.2.ok P p.1):G.ok P g:=by
 intro t d hl
 have:∀ l:List (TypeId×TD),look l t=some d→(t,d)∈l:=by
  intro l
  induction l with
  | nil=>intro h; simp [look] at h
  | cons p l ih =>
   intro h
   obtain ⟨k,x⟩:=p
   simp only [look] at h
   split at h
   ·
    rename_i e; subst e; injection h with h; subst h; exact .head _
   ·
    exact .tail _ (ih h)
 exact h _ (this _ hl)
def fieldsOf (P:Program) (t:TypeId):Array Field:=match P.underlying t with
 | some (.struct fs)=>fs
 | _=>#[]
theorem below_of_pure {x:SV} (n:Nat) (h:x.pure=true):x.below n=true:=by
 cases x <;> simp_all [SV.pure,SV.below]
theorem flats_below (t:Ty) (xs:List t.T) (n:Nat):(t.flats xs).all (fun x=>x.below n)=true:=by
 have h:=flats_pure t xs
 rw [List.all_eq_true] at h ⊢
 exact fun x hx=>below_of_pure n (h x hx)
theorem arr_below (al:Bool) (t:Ty) (xs:List t.T) (n:Nat):(Blk.arr al (t.flats xs)).below n=true:=flats_below t xs n
def Known (P:Program) (Γ:List (FuncId×Con)):Prop:=∀ f c,look Γ f=some c→(∀ (args:Array Value) (w:World),(callFunc f args).run P w=.ok (.enter f args) w)∧PureOk P f c
theorem Known.nil {P:Program}:Known P []:=fun f c h=>by simp [look] at h
theorem Known.cons {P:Program} {Γ:List (FuncId×Con)} {f:FuncId} {c:Con} (h1:∀ (args:Array Value) (w:World),(callFunc f args).run P w=.ok (.enter f args) w) (h2:PureOk P f c) (h:Known P Γ):Known P ((f,c)::Γ):=by
 intro f' c' hl
 simp only [look] at hl
 split at hl
 ·
  rename_i e; subst e; injection hl with hl; subst hl; exact ⟨h1,h2⟩
 ·
  exact h f' c' hl
def apV (Γ:List (FuncId×Con)) (f:FuncId) (caps:List (Sigma Ty.T)) (args:List AV):RV:=match look Γ f with
 | some c=>c.val (args++caps.map capAV)
 | none=>.v (.s .any)
def fnTo (Γ:List (FuncId×Con)) (t u:Ty) (f:FuncId) (caps:List (Sigma Ty.T)) (h:t.T→u.T) (D:t.T→Prop):Prop :=
 ∃ c,look Γ f=some c∧(∀ x,c.val (t.av x::caps.map capAV)=.v (u.av (h x)))∧∀ x,D x→c.pre (t.av x::caps.map capAV)
theorem of_av:∀ (t:Ty),t≠.nil→∀ x:t.T,t.of (t.av x)=some x
 | .int k,_,x=>by simp [Ty.av,Ty.of,Ty.nfld,Ty.parse]
 | .bool,_,x=>by simp [Ty.av,Ty.of,Ty.nfld,Ty.parse]
 | .str,_,x=>by simp [Ty.av,Ty.of,Ty.nfld,Ty.parse]
 | .slice t,_,x=>by simp [Ty.av,Ty.of,Ty.nfld,Ty.parse]
 | .nil,h,_=>absurd rfl h
 | .fn,_,x=>by simp [Ty.av,Ty.of,Ty.nfld,Ty.parse]
 | .tree h,_,x=>by
  have:=parses_flat (.tree h) x []
  simp only [List.append_nil] at this
  simp [Ty.av,Ty.of,Ty.nfld,this]
 | .cons t r,_,x=>by
  have:=parses_flat (.cons t r) x []
  simp only [List.append_nil] at this
  simp [Ty.av,Ty.of,Ty.nfld,this]
def apB (Γ:List (FuncId×Con)) (t:Ty) (f:FuncId) (caps:List (Sigma Ty.T)) (x:t.T):Bool:=(Ty.of .bool (apV Γ f caps [t.av x]).av).getD false
theorem apB_eq {Γ:List (FuncId×Con)} {t:Ty} {f:FuncId} {caps:List (Sigma Ty.T)} {h:t.T→Bool} {D:t.T→Prop} (hf:fnTo Γ t .bool f caps h D) (x:t.T):apB Γ t f caps x=h x:=by
 obtain ⟨c,h1,h2,_⟩:=hf
 unfold apB
 simp only [apV,h1,List.singleton_append,h2,RV.av,of_av .bool (by decide),Option.getD_some]
def idxOf {α:Type} (p:α→Bool) (xs:List α):Int:=match xs.findIdx? p with
 | some i=>i
 | none => -1
theorem idxOf_at {α:Type} {p:α→Bool} {xs:List α} {i:Nat} (hi:i<xs.length) (d:α) (h:p (xs[i]?.getD d)=true) (hno:∀ j,j<i→p (xs[j]?.getD d)=false):idxOf p xs=i:=by
 have:xs.findIdx? p=some i:=by
  rw [List.findIdx?_eq_some_iff_getElem]
  refine ⟨hi,by rw [getD_lt hi] at h; exact h,fun j hj => ?_⟩
  have:=hno j hj
  rw [getD_lt (by omega)] at this
  simp [this]
 simp [idxOf,this]
theorem idxOf_none {α:Type} {p:α→Bool} {xs:List α} (d:α) (hno:∀ j,j<xs.length→p (xs[j]?.getD d)=false):idxOf p xs = -1:=by
 have:xs.findIdx? p=none:=by
  rw [List.findIdx?_eq_none_iff]
  intro x hx
  obtain ⟨j,hj,rfl⟩:=List.mem_iff_getElem.1 hx
  have:=hno j hj
  rwa [getD_lt hj] at this
 simp [idxOf,this]
theorem idxOf_any {α:Type} (p:α→Bool) (xs:List α):decide (0≤idxOf p xs)=xs.any p:=by
 unfold idxOf
 rw [Bool.eq_iff_iff,decide_eq_true_eq,List.any_eq_true]
 cases h:xs.findIdx? p with
 | none =>
  rw [List.findIdx?_eq_none_iff] at h
  constructor
  ·
   intro h0; exact absurd h0 (by decide)
  ·
   rintro ⟨x,hx,hp⟩; rw [h x hx] at hp; cases hp
 | some i =>
  rw [List.findIdx?_eq_some_iff_getElem] at h
  obtain ⟨hi,hp,_⟩:=h
  constructor
  ·
   intro _; exact ⟨_,List.getElem_mem hi,hp⟩
  ·
   intro _; exact Int.natCast_nonneg i
theorem fnTo.mono {Γ:List (FuncId×Con)} {t u:Ty} {f:FuncId} {caps:List (Sigma Ty.T)} {h:t.T→u.T} {D D':t.T→Prop} (hf:fnTo Γ t u f caps h D) (hd:∀ x,D' x→D x):fnTo Γ t u f caps h D':=by
 obtain ⟨c,h1,h2,h3⟩:=hf
 exact ⟨c,h1,h2,fun x hx=>h3 x (hd x hx)⟩
theorem caps_all (caps:List (Sigma Ty.T)):(caps.map capAV).all AV.pure=true:=by
 rw [List.all_map,List.all_eq_true]; intro x _; rfl
theorem caps_all' (caps:List (Sigma Ty.T)):caps.all (AV.pure ∘ capAV)=true:=by
 rw [List.all_eq_true]; intro x _; rfl
theorem PureOk.of {P:Program} {f:FuncId} {con:Con} (h:∀ args,con.pre args→∃ con',PureOk P f con'∧con'.pre args∧con'.val args=con.val args):PureOk P f con:=by
 intro w M0 args vs hpre hM hargs
 obtain ⟨con',h1,h2,h3⟩:=h args hpre
 have:=h1 w M0 args vs h2 hM hargs
 rwa [h3] at this
theorem EffOk.of {P:Program} {f:FuncId} {con:ECon} (h:∀ args hp K,con.wp args hp K→∃ con',EffOk P f con'∧con'.wp args hp K):EffOk P f con:=by
 intro w M0 bs hp args vs K hpre hr hpure hargs
 obtain ⟨con',h1,h2⟩:=h args hp K hpre
 exact h1 w M0 bs hp args vs K h2 hr hpure hargs
def g1 (τ:List (TypeId×TD)) (f:FuncId) (c:Con):G:={ τ:=τ,Γ:=[(f,c)] }
theorem g1_good {P:Program} {τ:List (TypeId×TD)} {f:FuncId} {c:Con} (hτ:∀ g:G,g.τ=τ→G.ok P g) (h1:∀ (args:Array Value) (w:World),(callFunc f args).run P w=.ok (.enter f args) w) (h2:PureOk P f c):(g1 τ f c).good P :=
 good_of_all (hτ _ rfl) (fun p hp=>by simp only [g1,List.mem_singleton] at hp; subst hp; exact ⟨h1,h2⟩) (fun p hp=>by cases hp) (fun p hp=>by cases hp) (fun p hp=>by cases hp)
theorem g1_all {τ:List (TypeId×TD)} {f:FuncId} {c:Con}:(∀ t,(g1 τ f c).td t=(look τ t).getD .other)∧(g1 τ f c).y=false∧(g1 τ f c).Γ=[(f,c)]∧(g1 τ f c).E=[]∧(g1 τ f c).Pn=[]∧(g1 τ f c).E2=[]∧(g1 τ f c).fz=[]∧(g1 τ f c).te=false∧(g1 τ f c).bo=false∧(g1 τ f c).pm=false:=⟨fun _=>rfl,rfl,rfl,rfl,rfl,rfl,rfl,rfl,rfl,rfl⟩
def G.add (g:G) (f:FuncId) (c:Con):G:={ g with Γ:=(f,c)::g.Γ }
theorem add_all {g:G} {f:FuncId} {c:Con}:(∀ t,(g.add f c).td t=g.td t)∧(g.add f c).y=g.y∧(g.add f c).Γ=(f,c)::g.Γ∧(g.add f c).E=g.E∧(g.add f c).Pn=g.Pn∧(g.add f c).E2=g.E2∧(g.add f c).fz=g.fz∧(g.add f c).te=g.te∧(g.add f c).bo=g.bo∧(g.add f c).pm=g.pm:=⟨fun _=>rfl,rfl,rfl,rfl,rfl,rfl,rfl,rfl,rfl,rfl⟩
theorem add_good {P:Program} {g:G} {f:FuncId} {c:Con} (hg:g.good P) (h1:∀ (args:Array Value) (w:World),(callFunc f args).run P w=.ok (.enter f args) w) (h2:PureOk P f c):(g.add f c).good P :=
 ⟨hg.1,fun f' c' h=>by
  simp only [G.add,look] at h
  split at h
  ·
   rename_i e; subst e; injection h with h; subst h; exact ⟨h1,h2⟩
  ·
   exact hg.2.1 f' c' h,hg.2.2⟩
def G.add2 (g:G) (f:FuncId) (c:ECon2):G:={ g with E2:=(f,c)::g.E2 }
theorem add2_all {g:G} {f:FuncId} {c:ECon2}:(∀ t,(g.add2 f c).td t=g.td t)∧(g.add2 f c).y=g.y∧(g.add2 f c).Γ=g.Γ∧(g.add2 f c).E=g.E∧(g.add2 f c).Pn=g.Pn∧(g.add2 f c).E2=(f,c)::g.E2∧(g.add2 f c).fz=g.fz∧(g.add2 f c).te=g.te∧(g.add2 f c).bo=g.bo∧(g.add2 f c).pm=g.pm:=⟨fun _=>rfl,rfl,rfl,rfl,rfl,rfl,rfl,rfl,rfl,rfl⟩
theorem add2_good {P:Program} {g:G} {f:FuncId} {c:ECon2} (hg:g.good P) (h1:∀ (args:Array Value) (w:World),(callFunc f args).run P w=.ok (.enter f args) w) (h2:EffOk2 P f c):(g.add2 f c).good P :=
 ⟨hg.1,hg.2.1,hg.2.2.1,hg.2.2.2.1,fun f' c' h=>by
  simp only [G.add2,look] at h
  split at h
  ·
   rename_i e; subst e; injection h with h; subst h; exact ⟨h1,h2⟩
  ·
   exact hg.2.2.2.2 f' c' h⟩
theorem PureOk.never {P:Program} {f:FuncId} {con:Con} (h:∀ args,¬ con.pre args):PureOk P f con:=fun w M0 args vs hp=>absurd hp (h args)
def seqOf (It:List (FuncId×ItCon)) (f:FuncId) (caps:List (Sigma Ty.T)) (t:Ty) (xs:List t.T):Prop:=∃ ic,look It f=some ic∧ic.pre (caps.map capAV)∧ic.xs (caps.map capAV)=xs.map fun x=>[t.av x]
def KnownIt (P:Program) (It:List (FuncId×ItCon)):Prop:=∀ f ic,look It f=some ic→ItOk P f ic
theorem KnownIt.nil {P:Program}:KnownIt P []:=fun f c h=>by simp [look] at h
theorem KnownIt.cons {P:Program} {It:List (FuncId×ItCon)} {f:FuncId} {c:ItCon} (h2:ItOk P f c) (h:KnownIt P It):KnownIt P ((f,c)::It):=by
 intro f' c' hl
 simp only [look] at hl
 split at hl
 ·
  rename_i e; subst e; injection hl with hl; subst hl; exact h2
 ·
  exact h f' c' hl
theorem take_map_av {t:Ty} (xs:List t.T) (i:Nat) {args:List AV} (h:(xs.map fun x=>[t.av x])[i]?=some args):∃ hl:i<xs.length,args=[t.av xs[i]]:=by
 rw [List.getElem?_map] at h
 cases hx:xs[i]? with
 | none=>rw [hx] at h; cases h
 | some x=>rw [hx] at h; cases h; obtain ⟨h1,h2⟩:=List.getElem?_eq_some_iff.1 hx; exact ⟨h1,by rw [h2]⟩
theorem take_succ_get {α:Type} (xs:List α) {i:Nat} (hi:i<xs.length) (d:α):xs.take (i+1)=xs.take i++[xs[i]?.getD d]:=by
 rw [List.take_add_one,List.getElem?_eq_getElem hi]; rfl
theorem wrap_u8 {w:Int} (h:0≤w∧w≤255):IntKind.wrap .i64 w=w:=IntWalk.i64_in _ (by omega)
end Go.Am
namespace Go.Am
abbrev hV:Ty:=.cons tI (.cons tI (.cons .str .nil))
abbrev tV:Ty:=.tree hV
abbrev DV:=D (.tree hV)
def wK (x:DV):Int:=(hV.hd x).1
def wN (x:DV):Int:=(hV.hd x).2.1
def wS (x:DV):ByteArray:=(hV.hd x).2.2.1
def mkV (k n:Int) (s:ByteArray) (l:List DV):DV:=hV.mk (k,n,s,()) l
theorem wK_mk (k n:Int) (s:ByteArray) (l:List DV):wK (mkV k n s l)=k:=by unfold wK mkV; rw [hd_mk]
theorem wN_mk (k n:Int) (s:ByteArray) (l:List DV):wN (mkV k n s l)=n:=by unfold wN mkV; rw [hd_mk]
theorem wS_mk (k n:Int) (s:ByteArray) (l:List DV):wS (mkV k n s l)=s:=by unfold wS mkV; rw [hd_mk]
theorem wL_mk (k n:Int) (s:ByteArray) (l:List DV):(mkV k n s l).kids=l:=by unfold mkV; rw [kids_mk]
theorem mkV_eta (x:DV):mkV (wK x) (wN x) (wS x) x.kids=x:=mk_eta hV x
theorem dl_lt {t:Ty}:∀ (l:DL t) (y:D t),y∈l.to→SizeOf.sizeOf y<SizeOf.sizeOf l
 | .nil _,y,h=>by simp [DL.to] at h
 | .cons _ x l,y,h=>by
  simp only [DL.to,List.mem_cons] at h
  rcases h with rfl | h
  ·
   simp only [DL.cons.sizeOf_spec]; omega
  ·
   have:=dl_lt l y h
   simp only [DL.cons.sizeOf_spec]; omega
theorem kids_lt {h:Ty} {x y:D (.tree h)} (hy:y∈x.kids):SizeOf.sizeOf y<SizeOf.sizeOf x:=by
 cases x with
 | node h a l =>
  have:=dl_lt l y hy
  simp only [D.node.sizeOf_spec]
  omega
def depV (x:DV):Nat:=if wK x=3 then (x.kids.attach.map fun y=>depV y.1).foldr max 0+1 else 0
termination_by SizeOf.sizeOf x
decreasing_by exact kids_lt y.2
def maxL (l:List Nat):Nat:=l.foldr max 0
theorem depV_eq (x:DV):depV x=if wK x=3 then maxL (x.kids.map depV)+1 else 0:=by
 rw [depV,← List.attach_map_val (f:=depV)]
 rfl
theorem maxL_le {l:List Nat} {n:Nat}:maxL l≤n↔∀ x∈l,x≤n:=by
 induction l with
 | nil=>simp [maxL]
 | cons a l ih =>
  rw [maxL,List.foldr_cons,← maxL,Nat.max_le,ih]
  simp
theorem depV_kid {x y:DV} (h:wK x=3) (hy:y∈x.kids):depV y+1≤depV x:=by
 rw [depV_eq x,if_pos h]
 have:=(maxL_le (l:=x.kids.map depV)).1 (Nat.le_refl _) _ (List.mem_map_of_mem hy)
 omega
def formV (x:DV):Bool :=
 if wK x=1 then (decide ((wS x).data.toList=[])&&x.kids.isEmpty)
 else if wK x=2 then (decide (wN x=0)&&x.kids.isEmpty)
 else if wK x=3 then (x.kids.attach.all fun y=>formV y.1)&&(decide (wN x=0)&&decide ((wS x).data.toList=[]))
 else false
termination_by SizeOf.sizeOf x
decreasing_by exact kids_lt y.2
theorem formV_eq (x:DV):formV x=if wK x=1 then (decide ((wS x).data.toList=[])&&x.kids.isEmpty) else if wK x=2 then (decide (wN x=0)&&x.kids.isEmpty)
  else if wK x=3 then x.kids.all formV&&(decide (wN x=0)&&decide ((wS x).data.toList=[])) else false:=by
 rw [formV]
 have:(x.kids.attach.all fun y=>formV y.1)=x.kids.all formV:=by
  conv=>rhs; rw [← List.attach_map_subtype_val x.kids,List.all_map]
  rfl
 rw [this]
def numL (u:Nat):List Int:=if h:u<128 then [(u:Int)] else ((u % 128+128:Nat):Int)::numL (u / 128)
termination_by u
decreasing_by exact Nat.div_lt_self (by omega) (by decide)
def unsV (n:Int):Nat:=if 0≤n then 2*n.toNat else 2*(-n - 1).toNat+1
def encL (x:DV):List Int :=
 if wK x=1 then 1::numL (unsV (wN x))
 else if wK x=2 then 2::(numL (wS x).size++strL (wS x))
 else 3::(numL x.kids.length++x.kids.attach.flatMap fun y=>encL y.1)
termination_by SizeOf.sizeOf x
decreasing_by exact kids_lt y.2
theorem encL_eq (x:DV):encL x=if wK x=1 then 1::numL (unsV (wN x)) else if wK x=2 then 2::(numL (wS x).size++strL (wS x)) else 3::(numL x.kids.length++x.kids.flatMap encL):=by
 rw [encL]
 have:(x.kids.attach.flatMap fun y=>encL y.1)=x.kids.flatMap encL:=by
  conv=>rhs; rw [← List.attach_map_subtype_val x.kids,List.flatMap_map]
 rw [this]
theorem numL_small {u:Nat} (h:u<128):numL u=[(u:Int)]:=by rw [numL,dif_pos h]
theorem numL_great {u:Nat} (h:¬ u<128):numL u=((u % 128+128:Nat):Int)::numL (u / 128):=by rw [numL,dif_neg h]
theorem numL_len (k:Nat):∀ u,u<128 ^ (k+1)→(numL u).length≤k+1:=by
 induction k with
 | zero=>intro u h; rw [numL_small (by simpa using h)]; simp
 | succ k ih =>
  intro u h
  by_cases hu:u<128
  ·
   rw [numL_small hu]; simp
  ·
   rw [numL_great hu,List.length_cons]
   have:=ih (u / 128) (by rw [Nat.pow_succ] at h; exact Nat.div_lt_of_lt_mul (by rw [Nat.mul_comm]; exact h))
   omega
theorem numL_len64 {u:Nat} (h:u<18446744073709551616):(numL u).length≤10:=numL_len 9 u (by omega)
theorem numL_ok (u:Nat):∀ c∈numL u,0≤c∧c≤255:=by
 induction u using Nat.strongRecOn with
 | _ u ih =>
  intro c hc
  by_cases hu:u<128
  ·
   rw [numL_small hu,List.mem_singleton] at hc; omega
  ·
   rw [numL_great hu,List.mem_cons] at hc
   rcases hc with rfl | hc
   ·
    omega
   ·
    exact ih (u / 128) (Nat.div_lt_self (by omega) (by decide)) c hc
theorem unsV_lt {n:Int} (h : -9223372036854775808≤n∧n≤9223372036854775807):unsV n<18446744073709551616:=by
 unfold unsV
 split <;> omega
end Go.Am
namespace Go.Am
set_option maxHeartbeats 8000000
set_option maxRecDepth 20000
open Go.RowKit Go.Proofs Go.Proofs.Tryz
abbrev t32:Ty:=.int .u32
def w32 (x:Int):Int:=x % 4294967296
def andI (a b:Int):Int:=((a.toNat &&& b.toNat:Nat):Int)
def orW (a b:Int):Int:=((a.toNat ||| b.toNat:Nat):Int)
def xorI (a b:Int):Int:=((a.toNat ^^^ b.toNat:Nat):Int)
def in32 (x:Int):Prop:=0≤x∧x<4294967296
def in8 (x:Int):Prop:=0≤x∧x<256
theorem lt32 {a:Int} (h:in32 a):a.toNat<2 ^ 32:=by have:=h.1; have:=h.2; omega
theorem of32 {n:Nat} (h:n<2 ^ 32):in32 (n:Int):=⟨by omega,by omega⟩
theorem and_in {a b:Int} (hb:in32 b):in32 (andI a b):=of32 (Nat.and_lt_two_pow _ (lt32 hb))
theorem or_in {a b:Int} (ha:in32 a) (hb:in32 b):in32 (orW a b):=of32 (Nat.or_lt_two_pow (lt32 ha) (lt32 hb))
theorem xor_in {a b:Int} (ha:in32 a) (hb:in32 b):in32 (xorI a b):=of32 (Nat.xor_lt_two_pow (lt32 ha) (lt32 hb))
theorem w32_in (a:Int):in32 (w32 a):=by unfold w32 in32; omega
theorem shr_in {a:Int} (ha:in32 a) (n:Nat):in32 (a.fdiv (2 ^ n)):=by
 have h1:=ha.1
 have h2:=ha.2
 have hp:(0:Int)<2 ^ n:=Int.pow_pos (by decide)
 rw [Int.fdiv_eq_ediv_of_nonneg _ (Int.le_of_lt hp)]
 refine ⟨Int.ediv_nonneg h1 (Int.le_of_lt hp),?_⟩
 exact Int.lt_of_le_of_lt (Int.ediv_le_self _ h1) h2
def rorI (x k:Int):Int:=orW (x.fdiv (2 ^ k.toNat)) (w32 (x*2 ^ (32 - k).toNat))
theorem ror_in {x:Int} (h:in32 x) (k:Int):in32 (rorI x k):=or_in (shr_in h _) (w32_in _)
theorem or_comm' (a b:Int):orW a b=orW b a:=by unfold orW; rw [Nat.or_comm]
def rot3 (x a b c:Int):Int:=xorI (xorI (rorI x a) (rorI x b)) (rorI x c)
def sgm (x a b:Int) (n:Nat):Int:=xorI (xorI (rorI x a) (rorI x b)) (x.fdiv (2 ^ n))
def chI (e f g:Int):Int:=xorI (andI e f) (andI (4294967295 - e) g)
def majI (a b c:Int):Int:=xorI (xorI (andI a b) (andI a c)) (andI b c)
theorem ch_eq {e f g:Int} (he:in32 e) (hg:in32 g):xorI g (andI e (xorI f g))=chI e f g:=by
 have h1:=lt32 he
 have h2:=lt32 hg
 unfold chI xorI andI
 congr 1
 simp only [Int.toNat_natCast]
 rw [show (4294967295 - e).toNat=2 ^ 32 - (e.toNat+1) by have:=he.1; have:=he.2; omega]
 refine Nat.eq_of_testBit_eq fun i => ?_
 simp only [Nat.testBit_xor,Nat.testBit_and]
 rw [Nat.testBit_two_pow_sub_succ h1]
 by_cases hi:i<32
 ·
  rw [decide_eq_true hi]
  cases e.toNat.testBit i <;> cases f.toNat.testBit i <;> cases g.toNat.testBit i <;> rfl
 ·
  have:=Nat.testBit_lt_two_pow (x:=g.toNat) (i:=i) (Nat.lt_of_lt_of_le h2 (Nat.pow_le_pow_right (by decide) (by omega)))
  have h3:=Nat.testBit_lt_two_pow (x:=e.toNat) (i:=i) (Nat.lt_of_lt_of_le h1 (Nat.pow_le_pow_right (by decide) (by omega)))
  rw [this,h3]
  simp
theorem maj_eq (a b c:Int):orW (andI a b) (andI c (orW a b))=majI a b c:=by
 unfold majI xorI andI orW
 congr 1
 simp only [Int.toNat_natCast]
 refine Nat.eq_of_testBit_eq fun i => ?_
 simp only [Nat.testBit_xor,Nat.testBit_and,Nat.testBit_or]
 cases a.toNat.testBit i <;> cases b.toNat.testBit i <;> cases c.toNat.testBit i <;> rfl
theorem or_shl {a b:Nat} (i:Nat) (h:b<2 ^ i):a*2 ^ i ||| b=a*2 ^ i+b:=by
 rw [← Nat.shiftLeft_eq,Nat.shiftLeft_add_eq_or_of_lt h]
def wrd (m:List Int):Int:=m.getD 0 0*16777216+m.getD 1 0*65536+m.getD 2 0*256+m.getD 3 0
def wrds (m:List Int) (n:Nat):List Int:=(List.range n).map fun i=>wrd (m.drop (4*i))
theorem getD_in8 {m:List Int} (h:∀ x∈m,in8 x) (i:Nat):in8 (m.getD i 0):=by
 rw [List.getD_eq_getElem?_getD]
 cases q:m[i]? with
 | none=>exact ⟨by decide,by decide⟩
 | some x=>exact h x (List.mem_of_getElem? q)
theorem wrd_in {m:List Int} (h:∀ x∈m,in8 x):in32 (wrd m):=by
 have h0:=getD_in8 h 0
 have h1:=getD_in8 h 1
 have h2:=getD_in8 h 2
 have h3:=getD_in8 h 3
 unfold in8 at *
 unfold wrd in32
 omega
theorem wrd_take {m:List Int} (n:Nat) (h:4≤n):wrd (m.take n)=wrd m:=by
 unfold wrd
 simp only [List.getD_eq_getElem?_getD]
 rw [List.getElem?_take_of_lt (by omega),List.getElem?_take_of_lt (by omega),List.getElem?_take_of_lt (by omega),List.getElem?_take_of_lt (by omega)]
theorem wrds_succ (m:List Int) (n:Nat):wrds m (n+1)=wrds m n++[wrd (m.drop (4*n))]:=by
 unfold wrds
 rw [List.range_succ,List.map_append]
 rfl
theorem wrds_len (m:List Int) (n:Nat):(wrds m n).length=n:=by simp [wrds]
theorem wrds_in {m:List Int} (h:∀ x∈m,in8 x) (n:Nat):∀ x∈wrds m n,in32 x:=by
 intro x hx
 simp only [wrds,List.mem_map] at hx
 obtain ⟨i,_,rfl⟩:=hx
 exact wrd_in fun y hy=>h y (List.mem_of_mem_drop hy)
def nxtW (l:List Int):Int:=w32 (w32 (w32 (l.getD (l.length - 16) 0+sgm (l.getD (l.length - 15) 0) 7 18 3)+l.getD (l.length - 7) 0)+sgm (l.getD (l.length - 2) 0) 17 19 10)
def schW (l:List Int):Nat→List Int
 | 0=>l
 | n+1=>schW (l++[nxtW l]) n
structure S8 where
 (a b c d e f g h:Int)
def S8.ok (s:S8):Prop:=in32 s.a∧in32 s.b∧in32 s.c∧in32 s.d∧in32 s.e∧in32 s.f∧in32 s.g∧in32 s.h
def S8.list (s:S8):List Int:=[s.a,s.b,s.c,s.d,s.e,s.f,s.g,s.h]
def tt1 (s:S8) (k w:Int):Int:=w32 (w32 (w32 (w32 (s.h+rot3 s.e 6 11 25)+chI s.e s.f s.g)+k)+w)
def tt2 (s:S8):Int:=w32 (rot3 s.a 2 13 22+majI s.a s.b s.c)
def rnd (s:S8) (k w:Int):S8:=⟨w32 (tt1 s k w+tt2 s),s.a,s.b,s.c,w32 (s.d+tt1 s k w),s.e,s.f,s.g⟩
theorem rnd_ok {s:S8} (h:s.ok) (k w:Int):(rnd s k w).ok:=⟨w32_in _,h.1,h.2.1,h.2.2.1,w32_in _,h.2.2.2.2.1,h.2.2.2.2.2.1,h.2.2.2.2.2.2.1⟩
def rnds (s:S8):List (Int×Int)→S8
 | []=>s
 | (k,w)::r=>rnds (rnd s k w) r
def kNum:List Int:=[1116352408,1899447441,3049323471,3921009573,961987163,1508970993,2453635748,2870763221,3624381080,310598401,607225278,1426881987,1925078388,2162078206,2614888103,3248222580,3835390401,4022224774,264347078,604807628,770255983,1249150122,1555081692,1996064986,2554220882,2821834349,2952996808,3210313671,3336571891,3584528711,113926993,338241895,666307205,773529912,1294757372,1396182291,1695183700,1986661051,2177026350,2456956037,2730485921,2820302411,3259730800,3345764771,3516065817,3600352804,4094571909,275423344,430227734,506948616,659060556,883997877,958139571,1322822218,1537002063,1747873779,1955562222,2024104815,2227730452,2361852424,2428436474,2756734187,3204031479,3329325298]
def s0:S8:=⟨1779033703,3144134277,1013904242,2773480762,1359893119,2600822924,528734635,1541459225⟩
theorem s0_ok:s0.ok:=by unfold S8.ok in32 s0; decide
theorem kNum_len:kNum.length=64:=rfl
def add8 (s v:S8):S8:=⟨w32 (s.a+v.a),w32 (s.b+v.b),w32 (s.c+v.c),w32 (s.d+v.d),w32 (s.e+v.e),w32 (s.f+v.f),w32 (s.g+v.g),w32 (s.h+v.h)⟩
theorem add8_ok (s v:S8):(add8 s v).ok:=⟨w32_in _,w32_in _,w32_in _,w32_in _,w32_in _,w32_in _,w32_in _,w32_in _⟩
def schB (m:List Int):List Int:=schW (wrds m 16) 48
def blkS (s:S8) (m:List Int):S8:=add8 s (rnds s (kNum.zip (schB m)))
theorem blkS_ok (s:S8) (m:List Int):(blkS s m).ok:=add8_ok _ _
theorem blkS_take (s:S8) (m:List Int):blkS s (m.take 64)=blkS s m:=by
 have:wrds (m.take 64) 16=wrds m 16:=by
  unfold wrds
  refine List.map_congr_left fun i hi => ?_
  have:=List.mem_range.1 hi
  rw [List.drop_take,wrd_take _ (by omega)]
 unfold blkS schB
 rw [this]
def shaL (s:S8) (l:List Int):S8:=if h:l.length<64 then s else shaL (blkS s l) (l.drop 64)
 termination_by l.length
 decreasing_by rw [List.length_drop]; omega
theorem shaL_short {s:S8} {l:List Int} (h:l.length<64):shaL s l=s:=by rw [shaL,dif_pos h]
theorem shaL_step {s:S8} {l:List Int} (h:64≤l.length):shaL s l=shaL (blkS s l) (l.drop 64):=by rw [shaL,dif_neg (by omega)]
theorem shaL_step2 {s:S8} {l r:List Int} (h:64≤l.length):shaL s (l++r)=shaL (blkS s (l.take 64)) (l.drop 64++r):=by
 rw [shaL_step (by rw [List.length_append]; omega),List.drop_append_of_le_length h,← blkS_take s (l++r),List.take_append_of_le_length h]
def bytB (n:Nat) (v:Int):List Int:=(List.range n).map fun i=>(v.fdiv (2 ^ (8*(n - 1 - i)))) % 256
def shZ (n:Nat):Nat:=(119 - n % 64) % 64
def shPad (xs:List Int):List Int:=xs++([128]++List.replicate (shZ xs.length) 0)++bytB 8 ((xs.length:Int)*8)
def outB (s:S8):List Int:=s.list.flatMap (bytB 4)
def shaSum (xs:List Int):List Int:=outB (shaL s0 (shPad xs))
end Go.Am
