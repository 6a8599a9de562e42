/- Part 2 of the proof's base. -/
import Derived.Test.YtgnoaabcdccpoaaGreatDoorK1
set_option linter.all false
noncomputable section
namespace Go.Am
open Go.RowKit
def G.ok (P:Program) (g:G):Prop:=∀ t d,look g.τ t=some d→d.ok P t
theorem G.td_ok {P:Program} {g:G} (h:g.ok P) (t:TypeId):(g.td t).ok P t:=by
 unfold G.td
 cases hl:look g.τ t with
 | none=>exact trivial
 | some d=>exact h t d hl
section
variable {P:Program} {g:G} {w:World} {M:Nat→Prop} {bs:Bs} {hp:List Blk}
theorem relRV_av {x:RV} {v:Value} (h:relRV w M bs hp x v):relAV w M bs hp x.av v:=by
 cases x with
 | v x=>exact h
 | tup xs=>exact trivial
theorem coe_sound (hg:g.ok P) (t:TypeId) (x:RV) (v:Value) (h:relRV w M bs hp x v):relRV w M bs hp (coe g t x) v:=by
 unfold coe
 split
 ·
  have:=G.td_ok hg t
  split
  ·
   obtain rfl:v=.slice none 0 0:=h
   exact ⟨none,0,rfl,Nat.le_refl _,by simp [maxLen],fun _=>rfl,.inl rfl⟩
  ·
   exact h
 ·
  exact h
theorem relSV_av (t:Ty) (x:t.T) {cs:List Value} (h:rep w M t x cs) (h0:t.nfld≠0∨t.size=1):relAV w M bs hp (t.av x) (bndV t cs):=by
 cases t with
 | int k=>simp only [rep] at h; subst h; rfl
 | bool=>simp only [rep] at h; subst h; rfl
 | str=>simp only [rep] at h; subst h; rfl
 | slice t =>
  simp only [rep] at h
  obtain ⟨a,c,rfl,h1,h2,h3⟩:=h
  exact ⟨a,c,rfl,h1,h2,by simp,h3⟩
 | nil=>rcases h0 with h0 | h0 <;> simp [Ty.nfld] at h0
 | cons t r=>exact ⟨cs,rfl,rep_flat (.cons t r) x cs h⟩
 | tree t=>exact ⟨cs,rfl,rep_flat (.tree t) x cs h⟩
 | fn =>
  simp only [rep] at h
  obtain ⟨v,rfl,h1⟩:=h.fn_one
  exact h
theorem run_isAgg_sc {t:TypeId} {d:TypeDesc} (h:P.underlying t=some d) (hs:∀ fs,d≠.struct fs) (ha:∀ n e,d≠.array n e):(isAgg t).run P w=.ok false w:=by
 unfold isAgg
 simp only [run_underlying h,Sem.run_bind,Result.andThen_ok]
 cases d <;> first | rfl | exact absurd rfl (hs _) | exact absurd rfl (ha _ _)
theorem run_isAgg_struct {t:TypeId} {fs:Array Field} (h:P.underlying t=some (.struct fs)):(isAgg t).run P w=.ok true w:=by
 unfold isAgg
 simp only [run_underlying h,Sem.run_bind,Result.andThen_ok]
 rfl
theorem run_isAgg_arr {t:TypeId} {n:Nat} {e:TypeId} (h:P.underlying t=some (.array n e)):(isAgg t).run P w=.ok true w:=by
 unfold isAgg
 simp only [run_underlying h,Sem.run_bind,Result.andThen_ok]
 rfl
theorem run_sizeOf {t:TypeId} {n:Nat} (h:(P.info? t).map (fun i=>i.size)=some n):(sizeOf t).run P w=.ok n w:=by
 cases hi:P.info? t with
 | none=>simp [hi] at h
 | some i=>simp [hi] at h; simp [sizeOf,typeInfo,hi,go_sem,h]
theorem run_loadCellsFrom (b off:Nat):∀ (n i:Nat) (vs:List Value) (acc:Array Value),vs.length=n→(∀ j v,vs[j]?=some v→w.cell? ⟨b,off+(i+j),none⟩=some v) →
  (loadCellsFrom ⟨b,off,none⟩ i n acc).run P w=.ok (acc++vs.toArray) w:=by
 intro n
 induction n with
 | zero=>intro i vs acc hl _; have:vs=[]:=List.eq_nil_of_length_eq_zero hl; subst this; simp [loadCellsFrom]
 | succ n ih =>
  intro i vs acc hl hc
  cases vs with
  | nil=>simp at hl
  | cons v vs =>
   have h0:=hc 0 v rfl
   have hadd:(⟨b,off,none⟩:Addr).add i=⟨b,off+i,none⟩:=by unfold Addr.add; split <;> simp_all
   simp only [loadCellsFrom,Sem.run_bind,hadd]
   rw [show (load ⟨b,off+i,none⟩).run P w=.ok v w by simp [load,Sem.run]; simp at h0; rw [h0]]
   simp only [Result.andThen_ok]
   rw [ih (i+1) vs _ (by simpa using hl) (fun j u hj=>by have:=hc (j+1) u (by simpa using hj); rw [← this]; congr 2; omega)]
   simp
theorem run_loadVar_sc {t:TypeId} {b off:Nat} {v:Value} (ha:(isAgg t).run P w=.ok false w) (hc:w.cell? ⟨b,off,none⟩=some v) :
  (Instr.loadAt t (.pointer (some ⟨b,off,none⟩))).run P w=.ok v w:=by
 simp only [Instr.loadAt,Instr.sureAddr,loadVar,Sem.run_bind,ha,Result.andThen_ok,Sem.run_pure,Bool.false_eq_true,if_false]
 simp [load,Sem.run,hc]
theorem run_loadVar_agg {t:TypeId} {b off n:Nat} {cs:List Value} (ha:(isAgg t).run P w=.ok true w) (hn:(P.info? t).map (fun i=>i.size)=some n) (hl:cs.length=n) (hc:CellsAt w b off cs) :
  (Instr.loadAt t (.pointer (some ⟨b,off,none⟩))).run P w=.ok (.agg cs.toArray) w:=by
 simp only [Instr.loadAt,Instr.sureAddr,loadVar,Sem.run_bind,ha,Result.andThen_ok,Sem.run_pure,if_true,run_sizeOf hn,loadCells]
 rw [run_loadCellsFrom b off n 0 cs #[] hl (fun j v hj=>by simpa using hc j v hj)]
 simp
def CellsOf (w:World) (M:Nat→Prop) (bs:Bs) (hp:List Blk) (b:Nat) (cs:List SV):Prop :=
 ∃ cur e,w.heap[b]?=some (.cells cur e (0,0))∧∀ (j:Nat) (x:SV),cs[j]?=some x→∃ u,cur[j]?=some u∧u.oneCell'=true∧relSV w M bs hp x u
theorem look_cells {b:Nat} {cs:List SV} (hr:CellsOf w M bs hp b cs) {j:Nat} {x:SV} (hj:cs[j]?=some x) :
  ∃ u,w.cell? ⟨b,j,none⟩=some u∧u.oneCell'=true∧relSV w M bs hp x u:=by
 obtain ⟨cur,e,h1,h2⟩:=hr
 obtain ⟨u,h3,h4,h5⟩:=h2 j x hj
 exact ⟨u,by simp [World.cell?,h1,h3],h4,h5⟩
theorem take_cells {b:Nat} {cs:List SV} (hr:CellsOf w M bs hp b cs):∀ (n off:Nat),off+n≤cs.length →
  ∃ vs,vs.length=n∧CellsAt w b off vs∧All2 (fun x u=>relSV w M bs hp x u∧u.oneCell'=true) (takeAt cs off n) vs:=by
 intro n
 induction n with
 | zero=>intro off _; exact ⟨[],rfl,fun j v h=>by simp at h,by simp [takeAt]; exact .nil⟩
 | succ n ih =>
  intro off ho
  have hlt:off<cs.length:=by omega
  obtain ⟨u,h1,h2,h3⟩:=look_cells hr (List.getElem?_eq_getElem hlt)
  obtain ⟨vs,k1,k2,k3⟩:=ih (off+1) (by omega)
  refine ⟨u::vs,by simp [k1],?_,?_⟩
  ·
   intro j v hj
   cases j with
   | zero=>simp at hj; subst hj; exact h1
   | succ j=>have:=k2 j v (by simpa using hj); rw [← this]; congr 2; omega
  ·
   unfold takeAt at k3 ⊢
   rw [List.drop_eq_getElem_cons hlt,List.take_succ_cons]
   exact .cons ⟨h3,h2⟩ k3
theorem scalar_desc {ty:Ty} (h:ty.scalar=true):(∀ fs,ty.desc≠.struct fs)∧(∀ n e,ty.desc≠.array n e)∧ty.size=1:=by
 cases ty <;> simp_all [Ty.scalar,Ty.desc,Ty.size]
theorem loadCs_sound (hg:g.ok P) (t:TypeId) (b off:Nat) (cs:List SV) (hr:CellsOf w M bs hp b cs) (hs:(loadCs g t cs off).1) :
  ∃ u,(Instr.loadAt t (.pointer (some ⟨b,off,none⟩))).run P w=.ok u w∧relRV w M bs hp (loadCs g t cs off).2 u:=by
 have ht:=G.td_ok hg t
 unfold loadCs at hs ⊢
 cases htd:g.td t with
 | map k e kt vt=>simp [htd] at hs
 | other=>simp [htd] at hs
 | arr n e ety =>
  simp only [htd] at hs ht ⊢
  obtain ⟨h1,h2,h3⟩:=ht
  obtain ⟨vs,k1,k2,k3⟩:=take_cells hr (n*ety.size) off hs
  refine ⟨_,run_loadVar_agg (run_isAgg_arr h1) ?_ k1 k2,⟨vs,rfl,k3⟩⟩
  cases hi:P.info? t with
  | none=>simp [hi] at h3
  | some i=>simp [hi] at h3; simp [h3.1]
 | eqs ty=>simp [htd] at hs
 | struct ty =>
  simp only [htd] at hs ht ⊢
  obtain ⟨fs,h1,h2,h3,h4,h5⟩:=ht
  obtain ⟨vs,k1,k2,k3⟩:=take_cells hr ty.size off hs
  refine ⟨_,run_loadVar_agg (run_isAgg_struct h1) ?_ k1 k2,⟨vs,rfl,k3⟩⟩
  cases hi:P.info? t with
  | none=>simp [hi] at h5
  | some i=>simp [hi] at h5; simp [h5.1]
 | sc ty =>
  simp only [htd] at hs ht ⊢
  obtain ⟨h1,h2,h3,h4⟩:=ht
  obtain ⟨q1,q2,q3⟩:=scalar_desc h4
  obtain ⟨u,k1,k2,k3⟩:=look_cells hr (List.getElem?_eq_getElem hs)
  refine ⟨u,run_loadVar_sc (run_isAgg_sc h1 q1 q2) k1,?_⟩
  rw [List.getElem?_eq_getElem hs]
  exact k3
 | slice e ety bytes =>
  simp only [htd] at hs ht ⊢
  obtain ⟨u,k1,k2,k3⟩:=look_cells hr (List.getElem?_eq_getElem hs)
  refine ⟨u,run_loadVar_sc (run_isAgg_sc ht.1 (by simp) (by simp)) k1,?_⟩
  rw [List.getElem?_eq_getElem hs]
  exact k3
 | ptr =>
  simp only [htd] at hs ht ⊢
  obtain ⟨⟨el,h1⟩,h2⟩:=ht
  obtain ⟨u,k1,k2,k3⟩:=look_cells hr (List.getElem?_eq_getElem hs)
  refine ⟨u,run_loadVar_sc (run_isAgg_sc h1 (by simp) (by simp)) k1,?_⟩
  rw [List.getElem?_eq_getElem hs]
  exact k3
 | func =>
  simp only [htd] at hs ht ⊢
  obtain ⟨⟨ps,rs,vd,h1⟩,h2⟩:=ht
  obtain ⟨u,k1,k2,k3⟩:=look_cells hr (List.getElem?_eq_getElem hs)
  refine ⟨u,run_loadVar_sc (run_isAgg_sc h1 (by simp) (by simp)) k1,?_⟩
  rw [List.getElem?_eq_getElem hs]
  exact k3
theorem loadEv_sound {M0:Nat→Prop} (hg:g.ok P) (hr:HR w M0 bs hp) (t:TypeId) (x:AV) (v:Value) (hx:relAV w (Mof M0 bs) bs hp x v) (hs:(loadEv g hp t x).1) :
  ∃ u,(Instr.loadAt t v).run P w=.ok u w∧relRV w (Mof M0 bs) bs hp (loadEv g hp t x).2 u:=by
 have ht:=G.td_ok hg t
 unfold loadEv at hs ⊢
 split at hs
 ·
  rename_i ty x
  obtain ⟨b,off,cs,rfl,hm,hb,hrep,hc⟩:=hx
  have hlen:=rep_length ty x cs hrep
  cases htd:g.td t with
  | sc ty' =>
   simp only [htd] at hs ht ⊢
   subst hs
   obtain ⟨h1,h2,h3,h4⟩:=ht
   obtain ⟨q1,q2,q3⟩:=scalar_desc h4
   obtain ⟨u,rfl⟩:∃ u,cs=[u]:=by
    cases cs with
    | nil=>simp at hlen; omega
    | cons u r=>cases r with
     | nil=>exact ⟨u,rfl⟩
     | cons _ _=>simp at hlen; omega
   refine ⟨u,run_loadVar_sc (run_isAgg_sc h1 q1 q2) (by simpa using hc 0 u rfl),?_⟩
   have:=relSV_av (bs:=bs) (hp:=hp) ty x hrep (.inr q3)
   cases ty <;> simp_all [Ty.scalar] <;> exact this
  | slice e ety bytes =>
   simp only [htd] at hs ht ⊢
   subst hs
   simp only [rep] at hrep
   obtain ⟨a,c,rfl,r1,r2,r3⟩:=hrep
   exact ⟨_,run_loadVar_sc (run_isAgg_sc ht.1 (by simp) (by simp)) (by simpa using hc 0 _ rfl),⟨a,c,rfl,r1,r2,by simp,r3⟩⟩
  | func =>
   simp only [htd] at hs ht ⊢
   subst hs
   obtain ⟨⟨ps,rs,vd,h1⟩,h2⟩:=ht
   simp only [rep] at hrep
   obtain ⟨u,rfl,_⟩:=hrep.fn_one
   exact ⟨u,run_loadVar_sc (run_isAgg_sc h1 (by simp) (by simp)) (by simpa using hc 0 u rfl),hrep⟩
  | struct ty' =>
   simp only [htd] at hs ht ⊢
   obtain ⟨hsz,hn⟩:=hs
   obtain ⟨fs,h1,h2,h3,h4,h5⟩:=ht
   refine ⟨_,run_loadVar_agg (run_isAgg_struct h1) ?_ hlen hc,?_⟩
   ·
    cases hi:P.info? t with
    | none=>simp [hi] at h5
    | some i=>simp [hi] at h5; simp [h5.1,hsz]
   ·
    exact ⟨cs,rfl,rep_flat (bs:=bs) (hp:=hp) ty x cs hrep⟩
  | map k e kt vt=>simp [htd] at hs
  | other=>simp [htd] at hs
  | arr n e ety =>
   simp only [htd] at hs ht ⊢
   obtain ⟨h1,h2,h3⟩:=ht
   refine ⟨_,run_loadVar_agg (run_isAgg_arr h1) ?_ hlen hc,⟨cs,rfl,rep_flat (bs:=bs) (hp:=hp) ty x cs hrep⟩⟩
   cases hi:P.info? t with
   | none=>simp [hi] at h3
   | some i=>simp [hi] at h3; simp [h3.1,hs]
  | eqs ty=>simp [htd] at hs
  | ptr=>simp [htd] at hs
 ·
  rename_i id off
  obtain ⟨hid,hx⟩:=hx
  cases hl:Blk.look hp id with
  | cells cs =>
   obtain ⟨b,hb,rfl⟩:=hx cs hl
   simp only [hl] at hs ⊢
   obtain ⟨b',cur,e,h1,h2,h3,h4⟩:=hr.cells id cs hl
   rw [hb] at h1; cases h1
   exact loadCs_sound hg t b off cs ⟨cur,e,h2,h4⟩ hs
  | _=>simp [hl] at hs
 ·
  rename_i ty id n off
  cases hl:Blk.look hp id with
  | dead=>simp [hl] at hs
  | trace l' xs' i' st'=>simp [hl] at hs
  | map k v es=>simp [hl] at hs
  | cells cs=>simp [hl] at hs
  | arr al cs =>
   simp only [hl] at hs ⊢
   obtain ⟨b,hb,rfl⟩:=(hx.2 al cs hl).2 hs.1
   exact loadCs_sound hg t b off cs (hr.arr id al cs b hl hb) hs.2
 ·
  exact hs.elim
theorem arith_sound (k:IntKind) (n:Int) (h:(arith k n).1):relRV w M bs hp (arith k n).2 (.int k (k.wrap n)):=by
 cases k <;> simp only [arith] at h ⊢ <;> first | exact rfl | skip
 show Value.int _ _=Value.int _ _
 rw [IntWalk.i64_in n h]
theorem and_low (a:Int) (m:Nat) (hm:m≤62):((BitVec.ofInt 64 a &&& BitVec.ofInt 64 (2 ^ m - 1)).toNat:Int)=a % 2 ^ m:=by
 have h1:(2:Nat) ^ m≤2 ^ 62:=Nat.pow_le_pow_right (by decide) hm
 have h0:0<(2:Nat) ^ m:=Nat.pow_pos (by decide)
 have h2:(BitVec.ofInt 64 (2 ^ m - 1)).toNat=2 ^ m - 1:=by
  rw [BitVec.toNat_ofInt]
  have:((2:Int) ^ m)=((2 ^ m:Nat):Int):=by simp
  rw [this]
  generalize (2:Nat) ^ m=q at *
  simp only [Nat.reducePow]
  omega
 rw [BitVec.toNat_and,h2,Nat.and_two_pow_sub_one_eq_mod,BitVec.toNat_ofInt]
 have h3:((2:Int) ^ m)=((2 ^ m:Nat):Int):=by simp
 have h4:(0:Int)≤a % (2 ^ 64:Nat):=Int.emod_nonneg _ (by decide)
 rw [Int.natCast_emod,Int.toNat_of_nonneg h4,h3,Int.emod_emod_of_dvd]
 exact Int.natCast_dvd_natCast.2 (Nat.pow_dvd_pow 2 (by omega))
theorem or_add (a b:Int) (h0:0≤a) (h1:a≤9223372036854775807) (h2:0≤b) (h3:b<1073741824) (h4:a % 1073741824=0):((BitVec.ofInt 64 a ||| BitVec.ofInt 64 b).toNat:Int)=a+b:=by
 rw [BitVec.toNat_or,BitVec.toNat_ofInt,BitVec.toNat_ofInt]
 simp only [Nat.reducePow]
 obtain ⟨q,hq⟩:∃ q:Nat,a=((2 ^ 30*q:Nat):Int):=⟨(a / 1073741824).toNat,by simp only [Nat.reducePow]; omega⟩
 obtain ⟨c,rfl⟩:∃ c:Nat,b=c:=⟨b.toNat,by omega⟩
 rw [hq]
 rw [hq] at h1
 generalize he:2 ^ 30*q=e at *
 have e1:((e:Int) % (18446744073709551616:Nat)).toNat=e:=by omega
 have e2:((c:Int) % (18446744073709551616:Nat)).toNat=c:=by omega
 rw [e1,e2,← he,← Nat.two_pow_add_eq_or_of_lt (by simp only [Nat.reducePow]; omega)]
 omega
theorem bits_lt {k:IntKind} {a b:Int} {n:Nat} (h:(bitsEv k a b n).1):a.toNat<2 ^ k.bits∧b.toNat<2 ^ k.bits:=by
 obtain ⟨h1,h2,h3,h4⟩:=h
 cases k <;> simp only [utop] at h2 h4 <;> simp only [IntKind.bits,Nat.reducePow] <;> omega
theorem bits_run (op:BinOp) {k:IntKind} {a b:Int} {t:TypeId} (f:BitVec k.bits→BitVec k.bits→BitVec k.bits) {r:Nat→Nat→Nat}
  (hop:∀ x y:Int,(binOp op t (.int k x) (.int k y):Sem Value)=pure (.int k (k.wrap (f (BitVec.ofInt k.bits x) (BitVec.ofInt k.bits y)).toNat)))
  (hlt:∀ x y:Nat,x<2 ^ k.bits→y<2 ^ k.bits→r x y<2 ^ k.bits) (h0:0≤a) (h1:0≤b) (ha:a.toNat<2 ^ k.bits) (hb:b.toNat<2 ^ k.bits) (hs:k.signed=false)
  (hf:∀ x y:BitVec k.bits,(f x y).toNat=r x.toNat y.toNat):(binOp op t (.int k a) (.int k b)).run P w=.ok (.int k (r a.toNat b.toNat:Nat)) w:=by
 have e:∀ x:Int,0≤x→x.toNat<2 ^ k.bits→(BitVec.ofInt k.bits x).toNat=x.toNat:=fun x h0 h1=>by
  rw [BitVec.toNat_ofInt,Int.emod_eq_of_lt h0 (by omega)]
 rw [hop,hf,e a h0 ha,e b h1 hb]
 have:=hlt _ _ ha hb
 generalize r a.toNat b.toNat=q at *
 have hw:k.wrap (q:Int)=q:=by
  have h2:((2:Int) ^ k.bits)=((2 ^ k.bits:Nat):Int):=by simp
  simp only [IntKind.wrap,hs,Bool.false_and,Bool.false_eq_true,if_false,h2]
  exact Int.emod_eq_of_lt (by omega) (by omega)
 rw [hw]
 rfl
theorem intEv_sound (op:BinOp) (k k':IntKind) (a b:Int) (t:TypeId) (hk:k=k'∨isShift op=true) (h:(intEv op k a b).1):∃ u,(binOp op t (.int k a) (.int k' b)).run P w=.ok u w∧relRV w M bs hp (intEv op k a b).2 u:=by
 unfold intEv at h ⊢
 cases op <;> simp only [isShift,or_false,Bool.false_eq_true] at h hk ⊢ <;> (try subst hk)
 case add=>exact ⟨_,by simp [binOp,Op.intArith],arith_sound k _ h⟩
 case sub=>exact ⟨_,by simp [binOp,Op.intArith],arith_sound k _ h⟩
 case mul=>exact ⟨_,by simp [binOp,Op.intArith],arith_sound k _ h⟩
 case quo=>exact ⟨_,by simp [binOp,Op.intDiv,h.1],arith_sound k _ h.2⟩
 case rem=>exact ⟨_,by simp [binOp,Op.intDiv,h],rfl⟩
 case eql=>exact ⟨_,by simp [binOp,Op.intCmp],rfl⟩
 case neq=>exact ⟨_,by simp [binOp,Op.intCmp],rfl⟩
 case lss=>exact ⟨_,by simp [binOp,Op.intCmp],rfl⟩
 case leq=>exact ⟨_,by simp [binOp,Op.intCmp],rfl⟩
 case gtr=>exact ⟨_,by simp [binOp,Op.intCmp],rfl⟩
 case geq=>exact ⟨_,by simp [binOp,Op.intCmp],rfl⟩
 case shr =>
  have hb:min b.toNat k.bits=b.toNat:=by
   have:8≤k.bits:=by cases k <;> decide
   omega
  refine ⟨_,?_,rfl⟩
  simp [binOp,Op.shift,hb,show ¬ b<0 by omega]
 case shl =>
  have hb:min b.toNat k.bits=b.toNat:=by
   have:8≤k.bits:=by cases k <;> decide
   omega
  refine ⟨_,?_,arith_sound k _ h.2⟩
  simp [binOp,Op.shift,hb,show ¬ b<0 by omega]
 case xor =>
  have hx:∀ {k:IntKind} {n:Nat},(bitsEv k a b n).1→a.toNat<2 ^ k.bits→b.toNat<2 ^ k.bits→k.signed=false→(bitsEv k a b (a.toNat ^^^ b.toNat)).1→∃ u,(binOp .xor t (.int k a) (.int k b)).run P w=.ok u w∧relRV w M bs hp (bitsEv k a b (a.toNat ^^^ b.toNat)).2 u:=by
   intro k n h ha hb hs _
   refine ⟨_,?_,rfl⟩
   exact bits_run .xor (fun x y=>x ^^^ y) (fun x y=>by cases k <;> rfl) (fun x y hx hy=>Nat.xor_lt_two_pow hx hy) h.1 h.2.2.1 ha hb hs (fun x y=>BitVec.toNat_xor ..)
  unfold xorEv at h ⊢
  cases k <;> simp only at h ⊢ <;> first | exact h.elim | exact hx (n:=a.toNat ^^^ b.toNat) h (bits_lt h).1 (bits_lt h).2 rfl h
 case and =>
  have hx:∀ {k:IntKind},(bitsEv k a b (a.toNat &&& b.toNat)).1→a.toNat<2 ^ k.bits→b.toNat<2 ^ k.bits→k.signed=false→∃ u,(binOp .and t (.int k a) (.int k b)).run P w=.ok u w∧relRV w M bs hp (bitsEv k a b (a.toNat &&& b.toNat)).2 u:=by
   intro k h ha hb hs
   refine ⟨_,?_,rfl⟩
   exact bits_run .and (fun x y=>x &&& y) (fun x y=>by cases k <;> rfl) (fun x y hx hy=>Nat.and_lt_two_pow _ hy) h.1 h.2.2.1 ha hb hs (fun x y=>BitVec.toNat_and ..)
  unfold andEv at h ⊢
  split at h
  ·
   exact hx h (bits_lt h).1 (bits_lt h).2 rfl
  ·
   exact hx h (bits_lt h).1 (bits_lt h).2 rfl
  obtain ⟨hk,h⟩:=h
  have hw:∀ x:Int,0≤x→x<2147483648→k.wrap x=x:=fun x h0 h1=>by
   rcases hk with rfl | rfl
   ·
    exact IntWalk.i64_in _ (by omega)
   ·
    have:IntKind.u64.wrap x=x % 18446744073709551616:=rfl
    rw [this]; omega
  have hbits:k.bits=64:=by rcases hk with rfl | rfl <;> rfl
  have key:∀ m:Nat,m≤30→b=2 ^ m - 1→k.wrap ((BitVec.ofInt 64 a &&& BitVec.ofInt 64 b).toNat:Int)=a % (b+1):=by
   intro m hm hb
   subst hb
   rw [and_low a m (by omega),show (2:Int) ^ m - 1+1=2 ^ m by omega]
   have h1:(2:Nat) ^ m≤2 ^ 30:=Nat.pow_le_pow_right (by decide) hm
   have h0:0<(2:Nat) ^ m:=Nat.pow_pos (by decide)
   have h3:((2:Int) ^ m)=((2 ^ m:Nat):Int):=by simp
   rw [h3]
   generalize (2:Nat) ^ m=q at *
   have h4:(0:Int)≤a % (q:Int):=Int.emod_nonneg _ (by omega)
   have h5:a % (q:Int)<q:=Int.emod_lt_of_pos _ (by omega)
   simp only [Nat.reducePow] at h1
   exact hw _ h4 (by omega)
  refine ⟨.int k (a % (b+1)),?_,rfl⟩
  have:k.wrap ((BitVec.ofInt 64 a &&& BitVec.ofInt 64 b).toNat:Int)=a % (b+1):=by
   rcases h with rfl | rfl | rfl
   ·
    exact key 30 (by decide) (by decide)
   ·
    exact key 1 (by decide) (by decide)
   ·
    exact key 5 (by decide) (by decide)
  rw [← this]
  rcases hk with rfl | rfl <;> rfl
 case or =>
  have hx:∀ {k:IntKind},(bitsEv k a b (a.toNat ||| b.toNat)).1→a.toNat<2 ^ k.bits→b.toNat<2 ^ k.bits→k.signed=false→∃ u,(binOp .or t (.int k a) (.int k b)).run P w=.ok u w∧relRV w M bs hp (bitsEv k a b (a.toNat ||| b.toNat)).2 u:=by
   intro k h ha hb hs
   refine ⟨_,?_,rfl⟩
   exact bits_run .or (fun x y=>x ||| y) (fun x y=>by cases k <;> rfl) (fun x y hx hy=>Nat.or_lt_two_pow hx hy) h.1 h.2.2.1 ha hb hs (fun x y=>BitVec.toNat_or ..)
  unfold orEv at h ⊢
  split at h
  ·
   exact hx h (bits_lt h).1 (bits_lt h).2 rfl
  ·
   exact hx h (bits_lt h).1 (bits_lt h).2 rfl
  obtain ⟨rfl,h1,h2,h3,h4,h5⟩:=h
  refine ⟨.int .i64 (a+b),?_,rfl⟩
  have:IntKind.i64.wrap ((BitVec.ofInt 64 a ||| BitVec.ofInt 64 b).toNat:Int)=a+b:=by
   rw [or_add a b h1 h2 h3 h4 h5]
   exact IntWalk.i64_in _ (by omega)
  rw [← this]
  rfl
theorem td_bool (hg:g.ok P) {t:TypeId} (h:(g.td t).isBool=true):P.underlying t=some .bool:=by
 have:=G.td_ok hg t
 generalize g.td t=d at *
 cases d with
 | sc ty=>cases ty <;> first | exact this.1 | simp [TD.isBool] at h
 | _=>simp [TD.isBool] at h
theorem run_eqGuard_int (op:BinOp) (t:TypeId) (ox oy:Operand) (k k':IntKind) (a b:Int):(eqGuard op t ox oy (.int k a) (.int k' b)).run P w=.ok () w:=by
 unfold eqGuard
 cases op <;> simp
theorem run_eqGuard_bool (op:BinOp) (t:TypeId) (ox oy:Operand) (a b:Bool):(eqGuard op t ox oy (.bool a) (.bool b)).run P w=.ok () w:=by
 unfold eqGuard
 cases op <;> simp
theorem run_eqGuard_slice (op:BinOp) (t:TypeId) (ox oy:Operand) (a:Option Addr) (n c:Nat):(eqGuard op t ox oy (.slice a n c) (.slice none 0 0)).run P w=.ok () w:=by
 unfold eqGuard
 cases op <;> simp
theorem run_equal_nil {t e:TypeId} (ht:P.underlying t=some (.slice e)) (a:Option Addr) (n c:Nat):(Op.equal t (.slice a n c) (.slice none 0 0)).run P w=.ok a.isNone w:=by
 have key:∀ d:Nat,(Op.equalIn (d+1) t (.slice a n c) (.slice none 0 0)).run P w=.ok a.isNone w:=fun d=>by
  cases a <;> simp [Op.equalIn,Sem.run_bind,run_underlying ht]
 exact key 9999
theorem of_agg {t:Ty} {cs:List SV} {y:t.T} (h:t.of (.agg cs)=some y) {vs:List Value} (hvs:All2 (fun x u=>relSV w M bs hp x u∧u.oneCell'=true) cs vs):rep w M t y vs:=by
 by_cases h0:t.nfld=0
 ·
  simp [Ty.of,h0] at h
 ·
  simp only [Ty.of,h0,if_false] at h
  split at h
  ·
   rename_i z heq
   injection h with h
   subst h
   obtain ⟨c1,c2,hc,h1,h2⟩:=parse_rep t cs z [] vs heq (hvs.imp fun _ _ q=>q.1)
   cases h2
   simp at hc
   subst hc
   exact h1
  ·
   cases h
theorem binEv_sound (hg:g.ok P) (op:BinOp) (x y:AV) (v u:Value) (t:TypeId) (hx:relAV w M bs hp x v) (hy:relAV w M bs hp y u) (h:(binEv g op t x y).1) (ox oy:Operand) :
  ∃ z,(do eqGuard op t ox oy v u; binOp op t v u:Sem Value).run P w=.ok z w∧relRV w M bs hp (binEv g op t x y).2 z:=by
 unfold binEv at h ⊢
 split at h
 ·
  obtain rfl:v=.int _ _:=hx
  obtain rfl:u=.int _ _:=hy
  obtain ⟨hk,h⟩:=h
  obtain ⟨z,h1,h2⟩:=intEv_sound (P:=P) (w:=w) (M:=M) (bs:=bs) (hp:=hp) op _ _ _ _ t hk h
  refine ⟨z,?_,h2⟩
  rw [Sem.run_bind,run_eqGuard_int]
  exact h1
 ·
  obtain rfl:v=.bool _:=hx
  obtain rfl:u=.bool _:=hy
  cases op <;> simp only at h ⊢
  case eql=>exact ⟨_,by rw [Sem.run_bind,run_eqGuard_bool]; exact run_eql_bool (P:=P) w t _ _ (td_bool hg h),rfl⟩
  case neq =>
   refine ⟨_,?_,rfl⟩
   rw [Sem.run_bind,run_eqGuard_bool]
   have hq:=run_equal_bool (P:=P) w t ‹Bool› ‹Bool› (td_bool hg h)
   simp only [Result.andThen_ok,binOp,Sem.run_bind]
   rw [run_equal_bool (P:=P) w t _ _ (td_bool hg h)]
   rfl
  all_goals exact h.elim
 ·
  obtain rfl:v=.string _:=hx
  obtain rfl:u=.string _:=hy
  rename_i a b
  have eg:(eqGuard op t ox oy (.string a) (.string b)).run P w=.ok () w:=by
   unfold eqGuard
   cases op <;> simp
  have el:(a.toList==b.toList)=decide (a.data.toList=b.data.toList):=by
   rw [ByteArray.toList_eq,ByteArray.toList_eq]
   rw [Bool.eq_iff_iff,beq_iff_eq,decide_eq_true_eq]
  cases op <;> simp only at h ⊢
  case add =>
   refine ⟨.string (a++b),?_,rfl⟩
   rw [Sem.run_bind,eg]
   exact run_string_add_sum _ a b h
  case eql =>
   refine ⟨_,?_,rfl⟩
   rw [Sem.run_bind,eg]
   simp only [Result.andThen_ok,binOp_string_eql,Sem.run_pure,el]
  case neq =>
   refine ⟨_,?_,rfl⟩
   rw [Sem.run_bind,eg]
   simp only [Result.andThen_ok,binOp_string_neq,Sem.run_pure,el]
  all_goals exact h.elim
 ·
  obtain ⟨a,c,rfl,_,_,_,hrow⟩:=hx
  obtain rfl:u=.slice none 0 0:=hy
  have hnil:a.isNone=true→‹List _›=[]:=fun ha=>by
   rcases hrow with h1 | ⟨b,off,h1,_⟩
   ·
    exact h1
   ·
    rw [h1] at ha; cases ha
  have ht:=G.td_ok hg t
  split at h
  ·
   rename_i htd
   rw [htd] at ht
   refine ⟨.bool a.isNone,?_,a.isNone,rfl,hnil,fun _=>trivial⟩
   rw [Sem.run_bind,run_eqGuard_slice]
   simp only [Result.andThen_ok,binOp,Sem.run_bind,run_equal_nil ht.1,Sem.run_pure]
  ·
   rename_i htd
   rw [htd] at ht
   refine ⟨.bool (!a.isNone),?_,!a.isNone,rfl,fun _=>trivial,fun h=>hnil (by simpa using h)⟩
   rw [Sem.run_bind,run_eqGuard_slice]
   simp only [Result.andThen_ok,binOp,Sem.run_bind,run_equal_nil ht.1,Sem.run_pure]
  ·
   exact h.elim
 ·
  rename_i xs ys
  split at h
  ·
   rename_i ty htd
   have hok:=G.td_ok hg (t+1000000)
   rw [htd] at hok
   obtain ⟨_,hok⟩:=hok
   rw [Nat.add_sub_cancel] at hok
   split at h
   ·
    rename_i a b ha hb
    obtain ⟨vs,rfl,hvs⟩:=hx
    obtain ⟨us,rfl,hus⟩:=hy
    obtain ⟨e1,e2,e3⟩:=hok w M a b vs us (of_agg ha hvs) (of_agg hb hus) ox oy
    cases op <;> simp only at h ⊢
    case eql =>
     refine ⟨.bool (ty.beq a b),?_,rfl⟩
     rw [Sem.run_bind,e1]
     simp only [Result.andThen_ok,binOp,Sem.run_bind,e3,Sem.run_pure]
    case neq =>
     refine ⟨.bool (!ty.beq a b),?_,rfl⟩
     rw [Sem.run_bind,e2]
     simp only [Result.andThen_ok,binOp,Sem.run_bind,e3,Sem.run_pure]
   ·
    exact h.elim
  ·
   exact h.elim
 ·
  exact h.elim
theorem convEv_sound (hg:g.ok P) (s d:TypeId) (x:AV) (v:Value) (hx:relAV w M bs hp x v) (h:(convEv g s d x).1):∃ z,(convert s d v).run P w=.ok z w∧relRV w M bs hp (convEv g s d x).2 z:=by
 unfold convEv at h ⊢
 split at h
 ·
  rename_i k0 k k1 n e1 e2
  have h1:=G.td_ok hg s
  have h2:=G.td_ok hg d
  rw [e1] at h1; rw [e2] at h2
  have hv:v=.int k1 n:=hx
  subst hv
  exact ⟨.int k (k.wrap n),by simp only [convert,Sem.run_bind,run_underlying h1.1,run_underlying h2.1,Result.andThen_ok,Ty.desc,Conv.intToInt]; rfl,rfl⟩
 ·
  rename_i b e1 e2
  have h1:=G.td_ok hg s
  have h2:=G.td_ok hg d
  rw [e1] at h1; rw [e2] at h2
  have hv:v=.string b:=hx
  subst hv
  exact ⟨.string b,by simp only [convert,Sem.run_bind,run_underlying h1.1,run_underlying h2.1,Result.andThen_ok,Ty.desc]; rfl,rfl⟩
 ·
  rename_i e ety bytes xs ex e1 e2
  split at h
  ·
   rename_i e3
   have h1:=G.td_ok hg s
   have h2:=G.td_ok hg d
   have h3:=G.td_ok hg e
   rw [e1] at h1; rw [e2] at h2; rw [e3] at h3
   obtain ⟨a,c,rfl,_,_,_,hrow⟩:=hx
   refine ⟨.string (bytesS xs),?_,rfl⟩
   rw [run_convert_bytes_string w s d e a xs.length c h1.1 h3.1 h2.1]
   cases a with
   | none =>
    rcases hrow with rfl | ⟨b,off,h,_⟩
    ·
     simp [Conv.bytesToString,bytesS]
    ·
     cases h
   | some ad =>
    refine run_bytesToString w ad xs.length c xs ?_
    rcases hrow with rfl | ⟨b,off,h,_,_,hxs⟩
    ·
     simp [loadCells,loadCellsFrom]
    ·
     injection h with h
     subst h
     unfold loadCells
     rw [run_loadCellsFrom b off xs.length 0 (xs.map (Value.int .u8)) #[] (by simp) fun j v hj => ?_]
     ·
      simp
     ·
      rw [List.getElem?_map] at hj
      cases hx:xs[j]? with
      | none=>rw [hx] at hj; cases hj
      | some x =>
       rw [hx] at hj
       cases hj
       obtain ⟨cs,_,hr,hc⟩:=hxs j x hx
       simp only [rep] at hr
       subst hr
       have:=hc 0 _ rfl
       simpa [Ty.size] using this
  ·
   exact h.elim
 ·
  exact h.elim
theorem xor_i64 (n:Int) (h : -9223372036854775808≤n∧n≤9223372036854775807):IntKind.i64.wrap ((BitVec.ofInt 64 (-1) ^^^ BitVec.ofInt 64 n).toNat:Int) = -n - 1:=by
 have h1:BitVec.ofInt 64 (-1)=BitVec.allOnes 64:=by decide
 rw [h1,BitVec.allOnes_xor,BitVec.toNat_not,BitVec.toNat_ofInt,IntKind.wrap_i64]
 have h2:(0:Int)≤n % 18446744073709551616:=Int.emod_nonneg _ (by decide)
 have h3:n % 18446744073709551616<18446744073709551616:=Int.emod_lt_of_pos _ (by decide)
 simp only [Nat.reducePow]
 omega
theorem run_xor (n:Int) (h : -9223372036854775808≤n∧n≤9223372036854775807):(Op.unary .xor (.int .i64 n)).run P w=.ok (.int .i64 (-n - 1)) w:=by
 have:=xor_i64 n h
 simp only [Op.unary,Op.intBits,IntKind.signed,if_true]
 show Result.ok (Value.int IntKind.i64 _) w=_
 rw [← this]
 rfl
theorem unEv_sound (op:UnOp) (x:AV) (v:Value) (hx:relAV w M bs hp x v) (h:(unEv op x).1):∃ z,(Op.unary op v).run P w=.ok z w∧relRV w M bs hp (unEv op x).2 z:=by
 unfold unEv at h ⊢
 split at h
 ·
  obtain rfl:v=.bool _:=hx
  exact ⟨_,by simp [Op.unary],rfl⟩
 ·
  obtain ⟨b,rfl,h1,h2⟩:=hx
  exact ⟨_,by simp [Op.unary],!b,rfl,fun h=>h2 (by simpa using h),fun h=>h1 (by simpa using h)⟩
 ·
  obtain rfl:v=.int _ _:=hx
  refine ⟨_,by simp [Op.unary,Op.intArith]; rfl,?_⟩
  show Value.int _ _=Value.int _ _
  rw [IntWalk.i64_in _ h]
 ·
  obtain rfl:v=.int _ _:=hx
  exact ⟨_,run_xor _ h,rfl⟩
 ·
  obtain rfl:v=.int _ _:=hx
  rename_i n
  refine ⟨.int .u32 (4294967295 - n),?_,rfl⟩
  have:IntKind.u32.wrap ((BitVec.ofInt 32 4294967295 ^^^ BitVec.ofInt 32 n).toNat:Int)=4294967295 - n:=by
   rw [BitVec.toNat_xor,BitVec.toNat_ofInt,BitVec.toNat_ofInt]
   obtain ⟨m,rfl⟩:∃ m:Nat,n=m:=⟨n.toNat,by omega⟩
   have e1:((4294967295:Int) % (2 ^ 32:Nat)).toNat=2 ^ 32 - 1:=by decide
   have e2:((m:Int) % (2 ^ 32:Nat)).toNat=m:=by omega
   have e3:(2 ^ 32 - 1) ^^^ m=2 ^ 32 - 1 - m:=by
    apply Nat.eq_of_testBit_eq
    intro i
    rw [Nat.testBit_xor,Nat.testBit_two_pow_sub_one,Nat.sub_sub,Nat.add_comm 1 m,Nat.testBit_two_pow_sub_succ (by omega)]
    by_cases hi:i<32
    ·
     simp [hi]
    ·
     simp [hi,Nat.testBit_lt_two_pow (show m<2 ^ i from Nat.lt_of_lt_of_le (by omega) (Nat.pow_le_pow_right (by decide) (show 32≤i by omega)))]
   rw [e1,e2,e3]
   show (((2 ^ 32 - 1 - m:Nat):Int)) % _=_
   simp only [IntKind.bits]
   omega
  rw [← this]
  rfl
 ·
  exact h.elim
theorem pickEv_sound (c a b:AV) (vc va vb:Value) (hc:relAV w M bs hp c vc) (ha:relAV w M bs hp a va) (hb:relAV w M bs hp b vb) (h:(pickEv c a b).1) :
  ∃ q,vc=.bool q∧relRV w M bs hp (pickEv c a b).2 (if q then va else vb):=by
 unfold pickEv at h ⊢
 split at h
 ·
  obtain rfl:vc=.bool _:=hc
  obtain rfl:va=.bool _:=ha
  obtain rfl:vb=.bool _:=hb
  exact ⟨_,rfl,by simp only [relRV,relAV,relSV,Value.ite_bool]⟩
 ·
  obtain rfl:vc=.bool _:=hc
  simp only at h
  exact ⟨_,rfl,by rw [h]; exact hb⟩
 ·
  obtain rfl:vc=.bool _:=hc
  simp only at h
  exact ⟨_,rfl,by rw [h]; exact ha⟩
 ·
  exact h.elim
theorem parses_rows (t:Ty):∀ (n:Nat) (l:List SV) (xs:List t.T) (us:List Value),t.parses n l=some xs→All2 (relSV w M bs hp) l us →
  xs.length=n∧∀ i x,xs[i]?=some x→∃ cs,cs.length=t.size∧rep w M t x cs∧∀ j v,cs[j]?=some v→us[i*t.size+j]?=some v:=by
 intro n
 induction n with
 | zero =>
  intro l xs us h hu
  cases l <;> simp [Ty.parses] at h
  subst h
  exact ⟨rfl,fun i x hx=>by simp at hx⟩
 | succ n ih =>
  intro l xs us h hu
  simp only [Ty.parses] at h
  cases h1:t.parse l with
  | none=>simp [h1] at h
  | some p =>
   obtain ⟨x1,l1⟩:=p
   simp only [h1] at h
   cases h2:t.parses n l1 with
   | none=>simp [h2] at h
   | some xs1 =>
    simp [h2] at h
    subst h
    obtain ⟨c1,c2,rfl,k1,k2⟩:=parse_rep t l x1 l1 us h1 hu
    obtain ⟨e1,e2⟩:=ih l1 xs1 c2 h2 k2
    have hl1:=rep_length t x1 c1 k1
    refine ⟨by simp [e1],fun i x hx => ?_⟩
    cases i with
    | zero =>
     simp at hx; subst hx
     refine ⟨c1,hl1,k1,fun j v hj => ?_⟩
     rw [Nat.zero_mul,Nat.zero_add,List.getElem?_append_left]
     ·
      exact hj
     ·
      exact (List.getElem?_eq_some_iff.1 hj).1
    | succ i =>
     obtain ⟨cs,q1,q2,q3⟩:=e2 i x (by simpa using hx)
     refine ⟨cs,q1,q2,fun j v hj => ?_⟩
     rw [List.getElem?_append_right (by rw [hl1,Nat.succ_mul]; omega)]
     rw [← q3 j v hj]
     congr 1
     rw [hl1,Nat.succ_mul]; omega
theorem map_arr (a:Act) (xs:Array Operand):xs.map a.eval=(xs.toList.map a.eval).toArray:=by apply Array.ext'; simp
theorem rep_fld:∀ (t:Ty) (f:Nat) (x:t.T) (cs:List Value),f<t.nfld→rep w M t x cs→rep w M (t.fld f) (t.get x f) ((cs.drop (t.off f)).take (t.fld f).size)
 | .cons t r,0,x,cs,_,h=>by
  simp only [rep] at h
  obtain ⟨c1,c2,rfl,h1,h2⟩:=h
  have:=rep_length t _ _ h1
  simp [Ty.off,Ty.fld,Ty.get,← this,h1]
 | .cons t r,f+1,x,cs,hf,h=>by
  simp only [rep] at h
  obtain ⟨c1,c2,rfl,h1,h2⟩:=h
  have h3:=rep_fld r f x.2 c2 (by simpa [Ty.nfld] using hf) h2
  have:=rep_length t _ _ h1
  simp only [Ty.off,Ty.fld,Ty.get]
  rw [← this,List.drop_append,List.drop_of_length_le (by omega)]
  simpa using h3
 | .int _,_,_,_,h,_=>by simp [Ty.nfld] at h
 | .bool,_,_,_,h,_=>by simp [Ty.nfld] at h
 | .str,_,_,_,h,_=>by simp [Ty.nfld] at h
 | .slice _,_,_,_,h,_=>by simp [Ty.nfld] at h
 | .nil,_,_,_,h,_=>by simp [Ty.nfld] at h
 | .tree _,_,_,_,_,_=>by simp [Ty.off,Ty.fld,rep]
theorem fields_at {t:TypeId} {ty:Ty} (ht:TD.ok P t (.struct ty)) {f:Nat} (hf:f<ty.nfld) :
  ∃ (fs:Array Field) (fl:Field),P.underlying t=some (.struct fs)∧fs[f]?=some fl∧fl.offset=ty.off f∧(P.info? fl.type).map (fun i=>i.size)=ty.sizes[f]?∧(∀ n,ty.sizes[f]?=some n→0<n):=by
 obtain ⟨fs,h1,h2,h3,h4,h5⟩:=ht
 have hlen:fs.size=ty.nfld:=by have:=congrArg List.length h2; simpa [Ty.offs] using this
 refine ⟨fs,fs[f]'(by omega),h1,by simp [hlen,hf],?_,?_,fun n hn=>h4 n (List.mem_of_getElem? hn)⟩
 ·
  have:=congrArg (fun l=>l[f]?) h2
  simp [Ty.offs,hlen,hf] at this
  exact this
 ·
  have:=congrArg (fun l=>l[f]?) h3
  simp [hlen,hf] at this
  cases hs:ty.sizes[f]? with
  | none=>simp [hs] at this
  | some n=>simp [hs] at this; simpa using this
theorem sizes_fld:∀ (t:Ty) (f:Nat),f<t.nfld→t.sizes[f]?=some (t.fld f).size
 | .cons t r,0,_=>by simp [Ty.sizes,Ty.fld]
 | .cons t r,f+1,h=>by simpa [Ty.sizes,Ty.fld] using sizes_fld r f (by simpa [Ty.nfld] using h)
 | .int _,_,h=>by simp [Ty.nfld] at h
 | .bool,_,h=>by simp [Ty.nfld] at h
 | .str,_,h=>by simp [Ty.nfld] at h
 | .slice _,_,h=>by simp [Ty.nfld] at h
 | .nil,_,h=>by simp [Ty.nfld] at h
 | .tree _,f,h=>by
  obtain rfl:f=0:=by simpa [Ty.nfld] using h
  simp [Ty.sizes,Ty.fld]
theorem addr_add (b off n:Nat):(⟨b,off,none⟩:Addr).add n=⟨b,off+n,none⟩:=by unfold Addr.add; split <;> simp_all
theorem run_fieldAt {s:TypeId} {ty:Ty} (ht:TD.ok P s (.struct ty)) {f:Nat} (hf:f<ty.nfld) (b off:Nat) :
  (Instr.fieldAt s (.pointer (some ⟨b,off,none⟩)) f).run P w=.ok (.pointer (some ⟨b,off+ty.off f,none⟩)) w:=by
 obtain ⟨fs,fl,h1,h2,h3,h4,h5⟩:=fields_at ht hf
 rw [sizes_fld ty f hf] at h4 h5
 have h0:=h5 _ rfl
 simp only [Instr.fieldAt,Sem.run_bind,run_underlying h1,Result.andThen_ok,h2,Instr.sureAddr,Sem.run_pure,fieldPlace,run_sizeOf h4]
 rw [if_neg (by omega)]
 simp [addr_add,h3]
theorem fieldAddrEv_sound (hg:g.ok P) (s:TypeId) (x:AV) (f:Nat) (v:Value) (hx:relAV w M bs hp x v) (h:(fieldAddrEv g hp s x f).1) :
  ∃ z,(Instr.fieldAt s v f).run P w=.ok z w∧relRV w M bs hp (fieldAddrEv g hp s x f).2 z:=by
 have ht:=G.td_ok hg s
 unfold fieldAddrEv at h ⊢
 split at h
 ·
  rename_i ty ty' y htd
  rw [htd] at ht
  obtain ⟨rfl,hf⟩:=h
  obtain ⟨b,off,cs,rfl,hm,hb,hr,hc⟩:=hx
  refine ⟨_,run_fieldAt ht hf b off,?_⟩
  dsimp only
  refine ⟨b,_,_,rfl,hm,hb,rep_fld _ f _ cs hf (rep_un _ _ _ hr),?_⟩
  intro j v hj
  rw [List.getElem?_take] at hj
  split at hj
  ·
   rw [List.getElem?_drop] at hj
   have:=hc _ v hj
   rw [← this]; congr 2; omega
  ·
   cases hj
 ·
  rename_i ty id off htd
  rw [htd] at ht
  obtain ⟨hid,hx⟩:=hx
  cases hl:Blk.look hp id with
  | cells cs =>
   simp only [hl] at h ⊢
   obtain ⟨b,hb,rfl⟩:=hx cs hl
   exact ⟨_,run_fieldAt ht h b off,hid,fun _ _=>⟨b,hb,rfl⟩⟩
  | _=>simp [hl] at h
 ·
  rename_i ty t id n off htd
  rw [htd] at ht
  cases hl:Blk.look hp id with
  | dead=>simp [hl] at h
  | trace l' xs' i' st'=>simp [hl] at h
  | map k v es=>simp [hl] at h
  | cells cs=>simp [hl] at h
  | arr al cs =>
   simp only [hl] at h ⊢
   obtain ⟨h1,h2⟩:=h
   obtain ⟨hid,hx⟩:=hx
   obtain ⟨b,k1,rfl⟩:=(hx al cs hl).2 h1
   exact ⟨_,run_fieldAt ht h2 b off,hid,fun al cs hl'=>⟨(hx al cs hl').1,fun _=>⟨b,k1,rfl⟩⟩⟩
 ·
  exact h.elim
theorem indexAddrEv_sound {M0:Nat→Prop} (hr:HR w M0 bs hp) (hg:g.ok P) (t:TypeId) (x i:AV) (v u:Value) (hx:relAV w M bs hp x v) (hi:relAV w M bs hp i u) (h:(indexAddrEv g hp t x i).1) :
  ∃ z,(Instr.indexAt t v u).run P w=.ok z w∧relRV w M bs hp (indexAddrEv g hp t x i).2 z:=by
 have ht:=G.td_ok hg t
 unfold indexAddrEv at h ⊢
 split at h
 ·
  rename_i e ety bytes ty id n kk k htd
  rw [htd] at ht
  obtain rfl:u=.int _ _:=hi
  cases hl:Blk.look hp id with
  | dead=>simp [hl] at h
  | trace l' xs' i' st'=>simp [hl] at h
  | map k v es=>simp [hl] at h
  | cells cs=>simp [hl] at h
  | arr al cs =>
   simp only [hl] at h ⊢
   obtain ⟨rfl,rfl,h1,h2,h3⟩:=h
   obtain ⟨b,hb⟩:=hr.al id cs hl
   obtain ⟨hid,hx⟩:=hx
   rcases (hx true cs hl).2 h1 with ⟨b',cap,k1,rfl,k3,k4⟩ | ⟨k1,_⟩
   ·
    obtain ⟨hu,hsz,hinfo,_⟩:=ht
    have hs:(P.info? e).map (fun i=>i.size)=some ty.size:=by
     cases hi:P.info? e with
     | none=>simp [hi] at hinfo
     | some i=>simp [hi] at hinfo; simp [hinfo.1]
    refine ⟨.pointer (some ⟨b',k.toNat*ty.size,none⟩),?_,hid,fun al cs hl'=>⟨(hx al cs hl').1,fun _=>⟨b',k1,rfl⟩⟩⟩
    simp only [Instr.indexAt,asIntOf,Sem.run_bind,Sem.run_pure,Result.andThen_ok,run_underlying hu]
    rw [if_pos ⟨h2,h3⟩]
    simp only [Sem.run_bind,run_sizeOf hs,Result.andThen_ok,Sem.run_pure,addr_add,Nat.zero_add]
   ·
    rw [hb] at k1; cases k1
 ·
  rename_i n e ety id off kk k htd
  rw [htd] at ht
  obtain rfl:u=.int _ _:=hi
  cases hl:Blk.look hp id with
  | dead=>simp [hl] at h
  | trace l' xs' i' st'=>simp [hl] at h
  | map k v es=>simp [hl] at h
  | arr al cs=>simp [hl] at h
  | cells cs =>
   simp only [hl] at h ⊢
   obtain ⟨h2,h3⟩:=h
   obtain ⟨hid,hx⟩:=hx
   obtain ⟨b,hb,rfl⟩:=hx cs hl
   obtain ⟨hu,hs,_⟩:=ht
   refine ⟨.pointer (some ⟨b,off+k.toNat*ety.size,none⟩),?_,hid,fun cs' hl'=>⟨b,hb,rfl⟩⟩
   simp only [Instr.indexAt,asIntOf,Sem.run_bind,Sem.run_pure,Result.andThen_ok,run_underlying hu]
   rw [show (Instr.sureAddr (.pointer (some ⟨b,off,none⟩)):Sem Addr).run P w=.ok ⟨b,off,none⟩ w by simp [Instr.sureAddr]]
   simp only [Result.andThen_ok]
   rw [if_pos ⟨h2,h3⟩]
   simp only [Sem.run_bind,run_sizeOf hs,Result.andThen_ok,Sem.run_pure,addr_add]
 ·
  rename_i e ety bytes ty id n m kk k htd
  rw [htd] at ht
  obtain rfl:u=.int _ _:=hi
  cases hl:Blk.look hp id with
  | dead=>simp [hl] at h
  | trace l' xs' i' st'=>simp [hl] at h
  | map k v es=>simp [hl] at h
  | cells cs=>simp [hl] at h
  | arr al cs =>
   simp only [hl] at h ⊢
   obtain ⟨rfl,h1,h2,h3⟩:=h
   obtain ⟨hid,hmn,hx⟩:=hx
   obtain ⟨b',cap,k1,rfl,k3,k4⟩:=(hx al cs hl).2 h1
   obtain ⟨hu,hsz,hinfo,_⟩:=ht
   have hs:(P.info? e).map (fun i=>i.size)=some ty.size:=by
    cases hi:P.info? e with
    | none=>simp [hi] at hinfo
    | some i=>simp [hi] at hinfo; simp [hinfo.1]
   refine ⟨.pointer (some ⟨b',k.toNat*ty.size,none⟩),?_,hid,fun al cs hl'=>⟨(hx al cs hl').1,fun hh => ?_⟩⟩
   ·
    simp only [Instr.indexAt,asIntOf,Sem.run_bind,Sem.run_pure,Result.andThen_ok,run_underlying hu]
    rw [if_pos ⟨h2,h3⟩]
    simp only [Sem.run_bind,run_sizeOf hs,Result.andThen_ok,Sem.run_pure,addr_add,Nat.zero_add]
   ·
    exact ⟨b',k1,rfl⟩
 ·
  rename_i e ety bytes ty id off n cap kk k htd
  rw [htd] at ht
  obtain rfl:u=.int _ _:=hi
  cases hl:Blk.look hp id with
  | dead=>simp [hl] at h
  | trace l' xs' i' st'=>simp [hl] at h
  | map k v es=>simp [hl] at h
  | arr al cs=>simp [hl] at h
  | cells cs =>
   simp only [hl] at h ⊢
   obtain ⟨rfl,h2,h3⟩:=h
   obtain ⟨hid,hnc,hcm,ad,rfl,hx⟩:=hx
   obtain ⟨b,hb,ha⟩:=hx cs hl
   obtain rfl:=ha (by omega)
   obtain ⟨hu,hsz,hinfo,_⟩:=ht
   have hs:(P.info? e).map (fun i=>i.size)=some ty.size:=by
    cases hi:P.info? e with
    | none=>simp [hi] at hinfo
    | some i=>simp [hi] at hinfo; simp [hinfo.1]
   refine ⟨.pointer (some ⟨b,off+k.toNat*ty.size,none⟩),?_,hid,fun cs' hl'=>⟨b,hb,rfl⟩⟩
   simp only [Instr.indexAt,asIntOf,Sem.run_bind,Sem.run_pure,Result.andThen_ok,run_underlying hu]
   rw [if_pos ⟨h2,h3⟩]
   simp only [Sem.run_bind,run_sizeOf hs,Result.andThen_ok,Sem.run_pure,addr_add]
 ·
  rename_i n e ety ty y kk k htd
  rw [htd] at ht
  obtain rfl:u=.int _ _:=hi
  cases hps:ety.parses n (ty.flat y) with
  | none=>simp [hps] at h
  | some xs =>
   simp only [hps] at h ⊢
   obtain ⟨h2,h3⟩:=h
   obtain ⟨b,off,cs,rfl,hm,hb,hrep,hc⟩:=hx
   obtain ⟨hu,hs,_⟩:=ht
   obtain ⟨e1,e2⟩:=parses_rows ety n _ xs cs hps ((rep_flat (bs:=bs) (hp:=hp) ty y cs hrep).imp fun _ _ q=>q.1)
   have hlt:k.toNat<xs.length:=by omega
   obtain ⟨cs',r1,r2,r3⟩:=e2 k.toNat _ (List.getElem?_eq_getElem hlt)
   refine ⟨.pointer (some ⟨b,off+k.toNat*ety.size,none⟩),?_,?_⟩
   ·
    simp only [Instr.indexAt,asIntOf,Sem.run_bind,Sem.run_pure,Result.andThen_ok,run_underlying hu]
    rw [show (Instr.sureAddr (.pointer (some ⟨b,off,none⟩)):Sem Addr).run P w=.ok ⟨b,off,none⟩ w by simp [Instr.sureAddr]]
    simp only [Result.andThen_ok]
    rw [if_pos ⟨h2,h3⟩]
    simp only [Sem.run_bind,run_sizeOf hs,Result.andThen_ok,Sem.run_pure,addr_add]
   ·
    rw [List.getD_eq_getElem?_getD,List.getElem?_eq_getElem hlt]
    refine ⟨b,_,cs',rfl,hm,hb,r2,fun j v hj => ?_⟩
    have:=hc _ v (r3 j v hj)
    rw [← this]; congr 2; omega
 ·
  rename_i e ety bytes ty xs ex k n htd
  rw [htd] at ht
  obtain ⟨rfl,h0,h1⟩:=h
  obtain rfl:u=.int _ _:=hi
  obtain ⟨a,c,rfl,q1,q2,q3,q4⟩:=hx
  rcases q4 with rfl | ⟨b,off,rfl,hm,hb,he⟩
  ·
   simp at h1; omega
  ·
   have hlt:n.toNat<xs.length:=by omega
   obtain ⟨cs,r1,r2,r3⟩:=he n.toNat _ (List.getElem?_eq_getElem hlt)
   obtain ⟨hu,hsz,hinfo,_⟩:=ht
   have hs:(P.info? e).map (fun i=>i.size)=some ty.size:=by
    cases hi:P.info? e with
    | none=>simp [hi] at hinfo
    | some i=>simp [hi] at hinfo; simp [hinfo.1]
   refine ⟨.pointer (some ⟨b,off+n.toNat*ty.size,none⟩),?_,?_⟩
   ·
    simp only [Instr.indexAt,asIntOf,Sem.run_bind,Sem.run_pure,Result.andThen_ok,run_underlying hu]
    rw [if_pos ⟨h0,h1⟩]
    simp only [Sem.run_bind,run_sizeOf hs,Result.andThen_ok,Sem.run_pure,addr_add]
   ·
    dsimp only
    rw [List.getD_eq_getElem?_getD,List.getElem?_eq_getElem hlt]
    exact ⟨b,_,cs,rfl,hm,hb,r2,r3⟩
 ·
  exact h.elim
theorem run_sliceBound {n:Nat} {k:IntKind} {i:Int} (c:BoundsCode) (h0:0≤i) (h1:i≤n):(Instr.sliceBound (.int k i) n c).run P w=.ok i.toNat w:=by
 simp [Instr.sliceBound,asIntOf,h0,h1]
theorem bound_val {d n:Int} {o:Option Operand} {ρ:Operand→RV} {a:Act} (hρ:∀ x∈o.toList,relRV w M bs hp (ρ x) (a.eval x)) (h:bound d (o.map ρ)=some n) :
  (o=none∧n=d)∨∃ x k,o=some x∧a.eval x=.int k n:=by
 cases o with
 | none=>simp [bound] at h; exact .inl ⟨rfl,h.symm⟩
 | some x =>
  right
  have h1:=hρ x (by simp)
  simp only [Option.map_some,bound] at h
  split at h
  ·
   rename_i heq; cases heq
  ·
   rename_i k m heq
   injection heq with heq
   rw [heq] at h1
   injection h with h
   subst h
   exact ⟨x,k,rfl,h1⟩
  ·
   cases h
theorem RowAt_cut {t:Ty} {a:Option Addr} {xs:List t.T} (h:RowAt w M (fun x cs=>rep w M t x cs) t.size a xs) (l hh:Nat) (a':Option Addr) (ha:hh≠l→a'=a.map (·.add (l*t.size))) (hlh:l≤hh) (hl:hh≤xs.length) :
  RowAt w M (fun x cs=>rep w M t x cs) t.size a' ((xs.take hh).drop l):=by
 by_cases hne:hh=l
 ·
  left; subst hne; simp
 ·
  rcases h with rfl | ⟨b,off,rfl,hm,hb,he⟩
  ·
   simp at hl; omega
  ·
   right
   refine ⟨b,off+l*t.size,by rw [ha hne]; simp [addr_add],hm,hb,fun i x hi => ?_⟩
   rw [List.getElem?_drop,List.getElem?_take] at hi
   split at hi
   ·
    obtain ⟨cs,q1,q2,q3⟩:=he _ x hi
    refine ⟨cs,q1,q2,fun j v hj => ?_⟩
    have:=q3 j v hj
    rw [← this]; congr 2; rw [Nat.add_mul]; omega
   ·
    cases hi
theorem sliceEv_sound (hg:g.ok P) (t:TypeId) (x:AV) (v:Value) (hx:relAV w M bs hp x v) (lo hi mx:Option Operand) (ρ:Operand→RV) (a:Act)
  (h1:∀ x∈lo.toList,relRV w M bs hp (ρ x) (a.eval x)) (h2:∀ x∈hi.toList,relRV w M bs hp (ρ x) (a.eval x)) (h3:∀ x∈mx.toList,relRV w M bs hp (ρ x) (a.eval x))
  (h:(sliceEv g t x (lo.map ρ) (hi.map ρ) (mx.map ρ)).1) :
  ∃ z,(Instr.sliceAt t v (lo.map a.eval) (hi.map a.eval) (mx.map a.eval)).run P w=.ok z w∧relRV w M bs hp (sliceEv g t x (lo.map ρ) (hi.map ρ) (mx.map ρ)).2 z:=by
 have ht:=G.td_ok hg t
 unfold sliceEv at h ⊢
 split at h
 ·
  rename_i e ety bytes ty xs ex htd
  rw [htd] at ht
  obtain ⟨ad,c,rfl,q1,q2,q3,q4⟩:=hx
  obtain ⟨hu,hsz,hinfo,_⟩:=ht
  split at h
  ·
   rename_i l hh m e1 e2 e3
   obtain ⟨rfl,k1,k2,k3,k4,hm⟩:=h
   simp only [Option.isSome_map] at hm
   have hs:(P.info? e).map (fun i=>i.size)=some ty.size:=by
    cases hi:P.info? e with
    | none=>simp [hi] at hinfo
    | some i=>simp [hi] at hinfo; simp [hinfo.1]
   have b1:=bound_val h1 e1
   have b2:=bound_val h2 e2
   have b3:=bound_val h3 e3
   obtain ⟨mc,hmc,hmx⟩:∃ mc:Nat,(mx=none∧mc=c∨mx.isSome=true∧(mc:Int)=m) ∧
     (Instr.sliceBounds true xs.length c (lo.map a.eval) (hi.map a.eval) (mx.map a.eval)).run P w=.ok (l.toNat,hh.toNat,mc) w:=by
    rcases b3 with ⟨rfl,rfl⟩ | ⟨ox,k,rfl,hv⟩
    ·
     refine ⟨c,.inl ⟨rfl,rfl⟩,?_⟩
     rcases b2 with ⟨rfl,rfl⟩ | ⟨oh,kh,rfl,hv2⟩ <;> rcases b1 with ⟨rfl,rfl⟩ | ⟨ol,kl,rfl,hv1⟩
     ·
      simp [Instr.sliceBounds]
     ·
      simp [Instr.sliceBounds,hv1,run_sliceBound (P:=P) (w:=w) (n:=xs.length) _ k1 k2]
     ·
      simp [Instr.sliceBounds,hv2,run_sliceBound (P:=P) (w:=w) (n:=c) (i:=hh) _ (by omega) (by omega)]
     ·
      simp [Instr.sliceBounds,hv1,hv2,Sem.run_bind,run_sliceBound (P:=P) (w:=w) (n:=c) (i:=hh) _ (by omega) (by omega),
       run_sliceBound (P:=P) (w:=w) (n:=hh.toNat) (i:=l) _ k1 (by omega)]
    ·
     refine ⟨m.toNat,.inr ⟨rfl,by omega⟩,?_⟩
     rcases b2 with ⟨rfl,rfl⟩ | ⟨oh,kh,rfl,hv2⟩
     ·
      simp at hm
     ·
      rcases b1 with ⟨rfl,rfl⟩ | ⟨ol,kl,rfl,hv1⟩
      ·
       simp [Instr.sliceBounds,hv,hv2,Sem.run_bind,run_sliceBound (P:=P) (w:=w) (n:=c) (i:=m) _ (by omega) (by omega),run_sliceBound (P:=P) (w:=w) (n:=m.toNat) (i:=hh) _ (by omega) (by omega)]
      ·
       simp [Instr.sliceBounds,hv,hv1,hv2,Sem.run_bind,run_sliceBound (P:=P) (w:=w) (n:=c) (i:=m) _ (by omega) (by omega),run_sliceBound (P:=P) (w:=w) (n:=m.toNat) (i:=hh) _ (by omega) (by omega),
        run_sliceBound (P:=P) (w:=w) (n:=hh.toNat) (i:=l) _ k1 (by omega)]
   refine ⟨.slice (if mc=l.toNat then ad else ad.map (·.add (l.toNat*ty.size))) (hh.toNat - l.toNat) (mc - l.toNat),?_,?_⟩
   ·
    simp only [Instr.sliceAt,Instr.slice,Sem.run_bind,run_underlying hu,Result.andThen_ok,hmx,run_sizeOf hs,Sem.run_pure]
   ·
    have hlen:((xs.take hh.toNat).drop l.toNat).length=hh.toNat - l.toNat:=by simp; omega
    refine ⟨_,mc - l.toNat,by rw [hlen],by rw [hlen]; rcases hmc with ⟨_,rfl⟩ | ⟨_,e⟩ <;> omega,by rcases hmc with ⟨_,rfl⟩ | ⟨_,e⟩ <;> omega,?_,?_⟩
    ·
     intro hex
     simp at hex
     rw [hlen]
     rcases hmc with ⟨rfl,rfl⟩ | ⟨hms,e⟩
     ·
      simp at hex
      obtain ⟨rfl,rfl⟩:=hex
      have:=q3 rfl
      simp at this
      try simp at k4
      try simp at k3
      omega
     ·
      rcases hex with hex | hex
      ·
       omega
      ·
       rw [hex.2] at hms; simp at hms
    ·
     refine RowAt_cut q4 _ _ _ (fun hne => ?_) (by omega) (by omega)
     rw [if_neg]
     rcases hmc with ⟨_,rfl⟩ | ⟨_,e⟩ <;> omega
  ·
   exact h.elim
 ·
  rename_i s htd
  rw [htd] at ht
  have hu:P.underlying t=some .string:=ht.1
  obtain rfl:v=.string s:=hx
  split at h
  ·
   rename_i l hh e1 e2 e3
   obtain ⟨k1,k2,k3⟩:=h
   have hmx:mx=none:=by cases mx with | none=>rfl | some _=>cases e3
   subst hmx
   have b1:=bound_val h1 e1
   have b2:=bound_val h2 e2
   have hb:(Instr.sliceBounds false s.size s.size (lo.map a.eval) (hi.map a.eval) none).run P w=.ok (l.toNat,hh.toNat,s.size) w:=by
    rcases b2 with ⟨rfl,rfl⟩ | ⟨oh,kh,rfl,hv2⟩ <;> rcases b1 with ⟨rfl,rfl⟩ | ⟨ol,kl,rfl,hv1⟩
    ·
     simp [Instr.sliceBounds]
    ·
     simp [Instr.sliceBounds,hv1,run_sliceBound (P:=P) (w:=w) (n:=s.size) _ k1 k2]
    ·
     simp [Instr.sliceBounds,hv2,run_sliceBound (P:=P) (w:=w) (n:=s.size) (i:=hh) _ (by omega) (by omega)]
    ·
     simp [Instr.sliceBounds,hv1,hv2,Sem.run_bind,run_sliceBound (P:=P) (w:=w) (n:=s.size) (i:=hh) _ (by omega) (by omega),
      run_sliceBound (P:=P) (w:=w) (n:=hh.toNat) (i:=l) _ k1 (by omega)]
   refine ⟨.string (s.extract l.toNat hh.toNat),?_,rfl⟩
   simp only [Instr.sliceAt,Instr.slice,Sem.run_bind,run_underlying hu,Result.andThen_ok,Option.map_none,hb,Option.isSome_none,Bool.false_eq_true,if_false,Sem.run_pure]
  ·
   exact h.elim
 ·
  exact h.elim
theorem sliceOwn_sound (hg:g.ok P) (t:TypeId) (ty:Ty) (id n m:Nat) (v:Value) (lo hi mx:Option Operand) (ρ:Operand→RV) (a:Act)
  (hx:∀ al cs,al=true→Blk.look hp id=.arr al cs→cs.length=n*ty.size→id<hp.length∧∃ b cap,bs.at id=some b∧v=.slice (some ⟨b,0,none⟩) m cap∧n≤cap∧OwnAt w b cap ty.size)
  (h1:∀ x∈lo.toList,relRV w M bs hp (ρ x) (a.eval x)) (h2:∀ x∈hi.toList,relRV w M bs hp (ρ x) (a.eval x))
  (h:(sliceOwnEv g hp t ty id n m (lo.map ρ) (hi.map ρ) (mx.map ρ)).1) :
  ∃ z,(Instr.sliceAt t v (lo.map a.eval) (hi.map a.eval) (mx.map a.eval)).run P w=.ok z w∧relRV w M bs hp (sliceOwnEv g hp t ty id n m (lo.map ρ) (hi.map ρ) (mx.map ρ)).2 z:=by
 have ht:=G.td_ok hg t
 unfold sliceOwnEv at h ⊢
 split at h
 ·
  rename_i e ety bytes htd
  rw [htd] at ht
  split at h
  ·
   rename_i al cs hl
   split at h
   ·
    rename_i l hh e1 e2 e3
    obtain ⟨rfl,rfl,k0,rfl,k2,k3,k4⟩:=h
    obtain ⟨hid,b,cap,g1,rfl,g3,g4⟩:=hx true cs rfl hl k0
    obtain ⟨hu,hsz,hinfo,_⟩:=ht
    have hs:(P.info? e).map (fun i=>i.size)=some ty.size:=by
     cases hi:P.info? e with
     | none=>simp [hi] at hinfo
     | some i=>simp [hi] at hinfo; simp [hinfo.1]
    have b1:=bound_val h1 e1
    have b2:=bound_val h2 e2
    obtain rfl:mx=none:=by cases mx <;> simp at e3 ⊢
    have hmx:(Instr.sliceBounds true m cap (lo.map a.eval) (hi.map a.eval) none).run P w=.ok (0,hh.toNat,cap) w:=by
     rcases b2 with ⟨rfl,rfl⟩ | ⟨oh,kh,rfl,hv2⟩ <;> rcases b1 with ⟨rfl,_⟩ | ⟨ol,kl,rfl,hv1⟩
     ·
      simp [Instr.sliceBounds]
     ·
      simp [Instr.sliceBounds,hv1,run_sliceBound (P:=P) (w:=w) (n:=m) (i:=0) _ (by omega) (by omega)]
     ·
      simp [Instr.sliceBounds,hv2,run_sliceBound (P:=P) (w:=w) (n:=cap) (i:=hh) _ (by omega) (by omega)]
     ·
      simp [Instr.sliceBounds,hv1,hv2,Sem.run_bind,run_sliceBound (P:=P) (w:=w) (n:=cap) (i:=hh) _ (by omega) (by omega),run_sliceBound (P:=P) (w:=w) (n:=hh.toNat) (i:=0) _ (by omega) (by omega)]
    refine ⟨.slice (if cap=0 then some ⟨b,0,none⟩ else (some (⟨b,0,none⟩:Addr)).map (·.add (0*ty.size))) (hh.toNat - 0) (cap - 0),?_,?_⟩
    ·
     simp only [Instr.sliceAt,Instr.slice,Sem.run_bind,run_underlying hu,Result.andThen_ok,hmx,Option.map_none,run_sizeOf hs,Sem.run_pure]
    ·
     refine ⟨hid,by omega,fun al' cs' hl' => ?_⟩
     rw [hl] at hl'
     injection hl' with _ hl'
     subst hl'
     refine ⟨by omega,fun _=>⟨b,cap,g1,?_,g3,g4⟩⟩
     congr 1
     split
     ·
      rfl
     ·
      simp [addr_add]
   ·
    exact h.elim
  ·
   exact h.elim
 ·
  exact h.elim
theorem sliceSuf_sound (hg:g.ok P) (t:TypeId) (ty:Ty) (id n:Nat) (v:Value) (lo mx:Option Operand) (ρ:Operand→RV) (a:Act)
  (hx:∀ al cs,al=true→Blk.look hp id=.arr al cs→cs.length=n*ty.size→id<hp.length∧∃ b cap,bs.at id=some b∧v=.slice (some ⟨b,0,none⟩) n cap∧n≤cap∧OwnAt w b cap ty.size)
  (h1:∀ x∈lo.toList,relRV w M bs hp (ρ x) (a.eval x))
  (h:(sliceSufEv g hp t ty id n (lo.map ρ) (mx.map ρ)).1) :
  ∃ z,(Instr.sliceAt t v (lo.map a.eval) none (mx.map a.eval)).run P w=.ok z w∧relRV w M bs hp (sliceSufEv g hp t ty id n (lo.map ρ) (mx.map ρ)).2 z:=by
 have ht:=G.td_ok hg t
 unfold sliceSufEv at h ⊢
 split at h
 ·
  rename_i e ety bytes htd
  rw [htd] at ht
  split at h
  ·
   rename_i al cs hl
   split at h
   ·
    rename_i l e1 e3
    obtain ⟨rfl,rfl,k0,k2,k3⟩:=h
    obtain ⟨hid,b,cap,g1,rfl,g3,g4⟩:=hx true cs rfl hl k0
    obtain ⟨hu,hsz,hinfo,_⟩:=ht
    have hs:(P.info? e).map (fun i=>i.size)=some ty.size:=by
     cases hi:P.info? e with
     | none=>simp [hi] at hinfo
     | some i=>simp [hi] at hinfo; simp [hinfo.1]
    have b1:=bound_val h1 e1
    obtain rfl:mx=none:=by cases mx <;> simp at e3 ⊢
    have hmx:(Instr.sliceBounds true n cap (lo.map a.eval) none none).run P w=.ok (l.toNat,n,cap) w:=by
     rcases b1 with ⟨rfl,rfl⟩ | ⟨ol,kl,rfl,hv1⟩
     ·
      simp [Instr.sliceBounds]
     ·
      simp [Instr.sliceBounds,hv1,run_sliceBound (P:=P) (w:=w) (n:=n) (i:=l) _ k2 k3]
    refine ⟨.slice (if cap=l.toNat then some ⟨b,0,none⟩ else (some (⟨b,0,none⟩:Addr)).map (·.add (l.toNat*ty.size))) (n - l.toNat) (cap - l.toNat),?_,?_⟩
    ·
     simp only [Instr.sliceAt,Instr.slice,Sem.run_bind,run_underlying hu,Result.andThen_ok,hmx,Option.map_none,run_sizeOf hs,Sem.run_pure]
    ·
     refine ⟨hid,by omega,fun al' cs' hl' => ?_⟩
     rw [hl] at hl'
     injection hl' with _ hl'
     subst hl'
     refine ⟨by omega,fun _=>⟨b,cap,_,g1,rfl,fun hlt => ?_,g3,g4⟩⟩
     rw [if_neg (by omega)]
     simp [addr_add]
   ·
    exact h.elim
  ·
   exact h.elim
 ·
  exact h.elim
theorem bounds_run {isS:Bool} {n c:Nat} {l hh m:Int} {lo hi mx:Option Operand} {ρ:Operand→RV} {a:Act}
  (h1:∀ x∈lo.toList,relRV w M bs hp (ρ x) (a.eval x)) (h2:∀ x∈hi.toList,relRV w M bs hp (ρ x) (a.eval x)) (h3:∀ x∈mx.toList,relRV w M bs hp (ρ x) (a.eval x))
  (e1:bound 0 (lo.map ρ)=some l) (e2:bound n (hi.map ρ)=some hh) (e3:bound c (mx.map ρ)=some m) (k1:0≤l) (k2:l≤hh) (k3:hh≤m) (k4:m≤c) (hm:(mx.map ρ).isSome=true→(hi.map ρ).isSome=true) :
  (Instr.sliceBounds isS n c (lo.map a.eval) (hi.map a.eval) (mx.map a.eval)).run P w=.ok (l.toNat,hh.toNat,m.toNat) w:=by
 have b1:=bound_val h1 e1
 have b2:=bound_val h2 e2
 have b3:=bound_val h3 e3
 simp only [Option.isSome_map] at hm
 rcases b3 with ⟨rfl,rfl⟩ | ⟨ox,k,rfl,hv⟩
 ·
  rcases b2 with ⟨rfl,rfl⟩ | ⟨oh,kh,rfl,hv2⟩ <;> rcases b1 with ⟨rfl,rfl⟩ | ⟨ol,kl,rfl,hv1⟩
  ·
   simp [Instr.sliceBounds]
  ·
   simp [Instr.sliceBounds,hv1,run_sliceBound (P:=P) (w:=w) (n:=n) _ k1 k2]
  ·
   simp [Instr.sliceBounds,hv2,run_sliceBound (P:=P) (w:=w) (n:=c) (i:=hh) _ (by omega) (by omega)]
  ·
   simp [Instr.sliceBounds,hv1,hv2,Sem.run_bind,run_sliceBound (P:=P) (w:=w) (n:=c) (i:=hh) _ (by omega) (by omega),
    run_sliceBound (P:=P) (w:=w) (n:=hh.toNat) (i:=l) _ k1 (by omega)]
 ·
  rcases b2 with ⟨rfl,rfl⟩ | ⟨oh,kh,rfl,hv2⟩
  ·
   simp at hm
  ·
   rcases b1 with ⟨rfl,rfl⟩ | ⟨ol,kl,rfl,hv1⟩
   ·
    simp [Instr.sliceBounds,hv,hv2,Sem.run_bind,run_sliceBound (P:=P) (w:=w) (n:=c) (i:=m) _ (by omega) (by omega),run_sliceBound (P:=P) (w:=w) (n:=m.toNat) (i:=hh) _ (by omega) (by omega)]
   ·
    simp [Instr.sliceBounds,hv,hv1,hv2,Sem.run_bind,run_sliceBound (P:=P) (w:=w) (n:=c) (i:=m) _ (by omega) (by omega),run_sliceBound (P:=P) (w:=w) (n:=m.toNat) (i:=hh) _ (by omega) (by omega),
     run_sliceBound (P:=P) (w:=w) (n:=hh.toNat) (i:=l) _ k1 (by omega)]
theorem slicePart_sound (hg:g.ok P) (t:TypeId) (x:AV) (v:Value) (hx:relAV w M bs hp x v) (lo hi mx:Option Operand) (ρ:Operand→RV) (a:Act)
  (h1:∀ x∈lo.toList,relRV w M bs hp (ρ x) (a.eval x)) (h2:∀ x∈hi.toList,relRV w M bs hp (ρ x) (a.eval x)) (h3:∀ x∈mx.toList,relRV w M bs hp (ρ x) (a.eval x))
  (h:(slicePartEv g hp t x (lo.map ρ) (hi.map ρ) (mx.map ρ)).1) :
  ∃ z,(Instr.sliceAt t v (lo.map a.eval) (hi.map a.eval) (mx.map a.eval)).run P w=.ok z w∧relRV w M bs hp (slicePartEv g hp t x (lo.map ρ) (hi.map ρ) (mx.map ρ)).2 z:=by
 have ht:=G.td_ok hg t
 unfold slicePartEv at h ⊢
 split at h
 ·
  rename_i n e ety id off htd
  rw [htd] at ht
  split at h
  ·
   rename_i cs l hh m hl e1 e2 e3
   obtain ⟨k1,k2,k3,k4,k5,hm⟩:=h
   obtain ⟨hid,hx⟩:=hx
   obtain ⟨b,hb,rfl⟩:=hx cs hl
   obtain ⟨hu,hs,_⟩:=ht
   refine ⟨.slice (some (if m.toNat=l.toNat then ⟨b,off,none⟩ else (⟨b,off,none⟩:Addr).add (l.toNat*ety.size))) (hh.toNat - l.toNat) (m.toNat - l.toNat),?_,?_⟩
   ·
    simp only [Instr.sliceAt,Sem.run_bind,run_underlying hu,Result.andThen_ok]
    rw [show (Instr.sureAddr (.pointer (some ⟨b,off,none⟩)):Sem Addr).run P w=.ok ⟨b,off,none⟩ w by simp [Instr.sureAddr]]
    simp only [Result.andThen_ok,Sem.run_bind,bounds_run h1 h2 h3 e1 e2 e3 k1 k2 k3 k4 hm,run_sizeOf hs,Sem.run_pure]
   ·
    refine ⟨hid,by omega,by omega,_,by rw [show hh.toNat - l.toNat=(hh - l).toNat by omega,show m.toNat - l.toNat=(m - l).toNat by omega],fun cs' hl'=>⟨b,hb,fun hlt => ?_⟩⟩
    rw [if_neg (by omega),addr_add]
  ·
   exact h.elim
 ·
  rename_i n e ety ty y htd
  rw [htd] at ht
  split at h
  ·
   rename_i xs l hh hps e1 e2 e3
   obtain ⟨k1,k2,k3,k5⟩:=h
   obtain ⟨b,off,cs,rfl,hm,hb,hrep,hc⟩:=hx
   obtain ⟨hu,hs,_⟩:=ht
   obtain rfl:mx=none:=by cases mx <;> simp at e3 ⊢
   obtain ⟨q1,q2⟩:=parses_rows ety n _ xs cs hps ((rep_flat (bs:=bs) (hp:=hp) ty y cs hrep).imp fun _ _ q=>q.1)
   refine ⟨.slice (some (if n=l.toNat then ⟨b,off,none⟩ else (⟨b,off,none⟩:Addr).add (l.toNat*ety.size))) (hh.toNat - l.toNat) (n - l.toNat),?_,?_⟩
   ·
    simp only [Instr.sliceAt,Sem.run_bind,run_underlying hu,Result.andThen_ok]
    rw [show (Instr.sureAddr (.pointer (some ⟨b,off,none⟩)):Sem Addr).run P w=.ok ⟨b,off,none⟩ w by simp [Instr.sureAddr]]
    have:=bounds_run (P:=P) (w:=w) (isS:=false) (c:=n) (m:=n) (mx:=none) h1 h2 (by simp) e1 e2 rfl k1 k2 k3 (Int.le_refl _) (by simp)
    simp only [Result.andThen_ok,Sem.run_bind,this,run_sizeOf hs,Sem.run_pure,Int.toNat_natCast]
   ·
    have hlen:((xs.take hh.toNat).drop l.toNat).length=hh.toNat - l.toNat:=by simp; omega
    have hrow:RowAt w M (fun x cs=>rep w M ety x cs) ety.size (some ⟨b,off,none⟩) xs:=.inr ⟨b,off,rfl,hm,hb,fun i x hi=>by
     obtain ⟨cs',r1,r2,r3⟩:=q2 i x hi
     refine ⟨cs',r1,r2,fun j v hj => ?_⟩
     have:=hc _ v (r3 j v hj)
     rw [← this]; congr 2; omega⟩
    refine ⟨_,n - l.toNat,by rw [hlen],by rw [hlen]; omega,by omega,by simp,?_⟩
    refine RowAt_cut hrow _ _ _ (fun hne => ?_) (by omega) (by omega)
    rw [if_neg (by omega)]
    rfl
  ·
   exact h.elim
 ·
  rename_i e ety bytes ty id off n cap htd
  rw [htd] at ht
  split at h
  ·
   rename_i cs l hh m hl e1 e2 e3
   obtain ⟨rfl,k1,k2,k3,k4,hm⟩:=h
   obtain ⟨hid,hnc,hcm,ad,rfl,hx⟩:=hx
   obtain ⟨b,hb,ha⟩:=hx cs hl
   obtain ⟨hu,hsz,hinfo,_⟩:=ht
   have hs:(P.info? e).map (fun i=>i.size)=some ty.size:=by
    cases hi:P.info? e with
    | none=>simp [hi] at hinfo
    | some i=>simp [hi] at hinfo; simp [hinfo.1]
   refine ⟨.slice (if m.toNat=l.toNat then ad else ad.map (·.add (l.toNat*ty.size))) (hh.toNat - l.toNat) (m.toNat - l.toNat),?_,?_⟩
   ·
    simp only [Instr.sliceAt,Instr.slice,Sem.run_bind,run_underlying hu,Result.andThen_ok,bounds_run h1 h2 h3 e1 e2 e3 k1 k2 k3 k4 hm,run_sizeOf hs,Sem.run_pure]
   ·
    refine ⟨hid,by omega,by omega,_,by rw [show hh.toNat - l.toNat=(hh - l).toNat by omega,show m.toNat - l.toNat=(m - l).toNat by omega],fun cs' hl'=>⟨b,hb,fun hlt => ?_⟩⟩
    rw [if_neg (by omega),ha (by omega)]
    simp [addr_add]
  ·
   exact h.elim
 ·
  exact h.elim
theorem sliceAny_sound {M0:Nat→Prop} (hr:HR w M0 bs hp) (hg:g.ok P) (t:TypeId) (x:AV) (v:Value) (hx:relAV w (Mof M0 bs) bs hp x v) (lo hi mx:Option Operand) (ρ:Operand→RV) (a:Act)
  (h1:∀ x∈lo.toList,relRV w (Mof M0 bs) bs hp (ρ x) (a.eval x)) (h2:∀ x∈hi.toList,relRV w (Mof M0 bs) bs hp (ρ x) (a.eval x)) (h3:∀ x∈mx.toList,relRV w (Mof M0 bs) bs hp (ρ x) (a.eval x))
  (h:(sliceAnyEv g hp t x (lo.map ρ) (hi.map ρ) (mx.map ρ)).1) :
  ∃ z,(Instr.sliceAt t v (lo.map a.eval) (hi.map a.eval) (mx.map a.eval)).run P w=.ok z w∧relRV w (Mof M0 bs) bs hp (sliceAnyEv g hp t x (lo.map ρ) (hi.map ρ) (mx.map ρ)).2 z:=by
 unfold sliceAnyEv at h ⊢
 split at h
 ·
  rename_i ty id n
  have key:∀ al cs,al=true→Blk.look hp id=.arr al cs→cs.length=n*ty.size→id<hp.length∧∃ b cap,bs.at id=some b∧v=.slice (some ⟨b,0,none⟩) n cap∧n≤cap∧OwnAt w b cap ty.size:=by
   intro al cs e hl hc
   subst e
   obtain ⟨b,hb⟩:=hr.al id cs hl
   rcases (hx.2 true cs hl).2 hc with ⟨b',cap,k1,k2,k3,k4⟩ | ⟨k1,_⟩
   ·
    exact ⟨hx.1,b',cap,k1,k2,k3,k4⟩
   ·
    rw [hb] at k1; cases k1
  cases lo with
  | none=>exact sliceOwn_sound hg t ty id n n v none hi mx ρ a key h1 h2 h
  | some l =>
   cases hi with
   | none=>exact sliceSuf_sound hg t ty id n v (some l) mx ρ a key h1 h
   | some u=>exact sliceOwn_sound hg t ty id n n v (some l) (some u) mx ρ a key h1 h2 h
 ·
  rename_i ty id n m
  refine sliceOwn_sound hg t ty id n m v lo hi mx ρ a (fun al cs e hl hc => ?_) h1 h2 h
  exact ⟨hx.1,(hx.2.2 al cs hl).2 hc⟩
 ·
  exact slicePart_sound hg t _ v hx lo hi mx ρ a h1 h2 h3 h
 ·
  exact slicePart_sound hg t _ v hx lo hi mx ρ a h1 h2 h3 h
 ·
  exact slicePart_sound hg t _ v hx lo hi mx ρ a h1 h2 h3 h
 ·
  exact sliceEv_sound hg t _ v hx lo hi mx ρ a h1 h2 h3 h
theorem lenEv_sound (hg:g.ok P) (t:TypeId) (x:AV) (v:Value) (hx:relAV w M bs hp x v) (h:(lenEv g hp t x).1) (o:TypeId) :
  ∃ z,(Builtin.len_ #[t] o #[v]).run P w=.ok z w∧relRV w M bs hp (lenEv g hp t x).2 z:=by
 have ht:=G.td_ok hg t
 unfold lenEv at h ⊢
 split at h
 ·
  rename_i htd; rw [htd] at ht
  obtain ⟨a,c,rfl,_⟩:=hx
  exact ⟨_,by simp [Builtin.len_,run_underlying ht.1,goInt],rfl⟩
 ·
  rename_i htd; rw [htd] at ht
  obtain rfl:v=.string _:=hx
  have h1:P.underlying t=some .string:=ht.1
  exact ⟨_,by simp [Builtin.len_,run_underlying h1,goInt],rfl⟩
 ·
  rename_i htd; rw [htd] at ht
  obtain rfl:v=.slice none 0 0:=hx
  exact ⟨_,by simp [Builtin.len_,run_underlying ht.1,goInt],rfl⟩
 ·
  rename_i t' id n htd; rw [htd] at ht
  cases hl:Blk.look hp id with
  | dead=>simp [hl] at h
  | trace l' xs' i' st'=>simp [hl] at h
  | map k v es=>simp [hl] at h
  | cells cs=>simp [hl] at h
  | arr al cs =>
   simp only [hl] at h ⊢
   rcases (hx.2 al cs hl).2 h with ⟨b,cap,_,rfl,_⟩ | ⟨_,xs,a,_,_,_,rfl,_⟩
   ·
    exact ⟨_,by simp [Builtin.len_,run_underlying ht.1,goInt],rfl⟩
   ·
    exact ⟨_,by simp [Builtin.len_,run_underlying ht.1,goInt],rfl⟩
 ·
  rename_i t' id n m htd; rw [htd] at ht
  cases hl:Blk.look hp id with
  | dead=>simp [hl] at h
  | trace l' xs' i' st'=>simp [hl] at h
  | map k v es=>simp [hl] at h
  | cells cs=>simp [hl] at h
  | arr al cs =>
   simp only [hl] at h ⊢
   obtain ⟨b,cap,_,rfl,_⟩:=(hx.2.2 al cs hl).2 h
   exact ⟨_,by simp [Builtin.len_,run_underlying ht.1,goInt],rfl⟩
 ·
  rename_i htd; rw [htd] at ht
  obtain ⟨_,_,_,a,rfl,_⟩:=hx
  exact ⟨_,by simp [Builtin.len_,run_underlying ht.1,goInt],rfl⟩
 ·
  exact h.elim
theorem capEv_sound (hg:g.ok P) (t:TypeId) (x:AV) (v:Value) (hx:relAV w M bs hp x v) (h:(capEv g t x).1) (o:TypeId) :
  ∃ z,(Builtin.cap_ #[t] o #[v]).run P w=.ok z w∧relRV w M bs hp (capEv g t x).2 z:=by
 have ht:=G.td_ok hg t
 unfold capEv at h ⊢
 split at h
 ·
  rename_i htd; rw [htd] at ht
  obtain ⟨a,c,rfl,_,_,hc,_⟩:=hx
  have:=hc rfl
  subst this
  exact ⟨_,by simp [Builtin.cap_,run_underlying ht.1,goInt],rfl⟩
 ·
  rename_i htd; rw [htd] at ht
  obtain rfl:v=.slice none 0 0:=hx
  exact ⟨_,by simp [Builtin.cap_,run_underlying ht.1,goInt],rfl⟩
 ·
  rename_i htd; rw [htd] at ht
  obtain ⟨_,_,_,a,rfl,_⟩:=hx
  exact ⟨_,by simp [Builtin.cap_,run_underlying ht.1,goInt],rfl⟩
 ·
  exact h.elim
theorem minEv_sound (l:List AV) (vs:List Value) (hx:All2 (relAV w M bs hp) l vs) (mx:Bool) (h:(minEv mx l).1) (ts:Array TypeId) (o:TypeId) :
  ∃ z,(if mx then Builtin.max_ ts o vs.toArray else Builtin.min_ ts o vs.toArray:Sem Value).run P w=.ok z w∧relRV w M bs hp (minEv mx l).2 z:=by
 unfold minEv at h ⊢
 split at h
 ·
  subst h
  cases hx with
  | cons h1 hx=>cases hx with
   | cons h2 hx=>cases hx with
    | nil =>
     rename_i k a b v u
     obtain rfl:v=.int _ _:=h1
     obtain rfl:u=.int _ _:=h2
     cases mx
     ·
      exact ⟨_,by simp [Builtin.min_,Builtin.min2],rfl⟩
     ·
      exact ⟨.int k (if a<b then b else a),by simp [Builtin.max_,Builtin.max2],rfl⟩
 ·
  exact h.elim
theorem allBox_sound:∀ (l:List Operand) (ρ:Operand→RV) (a:Act) (ids:List Nat),(∀ x∈l,relRV w M bs hp (ρ x) (a.eval x))→allBox hp (l.map ρ)=some ids →
  ∃ ps:List Nat,l.map a.eval=ps.map (fun b=>Value.pointer (some ⟨b,0,none⟩))∧All2 (fun id b=>id<hp.length∧∀ cs,Blk.look hp id=.cells cs→bs.at id=some b) ids ps
 | [],_,_,ids,_,h=>by simp [allBox] at h; subst h; exact ⟨[],rfl,.nil⟩
 | x::l,ρ,a,ids,hρ,h=>by
  simp only [List.map_cons] at h
  unfold allBox at h
  split at h
  ·
   rename_i heq; cases heq
  ·
   rename_i id r heq
   injection heq with e1 e2
   subst e2
   cases hl:Blk.look hp id with
   | cells cs =>
    simp only [hl] at h
    cases hr:allBox hp (l.map ρ) with
    | none=>simp [hr] at h
    | some ids' =>
     simp [hr] at h
     subst h
     obtain ⟨ps,h1,h2⟩:=allBox_sound l ρ a ids' (fun y hy=>hρ y (by simp [hy])) hr
     have h3:=hρ x (by simp)
     rw [e1] at h3
     obtain ⟨hid,h3⟩:=h3
     obtain ⟨b,hb,hv⟩:=h3 cs hl
     exact ⟨b::ps,by simp [h1,hv],.cons ⟨hid,fun _ _=>hb⟩ h2⟩
   | _=>simp [hl] at h
  ·
   cases h
theorem allEp_sound:∀ (l:List Operand) (ρ:Operand→RV) (a:Act) (cps:List (Sigma Ty.T)),(∀ x∈l,relRV w M bs hp (ρ x) (a.eval x))→allEp (l.map ρ)=some cps→All2 (FrozenAt w M) cps (l.map a.eval):=by
 intro l
 induction l with
 | nil=>intro ρ a cps _ h; simp [allEp] at h; subst h; exact .nil
 | cons x l ih =>
  intro ρ a cps hρ h
  have hx:=hρ x (by simp)
  simp only [List.map_cons] at h ⊢
  unfold allEp at h
  split at h
  ·
   rename_i heq; cases heq
  ·
   rename_i t y r heq
   injection heq with h1 h2
   subst h2
   rw [h1] at hx
   cases hr:allEp (l.map ρ) with
   | none=>rw [hr] at h; cases h
   | some ds =>
    rw [hr] at h
    simp at h
    subst h
    exact .cons hx (ih ρ a ds (fun y hy=>hρ y (by simp [hy])) hr)
  ·
   cases h
theorem map_rel (l:List Operand) (ρ:Operand→RV) (a:Act) (hρ:∀ x∈l,relRV w M bs hp (ρ x) (a.eval x)):All2 (relAV w M bs hp) (l.map fun x=>(ρ x).av) (l.map a.eval):=by
 induction l with
 | nil=>exact .nil
 | cons x l ih=>exact .cons (relRV_av (hρ x (by simp))) (ih fun y hy=>hρ y (by simp [hy]))
theorem rep_dflt:∀ (t:Ty),rep w M t t.dflt t.zcells
 | .int k=>by simp [rep,Ty.zcells]
 | .bool=>by simp [rep,Ty.zcells]
 | .str=>by simp [rep,Ty.zcells]
 | .slice t=>by simp only [rep,Ty.zcells]; exact ⟨none,0,rfl,Nat.le_refl _,by simp [maxLen],.inl rfl⟩
 | .nil=>by simp [rep,Ty.zcells]
 | .cons t r=>by simp only [rep,Ty.zcells]; exact ⟨_,_,rfl,rep_dflt t,rep_dflt r⟩
 | .fn=>by simp only [rep,Ty.zcells]; exact .nofn
 | .tree h=>by
  refine rep_tree.2 ⟨_,_,rfl,?_,?_⟩
  ·
   have:=rep_dflt h
   rwa [show h.hd (Ty.tree h).dflt=h.dflt from by rw [Ty.hd,show (Ty.tree h).dflt=D.node h h.dfltD (.nil _) from rfl,D.hdD,dfltD_eq,ofD_toD]]
  ·
   simp only [rep]
   exact ⟨none,0,rfl,Nat.le_refl _,by simp [maxLen],.inl rfl⟩
theorem sig_sound {M:Nat→Prop} {x:SV} {u:Value} {c:Sigma Ty.T} (hs:x.sig=some c) (h:relSV w M bs hp x u):rep w M c.1 c.2 [u]:=by
 cases x with
 | fn f ids =>
  cases ids with
  | cons i r=>simp [SV.sig] at hs
  | nil =>
   simp [SV.sig] at hs; subst hs
   obtain ⟨ps,rfl,h2⟩:=h
   cases h2
   simp only [rep]
   exact repD_fnOf (ps:=[]) f .nil
 | fnp f caps =>
  simp [SV.sig] at hs; subst hs
  obtain ⟨ps,rfl,h2⟩:=h
  simp only [rep]
  exact repD_fnOf f h2
 | fv x =>
  simp [SV.sig] at hs; subst hs
  simp only [rep]
  exact h
 | int k n=>simp [SV.sig] at hs; subst hs; rw [show u=_ from h]; simp [rep]
 | bool b=>simp [SV.sig] at hs; subst hs; rw [show u=_ from h]; simp [rep]
 | str s=>simp [SV.sig] at hs; subst hs; rw [show u=_ from h]; simp [rep]
 | sl t xs ex =>
  simp [SV.sig] at hs; subst hs
  obtain ⟨a,c,h1,h2,h3,_,h5⟩:=h
  simp only [rep]; exact ⟨a,c,by rw [h1],h2,h3,h5⟩
 | _=>simp [SV.sig] at hs
theorem sigs_sound {M:Nat→Prop}:∀ {cs:List SV} {us:List Value} {c:Sigma Ty.T},sigs cs=some c→All2 (relSV w M bs hp) cs us→rep w M c.1 c.2 us
 | [],_,c,hs,.nil=>by simp [sigs] at hs; subst hs; simp [rep]
 | x::r,_,c,hs,.cons h1 h2=>by
  simp only [sigs] at hs
  split at hs
  ·
   rename_i a b ha hb
   injection hs with hs
   subst hs
   simp only [rep]
   exact ⟨[_],_,rfl,sig_sound ha h1,sigs_sound hb h2⟩
  ·
   cases hs
theorem avSig_sound {x:AV} {u:Value} {c:Sigma Ty.T} (hs:x.sig=some c) (h:relAV w M bs hp x u) (h0:c.1.nfld≠0∨c.1.size=1):∃ cs,u=bndV c.1 cs∧rep w M c.1 c.2 cs:=by
 cases x with
 | s x =>
  have h1:=sig_sound hs h
  refine ⟨[u],?_,h1⟩
  cases x with
  | fn f ids =>
   cases ids with
   | cons i r=>simp [AV.sig,SV.sig] at hs
   | nil=>simp [AV.sig,SV.sig] at hs; subst hs; rfl
  | fnp f caps=>simp [AV.sig,SV.sig] at hs; subst hs; rfl
  | fv x=>simp [AV.sig,SV.sig] at hs; subst hs; rfl
  | int k n=>simp [AV.sig,SV.sig] at hs; subst hs; rfl
  | bool b=>simp [AV.sig,SV.sig] at hs; subst hs; rfl
  | str s=>simp [AV.sig,SV.sig] at hs; subst hs; rfl
  | sl t xs ex=>simp [AV.sig,SV.sig] at hs; subst hs; rfl
  | _=>simp [AV.sig,SV.sig] at hs
 | agg cs =>
  obtain ⟨us,rfl,h1⟩:=h
  have h2:=sigs_sound (hs:sigs cs=some c) (h1.imp fun _ _ h=>h.1)
  refine ⟨us,?_,h2⟩
  cases cs with
  | nil=>simp [AV.sig,sigs] at hs; subst hs; rcases h0 with h0 | h0 <;> simp [Ty.nfld] at h0
  | cons y r =>
   simp only [AV.sig,sigs] at hs
   split at hs
   ·
    injection hs with hs; subst hs; rfl
   ·
    cases hs
theorem av_repV {t:Ty} {x:t.T} {v:Value} (h:repV w M t x v) (h0:t≠.nil):relAV w M bs hp (t.av x) v:=by
 obtain ⟨cs,rfl,h⟩:=h
 have:=relSV_av (bs:=bs) (hp:=hp) t x h (by cases t <;> simp_all [Ty.nfld])
 cases t <;> first | exact absurd rfl h0 | simpa [unitV,Ty.isAgg,bndV] using this
theorem bytes_beq (a b:ByteArray):(a==b)=true↔a=b:=by
 obtain ⟨a⟩:=a
 obtain ⟨b⟩:=b
 show (a==b)=true↔_
 simp
theorem sameNow_key {k:Ty} (hk:k.keyOk=true) (a b:k.T):Instr.sameNow k.desc (kval k a) (kval k b)=some (k.beq a b):=by
 cases k with
 | int q=>simp [kval,Ty.desc,Instr.sameNow,Ty.beq]
 | str=>simp [kval,Ty.desc,Instr.sameNow,Ty.beq]
 | bool=>simp [kval,Ty.desc,Instr.sameNow,Ty.beq]
 | _=>simp [Ty.keyOk] at hk
theorem beq_key {k:Ty} (hk:k.keyOk=true) (a b:k.T):(k.beq a b=true↔a=b):=by
 cases k with
 | int q=>simp [Ty.beq]
 | str=>exact bytes_beq a b
 | bool=>simp [Ty.beq]
 | _=>simp [Ty.keyOk] at hk
theorem find_rel {kt vt:Ty} (hk:kt.keyOk=true) (n:kt.T):∀ (es:List (kt.T×vt.T)) (ents:List MapEntry) (i:Nat),
  All2 (fun x (m:MapEntry)=>m.key=kval kt x.1∧repV w M vt x.2 m.val) es ents →
  (Instr.findNow kt.desc (kval kt n) ents i=some none∧mget kt.beq n es=none∧∀ v:vt.T,mput kt.beq n v es=es++[(n,v)]) ∨
  (∃ (j:Nat) (x:kt.T×vt.T) (m:MapEntry),es[j]?=some x∧ents[j]?=some m∧x.1=n∧Instr.findNow kt.desc (kval kt n) ents i=some (some (i+j,m.val))∧mget kt.beq n es=some x.2 ∧
   ∀ v:vt.T,mput kt.beq n v es=es.set j (n,v)):=by
 intro es ents i h
 induction h generalizing i with
 | nil=>left; exact ⟨rfl,rfl,fun v=>rfl⟩
 | cons r hr ih =>
  rename_i x m es ents
  obtain ⟨a,b⟩:=x
  have hkey:m.key=kval kt a:=r.1
  have hsame:=sameNow_key hk n a
  by_cases e:n=a
  ·
   right
   subst e
   have hb:kt.beq n n=true:=(beq_key hk n n).2 rfl
   refine ⟨0,(n,b),m,rfl,rfl,rfl,?_,?_,fun v => ?_⟩
   ·
    simp [Instr.findNow,hkey,hsame,hb]
   ·
    simp [mget,hb]
   ·
    simp [mput,hb]
  ·
   have hb:kt.beq n a=false:=by
    cases hq:kt.beq n a with
    | false=>rfl
    | true=>exact absurd ((beq_key hk n a).1 hq) e
   have hf:Instr.findNow kt.desc (kval kt n) (m::ents) i=Instr.findNow kt.desc (kval kt n) ents (i+1):=by
    simp [Instr.findNow,hkey,hsame,hb]
   rcases ih (i+1) with ⟨h1,h2,h3⟩ | ⟨j,x,m',h1,h2,h3,h4,h5,h6⟩
   ·
    left
    refine ⟨by rw [hf]; exact h1,by simp [mget,hb,h2],fun v=>by simp [mput,hb,h3]⟩
   ·
    right
    refine ⟨j+1,x,m',by simpa using h1,by simpa using h2,h3,by rw [hf,h4]; congr 3; omega,by simp [mget,hb,h5],fun v=>by simp [mput,hb,h6]⟩
theorem run_checkKey {kt:Ty} (hk:kt.keyOk=true) {t:TypeId} (h:P.underlying t=some kt.desc) (e:Bool) (fuel:Nat) (n:kt.T):(Instr.checkKey e (fuel+1) t (kval kt n)).run P w=.ok () w:=by
 cases kt with
 | int q=>simp only [Instr.checkKey,Sem.run_bind,run_underlying h,Result.andThen_ok]; rfl
 | str=>simp only [Instr.checkKey,Sem.run_bind,run_underlying h,Result.andThen_ok]; rfl
 | bool=>simp only [Instr.checkKey,Sem.run_bind,run_underlying h,Result.andThen_ok]; rfl
 | _=>simp [Ty.keyOk] at hk
theorem of_key {kt:Ty} (hkt:kt.keyOk=true) {k:AV} {key:kt.T} (h:kt.of k=some key) {v:Value} (hk:relAV w M bs hp k v):v=kval kt key:=by
 unfold Ty.of at h
 split at h
 ·
  rename_i x
  cases kt with
  | int q =>
   cases x with
   | int q' n =>
    by_cases e:q=q'
    ·
     subst e
     simp [Ty.nfld,Ty.parse] at h
     subst h
     exact hk
    ·
     simp [Ty.nfld,Ty.parse,e] at h
   | _=>simp [Ty.nfld,Ty.parse] at h
  | str =>
   cases x with
   | str s=>simp [Ty.nfld,Ty.parse] at h; subst h; exact hk
   | _=>simp [Ty.nfld,Ty.parse] at h
  | bool =>
   cases x with
   | bool s=>simp [Ty.nfld,Ty.parse] at h; subst h; exact hk
   | _=>simp [Ty.nfld,Ty.parse] at h
  | _=>simp [Ty.keyOk] at hkt
 ·
  cases kt <;> simp [Ty.nfld,Ty.keyOk] at h hkt
theorem lookupEv_sound {M0:Nat→Prop} (hg:g.ok P) (hr:HR w M0 bs hp) (t:TypeId) (m k:AV) (vm vk:Value) (hm:relAV w (Mof M0 bs) bs hp m vm) (hk:relAV w (Mof M0 bs) bs hp k vk) (ok:Bool) (h:(lookupEv g hp t m k ok).1) :
  ∃ z,(Instr.lookup t vm vk ok).run P w=.ok z w∧relRV w (Mof M0 bs) bs hp (lookupEv g hp t m k ok).2 z:=by
 have ht:=G.td_ok hg t
 unfold lookupEv at h ⊢
 split at h
 ·
  rename_i kk ee kt vt id htd
  rw [htd] at ht
  obtain ⟨b,k0,u0,es,hb,hl,rfl⟩:=hm
  simp only [hl] at h ⊢
  cases hof:k0.of k with
  | none=>simp [hof] at h
  | some key =>
   simp only [hof] at h ⊢
   obtain ⟨rfl,rfl⟩:=h
   obtain ⟨h1,h2,h3,h5,h6⟩:=ht
   obtain ⟨b',ents,clock,hb',hheap,hes⟩:=hr.map id _ _ _ hl
   rw [hb] at hb'; cases hb'
   obtain rfl:=of_key h5 hof hk
   have hget:(getObj b).run P w=.ok (.map ents clock) w:=by simp [getObj,Sem.run,hheap]
   have hfk:∀ r,Instr.findNow k0.desc (kval k0 key) ents.toList 0=some r→(Instr.findKey kk (kval k0 key) ents.toList).run P w=.ok r w:=fun r hr=>by
    simp [Instr.findKey,Sem.run_bind,run_underlying h2,hr]
   have fin:∀ (v:Value) (y:u0.T) (fnd:Bool),repV w (Mof M0 bs) u0 y v→∀ (r:Option (Nat×Value)),Instr.findNow k0.desc (kval k0 key) ents.toList 0=some r→((r=none∧fnd=false∧(zeroValue ee).run P w=.ok v w)∨(∃ j,r=some (j,v)∧fnd=true)) →
     (mget k0.beq key es).getD u0.dflt=y→(mget k0.beq key es).isSome=fnd →
     ∃ z,(Instr.lookup t (.map (some b)) (kval k0 key) ok).run P w=.ok z w∧relRV w (Mof M0 bs) bs hp (if ok=true then .tup [u0.av ((mget k0.beq key es).getD u0.dflt),.s (.bool (mget k0.beq key es).isSome)] else .v (u0.av ((mget k0.beq key es).getD u0.dflt))) z:=by
    intro v y fnd hrep r hr hor e1 e2
    rw [e1,e2]
    have hav:=av_repV (bs:=bs) (hp:=hp) hrep h6
    refine ⟨if ok then .tuple #[v,.bool fnd] else v,?_,?_⟩
    ·
     simp only [Instr.lookup,Sem.run_bind,run_underlying h1,Result.andThen_ok,hget,Sem.run_pure,run_checkKey h5 h2 _ 9999,hfk r hr]
     rcases hor with ⟨rfl,rfl,hz⟩ | ⟨j,rfl,rfl⟩
     ·
      simp only [Sem.run_bind,hz,Result.andThen_ok,Sem.run_pure]
     ·
      simp only [Sem.run_bind,Result.andThen_ok,Sem.run_pure]
    ·
     cases ok
     ·
      exact hav
     ·
      exact ⟨[v,.bool fnd],rfl,.cons hav (.cons rfl .nil)⟩
   rcases find_rel (w:=w) (M:=Mof M0 bs) h5 key es ents.toList 0 hes with ⟨f1,f2,f3⟩ | ⟨j,x,me,f1,f2,f3,f4,f5,f6⟩
   ·
    have hz:(zeroValue ee).run P w=.ok (unitV u0 u0.zcells) w:=by
     cases hi:P.info? ee with
     | none=>simp [hi] at h3
     | some i=>simp [hi] at h3; simp [zeroValue,typeInfo,hi,go_sem,h3]
    exact fin (unitV u0 u0.zcells) u0.dflt false ⟨_,rfl,rep_dflt u0⟩ none f1 (.inl ⟨rfl,rfl,hz⟩) (by rw [f2]; rfl) (by rw [f2]; rfl)
   ·
    obtain ⟨m',hm',hmr⟩:=hes.get j x f1
    rw [f2] at hm'; cases hm'
    exact fin me.val x.2 true hmr.2 _ f4 (.inr ⟨0+j,rfl,rfl⟩) (by rw [f5]; rfl) (by rw [f5]; rfl)
 ·
  exact h.elim
theorem qEv_sound {M0:Nat→Prop} (hg:g.ok P) (hr:HR w M0 bs hp) (o:Oper) (ρ:Operand→RV) (a:Act) (hρ:∀ x∈o.op.operands.toList,relRV w (Mof M0 bs) bs hp (ρ x) (a.eval x))
  (h:(qEv g hp ρ o.type o.op).1):∃ z,(execOp a.eval o).run P w=.ok (.value z) w∧relRV w (Mof M0 bs) bs hp (qEv g hp ρ o.type o.op).2 z:=by
 obtain ⟨dst,op,t,pos,after,guard⟩:=o
 simp only at h hρ ⊢
 unfold qEv at h ⊢
 split at h
 ·
  exact ⟨_,by simp [execOp],coe_sound hg _ _ _ (hρ _ (by simp [Op.operands]))⟩
 ·
  exact ⟨_,by simp [execOp],coe_sound hg _ _ _ (hρ _ (by simp [Op.operands]))⟩
 ·
  rename_i c x y
  obtain ⟨q,h1,h2⟩:=pickEv_sound _ _ _ _ _ _ (relRV_av (hρ c (by simp [Op.operands]))) (relRV_av (hρ x (by simp [Op.operands]))) (relRV_av (hρ y (by simp [Op.operands]))) h
  exact ⟨_,by simp [execOp,h1,asBool],h2⟩
 ·
  rename_i u x
  obtain ⟨z,h1,h2⟩:=loadEv_sound hg hr u _ _ (relRV_av (hρ x (by simp [Op.operands]))) h
  exact ⟨z,by simp [execOp,h1],h2⟩
 ·
  rename_i op u x y yt
  obtain ⟨z,h1,h2⟩:=binEv_sound hg op _ _ _ _ u (relRV_av (hρ x (by simp [Op.operands]))) (relRV_av (hρ y (by simp [Op.operands]))) h x y
  exact ⟨z,by simp only [execOp]; rw [Sem.run_bind,h1]; rfl,h2⟩
 ·
  rename_i op u x
  obtain ⟨z,h1,h2⟩:=unEv_sound (P:=P) op _ _ (relRV_av (hρ x (by simp [Op.operands]))) h
  exact ⟨z,by simp [execOp,h1],h2⟩
 ·
  rename_i s x f
  obtain ⟨z,h1,h2⟩:=fieldAddrEv_sound hg s _ f _ (relRV_av (hρ x (by simp [Op.operands]))) h
  exact ⟨z,by simp [execOp,h1],h2⟩
 ·
  rename_i s x i
  obtain ⟨z,h1,h2⟩:=indexAddrEv_sound hr hg s _ _ _ _ (relRV_av (hρ x (by simp [Op.operands]))) (relRV_av (hρ i (by simp [Op.operands]))) h
  exact ⟨z,by simp [execOp,h1],h2⟩
 ·
  rename_i s x lo hi mx
  obtain ⟨z,h1,h2⟩:=sliceAny_sound hr hg s _ _ (relRV_av (hρ x (by simp [Op.operands]))) lo hi mx ρ a (fun y hy=>hρ y (by simp [Op.operands]; simp at hy; simp [hy])) (fun y hy=>hρ y (by simp [Op.operands]; simp at hy; simp [hy])) (fun y hy=>hρ y (by simp [Op.operands]; simp at hy; simp [hy])) h
  exact ⟨z,by simp [execOp,h1],h2⟩
 ·
  rename_i x i
  have hx:=hρ x (by simp [Op.operands])
  unfold extractEv at h ⊢
  split at h
  ·
   rename_i xs i heq
   rw [heq] at hx
   obtain ⟨vs,hv,hxs⟩:=hx
   rw [List.getElem?_eq_getElem h]
   obtain ⟨u,k1,k2⟩:=hxs.get _ _ (List.getElem?_eq_getElem h)
   exact ⟨u,by simp [execOp,hv,Instr.extract,k1],k2⟩
  ·
   exact h.elim
 ·
  rename_i s d x
  obtain ⟨z,h1,h2⟩:=convEv_sound (P:=P) hg s d _ _ (relRV_av (hρ x (by simp [Op.operands]))) h
  exact ⟨z,by simp [execOp,h1],h2⟩
 ·
  rename_i u x
  have hx:=relRV_av (hρ x (by simp [Op.operands]))
  have ht:=G.td_ok hg u
  unfold ifaceEv at h ⊢
  split at h
  ·
   rename_i ty k n htd heq
   rw [htd] at ht
   rw [heq] at hx
   have hv:a.eval x=.int k n:=hx
   obtain ⟨h1,-,-,h4⟩:=ht
   refine ⟨.iface u (.int k n),?_,rfl⟩
   have:(Instr.makeInterface u (.int k n)).run P w=.ok (.iface u (.int k n)) w:=by
    simp only [Instr.makeInterface,Sem.run_bind,run_underlying h1,Result.andThen_ok]
    cases ty <;> simp [Ty.scalar] at h4 <;> rfl
   simp [execOp,hv,this]
  ·
   exact h.elim
 ·
  rename_i x
  have hx:=relRV_av (hρ x (by simp [Op.operands]))
  unfold nilChkEv at h ⊢
  split at h
  ·
   rename_i id off heq
   split at h
   ·
    rename_i cs hl
    rw [heq] at hx
    obtain ⟨b,k1,k2⟩:=hx.2 cs hl
    simp only [hl]
    exact ⟨.pointer (some ⟨b,off,none⟩),by simp [execOp,k2],hx.1,fun cs' hl'=>⟨b,k1,rfl⟩⟩
   ·
    exact h.elim
  ·
   rename_i t y heq
   rw [heq] at hx
   have hx':=hx
   obtain ⟨b,off,cs,k2,hrest⟩:=hx
   exact ⟨.pointer (some ⟨b,off,none⟩),by simp [execOp,k2],⟨b,off,cs,rfl,hrest⟩⟩
  ·
   exact h.elim
 ·
  rename_i u x i
  have hx:=relRV_av (hρ x (by simp [Op.operands]))
  have hi:=relRV_av (hρ i (by simp [Op.operands]))
  have ht:=G.td_ok hg u
  unfold strIdxEv at h ⊢
  split at h
  ·
   rename_i s kk k htd e1 e2
   rw [htd] at ht
   rw [e1] at hx
   rw [e2] at hi
   have hv:a.eval x=.string s:=hx
   have hi:a.eval i=.int kk k:=hi
   obtain ⟨h1,-,-,-⟩:=ht
   have hlt:k.toNat<s.size:=by omega
   refine ⟨.int .u8 (byteAt s k.toNat),?_,rfl⟩
   have:(Instr.index u (.string s) (.int kk k)).run P w=.ok (.int .u8 (byteAt s k.toNat)) w:=by
    have hg:s[k.toNat]?=some s[k.toNat]:=by simp [hlt]
    simp [Instr.index,asIntOf,Sem.run_bind,run_underlying h1,Ty.desc,h.1,hg,byteAt]
   simp [execOp,hv,hi,this]
  ·
   rename_i n e ety cs kk k htd e1 e2
   rw [htd] at ht
   rw [e1] at hx
   rw [e2] at hi
   obtain ⟨vs,hv,hx⟩:=hx
   have hi:a.eval i=.int kk k:=hi
   obtain ⟨hu,hs,-⟩:=ht
   have hte:=G.td_ok hg e
   split at h
   ·
    rename_i ty' htd'
    rw [htd'] at hte
    obtain ⟨q1,q2,q3,q4⟩:=hte
    obtain ⟨r1,r2,r3⟩:=scalar_desc q4
    obtain ⟨k1,k2,k3,k4⟩:=h
    have hlt:k.toNat<cs.length:=by omega
    have hget:cs.getD k.toNat .any=cs[k.toNat]:=by rw [List.getD_eq_getElem?_getD,List.getElem?_eq_getElem hlt]; rfl
    obtain ⟨z,u1,u2,u3⟩:=hx.get _ _ (List.getElem?_eq_getElem hlt)
    have hs1:(P.info? e).map (fun i=>i.size)=some 1:=by rw [hs,k1]
    refine ⟨z,?_,by rw [hget]; exact u2⟩
    have:(Instr.index u (.agg vs.toArray) (.int kk k)).run P w=.ok z w:=by
     simp [Instr.index,asIntOf,Sem.run_bind,run_underlying hu,k3,k4,run_sizeOf hs1,part,run_isAgg_sc (w:=w) q1 r1 r2,u1]
    simp [execOp,hv,hi,this]
   ·
    exact h.elim
  ·
   exact h.elim
 ·
  rename_i u m k ok
  obtain ⟨z,h1,h2⟩:=lookupEv_sound hg hr u _ _ _ _ (relRV_av (hρ m (by simp [Op.operands]))) (relRV_av (hρ k (by simp [Op.operands]))) ok h
  exact ⟨z,by simp [execOp,h1],h2⟩
 ·
  rename_i f first caps
  unfold funcEv at h ⊢
  split at h
  ·
   rename_i e1 e2
   obtain ⟨ps,k1,k2⟩:=allBox_sound caps.toList ρ a [] (fun y hy=>hρ y (by simp [Op.operands]; simp at hy; simp [hy])) e2
   have hf:first=#[]:=by simpa using e1
   subst hf
   cases k2
   refine ⟨.func (.func f) #[] (caps.map a.eval),by simp [execOp,Instr.makeFunc],[],?_,.nil⟩
   rw [map_arr,k1]
   rfl
  ·
   rename_i ids _ e1 e2
   obtain ⟨ps,k1,k2⟩:=allBox_sound caps.toList ρ a ids (fun y hy=>hρ y (by simp [Op.operands]; simp at hy; simp [hy])) e2
   have hf:first=#[]:=by simpa using e1
   subst hf
   refine ⟨.func (.func f) #[] (caps.map a.eval),by simp [execOp,Instr.makeFunc],ps,?_,k2⟩
   rw [← k1,map_arr]
  ·
   rename_i cps e1 _ e2
   have hf:first=#[]:=by simpa using e1
   subst hf
   refine ⟨.func (.func f) #[] (caps.map a.eval),by simp [execOp,Instr.makeFunc],caps.toList.map a.eval,by rw [map_arr],?_⟩
   exact allEp_sound caps.toList ρ a cps (fun y hy=>hρ y (by simp [Op.operands]; simp at hy; simp [hy])) e2
  ·
   rename_i x0 e1 e2
   obtain ⟨ps,k1,k2⟩:=allBox_sound caps.toList ρ a [] (fun y hy=>hρ y (by simp [Op.operands]; simp at hy; simp [hy])) e2
   obtain ⟨x,rfl,rfl⟩:∃ x,first=#[x]∧ρ x=x0:=by
    obtain ⟨l⟩:=first
    rcases l with _ | ⟨x,_ | ⟨y,l⟩⟩
    ·
     simp at e1
    ·
     simp at e1; exact ⟨x,rfl,e1⟩
    ·
     simp at e1
   cases k2
   have hx:=relRV_av (hρ x (by simp [Op.operands]))
   unfold boundEv at h ⊢
   split at h
   ·
    rename_i id off he
    rw [he] at hx
    refine ⟨.func (.func f) #[a.eval x] (caps.map a.eval),by simp [execOp,Instr.makeFunc],hx.1,a.eval x,?_,hx.2⟩
    rw [map_arr,k1]
    rfl
   ·
    split at h
    ·
     rename_i c hc
     obtain ⟨cs,h1,h2⟩:=avSig_sound hc hx h
     refine ⟨.func (.func f) #[a.eval x] (caps.map a.eval),by simp [execOp,Instr.makeFunc],?_⟩
     rw [map_arr,k1,h1]
     exact repD_bndOf f h2
    ·
     exact h.elim
  ·
   exact h.elim
 ·
  rename_i xs ts
  unfold lenArgs at h ⊢
  split at h
  ·
   rename_i x u e1 e2
   obtain rfl:xs=#[x]:=by cases xs; simpa using e1
   obtain rfl:ts=#[u]:=by cases ts; simpa using e2
   obtain ⟨z,h1,h2⟩:=lenEv_sound hg u _ _ (relRV_av (hρ x (by simp [Op.operands,Call.operands]))) h t
   exact ⟨z,by simp [execOp,resolve,invoke,builtin,h1],h2⟩
  ·
   exact h.elim
 ·
  rename_i xs ts
  unfold capArgs at h ⊢
  split at h
  ·
   rename_i x u e1 e2
   obtain rfl:xs=#[x]:=by cases xs; simpa using e1
   obtain rfl:ts=#[u]:=by cases ts; simpa using e2
   obtain ⟨z,h1,h2⟩:=capEv_sound hg u _ _ (relRV_av (hρ x (by simp [Op.operands,Call.operands]))) h t
   exact ⟨z,by simp [execOp,resolve,invoke,builtin,h1],h2⟩
  ·
   exact h.elim
 ·
  rename_i xs ts
  obtain ⟨z,h1,h2⟩:=minEv_sound (P:=P) _ _ (map_rel xs.toList ρ a (fun y hy=>hρ y (by simp [Op.operands,Call.operands]; simpa using hy))) false h ts t
  exact ⟨z,by simp at h1; simp [execOp,resolve,invoke,builtin,map_arr,h1],h2⟩
 ·
  rename_i xs ts
  obtain ⟨z,h1,h2⟩:=minEv_sound (P:=P) _ _ (map_rel xs.toList ρ a (fun y hy=>hρ y (by simp [Op.operands,Call.operands]; simpa using hy))) true h ts t
  exact ⟨z,by simp at h1; simp [execOp,resolve,invoke,builtin,map_arr,h1],h2⟩
 ·
  exact h.elim
end
end Go.Am
namespace Go.Am
open Go.RowKit
section
variable {w:World} {M0:Nat→Prop} {bs:Bs} {hp:List Blk}
theorem at_lt {id b:Nat} (h:bs.at id=some b):id<bs.length:=by
 unfold Bs.at at h
 rcases Nat.lt_or_ge id bs.length with h' | h'
 ·
  exact h'
 ·
  rw [List.getElem?_eq_none h'] at h; cases h
theorem look_lt {id:Nat} (h:Blk.look hp id≠.dead):id<hp.length:=by
 unfold Blk.look at h
 rcases Nat.lt_or_ge id hp.length with h' | h'
 ·
  exact h'
 ·
  rw [List.getElem?_eq_none h'] at h; exact absurd rfl h
theorem at_push (x:Option Nat) (id:Nat):Bs.at (bs++[x]) id=if id=bs.length then x else bs.at id:=by
 unfold Bs.at
 rcases Nat.lt_trichotomy id bs.length with h | h | h
 ·
  rw [List.getElem?_append_left h,if_neg (by omega)]
 ·
  subst h; simp
 ·
  rw [List.getElem?_eq_none (by simp; omega),List.getElem?_eq_none (by omega),if_neg (by omega)]
theorem look_push (x:Blk) (id:Nat):Blk.look (hp++[x]) id=if id=hp.length then x else Blk.look hp id:=by
 unfold Blk.look
 rcases Nat.lt_trichotomy id hp.length with h | h | h
 ·
  rw [List.getElem?_append_left h,if_neg (by omega)]
 ·
  subst h; simp
 ·
  rw [List.getElem?_eq_none (by simp; omega),List.getElem?_eq_none (by omega),if_neg (by omega)]
theorem at_set (i:Nat) (x:Option Nat) (id:Nat) (hi:i<bs.length):Bs.at (bs.set i x) id=if id=i then x else bs.at id:=by
 unfold Bs.at
 by_cases h:id=i
 ·
  subst h; simp [hi]
 ·
  rw [List.getElem?_set_ne (Ne.symm h),if_neg h]
theorem look_set (i:Nat) (x:Blk) (id:Nat) (hi:i<hp.length):Blk.look (hp.set i x) id=if id=i then x else Blk.look hp id:=by
 unfold Blk.look
 by_cases h:id=i
 ·
  subst h; simp [hi]
 ·
  rw [List.getElem?_set_ne (Ne.symm h),if_neg h]
theorem HR.keep (hr:HR w M0 bs hp) {w':World} (he:Evo (Mof M0 bs) (Mof M0 bs) w w') (hs:∀ id b,bs.at id=some b→w'.heap[b]?=w.heap[b]?) (ho:∀ b,b<w.heap.size→(∀ id,bs.at id≠some b)→w'.heap[b]?=w.heap[b]?) :
  HR w' M0 bs hp∧Step false w (Mof M0 bs) bs hp w' (Mof M0 bs) bs hp:=by
 have hst:Step false w (Mof M0 bs) bs hp w' (Mof M0 bs) bs hp :=
  ⟨he,Nat.le_refl _,fun id cs _ h=>⟨⟨cs,h⟩,rfl⟩,fun id b k u es h1 h2=>⟨h1,es,h2⟩,fun id al cs _ h=>⟨al,cs,h,.inr ⟨rfl,rfl,fun _=>rfl,fun b hb cap size ho=>by
   obtain ⟨cur,e,h1,h2⟩:=ho
   exact ⟨cur,e,by rw [hs id b hb]; exact h1,h2⟩⟩⟩,fun _=>⟨ho,fun _ _ h=>h,fun _ _ _ _ _ h=>h⟩⟩
 refine ⟨⟨hr.len,fun b hb=>Nat.lt_of_lt_of_le (hr.m0 b hb) he.size,fun id b h=>Nat.lt_of_lt_of_le (hr.lt id b h) he.size,hr.inj,hr.out,hr.al,?_,?_,?_,hr.gl.evo hst.evo⟩,hst⟩
 ·
  intro id cs hl
  obtain ⟨b,cur,e,h1,h2,h3,h4⟩:=hr.cells id cs hl
  refine ⟨b,cur,e,h1,by rw [hs id b h1]; exact h2,h3,fun j x hj => ?_⟩
  obtain ⟨u,k1,k2,k3⟩:=h4 j x hj
  exact ⟨u,k1,k2,relSV_step hst x u k3⟩
 ·
  intro id al cs b hl hb
  obtain ⟨cur,e,h2,h4⟩:=hr.arr id al cs b hl hb
  refine ⟨cur,e,by rw [hs id b hb]; exact h2,fun j x hj => ?_⟩
  obtain ⟨u,k1,k2,k3⟩:=h4 j x hj
  exact ⟨u,k1,k2,relSV_step hst x u k3⟩
 ·
  intro id k v es hl
  obtain ⟨b,ents,clock,h1,h2,h3⟩:=hr.map id k v es hl
  exact ⟨b,ents,clock,h1,by rw [hs id b h1]; exact h2,h3.imp fun x m hm=>⟨hm.1,repV_evo he hm.2⟩⟩
theorem HR.keep_alloc (hr:HR w M0 bs hp) (o:Obj):HR (w.alloc o) M0 bs hp∧Step false w (Mof M0 bs) bs hp (w.alloc o) (Mof M0 bs) bs hp :=
 hr.keep (Evo.alloc _ _ _) (fun id b hb=>Below.heap_alloc w o b (hr.lt id b hb)) (fun b hb _=>Below.heap_alloc w o b hb)
theorem HR.keep_drew (hr:HR w M0 bs hp):HR { w with drawn:=w.drawn+1 } M0 bs hp∧Step false w (Mof M0 bs) bs hp { w with drawn:=w.drawn+1 } (Mof M0 bs) bs hp :=
 hr.keep (Evo.drew _ _) (fun _ _ _=>rfl) (fun _ _ _=>rfl)
def IsBlk (w:World) (M:Nat→Prop) (bs:Bs) (hp:List Blk) (o:Obj):Blk→Prop
 | .dead=>False
 | .trace ..=>False
 | .cells cs=>∃ cur e,o=.cells cur e (0,0)∧cs.length=cur.size∧∀ (j:Nat) (x:SV),cs[j]?=some x→∃ u,cur[j]?=some u∧u.oneCell'=true∧relSV w M bs hp x u
 | .arr _ cs=>∃ cur e,o=.cells cur e (0,0)∧∀ (j:Nat) (x:SV),cs[j]?=some x→∃ u,cur[j]?=some u∧u.oneCell'=true∧relSV w M bs hp x u
 | .map k v es=>∃ ents clock,o=.map ents clock∧All2 (fun x (m:MapEntry)=>m.key=kval k x.1∧repV w M v x.2 m.val) es ents.toList
theorem Mof_push (x:Option Nat) (b:Nat):Mof M0 (bs++[x]) b↔Mof M0 bs b∨x=some b:=by
 unfold Mof
 constructor
 ·
  rintro (h | ⟨id,h⟩)
  ·
   exact .inl (.inl h)
  ·
   rw [at_push] at h
   split at h
   ·
    exact .inr h
   ·
    exact .inl (.inr ⟨id,h⟩)
 ·
  rintro ((h | ⟨id,h⟩) | h)
  ·
   exact .inl h
  ·
   refine .inr ⟨id,?_⟩
   rw [at_push,if_neg (by have:=at_lt h; omega)]; exact h
  ·
   exact .inr ⟨bs.length,by rw [at_push,if_pos rfl]; exact h⟩
theorem HR.push (hr:HR w M0 bs hp) (o:Obj) (k:Blk) (hk:IsBlk w (Mof M0 bs) bs hp o k) :
  HR (w.alloc o) M0 (bs++[some w.heap.size]) (hp++[k])∧Step false w (Mof M0 bs) bs hp (w.alloc o) (Mof M0 (bs++[some w.heap.size])) (bs++[some w.heap.size]) (hp++[k]):=by
 have he:Evo (Mof M0 bs) (Mof M0 (bs++[some w.heap.size])) w (w.alloc o) :=
  ⟨rfl,rfl,rfl,by simp,Nat.le_refl _,fun b hb _=>Below.heap_alloc w o b hb,fun b hb hn hm=>by
   rcases (Mof_push _ _).1 hm with h | h
   ·
    exact hn h
   ·
    injection h with h; omega⟩
 have hat:∀ id b,bs.at id=some b→Bs.at (bs++[some w.heap.size]) id=some b:=fun id b h=>by rw [at_push,if_neg (by have:=at_lt h; omega)]; exact h
 have hlk:∀ id,id<hp.length→Blk.look (hp++[k]) id=Blk.look hp id:=fun id h=>by rw [look_push,if_neg (by omega)]
 have hlk':∀ id,Blk.look hp id≠.dead→Blk.look (hp++[k]) id=Blk.look hp id:=fun id h=>hlk id (look_lt h)
 have hst:Step false w (Mof M0 bs) bs hp (w.alloc o) (Mof M0 (bs++[some w.heap.size])) (bs++[some w.heap.size]) (hp++[k]):=by
  refine ⟨he,by simp,fun id cs h1 h2=>⟨⟨cs,by rw [← hlk id h1]; exact h2⟩,by rw [at_push,if_neg (by have:=hr.len; omega)]⟩,fun id b k u es h1 h2=>⟨hat id b h1,es,by rw [hlk' id (by rw [h2]; simp)]; exact h2⟩,?_,fun _=>⟨fun b hb _=>Below.heap_alloc w o b hb,fun b hb hn id h=>by
   rw [at_push] at h
   split at h
   ·
    injection h with h; omega
   ·
    exact hn id h,fun id l xs i st h=>by
   rw [look_push] at h
   split at h
   ·
    subst h; exact hk.elim
   ·
    exact h⟩⟩
  intro id al cs hid hl
  rw [hlk id hid] at hl
  refine ⟨al,cs,hl,.inr ⟨rfl,by rw [at_push,if_neg (by have:=hr.len; omega)],fun _=>rfl,fun b hb cap size ho => ?_⟩⟩
  obtain ⟨cur,e,h1,h2⟩:=ho
  exact ⟨cur,e,by rw [Below.heap_alloc w o b (hr.lt id b hb)]; exact h1,h2⟩
 have hnew:(w.alloc o).heap[w.heap.size]?=some o:=by show (w.heap.push o)[w.heap.size]?=some o; simp
 refine ⟨⟨by simp [hr.len],fun b hb=>Nat.lt_of_lt_of_le (hr.m0 b hb) he.size,?_,?_,?_,?_,?_,?_,?_,hr.gl.evo hst.evo⟩,hst⟩
 ·
  intro id b h
  rw [at_push] at h
  split at h
  ·
   injection h with h; subst h; simp
  ·
   exact Nat.lt_of_lt_of_le (hr.lt id b h) he.size
 ·
  intro i j b h1 h2
  rw [at_push] at h1 h2
  split at h1 <;> split at h2
  ·
   omega
  ·
   injection h1 with h1; have:=hr.lt j b h2; omega
  ·
   injection h2 with h2; have:=hr.lt i b h1; omega
  ·
   exact hr.inj i j b h1 h2
 ·
  intro id b h hm
  rw [at_push] at h
  split at h
  ·
   injection h with h; have:=hr.m0 b hm; omega
  ·
   exact hr.out id b h hm
 ·
  intro id cs h
  rw [look_push] at h
  split at h
  ·
   rename_i e
   exact ⟨w.heap.size,by rw [at_push,if_pos (by have:=hr.len; omega)]⟩
  ·
   obtain ⟨b,hb⟩:=hr.al id cs h
   exact ⟨b,hat id b hb⟩
 ·
  intro id cs hl
  rw [look_push] at hl
  split at hl
  ·
   rename_i e
   subst hl
   obtain ⟨cur,e',rfl,h2,h3⟩:=hk
   refine ⟨w.heap.size,cur,e',by rw [at_push,if_pos (by have:=hr.len; omega)],hnew,h2,fun j x hj => ?_⟩
   obtain ⟨u,k1,k2,k3⟩:=h3 j x hj
   exact ⟨u,k1,k2,relSV_step hst x u k3⟩
  ·
   obtain ⟨b,cur,e,h1,h2,h3,h4⟩:=hr.cells id cs hl
   refine ⟨b,cur,e,hat id b h1,by rw [Below.heap_alloc w o b (hr.lt id b h1)]; exact h2,h3,fun j x hj => ?_⟩
   obtain ⟨u,k1,k2,k3⟩:=h4 j x hj
   exact ⟨u,k1,k2,relSV_step hst x u k3⟩
 ·
  intro id al cs b hl hb
  rw [look_push] at hl
  rw [at_push] at hb
  split at hl
  ·
   rename_i e
   subst hl
   rw [if_pos (by have:=hr.len; omega)] at hb
   injection hb with hb
   subst hb
   obtain ⟨cur,e',rfl,h3⟩:=hk
   refine ⟨cur,e',hnew,fun j x hj => ?_⟩
   obtain ⟨u,k1,k2,k3⟩:=h3 j x hj
   exact ⟨u,k1,k2,relSV_step hst x u k3⟩
  ·
   rw [if_neg (by have:=hr.len; omega)] at hb
   obtain ⟨cur,e,h2,h4⟩:=hr.arr id al cs b hl hb
   refine ⟨cur,e,by rw [Below.heap_alloc w o b (hr.lt id b hb)]; exact h2,fun j x hj => ?_⟩
   obtain ⟨u,k1,k2,k3⟩:=h4 j x hj
   exact ⟨u,k1,k2,relSV_step hst x u k3⟩
 ·
  intro id k' v es hl
  rw [look_push] at hl
  split at hl
  ·
   rename_i e
   subst hl
   obtain ⟨ents,clock,rfl,h3⟩:=hk
   exact ⟨w.heap.size,ents,clock,by rw [at_push,if_pos (by have:=hr.len; omega)],hnew,h3.imp fun x m hm=>⟨hm.1,repV_evo he hm.2⟩⟩
  ·
   obtain ⟨b,ents,clock,h1,h2,h3⟩:=hr.map id k' v es hl
   exact ⟨b,ents,clock,hat id b h1,by rw [Below.heap_alloc w o b (hr.lt id b h1)]; exact h2,h3.imp fun x m hm=>⟨hm.1,repV_evo he hm.2⟩⟩
theorem HR.virt (hr:HR w M0 bs hp) (cs:List SV) :
  HR w M0 (bs++[none]) (hp++[.arr false cs])∧Step false w (Mof M0 bs) bs hp w (Mof M0 (bs++[none])) (bs++[none]) (hp++[.arr false cs]):=by
 have he:Evo (Mof M0 bs) (Mof M0 (bs++[none])) w w:=Evo.more w fun b _ hm=>by
  rcases (Mof_push _ _).1 hm with h | h
  ·
   exact h
  ·
   cases h
 have hat:∀ id b,Bs.at (bs++[none]) id=some b↔bs.at id=some b:=fun id b=>by
  rw [at_push]
  split
  ·
   rename_i e; subst e; constructor
   ·
    intro h; cases h
   ·
    intro h; have:=at_lt h; omega
  ·
   rfl
 have hlk:∀ id,id<hp.length→Blk.look (hp++[.arr false cs]) id=Blk.look hp id:=fun id h=>by rw [look_push,if_neg (by omega)]
 have hlk':∀ id,Blk.look hp id≠.dead→Blk.look (hp++[.arr false cs]) id=Blk.look hp id:=fun id h=>hlk id (look_lt h)
 have hst:Step false w (Mof M0 bs) bs hp w (Mof M0 (bs++[none])) (bs++[none]) (hp++[.arr false cs]):=by
  refine ⟨he,by simp,fun id cs h1 h2=>⟨⟨cs,by rw [← hlk id h1]; exact h2⟩,by rw [at_push,if_neg (by have:=hr.len; omega)]⟩,fun id b k u es h1 h2=>⟨(hat id b).2 h1,es,by rw [hlk' id (by rw [h2]; simp)]; exact h2⟩,?_,fun _=>⟨fun b hb _=>rfl,fun b hb hn id h=>hn id ((hat id b).1 h),fun id l xs i st h=>by
   rw [look_push] at h
   split at h
   ·
    cases h
   ·
    exact h⟩⟩
  intro id al cs hid hl
  rw [hlk id hid] at hl
  exact ⟨al,cs,hl,.inr ⟨rfl,by rw [at_push,if_neg (by have:=hr.len; omega)],fun _=>rfl,fun b hb cap size ho=>ho⟩⟩
 refine ⟨⟨by simp [hr.len],hr.m0,fun id b h=>hr.lt id b ((hat id b).1 h),fun i j b h1 h2=>hr.inj i j b ((hat i b).1 h1) ((hat j b).1 h2),fun id b h=>hr.out id b ((hat id b).1 h),?_,?_,?_,?_,hr.gl.evo hst.evo⟩,hst⟩
 ·
  intro id cs' h
  rw [look_push] at h
  split at h
  ·
   cases h
  ·
   obtain ⟨b,hb⟩:=hr.al id cs' h
   exact ⟨b,(hat id b).2 hb⟩
 ·
  intro id cs' hl
  rw [look_push] at hl
  split at hl
  ·
   cases hl
  ·
   obtain ⟨b,cur,e,h1,h2,h3,h4⟩:=hr.cells id cs' hl
   refine ⟨b,cur,e,(hat id b).2 h1,h2,h3,fun j x hj => ?_⟩
   obtain ⟨u,k1,k2,k3⟩:=h4 j x hj
   exact ⟨u,k1,k2,relSV_step hst x u k3⟩
 ·
  intro id al cs' b hl hb
  have hb:=(hat id b).1 hb
  rw [look_push,if_neg (by have:=at_lt hb; have:=hr.len; omega)] at hl
  obtain ⟨cur,e,h2,h4⟩:=hr.arr id al cs' b hl hb
  refine ⟨cur,e,h2,fun j x hj => ?_⟩
  obtain ⟨u,k1,k2,k3⟩:=h4 j x hj
  exact ⟨u,k1,k2,relSV_step hst x u k3⟩
 ·
  intro id k' v es hl
  rw [look_push] at hl
  split at hl
  ·
   cases hl
  ·
   obtain ⟨b,ents,clock,h1,h2,h3⟩:=hr.map id k' v es hl
   exact ⟨b,ents,clock,(hat id b).2 h1,h2,h3.imp fun x m hm=>⟨hm.1,repV_evo he hm.2⟩⟩
theorem HR.cut (hr:HR w M0 bs hp) {id b:Nat} {cs cs':List SV} (hl:Blk.look hp id=.arr true cs) (hb:bs.at id=some b) (hpre:∀ (j:Nat) (x:SV),cs'[j]?=some x→cs[j]?=some x) :
  HR w M0 (bs.set id none++[some b]) (hp.set id .dead++[.arr true cs']) ∧
   Step false w (Mof M0 bs) bs hp w (Mof M0 (bs.set id none++[some b])) (bs.set id none++[some b]) (hp.set id .dead++[.arr true cs']):=by
 have hid:id<hp.length:=look_lt (by rw [hl]; simp)
 have hid':id<bs.length:=by rw [hr.len]; exact hid
 have hlen:=hr.len
 have hat:∀ j,Bs.at (bs.set id none++[some b]) j=if j=hp.length then some b else if j=id then none else bs.at j:=fun j=>by
  rw [at_push]
  simp only [List.length_set,hlen]
  split
  ·
   rfl
  ·
   exact at_set id _ j hid'
 have hlk:∀ j,Blk.look (hp.set id .dead++[.arr true cs']) j=if j=hp.length then .arr true cs' else if j=id then .dead else Blk.look hp j:=fun j=>by
  rw [look_push]
  simp only [List.length_set]
  split
  ·
   rfl
  ·
   exact look_set id _ j hid
 have hat':∀ j c,Bs.at (bs.set id none++[some b]) j=some c→(j=hp.length∧c=b)∨(j≠hp.length∧j≠id∧bs.at j=some c):=by
  intro j c h
  rw [hat] at h
  split at h
  ·
   injection h with h; exact .inl ⟨by assumption,h.symm⟩
  ·
   split at h
   ·
    cases h
   ·
    exact .inr ⟨by assumption,by assumption,h⟩
 have hlk':∀ j x,Blk.look (hp.set id .dead++[.arr true cs']) j=x→x≠.dead→(j=hp.length∧x=.arr true cs')∨(j≠hp.length∧j≠id∧Blk.look hp j=x):=by
  intro j x h hne
  rw [hlk] at h
  split at h
  ·
   exact .inl ⟨by assumption,h.symm⟩
  ·
   split at h
   ·
    exact absurd h.symm hne
   ·
    exact .inr ⟨by assumption,by assumption,h⟩
 have hmof:∀ c,Mof M0 (bs.set id none++[some b]) c→Mof M0 bs c:=by
  rintro c (h | ⟨j,h⟩)
  ·
   exact .inl h
  ·
   rcases hat' j c h with ⟨_,rfl⟩ | ⟨_,_,h⟩
   ·
    exact .inr ⟨id,hb⟩
   ·
    exact .inr ⟨j,h⟩
 have he:Evo (Mof M0 bs) (Mof M0 (bs.set id none++[some b])) w w:=Evo.more w fun c _=>hmof c
 have hst:Step false w (Mof M0 bs) bs hp w (Mof M0 (bs.set id none++[some b])) (bs.set id none++[some b]) (hp.set id .dead++[.arr true cs']):=by
  refine ⟨he,by simp,?_,?_,?_,fun _=>⟨fun _ _ _=>rfl,fun c hc hn j h => ?_,fun j l ys i st h => ?_⟩⟩
  ·
   intro j cs0 h1 h2
   rcases hlk' j _ h2 (by simp) with ⟨_,h⟩ | ⟨n1,n2,h⟩
   ·
    cases h
   ·
    exact ⟨⟨cs0,h⟩,by rw [hat,if_neg n1,if_neg n2]⟩
  ·
   intro j c k u es h1 h2
   have n2:j≠id:=fun e=>by subst e; rw [hl] at h2; cases h2
   have n1:j≠hp.length:=fun e=>by have:j<hp.length:=look_lt (by rw [h2]; simp); omega
   rw [hat,hlk,if_neg n1,if_neg n2,if_neg n1,if_neg n2]
   exact ⟨h1,es,h2⟩
  ·
   intro j al' cs0 hj h
   rcases hlk' j _ h (by simp) with ⟨e,_⟩ | ⟨n1,n2,h⟩
   ·
    omega
   ·
    exact ⟨al',cs0,h,.inr ⟨rfl,by rw [hat,if_neg n1,if_neg n2],fun _=>rfl,fun c hc cap size ho=>ho⟩⟩
  ·
   rcases hat' j c h with ⟨_,rfl⟩ | ⟨_,_,h⟩
   ·
    exact hn id hb
   ·
    exact hn j h
  ·
   rcases hlk' j _ h (by simp) with ⟨_,h⟩ | ⟨_,_,h⟩
   ·
    cases h
   ·
    exact h
 refine ⟨⟨by simp [hlen],hr.m0,fun j c h => ?_,fun i j c h1 h2 => ?_,fun j c h => ?_,?_,?_,?_,?_,hr.gl.evo hst.evo⟩,hst⟩
 ·
  rcases hat' j c h with ⟨_,rfl⟩ | ⟨_,_,h⟩
  ·
   exact hr.lt id c hb
  ·
   exact hr.lt j c h
 ·
  rcases hat' i c h1 with ⟨e1,e4⟩ | ⟨n1,n2,g1⟩ <;> rcases hat' j _ h2 with ⟨e2,e3⟩ | ⟨m1,m2,g2⟩
  ·
   omega
  ·
   subst e4; exact absurd (hr.inj j id _ g2 hb) m2
  ·
   subst e3; exact absurd (hr.inj i id _ g1 hb) n2
  ·
   exact hr.inj i j _ g1 g2
 ·
  rcases hat' j c h with ⟨_,rfl⟩ | ⟨_,_,h⟩
  ·
   exact hr.out id c hb
  ·
   exact hr.out j c h
 ·
  intro j cs0 h
  rcases hlk' j _ h (by simp) with ⟨e,_⟩ | ⟨n1,n2,h⟩
  ·
   exact ⟨b,by rw [hat,if_pos e]⟩
  ·
   obtain ⟨c,hc⟩:=hr.al j cs0 h
   exact ⟨c,by rw [hat,if_neg n1,if_neg n2]; exact hc⟩
 ·
  intro j cs0 h
  rcases hlk' j _ h (by simp) with ⟨_,h⟩ | ⟨n1,n2,h⟩
  ·
   cases h
  ·
   obtain ⟨c,cur,e,h1,h2,h3,h4⟩:=hr.cells j cs0 h
   refine ⟨c,cur,e,by rw [hat,if_neg n1,if_neg n2]; exact h1,h2,h3,fun i x hi => ?_⟩
   obtain ⟨u,k1,k2,k3⟩:=h4 i x hi
   exact ⟨u,k1,k2,relSV_step hst x u k3⟩
 ·
  intro j al' cs0 c h hc
  rcases hlk' j _ h (by simp) with ⟨e,hx⟩ | ⟨n1,n2,h⟩
  ·
   injection hx with _ hx
   subst hx
   rcases hat' j c hc with ⟨_,rfl⟩ | ⟨n,_,_⟩
   ·
    obtain ⟨cur,e,h2,h4⟩:=hr.arr id true cs c hl hb
    refine ⟨cur,e,h2,fun i x hi => ?_⟩
    obtain ⟨u,k1,k2,k3⟩:=h4 i x (hpre i x hi)
    exact ⟨u,k1,k2,relSV_step hst x u k3⟩
   ·
    exact absurd e n
  ·
   rcases hat' j c hc with ⟨e,_⟩ | ⟨_,_,hc⟩
   ·
    exact absurd e n1
   ·
    obtain ⟨cur,e,h2,h4⟩:=hr.arr j al' cs0 c h hc
    refine ⟨cur,e,h2,fun i x hi => ?_⟩
    obtain ⟨u,k1,k2,k3⟩:=h4 i x hi
    exact ⟨u,k1,k2,relSV_step hst x u k3⟩
 ·
  intro j k v es h
  rcases hlk' j _ h (by simp) with ⟨_,h⟩ | ⟨n1,n2,h⟩
  ·
   cases h
  ·
   obtain ⟨c,ents,clock,h1,h2,h3⟩:=hr.map j k v es h
   exact ⟨c,ents,clock,by rw [hat,if_neg n1,if_neg n2]; exact h1,h2,h3.imp fun x m hm=>⟨hm.1,repV_evo he hm.2⟩⟩
def Goes (w w':World) (b:Nat):Blk→Blk→Prop
 | .cells _,.cells _=>True
 | .arr _ cs0,.arr _ cs=>cs0.length<cs.length∨(cs0.length=cs.length∧∀ cap size,OwnAt w b cap size→OwnAt w' b cap size)
 | .map k v _,.map k' v' _=>k=k'∧v=v'
 | _,_=>False
theorem HR.rewrite (hr:HR w M0 bs hp) {id b:Nat} (hb:bs.at id=some b) {w':World} (he:Evo (Mof M0 bs) (Mof M0 bs) w w') (hs:∀ c,c≠b→c<w.heap.size→w'.heap[c]?=w.heap[c]?)
  {o:Obj} (ho:w'.heap[b]?=some o) (k:Blk) (hk:IsBlk w (Mof M0 bs) bs hp o k) (hgo:Goes w w' b (Blk.look hp id) k) :
  HR w' M0 bs (hp.set id k)∧Step false w (Mof M0 bs) bs hp w' (Mof M0 bs) bs (hp.set id k):=by
 have hid:id<hp.length:=by have:=at_lt hb; have:=hr.len; omega
 have hlk:∀ j,Blk.look (hp.set id k) j=if j=id then k else Blk.look hp j:=fun j=>look_set id k j hid
 have hsame:∀ j c,j≠id→bs.at j=some c→w'.heap[c]?=w.heap[c]?:=fun j c hj hc=>hs c (fun e=>hj (hr.inj j id b (e▸hc) hb)) (hr.lt j c hc)
 have hst:Step false w (Mof M0 bs) bs hp w' (Mof M0 bs) bs (hp.set id k):=by
  refine ⟨he,by simp,?_,?_,?_,fun _=>⟨fun c hc hn=>hs c (fun e=>hn id (e▸hb)) hc,fun c hc hn=>hn,fun j l xs i st h=>by
   rw [hlk] at h
   split at h
   ·
    subst h; exact hk.elim
   ·
    exact h⟩⟩
  ·
   intro j cs h1 h2
   refine ⟨?_,rfl⟩
   rw [hlk] at h2
   split at h2
   ·
    rename_i e; subst e; subst h2
    cases hold:Blk.look hp j with
    | cells cs0=>exact ⟨cs0,rfl⟩
    | _=>rw [hold] at hgo; exact hgo.elim
   ·
    exact ⟨cs,h2⟩
  ·
   intro j c kt u es h1 h2
   refine ⟨h1,?_⟩
   rw [hlk]
   split
   ·
    rename_i e; subst e
    rw [h2] at hgo
    cases k <;> first | exact hgo.elim | skip
    obtain ⟨rfl,rfl⟩:=hgo
    exact ⟨_,rfl⟩
   ·
    exact ⟨es,h2⟩
  ·
   intro j al cs hj hl
   rw [hlk] at hl
   split at hl
   ·
    rename_i e; subst e; subst hl
    cases hold:Blk.look hp j with
    | dead=>rw [hold] at hgo; exact hgo.elim
    | cells c=>rw [hold] at hgo; exact hgo.elim
    | trace l xs i st=>rw [hold] at hgo; exact hgo.elim
    | map k' v' es'=>rw [hold] at hgo; exact hgo.elim
    | arr al0 cs0 =>
     rw [hold] at hgo
     refine ⟨al0,cs0,rfl,?_⟩
     rcases hgo with h | ⟨h1,h2⟩
     ·
      exact .inl h
     ·
      exact .inr ⟨h1,rfl,(fun h=>by rw [hb] at h; cases h),(fun c hc=>by rw [hb] at hc; cases hc; exact h2)⟩
   ·
    rename_i hne
    exact ⟨al,cs,hl,.inr ⟨rfl,rfl,fun _=>rfl,fun c hc cap size ho=>by
     obtain ⟨cur,e,h1,h2⟩:=ho
     exact ⟨cur,e,by rw [hsame j c hne hc]; exact h1,h2⟩⟩⟩
 refine ⟨⟨by simp [hr.len],fun b hb=>Nat.lt_of_lt_of_le (hr.m0 b hb) he.size,fun j c h=>Nat.lt_of_lt_of_le (hr.lt j c h) he.size,hr.inj,hr.out,?_,?_,?_,?_,hr.gl.evo hst.evo⟩,hst⟩
 ·
  intro j cs hl
  rw [hlk] at hl
  split at hl
  ·
   rename_i e; subst e; exact ⟨b,hb⟩
  ·
   exact hr.al j cs hl
 ·
  intro j cs hl
  rw [hlk] at hl
  split at hl
  ·
   rename_i e; subst e; subst hl
   obtain ⟨cur,e,rfl,h2,h3⟩:=hk
   refine ⟨b,cur,e,hb,ho,h2,fun i x hi => ?_⟩
   obtain ⟨u,k1,k2,k3⟩:=h3 i x hi
   exact ⟨u,k1,k2,relSV_step hst x u k3⟩
  ·
   rename_i hne
   obtain ⟨c,cur,e,h1,h2,h3,h4⟩:=hr.cells j cs hl
   refine ⟨c,cur,e,h1,by rw [hsame j c hne h1]; exact h2,h3,fun i x hi => ?_⟩
   obtain ⟨u,k1,k2,k3⟩:=h4 i x hi
   exact ⟨u,k1,k2,relSV_step hst x u k3⟩
 ·
  intro j al cs c hl hc
  rw [hlk] at hl
  split at hl
  ·
   rename_i e; subst e; subst hl
   rw [hb] at hc; cases hc
   obtain ⟨cur,e,rfl,h3⟩:=hk
   refine ⟨cur,e,ho,fun i x hi => ?_⟩
   obtain ⟨u,k1,k2,k3⟩:=h3 i x hi
   exact ⟨u,k1,k2,relSV_step hst x u k3⟩
  ·
   rename_i hne
   obtain ⟨cur,e,h2,h4⟩:=hr.arr j al cs c hl hc
   refine ⟨cur,e,by rw [hsame j c hne hc]; exact h2,fun i x hi => ?_⟩
   obtain ⟨u,k1,k2,k3⟩:=h4 i x hi
   exact ⟨u,k1,k2,relSV_step hst x u k3⟩
 ·
  intro j kt v es hl
  rw [hlk] at hl
  split at hl
  ·
   rename_i e; subst e; subst hl
   obtain ⟨ents,clock,rfl,h3⟩:=hk
   exact ⟨b,ents,clock,hb,ho,h3.imp fun x m hm=>⟨hm.1,repV_evo he hm.2⟩⟩
  ·
   rename_i hne
   obtain ⟨c,ents,clock,h1,h2,h3⟩:=hr.map j kt v es hl
   exact ⟨c,ents,clock,h1,by rw [hsame j c hne h1]; exact h2,h3.imp fun x m hm=>⟨hm.1,repV_evo he hm.2⟩⟩
theorem Mof_set {id nb:Nat} (hid:id<bs.length) (b:Nat) (h:Mof M0 (bs.set id (some nb)) b):Mof M0 bs b∨b=nb:=by
 rcases h with h | ⟨j,h⟩
 ·
  exact .inl (.inl h)
 ·
  rw [at_set _ _ _ hid] at h
  split at h
  ·
   injection h with h; exact .inr h.symm
  ·
   exact .inl (.inr ⟨j,h⟩)
theorem HR.move (hr:HR w M0 bs hp) {id:Nat} {al0:Bool} {cs0:List SV} (hl0:Blk.look hp id=.arr al0 cs0) (o:Obj) (al:Bool) (cs:List SV) (hlen:cs0.length<cs.length)
  (hk:IsBlk w (Mof M0 bs) bs hp o (.arr al cs)) :
  HR (w.alloc o) M0 (bs.set id (some w.heap.size)) (hp.set id (.arr al cs))∧Step false w (Mof M0 bs) bs hp (w.alloc o) (Mof M0 (bs.set id (some w.heap.size))) (bs.set id (some w.heap.size)) (hp.set id (.arr al cs)):=by
 have hid:id<hp.length:=look_lt (by rw [hl0]; simp)
 have hid':id<bs.length:=by have:=hr.len; omega
 have hlk:∀ j,Blk.look (hp.set id (.arr al cs)) j=if j=id then .arr al cs else Blk.look hp j:=fun j=>look_set id _ j hid
 have hat:∀ j,Bs.at (bs.set id (some w.heap.size)) j=if j=id then some w.heap.size else bs.at j:=fun j=>at_set id _ j hid'
 have he:Evo (Mof M0 bs) (Mof M0 (bs.set id (some w.heap.size))) w (w.alloc o) :=
  ⟨rfl,rfl,rfl,by simp,Nat.le_refl _,fun b hb _=>Below.heap_alloc w o b hb,fun b hb hn hm=>by
   rcases Mof_set hid' b hm with h | h
   ·
    exact hn h
   ·
    omega⟩
 have hst:Step false w (Mof M0 bs) bs hp (w.alloc o) (Mof M0 (bs.set id (some w.heap.size))) (bs.set id (some w.heap.size)) (hp.set id (.arr al cs)):=by
  refine ⟨he,by simp,?_,?_,?_,fun _=>⟨fun b hb _=>Below.heap_alloc w o b hb,fun b hb hn j h=>by
   rw [hat] at h
   split at h
   ·
    injection h with h; omega
   ·
    exact hn j h,fun j l xs i st h=>by
   rw [hlk] at h
   split at h
   ·
    cases h
   ·
    exact h⟩⟩
  ·
   intro j cs' h1 h2
   have hne:j≠id:=fun e=>by subst e; rw [hlk,if_pos rfl] at h2; cases h2
   rw [hlk,if_neg hne] at h2
   rw [hat,if_neg hne]
   exact ⟨⟨cs',h2⟩,rfl⟩
  ·
   intro j c k u es h1 h2
   have hne:j≠id:=fun e=>by subst e; rw [hl0] at h2; cases h2
   rw [hat,hlk,if_neg hne,if_neg hne]
   exact ⟨h1,es,h2⟩
  ·
   intro j al' cs' hj hl
   rw [hlk] at hl
   split at hl
   ·
    rename_i e; subst e; cases hl
    exact ⟨al0,cs0,hl0,.inl hlen⟩
   ·
    rename_i hne
    exact ⟨al',cs',hl,.inr ⟨rfl,by rw [hat,if_neg hne],fun _=>rfl,fun c hc cap size ho=>by
     obtain ⟨cur,e,h1,h2⟩:=ho
     exact ⟨cur,e,by rw [Below.heap_alloc w o c (hr.lt j c hc)]; exact h1,h2⟩⟩⟩
 have hnew:(w.alloc o).heap[w.heap.size]?=some o:=by show (w.heap.push o)[w.heap.size]?=some o; simp
 refine ⟨⟨by simp [hr.len],fun b hb=>Nat.lt_of_lt_of_le (hr.m0 b hb) he.size,?_,?_,?_,?_,?_,?_,?_,hr.gl.evo hst.evo⟩,hst⟩
 ·
  intro j b h
  rw [hat] at h
  split at h
  ·
   injection h with h; subst h; simp
  ·
   exact Nat.lt_of_lt_of_le (hr.lt j b h) he.size
 ·
  intro i j b h1 h2
  rw [hat] at h1 h2
  split at h1 <;> split at h2
  ·
   omega
  ·
   injection h1 with h1; have:=hr.lt j b h2; omega
  ·
   injection h2 with h2; have:=hr.lt i b h1; omega
  ·
   exact hr.inj i j b h1 h2
 ·
  intro j b h hm
  rw [hat] at h
  split at h
  ·
   injection h with h; have:=hr.m0 b hm; omega
  ·
   exact hr.out j b h hm
 ·
  intro j cs' h
  rw [hlk] at h
  rw [hat]
  split at h
  ·
   rename_i e; exact ⟨_,by rw [if_pos e]⟩
  ·
   rename_i hne
   obtain ⟨b,hb⟩:=hr.al j cs' h
   exact ⟨b,by rw [if_neg hne]; exact hb⟩
 ·
  intro j cs' hl
  rw [hlk] at hl
  split at hl
  ·
   cases hl
  ·
   rename_i hne
   obtain ⟨b,cur,e,h1,h2,h3,h4⟩:=hr.cells j cs' hl
   refine ⟨b,cur,e,by rw [hat,if_neg hne]; exact h1,by rw [Below.heap_alloc w o b (hr.lt j b h1)]; exact h2,h3,fun i x hi => ?_⟩
   obtain ⟨u,k1,k2,k3⟩:=h4 i x hi
   exact ⟨u,k1,k2,relSV_step hst x u k3⟩
 ·
  intro j al' cs' b hl hb
  rw [hlk] at hl
  rw [hat] at hb
  split at hl
  ·
   rename_i e
   cases hl
   rw [if_pos e] at hb
   injection hb with hb
   subst hb
   obtain ⟨cur,e',rfl,h3⟩:=hk
   refine ⟨cur,e',hnew,fun i x hi => ?_⟩
   obtain ⟨u,k1,k2,k3⟩:=h3 i x hi
   exact ⟨u,k1,k2,relSV_step hst x u k3⟩
  ·
   rename_i hne
   rw [if_neg hne] at hb
   obtain ⟨cur,e,h2,h4⟩:=hr.arr j al' cs' b hl hb
   refine ⟨cur,e,by rw [Below.heap_alloc w o b (hr.lt j b hb)]; exact h2,fun i x hi => ?_⟩
   obtain ⟨u,k1,k2,k3⟩:=h4 i x hi
   exact ⟨u,k1,k2,relSV_step hst x u k3⟩
 ·
  intro j k' v es hl
  rw [hlk] at hl
  split at hl
  ·
   cases hl
  ·
   rename_i hne
   obtain ⟨b,ents,clock,h1,h2,h3⟩:=hr.map j k' v es hl
   exact ⟨b,ents,clock,by rw [hat,if_neg hne]; exact h1,by rw [Below.heap_alloc w o b (hr.lt j b h1)]; exact h2,h3.imp fun x m hm=>⟨hm.1,repV_evo he hm.2⟩⟩
end
end Go.Am
namespace Go.Am
open Go.RowKit
def spl {α:Type} (l:List α) (off:Nat) (cs:List α):List α:=l.take off++cs++l.drop (off+cs.length)
def AV.good (hp:List Blk):AV→Bool
 | .s .any=>false
 | .s (.val v)=>v.oneCell'
 | .s (.own t id n)=>match Blk.look hp id with
  | .arr _ cs=>cs.length==n*t.size
  | _=>false
 | .s (.eown _ _ _ _)=>false
 | .s (.pre t id n _)=>match Blk.look hp id with
  | .arr _ cs=>cs.length==n*t.size
  | _=>false
 | .s (.suf _ _ _ _)=>false
 | .s (.box id _)=>match Blk.look hp id with
  | .cells _=>true
  | _=>false
 | _=>true
def fillSV (hp:List Blk) (place:Nat→Option (Nat×Nat)):List SV→List (Nat×AV)→Option (List SV)
 | l,[]=>some l
 | l,(i,v)::r=>match place i with
  | none=>none
  | some (off,size)=>if v.good hp=true∧v.cells.length=size∧off+size≤l.length then fillSV hp place (spl l off v.cells) r else none
abbrev coeA (g:G) (t:TypeId) (x:RV):AV:=(coe g t x).av
def nope (hp:List Blk):Prop×RV×List Blk:=(False,.v (.s .any),hp)
def zsvOf:TD→List SV
 | .sc ty=>ty.zsv
 | .slice _ ety _=>[.sl ety [] true]
 | .struct ty=>ty.zsv
 | .func=>[.fv .nofn]
 | .ptr=>[.val (.pointer none)]
 | _=>[]
def allocEv (g:G) (hp:List Blk) (t:TypeId):Prop×RV×List Blk :=
 match g.td t with
 | .sc ty=>(True,.v (.s (.box hp.length 0)),hp++[.cells ty.zsv])
 | .slice _ ety _=>(True,.v (.s (.box hp.length 0)),hp++[.cells [.sl ety [] true]])
 | .struct ty=>(True,.v (.s (.box hp.length 0)),hp++[.cells ty.zsv])
 | .func=>(True,.v (.s (.box hp.length 0)),hp++[.cells [.fv .nofn]])
 | .ptr=>(True,.v (.s (.box hp.length 0)),hp++[.cells [.val (.pointer none)]])
 | .arr n _ ety=>(True,.v (.s (.box hp.length 0)),hp++[.cells (List.replicate n ety.zsv).flatten])
 | _=>nope hp
def boxEv (hp:List Blk) (x:AV):Prop×RV×List Blk:=(x.good hp=true,.v (.s (.box hp.length 0)),hp++[.cells x.cells])
def sizeTD:TD→Nat
 | .struct ty=>ty.size
 | .arr n _ ety=>n*ety.size
 | _=>1
def storeEv (g:G) (hp:List Blk) (t:TypeId) (a x:AV):Prop×RV×List Blk :=
 match a with
 | .s (.box id off)=>match Blk.look hp id with
  | .cells cs=>(x.good hp=true∧x.cells.length=sizeTD (g.td t)∧off+x.cells.length≤cs.length,.v (.s .any),hp.set id (.cells (spl cs off x.cells)))
  | _=>nope hp
 | .s (.eown ty id n off)=>match Blk.look hp id with
  | .arr al cs=>(x.good hp=true∧cs.length=n*ty.size∧x.cells.length=sizeTD (g.td t)∧off+x.cells.length≤cs.length,.v (.s .any),hp.set id (.arr al (spl cs off x.cells)))
  | _=>nope hp
 | _=>nope hp
def buildSliceEv (g:G) (hp:List Blk) (t:TypeId) (len:Nat) (ps:List (Nat×AV)):Prop×RV×List Blk :=
 match g.td t with
 | .slice _ ety _=>match fillSV hp (fun i=>some (i*ety.size,ety.size)) (List.replicate (len*ety.size) .any) (ps.map fun p=>(p.1,coeTy ety p.2)) with
  | some cells=>match ety.parses len cells with
   | some xs=>(len*ety.size≤16777216,.v (.s (.sl ety xs true)),hp)
   | none=>nope hp
  | none=>nope hp
 | _=>nope hp
def buildEv (g:G) (hp:List Blk) (t:TypeId) (ps:List (Nat×AV)):Prop×RV×List Blk :=
 match g.td t with
 | .struct ty=>match fillSV hp (fun f=>if f<ty.nfld then some (ty.off f,(ty.fld f).size) else none) ty.zsv (ps.map fun p=>(p.1,coeTy (ty.fld p.1) p.2)) with
  | some cells=>(True,.v (.agg cells),hp)
  | none=>nope hp
 | .arr n _ ety=>match fillSV hp (fun i=>some (i*ety.size,ety.size)) (List.replicate n ety.zsv).flatten (ps.map fun p=>(p.1,coeTy ety p.2)) with
  | some cells=>(True,.v (.agg cells),hp)
  | none=>nope hp
 | _=>nope hp
def appendEv0 (g:G) (hp:List Blk) (t:TypeId) (s y:AV):Prop×RV×List Blk :=
 match g.td t,y with
 | .slice _ ety bytes,.s (.sl ty' ys _)=>match s with
  | .s (.sl ty xs true)=>(ty=ety∧ty'=ety∧(xs.length+ys.length)*bytes≤140737488355328∧xs.length+ys.length≤maxLen,.v (.s (.own ty hp.length (xs.length+ys.length))),hp++[.arr (!ys.isEmpty) (ty.flats xs++ty'.flats ys)])
  | .s (.own ty id n)=>match Blk.look hp id with
   | .arr al cs=>(ty=ety∧ty'=ety∧cs.length=n*ty.size∧(n+ys.length)*bytes≤140737488355328∧n+ys.length≤maxLen,.v (.s (.own ty id (n+ys.length))),hp.set id (.arr (al || !ys.isEmpty) (cs++ty'.flats ys)))
   | _=>nope hp
  | _=>nope hp
 | _,_=>nope hp
def appendEv1 (g:G) (hp:List Blk) (t:TypeId) (s y:AV):Prop×RV×List Blk :=
 match s with
 | .s (.pre ty id n m)=>match Blk.look hp id with
  | .arr true cs=>((cs.length=n*ty.size∧(appendEv0 g (hp.set id .dead++[.arr true (cs.take (m*ty.size))]) t (.s (.own ty hp.length m)) y).1),
    (appendEv0 g (hp.set id .dead++[.arr true (cs.take (m*ty.size))]) t (.s (.own ty hp.length m)) y).2)
  | _=>nope hp
 | s=>appendEv0 g hp t s y
def appendEv (g:G) (hp:List Blk) (t:TypeId) (s y:AV):Prop×RV×List Blk :=
 match y with
 | .s (.suf ty id n k)=>match Blk.look hp id with
  | .arr _ cs=>match ty.parses n cs with
   | some ys=>((cs.length=n*ty.size∧(appendEv0 g hp t s (.s (.sl ty (ys.drop k) false))).1),(appendEv0 g hp t s (.s (.sl ty (ys.drop k) false))).2)
   | none=>nope hp
  | _=>nope hp
 | y=>appendEv1 g hp t s y
def zapEv (g:G) (hp:List Blk) (t u:TypeId) (s:AV) (n:Int):Prop×RV×List Blk :=
 match g.td t,g.td u,s with
 | .slice _ ety bytes,.sc (.int .i64),.s (.sl ty [] true)=>(ty=ety∧0<n∧n*bytes≤140737488355328∧n≤maxLen,.v (.s (.own ty hp.length n.toNat)),hp++[.arr true (ty.flats (List.replicate n.toNat ty.dflt))])
 | _,_,_=>nope hp
def appStrEv (g:G) (hp:List Blk) (t u:TypeId) (s:AV) (z:ByteArray):Prop×RV×List Blk :=
 match g.td t,g.td u,s with
 | .slice _ (.int .u8) bytes,.sc .str,.s (.own (.int .u8) id n)=>match Blk.look hp id with
  | .arr true cs=>(bytes=1∧cs.length=n∧n+z.size≤140737488355328∧n+z.size≤maxLen,.v (.s (.own (.int .u8) id (n+z.size))),hp.set id (.arr true (cs++Ty.flats (.int .u8) (strL z))))
  | _=>nope hp
 | _,_,_=>nope hp
def makeSliceEv (g:G) (hp:List Blk) (t:TypeId) (l c:AV):Prop×RV×List Blk :=
 match g.td t,l,c with
 | .slice _ ety bytes,.s (.int .i64 n),.s (.int .i64 m)=>(0≤n∧n≤m∧m*bytes≤140737488355328∧m≤140737488355328,.v (.s (.own ety hp.length n.toNat)),hp++[.arr true (ety.flats (List.replicate n.toNat ety.dflt))])
 | _,_,_=>nope hp
def makePartEv (g:G) (hp:List Blk) (t:TypeId) (l c:AV):Prop×RV×List Blk :=
 match g.td t,l,c with
 | .slice _ ety bytes,.s (.int .i64 n),.s (.int .i64 m)=>(0≤n∧n≤m∧m*bytes≤140737488355328∧m≤140737488355328,.v (.s (.part ety hp.length 0 n.toNat m.toNat)),hp++[.cells (ety.flats (List.replicate m.toNat ety.dflt))])
 | _,_,_=>nope hp
def copyEv (g:G) (hp:List Blk) (t:TypeId) (d s:AV):Prop×RV×List Blk :=
 match g.td t,d with
 | .slice _ ety _,.s (.part ty id off n cap)=>match Blk.look hp id,s with
  | .cells cs,.s (.sl ty' ys _)=>(ty=ety∧ty'=ety∧off+n*ty.size≤cs.length,.v (.s (.int .i64 (Nat.min ys.length n:Nat))),hp.set id (.cells (spl cs off (ty'.flats (ys.take n)))))
  | .cells cs,.s (.part ty' id' off' n' cap')=>match Blk.look hp id' with
   | .cells cs'=>(ty=ety∧ty'=ety∧off+n*ty.size≤cs.length∧off'+n'*ty'.size≤cs'.length,.v (.s (.int .i64 (Nat.min n' n:Nat))),hp.set id (.cells (spl cs off (takeAt cs' off' (Nat.min n' n*ty'.size)))))
   | _=>nope hp
  | _,_=>nope hp
 | _,_=>nope hp
def makeMapEv (g:G) (hp:List Blk) (t:TypeId):Prop×RV×List Blk :=
 match g.td t with
 | .map _ _ kt vt=>(True,.v (.s (.mp hp.length)),hp++[.map kt vt []])
 | _=>nope hp
section
variable {w:World} {M:Nat→Prop} {bs:Bs} {hp:List Blk}
theorem foldl_set {α:Type}:∀ (cs:List α) (k off:Nat) (arr:Array α),off+k+cs.length≤arr.size →
  ((cs.zipIdx k).foldl (fun a (c,j)=>a.setIfInBounds (off+j) c) arr).toList=spl arr.toList (off+k) cs:=by
 intro cs
 induction cs with
 | nil=>intro k off arr _; simp [spl]
 | cons c cs ih =>
  intro k off arr h
  simp only [List.zipIdx_cons,List.foldl_cons]
  rw [ih (k+1) off _ (by simp at h ⊢; omega)]
  simp only [List.length_cons] at h
  simp only [spl,Array.toList_setIfInBounds,List.length_cons]
  rw [show off+(k+1)=off+k+1 by omega]
  rw [List.take_set,List.take_succ_eq_append_getElem (by simp; omega),List.set_append_right _ _ (by simp; omega)]
  simp only [List.length_take,Array.length_toList]
  rw [show off+k - min (off+k) arr.size=0 by omega]
  simp only [List.set_cons_zero,List.append_assoc,List.cons_append,List.nil_append]
  congr 3
  rw [List.drop_set_of_lt (by omega)]
  congr 1
  omega
theorem All2.spl {α β:Type} {R:α→β→Prop} {l:List α} {m:List β} {cs:List α} {ds:List β} (h:All2 R l m) (k:All2 R cs ds) (off:Nat):All2 R (spl l off cs) (spl m off ds):=by
 have hl:=h.length
 have hk:=k.length
 have ht:∀ n,All2 R (l.take n) (m.take n)∧All2 R (l.drop n) (m.drop n):=by
  clear hk k
  induction h with
  | nil=>intro n; simp only [List.take_nil,List.drop_nil]; exact ⟨.nil,.nil⟩
  | cons r _ ih =>
   intro n
   cases n with
   | zero=>simp only [List.take_zero,List.drop_zero]; exact ⟨.nil,.cons r (by assumption)⟩
   | succ n=>obtain ⟨h1,h2⟩:=ih (by simpa using hl) n; exact ⟨by simp; exact .cons r h1,by simpa using h2⟩
 unfold Am.spl
 rw [hk]
 exact ((ht off).1.append k).append (ht (off+ds.length)).2
theorem av_cells {x:AV} {v:Value} (hg:x.good hp=true) (h:relAV w M bs hp x v):All2 (fun x u=>relSV w M bs hp x u∧u.oneCell'=true) x.cells v.cells.toList:=by
 cases x with
 | agg cs=>obtain ⟨vs,rfl,h⟩:=h; exact h
 | s x =>
  have h1:v.oneCell'=true:=by
   cases x with
   | any=>simp [AV.good] at hg
   | bool b=>obtain rfl:v=_:=h; rfl
   | int k n=>obtain rfl:v=_:=h; rfl
   | str s=>obtain rfl:v=_:=h; rfl
   | val x=>obtain rfl:v=_:=h; simpa [AV.good] using hg
   | sl t xs ex=>obtain ⟨a,c,rfl,_⟩:=h; rfl
   | eptr t x=>obtain ⟨b,off,cs,rfl,_⟩:=h; rfl
   | box id off =>
    simp only [AV.good] at hg
    cases hl:Blk.look hp id with
    | cells cs=>obtain ⟨b,_,rfl⟩:=h.2 cs hl; rfl
    | _=>simp [hl] at hg
   | own t id n =>
    simp only [AV.good] at hg
    cases hl:Blk.look hp id with
    | dead=>simp [hl] at hg
    | trace l' xs' i' st'=>simp [hl] at hg
    | map k u es=>simp [hl] at hg
    | cells cs=>simp [hl] at hg
    | arr al cs =>
     simp [hl] at hg
     rcases (h.2 al cs hl).2 hg with ⟨b,cap,_,rfl,_⟩ | ⟨_,xs,a,_,_,_,rfl,_⟩ <;> rfl
   | eown t id n off=>simp [AV.good] at hg
   | suf t id n k=>simp [AV.good] at hg
   | pre t id n m =>
    simp only [AV.good] at hg
    cases hl:Blk.look hp id with
    | dead=>simp [hl] at hg
    | trace l' xs' i' st'=>simp [hl] at hg
    | map k u es=>simp [hl] at hg
    | cells cs=>simp [hl] at hg
    | arr al cs =>
     simp [hl] at hg
     obtain ⟨b,cap,_,rfl,_⟩:=(h.2.2 al cs hl).2 hg; rfl
   | part t id off n cap=>obtain ⟨_,_,_,a,rfl,_⟩:=h; rfl
   | bbx f id off=>obtain ⟨_,q,rfl,_⟩:=h; rfl
   | fn f caps=>obtain ⟨ps,rfl,_⟩:=h; rfl
   | fnp f caps=>obtain ⟨ps,rfl,_⟩:=h; rfl
   | mp id=>obtain ⟨b,_,_,_,_,_,rfl⟩:=h; rfl
   | ib p q=>obtain ⟨b,rfl,_⟩:=h; rfl
   | fv x =>
    obtain ⟨u,e,h1⟩:=RepD.fn_one (h:RepD w M .fn x [v])
    injection e with e _
    subst e
    exact h1
  have h2:v.cells.toList=[v]:=by cases v <;> first | rfl | simp [Value.oneCell'] at h1
  rw [h2]
  exact .cons ⟨h,h1⟩ .nil
theorem spl_length {α:Type} (l:List α) (off:Nat) (cs:List α) (h:off+cs.length≤l.length):(spl l off cs).length=l.length:=by
 simp [spl]; omega
theorem fill_sound (R:SV→Value→Prop) (hR:∀ x u,relSV w M bs hp x u∧u.oneCell'=true→R x u) (place:Nat→Option (Nat×Nat)):∀ (ps:List (Nat×AV)) (vs:List (Nat×Value)) (l out:List SV) (arr:Array Value),
  All2 (fun (p:Nat×AV) (q:Nat×Value)=>p.1=q.1∧relAV w M bs hp p.2 q.2) ps vs→All2 R l arr.toList→fillSV hp place l ps=some out →
  ∃ res:Array Value,Instr.fill place arr vs=some res∧All2 R out res.toList:=by
 intro ps
 induction ps with
 | nil =>
  intro vs l out arr hv hl h
  cases hv
  simp [fillSV] at h
  subst h
  exact ⟨arr,rfl,hl⟩
 | cons p ps ih =>
  intro vs l out arr hv hl h
  cases hv with
  | cons hp' hv =>
   rename_i q vs
   obtain ⟨i,x⟩:=p
   obtain ⟨j,v⟩:=q
   obtain ⟨rfl,hx⟩:=hp'
   simp only at hx
   simp only [fillSV] at h
   cases hpl:place i with
   | none=>simp [hpl] at h
   | some os =>
    obtain ⟨off,size⟩:=os
    simp only [hpl] at h
    split at h
    ·
     rename_i hc
     obtain ⟨h1,h2,h3⟩:=hc
     have hcs:=av_cells h1 hx
     have hlen:v.cells.size=size:=by have:=hcs.length; simp only [Array.length_toList] at this; omega
     have hal:arr.size=l.length:=by have:=hl.length; simpa using this.symm
     have hspl:=hl.spl (hcs.imp hR) off
     have hf:=foldl_set v.cells.toList 0 off arr (by simp; omega)
     simp only [Nat.add_zero] at hf
     obtain ⟨res,r1,r2⟩:=ih vs _ out (v.cells.zipIdx.foldl (fun cs (c,j)=>cs.setIfInBounds (off+j) c) arr) hv (by
      rw [← Array.foldl_toList,Array.toList_zipIdx,hf]; exact hspl) h
     refine ⟨res,?_,r2⟩
     simp only [Instr.fill,hpl]
     rw [if_neg (by simp; omega)]
     exact r1
    ·
     cases h
theorem zsv_rel:∀ (t:Ty),All2 (fun x u=>relSV w M bs hp x u∧u.oneCell'=true) t.zsv t.zcells
 | .int k=>.cons ⟨rfl,rfl⟩ .nil
 | .bool=>.cons ⟨rfl,rfl⟩ .nil
 | .str=>.cons ⟨rfl,rfl⟩ .nil
 | .slice t=>.cons ⟨⟨none,0,rfl,Nat.le_refl _,by simp [maxLen],fun _=>rfl,.inl rfl⟩,rfl⟩ .nil
 | .nil=>.nil
 | .cons t r=>(zsv_rel t).append (zsv_rel r)
 | .fn=>.cons ⟨.nofn,rfl⟩ .nil
 | .tree h=>(zsv_rel h).append (.cons ⟨⟨none,0,rfl,Nat.le_refl _,by simp [maxLen],fun _=>rfl,.inl rfl⟩,rfl⟩ .nil)
theorem row_cells {t:Ty} {xs:List t.T} {b off:Nat}:∀ (k:Nat),(∀ i x,xs[i]?=some x→∃ cs,cs.length=t.size∧rep w M t x cs∧CellsAt w b (off+(k+i)*t.size) cs) →
  ∃ news,news.length=xs.length*t.size∧CellsAt w b (off+k*t.size) news∧All2 (fun x u=>relSV w M bs hp x u∧u.oneCell'=true) (t.flats xs) news:=by
 induction xs with
 | nil=>intro k _; exact ⟨[],by simp,fun j v h=>by simp at h,.nil⟩
 | cons x xs ih =>
  intro k h
  obtain ⟨cs,h1,h2,h3⟩:=h 0 x rfl
  obtain ⟨news,k1,k2,k3⟩:=ih (k+1) (fun i y hy=>by
   obtain ⟨cs,q1,q2,q3⟩:=h (i+1) y (by simpa using hy)
   exact ⟨cs,q1,q2,by rw [show k+1+i=k+(i+1) by omega]; exact q3⟩)
  refine ⟨cs++news,by simp [h1,k1,Nat.succ_mul]; omega,?_,(rep_flat t x cs h2).append k3⟩
  intro j v hj
  rcases Nat.lt_or_ge j cs.length with hlt | hge
  ·
   rw [List.getElem?_append_left hlt] at hj
   exact h3 j v hj
  ·
   rw [List.getElem?_append_right hge] at hj
   have:=k2 (j - cs.length) v hj
   rw [← this]
   congr 2
   rw [h1,Nat.succ_mul] at *
   omega
theorem flats_append (t:Ty) (xs ys:List t.T):t.flats (xs++ys)=t.flats xs++t.flats ys:=by
 induction xs with
 | nil=>rfl
 | cons x xs ih=>simp [Ty.flats,ih]
theorem flat_length:∀ (t:Ty) (x:t.T),(t.flat x).length=t.size
 | .int _,_=>rfl
 | .bool,_=>rfl
 | .str,_=>rfl
 | .slice _,_=>rfl
 | .nil,_=>rfl
 | .cons t r,x=>by simp [Ty.flat,flat_length t x.1,flat_length r x.2]
 | .fn,_=>rfl
 | .tree h,x=>by simp [Ty.flat,flat_length h]
theorem flats_length (t:Ty) (xs:List t.T):(t.flats xs).length=xs.length*t.size:=by
 induction xs with
 | nil=>simp [Ty.flats]
 | cons x xs ih=>simp [Ty.flats,ih,flat_length,Nat.succ_mul]; omega
end
end Go.Am
