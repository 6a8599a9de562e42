/- Part 1 of the proof's base. -/
import Derived.Test.YtejcoioabaejlaaGreatDoorRows
import Derived.WalkKit
import Derived.Lib.Hide
import Derived.RangeFuncNested
import Derived.RangeFuncBound
import Derived.RangeFuncCalls
import Derived.RangeFuncLeaves
import Derived.OrdersIn
import Derived.Lib.AppendZerosOnto
import Derived.TacticsIn
import Derived.Shelf.Abstract
import Derived.RecoverIn
import Derived.Test.YtejcoioabaejlaaGreatDoorProg
import Derived.Shelf.SortM.Plain
import Derived.Shelf.SortM.SortNone
import Derived.Shelf.SlSortCmp.NoneTotal
import Derived.Shelf.SlicesG.CompactI
import Derived.Ground.SlgmProg
import Derived.ChangeArms
import Derived.DataReads
import Derived.Carry
import Derived.WideKeyArgs
import Derived.ChangeSame
import Derived.OpenShut
set_option linter.all false
noncomputable section
namespace Go.Am
open Go.RowKit
inductive Ty where
 | int (k:IntKind)
 | bool
 | str
 | slice (t:Ty)
 | nil
 | cons (t r:Ty)
 | fn
 deriving DecidableEq
mutual
inductive D:Ty→Type where
 | int (k:IntKind) (n:Int):D (.int k)
 | bool (b:Bool):D .bool
 | str (s:ByteArray):D .str
 | slice (t:Ty) (xs:DL t):D (.slice t)
 | nil:D .nil
 | cons (t r:Ty) (x:D t) (y:D r):D (.cons t r)
 | nofn:D .fn
 | fn (f:FuncId) (caps:DC):D .fn
 | bnd (f:FuncId) (t:Ty) (x:D t):D .fn
inductive DL:Ty→Type where
 | nil (t:Ty):DL t
 | cons (t:Ty) (x:D t) (l:DL t):DL t
inductive DC:Type where
 | nil:DC
 | cons (t:Ty) (x:D t) (l:DC):DC
end
def DL.to {t:Ty}:DL t→List (D t)
 | .nil _=>[]
 | .cons _ x l=>x::l.to
def DL.of {t:Ty}:List (D t)→DL t
 | []=>.nil t
 | x::l=>.cons t x (DL.of l)
theorem DL.to_of {t:Ty}:∀ l:List (D t),(DL.of l).to=l
 | []=>rfl
 | x::l=>by simp only [DL.of,DL.to,DL.to_of l]
def DC.to:DC→List ((t:Ty)×D t)
 | .nil=>[]
 | .cons t x l=>⟨t,x⟩::l.to
def DC.of:List ((t:Ty)×D t)→DC
 | []=>.nil
 | x::l=>.cons x.1 x.2 (DC.of l)
theorem DC.to_of:∀ l:List ((t:Ty)×D t),(DC.of l).to=l
 | []=>rfl
 | x::l=>by simp only [DC.of,DC.to,DC.to_of l]
@[reducible] def Ty.T:Ty→Type
 | .int _=>Int
 | .bool=>Bool
 | .str=>ByteArray
 | .slice t=>List t.T
 | .nil=>Unit
 | .cons t r=>t.T×r.T
 | .fn=>D .fn
@[reducible] def Ty.size:Ty→Nat
 | .int _=>1
 | .bool=>1
 | .str=>1
 | .slice _=>1
 | .nil=>0
 | .cons t r=>t.size+r.size
 | .fn=>1
@[reducible] def Ty.dflt:(t:Ty)→t.T
 | .int _=>(0:Int)
 | .bool=>false
 | .str=>ByteArray.empty
 | .slice _=>[]
 | .nil=>()
 | .cons t r=>(t.dflt,r.dflt)
 | .fn=>.nofn
def toD:(t:Ty)→t.T→D t
 | .int k,n=>.int k n
 | .bool,b=>.bool b
 | .str,s=>.str s
 | .slice t,xs=>.slice t (DL.of (xs.map (toD t)))
 | .nil,_=>.nil
 | .cons t r,x=>.cons t r (toD t x.1) (toD r x.2)
 | .fn,x=>x
def D.n:{k:IntKind}→D (.int k)→Int | _,.int _ n=>n
def D.b:D .bool→Bool | .bool b=>b
def D.s:D .str→ByteArray | .str s=>s
def D.l:{t:Ty}→D (.slice t)→List (D t) | _,.slice _ l=>l.to
def D.x:{t r:Ty}→D (.cons t r)→D t | _,_,.cons _ _ x _=>x
def D.y:{t r:Ty}→D (.cons t r)→D r | _,_,.cons _ _ _ y=>y
def ofD:(t:Ty)→D t→t.T
 | .int _,d=>d.n
 | .bool,d=>d.b
 | .str,d=>d.s
 | .slice t,d=>d.l.map (ofD t)
 | .nil,_=>()
 | .cons t r,d=>(ofD t d.x,ofD r d.y)
 | .fn,x=>x
theorem ofD_toD:∀ (t:Ty) (x:t.T),ofD t (toD t x)=x
 | .int _,_=>rfl
 | .bool,_=>rfl
 | .str,_=>rfl
 | .slice t,xs=>by
  simp only [toD,ofD,D.l,DL.to_of,List.map_map]
  conv=>rhs; rw [← List.map_id xs]
  exact List.map_congr_left fun x _=>ofD_toD t x
 | .nil,_=>rfl
 | .cons t r,x=>by simp only [toD,ofD,D.x,D.y,ofD_toD t,ofD_toD r]
 | .fn,_=>rfl
abbrev dS (c:Sigma Ty.T):(t:Ty)×D t:=⟨c.1,toD c.1 c.2⟩
abbrev sD (c:(t:Ty)×D t):Sigma Ty.T:=⟨c.1,ofD c.1 c.2⟩
theorem sD_dS (c:Sigma Ty.T):sD (dS c)=c:=by simp only [sD,dS,ofD_toD]
def D.parts:D .fn→Option (FuncId×List (Sigma Ty.T))
 | .nofn=>none
 | .fn f caps=>some (f,caps.to.map sD)
 | .bnd _ _ _=>none
def D.bpart:D .fn→Option (FuncId×Sigma Ty.T)
 | .bnd f t x=>some (f,⟨t,ofD t x⟩)
 | _=>none
def D.bndOf (f:FuncId) (c:Sigma Ty.T):D .fn:=.bnd f c.1 (toD c.1 c.2)
theorem D.bpart_bndOf (f:FuncId) (c:Sigma Ty.T):(D.bndOf f c).bpart=some (f,c):=by simp only [D.bndOf,D.bpart,ofD_toD]
theorem D.parts_bndOf (f:FuncId) (c:Sigma Ty.T):(D.bndOf f c).parts=none:=rfl
def bndV (t:Ty) (cs:List Value):Value:=match t with | .cons _ _=>.agg cs.toArray | _=>cs.headD undef
def D.fnOf (f:FuncId) (caps:List (Sigma Ty.T)):D .fn:=.fn f (DC.of (caps.map dS))
theorem D.parts_fnOf (f:FuncId) (caps:List (Sigma Ty.T)):(D.fnOf f caps).parts=some (f,caps):=by
 simp only [D.fnOf,D.parts,DC.to_of,List.map_map]
 congr 2
 conv=>rhs; rw [← List.map_id caps]
 exact List.map_congr_left fun c _=>sD_dS c
def CellsAt (w:World) (b off:Nat) (cs:List Value):Prop :=
 ∀ j v,cs[j]?=some v→w.cell? ⟨b,off+j,none⟩=some v
def RowAt {α:Type} (w:World) (M:Nat→Prop) (ρ:α→List Value→Prop) (sz:Nat) (a:Option Addr) (xs:List α):Prop :=
 xs=[]∨∃ b off,a=some ⟨b,off,none⟩∧¬ M b∧b<w.heap.size ∧
  ∀ i x,xs[i]?=some x→∃ cs,cs.length=sz∧ρ x cs∧CellsAt w b (off+i*sz) cs
inductive RepD (w:World) (M:Nat→Prop):(t:Ty)→D t→List Value→Prop where
 | int (k n):RepD w M (.int k) (.int k n) [.int k n]
 | bool (b):RepD w M .bool (.bool b) [.bool b]
 | str (s):RepD w M .str (.str s) [.string s]
 | slice (t:Ty) (xs:DL t) (a:Option Addr) (c b off:Nat) (css:Nat→List Value):xs.to.length≤c→c≤maxLen→(xs.to≠[]→a=some ⟨b,off,none⟩∧¬ M b∧b<w.heap.size) →
   (∀ (i:Nat) (x:D t),xs.to[i]?=some x→(css i).length=t.size∧CellsAt w b (off+i*t.size) (css i))→(∀ (i:Nat) (x:D t),xs.to[i]?=some x→RepD w M t x (css i))→RepD w M (.slice t) (.slice t xs) [.slice a xs.to.length c]
 | nil:RepD w M .nil .nil []
 | cons (t r:Ty) (x:D t) (y:D r) (c1 c2:List Value):RepD w M t x c1→RepD w M r y c2→RepD w M (.cons t r) (.cons t r x y) (c1++c2)
 | nofn:RepD w M .fn .nofn [.nilFunc]
 | fn (f:FuncId) (caps:DC) (ps:List Value) (css:Nat→List Value) (bo:Nat→Nat×Nat):ps.length=caps.to.length →
   (∀ (i:Nat) (p:Value),ps[i]?=some p→p=.pointer (some ⟨(bo i).1,(bo i).2,none⟩)∧¬ M (bo i).1∧(bo i).1<w.heap.size∧CellsAt w (bo i).1 (bo i).2 (css i)) →
   (∀ (i:Nat) (c:(t:Ty)×D t),caps.to[i]?=some c→RepD w M c.1 c.2 (css i))→RepD w M .fn (.fn f caps) [.func (.func f) #[] ps.toArray]
 | bnd (f:FuncId) (t:Ty) (x:D t) (cs:List Value):RepD w M t x cs→RepD w M .fn (.bnd f t x) [.func (.func f) #[bndV t cs] #[]]
def rep (w:World) (M:Nat→Prop):(t:Ty)→t.T→List Value→Prop
 | .int k,n,cs=>cs=[.int k n]
 | .bool,b,cs=>cs=[.bool b]
 | .str,s,cs=>cs=[.string s]
 | .slice t,xs,cs=>∃ a c,cs=[.slice a xs.length c]∧xs.length≤c∧c≤maxLen∧RowAt w M (fun x cs=>rep w M t x cs) t.size a xs
 | .nil,_,cs=>cs=[]
 | .cons t r,x,cs=>∃ c1 c2,cs=c1++c2∧rep w M t x.1 c1∧rep w M r x.2 c2
 | .fn,x,cs=>RepD w M .fn x cs
theorem RepD.fn_one {w:World} {M:Nat→Prop} {d:D .fn} {cs:List Value} (h:RepD w M .fn d cs):∃ v,cs=[v]∧v.oneCell'=true:=by cases h <;> exact ⟨_,rfl,rfl⟩
theorem rep_toD {w:World} {M:Nat→Prop}:∀ (t:Ty) (x:t.T) (cs:List Value),rep w M t x cs→RepD w M t (toD t x) cs
 | .int k,n,cs,h=>by simp only [rep] at h; subst h; exact .int _ _
 | .bool,b,cs,h=>by simp only [rep] at h; subst h; exact .bool _
 | .str,s,cs,h=>by simp only [rep] at h; subst h; exact .str _
 | .slice t,xs,cs,h=>by
  simp only [rep] at h
  obtain ⟨a,c,rfl,h1,h2,h3⟩:=h
  have hl:(xs.map (toD t)).length=xs.length:=List.length_map ..
  have key:∀ (b off:Nat) (css:Nat→List Value),(xs≠[]→a=some ⟨b,off,none⟩∧¬ M b∧b<w.heap.size)→(∀ (i:Nat) (x:t.T),xs[i]?=some x→(css i).length=t.size∧CellsAt w b (off+i*t.size) (css i)) →
    (∀ (i:Nat) (x:t.T),xs[i]?=some x→rep w M t x (css i))→RepD w M (.slice t) (toD (.slice t) xs) [.slice a xs.length c]:=by
   intro b off css k1 k2 k3
   have:=RepD.slice (w:=w) (M:=M) t (DL.of (xs.map (toD t))) a c b off css (by rw [DL.to_of,hl]; exact h1) h2 (fun hn=>k1 fun he=>hn (by rw [he]; rfl)) (fun i x hx=>by
    rw [DL.to_of,List.getElem?_map] at hx
    cases hi:xs[i]? with
    | none=>rw [hi] at hx; cases hx
    | some y=>exact k2 i y hi) (fun i x hx=>by
    rw [DL.to_of,List.getElem?_map] at hx
    cases hi:xs[i]? with
    | none=>rw [hi] at hx; cases hx
    | some y=>rw [hi] at hx; cases hx; exact rep_toD t y _ (k3 i y hi))
   rw [DL.to_of,hl] at this
   exact this
  rcases h3 with rfl | ⟨b,off,ha,hm,hb,he⟩
  ·
   exact key 0 0 (fun _=>[]) (fun h=>absurd rfl h) (fun i x h=>by simp at h) (fun i x h=>by simp at h)
  ·
   have hc:∃ css:Nat→List Value,∀ (i:Nat) (x:t.T),xs[i]?=some x→(css i).length=t.size∧rep w M t x (css i)∧CellsAt w b (off+i*t.size) (css i) :=
    ⟨fun i=>@dite _ (i<xs.length) (Classical.propDecidable _) (fun h=>Classical.choose (he i xs[i] (List.getElem?_eq_getElem h))) (fun _=>[]),fun i x hx=>by
     have hlt:=(List.getElem?_eq_some_iff.1 hx).1
     have hx':x=xs[i]:=by rw [List.getElem?_eq_getElem hlt] at hx; cases hx; rfl
     subst hx'
     simp only [hlt,dif_pos]
     exact Classical.choose_spec (he i xs[i] (List.getElem?_eq_getElem hlt))⟩
   obtain ⟨css,hcss⟩:=hc
   exact key b off css (fun _=>⟨ha,hm,hb⟩) (fun i x hx=>⟨(hcss i x hx).1,(hcss i x hx).2.2⟩) (fun i x hx=>(hcss i x hx).2.1)
 | .nil,_,cs,h=>by simp only [rep] at h; subst h; exact .nil
 | .cons t r,x,cs,h=>by
  simp only [rep] at h
  obtain ⟨c1,c2,rfl,h1,h2⟩:=h
  exact .cons _ _ _ _ _ _ (rep_toD t _ _ h1) (rep_toD r _ _ h2)
 | .fn,x,cs,h=>by simpa only [rep,toD] using h
theorem rep_ofD {w:World} {M:Nat→Prop}:∀ (t:Ty) (d:D t) (cs:List Value),RepD w M t d cs→rep w M t (ofD t d) cs
 | .int k,d,cs,h=>by cases h; simp only [rep,ofD,D.n]
 | .bool,d,cs,h=>by cases h; simp only [rep,ofD,D.b]
 | .str,d,cs,h=>by cases h; simp only [rep,ofD,D.s]
 | .slice t,d,cs,h=>by
  cases h with
  | slice _ xs a c b off css h1 h2 h3 h4 h5 =>
   have hl:(xs.to.map (ofD t)).length=xs.to.length:=List.length_map ..
   simp only [rep,ofD,D.l]
   refine ⟨a,c,by rw [hl],by rw [hl]; exact h1,h2,?_⟩
   by_cases hn:xs.to=[]
   ·
    left; rw [hn]; rfl
   ·
    right
    obtain ⟨k1,k2,k3⟩:=h3 hn
    refine ⟨b,off,k1,k2,k3,fun i x hx => ?_⟩
    rw [List.getElem?_map] at hx
    cases hi:xs.to[i]? with
    | none=>rw [hi] at hx; cases hx
    | some y =>
     rw [hi] at hx; cases hx
     exact ⟨css i,(h4 i y hi).1,rep_ofD t y _ (h5 i y hi),(h4 i y hi).2⟩
 | .nil,d,cs,h=>by cases h; simp only [rep]
 | .cons t r,d,cs,h=>by
  cases h with
  | cons _ _ x y c1 c2 h1 h2 =>
   simp only [rep,ofD,D.x,D.y]
   exact ⟨c1,c2,rfl,rep_ofD t _ _ h1,rep_ofD r _ _ h2⟩
 | .fn,x,cs,h=>by simpa only [rep,ofD] using h
theorem rep_length {w:World} {M:Nat→Prop}:∀ (t:Ty) (x:t.T) (cs:List Value),rep w M t x cs→cs.length=t.size
 | .int k,n,cs,h=>by simp only [rep] at h; subst h; rfl
 | .bool,b,cs,h=>by simp only [rep] at h; subst h; rfl
 | .str,s,cs,h=>by simp only [rep] at h; subst h; rfl
 | .slice t,xs,cs,h=>by simp only [rep] at h; obtain ⟨a,c,rfl,_⟩:=h; rfl
 | .nil,_,cs,h=>by simp only [rep] at h; subst h; rfl
 | .cons t r,x,cs,h=>by
  simp only [rep] at h
  obtain ⟨c1,c2,rfl,h1,h2⟩:=h
  simp [rep_length t _ _ h1,rep_length r _ _ h2]
 | .fn,x,cs,h=>by
  simp only [rep] at h
  obtain ⟨v,rfl,_⟩:=h.fn_one
  rfl
structure Evo (M M':Nat→Prop) (w w':World):Prop where
 os:w'.os=w.os
 tape:w'.tape=w.tape
 output:w'.output=w.output
 size:w.heap.size≤w'.heap.size
 drawn:w.drawn≤w'.drawn
 block:∀ b,b<w.heap.size→¬ M b→w'.heap[b]?=w.heap[b]?
 free:∀ b,b<w.heap.size→¬ M b→¬ M' b
theorem Evo.refl (M:Nat→Prop) (w:World):Evo M M w w:=⟨rfl,rfl,rfl,Nat.le_refl _,Nat.le_refl _,fun _ _ _=>rfl,fun _ _ h=>h⟩
theorem Evo.trans {M1 M2 M3:Nat→Prop} {a b c:World} (h:Evo M1 M2 a b) (k:Evo M2 M3 b c):Evo M1 M3 a c :=
  ⟨k.os.trans h.os,k.tape.trans h.tape,k.output.trans h.output,Nat.le_trans h.size k.size,Nat.le_trans h.drawn k.drawn,
   fun i hi hm=>(k.block i (Nat.lt_of_lt_of_le hi h.size) (h.free i hi hm)).trans (h.block i hi hm),
   fun i hi hm=>k.free i (Nat.lt_of_lt_of_le hi h.size) (h.free i hi hm)⟩
theorem CellsAt.evo {w w':World} {M M':Nat→Prop} (h:Evo M M' w w') {b off:Nat} {cs:List Value} (hb:b<w.heap.size) (hm:¬ M b) (hc:CellsAt w b off cs):CellsAt w' b off cs:=by
 intro j v hj
 have h1:=hc j v hj
 rw [← h1]
 exact World.cell?_of_block (w:=w) (h.block b hb hm)
theorem RepD.evo {w w':World} {M M':Nat→Prop} (h:Evo M M' w w') {t:Ty} {d:D t} {cs:List Value} (hr:RepD w M t d cs):RepD w' M' t d cs:=by
 induction hr with
 | int k n=>exact .int _ _
 | bool b=>exact .bool _
 | str s=>exact .str _
 | slice t xs a c b off css h1 h2 h3 h4 h5 ih =>
  refine .slice t xs a c b off css h1 h2 (fun hn => ?_) (fun i x hx=>⟨(h4 i x hx).1,?_⟩) ih
  ·
   obtain ⟨k1,k2,k3⟩:=h3 hn
   exact ⟨k1,h.free b k3 k2,Nat.lt_of_lt_of_le k3 h.size⟩
  ·
   obtain ⟨k1,k2,k3⟩:=h3 (by intro e; rw [e] at hx; simp at hx)
   exact (h4 i x hx).2.evo h k3 k2
 | nil=>exact .nil
 | cons t r x y c1 c2 _ _ ih1 ih2=>exact .cons _ _ _ _ _ _ ih1 ih2
 | nofn=>exact .nofn
 | fn f caps ps css bo h1 h2 h3 ih =>
  refine .fn f caps ps css bo h1 (fun i p hp => ?_) ih
  obtain ⟨k1,k2,k3,k4⟩:=h2 i p hp
  exact ⟨k1,h.free _ k3 k2,Nat.lt_of_lt_of_le k3 h.size,k4.evo h k3 k2⟩
 | bnd f t x cs _ ih=>exact .bnd f t x cs ih
theorem rep_evo {w w':World} {M M':Nat→Prop} (h:Evo M M' w w'):∀ (t:Ty) (x:t.T) (cs:List Value),rep w M t x cs→rep w' M' t x cs
 | .int k,n,cs,hr=>by simpa only [rep] using hr
 | .bool,b,cs,hr=>by simpa only [rep] using hr
 | .str,s,cs,hr=>by simpa only [rep] using hr
 | .slice t,xs,cs,hr=>by
  simp only [rep] at hr ⊢
  obtain ⟨a,c,rfl,h1,h2,h3⟩:=hr
  refine ⟨a,c,rfl,h1,h2,?_⟩
  rcases h3 with h3 | ⟨b,off,ha,hm,hb,he⟩
  ·
   exact .inl h3
  ·
   refine .inr ⟨b,off,ha,h.free b hb hm,Nat.lt_of_lt_of_le hb h.size,fun i x hi => ?_⟩
   obtain ⟨cs,hl,hx,hc⟩:=he i x hi
   exact ⟨cs,hl,rep_evo h t x cs hx,hc.evo h hb hm⟩
 | .nil,_,cs,hr=>by simpa only [rep] using hr
 | .cons t r,x,cs,hr=>by
  simp only [rep] at hr ⊢
  obtain ⟨c1,c2,rfl,h1,h2⟩:=hr
  exact ⟨c1,c2,rfl,rep_evo h t _ _ h1,rep_evo h r _ _ h2⟩
 | .fn,x,cs,hr=>by
  simp only [rep] at hr ⊢
  exact hr.evo h
def Ty.isAgg:Ty→Bool
 | .nil=>true
 | .cons _ _=>true
 | _=>false
def unitV (t:Ty) (cs:List Value):Value:=if t.isAgg then .agg cs.toArray else cs.headD undef
def repV (w:World) (M:Nat→Prop) (t:Ty) (x:t.T) (v:Value):Prop:=∃ cs,v=unitV t cs∧rep w M t x cs
theorem repV_evo {w w':World} {M M':Nat→Prop} (h:Evo M M' w w') {t:Ty} {x:t.T} {v:Value} (hr:repV w M t x v):repV w' M' t x v:=by
 obtain ⟨cs,h1,h2⟩:=hr
 exact ⟨cs,h1,rep_evo h _ _ _ h2⟩
def Ty.keyOk:Ty→Bool
 | .int _=>true
 | .str=>true
 | .bool=>true
 | _=>false
def kval:(t:Ty)→t.T→Value
 | .int k,n=>.int k n
 | .str,s=>.string s
 | .bool,b=>.bool b
 | _,_=>undef
theorem RowAt.evo {t:Ty} {w w':World} {M M':Nat→Prop} (h:Evo M M' w w') {a:Option Addr} {xs:List t.T} (hr:RowAt w M (rep w M t) t.size a xs):RowAt w' M' (rep w' M' t) t.size a xs:=by
 rcases hr with h3 | ⟨b,off,ha,hm,hb,he⟩
 ·
  exact .inl h3
 ·
  refine .inr ⟨b,off,ha,h.free b hb hm,Nat.lt_of_lt_of_le hb h.size,fun i x hi => ?_⟩
  obtain ⟨cs,hl,hx,hc⟩:=he i x hi
  exact ⟨cs,hl,rep_evo h t x cs hx,hc.evo h hb hm⟩
theorem Evo.alloc (M:Nat→Prop) (w:World) (o:Obj):Evo M M w (w.alloc o) :=
 ⟨rfl,rfl,rfl,by simp,Nat.le_refl _,fun b hb _=>Below.heap_alloc w o b hb,fun _ _ h=>h⟩
theorem Evo.drew (M:Nat→Prop) (w:World):Evo M M w { w with drawn:=w.drawn+1 }:=⟨rfl,rfl,rfl,Nat.le_refl _,Nat.le_succ _,fun _ _ _=>rfl,fun _ _ h=>h⟩
theorem Evo.more {M M':Nat→Prop} (w:World) (h:∀ b,b<w.heap.size→M' b→M b):Evo M M' w w :=
 ⟨rfl,rfl,rfl,Nat.le_refl _,Nat.le_refl _,fun _ _ _=>rfl,fun b hb hn hm=>hn (h b hb hm)⟩
inductive SV where
 | any
 | bool (b:Bool)
 | int (k:IntKind) (n:Int)
 | str (s:ByteArray)
 | val (v:Value)
 | sl (t:Ty) (xs:List t.T) (ex:Bool)
 | eptr (t:Ty) (x:t.T)
 | box (id off:Nat)
 | own (t:Ty) (id n:Nat)
 | eown (t:Ty) (id n off:Nat)
 | pre (t:Ty) (id n m:Nat)
 | suf (t:Ty) (id n k:Nat)
 | fn (f:FuncId) (caps:List Nat)
 | fnp (f:FuncId) (caps:List (Sigma Ty.T))
 | mp (id:Nat)
 | ib (p q:Prop)
 | fv (x:D .fn)
inductive AV where
 | s (v:SV)
 | agg (cs:List SV)
inductive RV where
 | v (x:AV)
 | tup (xs:List AV)
structure SL where
 ok:Bool
 v:RV
inductive Blk where
 | dead
 | cells (cs:List SV)
 | arr (al:Bool) (cs:List SV)
 | map (k v:Ty) (es:List (k.T×v.T))
 | trace (l:Nat) (xs:List (List AV)) (i:Nat) (st:Bool)
def Ty.flat:(t:Ty)→t.T→List SV
 | .int k,n=>[.int k n]
 | .bool,b=>[.bool b]
 | .str,s=>[.str s]
 | .slice t,xs=>[.sl t xs false]
 | .nil,_=>[]
 | .cons t r,x=>t.flat x.1++r.flat x.2
 | .fn,x=>[.fv x]
def Ty.flats (t:Ty):List t.T→List SV
 | []=>[]
 | x::l=>t.flat x++t.flats l
def Ty.parse:(t:Ty)→List SV→Option (t.T×List SV)
 | .int k,.int k' n::r=>if k=k' then some (n,r) else none
 | .bool,.bool b::r=>some (b,r)
 | .str,.str s::r=>some (s,r)
 | .slice t,.sl t' xs _::r=>if h:t'=t then some (h▸xs,r) else none
 | .nil,r=>some ((),r)
 | .cons t u,l=>match t.parse l with
  | some (x,l')=>match u.parse l' with
   | some (y,l'')=>some ((x,y),l'')
   | none=>none
  | none=>none
 | .fn,.fv x::r=>some (x,r)
 | .fn,.fn f []::r=>some (D.fnOf f [],r)
 | .fn,.fnp f caps::r=>some (D.fnOf f caps,r)
 | .fn,.val .nilFunc::r=>some (D.nofn,r)
 | _,_=>none
@[reducible] def Ty.fld:Ty→Nat→Ty
 | .cons t _,0=>t
 | .cons _ r,f+1=>r.fld f
 | _,_=>.nil
def Ty.get:(t:Ty)→t.T→(f:Nat)→(t.fld f).T
 | .cons _ _,x,0=>x.1
 | .cons _ r,x,f+1=>r.get x.2 f
 | .int _,_,_=>()
 | .bool,_,_=>()
 | .str,_,_=>()
 | .slice _,_,_=>()
 | .nil,_,_=>()
 | .fn,_,_=>()
def Ty.off:Ty→Nat→Nat
 | .cons _ _,0=>0
 | .cons t r,f+1=>t.size+r.off f
 | _,_=>0
def Ty.nfld:Ty→Nat
 | .cons _ r=>r.nfld+1
 | _=>0
inductive All2 {α β:Type} (R:α→β→Prop):List α→List β→Prop
 | nil:All2 R [] []
 | cons {a b l m}:R a b→All2 R l m→All2 R (a::l) (b::m)
section
variable {α β:Type} {R S:α→β→Prop}
theorem All2.imp {l:List α} {m:List β} (h:∀ a b,R a b→S a b) (k:All2 R l m):All2 S l m:=by
 induction k with
 | nil=>exact .nil
 | cons r _ ih=>exact .cons (h _ _ r) ih
theorem All2.length {l:List α} {m:List β} (k:All2 R l m):l.length=m.length:=by
 induction k with
 | nil=>rfl
 | cons _ _ ih=>simp [ih]
theorem All2.get {l:List α} {m:List β} (k:All2 R l m):∀ (i:Nat) (a:α),l[i]?=some a→∃ b,m[i]?=some b∧R a b:=by
 induction k with
 | nil=>intro i a h; simp at h
 | cons r _ ih =>
  intro i a h
  cases i with
  | zero=>simp at h; subst h; exact ⟨_,rfl,r⟩
  | succ i=>simpa using ih i a (by simpa using h)
theorem All2.append {l l':List α} {m m':List β} (k:All2 R l m) (k':All2 R l' m'):All2 R (l++l') (m++m'):=by
 induction k with
 | nil=>exact k'
 | cons r _ ih=>exact .cons r ih
theorem All2.split {l l':List α}:∀ {m:List β},All2 R (l++l') m→∃ m1 m2,m=m1++m2∧All2 R l m1∧All2 R l' m2:=by
 induction l with
 | nil=>intro m h; exact ⟨[],m,rfl,.nil,h⟩
 | cons a l ih =>
  intro m h
  cases h with
  | cons r h=>obtain ⟨m1,m2,rfl,h1,h2⟩:=ih h; exact ⟨_::m1,m2,rfl,.cons r h1,h2⟩
theorem All2.of_get:∀ {l:List α} {m:List β},l.length=m.length→(∀ (i:Nat) (a:α) (b:β),l[i]?=some a→m[i]?=some b→R a b)→All2 R l m
 | [],[],_,_=>.nil
 | [],_::_,h,_=>by simp at h
 | _::_,[],h,_=>by simp at h
 | a::l,b::m,h,k=>.cons (k 0 a b rfl rfl) (All2.of_get (by simpa using h) fun i x y hx hy=>k (i+1) x y (by simpa using hx) (by simpa using hy))
end
abbrev Bs:=List (Option Nat)
def Bs.at (bs:Bs) (id:Nat):Option Nat:=(bs[id]?).bind fun x=>x
def Blk.look (hp:List Blk) (id:Nat):Blk:=(hp[id]?).getD .dead
def Mof (M0:Nat→Prop) (bs:Bs) (b:Nat):Prop:=M0 b∨∃ id,bs.at id=some b
def OwnAt (w:World) (b cap size:Nat):Prop:=∃ cur e,w.heap[b]?=some (.cells cur e (0,0))∧cur.size=cap*size∧cap≤maxLen
def FrozenAt (w:World) (M:Nat→Prop) (c:Sigma Ty.T) (p:Value):Prop :=
 ∃ b off cs,p=.pointer (some ⟨b,off,none⟩)∧¬ M b∧b<w.heap.size∧rep w M c.1 c.2 cs∧CellsAt w b off cs
theorem repD_fnOf {w:World} {M:Nat→Prop} (f:FuncId) {caps:List (Sigma Ty.T)} {ps:List Value} (h:All2 (FrozenAt w M) caps ps):RepD w M .fn (D.fnOf f caps) [.func (.func f) #[] ps.toArray]:=by
 have hl:=h.length
 have hc:∃ (css:Nat→List Value) (bo:Nat→Nat×Nat),∀ (i:Nat) (c:Sigma Ty.T) (p:Value),caps[i]?=some c→ps[i]?=some p →
   p=.pointer (some ⟨(bo i).1,(bo i).2,none⟩)∧¬ M (bo i).1∧(bo i).1<w.heap.size∧rep w M c.1 c.2 (css i)∧CellsAt w (bo i).1 (bo i).2 (css i):=by
  clear hl
  induction h with
  | nil=>exact ⟨fun _=>[],fun _=>(0,0),fun i c p h=>by simp at h⟩
  | cons r _ ih =>
   obtain ⟨css,bo,hh⟩:=ih
   obtain ⟨b,off,cs,h1,h2,h3,h4,h5⟩:=r
   refine ⟨fun i=>match i with | 0=>cs | i+1=>css i,fun i=>match i with | 0=>(b,off) | i+1=>bo i,fun i c p hc hp => ?_⟩
   cases i with
   | zero=>simp at hc hp; subst hc; subst hp; exact ⟨h1,h2,h3,h4,h5⟩
   | succ i=>exact hh i c p (by simpa using hc) (by simpa using hp)
 obtain ⟨css,bo,hh⟩:=hc
 have hto:(DC.of (caps.map dS)).to=caps.map dS:=DC.to_of _
 refine .fn f _ ps css bo (by rw [hto,List.length_map]; exact hl.symm) (fun i p hp => ?_) (fun i c hc => ?_)
 ·
  have hi:=(List.getElem?_eq_some_iff.1 hp).1
  obtain ⟨k1,k2,k3,_,k5⟩:=hh i caps[i] p (List.getElem?_eq_getElem (by omega)) hp
  exact ⟨k1,k2,k3,k5⟩
 ·
  rw [hto,List.getElem?_map] at hc
  cases hi:caps[i]? with
  | none=>rw [hi] at hc; cases hc
  | some y =>
   rw [hi] at hc; cases hc
   have hlt:=(List.getElem?_eq_some_iff.1 hi).1
   obtain ⟨_,_,_,k4,_⟩:=hh i y ps[i] hi (List.getElem?_eq_getElem (by omega))
   exact rep_toD _ _ _ k4
theorem repD_parts {w:World} {M:Nat→Prop} {x:D .fn} {v:Value} {f:FuncId} {caps:List (Sigma Ty.T)} (h:RepD w M .fn x [v]) (hp:x.parts=some (f,caps)):∃ ps:List Value,v=.func (.func f) #[] ps.toArray∧All2 (FrozenAt w M) caps ps:=by
 cases h with
 | nofn=>simp [D.parts] at hp
 | bnd=>simp [D.parts] at hp
 | fn f' caps' ps css bo h1 h2 h3 =>
  simp only [D.parts,Option.some.injEq,Prod.mk.injEq] at hp
  obtain ⟨rfl,rfl⟩:=hp
  refine ⟨ps,rfl,All2.of_get (by rw [List.length_map,h1]) fun i c p hc hp => ?_⟩
  rw [List.getElem?_map] at hc
  cases hi:caps'.to[i]? with
  | none=>rw [hi] at hc; cases hc
  | some y =>
   rw [hi] at hc; cases hc
   obtain ⟨k1,k2,k3,k4⟩:=h2 i p hp
   exact ⟨_,_,_,k1,k2,k3,rep_ofD _ _ _ (h3 i y hi),k4⟩
theorem repD_bndOf {w:World} {M:Nat→Prop} (f:FuncId) {c:Sigma Ty.T} {cs:List Value} (h:rep w M c.1 c.2 cs):RepD w M .fn (D.bndOf f c) [.func (.func f) #[bndV c.1 cs] #[]]:=.bnd _ _ _ _ (rep_toD _ _ _ h)
theorem repD_bpart {w:World} {M:Nat→Prop} {x:D .fn} {v:Value} {f:FuncId} {c:Sigma Ty.T} (h:RepD w M .fn x [v]) (hp:x.bpart=some (f,c)):∃ cs:List Value,v=.func (.func f) #[bndV c.1 cs] #[]∧rep w M c.1 c.2 cs:=by
 cases h with
 | nofn=>simp [D.bpart] at hp
 | fn f' caps' ps css bo h1 h2 h3=>simp [D.bpart] at hp
 | bnd f' t x cs h1 =>
  simp only [D.bpart,Option.some.injEq,Prod.mk.injEq] at hp
  obtain ⟨rfl,rfl⟩:=hp
  exact ⟨cs,rfl,rep_ofD _ _ _ h1⟩
theorem FrozenAt.evo {w w':World} {M M':Nat→Prop} (h:Evo M M' w w') {c:Sigma Ty.T} {p:Value} (k:FrozenAt w M c p):FrozenAt w' M' c p:=by
 obtain ⟨b,off,cs,h1,h2,h3,h4,h5⟩:=k
 exact ⟨b,off,cs,h1,h.free b h3 h2,Nat.lt_of_lt_of_le h3 h.size,rep_evo h _ _ _ h4,h5.evo h h3 h2⟩
def relSV (w:World) (M:Nat→Prop) (bs:Bs) (hp:List Blk):SV→Value→Prop
 | .any,_=>True
 | .bool b,v=>v=.bool b
 | .int k n,v=>v=.int k n
 | .str s,v=>v=.string s
 | .val x,v=>v=x
 | .sl t xs ex,v=>∃ a c,v=.slice a xs.length c∧xs.length≤c∧c≤maxLen∧(ex=true→c=xs.length)∧RowAt w M (fun x cs=>rep w M t x cs) t.size a xs
 | .eptr t x,v=>∃ b off cs,v=.pointer (some ⟨b,off,none⟩)∧¬ M b∧b<w.heap.size∧rep w M t x cs∧CellsAt w b off cs
 | .box id off,v=>id<hp.length∧∀ cs,Blk.look hp id=.cells cs→∃ b,bs.at id=some b∧v=.pointer (some ⟨b,off,none⟩)
 | .own t id n,v=>id<hp.length∧∀ al cs,Blk.look hp id=.arr al cs→n*t.size≤cs.length∧(cs.length=n*t.size →
   (∃ b cap,bs.at id=some b∧v=.slice (some ⟨b,0,none⟩) n cap∧n≤cap∧OwnAt w b cap t.size) ∨
   (bs.at id=none∧∃ (xs:List t.T) (a:Option Addr),xs.length=n∧n≤maxLen∧cs=t.flats xs∧v=.slice a n n∧RowAt w M (fun x cs=>rep w M t x cs) t.size a xs))
 | .eown t id n off,v=>id<hp.length∧∀ al cs,Blk.look hp id=.arr al cs→n*t.size≤cs.length∧(cs.length=n*t.size→∃ b,bs.at id=some b∧v=.pointer (some ⟨b,off,none⟩))
 | .pre t id n m,v=>id<hp.length∧m≤n∧∀ al cs,Blk.look hp id=.arr al cs→n*t.size≤cs.length∧(cs.length=n*t.size→∃ b cap,bs.at id=some b∧v=.slice (some ⟨b,0,none⟩) m cap∧n≤cap∧OwnAt w b cap t.size)
 | .suf t id n k,v=>id<hp.length∧k≤n∧∀ al cs,Blk.look hp id=.arr al cs→n*t.size≤cs.length∧(cs.length=n*t.size→∃ b cap a,bs.at id=some b∧v=.slice a (n - k) (cap - k)∧(k<n→a=some ⟨b,k*t.size,none⟩)∧n≤cap∧OwnAt w b cap t.size)
 | .fn f caps,v=>∃ ps,v=.func (.func f) #[] (ps.map fun b=>.pointer (some ⟨b,0,none⟩)).toArray∧All2 (fun id b=>id<hp.length∧∀ cs,Blk.look hp id=.cells cs→bs.at id=some b) caps ps
 | .fnp f caps,v=>∃ ps,v=.func (.func f) #[] ps.toArray∧All2 (FrozenAt w M) caps ps
 | .mp id,v=>∃ b k u es,bs.at id=some b∧Blk.look hp id=.map k u es∧v=.map (some b)
 | .ib p q,v=>∃ b,v=.bool b∧(b=true→p)∧(b=false→q)
 | .fv x,v=>RepD w M .fn x [v]
def relAV (w:World) (M:Nat→Prop) (bs:Bs) (hp:List Blk):AV→Value→Prop
 | .s x,v=>relSV w M bs hp x v
 | .agg cs,v=>∃ vs,v=.agg vs.toArray∧All2 (fun x u=>relSV w M bs hp x u∧u.oneCell'=true) cs vs
def relRV (w:World) (M:Nat→Prop) (bs:Bs) (hp:List Blk):RV→Value→Prop
 | .v x,v=>relAV w M bs hp x v
 | .tup xs,v=>∃ vs,v=.tuple vs.toArray∧All2 (relAV w M bs hp) xs vs
def relSL (w:World) (M:Nat→Prop) (bs:Bs) (hp:List Blk) (x:SL) (v:Value):Prop :=
 (x.ok=true→relRV w M bs hp x.v v)∧(x.ok=false→v=undef)
structure Only (w:World) (bs:Bs) (hp:List Blk) (w':World) (bs':Bs) (hp':List Blk):Prop where
 old:∀ b,b<w.heap.size→(∀ id,bs.at id≠some b)→w'.heap[b]?=w.heap[b]?
 new:∀ b,b<w.heap.size→(∀ id,bs.at id≠some b)→∀ id,bs'.at id≠some b
 tr:∀ id l xs i st,Blk.look hp' id=.trace l xs i st→Blk.look hp id=.trace l xs i st
theorem Only.refl (w:World) (bs:Bs) (hp:List Blk):Only w bs hp w bs hp:=⟨fun _ _ _=>rfl,fun _ _ h=>h,fun _ _ _ _ _ h=>h⟩
theorem Only.trans {w w' w'':World} {bs bs' bs'':Bs} {hp hp' hp'':List Blk} (h:Only w bs hp w' bs' hp') (hs:w.heap.size≤w'.heap.size) (k:Only w' bs' hp' w'' bs'' hp''):Only w bs hp w'' bs'' hp'' :=
 ⟨fun b hb hn=>(k.old b (Nat.lt_of_lt_of_le hb hs) (h.new b hb hn)).trans (h.old b hb hn),fun b hb hn=>k.new b (Nat.lt_of_lt_of_le hb hs) (h.new b hb hn),fun id l xs i st ht=>h.tr id l xs i st (k.tr id l xs i st ht)⟩
structure Step (v:Bool) (w:World) (M:Nat→Prop) (bs:Bs) (hp:List Blk) (w':World) (M':Nat→Prop) (bs':Bs) (hp':List Blk):Prop where
 evo:Evo M M' w w'
 len:hp.length≤hp'.length
 box:∀ id cs',id<hp.length→Blk.look hp' id=.cells cs'→(∃ cs,Blk.look hp id=.cells cs)∧bs'.at id=bs.at id
 map:∀ id b k u es,bs.at id=some b→Blk.look hp id=.map k u es→bs'.at id=some b∧∃ es',Blk.look hp' id=.map k u es'
 own:∀ id al cs,id<hp.length→Blk.look hp' id=.arr al cs→∃ al0 cs0,Blk.look hp id=.arr al0 cs0∧(cs0.length<cs.length ∨
   (cs0.length=cs.length∧bs'.at id=bs.at id∧(bs.at id=none→cs=cs0)∧∀ b,bs.at id=some b→∀ cap size,OwnAt w b cap size→OwnAt w' b cap size))
 only:v=false→Only w bs hp w' bs' hp'
theorem Step.refl {v:Bool} (w:World) (M:Nat→Prop) (bs:Bs) (hp:List Blk):Step v w M bs hp w M bs hp :=
 ⟨Evo.refl M w,Nat.le_refl _,fun id cs _ h=>⟨⟨cs,h⟩,rfl⟩,fun id b k u es h1 h2=>⟨h1,es,h2⟩,fun id al cs _ h=>⟨al,cs,h,.inr ⟨rfl,rfl,fun _=>rfl,fun b hb cap size ho=>ho⟩⟩,fun _=>Only.refl _ _ _⟩
theorem Step.weaken {v:Bool} {w w':World} {M M':Nat→Prop} {bs bs':Bs} {hp hp':List Blk} (h:Step false w M bs hp w' M' bs' hp'):Step v w M bs hp w' M' bs' hp':=⟨h.evo,h.len,h.box,h.map,h.own,fun _=>h.only rfl⟩
theorem Step.trans {v:Bool} {w w' w'':World} {M M' M'':Nat→Prop} {bs bs' bs'':Bs} {hp hp' hp'':List Blk} (h:Step v w M bs hp w' M' bs' hp') (k:Step v w' M' bs' hp' w'' M'' bs'' hp'') :
  Step v w M bs hp w'' M'' bs'' hp'':=by
 refine ⟨h.evo.trans k.evo,Nat.le_trans h.len k.len,?_,?_,?_,fun hv=>(h.only hv).trans h.evo.size (k.only hv)⟩
 ·
  intro id cs'' hid hl
  obtain ⟨⟨cs',e1⟩,e2⟩:=k.box id cs'' (Nat.lt_of_lt_of_le hid h.len) hl
  obtain ⟨e3,e4⟩:=h.box id cs' hid e1
  exact ⟨e3,e2.trans e4⟩
 ·
  intro id b kt u es h1 h2
  obtain ⟨e1,es',e2⟩:=h.map id b kt u es h1 h2
  exact k.map id b kt u es' e1 e2
 ·
  intro id al cs hid hl
  obtain ⟨al1,cs1,h1,h2⟩:=k.own id al cs (Nat.lt_of_lt_of_le hid h.len) hl
  obtain ⟨al0,cs0,h3,h4⟩:=h.own id al1 cs1 hid h1
  refine ⟨al0,cs0,h3,?_⟩
  rcases h2 with h2 | ⟨h2,e2,q2,r2⟩
  ·
   rcases h4 with h4 | ⟨h4,_⟩
   ·
    exact .inl (by omega)
   ·
    exact .inl (by omega)
  ·
   rcases h4 with h4 | ⟨h4,e4,q4,r4⟩
   ·
    exact .inl (by omega)
   ·
    refine .inr ⟨by omega,by rw [e2,e4],fun hn=>by rw [q2 (by rw [e4]; exact hn),q4 hn],fun b hb cap size ho => ?_⟩
    exact r2 b (by rw [e4]; exact hb) _ _ (r4 b hb _ _ ho)
theorem relSV_step {v₀:Bool} {w w':World} {M M':Nat→Prop} {bs bs':Bs} {hp hp':List Blk} (h:Step v₀ w M bs hp w' M' bs' hp'):∀ (x:SV) (v:Value),relSV w M bs hp x v→relSV w' M' bs' hp' x v
 | .any,_,_=>trivial
 | .bool b,v,hr=>hr
 | .int k n,v,hr=>hr
 | .str s,v,hr=>hr
 | .val x,v,hr=>hr
 | .sl t xs ex,v,hr=>by
  obtain ⟨a,c,h1,h2,h3,h4,h5⟩:=hr
  exact ⟨a,c,h1,h2,h3,h4,h5.evo h.evo⟩
 | .eptr t x,v,hr=>by
  obtain ⟨b,off,cs,h1,h2,h3,h4,h5⟩:=hr
  exact ⟨b,off,cs,h1,h.evo.free b h3 h2,Nat.lt_of_lt_of_le h3 h.evo.size,rep_evo h.evo _ _ _ h4,h5.evo h.evo h3 h2⟩
 | .box id off,v,hr=>by
  obtain ⟨hid,hr⟩:=hr
  refine ⟨Nat.lt_of_lt_of_le hid h.len,fun cs' hl => ?_⟩
  obtain ⟨⟨cs,k1⟩,k2⟩:=h.box id cs' hid hl
  rw [k2]
  exact hr cs k1
 | .own t id n,v,hr=>by
  obtain ⟨hid,hr⟩:=hr
  refine ⟨Nat.lt_of_lt_of_le hid h.len,fun al cs hcs => ?_⟩
  obtain ⟨al0,cs0,hc0,hlen⟩:=h.own id al cs hid hcs
  obtain ⟨h1,h2⟩:=hr al0 cs0 hc0
  rcases hlen with hlt | ⟨hle,e1,e2,e3⟩
  ·
   exact ⟨by omega,fun hl=>by omega⟩
  ·
   refine ⟨by omega,fun hl => ?_⟩
   rcases h2 (by omega) with ⟨b,cap,k1,k2,k3,k4⟩ | ⟨k1,xs,a,k2,k3,k4,k5,k6⟩
   ·
    exact .inl ⟨b,cap,by rw [e1]; exact k1,k2,k3,e3 b k1 _ _ k4⟩
   ·
    exact .inr ⟨by rw [e1]; exact k1,xs,a,k2,k3,by rw [e2 k1]; exact k4,k5,k6.evo h.evo⟩
 | .eown t id n off,v,hr=>by
  obtain ⟨hid,hr⟩:=hr
  refine ⟨Nat.lt_of_lt_of_le hid h.len,fun al cs hcs => ?_⟩
  obtain ⟨al0,cs0,hc0,hlen⟩:=h.own id al cs hid hcs
  obtain ⟨h1,h2⟩:=hr al0 cs0 hc0
  rcases hlen with hlt | ⟨hle,e1,e2,e3⟩
  ·
   exact ⟨by omega,fun hl=>by omega⟩
  ·
   refine ⟨by omega,fun hl => ?_⟩
   obtain ⟨b,k1,k2⟩:=h2 (by omega)
   exact ⟨b,by rw [e1]; exact k1,k2⟩
 | .pre t id n m,v,hr=>by
  obtain ⟨hid,hm,hr⟩:=hr
  refine ⟨Nat.lt_of_lt_of_le hid h.len,hm,fun al cs hcs => ?_⟩
  obtain ⟨al0,cs0,hc0,hlen⟩:=h.own id al cs hid hcs
  obtain ⟨h1,h2⟩:=hr al0 cs0 hc0
  rcases hlen with hlt | ⟨hle,e1,e2,e3⟩
  ·
   exact ⟨by omega,fun hl=>by omega⟩
  ·
   refine ⟨by omega,fun hl => ?_⟩
   obtain ⟨b,cap,k1,k2,k3,k4⟩:=h2 (by omega)
   exact ⟨b,cap,by rw [e1]; exact k1,k2,k3,e3 b k1 _ _ k4⟩
 | .suf t id n k,v,hr=>by
  obtain ⟨hid,hm,hr⟩:=hr
  refine ⟨Nat.lt_of_lt_of_le hid h.len,hm,fun al cs hcs => ?_⟩
  obtain ⟨al0,cs0,hc0,hlen⟩:=h.own id al cs hid hcs
  obtain ⟨h1,h2⟩:=hr al0 cs0 hc0
  rcases hlen with hlt | ⟨hle,e1,e2,e3⟩
  ·
   exact ⟨by omega,fun hl=>by omega⟩
  ·
   refine ⟨by omega,fun hl => ?_⟩
   obtain ⟨b,cap,a,k1,k2,k5,k3,k4⟩:=h2 (by omega)
   exact ⟨b,cap,a,by rw [e1]; exact k1,k2,k5,k3,e3 b k1 _ _ k4⟩
 | .fn f caps,v,hr=>by
  obtain ⟨ps,h1,h2⟩:=hr
  refine ⟨ps,h1,h2.imp fun id b hb => ?_⟩
  obtain ⟨hid,hb⟩:=hb
  refine ⟨Nat.lt_of_lt_of_le hid h.len,fun cs' hl => ?_⟩
  obtain ⟨⟨cs,k1⟩,k2⟩:=h.box id cs' hid hl
  rw [k2]
  exact hb cs k1
 | .fnp f caps,v,hr=>by
  obtain ⟨ps,h1,h2⟩:=hr
  exact ⟨ps,h1,h2.imp fun c p hp=>hp.evo h.evo⟩
 | .mp id,v,hr=>by
  obtain ⟨b,k,u,es,h1,h2,h3⟩:=hr
  obtain ⟨k1,es',k2⟩:=h.map id b k u es h1 h2
  exact ⟨b,k,u,es',k1,k2,h3⟩
 | .ib _ _,_,hr=>hr
 | .fv x,v,hr=>RepD.evo h.evo hr
theorem relAV_step {v₀:Bool} {w w':World} {M M':Nat→Prop} {bs bs':Bs} {hp hp':List Blk} (h:Step v₀ w M bs hp w' M' bs' hp'):∀ (x:AV) (v:Value),relAV w M bs hp x v→relAV w' M' bs' hp' x v
 | .s x,v,hr=>relSV_step h x v hr
 | .agg cs,v,hr=>by
  obtain ⟨vs,h1,h2⟩:=hr
  exact ⟨vs,h1,h2.imp fun x u hu=>⟨relSV_step h x u hu.1,hu.2⟩⟩
theorem relRV_step {v₀:Bool} {w w':World} {M M':Nat→Prop} {bs bs':Bs} {hp hp':List Blk} (h:Step v₀ w M bs hp w' M' bs' hp'):∀ (x:RV) (v:Value),relRV w M bs hp x v→relRV w' M' bs' hp' x v
 | .v x,v,hr=>relAV_step h x v hr
 | .tup xs,v,hr=>by
  obtain ⟨vs,h1,h2⟩:=hr
  exact ⟨vs,h1,h2.imp fun x u hu=>relAV_step h x u hu⟩
theorem relSL_step {v₀:Bool} {w w':World} {M M':Nat→Prop} {bs bs':Bs} {hp hp':List Blk} (h:Step v₀ w M bs hp w' M' bs' hp') (x:SL) (v:Value) (hr:relSL w M bs hp x v):relSL w' M' bs' hp' x v :=
 ⟨fun ho=>relRV_step h x.v v (hr.1 ho),hr.2⟩
structure HR (w:World) (M0:Nat→Prop) (bs:Bs) (hp:List Blk):Prop where
 len:bs.length=hp.length
 m0:∀ b,M0 b→b<w.heap.size
 lt:∀ id b,bs.at id=some b→b<w.heap.size
 inj:∀ i j b,bs.at i=some b→bs.at j=some b→i=j
 out:∀ id b,bs.at id=some b→¬ M0 b
 al:∀ id cs,Blk.look hp id=.arr true cs→∃ b,bs.at id=some b
 cells:∀ id cs,Blk.look hp id=.cells cs→∃ b cur e,bs.at id=some b∧w.heap[b]?=some (.cells cur e (0,0))∧cs.length=cur.size ∧
  ∀ (j:Nat) (x:SV),cs[j]?=some x→∃ u,cur[j]?=some u∧u.oneCell'=true∧relSV w (Mof M0 bs) bs hp x u
 arr:∀ id al cs b,Blk.look hp id=.arr al cs→bs.at id=some b→∃ cur e,w.heap[b]?=some (.cells cur e (0,0)) ∧
  ∀ (j:Nat) (x:SV),cs[j]?=some x→∃ u,cur[j]?=some u∧u.oneCell'=true∧relSV w (Mof M0 bs) bs hp x u
 map:∀ id k v es,Blk.look hp id=.map k v es→∃ b ents clock,bs.at id=some b∧w.heap[b]?=some (.map ents clock) ∧
  All2 (fun x (m:MapEntry)=>m.key=kval k x.1∧repV w (Mof M0 bs) v x.2 m.val) es ents.toList
theorem rep_flat {w:World} {M:Nat→Prop} {bs:Bs} {hp:List Blk}:∀ (t:Ty) (x:t.T) (cs:List Value),rep w M t x cs→All2 (fun x u=>relSV w M bs hp x u∧u.oneCell'=true) (t.flat x) cs
 | .int k,n,cs,h=>by simp only [rep] at h; subst h; exact .cons ⟨rfl,rfl⟩ .nil
 | .bool,b,cs,h=>by simp only [rep] at h; subst h; exact .cons ⟨rfl,rfl⟩ .nil
 | .str,s,cs,h=>by simp only [rep] at h; subst h; exact .cons ⟨rfl,rfl⟩ .nil
 | .slice t,xs,cs,h=>by
  simp only [rep] at h
  obtain ⟨a,c,rfl,h1,h2,h3⟩:=h
  exact .cons ⟨⟨a,c,rfl,h1,h2,by simp,h3⟩,rfl⟩ .nil
 | .nil,_,cs,h=>by simp only [rep] at h; subst h; exact .nil
 | .cons t r,x,cs,h=>by
  simp only [rep] at h
  obtain ⟨c1,c2,rfl,h1,h2⟩:=h
  exact (rep_flat t _ _ h1).append (rep_flat r _ _ h2)
 | .fn,x,cs,h=>by
  simp only [rep] at h
  obtain ⟨v,rfl,h1⟩:=h.fn_one
  exact .cons ⟨h,h1⟩ .nil
theorem parse_rep {w:World} {M:Nat→Prop} {bs:Bs} {hp:List Blk}:∀ (t:Ty) (l:List SV) (x:t.T) (r:List SV) (us:List Value),t.parse l=some (x,r) →
  All2 (relSV w M bs hp) l us→∃ c1 c2,us=c1++c2∧rep w M t x c1∧All2 (relSV w M bs hp) r c2
 | .int k,l,x,r,us,h,hu=>by
  cases hu with
  | nil=>simp [Ty.parse] at h
  | cons ha hl =>
   rename_i a b l m
   cases a <;> simp [Ty.parse] at h
   obtain ⟨rfl,rfl,rfl⟩:=h
   exact ⟨[b],m,rfl,by rw [show b=_ from ha]; simp [rep],hl⟩
 | .bool,l,x,r,us,h,hu=>by
  cases hu with
  | nil=>simp [Ty.parse] at h
  | cons ha hl =>
   rename_i a b l m
   cases a <;> simp [Ty.parse] at h
   obtain ⟨rfl,rfl⟩:=h
   exact ⟨[b],m,rfl,by rw [show b=_ from ha]; simp [rep],hl⟩
 | .str,l,x,r,us,h,hu=>by
  cases hu with
  | nil=>simp [Ty.parse] at h
  | cons ha hl =>
   rename_i a b l m
   cases a <;> simp [Ty.parse] at h
   obtain ⟨rfl,rfl⟩:=h
   exact ⟨[b],m,rfl,by rw [show b=_ from ha]; simp [rep],hl⟩
 | .slice t,l,x,r,us,h,hu=>by
  cases hu with
  | nil=>simp [Ty.parse] at h
  | cons ha hl =>
   rename_i a b l m
   cases a <;> simp [Ty.parse] at h
   rename_i t' xs ex
   obtain ⟨⟨rfl,rfl⟩,rfl⟩:=h
   obtain ⟨a,c,h1,h2,h3,_,h5⟩:=ha
   exact ⟨[b],m,rfl,by simp only [rep]; exact ⟨a,c,by rw [h1],h2,h3,h5⟩,hl⟩
 | .fn,l,x,r,us,h,hu=>by
  cases hu with
  | nil=>simp [Ty.parse] at h
  | cons ha hl =>
   rename_i a b l m
   simp only [rep]
   cases a with
   | fv y =>
    simp [Ty.parse] at h
    obtain ⟨rfl,rfl⟩:=h
    exact ⟨[b],m,rfl,ha,hl⟩
   | fnp f caps =>
    simp [Ty.parse] at h
    obtain ⟨rfl,rfl⟩:=h
    obtain ⟨ps,rfl,k2⟩:=ha
    exact ⟨_,m,rfl,repD_fnOf f k2,hl⟩
   | fn f ids =>
    cases ids with
    | cons i ids=>simp [Ty.parse] at h
    | nil =>
     simp [Ty.parse] at h
     obtain ⟨rfl,rfl⟩:=h
     obtain ⟨ps,rfl,k2⟩:=ha
     cases k2
     exact ⟨_,m,rfl,repD_fnOf (ps:=[]) f .nil,hl⟩
   | val y =>
    cases y <;> simp [Ty.parse] at h
    obtain ⟨rfl,rfl⟩:=h
    obtain rfl:b=_:=ha
    exact ⟨_,m,rfl,.nofn,hl⟩
   | _=>simp [Ty.parse] at h
 | .nil,l,x,r,us,h,hu=>by
  simp [Ty.parse] at h
  subst h
  exact ⟨[],us,rfl,by simp [rep],hu⟩
 | .cons t u,l,x,r,us,h,hu=>by
  simp only [Ty.parse] at h
  cases h1:t.parse l with
  | none=>simp [h1] at h
  | some p =>
   obtain ⟨x1,l1⟩:=p
   simp only [h1] at h
   cases h2:u.parse l1 with
   | none=>simp [h2] at h
   | some q =>
    obtain ⟨y1,l2⟩:=q
    simp only [h2] at h
    simp at h
    obtain ⟨rfl,rfl⟩:=h
    obtain ⟨c1,c2,rfl,k1,k2⟩:=parse_rep t l x1 l1 us h1 hu
    obtain ⟨c3,c4,rfl,k3,k4⟩:=parse_rep u l1 y1 l2 c2 h2 k2
    exact ⟨c1++c3,c4,by simp,by simp only [rep]; exact ⟨c1,c3,rfl,k1,k3⟩,k4⟩
def Ty.beq:(t:Ty)→t.T→t.T→Bool
 | .int _,a,b=>a==b
 | .str,a,b=>a==b
 | .bool,a,b=>a==b
 | .nil,_,_=>true
 | .cons t r,a,b=>t.beq a.1 b.1&&r.beq a.2 b.2
 | _,_,_=>false
def EqOk (P:Program) (t:TypeId) (ty:Ty):Prop:=∀ (w:World) (M:Nat→Prop) (x y:ty.T) (cs ds:List Value),rep w M ty x cs→rep w M ty y ds→∀ ox oy:Operand,
 (eqGuard .eql t ox oy (.agg cs.toArray) (.agg ds.toArray)).run P w=.ok () w∧(eqGuard .neq t ox oy (.agg cs.toArray) (.agg ds.toArray)).run P w=.ok () w ∧
 (Op.equal t (.agg cs.toArray) (.agg ds.toArray)).run P w=.ok (ty.beq x y) w
inductive TD where
 | sc (ty:Ty)
 | slice (e:TypeId) (ety:Ty) (bytes:Nat)
 | struct (ty:Ty)
 | map (k e:TypeId) (kt vt:Ty)
 | func
 | arr (n:Nat) (e:TypeId) (ety:Ty)
 | eqs (ty:Ty)
 | other
def look {α:Type}:List (Nat×α)→Nat→Option α
 | [],_=>none
 | (k,x)::r,n=>if k=n then some x else look r n
def Ty.zcells:Ty→List Value
 | .int k=>[.int k 0]
 | .bool=>[.bool false]
 | .str=>[.string ByteArray.empty]
 | .slice _=>[.slice none 0 0]
 | .nil=>[]
 | .cons t r=>t.zcells++r.zcells
 | .fn=>[.nilFunc]
def Ty.zsv:Ty→List SV
 | .int k=>[.int k 0]
 | .bool=>[.bool false]
 | .str=>[.str ByteArray.empty]
 | .slice t=>[.sl t [] true]
 | .nil=>[]
 | .cons t r=>t.zsv++r.zsv
 | .fn=>[.fv .nofn]
def Ty.desc:Ty→TypeDesc
 | .int k=>.int k
 | .bool=>.bool
 | .str=>.string
 | _=>.invalid
def Ty.scalar:Ty→Bool
 | .int _=>true
 | .bool=>true
 | .str=>true
 | _=>false
def Ty.sizes:Ty→List Nat
 | .cons t r=>t.size::r.sizes
 | _=>[]
def Ty.offs:Ty→List Nat
 | t=>(List.range t.nfld).map t.off
def cellsV:List Value→Value
 | [v]=>v
 | l=>.agg l.toArray
def TD.ok (P:Program) (t:TypeId):TD→Prop
 | .sc ty=>P.underlying t=some ty.desc∧ty.zcells.length=1∧(P.info? t).map (fun i=>(i.size,i.zero))=some (1,some (cellsV ty.zcells))∧ty.scalar=true
 | .slice e ety bytes=>P.underlying t=some (.slice e)∧0<ety.size∧(P.info? e).map (fun i=>(i.size,i.bytes))=some (ety.size,bytes) ∧
   (∃ z,(P.info? e).bind (fun i=>i.zero)=some z∧z.cells.size=ety.size∧z.cells=ety.zcells.toArray)∧(P.info? t).map (fun i=>(i.size,i.zero))=some (1,some (.slice none 0 0))
 | .struct ty=>∃ fs:Array Field,P.underlying t=some (.struct fs)∧fs.toList.map (fun f=>f.offset)=ty.offs ∧
   fs.toList.map (fun f=>(P.info? f.type).map (fun i=>i.size))=ty.sizes.map some∧(∀ n∈ty.sizes,0<n)∧(P.info? t).map (fun i=>(i.size,i.zero))=some (ty.size,some (.agg ty.zcells.toArray))
 | .map k e kt vt=>P.underlying t=some (.map k e)∧P.underlying k=some kt.desc∧(P.info? e).bind (fun i=>i.zero)=some (unitV vt vt.zcells)∧kt.keyOk=true∧vt≠.nil
 | .func=>(∃ ps rs vd,P.underlying t=some (.func ps rs vd))∧(P.info? t).map (fun i=>(i.size,i.zero))=some (1,some .nilFunc)
 | .arr n e ety=>P.underlying t=some (.array n e)∧(P.info? e).map (fun i=>i.size)=some ety.size∧(P.info? t).map (fun i=>(i.size,i.zero))=some (n*ety.size,some (.agg (List.replicate n ety.zcells).flatten.toArray))
 | .eqs ty=>1000000≤t∧EqOk P (t - 1000000) ty
 | .other=>True
structure Con where
 pre:List AV→Prop
 val:List AV→RV
structure ECon where
 wp:List AV→List Blk→(RV→List Blk→Prop)→Prop
structure PCon where
 when:List AV→Prop
 what:List AV→Value
structure G where
 τ:List (TypeId×TD)
 Γ:List (FuncId×Con)
 y:Bool:=false
 top:Bool:=true
 E:List (FuncId×ECon):=[]
 fz:List Nat:=[]
 Pn:List (FuncId×PCon):=[]
def G.quiet (g:G):G:={ g with y:=false }
abbrev G.ye (g:G):Bool×List FuncId:=(g.y,g.E.map (·.1))
def G.td (g:G) (t:TypeId):TD:=(look g.τ t).getD .other
def coeTy:Ty→AV→AV
 | .slice t,.s (.val (.slice none 0 0))=>.s (.sl t [] true)
 | _,x=>x
def RV.av:RV→AV
 | .v x=>x
 | .tup _=>.s .any
def coe (g:G) (t:TypeId):RV→RV
 | .v (.s (.val (.slice none 0 0)))=>match g.td t with
  | .slice _ ety _=>.v (.s (.sl ety [] true))
  | _=>.v (.s (.val (.slice none 0 0)))
 | x=>x
def Ty.av (t:Ty) (x:t.T):AV :=
 match t,x with
 | .int k,n=>.s (.int k n)
 | .bool,b=>.s (.bool b)
 | .str,s=>.s (.str s)
 | .slice t,xs=>.s (.sl t xs false)
 | .nil,_=>.agg []
 | .cons t r,x=>.agg ((Ty.cons t r).flat x)
 | .fn,x=>.s (.fv x)
def AV.cells:AV→List SV
 | .s x=>[x]
 | .agg cs=>cs
def Ty.of (t:Ty):AV→Option t.T
 | .s y=>if t.nfld=0 then (match t.parse [y] with
  | some (z,[])=>some z
  | _=>none) else none
 | .agg cs=>if t.nfld=0 then none else (match t.parse cs with
  | some (z,[])=>some z
  | _=>none)
def inI64 (n:Int):Prop := -9223372036854775808≤n∧n≤9223372036854775807
def arith (k:IntKind) (n:Int):Prop×RV :=
 match k with
 | .i64=>(inI64 n,.v (.s (.int k n)))
 | k=>(True,.v (.s (.int k (k.wrap n))))
def intEv (op:BinOp) (k:IntKind) (a b:Int):Prop×RV :=
 match op with
 | .add=>arith k (a+b)
 | .sub=>arith k (a - b)
 | .mul=>arith k (a*b)
 | .quo=>((b≠0∧(arith k (a.tdiv b)).1),(arith k (a.tdiv b)).2)
 | .rem=>(b≠0,.v (.s (.int k (a.tmod b))))
 | .eql=>(True,.v (.s (.bool (a==b))))
 | .neq=>(True,.v (.s (.bool (a != b))))
 | .lss=>(True,.v (.s (.bool (decide (a<b)))))
 | .leq=>(True,.v (.s (.bool (decide (a≤b)))))
 | .gtr=>(True,.v (.s (.bool (decide (b<a)))))
 | .geq=>(True,.v (.s (.bool (decide (b≤a)))))
 | .shr=>(0≤b∧b≤62∧(b≤8∨b<k.bits),.v (.s (.int k (a.fdiv (2 ^ b.toNat)))))
 | .shl=>((0≤b∧b≤62∧(b≤8∨b<k.bits))∧(arith k (a*2 ^ b.toNat)).1,(arith k (a*2 ^ b.toNat)).2)
 | .and=>((k=.i64∨k=.u64)∧(b=1073741823∨b=1),.v (.s (.int k (a % (b+1)))))
 | .or=>(k=.i64∧0≤a∧a≤9223372036854775807∧0≤b∧b<1073741824∧a % 1073741824=0,.v (.s (.int .i64 (a+b))))
 | _=>(False,.v (.s .any))
def TD.isBool:TD→Bool
 | .sc .bool=>true
 | _=>false
def isShift:BinOp→Bool
 | .shl=>true
 | .shr=>true
 | _=>false
def binEv (g:G) (op:BinOp) (t:TypeId) (x y:AV):Prop×RV :=
 match x,y with
 | .s (.int k a),.s (.int k' b)=>(((k=k'∨isShift op=true)∧(intEv op k a b).1),(intEv op k a b).2)
 | .s (.bool a),.s (.bool b)=>match op with
  | .eql=>((g.td t).isBool=true,.v (.s (.bool (a==b))))
  | .neq=>((g.td t).isBool=true,.v (.s (.bool (a != b))))
  | _=>(False,.v (.s .any))
 | .s (.sl _ xs _),.s (.val (.slice none 0 0))=>match op,g.td t with
  | .eql,.slice _ _ _=>(True,.v (.s (.ib (xs=[]) True)))
  | .neq,.slice _ _ _=>(True,.v (.s (.ib True (xs=[]))))
  | _,_=>(False,.v (.s .any))
 | .agg xs,.agg ys=>match g.td (t+1000000) with
  | .eqs ty=>match ty.of (.agg xs),ty.of (.agg ys) with
   | some a,some b=>match op with
    | .eql=>(True,.v (.s (.bool (ty.beq a b))))
    | .neq=>(True,.v (.s (.bool (!ty.beq a b))))
    | _=>(False,.v (.s .any))
   | _,_=>(False,.v (.s .any))
  | _=>(False,.v (.s .any))
 | _,_=>(False,.v (.s .any))
def unEv (op:UnOp) (x:AV):Prop×RV :=
 match op,x with
 | .not,.s (.bool b)=>(True,.v (.s (.bool (!b))))
 | .not,.s (.ib p q)=>(True,.v (.s (.ib q p)))
 | .neg,.s (.int .i64 n)=>(inI64 (-n),.v (.s (.int .i64 (-n))))
 | .xor,.s (.int .i64 n)=>(inI64 n,.v (.s (.int .i64 (-n - 1))))
 | _,_=>(False,.v (.s .any))
def pickEv (c a b:AV):Prop×RV :=
 match c,a,b with
 | .s (.bool c),.s (.bool x),.s (.bool y)=>(True,.v (.s (.bool (if c then x else y))))
 | .s (.bool c),.s .any,.s (.bool y)=>(c=false,.v (.s (.bool y)))
 | .s (.bool c),.s (.bool x),.s .any=>(c=true,.v (.s (.bool x)))
 | _,_,_=>(False,.v (.s .any))
def takeAt (l:List SV) (off n:Nat):List SV:=(l.drop off).take n
def loadCs (g:G) (t:TypeId) (cs:List SV) (off:Nat):Prop×RV :=
 match g.td t with
 | .struct ty=>(off+ty.size≤cs.length,.v (.agg (takeAt cs off ty.size)))
 | .map ..=>(False,.v (.s .any))
 | .arr n _ ety=>(off+n*ety.size≤cs.length,.v (.agg (takeAt cs off (n*ety.size))))
 | .eqs _=>(False,.v (.s .any))
 | .other=>(False,.v (.s .any))
 | _=>(off<cs.length,.v (.s ((cs[off]?).getD .any)))
def loadEv (g:G) (hp:List Blk) (t:TypeId) (a:AV):Prop×RV :=
 match a with
 | .s (.eptr ty x)=>match g.td t with
  | .sc ty'=>(ty=ty',.v (ty.av x))
  | .slice _ ety _=>(ty=.slice ety,.v (ty.av x))
  | .struct ty'=>(ty.size=ty'.size∧ty'.nfld≠0,.v (.agg (ty.flat x)))
  | .func=>(ty=.fn,.v (ty.av x))
  | _=>(False,.v (.s .any))
 | .s (.box id off)=>match Blk.look hp id with
  | .cells cs=>loadCs g t cs off
  | _=>(False,.v (.s .any))
 | .s (.eown ty id n off)=>match Blk.look hp id with
  | .arr _ cs=>((cs.length=n*ty.size∧(loadCs g t cs off).1),(loadCs g t cs off).2)
  | _=>(False,.v (.s .any))
 | _=>(False,.v (.s .any))
def fieldAddrEv (g:G) (hp:List Blk) (s:TypeId) (x:AV) (f:Nat):Prop×RV :=
 match g.td s,x with
 | .struct ty,.s (.eptr ty' y)=>(ty'=ty∧f<ty.nfld,.v (.s (.eptr (ty'.fld f) (ty'.get y f))))
 | .struct ty,.s (.box id off)=>match Blk.look hp id with
  | .cells _=>(f<ty.nfld,.v (.s (.box id (off+ty.off f))))
  | _=>(False,.v (.s .any))
 | .struct ty,.s (.eown t id n off)=>match Blk.look hp id with
  | .arr _ cs=>(cs.length=n*t.size∧f<ty.nfld,.v (.s (.eown t id n (off+ty.off f))))
  | _=>(False,.v (.s .any))
 | _,_=>(False,.v (.s .any))
def indexAddrEv (g:G) (hp:List Blk) (t:TypeId) (x i:AV):Prop×RV :=
 match g.td t,x,i with
 | .slice _ ety _,.s (.own ty id n),.s (.int _ k)=>match Blk.look hp id with
  | .arr al cs=>(al=true∧ty=ety∧cs.length=n*ty.size∧0≤k∧k<n,.v (.s (.eown ty id n (k.toNat*ty.size))))
  | _=>(False,.v (.s .any))
 | .arr n _ ety,.s (.box id off),.s (.int _ k)=>match Blk.look hp id with
  | .cells _=>(0≤k∧k<n,.v (.s (.box id (off+k.toNat*ety.size))))
  | _=>(False,.v (.s .any))
 | .slice _ ety _,.s (.pre ty id n m),.s (.int _ k)=>match Blk.look hp id with
  | .arr _ cs=>(ty=ety∧cs.length=n*ty.size∧0≤k∧k<m,.v (.s (.eown ty id n (k.toNat*ty.size))))
  | _=>(False,.v (.s .any))
 | .slice _ ety _,.s (.sl ty xs _),.s (.int _ n)=>(ty=ety∧0≤n∧n<xs.length,.v (.s (.eptr ty (xs.getD n.toNat ty.dflt))))
 | _,_,_=>(False,.v (.s .any))
def bound (d:Int):Option RV→Option Int
 | none=>some d
 | some (.v (.s (.int _ n)))=>some n
 | some _=>none
def sliceEv (g:G) (t:TypeId) (x:AV) (lo hi mx:Option RV):Prop×RV :=
 match g.td t,x with
 | .slice _ ety _,.s (.sl ty xs ex)=>match bound 0 lo,bound xs.length hi,bound xs.length mx with
  | some l,some h,some m=>(ty=ety∧0≤l∧l≤h∧h≤m∧m≤xs.length∧(mx.isSome=true→hi.isSome=true),.v (.s (.sl ty ((xs.take h.toNat).drop l.toNat) ((mx.isSome&&(h==m))||(xs.isEmpty&&ex&&mx.isNone)))))
  | _,_,_=>(False,.v (.s .any))
 | _,_=>(False,.v (.s .any))
def sliceOwnEv (g:G) (hp:List Blk) (t:TypeId) (ty:Ty) (id n m:Nat) (lo hi mx:Option RV):Prop×RV :=
 match g.td t with
 | .slice _ ety _=>match Blk.look hp id with
  | .arr al cs=>match bound 0 lo,bound m hi,mx with
   | some l,some h,none=>(ty=ety∧al=true∧cs.length=n*ty.size∧l=0∧0≤h∧h≤m∧m≤n,.v (.s (.pre ty id n h.toNat)))
   | _,_,_=>(False,.v (.s .any))
  | _=>(False,.v (.s .any))
 | _=>(False,.v (.s .any))
def sliceSufEv (g:G) (hp:List Blk) (t:TypeId) (ty:Ty) (id n:Nat) (lo mx:Option RV):Prop×RV :=
 match g.td t with
 | .slice _ ety _=>match Blk.look hp id with
  | .arr al cs=>match bound 0 lo,mx with
   | some l,none=>(ty=ety∧al=true∧cs.length=n*ty.size∧0≤l∧l≤n,.v (.s (.suf ty id n l.toNat)))
   | _,_=>(False,.v (.s .any))
  | _=>(False,.v (.s .any))
 | _=>(False,.v (.s .any))
def sliceAnyEv (g:G) (hp:List Blk) (t:TypeId) (x:AV) (lo hi mx:Option RV):Prop×RV :=
 match x with
 | .s (.own ty id n)=>match lo,hi with
  | some l,none=>sliceSufEv g hp t ty id n (some l) mx
  | lo,hi=>sliceOwnEv g hp t ty id n n lo hi mx
 | .s (.pre ty id n m)=>sliceOwnEv g hp t ty id n m lo hi mx
 | x=>sliceEv g t x lo hi mx
def lenEv (g:G) (hp:List Blk) (t:TypeId) (x:AV):Prop×RV :=
 match g.td t,x with
 | .slice ..,.s (.sl _ xs _)=>(True,.v (.s (.int .i64 xs.length)))
 | .sc .str,.s (.str s)=>(True,.v (.s (.int .i64 s.size)))
 | .slice ..,.s (.val (.slice none 0 0))=>(True,.v (.s (.int .i64 0)))
 | .slice ..,.s (.own t id n)=>match Blk.look hp id with
  | .arr _ cs=>(cs.length=n*t.size,.v (.s (.int .i64 n)))
  | _=>(False,.v (.s .any))
 | .slice ..,.s (.pre t id n m)=>match Blk.look hp id with
  | .arr _ cs=>(cs.length=n*t.size,.v (.s (.int .i64 m)))
  | _=>(False,.v (.s .any))
 | _,_=>(False,.v (.s .any))
def capEv (g:G) (t:TypeId) (x:AV):Prop×RV :=
 match g.td t,x with
 | .slice ..,.s (.sl _ xs true)=>(True,.v (.s (.int .i64 xs.length)))
 | .slice ..,.s (.val (.slice none 0 0))=>(True,.v (.s (.int .i64 0)))
 | _,_=>(False,.v (.s .any))
def minEv (mx:Bool):List AV→Prop×RV
 | [.s (.int k a),.s (.int k' b)]=>(k=k',.v (.s (.int k (if mx then (if a<b then b else a) else (if b<a then b else a)))))
 | _=>(False,.v (.s .any))
def mget {α β:Type} (eq:α→α→Bool) (k:α):List (α×β)→Option β
 | []=>none
 | (a,b)::r=>if eq k a then some b else mget eq k r
def mput {α β:Type} (eq:α→α→Bool) (k:α) (v:β):List (α×β)→List (α×β)
 | []=>[(k,v)]
 | (a,b)::r=>if eq k a then (k,v)::r else (a,b)::mput eq k v r
def lookupEv (g:G) (hp:List Blk) (t:TypeId) (m k:AV) (ok:Bool):Prop×RV :=
 match g.td t,m with
 | .map _ _ kt vt,.s (.mp id)=>match Blk.look hp id with
  | .map kt' vt' es=>match kt'.of k with
   | some key=>(kt'=kt∧vt'=vt,if ok then .tup [vt'.av ((mget kt'.beq key es).getD vt'.dflt),.s (.bool (mget kt'.beq key es).isSome)] else .v (vt'.av ((mget kt'.beq key es).getD vt'.dflt)))
   | none=>(False,.v (.s .any))
  | _=>(False,.v (.s .any))
 | _,_=>(False,.v (.s .any))
def allBox (hp:List Blk):List RV→Option (List Nat)
 | []=>some []
 | .v (.s (.box id 0))::r=>match Blk.look hp id with
  | .cells _=>(allBox hp r).map (id::·)
  | _=>none
 | _::_=>none
def lenArgs (g:G) (hp:List Blk) (ρ:Operand→RV):List Operand→List TypeId→Prop×RV
 | [x],[u]=>lenEv g hp u (ρ x).av
 | _,_=>(False,.v (.s .any))
def capArgs (g:G) (ρ:Operand→RV):List Operand→List TypeId→Prop×RV
 | [x],[u]=>capEv g u (ρ x).av
 | _,_=>(False,.v (.s .any))
def allEp:List RV→Option (List (Sigma Ty.T))
 | []=>some []
 | .v (.s (.eptr t x))::r=>(allEp r).map (⟨t,x⟩::·)
 | _::_=>none
def SV.sig:SV→Option (Sigma Ty.T)
 | .int k n=>some ⟨.int k,n⟩
 | .bool b=>some ⟨.bool,b⟩
 | .str s=>some ⟨.str,s⟩
 | .sl t xs _=>some ⟨.slice t,xs⟩
 | .fv x=>some ⟨.fn,x⟩
 | .fnp f caps=>some ⟨.fn,D.fnOf f caps⟩
 | .fn f []=>some ⟨.fn,D.fnOf f []⟩
 | _=>none
def sigs:List SV→Option (Sigma Ty.T)
 | []=>some ⟨.nil,()⟩
 | x::r=>match x.sig,sigs r with
  | some a,some b=>some ⟨.cons a.1 b.1,(a.2,b.2)⟩
  | _,_=>none
def AV.sig:AV→Option (Sigma Ty.T)
 | .s x=>x.sig
 | .agg cs=>sigs cs
def funcEv (f:FuncId):List RV→Option (List Nat)→Option (List (Sigma Ty.T))→Prop×RV
 | [],some [],_=>(True,.v (.s (.fnp f [])))
 | [],some ids,_=>(True,.v (.s (.fn f ids)))
 | [],none,some caps=>(True,.v (.s (.fnp f caps)))
 | [x],some [],_=>match x.av.sig with
  | some c=>(c.1.nfld≠0∨c.1.size=1,.v (.s (.fv (D.bndOf f c))))
  | none=>(False,.v (.s .any))
 | _,_,_=>(False,.v (.s .any))
def extractEv:RV→Nat→Prop×RV
 | .tup xs,i=>(i<xs.length,.v ((xs[i]?).getD (.s .any)))
 | _,_=>(False,.v (.s .any))
def convEv (g:G) (s d:TypeId) (x:AV):Prop×RV :=
 match g.td s,g.td d,x with
 | .sc (.int _),.sc (.int k),.s (.int _ n)=>(True,.v (.s (.int k (k.wrap n))))
 | .sc .str,.sc .str,.s (.str b)=>(True,.v (.s (.str b)))
 | _,_,_=>(False,.v (.s .any))
def byteAt (s:ByteArray) (i:Nat):Int:=((s[i]?).map fun b=>(b.toNat:Int)).getD 0
def strIdxEv (g:G) (t:TypeId) (x i:AV):Prop×RV :=
 match g.td t,x,i with
 | .sc .str,.s (.str s),.s (.int _ k)=>(0≤k∧k<s.size,.v (.s (.int .u8 (byteAt s k.toNat))))
 | _,_,_=>(False,.v (.s .any))
def ifaceEv (g:G) (t:TypeId) (x:AV):Prop×RV :=
 match g.td t,x with
 | .sc _,.s (.int k n)=>(True,.v (.s (.val (.iface t (.int k n)))))
 | _,_=>(False,.v (.s .any))
def nilChkEv (hp:List Blk) (x:AV):Prop×RV :=
 match x with
 | .s (.box id off)=>match Blk.look hp id with
  | .cells _=>(True,.v (.s (.box id off)))
  | _=>(False,.v (.s .any))
 | .s (.eptr t y)=>(True,.v (.s (.eptr t y)))
 | _=>(False,.v (.s .any))
def qEv (g:G) (hp:List Blk) (ρ:Operand→RV) (t:TypeId):Op→Prop×RV
 | .move x=>(True,coe g t (ρ x))
 | .assign x=>(True,coe g t (ρ x))
 | .pick c a b=>pickEv (ρ c).av (ρ a).av (ρ b).av
 | .load u a=>loadEv g hp u (ρ a).av
 | .binOp op u x y _=>binEv g op u (ρ x).av (ρ y).av
 | .unOp op _ x=>unEv op (ρ x).av
 | .fieldAddr s x f=>fieldAddrEv g hp s (ρ x).av f
 | .indexAddr s x i=>indexAddrEv g hp s (ρ x).av (ρ i).av
 | .slice s x lo hi mx=>sliceAnyEv g hp s (ρ x).av (lo.map ρ) (hi.map ρ) (mx.map ρ)
 | .extract x i=>extractEv (ρ x) i
 | .convert s d x=>convEv g s d (ρ x).av
 | .makeInterface u x=>ifaceEv g u (ρ x).av
 | .nilCheck x=>nilChkEv hp (ρ x).av
 | .index u x i=>strIdxEv g u (ρ x).av (ρ i).av
 | .lookup u m k ok=>lookupEv g hp u (ρ m).av (ρ k).av ok
 | .makeFunc (.func f) first caps=>funcEv f (first.toList.map ρ) (allBox hp (caps.toList.map ρ)) (allEp (caps.toList.map ρ))
 | .call { callee:=.builtin .len,args:=xs,argTypes:=ts }=>lenArgs g hp ρ xs.toList ts.toList
 | .call { callee:=.builtin .cap,args:=xs,argTypes:=ts }=>capArgs g ρ xs.toList ts.toList
 | .call { callee:=.builtin .min,args:=xs,argTypes:=_ }=>minEv false (xs.toList.map fun x=>(ρ x).av)
 | .call { callee:=.builtin .max,args:=xs,argTypes:=_ }=>minEv true (xs.toList.map fun x=>(ρ x).av)
 | _=>(False,.v (.s .any))
def G.ok (P:Program) (g:G):Prop:=∀ t d,look g.τ t=some d→d.ok P t
theorem G.td_ok {P:Program} {g:G} (h:g.ok P) (t:TypeId):(g.td t).ok P t:=by
 unfold G.td
 cases hl:look g.τ t with
 | none=>exact trivial
 | some d=>exact h t d hl
section
variable {P:Program} {g:G} {w:World} {M:Nat→Prop} {bs:Bs} {hp:List Blk}
theorem relRV_av {x:RV} {v:Value} (h:relRV w M bs hp x v):relAV w M bs hp x.av v:=by
 cases x with
 | v x=>exact h
 | tup xs=>exact trivial
theorem coe_sound (hg:g.ok P) (t:TypeId) (x:RV) (v:Value) (h:relRV w M bs hp x v):relRV w M bs hp (coe g t x) v:=by
 unfold coe
 split
 ·
  have:=G.td_ok hg t
  split
  ·
   obtain rfl:v=.slice none 0 0:=h
   exact ⟨none,0,rfl,Nat.le_refl _,by simp [maxLen],fun _=>rfl,.inl rfl⟩
  ·
   exact h
 ·
  exact h
theorem relSV_av (t:Ty) (x:t.T) {cs:List Value} (h:rep w M t x cs) (h0:t.nfld≠0∨t.size=1):relAV w M bs hp (t.av x) (match t with | .cons _ _=>.agg cs.toArray | _=>cs.headD undef):=by
 cases t with
 | int k=>simp only [rep] at h; subst h; rfl
 | bool=>simp only [rep] at h; subst h; rfl
 | str=>simp only [rep] at h; subst h; rfl
 | slice t =>
  simp only [rep] at h
  obtain ⟨a,c,rfl,h1,h2,h3⟩:=h
  exact ⟨a,c,rfl,h1,h2,by simp,h3⟩
 | nil=>rcases h0 with h0 | h0 <;> simp [Ty.nfld] at h0
 | cons t r=>exact ⟨cs,rfl,rep_flat (.cons t r) x cs h⟩
 | fn =>
  simp only [rep] at h
  obtain ⟨v,rfl,h1⟩:=h.fn_one
  exact h
theorem run_isAgg_sc {t:TypeId} {d:TypeDesc} (h:P.underlying t=some d) (hs:∀ fs,d≠.struct fs) (ha:∀ n e,d≠.array n e):(isAgg t).run P w=.ok false w:=by
 unfold isAgg
 simp only [run_underlying h,Sem.run_bind,Result.andThen_ok]
 cases d <;> first | rfl | exact absurd rfl (hs _) | exact absurd rfl (ha _ _)
theorem run_isAgg_struct {t:TypeId} {fs:Array Field} (h:P.underlying t=some (.struct fs)):(isAgg t).run P w=.ok true w:=by
 unfold isAgg
 simp only [run_underlying h,Sem.run_bind,Result.andThen_ok]
 rfl
theorem run_isAgg_arr {t:TypeId} {n:Nat} {e:TypeId} (h:P.underlying t=some (.array n e)):(isAgg t).run P w=.ok true w:=by
 unfold isAgg
 simp only [run_underlying h,Sem.run_bind,Result.andThen_ok]
 rfl
theorem run_sizeOf {t:TypeId} {n:Nat} (h:(P.info? t).map (fun i=>i.size)=some n):(sizeOf t).run P w=.ok n w:=by
 cases hi:P.info? t with
 | none=>simp [hi] at h
 | some i=>simp [hi] at h; simp [sizeOf,typeInfo,hi,go_sem,h]
theorem run_loadCellsFrom (b off:Nat):∀ (n i:Nat) (vs:List Value) (acc:Array Value),vs.length=n→(∀ j v,vs[j]?=some v→w.cell? ⟨b,off+(i+j),none⟩=some v) →
  (loadCellsFrom ⟨b,off,none⟩ i n acc).run P w=.ok (acc++vs.toArray) w:=by
 intro n
 induction n with
 | zero=>intro i vs acc hl _; have:vs=[]:=List.eq_nil_of_length_eq_zero hl; subst this; simp [loadCellsFrom]
 | succ n ih =>
  intro i vs acc hl hc
  cases vs with
  | nil=>simp at hl
  | cons v vs =>
   have h0:=hc 0 v rfl
   have hadd:(⟨b,off,none⟩:Addr).add i=⟨b,off+i,none⟩:=by unfold Addr.add; split <;> simp_all
   simp only [loadCellsFrom,Sem.run_bind,hadd]
   rw [show (load ⟨b,off+i,none⟩).run P w=.ok v w by simp [load,Sem.run]; simp at h0; rw [h0]]
   simp only [Result.andThen_ok]
   rw [ih (i+1) vs _ (by simpa using hl) (fun j u hj=>by have:=hc (j+1) u (by simpa using hj); rw [← this]; congr 2; omega)]
   simp
theorem run_loadVar_sc {t:TypeId} {b off:Nat} {v:Value} (ha:(isAgg t).run P w=.ok false w) (hc:w.cell? ⟨b,off,none⟩=some v) :
  (Instr.loadAt t (.pointer (some ⟨b,off,none⟩))).run P w=.ok v w:=by
 simp only [Instr.loadAt,Instr.sureAddr,loadVar,Sem.run_bind,ha,Result.andThen_ok,Sem.run_pure,Bool.false_eq_true,if_false]
 simp [load,Sem.run,hc]
theorem run_loadVar_agg {t:TypeId} {b off n:Nat} {cs:List Value} (ha:(isAgg t).run P w=.ok true w) (hn:(P.info? t).map (fun i=>i.size)=some n) (hl:cs.length=n) (hc:CellsAt w b off cs) :
  (Instr.loadAt t (.pointer (some ⟨b,off,none⟩))).run P w=.ok (.agg cs.toArray) w:=by
 simp only [Instr.loadAt,Instr.sureAddr,loadVar,Sem.run_bind,ha,Result.andThen_ok,Sem.run_pure,if_true,run_sizeOf hn,loadCells]
 rw [run_loadCellsFrom b off n 0 cs #[] hl (fun j v hj=>by simpa using hc j v hj)]
 simp
def CellsOf (w:World) (M:Nat→Prop) (bs:Bs) (hp:List Blk) (b:Nat) (cs:List SV):Prop :=
 ∃ cur e,w.heap[b]?=some (.cells cur e (0,0))∧∀ (j:Nat) (x:SV),cs[j]?=some x→∃ u,cur[j]?=some u∧u.oneCell'=true∧relSV w M bs hp x u
theorem look_cells {b:Nat} {cs:List SV} (hr:CellsOf w M bs hp b cs) {j:Nat} {x:SV} (hj:cs[j]?=some x) :
  ∃ u,w.cell? ⟨b,j,none⟩=some u∧u.oneCell'=true∧relSV w M bs hp x u:=by
 obtain ⟨cur,e,h1,h2⟩:=hr
 obtain ⟨u,h3,h4,h5⟩:=h2 j x hj
 exact ⟨u,by simp [World.cell?,h1,h3],h4,h5⟩
theorem take_cells {b:Nat} {cs:List SV} (hr:CellsOf w M bs hp b cs):∀ (n off:Nat),off+n≤cs.length →
  ∃ vs,vs.length=n∧CellsAt w b off vs∧All2 (fun x u=>relSV w M bs hp x u∧u.oneCell'=true) (takeAt cs off n) vs:=by
 intro n
 induction n with
 | zero=>intro off _; exact ⟨[],rfl,fun j v h=>by simp at h,by simp [takeAt]; exact .nil⟩
 | succ n ih =>
  intro off ho
  have hlt:off<cs.length:=by omega
  obtain ⟨u,h1,h2,h3⟩:=look_cells hr (List.getElem?_eq_getElem hlt)
  obtain ⟨vs,k1,k2,k3⟩:=ih (off+1) (by omega)
  refine ⟨u::vs,by simp [k1],?_,?_⟩
  ·
   intro j v hj
   cases j with
   | zero=>simp at hj; subst hj; exact h1
   | succ j=>have:=k2 j v (by simpa using hj); rw [← this]; congr 2; omega
  ·
   unfold takeAt at k3 ⊢
   rw [List.drop_eq_getElem_cons hlt,List.take_succ_cons]
   exact .cons ⟨h3,h2⟩ k3
theorem scalar_desc {ty:Ty} (h:ty.scalar=true):(∀ fs,ty.desc≠.struct fs)∧(∀ n e,ty.desc≠.array n e)∧ty.size=1:=by
 cases ty <;> simp_all [Ty.scalar,Ty.desc,Ty.size]
theorem loadCs_sound (hg:g.ok P) (t:TypeId) (b off:Nat) (cs:List SV) (hr:CellsOf w M bs hp b cs) (hs:(loadCs g t cs off).1) :
  ∃ u,(Instr.loadAt t (.pointer (some ⟨b,off,none⟩))).run P w=.ok u w∧relRV w M bs hp (loadCs g t cs off).2 u:=by
 have ht:=G.td_ok hg t
 unfold loadCs at hs ⊢
 cases htd:g.td t with
 | map k e kt vt=>simp [htd] at hs
 | other=>simp [htd] at hs
 | arr n e ety =>
  simp only [htd] at hs ht ⊢
  obtain ⟨h1,h2,h3⟩:=ht
  obtain ⟨vs,k1,k2,k3⟩:=take_cells hr (n*ety.size) off hs
  refine ⟨_,run_loadVar_agg (run_isAgg_arr h1) ?_ k1 k2,⟨vs,rfl,k3⟩⟩
  cases hi:P.info? t with
  | none=>simp [hi] at h3
  | some i=>simp [hi] at h3; simp [h3.1]
 | eqs ty=>simp [htd] at hs
 | struct ty =>
  simp only [htd] at hs ht ⊢
  obtain ⟨fs,h1,h2,h3,h4,h5⟩:=ht
  obtain ⟨vs,k1,k2,k3⟩:=take_cells hr ty.size off hs
  refine ⟨_,run_loadVar_agg (run_isAgg_struct h1) ?_ k1 k2,⟨vs,rfl,k3⟩⟩
  cases hi:P.info? t with
  | none=>simp [hi] at h5
  | some i=>simp [hi] at h5; simp [h5.1]
 | sc ty =>
  simp only [htd] at hs ht ⊢
  obtain ⟨h1,h2,h3,h4⟩:=ht
  obtain ⟨q1,q2,q3⟩:=scalar_desc h4
  obtain ⟨u,k1,k2,k3⟩:=look_cells hr (List.getElem?_eq_getElem hs)
  refine ⟨u,run_loadVar_sc (run_isAgg_sc h1 q1 q2) k1,?_⟩
  rw [List.getElem?_eq_getElem hs]
  exact k3
 | slice e ety bytes =>
  simp only [htd] at hs ht ⊢
  obtain ⟨u,k1,k2,k3⟩:=look_cells hr (List.getElem?_eq_getElem hs)
  refine ⟨u,run_loadVar_sc (run_isAgg_sc ht.1 (by simp) (by simp)) k1,?_⟩
  rw [List.getElem?_eq_getElem hs]
  exact k3
 | func =>
  simp only [htd] at hs ht ⊢
  obtain ⟨⟨ps,rs,vd,h1⟩,h2⟩:=ht
  obtain ⟨u,k1,k2,k3⟩:=look_cells hr (List.getElem?_eq_getElem hs)
  refine ⟨u,run_loadVar_sc (run_isAgg_sc h1 (by simp) (by simp)) k1,?_⟩
  rw [List.getElem?_eq_getElem hs]
  exact k3
theorem loadEv_sound {M0:Nat→Prop} (hg:g.ok P) (hr:HR w M0 bs hp) (t:TypeId) (x:AV) (v:Value) (hx:relAV w (Mof M0 bs) bs hp x v) (hs:(loadEv g hp t x).1) :
  ∃ u,(Instr.loadAt t v).run P w=.ok u w∧relRV w (Mof M0 bs) bs hp (loadEv g hp t x).2 u:=by
 have ht:=G.td_ok hg t
 unfold loadEv at hs ⊢
 split at hs
 ·
  rename_i ty x
  obtain ⟨b,off,cs,rfl,hm,hb,hrep,hc⟩:=hx
  have hlen:=rep_length ty x cs hrep
  cases htd:g.td t with
  | sc ty' =>
   simp only [htd] at hs ht ⊢
   subst hs
   obtain ⟨h1,h2,h3,h4⟩:=ht
   obtain ⟨q1,q2,q3⟩:=scalar_desc h4
   obtain ⟨u,rfl⟩:∃ u,cs=[u]:=by
    cases cs with
    | nil=>simp at hlen; omega
    | cons u r=>cases r with
     | nil=>exact ⟨u,rfl⟩
     | cons _ _=>simp at hlen; omega
   refine ⟨u,run_loadVar_sc (run_isAgg_sc h1 q1 q2) (by simpa using hc 0 u rfl),?_⟩
   have:=relSV_av (bs:=bs) (hp:=hp) ty x hrep (.inr q3)
   cases ty <;> simp_all [Ty.scalar] <;> exact this
  | slice e ety bytes =>
   simp only [htd] at hs ht ⊢
   subst hs
   simp only [rep] at hrep
   obtain ⟨a,c,rfl,r1,r2,r3⟩:=hrep
   exact ⟨_,run_loadVar_sc (run_isAgg_sc ht.1 (by simp) (by simp)) (by simpa using hc 0 _ rfl),⟨a,c,rfl,r1,r2,by simp,r3⟩⟩
  | func =>
   simp only [htd] at hs ht ⊢
   subst hs
   obtain ⟨⟨ps,rs,vd,h1⟩,h2⟩:=ht
   simp only [rep] at hrep
   obtain ⟨u,rfl,_⟩:=hrep.fn_one
   exact ⟨u,run_loadVar_sc (run_isAgg_sc h1 (by simp) (by simp)) (by simpa using hc 0 u rfl),hrep⟩
  | struct ty' =>
   simp only [htd] at hs ht ⊢
   obtain ⟨hsz,hn⟩:=hs
   obtain ⟨fs,h1,h2,h3,h4,h5⟩:=ht
   refine ⟨_,run_loadVar_agg (run_isAgg_struct h1) ?_ hlen hc,?_⟩
   ·
    cases hi:P.info? t with
    | none=>simp [hi] at h5
    | some i=>simp [hi] at h5; simp [h5.1,hsz]
   ·
    exact ⟨cs,rfl,rep_flat (bs:=bs) (hp:=hp) ty x cs hrep⟩
  | map k e kt vt=>simp [htd] at hs
  | other=>simp [htd] at hs
  | arr n e ety=>simp [htd] at hs
  | eqs ty=>simp [htd] at hs
 ·
  rename_i id off
  obtain ⟨hid,hx⟩:=hx
  cases hl:Blk.look hp id with
  | cells cs =>
   obtain ⟨b,hb,rfl⟩:=hx cs hl
   simp only [hl] at hs ⊢
   obtain ⟨b',cur,e,h1,h2,h3,h4⟩:=hr.cells id cs hl
   rw [hb] at h1; cases h1
   exact loadCs_sound hg t b off cs ⟨cur,e,h2,h4⟩ hs
  | _=>simp [hl] at hs
 ·
  rename_i ty id n off
  cases hl:Blk.look hp id with
  | dead=>simp [hl] at hs
  | trace l' xs' i' st'=>simp [hl] at hs
  | map k v es=>simp [hl] at hs
  | cells cs=>simp [hl] at hs
  | arr al cs =>
   simp only [hl] at hs ⊢
   obtain ⟨b,hb,rfl⟩:=(hx.2 al cs hl).2 hs.1
   exact loadCs_sound hg t b off cs (hr.arr id al cs b hl hb) hs.2
 ·
  exact hs.elim
theorem arith_sound (k:IntKind) (n:Int) (h:(arith k n).1):relRV w M bs hp (arith k n).2 (.int k (k.wrap n)):=by
 cases k <;> simp only [arith] at h ⊢ <;> first | exact rfl | skip
 show Value.int _ _=Value.int _ _
 rw [IntWalk.i64_in n h]
theorem and_low (a:Int) (m:Nat) (hm:m≤62):((BitVec.ofInt 64 a &&& BitVec.ofInt 64 (2 ^ m - 1)).toNat:Int)=a % 2 ^ m:=by
 have h1:(2:Nat) ^ m≤2 ^ 62:=Nat.pow_le_pow_right (by decide) hm
 have h0:0<(2:Nat) ^ m:=Nat.pow_pos (by decide)
 have h2:(BitVec.ofInt 64 (2 ^ m - 1)).toNat=2 ^ m - 1:=by
  rw [BitVec.toNat_ofInt]
  have:((2:Int) ^ m)=((2 ^ m:Nat):Int):=by simp
  rw [this]
  generalize (2:Nat) ^ m=q at *
  simp only [Nat.reducePow]
  omega
 rw [BitVec.toNat_and,h2,Nat.and_two_pow_sub_one_eq_mod,BitVec.toNat_ofInt]
 have h3:((2:Int) ^ m)=((2 ^ m:Nat):Int):=by simp
 have h4:(0:Int)≤a % (2 ^ 64:Nat):=Int.emod_nonneg _ (by decide)
 rw [Int.natCast_emod,Int.toNat_of_nonneg h4,h3,Int.emod_emod_of_dvd]
 exact Int.natCast_dvd_natCast.2 (Nat.pow_dvd_pow 2 (by omega))
theorem or_add (a b:Int) (h0:0≤a) (h1:a≤9223372036854775807) (h2:0≤b) (h3:b<1073741824) (h4:a % 1073741824=0):((BitVec.ofInt 64 a ||| BitVec.ofInt 64 b).toNat:Int)=a+b:=by
 rw [BitVec.toNat_or,BitVec.toNat_ofInt,BitVec.toNat_ofInt]
 simp only [Nat.reducePow]
 obtain ⟨q,hq⟩:∃ q:Nat,a=((2 ^ 30*q:Nat):Int):=⟨(a / 1073741824).toNat,by simp only [Nat.reducePow]; omega⟩
 obtain ⟨c,rfl⟩:∃ c:Nat,b=c:=⟨b.toNat,by omega⟩
 rw [hq]
 rw [hq] at h1
 generalize he:2 ^ 30*q=e at *
 have e1:((e:Int) % (18446744073709551616:Nat)).toNat=e:=by omega
 have e2:((c:Int) % (18446744073709551616:Nat)).toNat=c:=by omega
 rw [e1,e2,← he,← Nat.two_pow_add_eq_or_of_lt (by simp only [Nat.reducePow]; omega)]
 omega
theorem intEv_sound (op:BinOp) (k k':IntKind) (a b:Int) (t:TypeId) (hk:k=k'∨isShift op=true) (h:(intEv op k a b).1):∃ u,(binOp op t (.int k a) (.int k' b)).run P w=.ok u w∧relRV w M bs hp (intEv op k a b).2 u:=by
 unfold intEv at h ⊢
 cases op <;> simp only [isShift,or_false,Bool.false_eq_true] at h hk ⊢ <;> (try subst hk)
 case add=>exact ⟨_,by simp [binOp,Op.intArith],arith_sound k _ h⟩
 case sub=>exact ⟨_,by simp [binOp,Op.intArith],arith_sound k _ h⟩
 case mul=>exact ⟨_,by simp [binOp,Op.intArith],arith_sound k _ h⟩
 case quo=>exact ⟨_,by simp [binOp,Op.intDiv,h.1],arith_sound k _ h.2⟩
 case rem=>exact ⟨_,by simp [binOp,Op.intDiv,h],rfl⟩
 case eql=>exact ⟨_,by simp [binOp,Op.intCmp],rfl⟩
 case neq=>exact ⟨_,by simp [binOp,Op.intCmp],rfl⟩
 case lss=>exact ⟨_,by simp [binOp,Op.intCmp],rfl⟩
 case leq=>exact ⟨_,by simp [binOp,Op.intCmp],rfl⟩
 case gtr=>exact ⟨_,by simp [binOp,Op.intCmp],rfl⟩
 case geq=>exact ⟨_,by simp [binOp,Op.intCmp],rfl⟩
 case shr =>
  have hb:min b.toNat k.bits=b.toNat:=by
   have:8≤k.bits:=by cases k <;> decide
   omega
  refine ⟨_,?_,rfl⟩
  simp [binOp,Op.shift,hb,show ¬ b<0 by omega]
 case shl =>
  have hb:min b.toNat k.bits=b.toNat:=by
   have:8≤k.bits:=by cases k <;> decide
   omega
  refine ⟨_,?_,arith_sound k _ h.2⟩
  simp [binOp,Op.shift,hb,show ¬ b<0 by omega]
 case and =>
  obtain ⟨hk,h⟩:=h
  have hw:∀ x:Int,0≤x→x<2147483648→k.wrap x=x:=fun x h0 h1=>by
   rcases hk with rfl | rfl
   ·
    exact IntWalk.i64_in _ (by omega)
   ·
    have:IntKind.u64.wrap x=x % 18446744073709551616:=rfl
    rw [this]; omega
  have hbits:k.bits=64:=by rcases hk with rfl | rfl <;> rfl
  have key:∀ m:Nat,m≤30→b=2 ^ m - 1→k.wrap ((BitVec.ofInt 64 a &&& BitVec.ofInt 64 b).toNat:Int)=a % (b+1):=by
   intro m hm hb
   subst hb
   rw [and_low a m (by omega),show (2:Int) ^ m - 1+1=2 ^ m by omega]
   have h1:(2:Nat) ^ m≤2 ^ 30:=Nat.pow_le_pow_right (by decide) hm
   have h0:0<(2:Nat) ^ m:=Nat.pow_pos (by decide)
   have h3:((2:Int) ^ m)=((2 ^ m:Nat):Int):=by simp
   rw [h3]
   generalize (2:Nat) ^ m=q at *
   have h4:(0:Int)≤a % (q:Int):=Int.emod_nonneg _ (by omega)
   have h5:a % (q:Int)<q:=Int.emod_lt_of_pos _ (by omega)
   simp only [Nat.reducePow] at h1
   exact hw _ h4 (by omega)
  refine ⟨.int k (a % (b+1)),?_,rfl⟩
  have:k.wrap ((BitVec.ofInt 64 a &&& BitVec.ofInt 64 b).toNat:Int)=a % (b+1):=by
   rcases h with rfl | rfl
   ·
    exact key 30 (by decide) (by decide)
   ·
    exact key 1 (by decide) (by decide)
  rw [← this]
  rcases hk with rfl | rfl <;> rfl
 case or =>
  obtain ⟨rfl,h1,h2,h3,h4,h5⟩:=h
  refine ⟨.int .i64 (a+b),?_,rfl⟩
  have:IntKind.i64.wrap ((BitVec.ofInt 64 a ||| BitVec.ofInt 64 b).toNat:Int)=a+b:=by
   rw [or_add a b h1 h2 h3 h4 h5]
   exact IntWalk.i64_in _ (by omega)
  rw [← this]
  rfl
theorem td_bool (hg:g.ok P) {t:TypeId} (h:(g.td t).isBool=true):P.underlying t=some .bool:=by
 have:=G.td_ok hg t
 generalize g.td t=d at *
 cases d with
 | sc ty=>cases ty <;> first | exact this.1 | simp [TD.isBool] at h
 | _=>simp [TD.isBool] at h
theorem run_eqGuard_int (op:BinOp) (t:TypeId) (ox oy:Operand) (k k':IntKind) (a b:Int):(eqGuard op t ox oy (.int k a) (.int k' b)).run P w=.ok () w:=by
 unfold eqGuard
 cases op <;> simp
theorem run_eqGuard_bool (op:BinOp) (t:TypeId) (ox oy:Operand) (a b:Bool):(eqGuard op t ox oy (.bool a) (.bool b)).run P w=.ok () w:=by
 unfold eqGuard
 cases op <;> simp
theorem run_eqGuard_slice (op:BinOp) (t:TypeId) (ox oy:Operand) (a:Option Addr) (n c:Nat):(eqGuard op t ox oy (.slice a n c) (.slice none 0 0)).run P w=.ok () w:=by
 unfold eqGuard
 cases op <;> simp
theorem run_equal_nil {t e:TypeId} (ht:P.underlying t=some (.slice e)) (a:Option Addr) (n c:Nat):(Op.equal t (.slice a n c) (.slice none 0 0)).run P w=.ok a.isNone w:=by
 have key:∀ d:Nat,(Op.equalIn (d+1) t (.slice a n c) (.slice none 0 0)).run P w=.ok a.isNone w:=fun d=>by
  cases a <;> simp [Op.equalIn,Sem.run_bind,run_underlying ht]
 exact key 9999
theorem of_agg {t:Ty} {cs:List SV} {y:t.T} (h:t.of (.agg cs)=some y) {vs:List Value} (hvs:All2 (fun x u=>relSV w M bs hp x u∧u.oneCell'=true) cs vs):rep w M t y vs:=by
 by_cases h0:t.nfld=0
 ·
  simp [Ty.of,h0] at h
 ·
  simp only [Ty.of,h0,if_false] at h
  split at h
  ·
   rename_i z heq
   injection h with h
   subst h
   obtain ⟨c1,c2,hc,h1,h2⟩:=parse_rep t cs z [] vs heq (hvs.imp fun _ _ q=>q.1)
   cases h2
   simp at hc
   subst hc
   exact h1
  ·
   cases h
theorem binEv_sound (hg:g.ok P) (op:BinOp) (x y:AV) (v u:Value) (t:TypeId) (hx:relAV w M bs hp x v) (hy:relAV w M bs hp y u) (h:(binEv g op t x y).1) (ox oy:Operand) :
  ∃ z,(do eqGuard op t ox oy v u; binOp op t v u:Sem Value).run P w=.ok z w∧relRV w M bs hp (binEv g op t x y).2 z:=by
 unfold binEv at h ⊢
 split at h
 ·
  obtain rfl:v=.int _ _:=hx
  obtain rfl:u=.int _ _:=hy
  obtain ⟨hk,h⟩:=h
  obtain ⟨z,h1,h2⟩:=intEv_sound (P:=P) (w:=w) (M:=M) (bs:=bs) (hp:=hp) op _ _ _ _ t hk h
  refine ⟨z,?_,h2⟩
  rw [Sem.run_bind,run_eqGuard_int]
  exact h1
 ·
  obtain rfl:v=.bool _:=hx
  obtain rfl:u=.bool _:=hy
  cases op <;> simp only at h ⊢
  case eql=>exact ⟨_,by rw [Sem.run_bind,run_eqGuard_bool]; exact run_eql_bool (P:=P) w t _ _ (td_bool hg h),rfl⟩
  case neq =>
   refine ⟨_,?_,rfl⟩
   rw [Sem.run_bind,run_eqGuard_bool]
   have hq:=run_equal_bool (P:=P) w t ‹Bool› ‹Bool› (td_bool hg h)
   simp only [Result.andThen_ok,binOp,Sem.run_bind]
   rw [run_equal_bool (P:=P) w t _ _ (td_bool hg h)]
   rfl
  all_goals exact h.elim
 ·
  obtain ⟨a,c,rfl,_,_,_,hrow⟩:=hx
  obtain rfl:u=.slice none 0 0:=hy
  have hnil:a.isNone=true→‹List _›=[]:=fun ha=>by
   rcases hrow with h1 | ⟨b,off,h1,_⟩
   ·
    exact h1
   ·
    rw [h1] at ha; cases ha
  have ht:=G.td_ok hg t
  split at h
  ·
   rename_i htd
   rw [htd] at ht
   refine ⟨.bool a.isNone,?_,a.isNone,rfl,hnil,fun _=>trivial⟩
   rw [Sem.run_bind,run_eqGuard_slice]
   simp only [Result.andThen_ok,binOp,Sem.run_bind,run_equal_nil ht.1,Sem.run_pure]
  ·
   rename_i htd
   rw [htd] at ht
   refine ⟨.bool (!a.isNone),?_,!a.isNone,rfl,fun _=>trivial,fun h=>hnil (by simpa using h)⟩
   rw [Sem.run_bind,run_eqGuard_slice]
   simp only [Result.andThen_ok,binOp,Sem.run_bind,run_equal_nil ht.1,Sem.run_pure]
  ·
   exact h.elim
 ·
  rename_i xs ys
  split at h
  ·
   rename_i ty htd
   have hok:=G.td_ok hg (t+1000000)
   rw [htd] at hok
   obtain ⟨_,hok⟩:=hok
   rw [Nat.add_sub_cancel] at hok
   split at h
   ·
    rename_i a b ha hb
    obtain ⟨vs,rfl,hvs⟩:=hx
    obtain ⟨us,rfl,hus⟩:=hy
    obtain ⟨e1,e2,e3⟩:=hok w M a b vs us (of_agg ha hvs) (of_agg hb hus) ox oy
    cases op <;> simp only at h ⊢
    case eql =>
     refine ⟨.bool (ty.beq a b),?_,rfl⟩
     rw [Sem.run_bind,e1]
     simp only [Result.andThen_ok,binOp,Sem.run_bind,e3,Sem.run_pure]
    case neq =>
     refine ⟨.bool (!ty.beq a b),?_,rfl⟩
     rw [Sem.run_bind,e2]
     simp only [Result.andThen_ok,binOp,Sem.run_bind,e3,Sem.run_pure]
   ·
    exact h.elim
  ·
   exact h.elim
 ·
  exact h.elim
theorem convEv_sound (hg:g.ok P) (s d:TypeId) (x:AV) (v:Value) (hx:relAV w M bs hp x v) (h:(convEv g s d x).1):∃ z,(convert s d v).run P w=.ok z w∧relRV w M bs hp (convEv g s d x).2 z:=by
 unfold convEv at h ⊢
 split at h
 ·
  rename_i k0 k k1 n e1 e2
  have h1:=G.td_ok hg s
  have h2:=G.td_ok hg d
  rw [e1] at h1; rw [e2] at h2
  have hv:v=.int k1 n:=hx
  subst hv
  exact ⟨.int k (k.wrap n),by simp only [convert,Sem.run_bind,run_underlying h1.1,run_underlying h2.1,Result.andThen_ok,Ty.desc,Conv.intToInt]; rfl,rfl⟩
 ·
  rename_i b e1 e2
  have h1:=G.td_ok hg s
  have h2:=G.td_ok hg d
  rw [e1] at h1; rw [e2] at h2
  have hv:v=.string b:=hx
  subst hv
  exact ⟨.string b,by simp only [convert,Sem.run_bind,run_underlying h1.1,run_underlying h2.1,Result.andThen_ok,Ty.desc]; rfl,rfl⟩
 ·
  exact h.elim
theorem xor_i64 (n:Int) (h : -9223372036854775808≤n∧n≤9223372036854775807):IntKind.i64.wrap ((BitVec.ofInt 64 (-1) ^^^ BitVec.ofInt 64 n).toNat:Int) = -n - 1:=by
 have h1:BitVec.ofInt 64 (-1)=BitVec.allOnes 64:=by decide
 rw [h1,BitVec.allOnes_xor,BitVec.toNat_not,BitVec.toNat_ofInt,IntKind.wrap_i64]
 have h2:(0:Int)≤n % 18446744073709551616:=Int.emod_nonneg _ (by decide)
 have h3:n % 18446744073709551616<18446744073709551616:=Int.emod_lt_of_pos _ (by decide)
 simp only [Nat.reducePow]
 omega
theorem run_xor (n:Int) (h : -9223372036854775808≤n∧n≤9223372036854775807):(Op.unary .xor (.int .i64 n)).run P w=.ok (.int .i64 (-n - 1)) w:=by
 have:=xor_i64 n h
 simp only [Op.unary,Op.intBits,IntKind.signed,if_true]
 show Result.ok (Value.int IntKind.i64 _) w=_
 rw [← this]
 rfl
theorem unEv_sound (op:UnOp) (x:AV) (v:Value) (hx:relAV w M bs hp x v) (h:(unEv op x).1):∃ z,(Op.unary op v).run P w=.ok z w∧relRV w M bs hp (unEv op x).2 z:=by
 unfold unEv at h ⊢
 split at h
 ·
  obtain rfl:v=.bool _:=hx
  exact ⟨_,by simp [Op.unary],rfl⟩
 ·
  obtain ⟨b,rfl,h1,h2⟩:=hx
  exact ⟨_,by simp [Op.unary],!b,rfl,fun h=>h2 (by simpa using h),fun h=>h1 (by simpa using h)⟩
 ·
  obtain rfl:v=.int _ _:=hx
  refine ⟨_,by simp [Op.unary,Op.intArith]; rfl,?_⟩
  show Value.int _ _=Value.int _ _
  rw [IntWalk.i64_in _ h]
 ·
  obtain rfl:v=.int _ _:=hx
  exact ⟨_,run_xor _ h,rfl⟩
 ·
  exact h.elim
theorem pickEv_sound (c a b:AV) (vc va vb:Value) (hc:relAV w M bs hp c vc) (ha:relAV w M bs hp a va) (hb:relAV w M bs hp b vb) (h:(pickEv c a b).1) :
  ∃ q,vc=.bool q∧relRV w M bs hp (pickEv c a b).2 (if q then va else vb):=by
 unfold pickEv at h ⊢
 split at h
 ·
  obtain rfl:vc=.bool _:=hc
  obtain rfl:va=.bool _:=ha
  obtain rfl:vb=.bool _:=hb
  exact ⟨_,rfl,by simp only [relRV,relAV,relSV,Value.ite_bool]⟩
 ·
  obtain rfl:vc=.bool _:=hc
  simp only at h
  exact ⟨_,rfl,by rw [h]; exact hb⟩
 ·
  obtain rfl:vc=.bool _:=hc
  simp only at h
  exact ⟨_,rfl,by rw [h]; exact ha⟩
 ·
  exact h.elim
theorem map_arr (a:Act) (xs:Array Operand):xs.map a.eval=(xs.toList.map a.eval).toArray:=by apply Array.ext'; simp
theorem rep_fld:∀ (t:Ty) (f:Nat) (x:t.T) (cs:List Value),f<t.nfld→rep w M t x cs→rep w M (t.fld f) (t.get x f) ((cs.drop (t.off f)).take (t.fld f).size)
 | .cons t r,0,x,cs,_,h=>by
  simp only [rep] at h
  obtain ⟨c1,c2,rfl,h1,h2⟩:=h
  have:=rep_length t _ _ h1
  simp [Ty.off,Ty.fld,Ty.get,← this,h1]
 | .cons t r,f+1,x,cs,hf,h=>by
  simp only [rep] at h
  obtain ⟨c1,c2,rfl,h1,h2⟩:=h
  have h3:=rep_fld r f x.2 c2 (by simpa [Ty.nfld] using hf) h2
  have:=rep_length t _ _ h1
  simp only [Ty.off,Ty.fld,Ty.get]
  rw [← this,List.drop_append,List.drop_of_length_le (by omega)]
  simpa using h3
 | .int _,_,_,_,h,_=>by simp [Ty.nfld] at h
 | .bool,_,_,_,h,_=>by simp [Ty.nfld] at h
 | .str,_,_,_,h,_=>by simp [Ty.nfld] at h
 | .slice _,_,_,_,h,_=>by simp [Ty.nfld] at h
 | .nil,_,_,_,h,_=>by simp [Ty.nfld] at h
theorem fields_at {t:TypeId} {ty:Ty} (ht:TD.ok P t (.struct ty)) {f:Nat} (hf:f<ty.nfld) :
  ∃ (fs:Array Field) (fl:Field),P.underlying t=some (.struct fs)∧fs[f]?=some fl∧fl.offset=ty.off f∧(P.info? fl.type).map (fun i=>i.size)=ty.sizes[f]?∧(∀ n,ty.sizes[f]?=some n→0<n):=by
 obtain ⟨fs,h1,h2,h3,h4,h5⟩:=ht
 have hlen:fs.size=ty.nfld:=by have:=congrArg List.length h2; simpa [Ty.offs] using this
 refine ⟨fs,fs[f]'(by omega),h1,by simp [hlen,hf],?_,?_,fun n hn=>h4 n (List.mem_of_getElem? hn)⟩
 ·
  have:=congrArg (fun l=>l[f]?) h2
  simp [Ty.offs,hlen,hf] at this
  exact this
 ·
  have:=congrArg (fun l=>l[f]?) h3
  simp [hlen,hf] at this
  cases hs:ty.sizes[f]? with
  | none=>simp [hs] at this
  | some n=>simp [hs] at this; simpa using this
theorem sizes_fld:∀ (t:Ty) (f:Nat),f<t.nfld→t.sizes[f]?=some (t.fld f).size
 | .cons t r,0,_=>by simp [Ty.sizes,Ty.fld]
 | .cons t r,f+1,h=>by simpa [Ty.sizes,Ty.fld] using sizes_fld r f (by simpa [Ty.nfld] using h)
 | .int _,_,h=>by simp [Ty.nfld] at h
 | .bool,_,h=>by simp [Ty.nfld] at h
 | .str,_,h=>by simp [Ty.nfld] at h
 | .slice _,_,h=>by simp [Ty.nfld] at h
 | .nil,_,h=>by simp [Ty.nfld] at h
theorem addr_add (b off n:Nat):(⟨b,off,none⟩:Addr).add n=⟨b,off+n,none⟩:=by unfold Addr.add; split <;> simp_all
theorem run_fieldAt {s:TypeId} {ty:Ty} (ht:TD.ok P s (.struct ty)) {f:Nat} (hf:f<ty.nfld) (b off:Nat) :
  (Instr.fieldAt s (.pointer (some ⟨b,off,none⟩)) f).run P w=.ok (.pointer (some ⟨b,off+ty.off f,none⟩)) w:=by
 obtain ⟨fs,fl,h1,h2,h3,h4,h5⟩:=fields_at ht hf
 rw [sizes_fld ty f hf] at h4 h5
 have h0:=h5 _ rfl
 simp only [Instr.fieldAt,Sem.run_bind,run_underlying h1,Result.andThen_ok,h2,Instr.sureAddr,Sem.run_pure,fieldPlace,run_sizeOf h4]
 rw [if_neg (by omega)]
 simp [addr_add,h3]
theorem fieldAddrEv_sound (hg:g.ok P) (s:TypeId) (x:AV) (f:Nat) (v:Value) (hx:relAV w M bs hp x v) (h:(fieldAddrEv g hp s x f).1) :
  ∃ z,(Instr.fieldAt s v f).run P w=.ok z w∧relRV w M bs hp (fieldAddrEv g hp s x f).2 z:=by
 have ht:=G.td_ok hg s
 unfold fieldAddrEv at h ⊢
 split at h
 ·
  rename_i ty ty' y htd
  rw [htd] at ht
  obtain ⟨rfl,hf⟩:=h
  obtain ⟨b,off,cs,rfl,hm,hb,hr,hc⟩:=hx
  refine ⟨_,run_fieldAt ht hf b off,?_⟩
  dsimp only
  refine ⟨b,_,_,rfl,hm,hb,rep_fld _ f y cs hf hr,?_⟩
  intro j v hj
  rw [List.getElem?_take] at hj
  split at hj
  ·
   rw [List.getElem?_drop] at hj
   have:=hc _ v hj
   rw [← this]; congr 2; omega
  ·
   cases hj
 ·
  rename_i ty id off htd
  rw [htd] at ht
  obtain ⟨hid,hx⟩:=hx
  cases hl:Blk.look hp id with
  | cells cs =>
   simp only [hl] at h ⊢
   obtain ⟨b,hb,rfl⟩:=hx cs hl
   exact ⟨_,run_fieldAt ht h b off,hid,fun _ _=>⟨b,hb,rfl⟩⟩
  | _=>simp [hl] at h
 ·
  rename_i ty t id n off htd
  rw [htd] at ht
  cases hl:Blk.look hp id with
  | dead=>simp [hl] at h
  | trace l' xs' i' st'=>simp [hl] at h
  | map k v es=>simp [hl] at h
  | cells cs=>simp [hl] at h
  | arr al cs =>
   simp only [hl] at h ⊢
   obtain ⟨h1,h2⟩:=h
   obtain ⟨hid,hx⟩:=hx
   obtain ⟨b,k1,rfl⟩:=(hx al cs hl).2 h1
   exact ⟨_,run_fieldAt ht h2 b off,hid,fun al cs hl'=>⟨(hx al cs hl').1,fun _=>⟨b,k1,rfl⟩⟩⟩
 ·
  exact h.elim
theorem indexAddrEv_sound {M0:Nat→Prop} (hr:HR w M0 bs hp) (hg:g.ok P) (t:TypeId) (x i:AV) (v u:Value) (hx:relAV w M bs hp x v) (hi:relAV w M bs hp i u) (h:(indexAddrEv g hp t x i).1) :
  ∃ z,(Instr.indexAt t v u).run P w=.ok z w∧relRV w M bs hp (indexAddrEv g hp t x i).2 z:=by
 have ht:=G.td_ok hg t
 unfold indexAddrEv at h ⊢
 split at h
 ·
  rename_i e ety bytes ty id n kk k htd
  rw [htd] at ht
  obtain rfl:u=.int _ _:=hi
  cases hl:Blk.look hp id with
  | dead=>simp [hl] at h
  | trace l' xs' i' st'=>simp [hl] at h
  | map k v es=>simp [hl] at h
  | cells cs=>simp [hl] at h
  | arr al cs =>
   simp only [hl] at h ⊢
   obtain ⟨rfl,rfl,h1,h2,h3⟩:=h
   obtain ⟨b,hb⟩:=hr.al id cs hl
   obtain ⟨hid,hx⟩:=hx
   rcases (hx true cs hl).2 h1 with ⟨b',cap,k1,rfl,k3,k4⟩ | ⟨k1,_⟩
   ·
    obtain ⟨hu,hsz,hinfo,_⟩:=ht
    have hs:(P.info? e).map (fun i=>i.size)=some ty.size:=by
     cases hi:P.info? e with
     | none=>simp [hi] at hinfo
     | some i=>simp [hi] at hinfo; simp [hinfo.1]
    refine ⟨.pointer (some ⟨b',k.toNat*ty.size,none⟩),?_,hid,fun al cs hl'=>⟨(hx al cs hl').1,fun _=>⟨b',k1,rfl⟩⟩⟩
    simp only [Instr.indexAt,asIntOf,Sem.run_bind,Sem.run_pure,Result.andThen_ok,run_underlying hu]
    rw [if_pos ⟨h2,h3⟩]
    simp only [Sem.run_bind,run_sizeOf hs,Result.andThen_ok,Sem.run_pure,addr_add,Nat.zero_add]
   ·
    rw [hb] at k1; cases k1
 ·
  rename_i n e ety id off kk k htd
  rw [htd] at ht
  obtain rfl:u=.int _ _:=hi
  cases hl:Blk.look hp id with
  | dead=>simp [hl] at h
  | trace l' xs' i' st'=>simp [hl] at h
  | map k v es=>simp [hl] at h
  | arr al cs=>simp [hl] at h
  | cells cs =>
   simp only [hl] at h ⊢
   obtain ⟨h2,h3⟩:=h
   obtain ⟨hid,hx⟩:=hx
   obtain ⟨b,hb,rfl⟩:=hx cs hl
   obtain ⟨hu,hs,_⟩:=ht
   refine ⟨.pointer (some ⟨b,off+k.toNat*ety.size,none⟩),?_,hid,fun cs' hl'=>⟨b,hb,rfl⟩⟩
   simp only [Instr.indexAt,asIntOf,Sem.run_bind,Sem.run_pure,Result.andThen_ok,run_underlying hu]
   rw [show (Instr.sureAddr (.pointer (some ⟨b,off,none⟩)):Sem Addr).run P w=.ok ⟨b,off,none⟩ w by simp [Instr.sureAddr]]
   simp only [Result.andThen_ok]
   rw [if_pos ⟨h2,h3⟩]
   simp only [Sem.run_bind,run_sizeOf hs,Result.andThen_ok,Sem.run_pure,addr_add]
 ·
  rename_i e ety bytes ty id n m kk k htd
  rw [htd] at ht
  obtain rfl:u=.int _ _:=hi
  cases hl:Blk.look hp id with
  | dead=>simp [hl] at h
  | trace l' xs' i' st'=>simp [hl] at h
  | map k v es=>simp [hl] at h
  | cells cs=>simp [hl] at h
  | arr al cs =>
   simp only [hl] at h ⊢
   obtain ⟨rfl,h1,h2,h3⟩:=h
   obtain ⟨hid,hmn,hx⟩:=hx
   obtain ⟨b',cap,k1,rfl,k3,k4⟩:=(hx al cs hl).2 h1
   obtain ⟨hu,hsz,hinfo,_⟩:=ht
   have hs:(P.info? e).map (fun i=>i.size)=some ty.size:=by
    cases hi:P.info? e with
    | none=>simp [hi] at hinfo
    | some i=>simp [hi] at hinfo; simp [hinfo.1]
   refine ⟨.pointer (some ⟨b',k.toNat*ty.size,none⟩),?_,hid,fun al cs hl'=>⟨(hx al cs hl').1,fun hh => ?_⟩⟩
   ·
    simp only [Instr.indexAt,asIntOf,Sem.run_bind,Sem.run_pure,Result.andThen_ok,run_underlying hu]
    rw [if_pos ⟨h2,h3⟩]
    simp only [Sem.run_bind,run_sizeOf hs,Result.andThen_ok,Sem.run_pure,addr_add,Nat.zero_add]
   ·
    exact ⟨b',k1,rfl⟩
 ·
  rename_i e ety bytes ty xs ex k n htd
  rw [htd] at ht
  obtain ⟨rfl,h0,h1⟩:=h
  obtain rfl:u=.int _ _:=hi
  obtain ⟨a,c,rfl,q1,q2,q3,q4⟩:=hx
  rcases q4 with rfl | ⟨b,off,rfl,hm,hb,he⟩
  ·
   simp at h1; omega
  ·
   have hlt:n.toNat<xs.length:=by omega
   obtain ⟨cs,r1,r2,r3⟩:=he n.toNat _ (List.getElem?_eq_getElem hlt)
   obtain ⟨hu,hsz,hinfo,_⟩:=ht
   have hs:(P.info? e).map (fun i=>i.size)=some ty.size:=by
    cases hi:P.info? e with
    | none=>simp [hi] at hinfo
    | some i=>simp [hi] at hinfo; simp [hinfo.1]
   refine ⟨.pointer (some ⟨b,off+n.toNat*ty.size,none⟩),?_,?_⟩
   ·
    simp only [Instr.indexAt,asIntOf,Sem.run_bind,Sem.run_pure,Result.andThen_ok,run_underlying hu]
    rw [if_pos ⟨h0,h1⟩]
    simp only [Sem.run_bind,run_sizeOf hs,Result.andThen_ok,Sem.run_pure,addr_add]
   ·
    dsimp only
    rw [List.getD_eq_getElem?_getD,List.getElem?_eq_getElem hlt]
    exact ⟨b,_,cs,rfl,hm,hb,r2,r3⟩
 ·
  exact h.elim
theorem run_sliceBound {n:Nat} {k:IntKind} {i:Int} (c:BoundsCode) (h0:0≤i) (h1:i≤n):(Instr.sliceBound (.int k i) n c).run P w=.ok i.toNat w:=by
 simp [Instr.sliceBound,asIntOf,h0,h1]
theorem bound_val {d n:Int} {o:Option Operand} {ρ:Operand→RV} {a:Act} (hρ:∀ x∈o.toList,relRV w M bs hp (ρ x) (a.eval x)) (h:bound d (o.map ρ)=some n) :
  (o=none∧n=d)∨∃ x k,o=some x∧a.eval x=.int k n:=by
 cases o with
 | none=>simp [bound] at h; exact .inl ⟨rfl,h.symm⟩
 | some x =>
  right
  have h1:=hρ x (by simp)
  simp only [Option.map_some,bound] at h
  split at h
  ·
   rename_i heq; cases heq
  ·
   rename_i k m heq
   injection heq with heq
   rw [heq] at h1
   injection h with h
   subst h
   exact ⟨x,k,rfl,h1⟩
  ·
   cases h
theorem RowAt_cut {t:Ty} {a:Option Addr} {xs:List t.T} (h:RowAt w M (fun x cs=>rep w M t x cs) t.size a xs) (l hh:Nat) (a':Option Addr) (ha:hh≠l→a'=a.map (·.add (l*t.size))) (hlh:l≤hh) (hl:hh≤xs.length) :
  RowAt w M (fun x cs=>rep w M t x cs) t.size a' ((xs.take hh).drop l):=by
 by_cases hne:hh=l
 ·
  left; subst hne; simp
 ·
  rcases h with rfl | ⟨b,off,rfl,hm,hb,he⟩
  ·
   simp at hl; omega
  ·
   right
   refine ⟨b,off+l*t.size,by rw [ha hne]; simp [addr_add],hm,hb,fun i x hi => ?_⟩
   rw [List.getElem?_drop,List.getElem?_take] at hi
   split at hi
   ·
    obtain ⟨cs,q1,q2,q3⟩:=he _ x hi
    refine ⟨cs,q1,q2,fun j v hj => ?_⟩
    have:=q3 j v hj
    rw [← this]; congr 2; rw [Nat.add_mul]; omega
   ·
    cases hi
theorem sliceEv_sound (hg:g.ok P) (t:TypeId) (x:AV) (v:Value) (hx:relAV w M bs hp x v) (lo hi mx:Option Operand) (ρ:Operand→RV) (a:Act)
  (h1:∀ x∈lo.toList,relRV w M bs hp (ρ x) (a.eval x)) (h2:∀ x∈hi.toList,relRV w M bs hp (ρ x) (a.eval x)) (h3:∀ x∈mx.toList,relRV w M bs hp (ρ x) (a.eval x))
  (h:(sliceEv g t x (lo.map ρ) (hi.map ρ) (mx.map ρ)).1) :
  ∃ z,(Instr.sliceAt t v (lo.map a.eval) (hi.map a.eval) (mx.map a.eval)).run P w=.ok z w∧relRV w M bs hp (sliceEv g t x (lo.map ρ) (hi.map ρ) (mx.map ρ)).2 z:=by
 have ht:=G.td_ok hg t
 unfold sliceEv at h ⊢
 split at h
 ·
  rename_i e ety bytes ty xs ex htd
  rw [htd] at ht
  obtain ⟨ad,c,rfl,q1,q2,q3,q4⟩:=hx
  obtain ⟨hu,hsz,hinfo,_⟩:=ht
  split at h
  ·
   rename_i l hh m e1 e2 e3
   obtain ⟨rfl,k1,k2,k3,k4,hm⟩:=h
   simp only [Option.isSome_map] at hm
   have hs:(P.info? e).map (fun i=>i.size)=some ty.size:=by
    cases hi:P.info? e with
    | none=>simp [hi] at hinfo
    | some i=>simp [hi] at hinfo; simp [hinfo.1]
   have b1:=bound_val h1 e1
   have b2:=bound_val h2 e2
   have b3:=bound_val h3 e3
   obtain ⟨mc,hmc,hmx⟩:∃ mc:Nat,(mx=none∧mc=c∨mx.isSome=true∧(mc:Int)=m) ∧
     (Instr.sliceBounds true xs.length c (lo.map a.eval) (hi.map a.eval) (mx.map a.eval)).run P w=.ok (l.toNat,hh.toNat,mc) w:=by
    rcases b3 with ⟨rfl,rfl⟩ | ⟨ox,k,rfl,hv⟩
    ·
     refine ⟨c,.inl ⟨rfl,rfl⟩,?_⟩
     rcases b2 with ⟨rfl,rfl⟩ | ⟨oh,kh,rfl,hv2⟩ <;> rcases b1 with ⟨rfl,rfl⟩ | ⟨ol,kl,rfl,hv1⟩
     ·
      simp [Instr.sliceBounds]
     ·
      simp [Instr.sliceBounds,hv1,run_sliceBound (P:=P) (w:=w) (n:=xs.length) _ k1 k2]
     ·
      simp [Instr.sliceBounds,hv2,run_sliceBound (P:=P) (w:=w) (n:=c) (i:=hh) _ (by omega) (by omega)]
     ·
      simp [Instr.sliceBounds,hv1,hv2,Sem.run_bind,run_sliceBound (P:=P) (w:=w) (n:=c) (i:=hh) _ (by omega) (by omega),
       run_sliceBound (P:=P) (w:=w) (n:=hh.toNat) (i:=l) _ k1 (by omega)]
    ·
     refine ⟨m.toNat,.inr ⟨rfl,by omega⟩,?_⟩
     rcases b2 with ⟨rfl,rfl⟩ | ⟨oh,kh,rfl,hv2⟩
     ·
      simp at hm
     ·
      rcases b1 with ⟨rfl,rfl⟩ | ⟨ol,kl,rfl,hv1⟩
      ·
       simp [Instr.sliceBounds,hv,hv2,Sem.run_bind,run_sliceBound (P:=P) (w:=w) (n:=c) (i:=m) _ (by omega) (by omega),run_sliceBound (P:=P) (w:=w) (n:=m.toNat) (i:=hh) _ (by omega) (by omega)]
      ·
       simp [Instr.sliceBounds,hv,hv1,hv2,Sem.run_bind,run_sliceBound (P:=P) (w:=w) (n:=c) (i:=m) _ (by omega) (by omega),run_sliceBound (P:=P) (w:=w) (n:=m.toNat) (i:=hh) _ (by omega) (by omega),
        run_sliceBound (P:=P) (w:=w) (n:=hh.toNat) (i:=l) _ k1 (by omega)]
   refine ⟨.slice (if mc=l.toNat then ad else ad.map (·.add (l.toNat*ty.size))) (hh.toNat - l.toNat) (mc - l.toNat),?_,?_⟩
   ·
    simp only [Instr.sliceAt,Instr.slice,Sem.run_bind,run_underlying hu,Result.andThen_ok,hmx,run_sizeOf hs,Sem.run_pure]
   ·
    have hlen:((xs.take hh.toNat).drop l.toNat).length=hh.toNat - l.toNat:=by simp; omega
    refine ⟨_,mc - l.toNat,by rw [hlen],by rw [hlen]; rcases hmc with ⟨_,rfl⟩ | ⟨_,e⟩ <;> omega,by rcases hmc with ⟨_,rfl⟩ | ⟨_,e⟩ <;> omega,?_,?_⟩
    ·
     intro hex
     simp at hex
     rw [hlen]
     rcases hmc with ⟨rfl,rfl⟩ | ⟨hms,e⟩
     ·
      simp at hex
      obtain ⟨rfl,rfl⟩:=hex
      have:=q3 rfl
      simp at this
      try simp at k4
      try simp at k3
      omega
     ·
      rcases hex with hex | hex
      ·
       omega
      ·
       rw [hex.2] at hms; simp at hms
    ·
     refine RowAt_cut q4 _ _ _ (fun hne => ?_) (by omega) (by omega)
     rw [if_neg]
     rcases hmc with ⟨_,rfl⟩ | ⟨_,e⟩ <;> omega
  ·
   exact h.elim
 ·
  exact h.elim
theorem sliceOwn_sound (hg:g.ok P) (t:TypeId) (ty:Ty) (id n m:Nat) (v:Value) (lo hi mx:Option Operand) (ρ:Operand→RV) (a:Act)
  (hx:∀ al cs,al=true→Blk.look hp id=.arr al cs→cs.length=n*ty.size→id<hp.length∧∃ b cap,bs.at id=some b∧v=.slice (some ⟨b,0,none⟩) m cap∧n≤cap∧OwnAt w b cap ty.size)
  (h1:∀ x∈lo.toList,relRV w M bs hp (ρ x) (a.eval x)) (h2:∀ x∈hi.toList,relRV w M bs hp (ρ x) (a.eval x))
  (h:(sliceOwnEv g hp t ty id n m (lo.map ρ) (hi.map ρ) (mx.map ρ)).1) :
  ∃ z,(Instr.sliceAt t v (lo.map a.eval) (hi.map a.eval) (mx.map a.eval)).run P w=.ok z w∧relRV w M bs hp (sliceOwnEv g hp t ty id n m (lo.map ρ) (hi.map ρ) (mx.map ρ)).2 z:=by
 have ht:=G.td_ok hg t
 unfold sliceOwnEv at h ⊢
 split at h
 ·
  rename_i e ety bytes htd
  rw [htd] at ht
  split at h
  ·
   rename_i al cs hl
   split at h
   ·
    rename_i l hh e1 e2 e3
    obtain ⟨rfl,rfl,k0,rfl,k2,k3,k4⟩:=h
    obtain ⟨hid,b,cap,g1,rfl,g3,g4⟩:=hx true cs rfl hl k0
    obtain ⟨hu,hsz,hinfo,_⟩:=ht
    have hs:(P.info? e).map (fun i=>i.size)=some ty.size:=by
     cases hi:P.info? e with
     | none=>simp [hi] at hinfo
     | some i=>simp [hi] at hinfo; simp [hinfo.1]
    have b1:=bound_val h1 e1
    have b2:=bound_val h2 e2
    obtain rfl:mx=none:=by cases mx <;> simp at e3 ⊢
    have hmx:(Instr.sliceBounds true m cap (lo.map a.eval) (hi.map a.eval) none).run P w=.ok (0,hh.toNat,cap) w:=by
     rcases b2 with ⟨rfl,rfl⟩ | ⟨oh,kh,rfl,hv2⟩ <;> rcases b1 with ⟨rfl,_⟩ | ⟨ol,kl,rfl,hv1⟩
     ·
      simp [Instr.sliceBounds]
     ·
      simp [Instr.sliceBounds,hv1,run_sliceBound (P:=P) (w:=w) (n:=m) (i:=0) _ (by omega) (by omega)]
     ·
      simp [Instr.sliceBounds,hv2,run_sliceBound (P:=P) (w:=w) (n:=cap) (i:=hh) _ (by omega) (by omega)]
     ·
      simp [Instr.sliceBounds,hv1,hv2,Sem.run_bind,run_sliceBound (P:=P) (w:=w) (n:=cap) (i:=hh) _ (by omega) (by omega),run_sliceBound (P:=P) (w:=w) (n:=hh.toNat) (i:=0) _ (by omega) (by omega)]
    refine ⟨.slice (if cap=0 then some ⟨b,0,none⟩ else (some (⟨b,0,none⟩:Addr)).map (·.add (0*ty.size))) (hh.toNat - 0) (cap - 0),?_,?_⟩
    ·
     simp only [Instr.sliceAt,Instr.slice,Sem.run_bind,run_underlying hu,Result.andThen_ok,hmx,Option.map_none,run_sizeOf hs,Sem.run_pure]
    ·
     refine ⟨hid,by omega,fun al' cs' hl' => ?_⟩
     rw [hl] at hl'
     injection hl' with _ hl'
     subst hl'
     refine ⟨by omega,fun _=>⟨b,cap,g1,?_,g3,g4⟩⟩
     congr 1
     split
     ·
      rfl
     ·
      simp [addr_add]
   ·
    exact h.elim
  ·
   exact h.elim
 ·
  exact h.elim
theorem sliceSuf_sound (hg:g.ok P) (t:TypeId) (ty:Ty) (id n:Nat) (v:Value) (lo mx:Option Operand) (ρ:Operand→RV) (a:Act)
  (hx:∀ al cs,al=true→Blk.look hp id=.arr al cs→cs.length=n*ty.size→id<hp.length∧∃ b cap,bs.at id=some b∧v=.slice (some ⟨b,0,none⟩) n cap∧n≤cap∧OwnAt w b cap ty.size)
  (h1:∀ x∈lo.toList,relRV w M bs hp (ρ x) (a.eval x))
  (h:(sliceSufEv g hp t ty id n (lo.map ρ) (mx.map ρ)).1) :
  ∃ z,(Instr.sliceAt t v (lo.map a.eval) none (mx.map a.eval)).run P w=.ok z w∧relRV w M bs hp (sliceSufEv g hp t ty id n (lo.map ρ) (mx.map ρ)).2 z:=by
 have ht:=G.td_ok hg t
 unfold sliceSufEv at h ⊢
 split at h
 ·
  rename_i e ety bytes htd
  rw [htd] at ht
  split at h
  ·
   rename_i al cs hl
   split at h
   ·
    rename_i l e1 e3
    obtain ⟨rfl,rfl,k0,k2,k3⟩:=h
    obtain ⟨hid,b,cap,g1,rfl,g3,g4⟩:=hx true cs rfl hl k0
    obtain ⟨hu,hsz,hinfo,_⟩:=ht
    have hs:(P.info? e).map (fun i=>i.size)=some ty.size:=by
     cases hi:P.info? e with
     | none=>simp [hi] at hinfo
     | some i=>simp [hi] at hinfo; simp [hinfo.1]
    have b1:=bound_val h1 e1
    obtain rfl:mx=none:=by cases mx <;> simp at e3 ⊢
    have hmx:(Instr.sliceBounds true n cap (lo.map a.eval) none none).run P w=.ok (l.toNat,n,cap) w:=by
     rcases b1 with ⟨rfl,rfl⟩ | ⟨ol,kl,rfl,hv1⟩
     ·
      simp [Instr.sliceBounds]
     ·
      simp [Instr.sliceBounds,hv1,run_sliceBound (P:=P) (w:=w) (n:=n) (i:=l) _ k2 k3]
    refine ⟨.slice (if cap=l.toNat then some ⟨b,0,none⟩ else (some (⟨b,0,none⟩:Addr)).map (·.add (l.toNat*ty.size))) (n - l.toNat) (cap - l.toNat),?_,?_⟩
    ·
     simp only [Instr.sliceAt,Instr.slice,Sem.run_bind,run_underlying hu,Result.andThen_ok,hmx,Option.map_none,run_sizeOf hs,Sem.run_pure]
    ·
     refine ⟨hid,by omega,fun al' cs' hl' => ?_⟩
     rw [hl] at hl'
     injection hl' with _ hl'
     subst hl'
     refine ⟨by omega,fun _=>⟨b,cap,_,g1,rfl,fun hlt => ?_,g3,g4⟩⟩
     rw [if_neg (by omega)]
     simp [addr_add]
   ·
    exact h.elim
  ·
   exact h.elim
 ·
  exact h.elim
theorem sliceAny_sound {M0:Nat→Prop} (hr:HR w M0 bs hp) (hg:g.ok P) (t:TypeId) (x:AV) (v:Value) (hx:relAV w (Mof M0 bs) bs hp x v) (lo hi mx:Option Operand) (ρ:Operand→RV) (a:Act)
  (h1:∀ x∈lo.toList,relRV w (Mof M0 bs) bs hp (ρ x) (a.eval x)) (h2:∀ x∈hi.toList,relRV w (Mof M0 bs) bs hp (ρ x) (a.eval x)) (h3:∀ x∈mx.toList,relRV w (Mof M0 bs) bs hp (ρ x) (a.eval x))
  (h:(sliceAnyEv g hp t x (lo.map ρ) (hi.map ρ) (mx.map ρ)).1) :
  ∃ z,(Instr.sliceAt t v (lo.map a.eval) (hi.map a.eval) (mx.map a.eval)).run P w=.ok z w∧relRV w (Mof M0 bs) bs hp (sliceAnyEv g hp t x (lo.map ρ) (hi.map ρ) (mx.map ρ)).2 z:=by
 unfold sliceAnyEv at h ⊢
 split at h
 ·
  rename_i ty id n
  have key:∀ al cs,al=true→Blk.look hp id=.arr al cs→cs.length=n*ty.size→id<hp.length∧∃ b cap,bs.at id=some b∧v=.slice (some ⟨b,0,none⟩) n cap∧n≤cap∧OwnAt w b cap ty.size:=by
   intro al cs e hl hc
   subst e
   obtain ⟨b,hb⟩:=hr.al id cs hl
   rcases (hx.2 true cs hl).2 hc with ⟨b',cap,k1,k2,k3,k4⟩ | ⟨k1,_⟩
   ·
    exact ⟨hx.1,b',cap,k1,k2,k3,k4⟩
   ·
    rw [hb] at k1; cases k1
  cases lo with
  | none=>exact sliceOwn_sound hg t ty id n n v none hi mx ρ a key h1 h2 h
  | some l =>
   cases hi with
   | none=>exact sliceSuf_sound hg t ty id n v (some l) mx ρ a key h1 h
   | some u=>exact sliceOwn_sound hg t ty id n n v (some l) (some u) mx ρ a key h1 h2 h
 ·
  rename_i ty id n m
  refine sliceOwn_sound hg t ty id n m v lo hi mx ρ a (fun al cs e hl hc => ?_) h1 h2 h
  exact ⟨hx.1,(hx.2.2 al cs hl).2 hc⟩
 ·
  exact sliceEv_sound hg t _ v hx lo hi mx ρ a h1 h2 h3 h
theorem lenEv_sound (hg:g.ok P) (t:TypeId) (x:AV) (v:Value) (hx:relAV w M bs hp x v) (h:(lenEv g hp t x).1) (o:TypeId) :
  ∃ z,(Builtin.len_ #[t] o #[v]).run P w=.ok z w∧relRV w M bs hp (lenEv g hp t x).2 z:=by
 have ht:=G.td_ok hg t
 unfold lenEv at h ⊢
 split at h
 ·
  rename_i htd; rw [htd] at ht
  obtain ⟨a,c,rfl,_⟩:=hx
  exact ⟨_,by simp [Builtin.len_,run_underlying ht.1,goInt],rfl⟩
 ·
  rename_i htd; rw [htd] at ht
  obtain rfl:v=.string _:=hx
  have h1:P.underlying t=some .string:=ht.1
  exact ⟨_,by simp [Builtin.len_,run_underlying h1,goInt],rfl⟩
 ·
  rename_i htd; rw [htd] at ht
  obtain rfl:v=.slice none 0 0:=hx
  exact ⟨_,by simp [Builtin.len_,run_underlying ht.1,goInt],rfl⟩
 ·
  rename_i t' id n htd; rw [htd] at ht
  cases hl:Blk.look hp id with
  | dead=>simp [hl] at h
  | trace l' xs' i' st'=>simp [hl] at h
  | map k v es=>simp [hl] at h
  | cells cs=>simp [hl] at h
  | arr al cs =>
   simp only [hl] at h ⊢
   rcases (hx.2 al cs hl).2 h with ⟨b,cap,_,rfl,_⟩ | ⟨_,xs,a,_,_,_,rfl,_⟩
   ·
    exact ⟨_,by simp [Builtin.len_,run_underlying ht.1,goInt],rfl⟩
   ·
    exact ⟨_,by simp [Builtin.len_,run_underlying ht.1,goInt],rfl⟩
 ·
  rename_i t' id n m htd; rw [htd] at ht
  cases hl:Blk.look hp id with
  | dead=>simp [hl] at h
  | trace l' xs' i' st'=>simp [hl] at h
  | map k v es=>simp [hl] at h
  | cells cs=>simp [hl] at h
  | arr al cs =>
   simp only [hl] at h ⊢
   obtain ⟨b,cap,_,rfl,_⟩:=(hx.2.2 al cs hl).2 h
   exact ⟨_,by simp [Builtin.len_,run_underlying ht.1,goInt],rfl⟩
 ·
  exact h.elim
theorem capEv_sound (hg:g.ok P) (t:TypeId) (x:AV) (v:Value) (hx:relAV w M bs hp x v) (h:(capEv g t x).1) (o:TypeId) :
  ∃ z,(Builtin.cap_ #[t] o #[v]).run P w=.ok z w∧relRV w M bs hp (capEv g t x).2 z:=by
 have ht:=G.td_ok hg t
 unfold capEv at h ⊢
 split at h
 ·
  rename_i htd; rw [htd] at ht
  obtain ⟨a,c,rfl,_,_,hc,_⟩:=hx
  have:=hc rfl
  subst this
  exact ⟨_,by simp [Builtin.cap_,run_underlying ht.1,goInt],rfl⟩
 ·
  rename_i htd; rw [htd] at ht
  obtain rfl:v=.slice none 0 0:=hx
  exact ⟨_,by simp [Builtin.cap_,run_underlying ht.1,goInt],rfl⟩
 ·
  exact h.elim
theorem minEv_sound (l:List AV) (vs:List Value) (hx:All2 (relAV w M bs hp) l vs) (mx:Bool) (h:(minEv mx l).1) (ts:Array TypeId) (o:TypeId) :
  ∃ z,(if mx then Builtin.max_ ts o vs.toArray else Builtin.min_ ts o vs.toArray:Sem Value).run P w=.ok z w∧relRV w M bs hp (minEv mx l).2 z:=by
 unfold minEv at h ⊢
 split at h
 ·
  subst h
  cases hx with
  | cons h1 hx=>cases hx with
   | cons h2 hx=>cases hx with
    | nil =>
     rename_i k a b v u
     obtain rfl:v=.int _ _:=h1
     obtain rfl:u=.int _ _:=h2
     cases mx
     ·
      exact ⟨_,by simp [Builtin.min_,Builtin.min2],rfl⟩
     ·
      exact ⟨.int k (if a<b then b else a),by simp [Builtin.max_,Builtin.max2],rfl⟩
 ·
  exact h.elim
theorem allBox_sound:∀ (l:List Operand) (ρ:Operand→RV) (a:Act) (ids:List Nat),(∀ x∈l,relRV w M bs hp (ρ x) (a.eval x))→allBox hp (l.map ρ)=some ids →
  ∃ ps:List Nat,l.map a.eval=ps.map (fun b=>Value.pointer (some ⟨b,0,none⟩))∧All2 (fun id b=>id<hp.length∧∀ cs,Blk.look hp id=.cells cs→bs.at id=some b) ids ps
 | [],_,_,ids,_,h=>by simp [allBox] at h; subst h; exact ⟨[],rfl,.nil⟩
 | x::l,ρ,a,ids,hρ,h=>by
  simp only [List.map_cons] at h
  unfold allBox at h
  split at h
  ·
   rename_i heq; cases heq
  ·
   rename_i id r heq
   injection heq with e1 e2
   subst e2
   cases hl:Blk.look hp id with
   | cells cs =>
    simp only [hl] at h
    cases hr:allBox hp (l.map ρ) with
    | none=>simp [hr] at h
    | some ids' =>
     simp [hr] at h
     subst h
     obtain ⟨ps,h1,h2⟩:=allBox_sound l ρ a ids' (fun y hy=>hρ y (by simp [hy])) hr
     have h3:=hρ x (by simp)
     rw [e1] at h3
     obtain ⟨hid,h3⟩:=h3
     obtain ⟨b,hb,hv⟩:=h3 cs hl
     exact ⟨b::ps,by simp [h1,hv],.cons ⟨hid,fun _ _=>hb⟩ h2⟩
   | _=>simp [hl] at h
  ·
   cases h
theorem allEp_sound:∀ (l:List Operand) (ρ:Operand→RV) (a:Act) (cps:List (Sigma Ty.T)),(∀ x∈l,relRV w M bs hp (ρ x) (a.eval x))→allEp (l.map ρ)=some cps→All2 (FrozenAt w M) cps (l.map a.eval):=by
 intro l
 induction l with
 | nil=>intro ρ a cps _ h; simp [allEp] at h; subst h; exact .nil
 | cons x l ih =>
  intro ρ a cps hρ h
  have hx:=hρ x (by simp)
  simp only [List.map_cons] at h ⊢
  unfold allEp at h
  split at h
  ·
   rename_i heq; cases heq
  ·
   rename_i t y r heq
   injection heq with h1 h2
   subst h2
   rw [h1] at hx
   cases hr:allEp (l.map ρ) with
   | none=>rw [hr] at h; cases h
   | some ds =>
    rw [hr] at h
    simp at h
    subst h
    exact .cons hx (ih ρ a ds (fun y hy=>hρ y (by simp [hy])) hr)
  ·
   cases h
theorem map_rel (l:List Operand) (ρ:Operand→RV) (a:Act) (hρ:∀ x∈l,relRV w M bs hp (ρ x) (a.eval x)):All2 (relAV w M bs hp) (l.map fun x=>(ρ x).av) (l.map a.eval):=by
 induction l with
 | nil=>exact .nil
 | cons x l ih=>exact .cons (relRV_av (hρ x (by simp))) (ih fun y hy=>hρ y (by simp [hy]))
theorem rep_dflt:∀ (t:Ty),rep w M t t.dflt t.zcells
 | .int k=>by simp [rep,Ty.zcells]
 | .bool=>by simp [rep,Ty.zcells]
 | .str=>by simp [rep,Ty.zcells]
 | .slice t=>by simp only [rep,Ty.zcells]; exact ⟨none,0,rfl,Nat.le_refl _,by simp [maxLen],.inl rfl⟩
 | .nil=>by simp [rep,Ty.zcells]
 | .cons t r=>by simp only [rep,Ty.zcells]; exact ⟨_,_,rfl,rep_dflt t,rep_dflt r⟩
 | .fn=>by simp only [rep,Ty.zcells]; exact .nofn
theorem sig_sound {M:Nat→Prop} {x:SV} {u:Value} {c:Sigma Ty.T} (hs:x.sig=some c) (h:relSV w M bs hp x u):rep w M c.1 c.2 [u]:=by
 cases x with
 | fn f ids =>
  cases ids with
  | cons i r=>simp [SV.sig] at hs
  | nil =>
   simp [SV.sig] at hs; subst hs
   obtain ⟨ps,rfl,h2⟩:=h
   cases h2
   simp only [rep]
   exact repD_fnOf (ps:=[]) f .nil
 | fnp f caps =>
  simp [SV.sig] at hs; subst hs
  obtain ⟨ps,rfl,h2⟩:=h
  simp only [rep]
  exact repD_fnOf f h2
 | fv x =>
  simp [SV.sig] at hs; subst hs
  simp only [rep]
  exact h
 | int k n=>simp [SV.sig] at hs; subst hs; rw [show u=_ from h]; simp [rep]
 | bool b=>simp [SV.sig] at hs; subst hs; rw [show u=_ from h]; simp [rep]
 | str s=>simp [SV.sig] at hs; subst hs; rw [show u=_ from h]; simp [rep]
 | sl t xs ex =>
  simp [SV.sig] at hs; subst hs
  obtain ⟨a,c,h1,h2,h3,_,h5⟩:=h
  simp only [rep]; exact ⟨a,c,by rw [h1],h2,h3,h5⟩
 | _=>simp [SV.sig] at hs
theorem sigs_sound {M:Nat→Prop}:∀ {cs:List SV} {us:List Value} {c:Sigma Ty.T},sigs cs=some c→All2 (relSV w M bs hp) cs us→rep w M c.1 c.2 us
 | [],_,c,hs,.nil=>by simp [sigs] at hs; subst hs; simp [rep]
 | x::r,_,c,hs,.cons h1 h2=>by
  simp only [sigs] at hs
  split at hs
  ·
   rename_i a b ha hb
   injection hs with hs
   subst hs
   simp only [rep]
   exact ⟨[_],_,rfl,sig_sound ha h1,sigs_sound hb h2⟩
  ·
   cases hs
theorem avSig_sound {x:AV} {u:Value} {c:Sigma Ty.T} (hs:x.sig=some c) (h:relAV w M bs hp x u) (h0:c.1.nfld≠0∨c.1.size=1):∃ cs,u=bndV c.1 cs∧rep w M c.1 c.2 cs:=by
 cases x with
 | s x =>
  have h1:=sig_sound hs h
  refine ⟨[u],?_,h1⟩
  cases x with
  | fn f ids =>
   cases ids with
   | cons i r=>simp [AV.sig,SV.sig] at hs
   | nil=>simp [AV.sig,SV.sig] at hs; subst hs; rfl
  | fnp f caps=>simp [AV.sig,SV.sig] at hs; subst hs; rfl
  | fv x=>simp [AV.sig,SV.sig] at hs; subst hs; rfl
  | int k n=>simp [AV.sig,SV.sig] at hs; subst hs; rfl
  | bool b=>simp [AV.sig,SV.sig] at hs; subst hs; rfl
  | str s=>simp [AV.sig,SV.sig] at hs; subst hs; rfl
  | sl t xs ex=>simp [AV.sig,SV.sig] at hs; subst hs; rfl
  | _=>simp [AV.sig,SV.sig] at hs
 | agg cs =>
  obtain ⟨us,rfl,h1⟩:=h
  have h2:=sigs_sound (hs:sigs cs=some c) (h1.imp fun _ _ h=>h.1)
  refine ⟨us,?_,h2⟩
  cases cs with
  | nil=>simp [AV.sig,sigs] at hs; subst hs; rcases h0 with h0 | h0 <;> simp [Ty.nfld] at h0
  | cons y r =>
   simp only [AV.sig,sigs] at hs
   split at hs
   ·
    injection hs with hs; subst hs; rfl
   ·
    cases hs
theorem av_repV {t:Ty} {x:t.T} {v:Value} (h:repV w M t x v) (h0:t≠.nil):relAV w M bs hp (t.av x) v:=by
 obtain ⟨cs,rfl,h⟩:=h
 have:=relSV_av (bs:=bs) (hp:=hp) t x h (by cases t <;> simp_all [Ty.nfld])
 cases t <;> first | exact absurd rfl h0 | simpa [unitV,Ty.isAgg] using this
theorem bytes_beq (a b:ByteArray):(a==b)=true↔a=b:=by
 obtain ⟨a⟩:=a
 obtain ⟨b⟩:=b
 show (a==b)=true↔_
 simp
theorem sameNow_key {k:Ty} (hk:k.keyOk=true) (a b:k.T):Instr.sameNow k.desc (kval k a) (kval k b)=some (k.beq a b):=by
 cases k with
 | int q=>simp [kval,Ty.desc,Instr.sameNow,Ty.beq]
 | str=>simp [kval,Ty.desc,Instr.sameNow,Ty.beq]
 | bool=>simp [kval,Ty.desc,Instr.sameNow,Ty.beq]
 | _=>simp [Ty.keyOk] at hk
theorem beq_key {k:Ty} (hk:k.keyOk=true) (a b:k.T):(k.beq a b=true↔a=b):=by
 cases k with
 | int q=>simp [Ty.beq]
 | str=>exact bytes_beq a b
 | bool=>simp [Ty.beq]
 | _=>simp [Ty.keyOk] at hk
theorem find_rel {kt vt:Ty} (hk:kt.keyOk=true) (n:kt.T):∀ (es:List (kt.T×vt.T)) (ents:List MapEntry) (i:Nat),
  All2 (fun x (m:MapEntry)=>m.key=kval kt x.1∧repV w M vt x.2 m.val) es ents →
  (Instr.findNow kt.desc (kval kt n) ents i=some none∧mget kt.beq n es=none∧∀ v:vt.T,mput kt.beq n v es=es++[(n,v)]) ∨
  (∃ (j:Nat) (x:kt.T×vt.T) (m:MapEntry),es[j]?=some x∧ents[j]?=some m∧x.1=n∧Instr.findNow kt.desc (kval kt n) ents i=some (some (i+j,m.val))∧mget kt.beq n es=some x.2 ∧
   ∀ v:vt.T,mput kt.beq n v es=es.set j (n,v)):=by
 intro es ents i h
 induction h generalizing i with
 | nil=>left; exact ⟨rfl,rfl,fun v=>rfl⟩
 | cons r hr ih =>
  rename_i x m es ents
  obtain ⟨a,b⟩:=x
  have hkey:m.key=kval kt a:=r.1
  have hsame:=sameNow_key hk n a
  by_cases e:n=a
  ·
   right
   subst e
   have hb:kt.beq n n=true:=(beq_key hk n n).2 rfl
   refine ⟨0,(n,b),m,rfl,rfl,rfl,?_,?_,fun v => ?_⟩
   ·
    simp [Instr.findNow,hkey,hsame,hb]
   ·
    simp [mget,hb]
   ·
    simp [mput,hb]
  ·
   have hb:kt.beq n a=false:=by
    cases hq:kt.beq n a with
    | false=>rfl
    | true=>exact absurd ((beq_key hk n a).1 hq) e
   have hf:Instr.findNow kt.desc (kval kt n) (m::ents) i=Instr.findNow kt.desc (kval kt n) ents (i+1):=by
    simp [Instr.findNow,hkey,hsame,hb]
   rcases ih (i+1) with ⟨h1,h2,h3⟩ | ⟨j,x,m',h1,h2,h3,h4,h5,h6⟩
   ·
    left
    refine ⟨by rw [hf]; exact h1,by simp [mget,hb,h2],fun v=>by simp [mput,hb,h3]⟩
   ·
    right
    refine ⟨j+1,x,m',by simpa using h1,by simpa using h2,h3,by rw [hf,h4]; congr 3; omega,by simp [mget,hb,h5],fun v=>by simp [mput,hb,h6]⟩
theorem run_checkKey {kt:Ty} (hk:kt.keyOk=true) {t:TypeId} (h:P.underlying t=some kt.desc) (e:Bool) (fuel:Nat) (n:kt.T):(Instr.checkKey e (fuel+1) t (kval kt n)).run P w=.ok () w:=by
 cases kt with
 | int q=>simp only [Instr.checkKey,Sem.run_bind,run_underlying h,Result.andThen_ok]; rfl
 | str=>simp only [Instr.checkKey,Sem.run_bind,run_underlying h,Result.andThen_ok]; rfl
 | bool=>simp only [Instr.checkKey,Sem.run_bind,run_underlying h,Result.andThen_ok]; rfl
 | _=>simp [Ty.keyOk] at hk
theorem of_key {kt:Ty} (hkt:kt.keyOk=true) {k:AV} {key:kt.T} (h:kt.of k=some key) {v:Value} (hk:relAV w M bs hp k v):v=kval kt key:=by
 unfold Ty.of at h
 split at h
 ·
  rename_i x
  cases kt with
  | int q =>
   cases x with
   | int q' n =>
    by_cases e:q=q'
    ·
     subst e
     simp [Ty.nfld,Ty.parse] at h
     subst h
     exact hk
    ·
     simp [Ty.nfld,Ty.parse,e] at h
   | _=>simp [Ty.nfld,Ty.parse] at h
  | str =>
   cases x with
   | str s=>simp [Ty.nfld,Ty.parse] at h; subst h; exact hk
   | _=>simp [Ty.nfld,Ty.parse] at h
  | bool =>
   cases x with
   | bool s=>simp [Ty.nfld,Ty.parse] at h; subst h; exact hk
   | _=>simp [Ty.nfld,Ty.parse] at h
  | _=>simp [Ty.keyOk] at hkt
 ·
  cases kt <;> simp [Ty.nfld,Ty.keyOk] at h hkt
theorem lookupEv_sound {M0:Nat→Prop} (hg:g.ok P) (hr:HR w M0 bs hp) (t:TypeId) (m k:AV) (vm vk:Value) (hm:relAV w (Mof M0 bs) bs hp m vm) (hk:relAV w (Mof M0 bs) bs hp k vk) (ok:Bool) (h:(lookupEv g hp t m k ok).1) :
  ∃ z,(Instr.lookup t vm vk ok).run P w=.ok z w∧relRV w (Mof M0 bs) bs hp (lookupEv g hp t m k ok).2 z:=by
 have ht:=G.td_ok hg t
 unfold lookupEv at h ⊢
 split at h
 ·
  rename_i kk ee kt vt id htd
  rw [htd] at ht
  obtain ⟨b,k0,u0,es,hb,hl,rfl⟩:=hm
  simp only [hl] at h ⊢
  cases hof:k0.of k with
  | none=>simp [hof] at h
  | some key =>
   simp only [hof] at h ⊢
   obtain ⟨rfl,rfl⟩:=h
   obtain ⟨h1,h2,h3,h5,h6⟩:=ht
   obtain ⟨b',ents,clock,hb',hheap,hes⟩:=hr.map id _ _ _ hl
   rw [hb] at hb'; cases hb'
   obtain rfl:=of_key h5 hof hk
   have hget:(getObj b).run P w=.ok (.map ents clock) w:=by simp [getObj,Sem.run,hheap]
   have hfk:∀ r,Instr.findNow k0.desc (kval k0 key) ents.toList 0=some r→(Instr.findKey kk (kval k0 key) ents.toList).run P w=.ok r w:=fun r hr=>by
    simp [Instr.findKey,Sem.run_bind,run_underlying h2,hr]
   have fin:∀ (v:Value) (y:u0.T) (fnd:Bool),repV w (Mof M0 bs) u0 y v→∀ (r:Option (Nat×Value)),Instr.findNow k0.desc (kval k0 key) ents.toList 0=some r→((r=none∧fnd=false∧(zeroValue ee).run P w=.ok v w)∨(∃ j,r=some (j,v)∧fnd=true)) →
     (mget k0.beq key es).getD u0.dflt=y→(mget k0.beq key es).isSome=fnd →
     ∃ z,(Instr.lookup t (.map (some b)) (kval k0 key) ok).run P w=.ok z w∧relRV w (Mof M0 bs) bs hp (if ok=true then .tup [u0.av ((mget k0.beq key es).getD u0.dflt),.s (.bool (mget k0.beq key es).isSome)] else .v (u0.av ((mget k0.beq key es).getD u0.dflt))) z:=by
    intro v y fnd hrep r hr hor e1 e2
    rw [e1,e2]
    have hav:=av_repV (bs:=bs) (hp:=hp) hrep h6
    refine ⟨if ok then .tuple #[v,.bool fnd] else v,?_,?_⟩
    ·
     simp only [Instr.lookup,Sem.run_bind,run_underlying h1,Result.andThen_ok,hget,Sem.run_pure,run_checkKey h5 h2 _ 9999,hfk r hr]
     rcases hor with ⟨rfl,rfl,hz⟩ | ⟨j,rfl,rfl⟩
     ·
      simp only [Sem.run_bind,hz,Result.andThen_ok,Sem.run_pure]
     ·
      simp only [Sem.run_bind,Result.andThen_ok,Sem.run_pure]
    ·
     cases ok
     ·
      exact hav
     ·
      exact ⟨[v,.bool fnd],rfl,.cons hav (.cons rfl .nil)⟩
   rcases find_rel (w:=w) (M:=Mof M0 bs) h5 key es ents.toList 0 hes with ⟨f1,f2,f3⟩ | ⟨j,x,me,f1,f2,f3,f4,f5,f6⟩
   ·
    have hz:(zeroValue ee).run P w=.ok (unitV u0 u0.zcells) w:=by
     cases hi:P.info? ee with
     | none=>simp [hi] at h3
     | some i=>simp [hi] at h3; simp [zeroValue,typeInfo,hi,go_sem,h3]
    exact fin (unitV u0 u0.zcells) u0.dflt false ⟨_,rfl,rep_dflt u0⟩ none f1 (.inl ⟨rfl,rfl,hz⟩) (by rw [f2]; rfl) (by rw [f2]; rfl)
   ·
    obtain ⟨m',hm',hmr⟩:=hes.get j x f1
    rw [f2] at hm'; cases hm'
    exact fin me.val x.2 true hmr.2 _ f4 (.inr ⟨0+j,rfl,rfl⟩) (by rw [f5]; rfl) (by rw [f5]; rfl)
 ·
  exact h.elim
theorem qEv_sound {M0:Nat→Prop} (hg:g.ok P) (hr:HR w M0 bs hp) (o:Oper) (ρ:Operand→RV) (a:Act) (hρ:∀ x∈o.op.operands.toList,relRV w (Mof M0 bs) bs hp (ρ x) (a.eval x))
  (h:(qEv g hp ρ o.type o.op).1):∃ z,(execOp a.eval o).run P w=.ok (.value z) w∧relRV w (Mof M0 bs) bs hp (qEv g hp ρ o.type o.op).2 z:=by
 obtain ⟨dst,op,t,pos,after,guard⟩:=o
 simp only at h hρ ⊢
 unfold qEv at h ⊢
 split at h
 ·
  exact ⟨_,by simp [execOp],coe_sound hg _ _ _ (hρ _ (by simp [Op.operands]))⟩
 ·
  exact ⟨_,by simp [execOp],coe_sound hg _ _ _ (hρ _ (by simp [Op.operands]))⟩
 ·
  rename_i c x y
  obtain ⟨q,h1,h2⟩:=pickEv_sound _ _ _ _ _ _ (relRV_av (hρ c (by simp [Op.operands]))) (relRV_av (hρ x (by simp [Op.operands]))) (relRV_av (hρ y (by simp [Op.operands]))) h
  exact ⟨_,by simp [execOp,h1,asBool],h2⟩
 ·
  rename_i u x
  obtain ⟨z,h1,h2⟩:=loadEv_sound hg hr u _ _ (relRV_av (hρ x (by simp [Op.operands]))) h
  exact ⟨z,by simp [execOp,h1],h2⟩
 ·
  rename_i op u x y yt
  obtain ⟨z,h1,h2⟩:=binEv_sound hg op _ _ _ _ u (relRV_av (hρ x (by simp [Op.operands]))) (relRV_av (hρ y (by simp [Op.operands]))) h x y
  exact ⟨z,by simp only [execOp]; rw [Sem.run_bind,h1]; rfl,h2⟩
 ·
  rename_i op u x
  obtain ⟨z,h1,h2⟩:=unEv_sound (P:=P) op _ _ (relRV_av (hρ x (by simp [Op.operands]))) h
  exact ⟨z,by simp [execOp,h1],h2⟩
 ·
  rename_i s x f
  obtain ⟨z,h1,h2⟩:=fieldAddrEv_sound hg s _ f _ (relRV_av (hρ x (by simp [Op.operands]))) h
  exact ⟨z,by simp [execOp,h1],h2⟩
 ·
  rename_i s x i
  obtain ⟨z,h1,h2⟩:=indexAddrEv_sound hr hg s _ _ _ _ (relRV_av (hρ x (by simp [Op.operands]))) (relRV_av (hρ i (by simp [Op.operands]))) h
  exact ⟨z,by simp [execOp,h1],h2⟩
 ·
  rename_i s x lo hi mx
  obtain ⟨z,h1,h2⟩:=sliceAny_sound hr hg s _ _ (relRV_av (hρ x (by simp [Op.operands]))) lo hi mx ρ a (fun y hy=>hρ y (by simp [Op.operands]; simp at hy; simp [hy])) (fun y hy=>hρ y (by simp [Op.operands]; simp at hy; simp [hy])) (fun y hy=>hρ y (by simp [Op.operands]; simp at hy; simp [hy])) h
  exact ⟨z,by simp [execOp,h1],h2⟩
 ·
  rename_i x i
  have hx:=hρ x (by simp [Op.operands])
  unfold extractEv at h ⊢
  split at h
  ·
   rename_i xs i heq
   rw [heq] at hx
   obtain ⟨vs,hv,hxs⟩:=hx
   rw [List.getElem?_eq_getElem h]
   obtain ⟨u,k1,k2⟩:=hxs.get _ _ (List.getElem?_eq_getElem h)
   exact ⟨u,by simp [execOp,hv,Instr.extract,k1],k2⟩
  ·
   exact h.elim
 ·
  rename_i s d x
  obtain ⟨z,h1,h2⟩:=convEv_sound (P:=P) hg s d _ _ (relRV_av (hρ x (by simp [Op.operands]))) h
  exact ⟨z,by simp [execOp,h1],h2⟩
 ·
  rename_i u x
  have hx:=relRV_av (hρ x (by simp [Op.operands]))
  have ht:=G.td_ok hg u
  unfold ifaceEv at h ⊢
  split at h
  ·
   rename_i ty k n htd heq
   rw [htd] at ht
   rw [heq] at hx
   have hv:a.eval x=.int k n:=hx
   obtain ⟨h1,-,-,h4⟩:=ht
   refine ⟨.iface u (.int k n),?_,rfl⟩
   have:(Instr.makeInterface u (.int k n)).run P w=.ok (.iface u (.int k n)) w:=by
    simp only [Instr.makeInterface,Sem.run_bind,run_underlying h1,Result.andThen_ok]
    cases ty <;> simp [Ty.scalar] at h4 <;> rfl
   simp [execOp,hv,this]
  ·
   exact h.elim
 ·
  rename_i x
  have hx:=relRV_av (hρ x (by simp [Op.operands]))
  unfold nilChkEv at h ⊢
  split at h
  ·
   rename_i id off heq
   split at h
   ·
    rename_i cs hl
    rw [heq] at hx
    obtain ⟨b,k1,k2⟩:=hx.2 cs hl
    simp only [hl]
    exact ⟨.pointer (some ⟨b,off,none⟩),by simp [execOp,k2],hx.1,fun cs' hl'=>⟨b,k1,rfl⟩⟩
   ·
    exact h.elim
  ·
   rename_i t y heq
   rw [heq] at hx
   have hx':=hx
   obtain ⟨b,off,cs,k2,hrest⟩:=hx
   exact ⟨.pointer (some ⟨b,off,none⟩),by simp [execOp,k2],⟨b,off,cs,rfl,hrest⟩⟩
  ·
   exact h.elim
 ·
  rename_i u x i
  have hx:=relRV_av (hρ x (by simp [Op.operands]))
  have hi:=relRV_av (hρ i (by simp [Op.operands]))
  have ht:=G.td_ok hg u
  unfold strIdxEv at h ⊢
  split at h
  ·
   rename_i s kk k htd e1 e2
   rw [htd] at ht
   rw [e1] at hx
   rw [e2] at hi
   have hv:a.eval x=.string s:=hx
   have hi:a.eval i=.int kk k:=hi
   obtain ⟨h1,-,-,-⟩:=ht
   have hlt:k.toNat<s.size:=by omega
   refine ⟨.int .u8 (byteAt s k.toNat),?_,rfl⟩
   have:(Instr.index u (.string s) (.int kk k)).run P w=.ok (.int .u8 (byteAt s k.toNat)) w:=by
    have hg:s[k.toNat]?=some s[k.toNat]:=by simp [hlt]
    simp [Instr.index,asIntOf,Sem.run_bind,run_underlying h1,Ty.desc,h.1,hg,byteAt]
   simp [execOp,hv,hi,this]
  ·
   exact h.elim
 ·
  rename_i u m k ok
  obtain ⟨z,h1,h2⟩:=lookupEv_sound hg hr u _ _ _ _ (relRV_av (hρ m (by simp [Op.operands]))) (relRV_av (hρ k (by simp [Op.operands]))) ok h
  exact ⟨z,by simp [execOp,h1],h2⟩
 ·
  rename_i f first caps
  unfold funcEv at h ⊢
  split at h
  ·
   rename_i e1 e2
   obtain ⟨ps,k1,k2⟩:=allBox_sound caps.toList ρ a [] (fun y hy=>hρ y (by simp [Op.operands]; simp at hy; simp [hy])) e2
   have hf:first=#[]:=by simpa using e1
   subst hf
   cases k2
   refine ⟨.func (.func f) #[] (caps.map a.eval),by simp [execOp,Instr.makeFunc],[],?_,.nil⟩
   rw [map_arr,k1]
   rfl
  ·
   rename_i ids _ e1 e2
   obtain ⟨ps,k1,k2⟩:=allBox_sound caps.toList ρ a ids (fun y hy=>hρ y (by simp [Op.operands]; simp at hy; simp [hy])) e2
   have hf:first=#[]:=by simpa using e1
   subst hf
   refine ⟨.func (.func f) #[] (caps.map a.eval),by simp [execOp,Instr.makeFunc],ps,?_,k2⟩
   rw [← k1,map_arr]
  ·
   rename_i cps e1 _ e2
   have hf:first=#[]:=by simpa using e1
   subst hf
   refine ⟨.func (.func f) #[] (caps.map a.eval),by simp [execOp,Instr.makeFunc],caps.toList.map a.eval,by rw [map_arr],?_⟩
   exact allEp_sound caps.toList ρ a cps (fun y hy=>hρ y (by simp [Op.operands]; simp at hy; simp [hy])) e2
  ·
   rename_i x0 e1 e2
   split at h
   ·
    rename_i c hc
    obtain ⟨ps,k1,k2⟩:=allBox_sound caps.toList ρ a [] (fun y hy=>hρ y (by simp [Op.operands]; simp at hy; simp [hy])) e2
    obtain ⟨x,rfl,rfl⟩:∃ x,first=#[x]∧ρ x=x0:=by
     obtain ⟨l⟩:=first
     rcases l with _ | ⟨x,_ | ⟨y,l⟩⟩
     ·
      simp at e1
     ·
      simp at e1; exact ⟨x,rfl,e1⟩
     ·
      simp at e1
    cases k2
    obtain ⟨cs,h1,h2⟩:=avSig_sound hc (relRV_av (hρ x (by simp [Op.operands]))) h
    refine ⟨.func (.func f) #[a.eval x] (caps.map a.eval),by simp [execOp,Instr.makeFunc],?_⟩
    rw [map_arr,k1,h1]
    exact repD_bndOf f h2
   ·
    exact h.elim
  ·
   exact h.elim
 ·
  rename_i xs ts
  unfold lenArgs at h ⊢
  split at h
  ·
   rename_i x u e1 e2
   obtain rfl:xs=#[x]:=by cases xs; simpa using e1
   obtain rfl:ts=#[u]:=by cases ts; simpa using e2
   obtain ⟨z,h1,h2⟩:=lenEv_sound hg u _ _ (relRV_av (hρ x (by simp [Op.operands,Call.operands]))) h t
   exact ⟨z,by simp [execOp,resolve,invoke,builtin,h1],h2⟩
  ·
   exact h.elim
 ·
  rename_i xs ts
  unfold capArgs at h ⊢
  split at h
  ·
   rename_i x u e1 e2
   obtain rfl:xs=#[x]:=by cases xs; simpa using e1
   obtain rfl:ts=#[u]:=by cases ts; simpa using e2
   obtain ⟨z,h1,h2⟩:=capEv_sound hg u _ _ (relRV_av (hρ x (by simp [Op.operands,Call.operands]))) h t
   exact ⟨z,by simp [execOp,resolve,invoke,builtin,h1],h2⟩
  ·
   exact h.elim
 ·
  rename_i xs ts
  obtain ⟨z,h1,h2⟩:=minEv_sound (P:=P) _ _ (map_rel xs.toList ρ a (fun y hy=>hρ y (by simp [Op.operands,Call.operands]; simpa using hy))) false h ts t
  exact ⟨z,by simp at h1; simp [execOp,resolve,invoke,builtin,map_arr,h1],h2⟩
 ·
  rename_i xs ts
  obtain ⟨z,h1,h2⟩:=minEv_sound (P:=P) _ _ (map_rel xs.toList ρ a (fun y hy=>hρ y (by simp [Op.operands,Call.operands]; simpa using hy))) true h ts t
  exact ⟨z,by simp at h1; simp [execOp,resolve,invoke,builtin,map_arr,h1],h2⟩
 ·
  exact h.elim
end
end Go.Am
namespace Go.Am
open Go.RowKit
section
variable {w:World} {M0:Nat→Prop} {bs:Bs} {hp:List Blk}
theorem at_lt {id b:Nat} (h:bs.at id=some b):id<bs.length:=by
 unfold Bs.at at h
 rcases Nat.lt_or_ge id bs.length with h' | h'
 ·
  exact h'
 ·
  rw [List.getElem?_eq_none h'] at h; cases h
theorem look_lt {id:Nat} (h:Blk.look hp id≠.dead):id<hp.length:=by
 unfold Blk.look at h
 rcases Nat.lt_or_ge id hp.length with h' | h'
 ·
  exact h'
 ·
  rw [List.getElem?_eq_none h'] at h; exact absurd rfl h
theorem at_push (x:Option Nat) (id:Nat):Bs.at (bs++[x]) id=if id=bs.length then x else bs.at id:=by
 unfold Bs.at
 rcases Nat.lt_trichotomy id bs.length with h | h | h
 ·
  rw [List.getElem?_append_left h,if_neg (by omega)]
 ·
  subst h; simp
 ·
  rw [List.getElem?_eq_none (by simp; omega),List.getElem?_eq_none (by omega),if_neg (by omega)]
theorem look_push (x:Blk) (id:Nat):Blk.look (hp++[x]) id=if id=hp.length then x else Blk.look hp id:=by
 unfold Blk.look
 rcases Nat.lt_trichotomy id hp.length with h | h | h
 ·
  rw [List.getElem?_append_left h,if_neg (by omega)]
 ·
  subst h; simp
 ·
  rw [List.getElem?_eq_none (by simp; omega),List.getElem?_eq_none (by omega),if_neg (by omega)]
theorem at_set (i:Nat) (x:Option Nat) (id:Nat) (hi:i<bs.length):Bs.at (bs.set i x) id=if id=i then x else bs.at id:=by
 unfold Bs.at
 by_cases h:id=i
 ·
  subst h; simp [hi]
 ·
  rw [List.getElem?_set_ne (Ne.symm h),if_neg h]
theorem look_set (i:Nat) (x:Blk) (id:Nat) (hi:i<hp.length):Blk.look (hp.set i x) id=if id=i then x else Blk.look hp id:=by
 unfold Blk.look
 by_cases h:id=i
 ·
  subst h; simp [hi]
 ·
  rw [List.getElem?_set_ne (Ne.symm h),if_neg h]
theorem HR.keep (hr:HR w M0 bs hp) {w':World} (he:Evo (Mof M0 bs) (Mof M0 bs) w w') (hs:∀ id b,bs.at id=some b→w'.heap[b]?=w.heap[b]?) (ho:∀ b,b<w.heap.size→(∀ id,bs.at id≠some b)→w'.heap[b]?=w.heap[b]?) :
  HR w' M0 bs hp∧Step false w (Mof M0 bs) bs hp w' (Mof M0 bs) bs hp:=by
 have hst:Step false w (Mof M0 bs) bs hp w' (Mof M0 bs) bs hp :=
  ⟨he,Nat.le_refl _,fun id cs _ h=>⟨⟨cs,h⟩,rfl⟩,fun id b k u es h1 h2=>⟨h1,es,h2⟩,fun id al cs _ h=>⟨al,cs,h,.inr ⟨rfl,rfl,fun _=>rfl,fun b hb cap size ho=>by
   obtain ⟨cur,e,h1,h2⟩:=ho
   exact ⟨cur,e,by rw [hs id b hb]; exact h1,h2⟩⟩⟩,fun _=>⟨ho,fun _ _ h=>h,fun _ _ _ _ _ h=>h⟩⟩
 refine ⟨⟨hr.len,fun b hb=>Nat.lt_of_lt_of_le (hr.m0 b hb) he.size,fun id b h=>Nat.lt_of_lt_of_le (hr.lt id b h) he.size,hr.inj,hr.out,hr.al,?_,?_,?_⟩,hst⟩
 ·
  intro id cs hl
  obtain ⟨b,cur,e,h1,h2,h3,h4⟩:=hr.cells id cs hl
  refine ⟨b,cur,e,h1,by rw [hs id b h1]; exact h2,h3,fun j x hj => ?_⟩
  obtain ⟨u,k1,k2,k3⟩:=h4 j x hj
  exact ⟨u,k1,k2,relSV_step hst x u k3⟩
 ·
  intro id al cs b hl hb
  obtain ⟨cur,e,h2,h4⟩:=hr.arr id al cs b hl hb
  refine ⟨cur,e,by rw [hs id b hb]; exact h2,fun j x hj => ?_⟩
  obtain ⟨u,k1,k2,k3⟩:=h4 j x hj
  exact ⟨u,k1,k2,relSV_step hst x u k3⟩
 ·
  intro id k v es hl
  obtain ⟨b,ents,clock,h1,h2,h3⟩:=hr.map id k v es hl
  exact ⟨b,ents,clock,h1,by rw [hs id b h1]; exact h2,h3.imp fun x m hm=>⟨hm.1,repV_evo he hm.2⟩⟩
theorem HR.keep_alloc (hr:HR w M0 bs hp) (o:Obj):HR (w.alloc o) M0 bs hp∧Step false w (Mof M0 bs) bs hp (w.alloc o) (Mof M0 bs) bs hp :=
 hr.keep (Evo.alloc _ _ _) (fun id b hb=>Below.heap_alloc w o b (hr.lt id b hb)) (fun b hb _=>Below.heap_alloc w o b hb)
theorem HR.keep_drew (hr:HR w M0 bs hp):HR { w with drawn:=w.drawn+1 } M0 bs hp∧Step false w (Mof M0 bs) bs hp { w with drawn:=w.drawn+1 } (Mof M0 bs) bs hp :=
 hr.keep (Evo.drew _ _) (fun _ _ _=>rfl) (fun _ _ _=>rfl)
def IsBlk (w:World) (M:Nat→Prop) (bs:Bs) (hp:List Blk) (o:Obj):Blk→Prop
 | .dead=>False
 | .trace ..=>False
 | .cells cs=>∃ cur e,o=.cells cur e (0,0)∧cs.length=cur.size∧∀ (j:Nat) (x:SV),cs[j]?=some x→∃ u,cur[j]?=some u∧u.oneCell'=true∧relSV w M bs hp x u
 | .arr _ cs=>∃ cur e,o=.cells cur e (0,0)∧∀ (j:Nat) (x:SV),cs[j]?=some x→∃ u,cur[j]?=some u∧u.oneCell'=true∧relSV w M bs hp x u
 | .map k v es=>∃ ents clock,o=.map ents clock∧All2 (fun x (m:MapEntry)=>m.key=kval k x.1∧repV w M v x.2 m.val) es ents.toList
theorem Mof_push (x:Option Nat) (b:Nat):Mof M0 (bs++[x]) b↔Mof M0 bs b∨x=some b:=by
 unfold Mof
 constructor
 ·
  rintro (h | ⟨id,h⟩)
  ·
   exact .inl (.inl h)
  ·
   rw [at_push] at h
   split at h
   ·
    exact .inr h
   ·
    exact .inl (.inr ⟨id,h⟩)
 ·
  rintro ((h | ⟨id,h⟩) | h)
  ·
   exact .inl h
  ·
   refine .inr ⟨id,?_⟩
   rw [at_push,if_neg (by have:=at_lt h; omega)]; exact h
  ·
   exact .inr ⟨bs.length,by rw [at_push,if_pos rfl]; exact h⟩
theorem HR.push (hr:HR w M0 bs hp) (o:Obj) (k:Blk) (hk:IsBlk w (Mof M0 bs) bs hp o k) :
  HR (w.alloc o) M0 (bs++[some w.heap.size]) (hp++[k])∧Step false w (Mof M0 bs) bs hp (w.alloc o) (Mof M0 (bs++[some w.heap.size])) (bs++[some w.heap.size]) (hp++[k]):=by
 have he:Evo (Mof M0 bs) (Mof M0 (bs++[some w.heap.size])) w (w.alloc o) :=
  ⟨rfl,rfl,rfl,by simp,Nat.le_refl _,fun b hb _=>Below.heap_alloc w o b hb,fun b hb hn hm=>by
   rcases (Mof_push _ _).1 hm with h | h
   ·
    exact hn h
   ·
    injection h with h; omega⟩
 have hat:∀ id b,bs.at id=some b→Bs.at (bs++[some w.heap.size]) id=some b:=fun id b h=>by rw [at_push,if_neg (by have:=at_lt h; omega)]; exact h
 have hlk:∀ id,id<hp.length→Blk.look (hp++[k]) id=Blk.look hp id:=fun id h=>by rw [look_push,if_neg (by omega)]
 have hlk':∀ id,Blk.look hp id≠.dead→Blk.look (hp++[k]) id=Blk.look hp id:=fun id h=>hlk id (look_lt h)
 have hst:Step false w (Mof M0 bs) bs hp (w.alloc o) (Mof M0 (bs++[some w.heap.size])) (bs++[some w.heap.size]) (hp++[k]):=by
  refine ⟨he,by simp,fun id cs h1 h2=>⟨⟨cs,by rw [← hlk id h1]; exact h2⟩,by rw [at_push,if_neg (by have:=hr.len; omega)]⟩,fun id b k u es h1 h2=>⟨hat id b h1,es,by rw [hlk' id (by rw [h2]; simp)]; exact h2⟩,?_,fun _=>⟨fun b hb _=>Below.heap_alloc w o b hb,fun b hb hn id h=>by
   rw [at_push] at h
   split at h
   ·
    injection h with h; omega
   ·
    exact hn id h,fun id l xs i st h=>by
   rw [look_push] at h
   split at h
   ·
    subst h; exact hk.elim
   ·
    exact h⟩⟩
  intro id al cs hid hl
  rw [hlk id hid] at hl
  refine ⟨al,cs,hl,.inr ⟨rfl,by rw [at_push,if_neg (by have:=hr.len; omega)],fun _=>rfl,fun b hb cap size ho => ?_⟩⟩
  obtain ⟨cur,e,h1,h2⟩:=ho
  exact ⟨cur,e,by rw [Below.heap_alloc w o b (hr.lt id b hb)]; exact h1,h2⟩
 have hnew:(w.alloc o).heap[w.heap.size]?=some o:=by show (w.heap.push o)[w.heap.size]?=some o; simp
 refine ⟨⟨by simp [hr.len],fun b hb=>Nat.lt_of_lt_of_le (hr.m0 b hb) he.size,?_,?_,?_,?_,?_,?_,?_⟩,hst⟩
 ·
  intro id b h
  rw [at_push] at h
  split at h
  ·
   injection h with h; subst h; simp
  ·
   exact Nat.lt_of_lt_of_le (hr.lt id b h) he.size
 ·
  intro i j b h1 h2
  rw [at_push] at h1 h2
  split at h1 <;> split at h2
  ·
   omega
  ·
   injection h1 with h1; have:=hr.lt j b h2; omega
  ·
   injection h2 with h2; have:=hr.lt i b h1; omega
  ·
   exact hr.inj i j b h1 h2
 ·
  intro id b h hm
  rw [at_push] at h
  split at h
  ·
   injection h with h; have:=hr.m0 b hm; omega
  ·
   exact hr.out id b h hm
 ·
  intro id cs h
  rw [look_push] at h
  split at h
  ·
   rename_i e
   exact ⟨w.heap.size,by rw [at_push,if_pos (by have:=hr.len; omega)]⟩
  ·
   obtain ⟨b,hb⟩:=hr.al id cs h
   exact ⟨b,hat id b hb⟩
 ·
  intro id cs hl
  rw [look_push] at hl
  split at hl
  ·
   rename_i e
   subst hl
   obtain ⟨cur,e',rfl,h2,h3⟩:=hk
   refine ⟨w.heap.size,cur,e',by rw [at_push,if_pos (by have:=hr.len; omega)],hnew,h2,fun j x hj => ?_⟩
   obtain ⟨u,k1,k2,k3⟩:=h3 j x hj
   exact ⟨u,k1,k2,relSV_step hst x u k3⟩
  ·
   obtain ⟨b,cur,e,h1,h2,h3,h4⟩:=hr.cells id cs hl
   refine ⟨b,cur,e,hat id b h1,by rw [Below.heap_alloc w o b (hr.lt id b h1)]; exact h2,h3,fun j x hj => ?_⟩
   obtain ⟨u,k1,k2,k3⟩:=h4 j x hj
   exact ⟨u,k1,k2,relSV_step hst x u k3⟩
 ·
  intro id al cs b hl hb
  rw [look_push] at hl
  rw [at_push] at hb
  split at hl
  ·
   rename_i e
   subst hl
   rw [if_pos (by have:=hr.len; omega)] at hb
   injection hb with hb
   subst hb
   obtain ⟨cur,e',rfl,h3⟩:=hk
   refine ⟨cur,e',hnew,fun j x hj => ?_⟩
   obtain ⟨u,k1,k2,k3⟩:=h3 j x hj
   exact ⟨u,k1,k2,relSV_step hst x u k3⟩
  ·
   rw [if_neg (by have:=hr.len; omega)] at hb
   obtain ⟨cur,e,h2,h4⟩:=hr.arr id al cs b hl hb
   refine ⟨cur,e,by rw [Below.heap_alloc w o b (hr.lt id b hb)]; exact h2,fun j x hj => ?_⟩
   obtain ⟨u,k1,k2,k3⟩:=h4 j x hj
   exact ⟨u,k1,k2,relSV_step hst x u k3⟩
 ·
  intro id k' v es hl
  rw [look_push] at hl
  split at hl
  ·
   rename_i e
   subst hl
   obtain ⟨ents,clock,rfl,h3⟩:=hk
   exact ⟨w.heap.size,ents,clock,by rw [at_push,if_pos (by have:=hr.len; omega)],hnew,h3.imp fun x m hm=>⟨hm.1,repV_evo he hm.2⟩⟩
  ·
   obtain ⟨b,ents,clock,h1,h2,h3⟩:=hr.map id k' v es hl
   exact ⟨b,ents,clock,hat id b h1,by rw [Below.heap_alloc w o b (hr.lt id b h1)]; exact h2,h3.imp fun x m hm=>⟨hm.1,repV_evo he hm.2⟩⟩
theorem HR.virt (hr:HR w M0 bs hp) (cs:List SV) :
  HR w M0 (bs++[none]) (hp++[.arr false cs])∧Step false w (Mof M0 bs) bs hp w (Mof M0 (bs++[none])) (bs++[none]) (hp++[.arr false cs]):=by
 have he:Evo (Mof M0 bs) (Mof M0 (bs++[none])) w w:=Evo.more w fun b _ hm=>by
  rcases (Mof_push _ _).1 hm with h | h
  ·
   exact h
  ·
   cases h
 have hat:∀ id b,Bs.at (bs++[none]) id=some b↔bs.at id=some b:=fun id b=>by
  rw [at_push]
  split
  ·
   rename_i e; subst e; constructor
   ·
    intro h; cases h
   ·
    intro h; have:=at_lt h; omega
  ·
   rfl
 have hlk:∀ id,id<hp.length→Blk.look (hp++[.arr false cs]) id=Blk.look hp id:=fun id h=>by rw [look_push,if_neg (by omega)]
 have hlk':∀ id,Blk.look hp id≠.dead→Blk.look (hp++[.arr false cs]) id=Blk.look hp id:=fun id h=>hlk id (look_lt h)
 have hst:Step false w (Mof M0 bs) bs hp w (Mof M0 (bs++[none])) (bs++[none]) (hp++[.arr false cs]):=by
  refine ⟨he,by simp,fun id cs h1 h2=>⟨⟨cs,by rw [← hlk id h1]; exact h2⟩,by rw [at_push,if_neg (by have:=hr.len; omega)]⟩,fun id b k u es h1 h2=>⟨(hat id b).2 h1,es,by rw [hlk' id (by rw [h2]; simp)]; exact h2⟩,?_,fun _=>⟨fun b hb _=>rfl,fun b hb hn id h=>hn id ((hat id b).1 h),fun id l xs i st h=>by
   rw [look_push] at h
   split at h
   ·
    cases h
   ·
    exact h⟩⟩
  intro id al cs hid hl
  rw [hlk id hid] at hl
  exact ⟨al,cs,hl,.inr ⟨rfl,by rw [at_push,if_neg (by have:=hr.len; omega)],fun _=>rfl,fun b hb cap size ho=>ho⟩⟩
 refine ⟨⟨by simp [hr.len],hr.m0,fun id b h=>hr.lt id b ((hat id b).1 h),fun i j b h1 h2=>hr.inj i j b ((hat i b).1 h1) ((hat j b).1 h2),fun id b h=>hr.out id b ((hat id b).1 h),?_,?_,?_,?_⟩,hst⟩
 ·
  intro id cs' h
  rw [look_push] at h
  split at h
  ·
   cases h
  ·
   obtain ⟨b,hb⟩:=hr.al id cs' h
   exact ⟨b,(hat id b).2 hb⟩
 ·
  intro id cs' hl
  rw [look_push] at hl
  split at hl
  ·
   cases hl
  ·
   obtain ⟨b,cur,e,h1,h2,h3,h4⟩:=hr.cells id cs' hl
   refine ⟨b,cur,e,(hat id b).2 h1,h2,h3,fun j x hj => ?_⟩
   obtain ⟨u,k1,k2,k3⟩:=h4 j x hj
   exact ⟨u,k1,k2,relSV_step hst x u k3⟩
 ·
  intro id al cs' b hl hb
  have hb:=(hat id b).1 hb
  rw [look_push,if_neg (by have:=at_lt hb; have:=hr.len; omega)] at hl
  obtain ⟨cur,e,h2,h4⟩:=hr.arr id al cs' b hl hb
  refine ⟨cur,e,h2,fun j x hj => ?_⟩
  obtain ⟨u,k1,k2,k3⟩:=h4 j x hj
  exact ⟨u,k1,k2,relSV_step hst x u k3⟩
 ·
  intro id k' v es hl
  rw [look_push] at hl
  split at hl
  ·
   cases hl
  ·
   obtain ⟨b,ents,clock,h1,h2,h3⟩:=hr.map id k' v es hl
   exact ⟨b,ents,clock,(hat id b).2 h1,h2,h3.imp fun x m hm=>⟨hm.1,repV_evo he hm.2⟩⟩
theorem HR.cut (hr:HR w M0 bs hp) {id b:Nat} {cs cs':List SV} (hl:Blk.look hp id=.arr true cs) (hb:bs.at id=some b) (hpre:∀ (j:Nat) (x:SV),cs'[j]?=some x→cs[j]?=some x) :
  HR w M0 (bs.set id none++[some b]) (hp.set id .dead++[.arr true cs']) ∧
   Step false w (Mof M0 bs) bs hp w (Mof M0 (bs.set id none++[some b])) (bs.set id none++[some b]) (hp.set id .dead++[.arr true cs']):=by
 have hid:id<hp.length:=look_lt (by rw [hl]; simp)
 have hid':id<bs.length:=by rw [hr.len]; exact hid
 have hlen:=hr.len
 have hat:∀ j,Bs.at (bs.set id none++[some b]) j=if j=hp.length then some b else if j=id then none else bs.at j:=fun j=>by
  rw [at_push]
  simp only [List.length_set,hlen]
  split
  ·
   rfl
  ·
   exact at_set id _ j hid'
 have hlk:∀ j,Blk.look (hp.set id .dead++[.arr true cs']) j=if j=hp.length then .arr true cs' else if j=id then .dead else Blk.look hp j:=fun j=>by
  rw [look_push]
  simp only [List.length_set]
  split
  ·
   rfl
  ·
   exact look_set id _ j hid
 have hat':∀ j c,Bs.at (bs.set id none++[some b]) j=some c→(j=hp.length∧c=b)∨(j≠hp.length∧j≠id∧bs.at j=some c):=by
  intro j c h
  rw [hat] at h
  split at h
  ·
   injection h with h; exact .inl ⟨by assumption,h.symm⟩
  ·
   split at h
   ·
    cases h
   ·
    exact .inr ⟨by assumption,by assumption,h⟩
 have hlk':∀ j x,Blk.look (hp.set id .dead++[.arr true cs']) j=x→x≠.dead→(j=hp.length∧x=.arr true cs')∨(j≠hp.length∧j≠id∧Blk.look hp j=x):=by
  intro j x h hne
  rw [hlk] at h
  split at h
  ·
   exact .inl ⟨by assumption,h.symm⟩
  ·
   split at h
   ·
    exact absurd h.symm hne
   ·
    exact .inr ⟨by assumption,by assumption,h⟩
 have hmof:∀ c,Mof M0 (bs.set id none++[some b]) c→Mof M0 bs c:=by
  rintro c (h | ⟨j,h⟩)
  ·
   exact .inl h
  ·
   rcases hat' j c h with ⟨_,rfl⟩ | ⟨_,_,h⟩
   ·
    exact .inr ⟨id,hb⟩
   ·
    exact .inr ⟨j,h⟩
 have he:Evo (Mof M0 bs) (Mof M0 (bs.set id none++[some b])) w w:=Evo.more w fun c _=>hmof c
 have hst:Step false w (Mof M0 bs) bs hp w (Mof M0 (bs.set id none++[some b])) (bs.set id none++[some b]) (hp.set id .dead++[.arr true cs']):=by
  refine ⟨he,by simp,?_,?_,?_,fun _=>⟨fun _ _ _=>rfl,fun c hc hn j h => ?_,fun j l ys i st h => ?_⟩⟩
  ·
   intro j cs0 h1 h2
   rcases hlk' j _ h2 (by simp) with ⟨_,h⟩ | ⟨n1,n2,h⟩
   ·
    cases h
   ·
    exact ⟨⟨cs0,h⟩,by rw [hat,if_neg n1,if_neg n2]⟩
  ·
   intro j c k u es h1 h2
   have n2:j≠id:=fun e=>by subst e; rw [hl] at h2; cases h2
   have n1:j≠hp.length:=fun e=>by have:j<hp.length:=look_lt (by rw [h2]; simp); omega
   rw [hat,hlk,if_neg n1,if_neg n2,if_neg n1,if_neg n2]
   exact ⟨h1,es,h2⟩
  ·
   intro j al' cs0 hj h
   rcases hlk' j _ h (by simp) with ⟨e,_⟩ | ⟨n1,n2,h⟩
   ·
    omega
   ·
    exact ⟨al',cs0,h,.inr ⟨rfl,by rw [hat,if_neg n1,if_neg n2],fun _=>rfl,fun c hc cap size ho=>ho⟩⟩
  ·
   rcases hat' j c h with ⟨_,rfl⟩ | ⟨_,_,h⟩
   ·
    exact hn id hb
   ·
    exact hn j h
  ·
   rcases hlk' j _ h (by simp) with ⟨_,h⟩ | ⟨_,_,h⟩
   ·
    cases h
   ·
    exact h
 refine ⟨⟨by simp [hlen],hr.m0,fun j c h => ?_,fun i j c h1 h2 => ?_,fun j c h => ?_,?_,?_,?_,?_⟩,hst⟩
 ·
  rcases hat' j c h with ⟨_,rfl⟩ | ⟨_,_,h⟩
  ·
   exact hr.lt id c hb
  ·
   exact hr.lt j c h
 ·
  rcases hat' i c h1 with ⟨e1,e4⟩ | ⟨n1,n2,g1⟩ <;> rcases hat' j _ h2 with ⟨e2,e3⟩ | ⟨m1,m2,g2⟩
  ·
   omega
  ·
   subst e4; exact absurd (hr.inj j id _ g2 hb) m2
  ·
   subst e3; exact absurd (hr.inj i id _ g1 hb) n2
  ·
   exact hr.inj i j _ g1 g2
 ·
  rcases hat' j c h with ⟨_,rfl⟩ | ⟨_,_,h⟩
  ·
   exact hr.out id c hb
  ·
   exact hr.out j c h
 ·
  intro j cs0 h
  rcases hlk' j _ h (by simp) with ⟨e,_⟩ | ⟨n1,n2,h⟩
  ·
   exact ⟨b,by rw [hat,if_pos e]⟩
  ·
   obtain ⟨c,hc⟩:=hr.al j cs0 h
   exact ⟨c,by rw [hat,if_neg n1,if_neg n2]; exact hc⟩
 ·
  intro j cs0 h
  rcases hlk' j _ h (by simp) with ⟨_,h⟩ | ⟨n1,n2,h⟩
  ·
   cases h
  ·
   obtain ⟨c,cur,e,h1,h2,h3,h4⟩:=hr.cells j cs0 h
   refine ⟨c,cur,e,by rw [hat,if_neg n1,if_neg n2]; exact h1,h2,h3,fun i x hi => ?_⟩
   obtain ⟨u,k1,k2,k3⟩:=h4 i x hi
   exact ⟨u,k1,k2,relSV_step hst x u k3⟩
 ·
  intro j al' cs0 c h hc
  rcases hlk' j _ h (by simp) with ⟨e,hx⟩ | ⟨n1,n2,h⟩
  ·
   injection hx with _ hx
   subst hx
   rcases hat' j c hc with ⟨_,rfl⟩ | ⟨n,_,_⟩
   ·
    obtain ⟨cur,e,h2,h4⟩:=hr.arr id true cs c hl hb
    refine ⟨cur,e,h2,fun i x hi => ?_⟩
    obtain ⟨u,k1,k2,k3⟩:=h4 i x (hpre i x hi)
    exact ⟨u,k1,k2,relSV_step hst x u k3⟩
   ·
    exact absurd e n
  ·
   rcases hat' j c hc with ⟨e,_⟩ | ⟨_,_,hc⟩
   ·
    exact absurd e n1
   ·
    obtain ⟨cur,e,h2,h4⟩:=hr.arr j al' cs0 c h hc
    refine ⟨cur,e,h2,fun i x hi => ?_⟩
    obtain ⟨u,k1,k2,k3⟩:=h4 i x hi
    exact ⟨u,k1,k2,relSV_step hst x u k3⟩
 ·
  intro j k v es h
  rcases hlk' j _ h (by simp) with ⟨_,h⟩ | ⟨n1,n2,h⟩
  ·
   cases h
  ·
   obtain ⟨c,ents,clock,h1,h2,h3⟩:=hr.map j k v es h
   exact ⟨c,ents,clock,by rw [hat,if_neg n1,if_neg n2]; exact h1,h2,h3.imp fun x m hm=>⟨hm.1,repV_evo he hm.2⟩⟩
def Goes (w w':World) (b:Nat):Blk→Blk→Prop
 | .cells _,.cells _=>True
 | .arr _ cs0,.arr _ cs=>cs0.length<cs.length∨(cs0.length=cs.length∧∀ cap size,OwnAt w b cap size→OwnAt w' b cap size)
 | .map k v _,.map k' v' _=>k=k'∧v=v'
 | _,_=>False
theorem HR.rewrite (hr:HR w M0 bs hp) {id b:Nat} (hb:bs.at id=some b) {w':World} (he:Evo (Mof M0 bs) (Mof M0 bs) w w') (hs:∀ c,c≠b→c<w.heap.size→w'.heap[c]?=w.heap[c]?)
  {o:Obj} (ho:w'.heap[b]?=some o) (k:Blk) (hk:IsBlk w (Mof M0 bs) bs hp o k) (hgo:Goes w w' b (Blk.look hp id) k) :
  HR w' M0 bs (hp.set id k)∧Step false w (Mof M0 bs) bs hp w' (Mof M0 bs) bs (hp.set id k):=by
 have hid:id<hp.length:=by have:=at_lt hb; have:=hr.len; omega
 have hlk:∀ j,Blk.look (hp.set id k) j=if j=id then k else Blk.look hp j:=fun j=>look_set id k j hid
 have hsame:∀ j c,j≠id→bs.at j=some c→w'.heap[c]?=w.heap[c]?:=fun j c hj hc=>hs c (fun e=>hj (hr.inj j id b (e▸hc) hb)) (hr.lt j c hc)
 have hst:Step false w (Mof M0 bs) bs hp w' (Mof M0 bs) bs (hp.set id k):=by
  refine ⟨he,by simp,?_,?_,?_,fun _=>⟨fun c hc hn=>hs c (fun e=>hn id (e▸hb)) hc,fun c hc hn=>hn,fun j l xs i st h=>by
   rw [hlk] at h
   split at h
   ·
    subst h; exact hk.elim
   ·
    exact h⟩⟩
  ·
   intro j cs h1 h2
   refine ⟨?_,rfl⟩
   rw [hlk] at h2
   split at h2
   ·
    rename_i e; subst e; subst h2
    cases hold:Blk.look hp j with
    | cells cs0=>exact ⟨cs0,rfl⟩
    | _=>rw [hold] at hgo; exact hgo.elim
   ·
    exact ⟨cs,h2⟩
  ·
   intro j c kt u es h1 h2
   refine ⟨h1,?_⟩
   rw [hlk]
   split
   ·
    rename_i e; subst e
    rw [h2] at hgo
    cases k <;> first | exact hgo.elim | skip
    obtain ⟨rfl,rfl⟩:=hgo
    exact ⟨_,rfl⟩
   ·
    exact ⟨es,h2⟩
  ·
   intro j al cs hj hl
   rw [hlk] at hl
   split at hl
   ·
    rename_i e; subst e; subst hl
    cases hold:Blk.look hp j with
    | dead=>rw [hold] at hgo; exact hgo.elim
    | cells c=>rw [hold] at hgo; exact hgo.elim
    | trace l xs i st=>rw [hold] at hgo; exact hgo.elim
    | map k' v' es'=>rw [hold] at hgo; exact hgo.elim
    | arr al0 cs0 =>
     rw [hold] at hgo
     refine ⟨al0,cs0,rfl,?_⟩
     rcases hgo with h | ⟨h1,h2⟩
     ·
      exact .inl h
     ·
      exact .inr ⟨h1,rfl,(fun h=>by rw [hb] at h; cases h),(fun c hc=>by rw [hb] at hc; cases hc; exact h2)⟩
   ·
    rename_i hne
    exact ⟨al,cs,hl,.inr ⟨rfl,rfl,fun _=>rfl,fun c hc cap size ho=>by
     obtain ⟨cur,e,h1,h2⟩:=ho
     exact ⟨cur,e,by rw [hsame j c hne hc]; exact h1,h2⟩⟩⟩
 refine ⟨⟨by simp [hr.len],fun b hb=>Nat.lt_of_lt_of_le (hr.m0 b hb) he.size,fun j c h=>Nat.lt_of_lt_of_le (hr.lt j c h) he.size,hr.inj,hr.out,?_,?_,?_,?_⟩,hst⟩
 ·
  intro j cs hl
  rw [hlk] at hl
  split at hl
  ·
   rename_i e; subst e; exact ⟨b,hb⟩
  ·
   exact hr.al j cs hl
 ·
  intro j cs hl
  rw [hlk] at hl
  split at hl
  ·
   rename_i e; subst e; subst hl
   obtain ⟨cur,e,rfl,h2,h3⟩:=hk
   refine ⟨b,cur,e,hb,ho,h2,fun i x hi => ?_⟩
   obtain ⟨u,k1,k2,k3⟩:=h3 i x hi
   exact ⟨u,k1,k2,relSV_step hst x u k3⟩
  ·
   rename_i hne
   obtain ⟨c,cur,e,h1,h2,h3,h4⟩:=hr.cells j cs hl
   refine ⟨c,cur,e,h1,by rw [hsame j c hne h1]; exact h2,h3,fun i x hi => ?_⟩
   obtain ⟨u,k1,k2,k3⟩:=h4 i x hi
   exact ⟨u,k1,k2,relSV_step hst x u k3⟩
 ·
  intro j al cs c hl hc
  rw [hlk] at hl
  split at hl
  ·
   rename_i e; subst e; subst hl
   rw [hb] at hc; cases hc
   obtain ⟨cur,e,rfl,h3⟩:=hk
   refine ⟨cur,e,ho,fun i x hi => ?_⟩
   obtain ⟨u,k1,k2,k3⟩:=h3 i x hi
   exact ⟨u,k1,k2,relSV_step hst x u k3⟩
  ·
   rename_i hne
   obtain ⟨cur,e,h2,h4⟩:=hr.arr j al cs c hl hc
   refine ⟨cur,e,by rw [hsame j c hne hc]; exact h2,fun i x hi => ?_⟩
   obtain ⟨u,k1,k2,k3⟩:=h4 i x hi
   exact ⟨u,k1,k2,relSV_step hst x u k3⟩
 ·
  intro j kt v es hl
  rw [hlk] at hl
  split at hl
  ·
   rename_i e; subst e; subst hl
   obtain ⟨ents,clock,rfl,h3⟩:=hk
   exact ⟨b,ents,clock,hb,ho,h3.imp fun x m hm=>⟨hm.1,repV_evo he hm.2⟩⟩
  ·
   rename_i hne
   obtain ⟨c,ents,clock,h1,h2,h3⟩:=hr.map j kt v es hl
   exact ⟨c,ents,clock,h1,by rw [hsame j c hne h1]; exact h2,h3.imp fun x m hm=>⟨hm.1,repV_evo he hm.2⟩⟩
theorem Mof_set {id nb:Nat} (hid:id<bs.length) (b:Nat) (h:Mof M0 (bs.set id (some nb)) b):Mof M0 bs b∨b=nb:=by
 rcases h with h | ⟨j,h⟩
 ·
  exact .inl (.inl h)
 ·
  rw [at_set _ _ _ hid] at h
  split at h
  ·
   injection h with h; exact .inr h.symm
  ·
   exact .inl (.inr ⟨j,h⟩)
theorem HR.move (hr:HR w M0 bs hp) {id:Nat} {al0:Bool} {cs0:List SV} (hl0:Blk.look hp id=.arr al0 cs0) (o:Obj) (al:Bool) (cs:List SV) (hlen:cs0.length<cs.length)
  (hk:IsBlk w (Mof M0 bs) bs hp o (.arr al cs)) :
  HR (w.alloc o) M0 (bs.set id (some w.heap.size)) (hp.set id (.arr al cs))∧Step false w (Mof M0 bs) bs hp (w.alloc o) (Mof M0 (bs.set id (some w.heap.size))) (bs.set id (some w.heap.size)) (hp.set id (.arr al cs)):=by
 have hid:id<hp.length:=look_lt (by rw [hl0]; simp)
 have hid':id<bs.length:=by have:=hr.len; omega
 have hlk:∀ j,Blk.look (hp.set id (.arr al cs)) j=if j=id then .arr al cs else Blk.look hp j:=fun j=>look_set id _ j hid
 have hat:∀ j,Bs.at (bs.set id (some w.heap.size)) j=if j=id then some w.heap.size else bs.at j:=fun j=>at_set id _ j hid'
 have he:Evo (Mof M0 bs) (Mof M0 (bs.set id (some w.heap.size))) w (w.alloc o) :=
  ⟨rfl,rfl,rfl,by simp,Nat.le_refl _,fun b hb _=>Below.heap_alloc w o b hb,fun b hb hn hm=>by
   rcases Mof_set hid' b hm with h | h
   ·
    exact hn h
   ·
    omega⟩
 have hst:Step false w (Mof M0 bs) bs hp (w.alloc o) (Mof M0 (bs.set id (some w.heap.size))) (bs.set id (some w.heap.size)) (hp.set id (.arr al cs)):=by
  refine ⟨he,by simp,?_,?_,?_,fun _=>⟨fun b hb _=>Below.heap_alloc w o b hb,fun b hb hn j h=>by
   rw [hat] at h
   split at h
   ·
    injection h with h; omega
   ·
    exact hn j h,fun j l xs i st h=>by
   rw [hlk] at h
   split at h
   ·
    cases h
   ·
    exact h⟩⟩
  ·
   intro j cs' h1 h2
   have hne:j≠id:=fun e=>by subst e; rw [hlk,if_pos rfl] at h2; cases h2
   rw [hlk,if_neg hne] at h2
   rw [hat,if_neg hne]
   exact ⟨⟨cs',h2⟩,rfl⟩
  ·
   intro j c k u es h1 h2
   have hne:j≠id:=fun e=>by subst e; rw [hl0] at h2; cases h2
   rw [hat,hlk,if_neg hne,if_neg hne]
   exact ⟨h1,es,h2⟩
  ·
   intro j al' cs' hj hl
   rw [hlk] at hl
   split at hl
   ·
    rename_i e; subst e; cases hl
    exact ⟨al0,cs0,hl0,.inl hlen⟩
   ·
    rename_i hne
    exact ⟨al',cs',hl,.inr ⟨rfl,by rw [hat,if_neg hne],fun _=>rfl,fun c hc cap size ho=>by
     obtain ⟨cur,e,h1,h2⟩:=ho
     exact ⟨cur,e,by rw [Below.heap_alloc w o c (hr.lt j c hc)]; exact h1,h2⟩⟩⟩
 have hnew:(w.alloc o).heap[w.heap.size]?=some o:=by show (w.heap.push o)[w.heap.size]?=some o; simp
 refine ⟨⟨by simp [hr.len],fun b hb=>Nat.lt_of_lt_of_le (hr.m0 b hb) he.size,?_,?_,?_,?_,?_,?_,?_⟩,hst⟩
 ·
  intro j b h
  rw [hat] at h
  split at h
  ·
   injection h with h; subst h; simp
  ·
   exact Nat.lt_of_lt_of_le (hr.lt j b h) he.size
 ·
  intro i j b h1 h2
  rw [hat] at h1 h2
  split at h1 <;> split at h2
  ·
   omega
  ·
   injection h1 with h1; have:=hr.lt j b h2; omega
  ·
   injection h2 with h2; have:=hr.lt i b h1; omega
  ·
   exact hr.inj i j b h1 h2
 ·
  intro j b h hm
  rw [hat] at h
  split at h
  ·
   injection h with h; have:=hr.m0 b hm; omega
  ·
   exact hr.out j b h hm
 ·
  intro j cs' h
  rw [hlk] at h
  rw [hat]
  split at h
  ·
   rename_i e; exact ⟨_,by rw [if_pos e]⟩
  ·
   rename_i hne
   obtain ⟨b,hb⟩:=hr.al j cs' h
   exact ⟨b,by rw [if_neg hne]; exact hb⟩
 ·
  intro j cs' hl
  rw [hlk] at hl
  split at hl
  ·
   cases hl
  ·
   rename_i hne
   obtain ⟨b,cur,e,h1,h2,h3,h4⟩:=hr.cells j cs' hl
   refine ⟨b,cur,e,by rw [hat,if_neg hne]; exact h1,by rw [Below.heap_alloc w o b (hr.lt j b h1)]; exact h2,h3,fun i x hi => ?_⟩
   obtain ⟨u,k1,k2,k3⟩:=h4 i x hi
   exact ⟨u,k1,k2,relSV_step hst x u k3⟩
 ·
  intro j al' cs' b hl hb
  rw [hlk] at hl
  rw [hat] at hb
  split at hl
  ·
   rename_i e
   cases hl
   rw [if_pos e] at hb
   injection hb with hb
   subst hb
   obtain ⟨cur,e',rfl,h3⟩:=hk
   refine ⟨cur,e',hnew,fun i x hi => ?_⟩
   obtain ⟨u,k1,k2,k3⟩:=h3 i x hi
   exact ⟨u,k1,k2,relSV_step hst x u k3⟩
  ·
   rename_i hne
   rw [if_neg hne] at hb
   obtain ⟨cur,e,h2,h4⟩:=hr.arr j al' cs' b hl hb
   refine ⟨cur,e,by rw [Below.heap_alloc w o b (hr.lt j b hb)]; exact h2,fun i x hi => ?_⟩
   obtain ⟨u,k1,k2,k3⟩:=h4 i x hi
   exact ⟨u,k1,k2,relSV_step hst x u k3⟩
 ·
  intro j k' v es hl
  rw [hlk] at hl
  split at hl
  ·
   cases hl
  ·
   rename_i hne
   obtain ⟨b,ents,clock,h1,h2,h3⟩:=hr.map j k' v es hl
   exact ⟨b,ents,clock,by rw [hat,if_neg hne]; exact h1,by rw [Below.heap_alloc w o b (hr.lt j b h1)]; exact h2,h3.imp fun x m hm=>⟨hm.1,repV_evo he hm.2⟩⟩
end
end Go.Am
