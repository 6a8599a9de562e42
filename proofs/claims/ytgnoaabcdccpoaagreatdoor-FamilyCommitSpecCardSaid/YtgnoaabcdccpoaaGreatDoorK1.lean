/- Part 1 of the proof's base. -/
import Derived.Test.YtgnoaabcdccpoaaGreatDoorRows
import Derived.WalkKit
import Derived.Lib.Hide
import Derived.RangeFuncNested
import Derived.RangeFuncBound
import Derived.RangeFuncCalls
import Derived.RangeFuncLeaves
import Derived.OrdersIn
import Derived.Lib.AppendStr
import Derived.Lib.AppendZerosOnto
import Derived.Lib.ConvBytes
import Derived.TacticsIn
import Derived.Shelf.Abstract
import Derived.RecoverIn
import Derived.Test.YtgnoaabcdccpoaaGreatDoorProg
import Derived.Shelf.SortM.Plain
import Derived.Shelf.SortM.SortNone
import Derived.Shelf.SlSortCmp.NoneTotal
import Derived.Shelf.SlicesG.CompactI
import Derived.Ground.SlgmProg
import Derived.ChangeKeysEq
import Derived.Laws.StructEq
import Derived.ChangeArms
import Derived.DataReads
import Derived.Carry
import Derived.WideKeyArgs
import Derived.ChangeSame
import Derived.OpenShut
import Derived.LaidMore
import Derived.LaidSub
set_option linter.all false
noncomputable section
namespace Go.Am
open Go.RowKit
inductive Ty where
 | int (k:IntKind)
 | bool
 | str
 | slice (t:Ty)
 | nil
 | cons (t r:Ty)
 | fn
 | tree (h:Ty)
 deriving DecidableEq
mutual
inductive D:Ty→Type where
 | int (k:IntKind) (n:Int):D (.int k)
 | bool (b:Bool):D .bool
 | str (s:ByteArray):D .str
 | slice (t:Ty) (xs:DL t):D (.slice t)
 | nil:D .nil
 | cons (t r:Ty) (x:D t) (y:D r):D (.cons t r)
 | nofn:D .fn
 | fn (f:FuncId) (caps:DC):D .fn
 | bnd (f:FuncId) (t:Ty) (x:D t):D .fn
 | node (h:Ty) (x:D h) (l:DL (.tree h)):D (.tree h)
inductive DL:Ty→Type where
 | nil (t:Ty):DL t
 | cons (t:Ty) (x:D t) (l:DL t):DL t
inductive DC:Type where
 | nil:DC
 | cons (t:Ty) (x:D t) (l:DC):DC
end
def DL.to {t:Ty}:DL t→List (D t)
 | .nil _=>[]
 | .cons _ x l=>x::l.to
def DL.of {t:Ty}:List (D t)→DL t
 | []=>.nil t
 | x::l=>.cons t x (DL.of l)
theorem DL.to_of {t:Ty}:∀ l:List (D t),(DL.of l).to=l
 | []=>rfl
 | x::l=>by simp only [DL.of,DL.to,DL.to_of l]
theorem DL.of_to {t:Ty}:∀ l:DL t,DL.of l.to=l
 | .nil _=>rfl
 | .cons _ x l=>by simp only [DL.of,DL.to,DL.of_to l]
def DC.to:DC→List ((t:Ty)×D t)
 | .nil=>[]
 | .cons t x l=>⟨t,x⟩::l.to
def DC.of:List ((t:Ty)×D t)→DC
 | []=>.nil
 | x::l=>.cons x.1 x.2 (DC.of l)
theorem DC.to_of:∀ l:List ((t:Ty)×D t),(DC.of l).to=l
 | []=>rfl
 | x::l=>by simp only [DC.of,DC.to,DC.to_of l]
theorem DC.of_to:∀ l:DC,DC.of l.to=l
 | .nil=>rfl
 | .cons t x l=>by simp only [DC.of,DC.to,DC.of_to l]
@[reducible] def Ty.T:Ty→Type
 | .int _=>Int
 | .bool=>Bool
 | .str=>ByteArray
 | .slice t=>List t.T
 | .nil=>Unit
 | .cons t r=>t.T×r.T
 | .fn=>D .fn
 | .tree h=>D (.tree h)
@[reducible] def Ty.size:Ty→Nat
 | .int _=>1
 | .bool=>1
 | .str=>1
 | .slice _=>1
 | .nil=>0
 | .cons t r=>t.size+r.size
 | .fn=>1
 | .tree h=>h.size+1
def Ty.dfltD:(t:Ty)→D t
 | .int k=>.int k 0
 | .bool=>.bool false
 | .str=>.str ByteArray.empty
 | .slice t=>.slice t (.nil t)
 | .nil=>.nil
 | .cons t r=>.cons t r t.dfltD r.dfltD
 | .fn=>.nofn
 | .tree h=>.node h h.dfltD (.nil _)
@[reducible] def Ty.dflt:(t:Ty)→t.T
 | .int _=>(0:Int)
 | .bool=>false
 | .str=>ByteArray.empty
 | .slice _=>[]
 | .nil=>()
 | .cons t r=>(t.dflt,r.dflt)
 | .fn=>.nofn
 | .tree h=>.node h h.dfltD (.nil _)
def toD:(t:Ty)→t.T→D t
 | .int k,n=>.int k n
 | .bool,b=>.bool b
 | .str,s=>.str s
 | .slice t,xs=>.slice t (DL.of (xs.map (toD t)))
 | .nil,_=>.nil
 | .cons t r,x=>.cons t r (toD t x.1) (toD r x.2)
 | .fn,x=>x
 | .tree _,x=>x
def D.n:{k:IntKind}→D (.int k)→Int | _,.int _ n=>n
def D.b:D .bool→Bool | .bool b=>b
def D.s:D .str→ByteArray | .str s=>s
def D.l:{t:Ty}→D (.slice t)→List (D t) | _,.slice _ l=>l.to
def D.x:{t r:Ty}→D (.cons t r)→D t | _,_,.cons _ _ x _=>x
def D.y:{t r:Ty}→D (.cons t r)→D r | _,_,.cons _ _ _ y=>y
def ofD:(t:Ty)→D t→t.T
 | .int _,d=>d.n
 | .bool,d=>d.b
 | .str,d=>d.s
 | .slice t,d=>d.l.map (ofD t)
 | .nil,_=>()
 | .cons t r,d=>(ofD t d.x,ofD r d.y)
 | .fn,x=>x
 | .tree _,x=>x
theorem ofD_toD:∀ (t:Ty) (x:t.T),ofD t (toD t x)=x
 | .int _,_=>rfl
 | .bool,_=>rfl
 | .str,_=>rfl
 | .slice t,xs=>by
  simp only [toD,ofD,D.l,DL.to_of,List.map_map]
  conv=>rhs; rw [← List.map_id xs]
  exact List.map_congr_left fun x _=>ofD_toD t x
 | .nil,_=>rfl
 | .cons t r,x=>by simp only [toD,ofD,D.x,D.y,ofD_toD t,ofD_toD r]
 | .fn,_=>rfl
 | .tree _,_=>rfl
theorem toD_ofD:∀ (t:Ty) (d:D t),toD t (ofD t d)=d
 | .int _,.int _ _=>rfl
 | .bool,.bool _=>rfl
 | .str,.str _=>rfl
 | .slice t,.slice _ xs=>by
  simp only [toD,ofD,D.l,List.map_map]
  congr 1
  conv=>rhs; rw [← DL.of_to xs,← List.map_id xs.to]
  congr 1
  exact List.map_congr_left fun x _=>toD_ofD t x
 | .nil,.nil=>rfl
 | .cons t r,.cons _ _ x y=>by simp only [toD,ofD,D.x,D.y,toD_ofD t,toD_ofD r]
 | .fn,_=>rfl
 | .tree _,_=>rfl
def D.hdD:{h:Ty}→D (.tree h)→D h | _,.node _ x _=>x
def D.kids:{h:Ty}→D (.tree h)→List (D (.tree h)) | _,.node _ _ l=>l.to
def Ty.hd (h:Ty) (x:D (.tree h)):h.T:=ofD h x.hdD
def Ty.mk (h:Ty) (x:h.T) (l:List (D (.tree h))):D (.tree h):=.node h (toD h x) (DL.of l)
theorem hd_mk (h:Ty) (x:h.T) (l:List (D (.tree h))):h.hd (h.mk x l)=x:=ofD_toD h x
theorem kids_mk (h:Ty) (x:h.T) (l:List (D (.tree h))):(h.mk x l).kids=l:=DL.to_of l
theorem mk_eta (h:Ty):∀ x:D (.tree h),h.mk (h.hd x) x.kids=x
 | .node _ x l=>by simp only [Ty.mk,Ty.hd,D.hdD,D.kids,toD_ofD,DL.of_to]
theorem dfltD_eq:∀ t:Ty,t.dfltD=toD t t.dflt
 | .int _=>rfl
 | .bool=>rfl
 | .str=>rfl
 | .slice _=>rfl
 | .nil=>rfl
 | .cons t r=>by simp only [Ty.dfltD,toD,dfltD_eq t,dfltD_eq r]
 | .fn=>rfl
 | .tree _=>rfl
theorem hd_dflt (h:Ty):h.hd (D.node h h.dfltD (.nil _))=h.dflt:=by rw [Ty.hd,D.hdD,dfltD_eq,ofD_toD]
theorem kids_dflt (h:Ty):(D.node h h.dfltD (.nil _)).kids=[]:=rfl
abbrev dS (c:Sigma Ty.T):(t:Ty)×D t:=⟨c.1,toD c.1 c.2⟩
abbrev sD (c:(t:Ty)×D t):Sigma Ty.T:=⟨c.1,ofD c.1 c.2⟩
theorem sD_dS (c:Sigma Ty.T):sD (dS c)=c:=by simp only [sD,dS,ofD_toD]
def D.parts:D .fn→Option (FuncId×List (Sigma Ty.T))
 | .nofn=>none
 | .fn f caps=>some (f,caps.to.map sD)
 | .bnd _ _ _=>none
def D.bpart:D .fn→Option (FuncId×Sigma Ty.T)
 | .bnd f t x=>some (f,⟨t,ofD t x⟩)
 | _=>none
def D.bndOf (f:FuncId) (c:Sigma Ty.T):D .fn:=.bnd f c.1 (toD c.1 c.2)
theorem D.bpart_bndOf (f:FuncId) (c:Sigma Ty.T):(D.bndOf f c).bpart=some (f,c):=by simp only [D.bndOf,D.bpart,ofD_toD]
theorem D.parts_bndOf (f:FuncId) (c:Sigma Ty.T):(D.bndOf f c).parts=none:=rfl
def bndV (t:Ty) (cs:List Value):Value:=match t with | .cons _ _=>.agg cs.toArray | .tree _=>.agg cs.toArray | _=>cs.headD undef
def D.fnOf (f:FuncId) (caps:List (Sigma Ty.T)):D .fn:=.fn f (DC.of (caps.map dS))
theorem D.parts_fnOf (f:FuncId) (caps:List (Sigma Ty.T)):(D.fnOf f caps).parts=some (f,caps):=by
 simp only [D.fnOf,D.parts,DC.to_of,List.map_map]
 congr 2
 conv=>rhs; rw [← List.map_id caps]
 exact List.map_congr_left fun c _=>sD_dS c
def CellsAt (w:World) (b off:Nat) (cs:List Value):Prop :=
 ∀ j v,cs[j]?=some v→w.cell? ⟨b,off+j,none⟩=some v
def RowAt {α:Type} (w:World) (M:Nat→Prop) (ρ:α→List Value→Prop) (sz:Nat) (a:Option Addr) (xs:List α):Prop :=
 xs=[]∨∃ b off,a=some ⟨b,off,none⟩∧¬ M b∧b<w.heap.size ∧
  ∀ i x,xs[i]?=some x→∃ cs,cs.length=sz∧ρ x cs∧CellsAt w b (off+i*sz) cs
inductive RepD (w:World) (M:Nat→Prop):(t:Ty)→D t→List Value→Prop where
 | int (k n):RepD w M (.int k) (.int k n) [.int k n]
 | bool (b):RepD w M .bool (.bool b) [.bool b]
 | str (s):RepD w M .str (.str s) [.string s]
 | slice (t:Ty) (xs:DL t) (a:Option Addr) (c b off:Nat) (css:Nat→List Value):xs.to.length≤c→c≤maxLen→(xs.to≠[]→a=some ⟨b,off,none⟩∧¬ M b∧b<w.heap.size) →
   (∀ (i:Nat) (x:D t),xs.to[i]?=some x→(css i).length=t.size∧CellsAt w b (off+i*t.size) (css i))→(∀ (i:Nat) (x:D t),xs.to[i]?=some x→RepD w M t x (css i))→RepD w M (.slice t) (.slice t xs) [.slice a xs.to.length c]
 | nil:RepD w M .nil .nil []
 | cons (t r:Ty) (x:D t) (y:D r) (c1 c2:List Value):RepD w M t x c1→RepD w M r y c2→RepD w M (.cons t r) (.cons t r x y) (c1++c2)
 | nofn:RepD w M .fn .nofn [.nilFunc]
 | fn (f:FuncId) (caps:DC) (ps:List Value) (css:Nat→List Value) (bo:Nat→Nat×Nat):ps.length=caps.to.length →
   (∀ (i:Nat) (p:Value),ps[i]?=some p→p=.pointer (some ⟨(bo i).1,(bo i).2,none⟩)∧¬ M (bo i).1∧(bo i).1<w.heap.size∧CellsAt w (bo i).1 (bo i).2 (css i)) →
   (∀ (i:Nat) (c:(t:Ty)×D t),caps.to[i]?=some c→RepD w M c.1 c.2 (css i))→RepD w M .fn (.fn f caps) [.func (.func f) #[] ps.toArray]
 | bnd (f:FuncId) (t:Ty) (x:D t) (cs:List Value):RepD w M t x cs→RepD w M .fn (.bnd f t x) [.func (.func f) #[bndV t cs] #[]]
 | node (h:Ty) (x:D h) (l:DL (.tree h)) (c1 c2:List Value):RepD w M h x c1→RepD w M (.slice (.tree h)) (.slice (.tree h) l) c2→RepD w M (.tree h) (.node h x l) (c1++c2)
def rep (w:World) (M:Nat→Prop):(t:Ty)→t.T→List Value→Prop
 | .int k,n,cs=>cs=[.int k n]
 | .bool,b,cs=>cs=[.bool b]
 | .str,s,cs=>cs=[.string s]
 | .slice t,xs,cs=>∃ a c,cs=[.slice a xs.length c]∧xs.length≤c∧c≤maxLen∧RowAt w M (fun x cs=>rep w M t x cs) t.size a xs
 | .nil,_,cs=>cs=[]
 | .cons t r,x,cs=>∃ c1 c2,cs=c1++c2∧rep w M t x.1 c1∧rep w M r x.2 c2
 | .fn,x,cs=>RepD w M .fn x cs
 | .tree h,x,cs=>RepD w M (.tree h) x cs
theorem RepD.fn_one {w:World} {M:Nat→Prop} {d:D .fn} {cs:List Value} (h:RepD w M .fn d cs):∃ v,cs=[v]∧v.oneCell'=true:=by cases h <;> exact ⟨_,rfl,rfl⟩
theorem rep_toD {w:World} {M:Nat→Prop}:∀ (t:Ty) (x:t.T) (cs:List Value),rep w M t x cs→RepD w M t (toD t x) cs
 | .int k,n,cs,h=>by simp only [rep] at h; subst h; exact .int _ _
 | .bool,b,cs,h=>by simp only [rep] at h; subst h; exact .bool _
 | .str,s,cs,h=>by simp only [rep] at h; subst h; exact .str _
 | .slice t,xs,cs,h=>by
  simp only [rep] at h
  obtain ⟨a,c,rfl,h1,h2,h3⟩:=h
  have hl:(xs.map (toD t)).length=xs.length:=List.length_map ..
  have key:∀ (b off:Nat) (css:Nat→List Value),(xs≠[]→a=some ⟨b,off,none⟩∧¬ M b∧b<w.heap.size)→(∀ (i:Nat) (x:t.T),xs[i]?=some x→(css i).length=t.size∧CellsAt w b (off+i*t.size) (css i)) →
    (∀ (i:Nat) (x:t.T),xs[i]?=some x→rep w M t x (css i))→RepD w M (.slice t) (toD (.slice t) xs) [.slice a xs.length c]:=by
   intro b off css k1 k2 k3
   have:=RepD.slice (w:=w) (M:=M) t (DL.of (xs.map (toD t))) a c b off css (by rw [DL.to_of,hl]; exact h1) h2 (fun hn=>k1 fun he=>hn (by rw [he]; rfl)) (fun i x hx=>by
    rw [DL.to_of,List.getElem?_map] at hx
    cases hi:xs[i]? with
    | none=>rw [hi] at hx; cases hx
    | some y=>exact k2 i y hi) (fun i x hx=>by
    rw [DL.to_of,List.getElem?_map] at hx
    cases hi:xs[i]? with
    | none=>rw [hi] at hx; cases hx
    | some y=>rw [hi] at hx; cases hx; exact rep_toD t y _ (k3 i y hi))
   rw [DL.to_of,hl] at this
   exact this
  rcases h3 with rfl | ⟨b,off,ha,hm,hb,he⟩
  ·
   exact key 0 0 (fun _=>[]) (fun h=>absurd rfl h) (fun i x h=>by simp at h) (fun i x h=>by simp at h)
  ·
   have hc:∃ css:Nat→List Value,∀ (i:Nat) (x:t.T),xs[i]?=some x→(css i).length=t.size∧rep w M t x (css i)∧CellsAt w b (off+i*t.size) (css i) :=
    ⟨fun i=>@dite _ (i<xs.length) (Classical.propDecidable _) (fun h=>Classical.choose (he i xs[i] (List.getElem?_eq_getElem h))) (fun _=>[]),fun i x hx=>by
     have hlt:=(List.getElem?_eq_some_iff.1 hx).1
     have hx':x=xs[i]:=by rw [List.getElem?_eq_getElem hlt] at hx; cases hx; rfl
     subst hx'
     simp only [hlt,dif_pos]
     exact Classical.choose_spec (he i xs[i] (List.getElem?_eq_getElem hlt))⟩
   obtain ⟨css,hcss⟩:=hc
   exact key b off css (fun _=>⟨ha,hm,hb⟩) (fun i x hx=>⟨(hcss i x hx).1,(hcss i x hx).2.2⟩) (fun i x hx=>(hcss i x hx).2.1)
 | .nil,_,cs,h=>by simp only [rep] at h; subst h; exact .nil
 | .cons t r,x,cs,h=>by
  simp only [rep] at h
  obtain ⟨c1,c2,rfl,h1,h2⟩:=h
  exact .cons _ _ _ _ _ _ (rep_toD t _ _ h1) (rep_toD r _ _ h2)
 | .fn,x,cs,h=>by simpa only [rep,toD] using h
 | .tree _,x,cs,h=>by simpa only [rep,toD] using h
theorem rep_ofD {w:World} {M:Nat→Prop}:∀ (t:Ty) (d:D t) (cs:List Value),RepD w M t d cs→rep w M t (ofD t d) cs
 | .int k,d,cs,h=>by cases h; simp only [rep,ofD,D.n]
 | .bool,d,cs,h=>by cases h; simp only [rep,ofD,D.b]
 | .str,d,cs,h=>by cases h; simp only [rep,ofD,D.s]
 | .slice t,d,cs,h=>by
  cases h with
  | slice _ xs a c b off css h1 h2 h3 h4 h5 =>
   have hl:(xs.to.map (ofD t)).length=xs.to.length:=List.length_map ..
   simp only [rep,ofD,D.l]
   refine ⟨a,c,by rw [hl],by rw [hl]; exact h1,h2,?_⟩
   by_cases hn:xs.to=[]
   ·
    left; rw [hn]; rfl
   ·
    right
    obtain ⟨k1,k2,k3⟩:=h3 hn
    refine ⟨b,off,k1,k2,k3,fun i x hx => ?_⟩
    rw [List.getElem?_map] at hx
    cases hi:xs.to[i]? with
    | none=>rw [hi] at hx; cases hx
    | some y =>
     rw [hi] at hx; cases hx
     exact ⟨css i,(h4 i y hi).1,rep_ofD t y _ (h5 i y hi),(h4 i y hi).2⟩
 | .nil,d,cs,h=>by cases h; simp only [rep]
 | .cons t r,d,cs,h=>by
  cases h with
  | cons _ _ x y c1 c2 h1 h2 =>
   simp only [rep,ofD,D.x,D.y]
   exact ⟨c1,c2,rfl,rep_ofD t _ _ h1,rep_ofD r _ _ h2⟩
 | .fn,x,cs,h=>by simpa only [rep,ofD] using h
 | .tree _,x,cs,h=>by simpa only [rep,ofD] using h
theorem map_ofD_tree (h:Ty) (l:List (D (.tree h))):l.map (ofD (.tree h))=l:=by
 conv=>rhs; rw [← List.map_id l]
 exact List.map_congr_left fun _ _=>rfl
theorem map_toD_tree (h:Ty) (l:List (D (.tree h))):l.map (toD (.tree h))=l:=by
 conv=>rhs; rw [← List.map_id l]
 exact List.map_congr_left fun _ _=>rfl
theorem rep_tree {w:World} {M:Nat→Prop} {h:Ty} {x:D (.tree h)} {cs:List Value}:rep w M (.tree h) x cs↔∃ c1 c2,cs=c1++c2∧rep w M h (h.hd x) c1∧rep w M (.slice (.tree h)) x.kids c2:=by
 constructor
 ·
  intro k
  simp only [rep] at k
  cases k with
  | node _ x l c1 c2 k1 k2 =>
   have h2:=rep_ofD (.slice (.tree h)) _ _ k2
   rw [show ofD (.slice (.tree h)) (.slice (.tree h) l)=l.to from map_ofD_tree h l.to] at h2
   exact ⟨c1,c2,rfl,rep_ofD h _ _ k1,h2⟩
 ·
  rintro ⟨c1,c2,rfl,k1,k2⟩
  have h1:=rep_toD h _ _ k1
  have h2:=rep_toD (.slice (.tree h)) _ _ k2
  rw [show toD (.slice (.tree h)) x.kids=.slice (.tree h) (DL.of x.kids) from congrArg (fun l=>D.slice (.tree h) (DL.of l)) (map_toD_tree h x.kids)] at h2
  have:=RepD.node h _ _ _ _ h1 h2
  show RepD w M (.tree h) x (c1++c2)
  rw [← mk_eta h x]
  exact this
theorem rep_length {w:World} {M:Nat→Prop}:∀ (t:Ty) (x:t.T) (cs:List Value),rep w M t x cs→cs.length=t.size
 | .int k,n,cs,h=>by simp only [rep] at h; subst h; rfl
 | .bool,b,cs,h=>by simp only [rep] at h; subst h; rfl
 | .str,s,cs,h=>by simp only [rep] at h; subst h; rfl
 | .slice t,xs,cs,h=>by simp only [rep] at h; obtain ⟨a,c,rfl,_⟩:=h; rfl
 | .nil,_,cs,h=>by simp only [rep] at h; subst h; rfl
 | .cons t r,x,cs,h=>by
  simp only [rep] at h
  obtain ⟨c1,c2,rfl,h1,h2⟩:=h
  simp [rep_length t _ _ h1,rep_length r _ _ h2]
 | .fn,x,cs,h=>by
  simp only [rep] at h
  obtain ⟨v,rfl,_⟩:=h.fn_one
  rfl
 | .tree t,x,cs,h=>by
  obtain ⟨c1,c2,rfl,h1,h2⟩:=rep_tree.1 h
  simp only [rep] at h2
  obtain ⟨a,c,rfl,_⟩:=h2
  simp [rep_length t _ _ h1]
structure Evo (M M':Nat→Prop) (w w':World):Prop where
 os:w'.os=w.os
 tape:w'.tape=w.tape
 output:w'.output=w.output
 size:w.heap.size≤w'.heap.size
 drawn:w.drawn≤w'.drawn
 block:∀ b,b<w.heap.size→¬ M b→w'.heap[b]?=w.heap[b]?
 free:∀ b,b<w.heap.size→¬ M b→¬ M' b
theorem Evo.refl (M:Nat→Prop) (w:World):Evo M M w w:=⟨rfl,rfl,rfl,Nat.le_refl _,Nat.le_refl _,fun _ _ _=>rfl,fun _ _ h=>h⟩
theorem Evo.trans {M1 M2 M3:Nat→Prop} {a b c:World} (h:Evo M1 M2 a b) (k:Evo M2 M3 b c):Evo M1 M3 a c :=
  ⟨k.os.trans h.os,k.tape.trans h.tape,k.output.trans h.output,Nat.le_trans h.size k.size,Nat.le_trans h.drawn k.drawn,
   fun i hi hm=>(k.block i (Nat.lt_of_lt_of_le hi h.size) (h.free i hi hm)).trans (h.block i hi hm),
   fun i hi hm=>k.free i (Nat.lt_of_lt_of_le hi h.size) (h.free i hi hm)⟩
theorem CellsAt.evo {w w':World} {M M':Nat→Prop} (h:Evo M M' w w') {b off:Nat} {cs:List Value} (hb:b<w.heap.size) (hm:¬ M b) (hc:CellsAt w b off cs):CellsAt w' b off cs:=by
 intro j v hj
 have h1:=hc j v hj
 rw [← h1]
 exact World.cell?_of_block (w:=w) (h.block b hb hm)
theorem RepD.evo {w w':World} {M M':Nat→Prop} (h:Evo M M' w w') {t:Ty} {d:D t} {cs:List Value} (hr:RepD w M t d cs):RepD w' M' t d cs:=by
 induction hr with
 | int k n=>exact .int _ _
 | bool b=>exact .bool _
 | str s=>exact .str _
 | slice t xs a c b off css h1 h2 h3 h4 h5 ih =>
  refine .slice t xs a c b off css h1 h2 (fun hn => ?_) (fun i x hx=>⟨(h4 i x hx).1,?_⟩) ih
  ·
   obtain ⟨k1,k2,k3⟩:=h3 hn
   exact ⟨k1,h.free b k3 k2,Nat.lt_of_lt_of_le k3 h.size⟩
  ·
   obtain ⟨k1,k2,k3⟩:=h3 (by intro e; rw [e] at hx; simp at hx)
   exact (h4 i x hx).2.evo h k3 k2
 | nil=>exact .nil
 | cons t r x y c1 c2 _ _ ih1 ih2=>exact .cons _ _ _ _ _ _ ih1 ih2
 | nofn=>exact .nofn
 | fn f caps ps css bo h1 h2 h3 ih =>
  refine .fn f caps ps css bo h1 (fun i p hp => ?_) ih
  obtain ⟨k1,k2,k3,k4⟩:=h2 i p hp
  exact ⟨k1,h.free _ k3 k2,Nat.lt_of_lt_of_le k3 h.size,k4.evo h k3 k2⟩
 | bnd f t x cs _ ih=>exact .bnd f t x cs ih
 | node h x l c1 c2 _ _ ih1 ih2=>exact .node h x l c1 c2 ih1 ih2
theorem rep_evo {w w':World} {M M':Nat→Prop} (h:Evo M M' w w'):∀ (t:Ty) (x:t.T) (cs:List Value),rep w M t x cs→rep w' M' t x cs
 | .int k,n,cs,hr=>by simpa only [rep] using hr
 | .bool,b,cs,hr=>by simpa only [rep] using hr
 | .str,s,cs,hr=>by simpa only [rep] using hr
 | .slice t,xs,cs,hr=>by
  simp only [rep] at hr ⊢
  obtain ⟨a,c,rfl,h1,h2,h3⟩:=hr
  refine ⟨a,c,rfl,h1,h2,?_⟩
  rcases h3 with h3 | ⟨b,off,ha,hm,hb,he⟩
  ·
   exact .inl h3
  ·
   refine .inr ⟨b,off,ha,h.free b hb hm,Nat.lt_of_lt_of_le hb h.size,fun i x hi => ?_⟩
   obtain ⟨cs,hl,hx,hc⟩:=he i x hi
   exact ⟨cs,hl,rep_evo h t x cs hx,hc.evo h hb hm⟩
 | .nil,_,cs,hr=>by simpa only [rep] using hr
 | .cons t r,x,cs,hr=>by
  simp only [rep] at hr ⊢
  obtain ⟨c1,c2,rfl,h1,h2⟩:=hr
  exact ⟨c1,c2,rfl,rep_evo h t _ _ h1,rep_evo h r _ _ h2⟩
 | .fn,x,cs,hr=>by
  simp only [rep] at hr ⊢
  exact hr.evo h
 | .tree _,x,cs,hr=>by
  simp only [rep] at hr ⊢
  exact hr.evo h
def Ty.isAgg:Ty→Bool
 | .nil=>true
 | .cons _ _=>true
 | .tree _=>true
 | _=>false
def unitV (t:Ty) (cs:List Value):Value:=if t.isAgg then .agg cs.toArray else cs.headD undef
def repV (w:World) (M:Nat→Prop) (t:Ty) (x:t.T) (v:Value):Prop:=∃ cs,v=unitV t cs∧rep w M t x cs
theorem repV_evo {w w':World} {M M':Nat→Prop} (h:Evo M M' w w') {t:Ty} {x:t.T} {v:Value} (hr:repV w M t x v):repV w' M' t x v:=by
 obtain ⟨cs,h1,h2⟩:=hr
 exact ⟨cs,h1,rep_evo h _ _ _ h2⟩
def Ty.keyOk:Ty→Bool
 | .int _=>true
 | .str=>true
 | .bool=>true
 | _=>false
def kval:(t:Ty)→t.T→Value
 | .int k,n=>.int k n
 | .str,s=>.string s
 | .bool,b=>.bool b
 | _,_=>undef
theorem RowAt.evo {t:Ty} {w w':World} {M M':Nat→Prop} (h:Evo M M' w w') {a:Option Addr} {xs:List t.T} (hr:RowAt w M (rep w M t) t.size a xs):RowAt w' M' (rep w' M' t) t.size a xs:=by
 rcases hr with h3 | ⟨b,off,ha,hm,hb,he⟩
 ·
  exact .inl h3
 ·
  refine .inr ⟨b,off,ha,h.free b hb hm,Nat.lt_of_lt_of_le hb h.size,fun i x hi => ?_⟩
  obtain ⟨cs,hl,hx,hc⟩:=he i x hi
  exact ⟨cs,hl,rep_evo h t x cs hx,hc.evo h hb hm⟩
theorem Evo.alloc (M:Nat→Prop) (w:World) (o:Obj):Evo M M w (w.alloc o) :=
 ⟨rfl,rfl,rfl,by simp,Nat.le_refl _,fun b hb _=>Below.heap_alloc w o b hb,fun _ _ h=>h⟩
theorem Evo.drew (M:Nat→Prop) (w:World):Evo M M w { w with drawn:=w.drawn+1 }:=⟨rfl,rfl,rfl,Nat.le_refl _,Nat.le_succ _,fun _ _ _=>rfl,fun _ _ h=>h⟩
theorem Evo.more {M M':Nat→Prop} (w:World) (h:∀ b,b<w.heap.size→M' b→M b):Evo M M' w w :=
 ⟨rfl,rfl,rfl,Nat.le_refl _,Nat.le_refl _,fun _ _ _=>rfl,fun b hb hn hm=>hn (h b hb hm)⟩
inductive SV where
 | any
 | bool (b:Bool)
 | int (k:IntKind) (n:Int)
 | str (s:ByteArray)
 | val (v:Value)
 | sl (t:Ty) (xs:List t.T) (ex:Bool)
 | eptr (t:Ty) (x:t.T)
 | box (id off:Nat)
 | own (t:Ty) (id n:Nat)
 | eown (t:Ty) (id n off:Nat)
 | pre (t:Ty) (id n m:Nat)
 | suf (t:Ty) (id n k:Nat)
 | fn (f:FuncId) (caps:List Nat)
 | fnp (f:FuncId) (caps:List (Sigma Ty.T))
 | mp (id:Nat)
 | ib (p q:Prop)
 | fv (x:D .fn)
 | part (t:Ty) (id off n cap:Nat)
 | bbx (f:FuncId) (id off:Nat)
inductive AV where
 | s (v:SV)
 | agg (cs:List SV)
inductive RV where
 | v (x:AV)
 | tup (xs:List AV)
structure SL where
 ok:Bool
 v:RV
inductive Blk where
 | dead
 | cells (cs:List SV)
 | arr (al:Bool) (cs:List SV)
 | map (k v:Ty) (es:List (k.T×v.T))
 | trace (l:Nat) (xs:List (List AV)) (i:Nat) (st:Bool)
def Ty.flat:(t:Ty)→t.T→List SV
 | .int k,n=>[.int k n]
 | .bool,b=>[.bool b]
 | .str,s=>[.str s]
 | .slice t,xs=>[.sl t xs false]
 | .nil,_=>[]
 | .cons t r,x=>t.flat x.1++r.flat x.2
 | .fn,x=>[.fv x]
 | .tree h,x=>h.flat (h.hd x)++[.sl (.tree h) x.kids false]
def Ty.flats (t:Ty):List t.T→List SV
 | []=>[]
 | x::l=>t.flat x++t.flats l
def Ty.parse:(t:Ty)→List SV→Option (t.T×List SV)
 | .int k,.int k' n::r=>if k=k' then some (n,r) else none
 | .bool,.bool b::r=>some (b,r)
 | .str,.str s::r=>some (s,r)
 | .slice t,.sl t' xs _::r=>if h:t'=t then some (h▸xs,r) else none
 | .nil,r=>some ((),r)
 | .cons t u,l=>match t.parse l with
  | some (x,l')=>match u.parse l' with
   | some (y,l'')=>some ((x,y),l'')
   | none=>none
  | none=>none
 | .fn,.fv x::r=>some (x,r)
 | .fn,.fn f []::r=>some (D.fnOf f [],r)
 | .fn,.fnp f caps::r=>some (D.fnOf f caps,r)
 | .fn,.val .nilFunc::r=>some (D.nofn,r)
 | .tree t,l=>match t.parse l with
  | some (x,.sl t' xs _::r)=>if h:t'=.tree t then some (t.mk x (show List (Ty.T (.tree t)) from h▸xs),r) else none
  | _=>none
 | _,_=>none
@[reducible] def Ty.fld:Ty→Nat→Ty
 | .cons t _,0=>t
 | .cons _ r,f+1=>r.fld f
 | _,_=>.nil
def Ty.get:(t:Ty)→t.T→(f:Nat)→(t.fld f).T
 | .cons _ _,x,0=>x.1
 | .cons _ r,x,f+1=>r.get x.2 f
 | .int _,_,_=>()
 | .bool,_,_=>()
 | .str,_,_=>()
 | .slice _,_,_=>()
 | .nil,_,_=>()
 | .fn,_,_=>()
 | .tree _,_,_=>()
def Ty.off:Ty→Nat→Nat
 | .cons _ _,0=>0
 | .cons t r,f+1=>t.size+r.off f
 | _,_=>0
def Ty.nfld:Ty→Nat
 | .cons _ r=>r.nfld+1
 | .tree _=>1
 | _=>0
theorem rep_pair {w:World} {M:Nat→Prop} {t u:Ty} {x:t.T} {y:u.T} {c1 c2:List Value} (h:rep w M t x c1) (k:rep w M u y c2):rep w M (.cons t (.cons u .nil)) (x,y,()) (c1++c2):=by
 simp only [rep]
 exact ⟨c1,c2,rfl,h,c2,[],by simp,k,rfl⟩
@[reducible] def Ty.snoc:Ty→Ty→Ty
 | .cons t r,u=>.cons t (r.snoc u)
 | .nil,u=>.cons u .nil
 | .int k,u=>.cons (.int k) (.cons u .nil)
 | .bool,u=>.cons .bool (.cons u .nil)
 | .str,u=>.cons .str (.cons u .nil)
 | .slice t,u=>.cons (.slice t) (.cons u .nil)
 | .fn,u=>.cons .fn (.cons u .nil)
 | .tree h,u=>.cons (.tree h) (.cons u .nil)
def Ty.snocV:(t u:Ty)→t.T→u.T→(t.snoc u).T
 | .cons t r,u,x,y=>(x.1,r.snocV u x.2 y)
 | .nil,_,_,y=>(y,())
 | .int _,_,x,y=>(x,y,())
 | .bool,_,x,y=>(x,y,())
 | .str,_,x,y=>(x,y,())
 | .slice _,_,x,y=>(x,y,())
 | .fn,_,x,y=>(x,y,())
 | .tree _,_,x,y=>(x,y,())
theorem rep_snoc {w:World} {M:Nat→Prop}:∀ (t u:Ty) (x:t.T) (y:u.T) (c1 c2:List Value),rep w M t x c1→rep w M u y c2→rep w M (t.snoc u) (t.snocV u x y) (c1++c2)
 | .cons t r,u,x,y,cs,c3,h,k=>by
  simp only [rep] at h
  obtain ⟨c1,c2,rfl,h1,h2⟩:=h
  simp only [Ty.snoc,Ty.snocV,rep]
  exact ⟨c1,c2++c3,by simp,h1,rep_snoc r u x.2 y c2 c3 h2 k⟩
 | .nil,u,x,y,c1,c2,h,k=>by
  simp only [rep] at h
  subst h
  simp only [Ty.snoc,Ty.snocV,rep]
  exact ⟨c2,[],by simp,k,rfl⟩
 | .int _,u,x,y,c1,c2,h,k=>by
  simp only [Ty.snoc,Ty.snocV]
  exact rep_pair h k
 | .bool,u,x,y,c1,c2,h,k=>by
  simp only [Ty.snoc,Ty.snocV]
  exact rep_pair h k
 | .str,u,x,y,c1,c2,h,k=>by
  simp only [Ty.snoc,Ty.snocV]
  exact rep_pair h k
 | .slice _,u,x,y,c1,c2,h,k=>by
  simp only [Ty.snoc,Ty.snocV]
  exact rep_pair h k
 | .fn,u,x,y,c1,c2,h,k=>by
  simp only [Ty.snoc,Ty.snocV]
  exact rep_pair h k
 | .tree _,u,x,y,c1,c2,h,k=>by
  simp only [Ty.snoc,Ty.snocV]
  exact rep_pair h k
@[reducible] def Ty.un:Ty→Ty
 | .tree h=>h.snoc (.slice (.tree h))
 | .int k=>.int k
 | .bool=>.bool
 | .str=>.str
 | .slice t=>.slice t
 | .nil=>.nil
 | .cons t r=>.cons t r
 | .fn=>.fn
def Ty.unv:(t:Ty)→t.T→t.un.T
 | .tree h,x=>h.snocV (.slice (.tree h)) (h.hd x) x.kids
 | .int _,x=>x
 | .bool,x=>x
 | .str,x=>x
 | .slice _,x=>x
 | .nil,x=>x
 | .cons _ _,x=>x
 | .fn,x=>x
theorem rep_un {w:World} {M:Nat→Prop}:∀ (t:Ty) (x:t.T) (cs:List Value),rep w M t x cs→rep w M t.un (t.unv x) cs
 | .tree h,x,cs,k=>by
  obtain ⟨c1,c2,rfl,h1,h2⟩:=rep_tree.1 k
  exact rep_snoc h (.slice (.tree h)) _ _ _ _ h1 h2
 | .int _,_,_,k=>k
 | .bool,_,_,k=>k
 | .str,_,_,k=>k
 | .slice _,_,_,k=>k
 | .nil,_,_,k=>k
 | .cons _ _,_,_,k=>k
 | .fn,_,_,k=>k
inductive All2 {α β:Type} (R:α→β→Prop):List α→List β→Prop
 | nil:All2 R [] []
 | cons {a b l m}:R a b→All2 R l m→All2 R (a::l) (b::m)
section
variable {α β:Type} {R S:α→β→Prop}
theorem All2.imp {l:List α} {m:List β} (h:∀ a b,R a b→S a b) (k:All2 R l m):All2 S l m:=by
 induction k with
 | nil=>exact .nil
 | cons r _ ih=>exact .cons (h _ _ r) ih
theorem All2.length {l:List α} {m:List β} (k:All2 R l m):l.length=m.length:=by
 induction k with
 | nil=>rfl
 | cons _ _ ih=>simp [ih]
theorem All2.get {l:List α} {m:List β} (k:All2 R l m):∀ (i:Nat) (a:α),l[i]?=some a→∃ b,m[i]?=some b∧R a b:=by
 induction k with
 | nil=>intro i a h; simp at h
 | cons r _ ih =>
  intro i a h
  cases i with
  | zero=>simp at h; subst h; exact ⟨_,rfl,r⟩
  | succ i=>simpa using ih i a (by simpa using h)
theorem All2.append {l l':List α} {m m':List β} (k:All2 R l m) (k':All2 R l' m'):All2 R (l++l') (m++m'):=by
 induction k with
 | nil=>exact k'
 | cons r _ ih=>exact .cons r ih
theorem All2.split {l l':List α}:∀ {m:List β},All2 R (l++l') m→∃ m1 m2,m=m1++m2∧All2 R l m1∧All2 R l' m2:=by
 induction l with
 | nil=>intro m h; exact ⟨[],m,rfl,.nil,h⟩
 | cons a l ih =>
  intro m h
  cases h with
  | cons r h=>obtain ⟨m1,m2,rfl,h1,h2⟩:=ih h; exact ⟨_::m1,m2,rfl,.cons r h1,h2⟩
theorem All2.of_get:∀ {l:List α} {m:List β},l.length=m.length→(∀ (i:Nat) (a:α) (b:β),l[i]?=some a→m[i]?=some b→R a b)→All2 R l m
 | [],[],_,_=>.nil
 | [],_::_,h,_=>by simp at h
 | _::_,[],h,_=>by simp at h
 | a::l,b::m,h,k=>.cons (k 0 a b rfl rfl) (All2.of_get (by simpa using h) fun i x y hx hy=>k (i+1) x y (by simpa using hx) (by simpa using hy))
end
abbrev Bs:=List (Option Nat)
def Bs.at (bs:Bs) (id:Nat):Option Nat:=(bs[id]?).bind fun x=>x
def Blk.look (hp:List Blk) (id:Nat):Blk:=(hp[id]?).getD .dead
def Mof (M0:Nat→Prop) (bs:Bs) (b:Nat):Prop:=M0 b∨∃ id,bs.at id=some b
def OwnAt (w:World) (b cap size:Nat):Prop:=∃ cur e,w.heap[b]?=some (.cells cur e (0,0))∧cur.size=cap*size∧cap≤maxLen
def FrozenAt (w:World) (M:Nat→Prop) (c:Sigma Ty.T) (p:Value):Prop :=
 ∃ b off cs,p=.pointer (some ⟨b,off,none⟩)∧¬ M b∧b<w.heap.size∧rep w M c.1 c.2 cs∧CellsAt w b off cs
theorem repD_fnOf {w:World} {M:Nat→Prop} (f:FuncId) {caps:List (Sigma Ty.T)} {ps:List Value} (h:All2 (FrozenAt w M) caps ps):RepD w M .fn (D.fnOf f caps) [.func (.func f) #[] ps.toArray]:=by
 have hl:=h.length
 have hc:∃ (css:Nat→List Value) (bo:Nat→Nat×Nat),∀ (i:Nat) (c:Sigma Ty.T) (p:Value),caps[i]?=some c→ps[i]?=some p →
   p=.pointer (some ⟨(bo i).1,(bo i).2,none⟩)∧¬ M (bo i).1∧(bo i).1<w.heap.size∧rep w M c.1 c.2 (css i)∧CellsAt w (bo i).1 (bo i).2 (css i):=by
  clear hl
  induction h with
  | nil=>exact ⟨fun _=>[],fun _=>(0,0),fun i c p h=>by simp at h⟩
  | cons r _ ih =>
   obtain ⟨css,bo,hh⟩:=ih
   obtain ⟨b,off,cs,h1,h2,h3,h4,h5⟩:=r
   refine ⟨fun i=>match i with | 0=>cs | i+1=>css i,fun i=>match i with | 0=>(b,off) | i+1=>bo i,fun i c p hc hp => ?_⟩
   cases i with
   | zero=>simp at hc hp; subst hc; subst hp; exact ⟨h1,h2,h3,h4,h5⟩
   | succ i=>exact hh i c p (by simpa using hc) (by simpa using hp)
 obtain ⟨css,bo,hh⟩:=hc
 have hto:(DC.of (caps.map dS)).to=caps.map dS:=DC.to_of _
 refine .fn f _ ps css bo (by rw [hto,List.length_map]; exact hl.symm) (fun i p hp => ?_) (fun i c hc => ?_)
 ·
  have hi:=(List.getElem?_eq_some_iff.1 hp).1
  obtain ⟨k1,k2,k3,_,k5⟩:=hh i caps[i] p (List.getElem?_eq_getElem (by omega)) hp
  exact ⟨k1,k2,k3,k5⟩
 ·
  rw [hto,List.getElem?_map] at hc
  cases hi:caps[i]? with
  | none=>rw [hi] at hc; cases hc
  | some y =>
   rw [hi] at hc; cases hc
   have hlt:=(List.getElem?_eq_some_iff.1 hi).1
   obtain ⟨_,_,_,k4,_⟩:=hh i y ps[i] hi (List.getElem?_eq_getElem (by omega))
   exact rep_toD _ _ _ k4
theorem repD_parts {w:World} {M:Nat→Prop} {x:D .fn} {v:Value} {f:FuncId} {caps:List (Sigma Ty.T)} (h:RepD w M .fn x [v]) (hp:x.parts=some (f,caps)):∃ ps:List Value,v=.func (.func f) #[] ps.toArray∧All2 (FrozenAt w M) caps ps:=by
 cases h with
 | nofn=>simp [D.parts] at hp
 | bnd=>simp [D.parts] at hp
 | fn f' caps' ps css bo h1 h2 h3 =>
  simp only [D.parts,Option.some.injEq,Prod.mk.injEq] at hp
  obtain ⟨rfl,rfl⟩:=hp
  refine ⟨ps,rfl,All2.of_get (by rw [List.length_map,h1]) fun i c p hc hp => ?_⟩
  rw [List.getElem?_map] at hc
  cases hi:caps'.to[i]? with
  | none=>rw [hi] at hc; cases hc
  | some y =>
   rw [hi] at hc; cases hc
   obtain ⟨k1,k2,k3,k4⟩:=h2 i p hp
   exact ⟨_,_,_,k1,k2,k3,rep_ofD _ _ _ (h3 i y hi),k4⟩
theorem repD_bndOf {w:World} {M:Nat→Prop} (f:FuncId) {c:Sigma Ty.T} {cs:List Value} (h:rep w M c.1 c.2 cs):RepD w M .fn (D.bndOf f c) [.func (.func f) #[bndV c.1 cs] #[]]:=.bnd _ _ _ _ (rep_toD _ _ _ h)
theorem repD_bpart {w:World} {M:Nat→Prop} {x:D .fn} {v:Value} {f:FuncId} {c:Sigma Ty.T} (h:RepD w M .fn x [v]) (hp:x.bpart=some (f,c)):∃ cs:List Value,v=.func (.func f) #[bndV c.1 cs] #[]∧rep w M c.1 c.2 cs:=by
 cases h with
 | nofn=>simp [D.bpart] at hp
 | fn f' caps' ps css bo h1 h2 h3=>simp [D.bpart] at hp
 | bnd f' t x cs h1 =>
  simp only [D.bpart,Option.some.injEq,Prod.mk.injEq] at hp
  obtain ⟨rfl,rfl⟩:=hp
  exact ⟨cs,rfl,rep_ofD _ _ _ h1⟩
theorem FrozenAt.evo {w w':World} {M M':Nat→Prop} (h:Evo M M' w w') {c:Sigma Ty.T} {p:Value} (k:FrozenAt w M c p):FrozenAt w' M' c p:=by
 obtain ⟨b,off,cs,h1,h2,h3,h4,h5⟩:=k
 exact ⟨b,off,cs,h1,h.free b h3 h2,Nat.lt_of_lt_of_le h3 h.size,rep_evo h _ _ _ h4,h5.evo h h3 h2⟩
def relSV (w:World) (M:Nat→Prop) (bs:Bs) (hp:List Blk):SV→Value→Prop
 | .any,_=>True
 | .bool b,v=>v=.bool b
 | .int k n,v=>v=.int k n
 | .str s,v=>v=.string s
 | .val x,v=>v=x
 | .sl t xs ex,v=>∃ a c,v=.slice a xs.length c∧xs.length≤c∧c≤maxLen∧(ex=true→c=xs.length)∧RowAt w M (fun x cs=>rep w M t x cs) t.size a xs
 | .eptr t x,v=>∃ b off cs,v=.pointer (some ⟨b,off,none⟩)∧¬ M b∧b<w.heap.size∧rep w M t x cs∧CellsAt w b off cs
 | .box id off,v=>id<hp.length∧∀ cs,Blk.look hp id=.cells cs→∃ b,bs.at id=some b∧v=.pointer (some ⟨b,off,none⟩)
 | .own t id n,v=>id<hp.length∧∀ al cs,Blk.look hp id=.arr al cs→n*t.size≤cs.length∧(cs.length=n*t.size →
   (∃ b cap,bs.at id=some b∧v=.slice (some ⟨b,0,none⟩) n cap∧n≤cap∧OwnAt w b cap t.size) ∨
   (bs.at id=none∧∃ (xs:List t.T) (a:Option Addr),xs.length=n∧n≤maxLen∧cs=t.flats xs∧v=.slice a n n∧RowAt w M (fun x cs=>rep w M t x cs) t.size a xs))
 | .eown t id n off,v=>id<hp.length∧∀ al cs,Blk.look hp id=.arr al cs→n*t.size≤cs.length∧(cs.length=n*t.size→∃ b,bs.at id=some b∧v=.pointer (some ⟨b,off,none⟩))
 | .pre t id n m,v=>id<hp.length∧m≤n∧∀ al cs,Blk.look hp id=.arr al cs→n*t.size≤cs.length∧(cs.length=n*t.size→∃ b cap,bs.at id=some b∧v=.slice (some ⟨b,0,none⟩) m cap∧n≤cap∧OwnAt w b cap t.size)
 | .suf t id n k,v=>id<hp.length∧k≤n∧∀ al cs,Blk.look hp id=.arr al cs→n*t.size≤cs.length∧(cs.length=n*t.size→∃ b cap a,bs.at id=some b∧v=.slice a (n - k) (cap - k)∧(k<n→a=some ⟨b,k*t.size,none⟩)∧n≤cap∧OwnAt w b cap t.size)
 | .fn f caps,v=>∃ ps,v=.func (.func f) #[] (ps.map fun b=>.pointer (some ⟨b,0,none⟩)).toArray∧All2 (fun id b=>id<hp.length∧∀ cs,Blk.look hp id=.cells cs→bs.at id=some b) caps ps
 | .fnp f caps,v=>∃ ps,v=.func (.func f) #[] ps.toArray∧All2 (FrozenAt w M) caps ps
 | .mp id,v=>∃ b k u es,bs.at id=some b∧Blk.look hp id=.map k u es∧v=.map (some b)
 | .ib p q,v=>∃ b,v=.bool b∧(b=true→p)∧(b=false→q)
 | .fv x,v=>RepD w M .fn x [v]
 | .part t id off n cap,v=>id<hp.length∧n≤cap∧cap≤maxLen∧∃ a,v=.slice a n cap∧∀ cs,Blk.look hp id=.cells cs→∃ b,bs.at id=some b∧(0<cap→a=some ⟨b,off,none⟩)
 | .bbx f id off,v=>id<hp.length∧∃ p,v=.func (.func f) #[p] #[]∧∀ cs,Blk.look hp id=.cells cs→∃ b,bs.at id=some b∧p=.pointer (some ⟨b,off,none⟩)
def relAV (w:World) (M:Nat→Prop) (bs:Bs) (hp:List Blk):AV→Value→Prop
 | .s x,v=>relSV w M bs hp x v
 | .agg cs,v=>∃ vs,v=.agg vs.toArray∧All2 (fun x u=>relSV w M bs hp x u∧u.oneCell'=true) cs vs
def relRV (w:World) (M:Nat→Prop) (bs:Bs) (hp:List Blk):RV→Value→Prop
 | .v x,v=>relAV w M bs hp x v
 | .tup xs,v=>∃ vs,v=.tuple vs.toArray∧All2 (relAV w M bs hp) xs vs
def relSL (w:World) (M:Nat→Prop) (bs:Bs) (hp:List Blk) (x:SL) (v:Value):Prop :=
 (x.ok=true→relRV w M bs hp x.v v)∧(x.ok=false→v=undef)
structure Only (w:World) (bs:Bs) (hp:List Blk) (w':World) (bs':Bs) (hp':List Blk):Prop where
 old:∀ b,b<w.heap.size→(∀ id,bs.at id≠some b)→w'.heap[b]?=w.heap[b]?
 new:∀ b,b<w.heap.size→(∀ id,bs.at id≠some b)→∀ id,bs'.at id≠some b
 tr:∀ id l xs i st,Blk.look hp' id=.trace l xs i st→Blk.look hp id=.trace l xs i st
theorem Only.refl (w:World) (bs:Bs) (hp:List Blk):Only w bs hp w bs hp:=⟨fun _ _ _=>rfl,fun _ _ h=>h,fun _ _ _ _ _ h=>h⟩
theorem Only.trans {w w' w'':World} {bs bs' bs'':Bs} {hp hp' hp'':List Blk} (h:Only w bs hp w' bs' hp') (hs:w.heap.size≤w'.heap.size) (k:Only w' bs' hp' w'' bs'' hp''):Only w bs hp w'' bs'' hp'' :=
 ⟨fun b hb hn=>(k.old b (Nat.lt_of_lt_of_le hb hs) (h.new b hb hn)).trans (h.old b hb hn),fun b hb hn=>k.new b (Nat.lt_of_lt_of_le hb hs) (h.new b hb hn),fun id l xs i st ht=>h.tr id l xs i st (k.tr id l xs i st ht)⟩
structure Step (v:Bool) (w:World) (M:Nat→Prop) (bs:Bs) (hp:List Blk) (w':World) (M':Nat→Prop) (bs':Bs) (hp':List Blk):Prop where
 evo:Evo M M' w w'
 len:hp.length≤hp'.length
 box:∀ id cs',id<hp.length→Blk.look hp' id=.cells cs'→(∃ cs,Blk.look hp id=.cells cs)∧bs'.at id=bs.at id
 map:∀ id b k u es,bs.at id=some b→Blk.look hp id=.map k u es→bs'.at id=some b∧∃ es',Blk.look hp' id=.map k u es'
 own:∀ id al cs,id<hp.length→Blk.look hp' id=.arr al cs→∃ al0 cs0,Blk.look hp id=.arr al0 cs0∧(cs0.length<cs.length ∨
   (cs0.length=cs.length∧bs'.at id=bs.at id∧(bs.at id=none→cs=cs0)∧∀ b,bs.at id=some b→∀ cap size,OwnAt w b cap size→OwnAt w' b cap size))
 only:v=false→Only w bs hp w' bs' hp'
theorem Step.refl {v:Bool} (w:World) (M:Nat→Prop) (bs:Bs) (hp:List Blk):Step v w M bs hp w M bs hp :=
 ⟨Evo.refl M w,Nat.le_refl _,fun id cs _ h=>⟨⟨cs,h⟩,rfl⟩,fun id b k u es h1 h2=>⟨h1,es,h2⟩,fun id al cs _ h=>⟨al,cs,h,.inr ⟨rfl,rfl,fun _=>rfl,fun b hb cap size ho=>ho⟩⟩,fun _=>Only.refl _ _ _⟩
theorem Step.weaken {v:Bool} {w w':World} {M M':Nat→Prop} {bs bs':Bs} {hp hp':List Blk} (h:Step false w M bs hp w' M' bs' hp'):Step v w M bs hp w' M' bs' hp':=⟨h.evo,h.len,h.box,h.map,h.own,fun _=>h.only rfl⟩
theorem Step.trans {v:Bool} {w w' w'':World} {M M' M'':Nat→Prop} {bs bs' bs'':Bs} {hp hp' hp'':List Blk} (h:Step v w M bs hp w' M' bs' hp') (k:Step v w' M' bs' hp' w'' M'' bs'' hp'') :
  Step v w M bs hp w'' M'' bs'' hp'':=by
 refine ⟨h.evo.trans k.evo,Nat.le_trans h.len k.len,?_,?_,?_,fun hv=>(h.only hv).trans h.evo.size (k.only hv)⟩
 ·
  intro id cs'' hid hl
  obtain ⟨⟨cs',e1⟩,e2⟩:=k.box id cs'' (Nat.lt_of_lt_of_le hid h.len) hl
  obtain ⟨e3,e4⟩:=h.box id cs' hid e1
  exact ⟨e3,e2.trans e4⟩
 ·
  intro id b kt u es h1 h2
  obtain ⟨e1,es',e2⟩:=h.map id b kt u es h1 h2
  exact k.map id b kt u es' e1 e2
 ·
  intro id al cs hid hl
  obtain ⟨al1,cs1,h1,h2⟩:=k.own id al cs (Nat.lt_of_lt_of_le hid h.len) hl
  obtain ⟨al0,cs0,h3,h4⟩:=h.own id al1 cs1 hid h1
  refine ⟨al0,cs0,h3,?_⟩
  rcases h2 with h2 | ⟨h2,e2,q2,r2⟩
  ·
   rcases h4 with h4 | ⟨h4,_⟩
   ·
    exact .inl (by omega)
   ·
    exact .inl (by omega)
  ·
   rcases h4 with h4 | ⟨h4,e4,q4,r4⟩
   ·
    exact .inl (by omega)
   ·
    refine .inr ⟨by omega,by rw [e2,e4],fun hn=>by rw [q2 (by rw [e4]; exact hn),q4 hn],fun b hb cap size ho => ?_⟩
    exact r2 b (by rw [e4]; exact hb) _ _ (r4 b hb _ _ ho)
theorem relSV_step {v₀:Bool} {w w':World} {M M':Nat→Prop} {bs bs':Bs} {hp hp':List Blk} (h:Step v₀ w M bs hp w' M' bs' hp'):∀ (x:SV) (v:Value),relSV w M bs hp x v→relSV w' M' bs' hp' x v
 | .any,_,_=>trivial
 | .bool b,v,hr=>hr
 | .int k n,v,hr=>hr
 | .str s,v,hr=>hr
 | .val x,v,hr=>hr
 | .sl t xs ex,v,hr=>by
  obtain ⟨a,c,h1,h2,h3,h4,h5⟩:=hr
  exact ⟨a,c,h1,h2,h3,h4,h5.evo h.evo⟩
 | .eptr t x,v,hr=>by
  obtain ⟨b,off,cs,h1,h2,h3,h4,h5⟩:=hr
  exact ⟨b,off,cs,h1,h.evo.free b h3 h2,Nat.lt_of_lt_of_le h3 h.evo.size,rep_evo h.evo _ _ _ h4,h5.evo h.evo h3 h2⟩
 | .box id off,v,hr=>by
  obtain ⟨hid,hr⟩:=hr
  refine ⟨Nat.lt_of_lt_of_le hid h.len,fun cs' hl => ?_⟩
  obtain ⟨⟨cs,k1⟩,k2⟩:=h.box id cs' hid hl
  rw [k2]
  exact hr cs k1
 | .own t id n,v,hr=>by
  obtain ⟨hid,hr⟩:=hr
  refine ⟨Nat.lt_of_lt_of_le hid h.len,fun al cs hcs => ?_⟩
  obtain ⟨al0,cs0,hc0,hlen⟩:=h.own id al cs hid hcs
  obtain ⟨h1,h2⟩:=hr al0 cs0 hc0
  rcases hlen with hlt | ⟨hle,e1,e2,e3⟩
  ·
   exact ⟨by omega,fun hl=>by omega⟩
  ·
   refine ⟨by omega,fun hl => ?_⟩
   rcases h2 (by omega) with ⟨b,cap,k1,k2,k3,k4⟩ | ⟨k1,xs,a,k2,k3,k4,k5,k6⟩
   ·
    exact .inl ⟨b,cap,by rw [e1]; exact k1,k2,k3,e3 b k1 _ _ k4⟩
   ·
    exact .inr ⟨by rw [e1]; exact k1,xs,a,k2,k3,by rw [e2 k1]; exact k4,k5,k6.evo h.evo⟩
 | .eown t id n off,v,hr=>by
  obtain ⟨hid,hr⟩:=hr
  refine ⟨Nat.lt_of_lt_of_le hid h.len,fun al cs hcs => ?_⟩
  obtain ⟨al0,cs0,hc0,hlen⟩:=h.own id al cs hid hcs
  obtain ⟨h1,h2⟩:=hr al0 cs0 hc0
  rcases hlen with hlt | ⟨hle,e1,e2,e3⟩
  ·
   exact ⟨by omega,fun hl=>by omega⟩
  ·
   refine ⟨by omega,fun hl => ?_⟩
   obtain ⟨b,k1,k2⟩:=h2 (by omega)
   exact ⟨b,by rw [e1]; exact k1,k2⟩
 | .pre t id n m,v,hr=>by
  obtain ⟨hid,hm,hr⟩:=hr
  refine ⟨Nat.lt_of_lt_of_le hid h.len,hm,fun al cs hcs => ?_⟩
  obtain ⟨al0,cs0,hc0,hlen⟩:=h.own id al cs hid hcs
  obtain ⟨h1,h2⟩:=hr al0 cs0 hc0
  rcases hlen with hlt | ⟨hle,e1,e2,e3⟩
  ·
   exact ⟨by omega,fun hl=>by omega⟩
  ·
   refine ⟨by omega,fun hl => ?_⟩
   obtain ⟨b,cap,k1,k2,k3,k4⟩:=h2 (by omega)
   exact ⟨b,cap,by rw [e1]; exact k1,k2,k3,e3 b k1 _ _ k4⟩
 | .suf t id n k,v,hr=>by
  obtain ⟨hid,hm,hr⟩:=hr
  refine ⟨Nat.lt_of_lt_of_le hid h.len,hm,fun al cs hcs => ?_⟩
  obtain ⟨al0,cs0,hc0,hlen⟩:=h.own id al cs hid hcs
  obtain ⟨h1,h2⟩:=hr al0 cs0 hc0
  rcases hlen with hlt | ⟨hle,e1,e2,e3⟩
  ·
   exact ⟨by omega,fun hl=>by omega⟩
  ·
   refine ⟨by omega,fun hl => ?_⟩
   obtain ⟨b,cap,a,k1,k2,k5,k3,k4⟩:=h2 (by omega)
   exact ⟨b,cap,a,by rw [e1]; exact k1,k2,k5,k3,e3 b k1 _ _ k4⟩
 | .fn f caps,v,hr=>by
  obtain ⟨ps,h1,h2⟩:=hr
  refine ⟨ps,h1,h2.imp fun id b hb => ?_⟩
  obtain ⟨hid,hb⟩:=hb
  refine ⟨Nat.lt_of_lt_of_le hid h.len,fun cs' hl => ?_⟩
  obtain ⟨⟨cs,k1⟩,k2⟩:=h.box id cs' hid hl
  rw [k2]
  exact hb cs k1
 | .fnp f caps,v,hr=>by
  obtain ⟨ps,h1,h2⟩:=hr
  exact ⟨ps,h1,h2.imp fun c p hp=>hp.evo h.evo⟩
 | .mp id,v,hr=>by
  obtain ⟨b,k,u,es,h1,h2,h3⟩:=hr
  obtain ⟨k1,es',k2⟩:=h.map id b k u es h1 h2
  exact ⟨b,k,u,es',k1,k2,h3⟩
 | .ib _ _,_,hr=>hr
 | .fv x,v,hr=>RepD.evo h.evo hr
 | .part t id off n cap,v,hr=>by
  obtain ⟨hid,h1,h2,a,h3,hr⟩:=hr
  refine ⟨Nat.lt_of_lt_of_le hid h.len,h1,h2,a,h3,fun cs' hl => ?_⟩
  obtain ⟨⟨cs,k1⟩,k2⟩:=h.box id cs' hid hl
  rw [k2]
  exact hr cs k1
 | .bbx f id off,v,hr=>by
  obtain ⟨hid,p,h3,hr⟩:=hr
  refine ⟨Nat.lt_of_lt_of_le hid h.len,p,h3,fun cs' hl => ?_⟩
  obtain ⟨⟨cs,k1⟩,k2⟩:=h.box id cs' hid hl
  rw [k2]
  exact hr cs k1
theorem relAV_step {v₀:Bool} {w w':World} {M M':Nat→Prop} {bs bs':Bs} {hp hp':List Blk} (h:Step v₀ w M bs hp w' M' bs' hp'):∀ (x:AV) (v:Value),relAV w M bs hp x v→relAV w' M' bs' hp' x v
 | .s x,v,hr=>relSV_step h x v hr
 | .agg cs,v,hr=>by
  obtain ⟨vs,h1,h2⟩:=hr
  exact ⟨vs,h1,h2.imp fun x u hu=>⟨relSV_step h x u hu.1,hu.2⟩⟩
theorem relRV_step {v₀:Bool} {w w':World} {M M':Nat→Prop} {bs bs':Bs} {hp hp':List Blk} (h:Step v₀ w M bs hp w' M' bs' hp'):∀ (x:RV) (v:Value),relRV w M bs hp x v→relRV w' M' bs' hp' x v
 | .v x,v,hr=>relAV_step h x v hr
 | .tup xs,v,hr=>by
  obtain ⟨vs,h1,h2⟩:=hr
  exact ⟨vs,h1,h2.imp fun x u hu=>relAV_step h x u hu⟩
theorem relSL_step {v₀:Bool} {w w':World} {M M':Nat→Prop} {bs bs':Bs} {hp hp':List Blk} (h:Step v₀ w M bs hp w' M' bs' hp') (x:SL) (v:Value) (hr:relSL w M bs hp x v):relSL w' M' bs' hp' x v :=
 ⟨fun ho=>relRV_step h x.v v (hr.1 ho),hr.2⟩
@[reducible] def Ty.reps:Nat→Ty→Ty
 | 0,_=>.nil
 | n+1,t=>.cons t (Ty.reps n t)
def Ty.repsV:(n:Nat)→(t:Ty)→List t.T→(Ty.reps n t).T
 | 0,_,_=>()
 | n+1,t,l=>(l.headD t.dflt,Ty.repsV n t l.tail)
def digStart:List Int:=[0x6a09e667,0xbb67ae85,0x3c6ef372,0xa54ff53a,0x510e527f,0x9b05688c,0x1f83d9ab,0x5be0cd19]
def digNums:List Int:=[
 0x428a2f98,0x71374491,0xb5c0fbcf,0xe9b5dba5,0x3956c25b,0x59f111f1,0x923f82a4,0xab1c5ed5,
 0xd807aa98,0x12835b01,0x243185be,0x550c7dc3,0x72be5d74,0x80deb1fe,0x9bdc06a7,0xc19bf174,
 0xe49b69c1,0xefbe4786,0x0fc19dc6,0x240ca1cc,0x2de92c6f,0x4a7484aa,0x5cb0a9dc,0x76f988da,
 0x983e5152,0xa831c66d,0xb00327c8,0xbf597fc7,0xc6e00bf3,0xd5a79147,0x06ca6351,0x14292967,
 0x27b70a85,0x2e1b2138,0x4d2c6dfc,0x53380d13,0x650a7354,0x766a0abb,0x81c2c92e,0x92722c85,
 0xa2bfe8a1,0xa81a664b,0xc24b8b70,0xc76c51a3,0xd192e819,0xd6990624,0xf40e3585,0x106aa070,
 0x19a4c116,0x1e376c08,0x2748774c,0x34b0bcb5,0x391c0cb3,0x4ed8aa4a,0x5b9cca4f,0x682e6ff3,
 0x748f82ee,0x78a5636f,0x84c87814,0x8cc70208,0x90befffa,0xa4506ceb,0xbef9a3f7,0xc67178f2]
def globs:List (Nat×Sigma Ty.T):=[(0,⟨.reps 8 (.int .u32),Ty.repsV 8 (.int .u32) digStart⟩),(1,⟨.reps 64 (.int .u32),Ty.repsV 64 (.int .u32) digNums⟩)]
def GlobOk (w:World) (M:Nat→Prop):Prop:=∀ p∈globs,FrozenAt w M p.2 (.pointer (some ⟨p.1,0,none⟩))
theorem GlobOk.evo {w w':World} {M M':Nat→Prop} (k:GlobOk w M) (h:Evo M M' w w'):GlobOk w' M':=fun p hp=>(k p hp).evo h
structure MOk (w:World) (M0:Nat→Prop):Prop where
 lt:∀ b,M0 b→b<w.heap.size
 gl:GlobOk w M0
structure HR (w:World) (M0:Nat→Prop) (bs:Bs) (hp:List Blk):Prop where
 len:bs.length=hp.length
 m0:∀ b,M0 b→b<w.heap.size
 lt:∀ id b,bs.at id=some b→b<w.heap.size
 inj:∀ i j b,bs.at i=some b→bs.at j=some b→i=j
 out:∀ id b,bs.at id=some b→¬ M0 b
 al:∀ id cs,Blk.look hp id=.arr true cs→∃ b,bs.at id=some b
 cells:∀ id cs,Blk.look hp id=.cells cs→∃ b cur e,bs.at id=some b∧w.heap[b]?=some (.cells cur e (0,0))∧cs.length=cur.size ∧
  ∀ (j:Nat) (x:SV),cs[j]?=some x→∃ u,cur[j]?=some u∧u.oneCell'=true∧relSV w (Mof M0 bs) bs hp x u
 arr:∀ id al cs b,Blk.look hp id=.arr al cs→bs.at id=some b→∃ cur e,w.heap[b]?=some (.cells cur e (0,0)) ∧
  ∀ (j:Nat) (x:SV),cs[j]?=some x→∃ u,cur[j]?=some u∧u.oneCell'=true∧relSV w (Mof M0 bs) bs hp x u
 map:∀ id k v es,Blk.look hp id=.map k v es→∃ b ents clock,bs.at id=some b∧w.heap[b]?=some (.map ents clock) ∧
  All2 (fun x (m:MapEntry)=>m.key=kval k x.1∧repV w (Mof M0 bs) v x.2 m.val) es ents.toList
 gl:GlobOk w (Mof M0 bs)
theorem HR.mok {w:World} {M0:Nat→Prop} {bs:Bs} {hp:List Blk} (hr:HR w M0 bs hp):MOk w (Mof M0 bs):=⟨fun b hb=>by
 rcases hb with hb | ⟨id,hb⟩
 ·
  exact hr.m0 b hb
 ·
  exact hr.lt id b hb,hr.gl⟩
theorem rep_flat {w:World} {M:Nat→Prop} {bs:Bs} {hp:List Blk}:∀ (t:Ty) (x:t.T) (cs:List Value),rep w M t x cs→All2 (fun x u=>relSV w M bs hp x u∧u.oneCell'=true) (t.flat x) cs
 | .int k,n,cs,h=>by simp only [rep] at h; subst h; exact .cons ⟨rfl,rfl⟩ .nil
 | .bool,b,cs,h=>by simp only [rep] at h; subst h; exact .cons ⟨rfl,rfl⟩ .nil
 | .str,s,cs,h=>by simp only [rep] at h; subst h; exact .cons ⟨rfl,rfl⟩ .nil
 | .slice t,xs,cs,h=>by
  simp only [rep] at h
  obtain ⟨a,c,rfl,h1,h2,h3⟩:=h
  exact .cons ⟨⟨a,c,rfl,h1,h2,by simp,h3⟩,rfl⟩ .nil
 | .nil,_,cs,h=>by simp only [rep] at h; subst h; exact .nil
 | .cons t r,x,cs,h=>by
  simp only [rep] at h
  obtain ⟨c1,c2,rfl,h1,h2⟩:=h
  exact (rep_flat t _ _ h1).append (rep_flat r _ _ h2)
 | .fn,x,cs,h=>by
  simp only [rep] at h
  obtain ⟨v,rfl,h1⟩:=h.fn_one
  exact .cons ⟨h,h1⟩ .nil
 | .tree t,x,cs,h=>by
  obtain ⟨c1,c2,rfl,h1,h2⟩:=rep_tree.1 h
  simp only [rep] at h2
  obtain ⟨a,c,rfl,k1,k2,k3⟩:=h2
  exact (rep_flat t _ _ h1).append (.cons ⟨⟨a,c,rfl,k1,k2,by simp,k3⟩,rfl⟩ .nil)
theorem parse_rep {w:World} {M:Nat→Prop} {bs:Bs} {hp:List Blk}:∀ (t:Ty) (l:List SV) (x:t.T) (r:List SV) (us:List Value),t.parse l=some (x,r) →
  All2 (relSV w M bs hp) l us→∃ c1 c2,us=c1++c2∧rep w M t x c1∧All2 (relSV w M bs hp) r c2
 | .int k,l,x,r,us,h,hu=>by
  cases hu with
  | nil=>simp [Ty.parse] at h
  | cons ha hl =>
   rename_i a b l m
   cases a <;> simp [Ty.parse] at h
   obtain ⟨rfl,rfl,rfl⟩:=h
   exact ⟨[b],m,rfl,by rw [show b=_ from ha]; simp [rep],hl⟩
 | .bool,l,x,r,us,h,hu=>by
  cases hu with
  | nil=>simp [Ty.parse] at h
  | cons ha hl =>
   rename_i a b l m
   cases a <;> simp [Ty.parse] at h
   obtain ⟨rfl,rfl⟩:=h
   exact ⟨[b],m,rfl,by rw [show b=_ from ha]; simp [rep],hl⟩
 | .str,l,x,r,us,h,hu=>by
  cases hu with
  | nil=>simp [Ty.parse] at h
  | cons ha hl =>
   rename_i a b l m
   cases a <;> simp [Ty.parse] at h
   obtain ⟨rfl,rfl⟩:=h
   exact ⟨[b],m,rfl,by rw [show b=_ from ha]; simp [rep],hl⟩
 | .slice t,l,x,r,us,h,hu=>by
  cases hu with
  | nil=>simp [Ty.parse] at h
  | cons ha hl =>
   rename_i a b l m
   cases a <;> simp [Ty.parse] at h
   rename_i t' xs ex
   obtain ⟨⟨rfl,rfl⟩,rfl⟩:=h
   obtain ⟨a,c,h1,h2,h3,_,h5⟩:=ha
   exact ⟨[b],m,rfl,by simp only [rep]; exact ⟨a,c,by rw [h1],h2,h3,h5⟩,hl⟩
 | .fn,l,x,r,us,h,hu=>by
  cases hu with
  | nil=>simp [Ty.parse] at h
  | cons ha hl =>
   rename_i a b l m
   simp only [rep]
   cases a with
   | fv y =>
    simp [Ty.parse] at h
    obtain ⟨rfl,rfl⟩:=h
    exact ⟨[b],m,rfl,ha,hl⟩
   | fnp f caps =>
    simp [Ty.parse] at h
    obtain ⟨rfl,rfl⟩:=h
    obtain ⟨ps,rfl,k2⟩:=ha
    exact ⟨_,m,rfl,repD_fnOf f k2,hl⟩
   | fn f ids =>
    cases ids with
    | cons i ids=>simp [Ty.parse] at h
    | nil =>
     simp [Ty.parse] at h
     obtain ⟨rfl,rfl⟩:=h
     obtain ⟨ps,rfl,k2⟩:=ha
     cases k2
     exact ⟨_,m,rfl,repD_fnOf (ps:=[]) f .nil,hl⟩
   | val y =>
    cases y <;> simp [Ty.parse] at h
    obtain ⟨rfl,rfl⟩:=h
    obtain rfl:b=_:=ha
    exact ⟨_,m,rfl,.nofn,hl⟩
   | _=>simp [Ty.parse] at h
 | .nil,l,x,r,us,h,hu=>by
  simp [Ty.parse] at h
  subst h
  exact ⟨[],us,rfl,by simp [rep],hu⟩
 | .cons t u,l,x,r,us,h,hu=>by
  simp only [Ty.parse] at h
  cases h1:t.parse l with
  | none=>simp [h1] at h
  | some p =>
   obtain ⟨x1,l1⟩:=p
   simp only [h1] at h
   cases h2:u.parse l1 with
   | none=>simp [h2] at h
   | some q =>
    obtain ⟨y1,l2⟩:=q
    simp only [h2] at h
    simp at h
    obtain ⟨rfl,rfl⟩:=h
    obtain ⟨c1,c2,rfl,k1,k2⟩:=parse_rep t l x1 l1 us h1 hu
    obtain ⟨c3,c4,rfl,k3,k4⟩:=parse_rep u l1 y1 l2 c2 h2 k2
    exact ⟨c1++c3,c4,by simp,by simp only [rep]; exact ⟨c1,c3,rfl,k1,k3⟩,k4⟩
 | .tree t,l,x,r,us,h,hu=>by
  simp only [Ty.parse] at h
  split at h
  ·
   rename_i x1 t' xs ex r' h1
   split at h
   ·
    rename_i e
    subst e
    simp at h
    obtain ⟨rfl,rfl⟩:=h
    obtain ⟨c1,c2,rfl,k1,k2⟩:=parse_rep t l x1 _ us h1 hu
    cases k2 with
    | cons ha hl =>
     rename_i b m
     obtain ⟨a,c,h1,h2,h3,_,h5⟩:=ha
     refine ⟨c1++[b],m,by simp,rep_tree.2 ⟨c1,[b],rfl,by rw [hd_mk]; exact k1,?_⟩,hl⟩
     rw [kids_mk]
     simp only [rep]
     exact ⟨a,c,by rw [h1],h2,h3,h5⟩
   ·
    cases h
  ·
   cases h
def Ty.beq:(t:Ty)→t.T→t.T→Bool
 | .int _,a,b=>a==b
 | .str,a,b=>a==b
 | .bool,a,b=>a==b
 | .nil,_,_=>true
 | .cons t r,a,b=>t.beq a.1 b.1&&r.beq a.2 b.2
 | _,_,_=>false
def EqOk (P:Program) (t:TypeId) (ty:Ty):Prop:=∀ (w:World) (M:Nat→Prop) (x y:ty.T) (cs ds:List Value),rep w M ty x cs→rep w M ty y ds→∀ ox oy:Operand,
 (eqGuard .eql t ox oy (.agg cs.toArray) (.agg ds.toArray)).run P w=.ok () w∧(eqGuard .neq t ox oy (.agg cs.toArray) (.agg ds.toArray)).run P w=.ok () w ∧
 (Op.equal t (.agg cs.toArray) (.agg ds.toArray)).run P w=.ok (ty.beq x y) w
inductive TD where
 | sc (ty:Ty)
 | slice (e:TypeId) (ety:Ty) (bytes:Nat)
 | struct (ty:Ty)
 | map (k e:TypeId) (kt vt:Ty)
 | func
 | arr (n:Nat) (e:TypeId) (ety:Ty)
 | eqs (ty:Ty)
 | ptr
 | other
def Ty.parses (t:Ty):Nat→List SV→Option (List t.T)
 | 0,[]=>some []
 | 0,_::_=>none
 | n+1,l=>match t.parse l with
  | some (x,r)=>match t.parses n r with
   | some xs=>some (x::xs)
   | none=>none
  | none=>none
def look {α:Type}:List (Nat×α)→Nat→Option α
 | [],_=>none
 | (k,x)::r,n=>if k=n then some x else look r n
def Ty.zcells:Ty→List Value
 | .int k=>[.int k 0]
 | .bool=>[.bool false]
 | .str=>[.string ByteArray.empty]
 | .slice _=>[.slice none 0 0]
 | .nil=>[]
 | .cons t r=>t.zcells++r.zcells
 | .fn=>[.nilFunc]
 | .tree h=>h.zcells++[.slice none 0 0]
def Ty.zsv:Ty→List SV
 | .int k=>[.int k 0]
 | .bool=>[.bool false]
 | .str=>[.str ByteArray.empty]
 | .slice t=>[.sl t [] true]
 | .nil=>[]
 | .cons t r=>t.zsv++r.zsv
 | .fn=>[.fv .nofn]
 | .tree h=>h.zsv++[.sl (.tree h) [] true]
def Ty.desc:Ty→TypeDesc
 | .int k=>.int k
 | .bool=>.bool
 | .str=>.string
 | _=>.invalid
def Ty.scalar:Ty→Bool
 | .int _=>true
 | .bool=>true
 | .str=>true
 | _=>false
def Ty.sizes:Ty→List Nat
 | .cons t r=>t.size::r.sizes
 | .tree _=>[0]
 | _=>[]
def Ty.offs:Ty→List Nat
 | t=>(List.range t.nfld).map t.off
def cellsV:List Value→Value
 | [v]=>v
 | l=>.agg l.toArray
def TD.ok (P:Program) (t:TypeId):TD→Prop
 | .sc ty=>P.underlying t=some ty.desc∧ty.zcells.length=1∧(P.info? t).map (fun i=>(i.size,i.zero))=some (1,some (cellsV ty.zcells))∧ty.scalar=true
 | .slice e ety bytes=>P.underlying t=some (.slice e)∧0<ety.size∧(P.info? e).map (fun i=>(i.size,i.bytes))=some (ety.size,bytes) ∧
   (∃ z,(P.info? e).bind (fun i=>i.zero)=some z∧z.cells.size=ety.size∧z.cells=ety.zcells.toArray)∧(P.info? t).map (fun i=>(i.size,i.zero))=some (1,some (.slice none 0 0))
 | .struct ty=>∃ fs:Array Field,P.underlying t=some (.struct fs)∧fs.toList.map (fun f=>f.offset)=ty.offs ∧
   fs.toList.map (fun f=>(P.info? f.type).map (fun i=>i.size))=ty.sizes.map some∧(∀ n∈ty.sizes,0<n)∧(P.info? t).map (fun i=>(i.size,i.zero))=some (ty.size,some (.agg ty.zcells.toArray))
 | .map k e kt vt=>P.underlying t=some (.map k e)∧P.underlying k=some kt.desc∧(P.info? e).bind (fun i=>i.zero)=some (unitV vt vt.zcells)∧kt.keyOk=true∧vt≠.nil
 | .func=>(∃ ps rs vd,P.underlying t=some (.func ps rs vd))∧(P.info? t).map (fun i=>(i.size,i.zero))=some (1,some .nilFunc)
 | .arr n e ety=>P.underlying t=some (.array n e)∧(P.info? e).map (fun i=>i.size)=some ety.size∧(P.info? t).map (fun i=>(i.size,i.zero))=some (n*ety.size,some (.agg (List.replicate n ety.zcells).flatten.toArray))
 | .eqs ty=>1000000≤t∧EqOk P (t - 1000000) ty
 | .ptr=>(∃ e,P.underlying t=some (.pointer e))∧(P.info? t).map (fun i=>(i.size,i.zero))=some (1,some (.pointer none))
 | .other=>True
structure Con where
 pre:List AV→Prop
 val:List AV→RV
structure ECon where
 wp:List AV→List Blk→(RV→List Blk→Prop)→Prop
structure ECon2 where
 wp:List AV→List Blk→(RV→List Blk→Prop)→Prop
 bor:List Nat:=[]
structure PCon where
 when:List AV→Prop
 what:List AV→Value
structure G where
 τ:List (TypeId×TD)
 Γ:List (FuncId×Con)
 y:Bool:=false
 top:Bool:=true
 E:List (FuncId×ECon):=[]
 fz:List Nat:=[]
 Pn:List (FuncId×PCon):=[]
 E2:List (FuncId×ECon2):=[]
 te:Bool:=false
 bo:Bool:=false
 pm:Bool:=false
def G.quiet (g:G):G:={ g with y:=false,te:=false }
abbrev G.ye (g:G):Bool×List FuncId:=(g.y||g.te,g.E.map (·.1)++(g.E2.map (·.1)++match g.bo with | true=>[1000000007] | false=>[]))
def boOf (y:Bool×List FuncId):Bool:=y.2.contains 1000000007
theorem boOf_ye {g:G} (h:g.bo=true):boOf g.ye=true:=by simp [boOf,h]
def G.td (g:G) (t:TypeId):TD:=(look g.τ t).getD .other
def coeTy:Ty→AV→AV
 | .slice t,.s (.val (.slice none 0 0))=>.s (.sl t [] true)
 | _,x=>x
def RV.av:RV→AV
 | .v x=>x
 | .tup _=>.s .any
def coe (g:G) (t:TypeId):RV→RV
 | .v (.s (.val (.slice none 0 0)))=>match g.td t with
  | .slice _ ety _=>.v (.s (.sl ety [] true))
  | _=>.v (.s (.val (.slice none 0 0)))
 | x=>x
def Ty.av (t:Ty) (x:t.T):AV :=
 match t,x with
 | .int k,n=>.s (.int k n)
 | .bool,b=>.s (.bool b)
 | .str,s=>.s (.str s)
 | .slice t,xs=>.s (.sl t xs false)
 | .nil,_=>.agg []
 | .cons t r,x=>.agg ((Ty.cons t r).flat x)
 | .fn,x=>.s (.fv x)
 | .tree h,x=>.agg ((Ty.tree h).flat x)
def AV.cells:AV→List SV
 | .s x=>[x]
 | .agg cs=>cs
def Ty.of (t:Ty):AV→Option t.T
 | .s y=>if t.nfld=0 then (match t.parse [y] with
  | some (z,[])=>some z
  | _=>none) else none
 | .agg cs=>if t.nfld=0 then none else (match t.parse cs with
  | some (z,[])=>some z
  | _=>none)
def inI64 (n:Int):Prop := -9223372036854775808≤n∧n≤9223372036854775807
def arith (k:IntKind) (n:Int):Prop×RV :=
 match k with
 | .i64=>(inI64 n,.v (.s (.int k n)))
 | k=>(True,.v (.s (.int k (k.wrap n))))
def utop:IntKind→Int
 | .u8=>256
 | .u16=>65536
 | .u32=>4294967296
 | .u64=>18446744073709551616
 | _=>0
def bitsEv (k:IntKind) (a b:Int) (r:Nat):Prop×RV:=(0≤a∧a<utop k∧0≤b∧b<utop k,.v (.s (.int k r)))
def andEv (k:IntKind) (a b:Int):Prop×RV :=
 match k with
 | .u8=>bitsEv .u8 a b (a.toNat &&& b.toNat)
 | .u32=>bitsEv .u32 a b (a.toNat &&& b.toNat)
 | k=>((k=.i64∨k=.u64)∧(b=1073741823∨b=1∨b=31),.v (.s (.int k (a % (b+1)))))
def orEv (k:IntKind) (a b:Int):Prop×RV :=
 match k with
 | .u8=>bitsEv .u8 a b (a.toNat ||| b.toNat)
 | .u32=>bitsEv .u32 a b (a.toNat ||| b.toNat)
 | k=>(k=.i64∧0≤a∧a≤9223372036854775807∧0≤b∧b<1073741824∧a % 1073741824=0,.v (.s (.int .i64 (a+b))))
def xorEv (k:IntKind) (a b:Int):Prop×RV :=
 match k with
 | .u8=>bitsEv .u8 a b (a.toNat ^^^ b.toNat)
 | .u32=>bitsEv .u32 a b (a.toNat ^^^ b.toNat)
 | .u64=>bitsEv .u64 a b (a.toNat ^^^ b.toNat)
 | _=>(False,.v (.s .any))
def intEv (op:BinOp) (k:IntKind) (a b:Int):Prop×RV :=
 match op with
 | .add=>arith k (a+b)
 | .sub=>arith k (a - b)
 | .mul=>arith k (a*b)
 | .quo=>((b≠0∧(arith k (a.tdiv b)).1),(arith k (a.tdiv b)).2)
 | .rem=>(b≠0,.v (.s (.int k (a.tmod b))))
 | .eql=>(True,.v (.s (.bool (a==b))))
 | .neq=>(True,.v (.s (.bool (a != b))))
 | .lss=>(True,.v (.s (.bool (decide (a<b)))))
 | .leq=>(True,.v (.s (.bool (decide (a≤b)))))
 | .gtr=>(True,.v (.s (.bool (decide (b<a)))))
 | .geq=>(True,.v (.s (.bool (decide (b≤a)))))
 | .shr=>(0≤b∧b≤63∧(b≤8∨b<k.bits),.v (.s (.int k (a.fdiv (2 ^ b.toNat)))))
 | .shl=>((0≤b∧b≤63∧(b≤8∨b<k.bits))∧(arith k (a*2 ^ b.toNat)).1,(arith k (a*2 ^ b.toNat)).2)
 | .and=>andEv k a b
 | .or=>orEv k a b
 | .xor=>xorEv k a b
 | _=>(False,.v (.s .any))
def TD.isBool:TD→Bool
 | .sc .bool=>true
 | _=>false
def isShift:BinOp→Bool
 | .shl=>true
 | .shr=>true
 | _=>false
def binEv (g:G) (op:BinOp) (t:TypeId) (x y:AV):Prop×RV :=
 match x,y with
 | .s (.int k a),.s (.int k' b)=>(((k=k'∨isShift op=true)∧(intEv op k a b).1),(intEv op k a b).2)
 | .s (.bool a),.s (.bool b)=>match op with
  | .eql=>((g.td t).isBool=true,.v (.s (.bool (a==b))))
  | .neq=>((g.td t).isBool=true,.v (.s (.bool (a != b))))
  | _=>(False,.v (.s .any))
 | .s (.str a),.s (.str b)=>match op with
  | .add=>(a.size+b.size≤maxLen,.v (.s (.str (a++b))))
  | .eql=>(True,.v (.s (.bool (decide (a.data.toList=b.data.toList)))))
  | .neq=>(True,.v (.s (.bool (!decide (a.data.toList=b.data.toList)))))
  | _=>(False,.v (.s .any))
 | .s (.sl _ xs _),.s (.val (.slice none 0 0))=>match op,g.td t with
  | .eql,.slice _ _ _=>(True,.v (.s (.ib (xs=[]) True)))
  | .neq,.slice _ _ _=>(True,.v (.s (.ib True (xs=[]))))
  | _,_=>(False,.v (.s .any))
 | .agg xs,.agg ys=>match g.td (t+1000000) with
  | .eqs ty=>match ty.of (.agg xs),ty.of (.agg ys) with
   | some a,some b=>match op with
    | .eql=>(True,.v (.s (.bool (ty.beq a b))))
    | .neq=>(True,.v (.s (.bool (!ty.beq a b))))
    | _=>(False,.v (.s .any))
   | _,_=>(False,.v (.s .any))
  | _=>(False,.v (.s .any))
 | _,_=>(False,.v (.s .any))
def unEv (op:UnOp) (x:AV):Prop×RV :=
 match op,x with
 | .not,.s (.bool b)=>(True,.v (.s (.bool (!b))))
 | .not,.s (.ib p q)=>(True,.v (.s (.ib q p)))
 | .neg,.s (.int .i64 n)=>(inI64 (-n),.v (.s (.int .i64 (-n))))
 | .xor,.s (.int .i64 n)=>(inI64 n,.v (.s (.int .i64 (-n - 1))))
 | .xor,.s (.int .u32 n)=>(0≤n∧n<4294967296,.v (.s (.int .u32 (4294967295 - n))))
 | _,_=>(False,.v (.s .any))
def pickEv (c a b:AV):Prop×RV :=
 match c,a,b with
 | .s (.bool c),.s (.bool x),.s (.bool y)=>(True,.v (.s (.bool (if c then x else y))))
 | .s (.bool c),.s .any,.s (.bool y)=>(c=false,.v (.s (.bool y)))
 | .s (.bool c),.s (.bool x),.s .any=>(c=true,.v (.s (.bool x)))
 | _,_,_=>(False,.v (.s .any))
def takeAt (l:List SV) (off n:Nat):List SV:=(l.drop off).take n
def loadCs (g:G) (t:TypeId) (cs:List SV) (off:Nat):Prop×RV :=
 match g.td t with
 | .struct ty=>(off+ty.size≤cs.length,.v (.agg (takeAt cs off ty.size)))
 | .map ..=>(False,.v (.s .any))
 | .arr n _ ety=>(off+n*ety.size≤cs.length,.v (.agg (takeAt cs off (n*ety.size))))
 | .eqs _=>(False,.v (.s .any))
 | .other=>(False,.v (.s .any))
 | _=>(off<cs.length,.v (.s ((cs[off]?).getD .any)))
def loadEv (g:G) (hp:List Blk) (t:TypeId) (a:AV):Prop×RV :=
 match a with
 | .s (.eptr ty x)=>match g.td t with
  | .sc ty'=>(ty=ty',.v (ty.av x))
  | .slice _ ety _=>(ty=.slice ety,.v (ty.av x))
  | .struct ty'=>(ty.size=ty'.size∧ty'.nfld≠0,.v (.agg (ty.flat x)))
  | .func=>(ty=.fn,.v (ty.av x))
  | .arr n _ ety=>(ty.size=n*ety.size,.v (.agg (ty.flat x)))
  | _=>(False,.v (.s .any))
 | .s (.box id off)=>match Blk.look hp id with
  | .cells cs=>loadCs g t cs off
  | _=>(False,.v (.s .any))
 | .s (.eown ty id n off)=>match Blk.look hp id with
  | .arr _ cs=>((cs.length=n*ty.size∧(loadCs g t cs off).1),(loadCs g t cs off).2)
  | _=>(False,.v (.s .any))
 | _=>(False,.v (.s .any))
def fieldAddrEv (g:G) (hp:List Blk) (s:TypeId) (x:AV) (f:Nat):Prop×RV :=
 match g.td s,x with
 | .struct ty,.s (.eptr ty' y)=>(ty'.un=ty∧f<ty.nfld,.v (.s (.eptr (ty'.un.fld f) (ty'.un.get (ty'.unv y) f))))
 | .struct ty,.s (.box id off)=>match Blk.look hp id with
  | .cells _=>(f<ty.nfld,.v (.s (.box id (off+ty.off f))))
  | _=>(False,.v (.s .any))
 | .struct ty,.s (.eown t id n off)=>match Blk.look hp id with
  | .arr _ cs=>(cs.length=n*t.size∧f<ty.nfld,.v (.s (.eown t id n (off+ty.off f))))
  | _=>(False,.v (.s .any))
 | _,_=>(False,.v (.s .any))
def indexAddrEv (g:G) (hp:List Blk) (t:TypeId) (x i:AV):Prop×RV :=
 match g.td t,x,i with
 | .slice _ ety _,.s (.own ty id n),.s (.int _ k)=>match Blk.look hp id with
  | .arr al cs=>(al=true∧ty=ety∧cs.length=n*ty.size∧0≤k∧k<n,.v (.s (.eown ty id n (k.toNat*ty.size))))
  | _=>(False,.v (.s .any))
 | .arr n _ ety,.s (.box id off),.s (.int _ k)=>match Blk.look hp id with
  | .cells _=>(0≤k∧k<n,.v (.s (.box id (off+k.toNat*ety.size))))
  | _=>(False,.v (.s .any))
 | .slice _ ety _,.s (.pre ty id n m),.s (.int _ k)=>match Blk.look hp id with
  | .arr _ cs=>(ty=ety∧cs.length=n*ty.size∧0≤k∧k<m,.v (.s (.eown ty id n (k.toNat*ty.size))))
  | _=>(False,.v (.s .any))
 | .slice _ ety _,.s (.part ty id off n cap),.s (.int _ k)=>match Blk.look hp id with
  | .cells _=>(ty=ety∧0≤k∧k<n,.v (.s (.box id (off+k.toNat*ty.size))))
  | _=>(False,.v (.s .any))
 | .arr n _ ety,.s (.eptr ty y),.s (.int _ k)=>match ety.parses n (ty.flat y) with
  | some xs=>(0≤k∧k<n,.v (.s (.eptr ety (xs.getD k.toNat ety.dflt))))
  | none=>(False,.v (.s .any))
 | .slice _ ety _,.s (.sl ty xs _),.s (.int _ n)=>(ty=ety∧0≤n∧n<xs.length,.v (.s (.eptr ty (xs.getD n.toNat ty.dflt))))
 | _,_,_=>(False,.v (.s .any))
def bound (d:Int):Option RV→Option Int
 | none=>some d
 | some (.v (.s (.int _ n)))=>some n
 | some _=>none
def sliceEv (g:G) (t:TypeId) (x:AV) (lo hi mx:Option RV):Prop×RV :=
 match g.td t,x with
 | .slice _ ety _,.s (.sl ty xs ex)=>match bound 0 lo,bound xs.length hi,bound xs.length mx with
  | some l,some h,some m=>(ty=ety∧0≤l∧l≤h∧h≤m∧m≤xs.length∧(mx.isSome=true→hi.isSome=true),.v (.s (.sl ty ((xs.take h.toNat).drop l.toNat) ((mx.isSome&&(h==m))||(xs.isEmpty&&ex&&mx.isNone)))))
  | _,_,_=>(False,.v (.s .any))
 | .sc .str,.s (.str s)=>match bound 0 lo,bound s.size hi,mx with
  | some l,some h,none=>(0≤l∧l≤h∧h≤s.size,.v (.s (.str (s.extract l.toNat h.toNat))))
  | _,_,_=>(False,.v (.s .any))
 | _,_=>(False,.v (.s .any))
def sliceOwnEv (g:G) (hp:List Blk) (t:TypeId) (ty:Ty) (id n m:Nat) (lo hi mx:Option RV):Prop×RV :=
 match g.td t with
 | .slice _ ety _=>match Blk.look hp id with
  | .arr al cs=>match bound 0 lo,bound m hi,mx with
   | some l,some h,none=>(ty=ety∧al=true∧cs.length=n*ty.size∧l=0∧0≤h∧h≤m∧m≤n,.v (.s (.pre ty id n h.toNat)))
   | _,_,_=>(False,.v (.s .any))
  | _=>(False,.v (.s .any))
 | _=>(False,.v (.s .any))
def sliceSufEv (g:G) (hp:List Blk) (t:TypeId) (ty:Ty) (id n:Nat) (lo mx:Option RV):Prop×RV :=
 match g.td t with
 | .slice _ ety _=>match Blk.look hp id with
  | .arr al cs=>match bound 0 lo,mx with
   | some l,none=>(ty=ety∧al=true∧cs.length=n*ty.size∧0≤l∧l≤n,.v (.s (.suf ty id n l.toNat)))
   | _,_=>(False,.v (.s .any))
  | _=>(False,.v (.s .any))
 | _=>(False,.v (.s .any))
def slicePartEv (g:G) (hp:List Blk) (t:TypeId) (x:AV) (lo hi mx:Option RV):Prop×RV :=
 match g.td t,x with
 | .arr n _ ety,.s (.box id off)=>match Blk.look hp id,bound 0 lo,bound n hi,bound n mx with
  | .cells _,some l,some h,some m=>(0≤l∧l≤h∧h≤m∧m≤n∧n≤maxLen∧(mx.isSome=true→hi.isSome=true),.v (.s (.part ety id (off+l.toNat*ety.size) (h - l).toNat (m - l).toNat)))
  | _,_,_,_=>(False,.v (.s .any))
 | .arr n _ ety,.s (.eptr ty y)=>match ety.parses n (ty.flat y),bound 0 lo,bound n hi,mx with
  | some xs,some l,some h,none=>(0≤l∧l≤h∧h≤n∧n≤maxLen,.v (.s (.sl ety ((xs.take h.toNat).drop l.toNat) false)))
  | _,_,_,_=>(False,.v (.s .any))
 | .slice _ ety _,.s (.part ty id off n cap)=>match Blk.look hp id,bound 0 lo,bound n hi,bound cap mx with
  | .cells _,some l,some h,some m=>(ty=ety∧0≤l∧l≤h∧h≤m∧m≤cap∧(mx.isSome=true→hi.isSome=true),.v (.s (.part ty id (off+l.toNat*ty.size) (h - l).toNat (m - l).toNat)))
  | _,_,_,_=>(False,.v (.s .any))
 | _,_=>(False,.v (.s .any))
def sliceAnyEv (g:G) (hp:List Blk) (t:TypeId) (x:AV) (lo hi mx:Option RV):Prop×RV :=
 match x with
 | .s (.own ty id n)=>match lo,hi with
  | some l,none=>sliceSufEv g hp t ty id n (some l) mx
  | lo,hi=>sliceOwnEv g hp t ty id n n lo hi mx
 | .s (.pre ty id n m)=>sliceOwnEv g hp t ty id n m lo hi mx
 | .s (.box id off)=>slicePartEv g hp t (.s (.box id off)) lo hi mx
 | .s (.eptr ty y)=>slicePartEv g hp t (.s (.eptr ty y)) lo hi mx
 | .s (.part ty id off n cap)=>slicePartEv g hp t (.s (.part ty id off n cap)) lo hi mx
 | x=>sliceEv g t x lo hi mx
def lenEv (g:G) (hp:List Blk) (t:TypeId) (x:AV):Prop×RV :=
 match g.td t,x with
 | .slice ..,.s (.sl _ xs _)=>(True,.v (.s (.int .i64 xs.length)))
 | .sc .str,.s (.str s)=>(True,.v (.s (.int .i64 s.size)))
 | .slice ..,.s (.val (.slice none 0 0))=>(True,.v (.s (.int .i64 0)))
 | .slice ..,.s (.own t id n)=>match Blk.look hp id with
  | .arr _ cs=>(cs.length=n*t.size,.v (.s (.int .i64 n)))
  | _=>(False,.v (.s .any))
 | .slice ..,.s (.pre t id n m)=>match Blk.look hp id with
  | .arr _ cs=>(cs.length=n*t.size,.v (.s (.int .i64 m)))
  | _=>(False,.v (.s .any))
 | .slice ..,.s (.part _ _ _ n _)=>(True,.v (.s (.int .i64 n)))
 | _,_=>(False,.v (.s .any))
def capEv (g:G) (t:TypeId) (x:AV):Prop×RV :=
 match g.td t,x with
 | .slice ..,.s (.sl _ xs true)=>(True,.v (.s (.int .i64 xs.length)))
 | .slice ..,.s (.val (.slice none 0 0))=>(True,.v (.s (.int .i64 0)))
 | .slice ..,.s (.part _ _ _ _ c)=>(True,.v (.s (.int .i64 c)))
 | _,_=>(False,.v (.s .any))
def minEv (mx:Bool):List AV→Prop×RV
 | [.s (.int k a),.s (.int k' b)]=>(k=k',.v (.s (.int k (if mx then (if a<b then b else a) else (if b<a then b else a)))))
 | _=>(False,.v (.s .any))
def mget {α β:Type} (eq:α→α→Bool) (k:α):List (α×β)→Option β
 | []=>none
 | (a,b)::r=>if eq k a then some b else mget eq k r
def mput {α β:Type} (eq:α→α→Bool) (k:α) (v:β):List (α×β)→List (α×β)
 | []=>[(k,v)]
 | (a,b)::r=>if eq k a then (k,v)::r else (a,b)::mput eq k v r
def lookupEv (g:G) (hp:List Blk) (t:TypeId) (m k:AV) (ok:Bool):Prop×RV :=
 match g.td t,m with
 | .map _ _ kt vt,.s (.mp id)=>match Blk.look hp id with
  | .map kt' vt' es=>match kt'.of k with
   | some key=>(kt'=kt∧vt'=vt,if ok then .tup [vt'.av ((mget kt'.beq key es).getD vt'.dflt),.s (.bool (mget kt'.beq key es).isSome)] else .v (vt'.av ((mget kt'.beq key es).getD vt'.dflt)))
   | none=>(False,.v (.s .any))
  | _=>(False,.v (.s .any))
 | _,_=>(False,.v (.s .any))
def allBox (hp:List Blk):List RV→Option (List Nat)
 | []=>some []
 | .v (.s (.box id 0))::r=>match Blk.look hp id with
  | .cells _=>(allBox hp r).map (id::·)
  | _=>none
 | _::_=>none
def lenArgs (g:G) (hp:List Blk) (ρ:Operand→RV):List Operand→List TypeId→Prop×RV
 | [x],[u]=>lenEv g hp u (ρ x).av
 | _,_=>(False,.v (.s .any))
def capArgs (g:G) (ρ:Operand→RV):List Operand→List TypeId→Prop×RV
 | [x],[u]=>capEv g u (ρ x).av
 | _,_=>(False,.v (.s .any))
def allEp:List RV→Option (List (Sigma Ty.T))
 | []=>some []
 | .v (.s (.eptr t x))::r=>(allEp r).map (⟨t,x⟩::·)
 | _::_=>none
def SV.sig:SV→Option (Sigma Ty.T)
 | .int k n=>some ⟨.int k,n⟩
 | .bool b=>some ⟨.bool,b⟩
 | .str s=>some ⟨.str,s⟩
 | .sl t xs _=>some ⟨.slice t,xs⟩
 | .fv x=>some ⟨.fn,x⟩
 | .fnp f caps=>some ⟨.fn,D.fnOf f caps⟩
 | .fn f []=>some ⟨.fn,D.fnOf f []⟩
 | _=>none
def sigs:List SV→Option (Sigma Ty.T)
 | []=>some ⟨.nil,()⟩
 | x::r=>match x.sig,sigs r with
  | some a,some b=>some ⟨.cons a.1 b.1,(a.2,b.2)⟩
  | _,_=>none
def AV.sig:AV→Option (Sigma Ty.T)
 | .s x=>x.sig
 | .agg cs=>sigs cs
def boundEv (f:FuncId) (x:AV):Prop×RV :=
 match x with
 | .s (.box id off)=>(True,.v (.s (.bbx f id off)))
 | y=>match y.sig with
  | some c=>(c.1.nfld≠0∨c.1.size=1,.v (.s (.fv (D.bndOf f c))))
  | none=>(False,.v (.s .any))
def funcEv (f:FuncId):List RV→Option (List Nat)→Option (List (Sigma Ty.T))→Prop×RV
 | [],some [],_=>(True,.v (.s (.fnp f [])))
 | [],some ids,_=>(True,.v (.s (.fn f ids)))
 | [],none,some caps=>(True,.v (.s (.fnp f caps)))
 | [x],some [],_=>boundEv f x.av
 | _,_,_=>(False,.v (.s .any))
def extractEv:RV→Nat→Prop×RV
 | .tup xs,i=>(i<xs.length,.v ((xs[i]?).getD (.s .any)))
 | _,_=>(False,.v (.s .any))
def strL (s:ByteArray):List Int:=s.data.toList.map fun b=>(b.toNat:Int)
def bytesS (l:List Int):ByteArray:=l.foldl (fun r n=>r.push (UInt8.ofNat n.toNat)) ByteArray.empty
def convEv (g:G) (s d:TypeId) (x:AV):Prop×RV :=
 match g.td s,g.td d,x with
 | .sc (.int _),.sc (.int k),.s (.int _ n)=>(True,.v (.s (.int k (k.wrap n))))
 | .sc .str,.sc .str,.s (.str b)=>(True,.v (.s (.str b)))
 | .slice e _ _,.sc .str,.s (.sl (.int .u8) xs _)=>match g.td e with
  | .sc (.int .u8)=>(True,.v (.s (.str (bytesS xs))))
  | _=>(False,.v (.s .any))
 | _,_,_=>(False,.v (.s .any))
def cvEv (g:G) (s d:TypeId) (x:AV):Prop×RV :=
 match g.td s,g.td d,x with
 | .sc .str,.slice e _ _,.s (.str b)=>match g.td e with
  | .sc (.int .u8)=>(b.size≤maxLen,.v (.s (.sl (.int .u8) (strL b) false)))
  | _=>(False,.v (.s .any))
 | _,_,_=>convEv g s d x
def byteAt (s:ByteArray) (i:Nat):Int:=((s[i]?).map fun b=>(b.toNat:Int)).getD 0
def strIdxEv (g:G) (t:TypeId) (x i:AV):Prop×RV :=
 match g.td t,x,i with
 | .sc .str,.s (.str s),.s (.int _ k)=>(0≤k∧k<s.size,.v (.s (.int .u8 (byteAt s k.toNat))))
 | .arr n e ety,.agg cs,.s (.int _ k)=>match g.td e with
  | .sc _=>(ety.size=1∧cs.length=n∧0≤k∧k<n,.v (.s (cs.getD k.toNat .any)))
  | _=>(False,.v (.s .any))
 | _,_,_=>(False,.v (.s .any))
def ifaceEv (g:G) (t:TypeId) (x:AV):Prop×RV :=
 match g.td t,x with
 | .sc _,.s (.int k n)=>(True,.v (.s (.val (.iface t (.int k n)))))
 | _,_=>(False,.v (.s .any))
def nilChkEv (hp:List Blk) (x:AV):Prop×RV :=
 match x with
 | .s (.box id off)=>match Blk.look hp id with
  | .cells _=>(True,.v (.s (.box id off)))
  | _=>(False,.v (.s .any))
 | .s (.eptr t y)=>(True,.v (.s (.eptr t y)))
 | _=>(False,.v (.s .any))
def qEv (g:G) (hp:List Blk) (ρ:Operand→RV) (t:TypeId):Op→Prop×RV
 | .move x=>(True,coe g t (ρ x))
 | .assign x=>(True,coe g t (ρ x))
 | .pick c a b=>pickEv (ρ c).av (ρ a).av (ρ b).av
 | .load u a=>loadEv g hp u (ρ a).av
 | .binOp op u x y _=>binEv g op u (ρ x).av (ρ y).av
 | .unOp op _ x=>unEv op (ρ x).av
 | .fieldAddr s x f=>fieldAddrEv g hp s (ρ x).av f
 | .indexAddr s x i=>indexAddrEv g hp s (ρ x).av (ρ i).av
 | .slice s x lo hi mx=>sliceAnyEv g hp s (ρ x).av (lo.map ρ) (hi.map ρ) (mx.map ρ)
 | .extract x i=>extractEv (ρ x) i
 | .convert s d x=>convEv g s d (ρ x).av
 | .makeInterface u x=>ifaceEv g u (ρ x).av
 | .nilCheck x=>nilChkEv hp (ρ x).av
 | .index u x i=>strIdxEv g u (ρ x).av (ρ i).av
 | .lookup u m k ok=>lookupEv g hp u (ρ m).av (ρ k).av ok
 | .makeFunc (.func f) first caps=>funcEv f (first.toList.map ρ) (allBox hp (caps.toList.map ρ)) (allEp (caps.toList.map ρ))
 | .call { callee:=.builtin .len,args:=xs,argTypes:=ts }=>lenArgs g hp ρ xs.toList ts.toList
 | .call { callee:=.builtin .cap,args:=xs,argTypes:=ts }=>capArgs g ρ xs.toList ts.toList
 | .call { callee:=.builtin .min,args:=xs,argTypes:=_ }=>minEv false (xs.toList.map fun x=>(ρ x).av)
 | .call { callee:=.builtin .max,args:=xs,argTypes:=_ }=>minEv true (xs.toList.map fun x=>(ρ x).av)
 | _=>(False,.v (.s .any))
end Go.Am
namespace Go.Am
def okBytes (l:List Int):Prop:=∀ c∈l,0≤c∧c≤255
theorem bytesS_data (l:List Int):(bytesS l).data.toList=l.map fun n=>UInt8.ofNat n.toNat:=by
 have key:∀ (l:List Int) (a:ByteArray),(l.foldl (fun r n=>r.push (UInt8.ofNat n.toNat)) a).data.toList=a.data.toList++l.map fun n=>UInt8.ofNat n.toNat:=by
  intro l
  induction l with
  | nil=>intro a; simp
  | cons n l ih=>intro a; rw [List.foldl_cons,ih]; simp [ByteArray.push]
 rw [bytesS,key]
 rfl
theorem str_ext {a b:ByteArray} (h:a.data.toList=b.data.toList):a=b:=by
 obtain ⟨⟨a⟩⟩:=a
 obtain ⟨⟨b⟩⟩:=b
 obtain rfl:a=b:=h
 rfl
theorem strL_len (s:ByteArray):(strL s).length=s.size:=by
 obtain ⟨⟨a⟩⟩:=s
 simp [strL,ByteArray.size]
theorem strL_bytesS {l:List Int} (h:okBytes l):strL (bytesS l)=l:=by
 rw [strL,bytesS_data,List.map_map]
 conv=>rhs; rw [← List.map_id l]
 refine List.map_congr_left fun c hc => ?_
 have:=h c hc
 show ((UInt8.ofNat c.toNat).toNat:Int)=c
 rw [UInt8.toNat_ofNat']
 omega
theorem bytesS_strL (s:ByteArray):bytesS (strL s)=s:=by
 refine str_ext ?_
 rw [bytesS_data,strL,List.map_map]
 conv=>rhs; rw [← List.map_id s.data.toList]
 refine List.map_congr_left fun b _ => ?_
 show UInt8.ofNat ((b.toNat:Int)).toNat=b
 rw [Int.toNat_natCast]
 simp
theorem bytesS_size (l:List Int):(bytesS l).size=l.length:=by
 have:=congrArg List.length (bytesS_data l)
 rw [List.length_map] at this
 rw [← this]
 rfl
theorem bytesS_append (l m:List Int):bytesS l++bytesS m=bytesS (l++m):=by
 refine str_ext ?_
 rw [bytesS_data,List.map_append,ByteArray.data_append,Array.toList_append,bytesS_data,bytesS_data]
theorem strL_extract (s:ByteArray) (i j:Nat):strL (s.extract i j)=((strL s).take j).drop i:=by
 simp [strL,ByteArray.data_extract,List.map_drop,List.map_take,List.extract_eq_drop_take']
theorem byteAt_strL (s:ByteArray) (i:Nat):byteAt s i=(strL s)[i]?.getD 0:=by
 rw [strL,List.getElem?_map]
 unfold byteAt
 have:s[i]?=s.data.toList[i]?:=by
  by_cases h:i<s.size
  ·
   rw [getElem?_pos s i h,List.getElem?_eq_getElem (by simpa using h)]
   rfl
  ·
   rw [getElem?_neg s i h,List.getElem?_eq_none (by simpa using h)]
 rw [this]
end Go.Am
