/- One operation of any kind; a region of operations. -/
import Derived.Test.YteglanpnmnkkbaaBm7z
import Derived.TacticsIn
namespace Go.Am
set_option linter.unusedVariables false
open Go.RowKit

/-- The fence that asks nothing, in a round or not. -/
def FW (r : Option Nat) : Fence := { fn := fun _ => True, depth := none, alive := false, round := r }

abbrev Env := List (Nat × SL)
def junk : SL := ⟨true, .v (.s .any)⟩
def getE (e : Env) (s : Nat) : SL := (look e s).getD junk
def constRV : Value → RV
  | .bool b => .v (.s (.bool b))
  | .int k n => .v (.s (.int k n))
  | .string s => .v (.s (.str s))
  | v => .v (.s (.val v))
def oper (e : Env) : Operand → SL
  | .tmp t => getE e t
  | .const v => ⟨true, constRV v⟩
  | .func f => ⟨true, .v (.s (.fnp f []))⟩
  | .global _ => junk
def opRV (e : Env) (x : Operand) : RV := (oper e x).v
def putE (d : Option Nat) (x : SL) (e : Env) : Env :=
  match d with
  | some d => (d, x) :: e
  | none => e

def allOk (e : Env) : List Operand → Prop
  | [] => True
  | x :: r => (oper e x).ok = true ∧ allOk e r
def okOps (e : Env) : Op → Prop
  | .pick c a b => (oper e c).ok = true ∧ (match opRV e c with
    | .v (.s (.bool q)) => (q = true → (oper e a).ok = true) ∧ (q = false → (oper e b).ok = true)
    | _ => False)
  | op => allOk e op.operands.toList

def SV.pure : SV → Bool
  | .box _ _ => false
  | .own _ _ _ => false
  | .eown _ _ _ _ => false
  | .fn _ caps => caps.isEmpty
  | .mp _ => false
  | .ib _ _ => false
  | _ => true
def AV.pure : AV → Bool
  | .s x => x.pure
  | .agg cs => cs.all SV.pure

def argsEv (g : G) (e : Env) : List Operand → List TypeId → List AV
  | x :: xs, t :: ts => coeA g t (opRV e x) :: argsEv g e xs ts
  | x :: xs, [] => (opRV e x).av :: argsEv g e xs []
  | [], _ => []

def callEv (g : G) (f : FuncId) (args : List AV) : Prop × RV :=
  match look g.Γ f with
  | some c => (c.pre args ∧ args.all AV.pure = true, c.val args)
  | none => (False, .v (.s .any))

def SV.sig : SV → Option (Sigma Ty.T)
  | .int k n => some ⟨.int k, n⟩
  | .bool b => some ⟨.bool, b⟩
  | .str s => some ⟨.str, s⟩
  | .sl t xs _ => some ⟨.slice t, xs⟩
  | .fv x => some ⟨.fn, x⟩
  | .fnp f caps => some ⟨.fn, D.fnOf f caps⟩
  | .fn f [] => some ⟨.fn, D.fnOf f []⟩
  | _ => none
def sigs : List SV → Option (Sigma Ty.T)
  | [] => some ⟨.nil, ()⟩
  | x :: r => match x.sig, sigs r with
    | some a, some b => some ⟨.cons a.1 b.1, (a.2, b.2)⟩
    | _, _ => none
/-- What a variable that a function has captured holds. -/
def boxCap (hp : List Blk) (id : Nat) : Option (Sigma Ty.T) := match Blk.look hp id with
  | .cells [x] => x.sig
  | .cells cs => sigs cs
  | _ => none
def boxCaps (hp : List Blk) : List Nat → Option (List (Sigma Ty.T))
  | [] => some []
  | id :: r => match boxCap hp id, boxCaps hp r with
    | some c, some cs => some (c :: cs)
    | _, _ => none
def capAV (c : Sigma Ty.T) : AV := .s (.eptr c.1 c.2)
def SV.scalar : SV → Bool
  | .bool _ => true
  | .int _ _ => true
  | .str _ => true
  | _ => false
def AV.scalar : AV → Bool
  | .s x => x.scalar
  | .agg cs => cs.all SV.scalar
def RV.scalar : RV → Bool
  | .v x => x.scalar
  | .tup xs => xs.all AV.scalar

/-- A call of a function value. -/
def callVal (g : G) (hp : List Blk) (f : RV) (args : List AV) : Prop × RV :=
  match f with
  | .v (.s (.fn f [])) => callEv g f args
  | .v (.s (.fnp f caps)) => callEv g f (args ++ caps.map capAV)
  | .v (.s (.fn f ids)) => match boxCaps hp ids with
    | some caps => ((callEv g f (args ++ caps.map capAV)).1 ∧ (callEv g f (args ++ caps.map capAV)).2.scalar = true, (callEv g f (args ++ caps.map capAV)).2)
    | none => (False, .v (.s .any))
  | .v (.s (.fv x)) => match x.parts with
    | some (f, caps) => callEv g f (args ++ caps.map capAV)
    | none => (False, .v (.s .any))
  | _ => (False, .v (.s .any))

/-- Operations that leave abstract memory as it is. -/
def pEv (g : G) (hp : List Blk) (e : Env) (t : TypeId) : Op → Prop × RV
  | .buildSlice u len ps => ((buildSliceEv g hp u len (ps.toList.map fun p => (p.1, (opRV e p.2).av))).1, (buildSliceEv g hp u len (ps.toList.map fun p => (p.1, (opRV e p.2).av))).2.1)
  | .build u ps => ((buildEv g hp u (ps.toList.map fun p => (p.1, (opRV e p.2).av))).1, (buildEv g hp u (ps.toList.map fun p => (p.1, (opRV e p.2).av))).2.1)
  | .call { callee := .value f, args := xs, argTypes := ts } => callVal g hp (opRV e f) (argsEv g e xs.toList ts.toList)
  | op => qEv g hp (opRV e) t op

/-- May the operation change abstract memory? -/
def isMem0 : Op → Bool
  | .alloc _ => true
  | .box _ _ => true
  | .store _ _ _ => true
  | .makeMap _ _ => true
  | .makeSlice _ _ _ => true
  | .mapUpdate _ _ _ _ => true
  | .insert _ _ _ _ => true
  | .call { callee := .builtin .append, .. } => true
  | _ => false

/-- .. or call an unknown function? -/
def isMem (ye : Bool × List FuncId) : Op → Bool
  | .call { callee := .value (.tmp _), .. } => ye.1
  | .call { callee := .value (.func f), .. } => ye.2.contains f
  | op => isMem0 op

def mapUpdateEv (g : G) (hp : List Blk) (t : TypeId) (m k v : AV) : Prop × RV × List Blk :=
  match g.td t, m with
  | .map _ _ kt vt, .s (.mp id) => match Blk.look hp id with
    | .map kt' vt' es => match kt'.of k, vt'.of (coeTy vt' v) with
      | some key, some val => (kt' = kt ∧ vt' = vt, .v (.s .any), hp.set id (.map kt' vt' (mput kt'.beq key val es)))
      | _, _ => nope hp
    | _ => nope hp
  | _, _ => nope hp

def appendArgs (g : G) (hp : List Blk) (e : Env) : List Operand → List TypeId → Prop × RV × List Blk
  | [s, y], [t, u] => match isFz g s with
    | true => fzEv ((t = u ∧ (appendEv g hp t (coeA g t (opRV e s)) (coeA g t (opRV e y))).1), (appendEv g hp t (coeA g t (opRV e s)) (coeA g t (opRV e y))).2.1, (appendEv g hp t (coeA g t (opRV e s)) (coeA g t (opRV e y))).2.2)
    | false => ((t = u ∧ (appendEv g hp t (coeA g t (opRV e s)) (coeA g t (opRV e y))).1), (appendEv g hp t (coeA g t (opRV e s)) (coeA g t (opRV e y))).2)
  | _, _ => nope hp

def plainTD : TD → Bool
  | .other => false
  | .map .. => false
  | .arr .. => false
  | _ => true

def mEv (g : G) (hp : List Blk) (e : Env) : Op → Prop × RV × List Blk
  | .alloc u => allocEv g hp u
  | .box u x => boxEv hp (coeA g u (opRV e x))
  | .store u a x => ((plainTD (g.td u) = true ∧ (storeEv g hp u (opRV e a).av (coeA g u (opRV e x))).1), (storeEv g hp u (opRV e a).av (coeA g u (opRV e x))).2)
  | .makeMap u none => makeMapEv g hp u
  | .makeSlice u l c => makeSliceEv g hp u (opRV e l).av (opRV e c).av
  | .mapUpdate u m k v => mapUpdateEv g hp u (opRV e m).av (opRV e k).av (opRV e v).av
  | .insert u m k v => mapUpdateEv g hp u (opRV e m).av (opRV e k).av (opRV e v).av
  | .call { callee := .builtin .append, args := xs, argTypes := ts } => appendArgs g hp e xs.toList ts.toList
  | _ => nope hp

def gcond (ops : List Oper) (e : Env) : Option (Nat × Bool) → Option Bool
  | none => some true
  | some (j, want) => match (ops[j]?).bind (fun o => o.dst) with
    | some d => match getE e d with
      | ⟨ok, .v (.s (.bool b))⟩ => some (ok && (b == want))
      | _ => none
    | none => none

/-- Is it a call of yield? -/
def yieldOf (g : G) (e : Env) : Op → Option (Nat × List AV)
  | .call { callee := .value (.tmp f), args := xs, argTypes := ts } => match opRV e (.tmp f) with
    | .v (.s (.val (.func (.yield l) ⟨[]⟩ ⟨[]⟩))) => some (l, argsEv g e xs.toList ts.toList)
    | _ => none
  | _ => none
/-- A call of yield: the next element is handed over; yield hands back this or that. -/
def yieldVC (hp : List Blk) (l : Nat) (args : List AV) (K : Bool → List Blk → Prop) : Prop :=
  match Blk.look hp 0 with
  | .trace l' xs i false => l' = l ∧ xs[i]? = some args ∧ args.all AV.pure = true ∧ ∀ b, K b (hp.set 0 (.trace l xs (i + 1) (!b)))
  | _ => False

def SV.ids : SV → List Nat
  | .box id _ => [id]
  | .own _ id _ => [id]
  | .eown _ id _ _ => [id]
  | .fn _ ids => ids
  | .mp id => [id]
  | _ => []
def AV.ids : AV → List Nat
  | .s x => x.ids
  | .agg cs => cs.flatMap SV.ids
def dedup : List Nat → List Nat → List Nat
  | acc, [] => acc
  | acc, x :: l => if acc.contains x then dedup acc l else dedup (acc ++ [x]) l
/-- Blocks under other numbers. -/
def SV.ren (σ : Nat → Nat) : SV → SV
  | .box id off => .box (σ id) off
  | .own t id n => .own t (σ id) n
  | .eown t id n off => .eown t (σ id) n off
  | .fn f ids => .fn f (ids.map σ)
  | .mp id => .mp (σ id)
  | x => x
def AV.ren (σ : Nat → Nat) : AV → AV
  | .s x => .s (x.ren σ)
  | .agg cs => .agg (cs.map (SV.ren σ))
def RV.ren (σ : Nat → Nat) : RV → RV
  | .v x => .v (x.ren σ)
  | .tup xs => .tup (xs.map (AV.ren σ))
def idx : List Nat → Nat → Nat
  | [], _ => 0
  | x :: l, i => if x = i then 0 else idx l i + 1
def outId (sel : List Nat) (n j : Nat) : Nat := match sel[j]? with
  | some i => i
  | none => n + (j - sel.length)
def mergeB {α : Type} : List α → List Nat → List α → List α
  | hp, [], out => hp ++ out
  | hp, id :: sel, b :: out => mergeB (hp.set id b) sel out
  | hp, _ :: _, [] => hp
def Blk.pureB : Blk → Bool
  | .cells cs => cs.all SV.pure
  | .arr _ cs => cs.all SV.pure
  | .map _ _ _ => true
  | .dead => false
  | .trace _ _ _ _ => false
/-- A call of a function that changes slices of its caller's. -/
def effVC (hp : List Blk) (c : ECon) (args : List AV) (K : RV → List Blk → Prop) : Prop :=
  ((dedup [] (args.flatMap AV.ids)).all fun id => (Blk.look hp id).pureB) = true ∧
    c.wp (args.map (AV.ren (idx (dedup [] (args.flatMap AV.ids))))) ((dedup [] (args.flatMap AV.ids)).map (Blk.look hp)) fun rv out => K (rv.ren (outId (dedup [] (args.flatMap AV.ids)) hp.length)) (mergeB hp (dedup [] (args.flatMap AV.ids)) out)
def effOf (g : G) (e : Env) : Op → Option (ECon × List AV)
  | .call { callee := .value (.func f), args := xs, argTypes := ts } => match look g.E f with
    | some c => some (c, argsEv g e xs.toList ts.toList)
    | none => none
  | _ => none

/-- What is to be shown of an operation that is not guarded. -/
def opVC (g : G) (e : Env) (hp : List Blk) (o : Oper) (K : SL → List Blk → Prop) : Prop :=
  okOps e o.op ∧ match isMem0 o.op with
  | true => (mEv g hp e o.op).1 ∧ K ⟨true, (mEv g hp e o.op).2.1⟩ (mEv g hp e o.op).2.2
  | false => match (if g.y then yieldOf g e o.op else none) with
    | some (l, args) => yieldVC hp l args fun b hp' => K ⟨true, .v (.s (.bool b))⟩ hp'
    | none => match effOf g e o.op with
      | some (c, args) => effVC hp c args fun rv hp' => K ⟨true, rv⟩ hp'
      | none => (pEv g hp e o.type o.op).1 ∧ K ⟨true, (pEv g hp e o.type o.op).2⟩ hp

/-- What is to be shown of a region, in the order of the text. -/
def vcOps (g : G) (ops : List Oper) : List Oper → Env → List Blk → (Env → List Blk → Prop) → Prop
  | [], e, hp, K => K e hp
  | o :: r, e, hp, K => match o.guard with
    | none => opVC g e hp o fun x hp' => vcOps g ops r (putE o.dst x e) hp' K
    | some gd => match gcond ops e (some gd) with
      | none => False
      | some gc => match isMem g.ye o.op with
        | true => (gc = true → opVC g e hp o fun x hp' => vcOps g ops r (putE o.dst x e) hp' K) ∧ (gc = false → vcOps g ops r (putE o.dst ⟨false, .v (.s .any)⟩ e) hp K)
        | false => (gc = true → okOps e o.op ∧ (pEv g hp e o.type o.op).1) ∧ vcOps g ops r (putE o.dst ⟨gc, (pEv g hp e o.type o.op).2⟩ e) hp K

end Go.Am
