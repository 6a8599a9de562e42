/- What the operations do to abstract values; the quiet ones. -/
import Derived.Test.YteglanpnmnkkbaaBm2
namespace Go.Am
set_option linter.unusedVariables false
open Go.RowKit

/-- What is known of a type of the program. -/
inductive TD where
  | sc (ty : Ty)
  | slice (e : TypeId) (ety : Ty) (bytes : Nat)
  | struct (ty : Ty)
  | map (k e : TypeId) (kt vt : Ty)
  | func
  | arr (n : Nat) (e : TypeId) (ety : Ty)
  | other

def look {α : Type} : List (Nat × α) → Nat → Option α
  | [], _ => none
  | (k, x) :: r, n => if k = n then some x else look r n

/-- The zero cells of a type. -/
def Ty.zcells : Ty → List Value
  | .int k => [.int k 0]
  | .bool => [.bool false]
  | .str => [.string ByteArray.empty]
  | .slice _ => [.slice none 0 0]
  | .nil => []
  | .cons t r => t.zcells ++ r.zcells
  | .fn => [.nilFunc]
def Ty.zsv : Ty → List SV
  | .int k => [.int k 0]
  | .bool => [.bool false]
  | .str => [.str ByteArray.empty]
  | .slice t => [.sl t [] true]
  | .nil => []
  | .cons t r => t.zsv ++ r.zsv
  | .fn => [.fv .nofn]
def Ty.desc : Ty → TypeDesc
  | .int k => .int k
  | .bool => .bool
  | .str => .string
  | _ => .invalid
def Ty.scalar : Ty → Bool
  | .int _ => true
  | .bool => true
  | .str => true
  | _ => false
def Ty.sizes : Ty → List Nat
  | .cons t r => t.size :: r.sizes
  | _ => []
def Ty.offs : Ty → List Nat
  | t => (List.range t.nfld).map t.off
def cellsV : List Value → Value
  | [v] => v
  | l => .agg l.toArray

def TD.ok (P : Program) (t : TypeId) : TD → Prop
  | .sc ty => P.underlying t = some ty.desc ∧ ty.zcells.length = 1 ∧ (P.info? t).map (fun i => (i.size, i.zero)) = some (1, some (cellsV ty.zcells)) ∧ ty.scalar = true
  | .slice e ety bytes => P.underlying t = some (.slice e) ∧ 0 < ety.size ∧ (P.info? e).map (fun i => (i.size, i.bytes)) = some (ety.size, bytes) ∧
      (∃ z, (P.info? e).bind (fun i => i.zero) = some z ∧ z.cells.size = ety.size ∧ z.cells = ety.zcells.toArray) ∧ (P.info? t).map (fun i => (i.size, i.zero)) = some (1, some (.slice none 0 0))
  | .struct ty => ∃ fs : Array Field, P.underlying t = some (.struct fs) ∧ fs.toList.map (fun f => f.offset) = ty.offs ∧
      fs.toList.map (fun f => (P.info? f.type).map (fun i => i.size)) = ty.sizes.map some ∧ (∀ n ∈ ty.sizes, 0 < n) ∧ (P.info? t).map (fun i => (i.size, i.zero)) = some (ty.size, some (.agg ty.zcells.toArray))
  | .map k e kt vt => P.underlying t = some (.map k e) ∧ P.underlying k = some kt.desc ∧ (P.info? e).bind (fun i => i.zero) = some (cellsV vt.zcells) ∧ (∃ q, kt = .int q) ∧ vt.size = 1 ∧ vt.nfld = 0
  | .func => (∃ ps rs vd, P.underlying t = some (.func ps rs vd)) ∧ (P.info? t).map (fun i => (i.size, i.zero)) = some (1, some .nilFunc)
  | .arr n e ety => P.underlying t = some (.array n e) ∧ (P.info? e).map (fun i => i.size) = some ety.size ∧ (P.info? t).map (fun i => (i.size, i.zero)) = some (n * ety.size, some (.agg (List.replicate n ety.zcells).flatten.toArray))
  | .other => True

structure Con where
  pre : List AV → Prop
  val : List AV → RV

/-- What a function does that changes slices of its caller's, or makes slices that its caller may change: what is to hold of the answer and of the blocks. -/
structure ECon where
  wp : List AV → List Blk → (RV → List Blk → Prop) → Prop

structure G where
  τ : List (TypeId × TD)
  Γ : List (FuncId × Con)
  y : Bool := false
  top : Bool := true
  E : List (FuncId × ECon) := []
  fz : List Nat := []
abbrev G.ye (g : G) : Bool × List FuncId := (g.y, g.E.map (·.1))
def G.td (g : G) (t : TypeId) : TD := (look g.τ t).getD .other

/-- A nil that is given a type. -/
def coeTy : Ty → AV → AV
  | .slice t, .s (.val (.slice none 0 0)) => .s (.sl t [] true)
  | _, x => x
def RV.av : RV → AV
  | .v x => x
  | .tup _ => .s .any

/-- A nil that is given a type. -/
def coe (g : G) (t : TypeId) : RV → RV
  | .v (.s (.val (.slice none 0 0))) => match g.td t with
    | .slice _ ety _ => .v (.s (.sl ety [] true))
    | _ => .v (.s (.val (.slice none 0 0)))
  | x => x

/-- A datum as an abstract value. -/
def Ty.av (t : Ty) (x : t.T) : AV :=
  match t, x with
  | .int k, n => .s (.int k n)
  | .bool, b => .s (.bool b)
  | .str, s => .s (.str s)
  | .slice t, xs => .s (.sl t xs false)
  | .nil, _ => .agg []
  | .cons t r, x => .agg ((Ty.cons t r).flat x)
  | .fn, x => .s (.fv x)

def AV.cells : AV → List SV
  | .s x => [x]
  | .agg cs => cs
/-- An abstract value as a datum. -/
def Ty.of (t : Ty) : AV → Option t.T
  | .s y => if t.nfld = 0 then (match t.parse [y] with
    | some (z, []) => some z
    | _ => none) else none
  | .agg cs => if t.nfld = 0 then none else (match t.parse cs with
    | some (z, []) => some z
    | _ => none)

def inI64 (n : Int) : Prop := -9223372036854775808 ≤ n ∧ n ≤ 9223372036854775807

def arith (k : IntKind) (n : Int) : Prop × RV :=
  match k with
  | .i64 => (inI64 n, .v (.s (.int k n)))
  | k => (True, .v (.s (.int k (k.wrap n))))

def intEv (op : BinOp) (k : IntKind) (a b : Int) : Prop × RV :=
  match op with
  | .add => arith k (a + b)
  | .sub => arith k (a - b)
  | .mul => arith k (a * b)
  | .quo => ((b ≠ 0 ∧ (arith k (a.tdiv b)).1), (arith k (a.tdiv b)).2)
  | .rem => (b ≠ 0, .v (.s (.int k (a.tmod b))))
  | .eql => (True, .v (.s (.bool (a == b))))
  | .neq => (True, .v (.s (.bool (a != b))))
  | .lss => (True, .v (.s (.bool (decide (a < b)))))
  | .leq => (True, .v (.s (.bool (decide (a ≤ b)))))
  | .gtr => (True, .v (.s (.bool (decide (b < a)))))
  | .geq => (True, .v (.s (.bool (decide (b ≤ a)))))
  | .shr => (0 ≤ b ∧ b ≤ 8, .v (.s (.int k (a.fdiv (2 ^ b.toNat)))))
  | _ => (False, .v (.s .any))

def TD.isBool : TD → Bool
  | .sc .bool => true
  | _ => false
def binEv (g : G) (op : BinOp) (t : TypeId) (x y : AV) : Prop × RV :=
  match x, y with
  | .s (.int k a), .s (.int k' b) => ((k = k' ∧ (intEv op k a b).1), (intEv op k a b).2)
  | .s (.bool a), .s (.bool b) => match op with
    | .eql => ((g.td t).isBool = true, .v (.s (.bool (a == b))))
    | .neq => ((g.td t).isBool = true, .v (.s (.bool (a != b))))
    | _ => (False, .v (.s .any))
  | .s (.sl _ xs _), .s (.val (.slice none 0 0)) => match op, g.td t with
    | .eql, .slice _ _ _ => (True, .v (.s (.ib (xs = []) True)))
    | .neq, .slice _ _ _ => (True, .v (.s (.ib True (xs = []))))
    | _, _ => (False, .v (.s .any))
  | _, _ => (False, .v (.s .any))

def unEv (op : UnOp) (x : AV) : Prop × RV :=
  match op, x with
  | .not, .s (.bool b) => (True, .v (.s (.bool (!b))))
  | .not, .s (.ib p q) => (True, .v (.s (.ib q p)))
  | .neg, .s (.int .i64 n) => (inI64 (-n), .v (.s (.int .i64 (-n))))
  | .xor, .s (.int .i64 n) => (inI64 n, .v (.s (.int .i64 (-n - 1))))
  | _, _ => (False, .v (.s .any))

def pickEv (c a b : AV) : Prop × RV :=
  match c, a, b with
  | .s (.bool c), .s (.bool x), .s (.bool y) => (True, .v (.s (.bool (if c then x else y))))
  | .s (.bool c), .s .any, .s (.bool y) => (c = false, .v (.s (.bool y)))
  | .s (.bool c), .s (.bool x), .s .any => (c = true, .v (.s (.bool x)))
  | _, _, _ => (False, .v (.s .any))

def takeAt (l : List SV) (off n : Nat) : List SV := (l.drop off).take n

def loadCs (g : G) (t : TypeId) (cs : List SV) (off : Nat) : Prop × RV :=
  match g.td t with
  | .struct ty => (off + ty.size ≤ cs.length, .v (.agg (takeAt cs off ty.size)))
  | .map .. => (False, .v (.s .any))
  | .arr .. => (False, .v (.s .any))
  | .other => (False, .v (.s .any))
  | _ => (off < cs.length, .v (.s ((cs[off]?).getD .any)))
def loadEv (g : G) (hp : List Blk) (t : TypeId) (a : AV) : Prop × RV :=
  match a with
  | .s (.eptr ty x) => match g.td t with
    | .sc ty' => (ty = ty', .v (ty.av x))
    | .slice _ ety _ => (ty = .slice ety, .v (ty.av x))
    | .struct ty' => (ty = ty' ∧ ty'.nfld ≠ 0, .v (ty.av x))
    | .func => (ty = .fn, .v (ty.av x))
    | _ => (False, .v (.s .any))
  | .s (.box id off) => match Blk.look hp id with
    | .cells cs => loadCs g t cs off
    | _ => (False, .v (.s .any))
  | .s (.eown ty id n off) => match Blk.look hp id with
    | .arr _ cs => ((cs.length = n * ty.size ∧ (loadCs g t cs off).1), (loadCs g t cs off).2)
    | _ => (False, .v (.s .any))
  | _ => (False, .v (.s .any))

def fieldAddrEv (g : G) (hp : List Blk) (s : TypeId) (x : AV) (f : Nat) : Prop × RV :=
  match g.td s, x with
  | .struct ty, .s (.eptr ty' y) => (ty' = ty ∧ f < ty.nfld, .v (.s (.eptr (ty'.fld f) (ty'.get y f))))
  | .struct ty, .s (.box id off) => match Blk.look hp id with
    | .cells _ => (f < ty.nfld, .v (.s (.box id (off + ty.off f))))
    | _ => (False, .v (.s .any))
  | .struct ty, .s (.eown t id n off) => match Blk.look hp id with
    | .arr _ cs => (cs.length = n * t.size ∧ f < ty.nfld, .v (.s (.eown t id n (off + ty.off f))))
    | _ => (False, .v (.s .any))
  | _, _ => (False, .v (.s .any))

def indexAddrEv (g : G) (hp : List Blk) (t : TypeId) (x i : AV) : Prop × RV :=
  match g.td t, x, i with
  | .slice _ ety _, .s (.own ty id n), .s (.int _ k) => match Blk.look hp id with
    | .arr al cs => (al = true ∧ ty = ety ∧ cs.length = n * ty.size ∧ 0 ≤ k ∧ k < n, .v (.s (.eown ty id n (k.toNat * ty.size))))
    | _ => (False, .v (.s .any))
  | .arr n _ ety, .s (.box id off), .s (.int _ k) => match Blk.look hp id with
    | .cells _ => (0 ≤ k ∧ k < n, .v (.s (.box id (off + k.toNat * ety.size))))
    | _ => (False, .v (.s .any))
  | .slice _ ety _, .s (.sl ty xs _), .s (.int _ n) => (ty = ety ∧ 0 ≤ n ∧ n < xs.length, .v (.s (.eptr ty (xs.getD n.toNat ty.dflt))))
  | _, _, _ => (False, .v (.s .any))

def bound (d : Int) : Option RV → Option Int
  | none => some d
  | some (.v (.s (.int _ n))) => some n
  | some _ => none

def sliceEv (g : G) (t : TypeId) (x : AV) (lo hi mx : Option RV) : Prop × RV :=
  match g.td t, x with
  | .slice _ ety _, .s (.sl ty xs _) => match bound 0 lo, bound xs.length hi, bound xs.length mx with
    | some l, some h, some m => (ty = ety ∧ 0 ≤ l ∧ l ≤ h ∧ h ≤ m ∧ m ≤ xs.length ∧ (mx.isSome = true → hi.isSome = true), .v (.s (.sl ty ((xs.take h.toNat).drop l.toNat) (mx.isSome && (h == m)))))
    | _, _, _ => (False, .v (.s .any))
  | _, _ => (False, .v (.s .any))

/-- len; also of a slice of the call's own. -/
def lenEv (g : G) (hp : List Blk) (t : TypeId) (x : AV) : Prop × RV :=
  match g.td t, x with
  | .slice .., .s (.sl _ xs _) => (True, .v (.s (.int .i64 xs.length)))
  | .sc .str, .s (.str s) => (True, .v (.s (.int .i64 s.size)))
  | .slice .., .s (.val (.slice none 0 0)) => (True, .v (.s (.int .i64 0)))
  | .slice .., .s (.own t id n) => match Blk.look hp id with
    | .arr _ cs => (cs.length = n * t.size, .v (.s (.int .i64 n)))
    | _ => (False, .v (.s .any))
  | _, _ => (False, .v (.s .any))

def minEv (mx : Bool) : List AV → Prop × RV
  | [.s (.int k a), .s (.int k' b)] => (k = k', .v (.s (.int k (if mx then (if a < b then b else a) else (if b < a then b else a)))))
  | _ => (False, .v (.s .any))

/-- The entry of a key; an entry laid into a map. -/
def mget {α β : Type} (eq : α → α → Bool) (k : α) : List (α × β) → Option β
  | [] => none
  | (a, b) :: r => if eq k a then some b else mget eq k r
def mput {α β : Type} (eq : α → α → Bool) (k : α) (v : β) : List (α × β) → List (α × β)
  | [] => [(k, v)]
  | (a, b) :: r => if eq k a then (k, v) :: r else (a, b) :: mput eq k v r
def Ty.beq : (t : Ty) → t.T → t.T → Bool
  | .int _, a, b => a == b
  | _, _, _ => false

def lookupEv (g : G) (hp : List Blk) (t : TypeId) (m k : AV) (ok : Bool) : Prop × RV :=
  match g.td t, m with
  | .map _ _ kt vt, .s (.mp id) => match Blk.look hp id with
    | .map kt' vt' es => match kt'.of k with
      | some key => (kt' = kt ∧ vt' = vt, if ok then .tup [vt'.av ((mget kt'.beq key es).getD vt'.dflt), .s (.bool (mget kt'.beq key es).isSome)] else .v (vt'.av ((mget kt'.beq key es).getD vt'.dflt)))
      | none => (False, .v (.s .any))
    | _ => (False, .v (.s .any))
  | _, _ => (False, .v (.s .any))

def allBox (hp : List Blk) : List RV → Option (List Nat)
  | [] => some []
  | .v (.s (.box id 0)) :: r => match Blk.look hp id with
    | .cells _ => (allBox hp r).map (id :: ·)
    | _ => none
  | _ :: _ => none

def lenArgs (g : G) (hp : List Blk) (ρ : Operand → RV) : List Operand → List TypeId → Prop × RV
  | [x], [u] => lenEv g hp u (ρ x).av
  | _, _ => (False, .v (.s .any))
def allEp : List RV → Option (List (Sigma Ty.T))
  | [] => some []
  | .v (.s (.eptr t x)) :: r => (allEp r).map (⟨t, x⟩ :: ·)
  | _ :: _ => none
def funcEv (f : FuncId) : List Operand → Option (List Nat) → Option (List (Sigma Ty.T)) → Prop × RV
  | [], some [], _ => (True, .v (.s (.fnp f [])))
  | [], some ids, _ => (True, .v (.s (.fn f ids)))
  | [], none, some caps => (True, .v (.s (.fnp f caps)))
  | _, _, _ => (False, .v (.s .any))
def extractEv : RV → Nat → Prop × RV
  | .tup xs, i => (i < xs.length, .v ((xs[i]?).getD (.s .any)))
  | _, _ => (False, .v (.s .any))
/-- The quiet operations: what is asked, and the value. -/
def convEv (g : G) (s d : TypeId) (x : AV) : Prop × RV :=
  match g.td s, g.td d, x with
  | .sc (.int _), .sc (.int k), .s (.int _ n) => (True, .v (.s (.int k (k.wrap n))))
  | .sc .str, .sc .str, .s (.str b) => (True, .v (.s (.str b)))
  | _, _, _ => (False, .v (.s .any))
def qEv (g : G) (hp : List Blk) (ρ : Operand → RV) (t : TypeId) : Op → Prop × RV
  | .move x => (True, coe g t (ρ x))
  | .assign x => (True, coe g t (ρ x))
  | .pick c a b => pickEv (ρ c).av (ρ a).av (ρ b).av
  | .load u a => loadEv g hp u (ρ a).av
  | .binOp op u x y _ => binEv g op u (ρ x).av (ρ y).av
  | .unOp op _ x => unEv op (ρ x).av
  | .fieldAddr s x f => fieldAddrEv g hp s (ρ x).av f
  | .indexAddr s x i => indexAddrEv g hp s (ρ x).av (ρ i).av
  | .slice s x lo hi mx => sliceEv g s (ρ x).av (lo.map ρ) (hi.map ρ) (mx.map ρ)
  | .extract x i => extractEv (ρ x) i
  | .convert s d x => convEv g s d (ρ x).av
  | .lookup u m k ok => lookupEv g hp u (ρ m).av (ρ k).av ok
  | .makeFunc (.func f) first caps => funcEv f first.toList (allBox hp (caps.toList.map ρ)) (allEp (caps.toList.map ρ))
  | .call { callee := .builtin .len, args := xs, argTypes := ts } => lenArgs g hp ρ xs.toList ts.toList
  | .call { callee := .builtin .min, args := xs, argTypes := _ } => minEv false (xs.toList.map fun x => (ρ x).av)
  | .call { callee := .builtin .max, args := xs, argTypes := _ } => minEv true (xs.toList.map fun x => (ρ x).av)
  | _ => (False, .v (.s .any))
end Go.Am
