/- The verification condition, told so that simp does not look ahead. -/
import Derived.Test.YteglanpnmnkkbaaBm13
namespace Go.Am
set_option linter.unusedVariables false
open Go.RowKit

/-- A mark: what it is of is not simplified. -/
structure Dum {α : Type} (x : α) : Type where

section
variable {P : Program} {g : G} {X : XT} {N : Nat} {L : Cfg}

def WpD (P : Program) (g : G) (X : XT) (N : Nat) (c : Code) (s : St) (K : Exit → St → Prop) (_ : Dum (c, K)) : Prop := Wp P g X N c s K
def thenKD (K1 : St → Prop) (K : Exit → St → Prop) (_ : Dum (K1, K)) (e : Exit) (s : St) : Prop := thenK K1 K e s
def inBlockKD (id : Nat) (K : Exit → St → Prop) (_ : Dum K) (e : Exit) (s : St) : Prop := inBlockK id K e s
def noGotoKD (K : Exit → St → Prop) (_ : Dum K) (e : Exit) (s : St) : Prop := noGotoK K e s
def roundKD (KJ : Exit → List Blk → Prop) (R : List Blk → Prop) (n : Nat) (_ : Dum (KJ, R)) (e : Exit) (s : St) : Prop := roundK KJ R n e s
def opVCD (g : G) (e : Env) (hp : List Blk) (o : Oper) (K : SL → List Blk → Prop) (_ : Dum (o, K)) : Prop := opVC g e hp o K
def effVCD (hp : List Blk) (c : ECon) (args : List AV) (K : RV → List Blk → Prop) (_ : Dum K) : Prop := effVC hp c args K
def yieldVCD (hp : List Blk) (l : Nat) (args : List AV) (K : Bool → List Blk → Prop) (_ : Dum K) : Prop := yieldVC hp l args K
def vcOpsD (g : G) (ops l : List Oper) (e : Env) (hp : List Blk) (K : Env → List Blk → Prop) (_ : Dum ((ops, l), K)) : Prop := vcOps g ops l e hp K
def vcAllD (g : G) (ops : List Oper) (f : Nat) (done : List Nat) (e : Env) (hp : List Blk) (K : Env → List Blk → Prop) (_ : Dum (ops, K)) : Prop := vcAll g ops f done e hp K
def vcFlD (g : G) (ops : List Oper) (ps : List (Nat × Nat)) (l : List Oper) (e : Env) (hp : List Blk) (acc : List (Env × List Blk)) (_ : Dum (ops, l)) : Prop := vcFl g ops ps l e hp acc
def flPairs (g : G) (ops : List Oper) (l : List (Env × List Blk)) : (ps : List (Nat × Nat)) → Dum ops → Prop
  | [], _ => True
  | p :: r, _ => (match l[p.1]?, l[p.2]? with
    | some s, some s' => eqAt g ops p.1 s s'
    | _, _ => False) ∧ flPairs g ops l r ⟨⟩
def flOfD (g : G) (fl : List (Nat × List (Nat × Nat))) (id : Nat) (ops : List Oper) (s : St) (_ : Dum ops) : Prop := flOf g fl id ops s
def vcFrD (g : G) (ops : List Oper) (fr : List (Nat × List Nat)) (i : Nat) (l : List Oper) (s : St) (K : St → Prop) (_ : Dum ((ops, l), K)) : Prop := vcFr g ops fr i l s K
def frzSlotD (k : Nat) (s : St) (K : St → Prop) (_ : Dum K) : Prop := frzSlot k s K
def epsSlotD (k : Nat) (s : St) (K : St → Prop) (_ : Dum K) : Prop := epsSlot k s K
def epsSlotsD (l : List Nat) (s : St) (K : St → Prop) (_ : Dum K) : Prop := epsSlots l s K
def frzSlotsD (l : List Nat) (s : St) (K : St → Prop) (_ : Dum K) : Prop := frzSlots l s K
def vcD (P : Program) (g : G) (X : XT) (N : Nat) (L : Cfg) (c : Code) (s : St) (K : Exit → St → Prop) (_ : Dum ((c, L), K)) : Prop := vc P g X N L c s K
def isCutD (l : List Nat) (x : Code) (_ : Dum x) : Bool := isCut l x
def firstRegD (x : Code) (_ : Dum x) : Option Nat := firstReg x
def vcCondD (x : SL) (A B : Prop) : Prop := vcCond x A B

variable {K : Exit → St → Prop} {K1 : St → Prop} {s : St}
theorem thenKD_normal {d : Dum (K1, K)} : thenKD K1 K d .normal s = K1 s := rfl
theorem thenKD_exit {d : Dum (K1, K)} {id : Nat} : thenKD K1 K d (.exit id) s = K (.exit id) s := rfl
theorem thenKD_goto {d : Dum (K1, K)} {id : Nat} : thenKD K1 K d (.goto id) s = K (.goto id) s := rfl
theorem thenKD_ret {d : Dum (K1, K)} : thenKD K1 K d .ret s = K .ret s := rfl
theorem inBlockKD_normal {i : Nat} {d : Dum K} : inBlockKD i K d .normal s = K .normal s := rfl
theorem inBlockKD_exit {i j : Nat} {d : Dum K} : inBlockKD i K d (.exit j) s = if j = i then K .normal s else K (.exit j) s := rfl
theorem inBlockKD_goto {i j : Nat} {d : Dum K} : inBlockKD i K d (.goto j) s = K (.goto j) s := rfl
theorem inBlockKD_ret {i : Nat} {d : Dum K} : inBlockKD i K d .ret s = K .ret s := rfl
theorem noGotoKD_normal {d : Dum K} : noGotoKD K d .normal s = K .normal s := rfl
theorem noGotoKD_exit {d : Dum K} {j : Nat} : noGotoKD K d (.exit j) s = K (.exit j) s := rfl
theorem noGotoKD_goto {d : Dum K} {j : Nat} : noGotoKD K d (.goto j) s = False := rfl
theorem noGotoKD_ret {d : Dum K} : noGotoKD K d .ret s = K .ret s := rfl
theorem roundKD_normal {KJ : Exit → List Blk → Prop} {R : List Blk → Prop} {n : Nat} {d : Dum (KJ, R)} : roundKD KJ R n d .normal s = ∃ hp', TrT n s.hp hp' ∧ R hp' := rfl
theorem roundKD_exit {KJ : Exit → List Blk → Prop} {R : List Blk → Prop} {n : Nat} {d : Dum (KJ, R)} {j : Nat} : roundKD KJ R n d (.exit j) s = KJ (.exit j) s.hp := rfl
theorem roundKD_goto {KJ : Exit → List Blk → Prop} {R : List Blk → Prop} {n : Nat} {d : Dum (KJ, R)} {j : Nat} : roundKD KJ R n d (.goto j) s = KJ (.goto j) s.hp := rfl
theorem roundKD_ret {KJ : Exit → List Blk → Prop} {R : List Blk → Prop} {n : Nat} {d : Dum (KJ, R)} : roundKD KJ R n d .ret s = KJ .ret s.hp := rfl

def eptrOf : Sigma Ty.T → SV
  | ⟨t, x⟩ => .eptr t x
theorem eptrOf_mk {t : Ty} {x : t.T} : eptrOf ⟨t, x⟩ = .eptr t x := rfl
theorem epsSlotsD_nil {d : Dum K1} : epsSlotsD [] s K1 d = K1 s := rfl
theorem epsSlotsD_cons {k : Nat} {r : List Nat} {d : Dum K1} : epsSlotsD (k :: r) s K1 d = epsSlotD k s (fun s' => epsSlotsD r s' K1 ⟨⟩) ⟨⟩ := rfl
theorem epsSlotD_eq {k : Nat} {d : Dum K1} : epsSlotD k s K1 d = match look s.e k with
  | some ⟨true, .v (.s (.box b 0))⟩ => match boxCap s.hp b with
    | some c => K1 ⟨(k, ⟨true, .v (.s (eptrOf c))⟩) :: s.e, s.hp.set b .dead⟩
    | none => False
  | _ => K1 s := rfl
theorem frzSlotsD_nil {d : Dum K1} : frzSlotsD [] s K1 d = K1 s := rfl
theorem frzSlotsD_cons {k : Nat} {r : List Nat} {d : Dum K1} : frzSlotsD (k :: r) s K1 d = frzSlotD k s (fun s' => frzSlotsD r s' K1 ⟨⟩) ⟨⟩ := rfl
theorem frzSlotD_eq {k : Nat} {d : Dum K1} : frzSlotD k s K1 d = match look s.e k with
  | some ⟨true, .v (.s (.own t id n))⟩ => match Blk.look s.hp id with
    | .arr _ cs => ∃ xs : List t.T, cs = t.flats xs ∧ n = xs.length ∧ K1 ⟨(k, ⟨true, .v (.s (.sl t xs false))⟩) :: s.e, s.hp.set id .dead⟩
    | _ => False
  | some ⟨true, .v (.s (.box b off))⟩ => match Blk.look s.hp b with
    | .cells bc => match bc[off]? with
      | some (.own t id n) => match Blk.look s.hp id with
        | .arr _ cs => ∃ xs : List t.T, cs = t.flats xs ∧ n = xs.length ∧ K1 ⟨s.e, (s.hp.set b (.cells (bc.set off (.sl t xs false)))).set id .dead⟩
        | _ => False
      | _ => K1 s
    | _ => K1 s
  | _ => K1 s := rfl

theorem yieldVCD_trace {hp : List Blk} {l l' : Nat} {xs : List (List AV)} {i : Nat} {args : List AV} {KB : Bool → List Blk → Prop} {d : Dum KB} : yieldVCD (.trace l' xs i false :: hp) l args KB d = (l' = l ∧ xs[i]? = some args ∧ args.all AV.pure = true ∧ ∀ b, KB b (.trace l xs (i + 1) (!b) :: hp)) := rfl

theorem opVCD_eq {e : Env} {hp : List Blk} {o : Oper} {KO : SL → List Blk → Prop} {d : Dum (o, KO)} : opVCD g e hp o KO d = (okOps e o.op ∧ match isMem0 o.op with
  | true => (mEv g hp e o.op).1 ∧ KO ⟨true, (mEv g hp e o.op).2.1⟩ (mEv g hp e o.op).2.2
  | false => match (if g.y then yieldOf g e o.op else none) with
    | some (l, args) => yieldVCD hp l args (fun b hp' => KO ⟨true, .v (.s (.bool b))⟩ hp') ⟨⟩
    | none => match effOf g e o.op with
      | some (c, args) => effVCD hp c args (fun rv hp' => KO ⟨true, rv⟩ hp') ⟨⟩
      | none => (pEv g hp e o.type o.op).1 ∧ KO ⟨true, (pEv g hp e o.type o.op).2⟩ hp) := rfl
theorem effVCD_eq {hp : List Blk} {c : ECon} {args : List AV} {KE : RV → List Blk → Prop} {d : Dum KE} : effVCD hp c args KE d = (((dedup [] (args.flatMap AV.ids)).all fun id => (Blk.look hp id).pureB) = true ∧
    c.wp (args.map (AV.ren (idx (dedup [] (args.flatMap AV.ids))))) ((dedup [] (args.flatMap AV.ids)).map (Blk.look hp)) fun rv out => KE (rv.ren (outId (dedup [] (args.flatMap AV.ids)) hp.length)) (mergeB hp (dedup [] (args.flatMap AV.ids)) out)) := rfl

theorem vcOpsD_nil {ops : List Oper} {e : Env} {hp : List Blk} {KE : Env → List Blk → Prop} {d : Dum ((ops, ([] : List Oper)), KE)} : vcOpsD g ops [] e hp KE d = KE e hp := rfl
theorem vcOpsD_cons {ops r : List Oper} {o : Oper} {e : Env} {hp : List Blk} {KE : Env → List Blk → Prop} {d : Dum ((ops, o :: r), KE)} : vcOpsD g ops (o :: r) e hp KE d = match o.guard with
    | none => opVCD g e hp o (fun x hp' => vcOpsD g ops r (putE o.dst x e) hp' KE ⟨⟩) ⟨⟩
    | some gd => match gcond ops e (some gd) with
      | none => False
      | some gc => match isMem g.ye o.op with
        | true => (gc = true → opVCD g e hp o (fun x hp' => vcOpsD g ops r (putE o.dst x e) hp' KE ⟨⟩) ⟨⟩) ∧ (gc = false → vcOpsD g ops r (putE o.dst ⟨false, .v (.s .any)⟩ e) hp KE ⟨⟩)
        | false => (gc = true → okOps e o.op ∧ (pEv g hp e o.type o.op).1) ∧ vcOpsD g ops r (putE o.dst ⟨gc, (pEv g hp e o.type o.op).2⟩ e) hp KE ⟨⟩ := rfl

def edgA (o : Oper) : List Nat := (o.after.toList.filter (fun e => match e.ground with | .textOnly _ => false | .gcOnly _ => false | _ => true)).map (·.on)
theorem edg_eq (o : Oper) : edg o = edgA o := by
  have h : ∀ l : List Edge, l.filter (Region.binds .any) = l.filter (fun e => match e.ground with | .textOnly _ => false | .gcOnly _ => false | _ => true) := by
    intro l
    refine List.filter_congr fun e _ => ?_
    unfold Region.binds
    cases e.ground <;> rfl
  unfold edg edgA
  rw [h]
def readyAux (done : List Nat) : Nat → List Oper → List Nat
  | _, [] => []
  | i, o :: r => if (!done.contains i && (edgA o).all fun k => done.contains k) = true then i :: readyAux done (i + 1) r else readyAux done (i + 1) r
theorem readyAux_eq (ops : List Oper) (done : List Nat) : ∀ (l : List Oper) (k : Nat), (∀ j : Nat, ops[k + j]? = l[j]?) → readyAux done k l = (List.range' k l.length).filter fun j => !done.contains j && match ops[j]? with
    | some o => (edg o).all fun k => done.contains k
    | none => false
  | [], k, _ => rfl
  | o :: r, k, h => by
    have h0 : ops[k]? = some o := by simpa using h 0
    have ih := readyAux_eq ops done r (k + 1) (fun j => by have := h (j + 1); rw [show k + 1 + j = k + (j + 1) by omega]; simpa using this)
    simp only [readyAux, List.length_cons, List.range'_succ, List.filter_cons, h0, edg_eq]
    rw [ih]
    simp only [edg_eq]
theorem readyL_eq (ops : List Oper) (done : List Nat) : readyL ops done = readyAux done 0 ops := by
  rw [readyAux_eq ops done ops 0 (fun j => by simp), readyL, List.range_eq_range']
  rfl
theorem vcAllD_zero {ops : List Oper} {done : List Nat} {e : Env} {hp : List Blk} {KE : Env → List Blk → Prop} {d : Dum (ops, KE)} : vcAllD g ops 0 done e hp KE d = ((readyAux done 0 ops).isEmpty = true ∧ KE e hp) := by rw [← readyL_eq]; rfl
def atD (g : G) (ops : List Oper) (f : Nat) (done : List Nat) (e : Env) (hp : List Blk) (K : Env → List Blk → Prop) (j : Nat) (_ : Dum (ops, K)) : Prop := match ops[j]? with
  | some o => vcOps g ops [o] e hp fun e' hp' => vcAll g ops f (j :: done) e' hp' K
  | none => False
def allAtD (g : G) (ops : List Oper) (f : Nat) (done : List Nat) (e : Env) (hp : List Blk) (K : Env → List Blk → Prop) (js : List Nat) (_ : Dum (ops, K)) : Prop := allP js fun j => match ops[j]? with
  | some o => vcOps g ops [o] e hp fun e' hp' => vcAll g ops f (j :: done) e' hp' K
  | none => False
theorem allAtD_nil {ops : List Oper} {f : Nat} {done : List Nat} {e : Env} {hp : List Blk} {KE : Env → List Blk → Prop} {d : Dum (ops, KE)} : allAtD g ops f done e hp KE [] d = True := rfl
theorem allAtD_cons {ops : List Oper} {f j : Nat} {js : List Nat} {done : List Nat} {e : Env} {hp : List Blk} {KE : Env → List Blk → Prop} {d : Dum (ops, KE)} : allAtD g ops f done e hp KE (j :: js) d = ((match ops[j]? with
  | some o => vcOpsD g ops [o] e hp (fun e' hp' => vcAllD g ops f (j :: done) e' hp' KE ⟨⟩) ⟨⟩
  | none => False) ∧ allAtD g ops f done e hp KE js ⟨⟩) := rfl
theorem vcAllD_succ {ops : List Oper} {f : Nat} {done : List Nat} {e : Env} {hp : List Blk} {KE : Env → List Blk → Prop} {d : Dum (ops, KE)} : vcAllD g ops (f + 1) done e hp KE d = (((readyAux done 0 ops).isEmpty = true → KE e hp) ∧ allAtD g ops f done e hp KE (readyAux done 0 ops) ⟨⟩) := by rw [← readyL_eq]; rfl
theorem vcD_skip {d : Dum ((Code.skip, L), K)} : vcD P g X N L .skip s K d = K .normal s := rfl
theorem vcD_label {l : Nat} {d : Dum ((Code.label l, L), K)} : vcD P g X N L (.label l) s K d = K .normal s := rfl
theorem vcD_exit {l : Nat} {d : Dum ((Code.exit l, L), K)} : vcD P g X N L (.exit l) s K d = K (.exit l) s := rfl
theorem vcD_goto {l : Nat} {d : Dum ((Code.goto l, L), K)} : vcD P g X N L (.goto l) s K d = K (.goto l) s := rfl
theorem vcD_ret {d : Dum ((Code.ret, L), K)} : vcD P g X N L .ret s K d = K .ret s := rfl
theorem vcD_region {id : Nat} {ops : List Oper} {dr : Bool} {d : Dum ((Code.region id (List.toArray ops) dr, L), K)} : vcD P g X N L (.region id (List.toArray ops) dr) s K d =
    frzSlotsD ((look L.frz id).getD []) s (fun s => epsSlotsD ((look L.eps id).getD []) s (fun s => match dr && L.all.contains id with
    | true => vcAllD g ops ops.length [] s.e s.hp (fun e hp => K .normal ⟨keepE L.live e, hp⟩) ⟨⟩
    | false => match look L.fin id with
      | some fr => vcFrD g ops fr 0 ops s (fun s => K .normal ⟨keepE L.live s.e, s.hp⟩) ⟨⟩
      | none => vcOpsD g ops ops s.e s.hp (fun e hp => K .normal ⟨keepE L.live e, hp⟩) ⟨⟩ ∧ flOfD g L.fl id ops s ⟨⟩) ⟨⟩) ⟨⟩ := rfl
theorem vcFrD_nil {ops : List Oper} {fr : List (Nat × List Nat)} {i : Nat} {d : Dum ((ops, ([] : List Oper)), K1)} : vcFrD g ops fr i [] s K1 d = K1 s := rfl
theorem vcFrD_cons {ops r : List Oper} {o : Oper} {fr : List (Nat × List Nat)} {i : Nat} {d : Dum ((ops, o :: r), K1)} : vcFrD g ops fr i (o :: r) s K1 d =
    frzSlotsD ((look fr i).getD []) s (fun s => vcOpsD g ops [o] s.e s.hp (fun e hp => vcFrD g ops fr (i + 1) r ⟨e, hp⟩ K1 ⟨⟩) ⟨⟩) ⟨⟩ := rfl
theorem flOfD_nil {id : Nat} {ops : List Oper} {d : Dum ops} : flOfD g [] id ops s d = True := rfl
theorem flOfD_cons {id k : Nat} {ps : List (Nat × Nat)} {r : List (Nat × List (Nat × Nat))} {ops : List Oper} {d : Dum ops} : flOfD g ((k, ps) :: r) id ops s d = match look ((k, ps) :: r) id with
  | some ps => vcFlD g ops ps ops s.e s.hp [] ⟨⟩
  | none => True := rfl
theorem vcFlD_cons {ops r : List Oper} {o : Oper} {ps : List (Nat × Nat)} {e : Env} {hp : List Blk} {acc : List (Env × List Blk)} {d : Dum (ops, o :: r)} : vcFlD g ops ps (o :: r) e hp acc d =
    vcFlD g ops ps r (putE o.dst (match isMem0 o.op with
      | true => match gcond ops e o.guard with
        | some true => ⟨true, (mEv g hp e o.op).2.1⟩
        | _ => ⟨false, .v (.s .any)⟩
      | false => match o.guard with
        | none => ⟨true, (pEv g hp e o.type o.op).2⟩
        | some gd => match gcond ops e (some gd) with
          | some gc => ⟨gc, (pEv g hp e o.type o.op).2⟩
          | none => junk) e) (match isMem0 o.op with
      | true => match gcond ops e o.guard with
        | some true => (mEv g hp e o.op).2.2
        | _ => hp
      | false => hp) (acc ++ [(e, hp)]) ⟨⟩ := rfl
theorem vcFlD_nil {ops : List Oper} {ps : List (Nat × Nat)} {e : Env} {hp : List Blk} {acc : List (Env × List Blk)} {d : Dum (ops, ([] : List Oper))} : vcFlD g ops ps [] e hp acc d = flPairs g ops (acc ++ [(e, hp)]) ps ⟨⟩ := by
  apply propext
  unfold vcFlD vcFl
  generalize acc ++ [(e, hp)] = l
  constructor
  · intro h
    induction ps with
    | nil => trivial
    | cons p r ih => exact ⟨h p (by simp), ih fun q hq => h q (by simp [hq])⟩
  · intro h
    induction ps with
    | nil => simp
    | cons p r ih =>
      obtain ⟨h1, h2⟩ := h
      intro q hq
      rcases List.mem_cons.1 hq with rfl | hq
      · exact h1
      · exact ih h2 q hq
theorem flPairs_nil {ops : List Oper} {l : List (Env × List Blk)} {d : Dum ops} : flPairs g ops l [] d = True := rfl
theorem flPairs_cons {ops : List Oper} {l : List (Env × List Blk)} {i q : Nat} {r : List (Nat × Nat)} {d : Dum ops} : flPairs g ops l ((i, q) :: r) d = ((match l[i]?, l[q]? with
    | some s, some s' => match ops[i]? with
      | some o => (pEv g s'.2 s.1 o.type o.op).1 ∧ (pEv g s'.2 s.1 o.type o.op).2 = (pEv g s.2 s.1 o.type o.op).2
      | none => True
    | _, _ => False) ∧ flPairs g ops l r ⟨⟩) := rfl
theorem vcD_seq {x y : Code} {d : Dum ((Code.seq x y, L), K)} (h : isCutD L.cut x ⟨⟩ = false) : vcD P g X N L (.seq x y) s K d = vcD P g X N L x s (thenKD (fun s' => vcD P g X N L y s' K ⟨⟩) K ⟨⟩) ⟨⟩ := by
  unfold isCutD at h
  simp only [vcD, vc, h]
  rfl
theorem vcD_seqC {x y : Code} {d : Dum ((Code.seq x y, L), K)} (h : isCutD L.cut x ⟨⟩ = true) : vcD P g X N L (.seq x y) s K d = WpD P g X N (.seq x y) s K ⟨⟩ := by
  unfold isCutD at h
  simp only [vcD, vc, h]
  rfl
theorem isCutD_nil {x : Code} {d : Dum x} : isCutD [] x d = false := by unfold isCutD isCut; cases firstReg x <;> rfl
theorem isCutD_cons {x : Code} {l : List Nat} {k : Nat} {d : Dum x} : isCutD (k :: l) x d = match firstRegD x ⟨⟩ with
  | some id => (k :: l).contains id
  | none => false := rfl
theorem firstReg_region {id : Nat} {ops : Array Oper} {dr : Bool} {d : Dum (Code.region id ops dr)} : firstRegD (.region id ops dr) d = some id := rfl
theorem firstReg_seq {x y : Code} {d : Dum (Code.seq x y)} : firstRegD (.seq x y) d = firstRegD x ⟨⟩ := rfl
theorem firstReg_skip {d : Dum Code.skip} : firstRegD .skip d = none := rfl
theorem firstReg_ret {d : Dum Code.ret} : firstRegD .ret d = none := rfl
theorem firstReg_label {l : Nat} {d : Dum (Code.label l)} : firstRegD (.label l) d = none := rfl
theorem firstReg_exit {l : Nat} {d : Dum (Code.exit l)} : firstRegD (.exit l) d = none := rfl
theorem firstReg_goto {l : Nat} {d : Dum (Code.goto l)} : firstRegD (.goto l) d = none := rfl
theorem firstReg_cond {o : Operand} {x y : Code} {d : Dum (Code.cond o x y)} : firstRegD (.cond o x y) d = none := rfl
theorem firstReg_block {i : Nat} {x : Code} {d : Dum (Code.block i x)} : firstRegD (.block i x) d = none := rfl
theorem firstReg_scope {x : Code} {d : Dum (Code.scope x)} : firstRegD (.scope x) d = none := rfl
theorem firstReg_loop {x : Code} {d : Dum (Code.loop x)} : firstRegD (.loop x) d = none := rfl
theorem firstReg_rf {o : Operand} {x y : Code} {ps : Array Tmp} {d : Dum (Code.rangeFunc o ps x y)} : firstRegD (.rangeFunc o ps x y) d = none := rfl
/-- The sequence that begins with a region. -/
def codeAt (id : Nat) : Code → Option Code
  | .seq x y => if firstReg x = some id then some (.seq x y) else match codeAt id x with
    | some c => some c
    | none => codeAt id y
  | .cond _ x y => match codeAt id x with
    | some c => some c
    | none => codeAt id y
  | .block _ x => codeAt id x
  | .scope x => codeAt id x
  | .loop x => codeAt id x
  | _ => none
def bodyOf (f : Func) : Code := match f.body with
  | some c => c
  | none => .skip
/-- The piece of a function that begins with a region. -/
def pieceOf (id : Nat) (f : Func) : Code := match codeAt id (bodyOf f) with
  | some c => c
  | none => .skip
theorem vcD_cond {c : Operand} {x y : Code} {d : Dum ((Code.cond c x y, L), K)} : vcD P g X N L (.cond c x y) s K d = vcCondD (oper s.e c) (vcD P g X N L x s K ⟨⟩) (vcD P g X N L y s K ⟨⟩) := rfl
theorem vcCondD_ib {p q A B : Prop} : vcCondD ⟨true, .v (.s (.ib p q))⟩ A B = ((p → A) ∧ (q → B)) := rfl
theorem vcCondD_bool {b : Bool} {A B : Prop} : vcCondD ⟨true, .v (.s (.bool b))⟩ A B = ((b = true → A) ∧ (b = false → B)) := rfl
theorem vcD_block {id : Nat} {c : Code} {d : Dum ((Code.block id c, L), K)} : vcD P g X N L (.block id c) s K d = vcD P g X N L c s (inBlockKD id K ⟨⟩) ⟨⟩ := rfl
theorem vcD_scope {c : Code} {d : Dum ((Code.scope c, L), K)} : vcD P g X N L (.scope c) s K d = vcD P g X N L c s (noGotoKD K ⟨⟩) ⟨⟩ := rfl
theorem vcD_loop {c : Code} {d : Dum ((Code.loop c, L), K)} : vcD P g X N L (.loop c) s K d = WpD P g X N (.loop c) s K ⟨⟩ := rfl
theorem vcD_rangeFunc {f : Operand} {ps : Array Tmp} {a b : Code} {d : Dum ((Code.rangeFunc f ps a b, L), K)} : vcD P g X N L (.rangeFunc f ps a b) s K d = WpD P g X N (.rangeFunc f ps a b) s K ⟨⟩ := rfl

theorem parses_flats' {t : Ty} {xs : List t.T} {n : Nat} (h : xs.length = n) : t.parses n (t.flats xs) = some xs := by subst h; exact parses_flats t xs

theorem capAV_mk {t : Ty} {x : t.T} : capAV ⟨t, x⟩ = .s (.eptr t x) := rfl
theorem av_int {k : IntKind} {n : Int} : Ty.av (.int k) n = .s (.int k n) := rfl
theorem av_bool {b : Bool} : Ty.av .bool b = .s (.bool b) := rfl
theorem av_str {b : ByteArray} : Ty.av .str b = .s (.str b) := rfl
theorem av_slice {t : Ty} {xs : List t.T} : Ty.av (.slice t) xs = .s (.sl t xs false) := rfl
theorem av_cons {t r : Ty} {x : t.T × r.T} : Ty.av (.cons t r) x = .agg (t.flat x.1 ++ r.flat x.2) := rfl
theorem av_fld0 {t r : Ty} {x : t.T} : Ty.av (Ty.fld (.cons t r) 0) x = Ty.av t x := rfl
theorem av_fldS {t r : Ty} {n : Nat} {x : (r.fld n).T} : Ty.av (Ty.fld (.cons t r) (n + 1)) x = Ty.av (Ty.fld r n) x := rfl
theorem av_fld1 {t r : Ty} {x : (r.fld 0).T} : Ty.av (Ty.fld (.cons t r) 1) x = Ty.av (Ty.fld r 0) x := rfl
theorem av_fld2 {t r : Ty} {x : (r.fld 1).T} : Ty.av (Ty.fld (.cons t r) 2) x = Ty.av (Ty.fld r 1) x := rfl
theorem av_fld3 {t r : Ty} {x : (r.fld 2).T} : Ty.av (Ty.fld (.cons t r) 3) x = Ty.av (Ty.fld r 2) x := rfl
theorem av_fld4 {t r : Ty} {x : (r.fld 3).T} : Ty.av (Ty.fld (.cons t r) 4) x = Ty.av (Ty.fld r 3) x := rfl

/-! ### The rules, told so -/
theorem WpD.loop {c : Code} {d : Dum ((Code.loop c), K)} (hg : g.good P) (hX : XOk P X) (hm : P.follows .mixedOrders = true) (hok : codeOk' L g.ye N c = true) {ι : Type} (S : ι → St) (R : ι → Prop) (μ : ι → Nat) (i0 : ι) (h0 : R i0) (hs : Turn P g X N s (S i0))
    (h : ∀ i, R i → vcD P g X N L c (S i) (thenKD (fun s' => ∃ j, R j ∧ μ j < μ i ∧ TurnT P g X N s.hp.length s' (S j)) K ⟨⟩) ⟨⟩) : WpD P g X N (.loop c) s K d := Wp.loop (L := L) hg hX hm hok S R μ i0 h0 hs h

theorem WpD.cut {c : Code} {s : St} {K : Exit → St → Prop} {d : Dum (c, K)} (hg : g.good P) (hX : XOk P X) (hm : P.follows .mixedOrders = true) (hok : codeOk' L g.ye N c = true) (s' : St) (hs : Turn P g X N s s') (h : vcD P g X N L c s' K ⟨⟩) : WpD P g X N c s K d := Wp.cut (L := L) hg hX hm hok hs h
theorem Wp.piece {c : Code} {s : St} {K : Exit → St → Prop} (hg : g.good P) (hX : XOk P X) (hm : P.follows .mixedOrders = true) (hok : codeOk' L g.ye N c = true) (h : vcD P g X N L c s K ⟨⟩) : Wp P g X N c s K := vc_sound hg hX hm c hok s K h
theorem WpD.turn {c : Code} {s : St} {K : Exit → St → Prop} {d : Dum (c, K)} (s' : St) (hs : Turn P g X N s s') (h : WpD P g X N c s' K ⟨⟩) : WpD P g X N c s K d := Wp.turn hs h

theorem pureOkD {P : Program} {g : G} (hg : g.good P) (hy : g.y = false) (hm : P.follows .mixedOrders = true) {f : FuncId} {fn : Func} {c : Code} (hf : P.funcs[f]? = some fn) (hb : fn.body = some c) (con : Con) (k : Nat) (hk : k ≤ fn.ntmps)
    (hok : codeOk' L g.ye fn.ntmps c = true)
    (h : ∀ args, con.pre args → allLen args → args.length = k ∧ vcD P g X0 fn.ntmps L c ⟨argEnv 0 args, []⟩ (fun e s => (e = .normal ∨ e = .ret) ∧ retOk g fn s (con.val args)) ⟨⟩) : PureOk P f con := pureOk_of (L := L) hg hy hm hf hb con k hk hok h

theorem itOkD {P : Program} {g : G} (hg : g.good P) (hy : g.y = true) (hm : P.follows .mixedOrders = true) {f : FuncId} {fn : Func} {c : Code} (hf : P.funcs[f]? = some fn) (hent : ∀ (args : Array Value) (w : World), (callFunc f args).run P w = .ok (.enter f args) w) (hb : fn.body = some c) (hres : fn.results = #[]) (ic : ItCon) (k : Nat) (hk : k < fn.ntmps)
    (hok : codeOk' L g.ye fn.ntmps c = true)
    (h : ∀ caps l, ic.pre caps → allLen caps → caps.length = k ∧ ∀ X, XOk P X → vcD P g X fn.ntmps L c ⟨argEnv 0 (yieldAV l :: caps), [.trace l (ic.xs caps) 0 false]⟩ (fun e s => (e = .normal ∨ e = .ret) ∧ ∃ i st, Blk.look s.hp 0 = .trace l (ic.xs caps) i st ∧ (st = false → i = (ic.xs caps).length)) ⟨⟩) :
    ItOk P f ic := itOk_of (L := L) hg hy hm hf hent hb hres ic k hk hok h

theorem WpD.rangeFunc (hg : g.good P) (hm : P.follows .mixedOrders = true) (hy : g.y = false) (htop : g.top = true) {gop : Operand} {ps : List Tmp} {assign body : Code} {d : Dum ((Code.rangeFunc gop (List.toArray ps) assign body), K)} (f : FuncId) (caps : List (Sigma Ty.T))
    (hop : oper s.e gop = ⟨true, .v (.s (.fnp f caps))⟩) (ic : ItCon) (hit : ItOk P f ic) (hpre : ic.pre (caps.map capAV)) (hps : ∀ p ∈ ps, p < N) (hoka : codeOk' L g.ye N assign = true) (hokb : codeOk' L g.ye N body = true) (htr : ∀ l xs i st, Blk.look s.hp 0 ≠ .trace l xs i st)
    (R : Nat → List Blk → Prop) (h0 : R 0 s.hp)
    (hround : ∀ i args hp, (ic.xs (caps.map capAV))[i]? = some args → R i hp → args.length = ps.length ∧
      vcD P g.round X0 N L assign ⟨psE ps args s.e, hp⟩ (thenKD (fun s1 => vcD P g.round X0 N L body s1 (roundKD (fun e hp => K e ⟨s.e, hp⟩) (R (i + 1)) s.hp.length ⟨⟩) ⟨⟩) (fun _ _ => False) ⟨⟩) ⟨⟩)
    (hend : ∀ hp, R (ic.xs (caps.map capAV)).length hp → K .normal ⟨s.e, hp⟩) : WpD P g X0 N (.rangeFunc gop (List.toArray ps) assign body) s K d :=
  Wp.rangeFunc (L := L) hg hm hy htop f caps hop ic hit hpre hps hoka hokb htr R h0 hround hend
end
end Go.Am
