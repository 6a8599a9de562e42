/- Regions: in the order of the text; in whatever order the machine draws. -/
import Derived.Test.YteglanpnmnkkbaaBm9e
namespace Go.Am
set_option linter.unusedVariables false
open Go.RowKit

def edg (o : Oper) : List Nat := (o.after.toList.filter (Region.binds .any)).map (·.on)
def temps : List Operand → List Nat
  | [] => []
  | .tmp t :: r => t :: temps r
  | _ :: r => temps r
def dstIs (ops : List Oper) (j : Nat) (t : Nat) : Bool := ((ops[j]?).bind (·.dst)) == some t
/-- What an operation waits for, in the end. -/
def clo : List Oper → List (List Nat) → List (List Nat)
  | [], acc => acc
  | o :: r, acc => clo r (acc ++ [edg o ++ (edg o).flatMap fun j => acc.getD j []])
/-- Operations below m are in any order; from m on each waits for all before it. -/
def drawOk (y : Bool × List FuncId) (ops : List Oper) (m : Nat) : Bool :=
  (List.range ops.length).all fun i => match ops[i]? with
    | none => true
    | some o => (edg o).all (fun k => k < i) &&
      (if i < m then
        !isMem y o.op &&
        (temps o.op.operands.toList).all (fun t => (List.range m).all fun j => !dstIs ops j t || (j < i && (edg o).contains j)) &&
        (match o.guard with
          | none => true
          | some (j, _) => j < m && (edg o).contains j) &&
        (List.range m).all (fun j => j == i || (match o.dst with
          | some d => !dstIs ops j d
          | none => true))
      else (List.range i).all fun k => ((clo ops []).getD i []).contains k)
def regionOk (y : Bool × List FuncId) (N : Nat) (ops : List Oper) (draw : Bool) : Bool :=
  ops.all (fun o => match o.dst with | some d => d < N | none => true) && (!draw || (List.range (ops.length + 1)).any fun m => drawOk y ops m)

/-- What the rounds of whoever ranges over an iterator ask of the world. -/
abbrev XT := Nat → List (List AV) → Nat → Bool → World → (Nat → Prop) → (Nat → Prop) → Prop
def inBs (bs : Bs) (b : Nat) : Prop := ∃ id, bs.at id = some b
/-- What a round may do. B: the blocks of the iterator. -/
structure YStep (w : World) (M0 B : Nat → Prop) (w' : World) (M0' : Nat → Prop) : Prop where
  evo : Evo (fun b => M0 b ∨ B b) (fun b => M0' b ∨ B b) w w'
  own : ∀ b, B b → w'.heap[b]? = w.heap[b]?
  m0 : ∀ b, M0' b → b < w'.heap.size
  out : ∀ b, B b → ¬ M0' b
structure XOk (P : Program) (X : XT) : Prop where
  stable : ∀ {l xs i st} {w w' : World} {M0 B B' : Nat → Prop}, X l xs i st w M0 B → w'.os = w.os → w'.tape = w.tape → w'.output = w.output → w.heap.size ≤ w'.heap.size → w.drawn ≤ w'.drawn →
    (∀ b, b < w.heap.size → ¬ B b → w'.heap[b]? = w.heap[b]?) → (∀ b, b < w.heap.size → ¬ B b → ¬ B' b) → (∀ b, B' b → b < w'.heap.size) → X l xs i st w' M0 B'
  yield : ∀ {l xs i} {w : World} {M0 B : Nat → Prop} {args : List AV} {vs : List Value}, X l xs i false w M0 B → xs[i]? = some args → (∀ b, M0 b → b < w.heap.size) → (∀ b, B b → b < w.heap.size ∧ ¬ M0 b) →
    All2 (relAV w (fun b => M0 b ∨ B b) [] []) args vs → ∃ fn tmps assign body, (Instr.yield l vs.toArray).run P w = .ok (.round l fn tmps assign body) w ∧
      ∀ n r, RoundIn (FW r) n P l fn tmps assign body w fun e w' => ∃ b M0', e = .returned (.bool b) ∧ X l xs (i + 1) (!b) w' M0' B ∧ YStep w M0 B w' M0'
def XR (X : XT) (w : World) (M0 : Nat → Prop) (bs : Bs) (hp : List Blk) : Prop := ∀ l xs i st, Blk.look hp 0 = .trace l xs i st → X l xs i st w M0 (inBs bs)

section
variable {P : Program} {g : G} {X : XT} {w : World} {M0 : Nat → Prop} {bs : Bs} {hp : List Blk}

theorem guard_rel {M : Nat → Prop} {ops : Array Oper} {e : Env} {a : Act} {gd : Nat × Bool} {gc : Bool} (hc : gcond ops.toList e (some gd) = some gc) (o : Oper) (ho : o.guard = some gd)
    (he : ∀ d, ((ops[gd.1]?).bind (·.dst)) = some d → relSL w M bs hp (getE e d) (a.tmps.getD d undef)) : Region.wanted o (yielded ops a.tmps) = gc := by
  obtain ⟨j, want⟩ := gd
  simp only [gcond] at hc
  have heq : ops.toList[j]? = ops[j]? := by simp
  rw [heq] at hc
  cases hd : (ops[j]?).bind (·.dst) with
  | none =>
    have : (ops[j]?).bind (fun o => o.dst) = none := hd
    rw [this] at hc
    simp at hc
  | some d =>
    have hd' : (ops[j]?).bind (fun o => o.dst) = some d := hd
    rw [hd'] at hc
    have hr := he d hd
    simp only [Region.wanted, ho, yielded, hd]
    simp only at hc
    generalize getE e d = x at *
    obtain ⟨ok, v⟩ := x
    cases v with
    | tup xs => simp at hc
    | v av =>
      cases av with
      | agg cs => simp at hc
      | s sv =>
        cases sv with
        | bool b =>
          simp only [Option.some.injEq] at hc
          subst hc
          cases ok with
          | true =>
            have h1 : a.tmps.getD d undef = .bool b := hr.1 rfl
            rw [Array.getD_eq_getD_getElem?] at h1
            cases ht : a.tmps[d]? with
            | none => rw [ht] at h1; simp [undef] at h1
            | some v => rw [ht] at h1; simp at h1; subst h1; simp [ht]
          | false =>
            have h1 : a.tmps.getD d undef = undef := hr.2 rfl
            rw [Array.getD_eq_getD_getElem?] at h1
            cases ht : a.tmps[d]? with
            | none => simp [ht]
            | some v => rw [ht] at h1; simp at h1; subst h1; simp [ht, undef]
        | _ => simp at hc

theorem XR.step (hX : XOk P X) (h : XR X w M0 bs hp) {w' : World} {M M' : Nat → Prop} {bs' : Bs} {hp' : List Blk} (hs : Step false w M bs hp w' M' bs' hp') (hr' : ∀ id b, bs'.at id = some b → b < w'.heap.size) : XR X w' M0 bs' hp' := by
  intro l xs i st ht
  have ho := hs.only rfl
  exact hX.stable (h l xs i st (ho.tr 0 l xs i st ht)) hs.evo.os hs.evo.tape hs.evo.output hs.evo.size hs.evo.drawn (fun b hb hn => ho.old b hb (fun id hid => hn ⟨id, hid⟩)) (fun b hb hn ⟨id, hid⟩ => ho.new b hb (fun id hid => hn ⟨id, hid⟩) id hid) (fun b ⟨id, hid⟩ => hr' id b hid)

/-- After a round. -/
theorem HR.yielded (hr : HR w M0 bs hp) {l l' : Nat} {xs xs' : List (List AV)} {i i' : Nat} {st st' : Bool} (hl0 : Blk.look hp 0 = .trace l xs i st) {w' : World} {M0' : Nat → Prop} (hy : YStep w M0 (inBs bs) w' M0') :
    HR w' M0' bs (hp.set 0 (.trace l' xs' i' st')) ∧ Step true w (Mof M0 bs) bs hp w' (Mof M0' bs) bs (hp.set 0 (.trace l' xs' i' st')) := by
  have hid : 0 < hp.length := look_lt (by rw [hl0]; simp)
  have he : Evo (Mof M0 bs) (Mof M0' bs) w w' := hy.evo
  have hlk : ∀ j, Blk.look (hp.set 0 (.trace l' xs' i' st')) j = if j = 0 then .trace l' xs' i' st' else Blk.look hp j := fun j => look_set 0 _ j hid
  have hs : ∀ id b, bs.at id = some b → w'.heap[b]? = w.heap[b]? := fun id b hb => hy.own b ⟨id, hb⟩
  have hlk' : ∀ j x, Blk.look (hp.set 0 (.trace l' xs' i' st')) j = x → (∀ a b c d, x ≠ .trace a b c d) → Blk.look hp j = x := by
    intro j x h hne
    rw [hlk] at h
    split at h
    · exact absurd h.symm (hne _ _ _ _)
    · exact h
  have hne0 : ∀ j, (∀ a b c d, Blk.look hp j ≠ .trace a b c d) → Blk.look (hp.set 0 (.trace l' xs' i' st')) j = Blk.look hp j := by
    intro j h
    rw [hlk, if_neg (fun e => by subst e; exact h _ _ _ _ hl0)]
  have hst : Step true w (Mof M0 bs) bs hp w' (Mof M0' bs) bs (hp.set 0 (.trace l' xs' i' st')) :=
    ⟨he, by simp, fun id cs h1 h2 => ⟨⟨cs, hlk' _ _ h2 (by simp)⟩, rfl⟩, fun id b k u es h1 h2 => ⟨h1, es, by rw [hne0 id (by rw [h2]; simp)]; exact h2⟩, fun id al cs _ h => ⟨al, cs, hlk' _ _ h (by simp), .inr ⟨rfl, rfl, fun _ => rfl, fun b hb cap size ho => by
      obtain ⟨cur, e, h1, h2⟩ := ho
      exact ⟨cur, e, by rw [hs id b hb]; exact h1, h2⟩⟩⟩, by simp⟩
  refine ⟨⟨by simp [hr.len], hy.m0, fun id b h => Nat.lt_of_lt_of_le (hr.lt id b h) he.size, hr.inj, fun id b h => hy.out b ⟨id, h⟩, fun id cs h => hr.al id cs (hlk' _ _ h (by simp)), ?_, ?_, ?_⟩, hst⟩
  · intro id cs hl
    obtain ⟨b, cur, e, h1, h2, h3, h4⟩ := hr.cells id cs (hlk' _ _ hl (by simp))
    refine ⟨b, cur, e, h1, by rw [hs id b h1]; exact h2, h3, fun j x hj => ?_⟩
    obtain ⟨u, k1, k2, k3⟩ := h4 j x hj
    exact ⟨u, k1, k2, relSV_step hst x u k3⟩
  · intro id al cs b hl hb
    obtain ⟨cur, e, h2, h4⟩ := hr.arr id al cs b (hlk' _ _ hl (by simp)) hb
    refine ⟨cur, e, by rw [hs id b hb]; exact h2, fun j x hj => ?_⟩
    obtain ⟨u, k1, k2, k3⟩ := h4 j x hj
    exact ⟨u, k1, k2, relSV_step hst x u k3⟩
  · intro id k v es hl
    obtain ⟨b, ents, clock, h1, h2, h3⟩ := hr.map id k v es (hlk' _ _ hl (by simp))
    exact ⟨b, ents, clock, h1, by rw [hs id b h1]; exact h2, h3.imp fun x m hm => ⟨rep_evo he _ _ _ hm.1, rep_evo he _ _ _ hm.2⟩⟩

/-- What is known behind an operation. -/
structure Nx (P : Program) (g : G) (X : XT) (w : World) (M0 : Nat → Prop) (bs : Bs) (hp : List Blk) (w' : World) (M0' : Nat → Prop) (bs' : Bs) (hp' : List Blk) : Prop where
  hr : HR w' M0' bs' hp'
  xr : XR X w' M0' bs' hp'
  st : Step g.y w (Mof M0 bs) bs hp w' (Mof M0' bs') bs' hp'
  eq : g.y = false → M0' = M0
theorem Nx.refl (h : HR w M0 bs hp) (k : XR X w M0 bs hp) : Nx P g X w M0 bs hp w M0 bs hp := ⟨h, k, Step.refl _ _ _ _, fun _ => rfl⟩
theorem Nx.trans {w' w'' : World} {M0' M0'' : Nat → Prop} {bs' bs'' : Bs} {hp' hp'' : List Blk} (h : Nx P g X w M0 bs hp w' M0' bs' hp') (k : Nx P g X w' M0' bs' hp' w'' M0'' bs'' hp'') : Nx P g X w M0 bs hp w'' M0'' bs'' hp'' :=
  ⟨k.hr, k.xr, h.st.trans k.st, fun hy => (k.eq hy).trans (h.eq hy)⟩
theorem Nx.of_step (hX : XOk P X) (k : XR X w M0 bs hp) {w' : World} {bs' : Bs} {hp' : List Blk} (h : HR w' M0 bs' hp') (st : Step false w (Mof M0 bs) bs hp w' (Mof M0 bs') bs' hp') : Nx P g X w M0 bs hp w' M0 bs' hp' :=
  ⟨h, k.step hX st h.lt, st.weaken, fun _ => rfl⟩

theorem yieldOf_some {e : Env} {op : Op} {l : Nat} {args : List AV} (h : yieldOf g e op = some (l, args)) :
    ∃ f xs ts, op = .call { callee := .value (.tmp f), args := xs, argTypes := ts } ∧ opRV e (.tmp f) = .v (.s (.val (.func (.yield l) #[] #[]))) ∧ args = argsEv g e xs.toList ts.toList := by
  unfold yieldOf at h
  split at h
  · rename_i f xs ts
    split at h
    · rename_i l' heq
      injection h with h; injection h with h1 h2
      subst h1; subst h2
      exact ⟨f, xs, ts, rfl, heq, rfl⟩
    · cases h
  · cases h

/-- An operation that is not guarded. -/
theorem opVC_sound (hg : g.good P) (hX : XOk P X) {n : Nat} {r : Option Nat} {Q : Exit → Act → World → Prop} {K : SL → List Blk → Prop} (o : Oper) (e : Env) (hp : List Blk) (bs : Bs) (a : Act) (w : World)
    (h : opVC g e hp o K) (hr : HR w M0 bs hp) (hx : XR X w M0 bs hp) (he : relEnv w (Mof M0 bs) bs hp e a) (Kn : Act → World → Prop)
    (next : ∀ (x : SL) (z : Value) (hp' : List Blk) (M0' : Nat → Prop) (bs' : Bs) (w' : World), relSL w' (Mof M0' bs') bs' hp' x z → Nx P g X w M0 bs hp w' M0' bs' hp' → K x hp' → Kn (a.put o.dst z) w') :
    o.wpIn (FW r) n P a w Kn Q := by
  obtain ⟨hok, h⟩ := h
  cases hmem : isMem0 o.op with
  | true =>
    simp only [hmem] at h
    obtain ⟨h2, h3⟩ := h
    obtain ⟨hdid, hdef⟩ := mEv_did hg hr o (fun x _ hx => oper_rel he x hx) hok h2
    exact did_wp (fun _ => trivial) hdef hdid fun z w' bs' k1 k2 k3 => next ⟨true, _⟩ z _ _ bs' w' ⟨fun _ => k1, by simp⟩ (.of_step hX hx k2 k3) h3
  | false =>
    simp only [hmem] at h
    split at h
    · rename_i l args heq
      cases hy : g.y with
      | false => simp [hy] at heq
      | true =>
        simp only [hy, if_true] at heq
        obtain ⟨f, xs, ts, hop, hf, rfl⟩ := yieldOf_some heq
        obtain ⟨dst, op, t, pos, after, guard⟩ := o
        simp only at hop hok hmem h next ⊢
        subst hop
        have hargs := args_rel hg.1 (e := e) (a := a) xs.toList ts.toList (fun x hx => oper_rel he x (okOps_all (by simp) hok x (by simp [Op.operands, Call.operands]; simp at hx; simp [hx])))
        have hev : a.eval (.tmp f) = .func (.yield l) #[] #[] := by
          have := oper_rel he (.tmp f) (okOps_all (by simp) hok (.tmp f) (by simp [Op.operands, Call.operands]))
          rw [hf] at this; exact this
        unfold yieldVC at h
        split at h
        · rename_i l' tr i hl
          obtain ⟨rfl, hi, hpure, hK⟩ := h
          obtain ⟨fn, tmps, assign, body, hy1, hy2⟩ := hX.yield (hx _ _ _ _ hl) hi hr.m0 (fun b ⟨id, hb⟩ => ⟨hr.lt id b hb, hr.out id b hb⟩) (all2_pure hpure hargs)
          refine ⟨fun f _ => trivial, ?_⟩
          rw [Oper.semAt_eq _ _ _ (by simp)]
          have hrun : (execOp a.eval { dst := dst, op := .call { callee := .value (.tmp f), args := xs, argTypes := ts }, type := t, pos := pos, after := after, guard := guard }).run P w = .ok (.round l' fn tmps assign body) w := by
            simp only [execOp, resolve, hev, Deferred.ofValue, Sem.run_bind, Sem.run_pure, Result.andThen_ok, invoke, map_arr]
            simpa using hy1
          rw [hrun, Oper.uponIn_round]
          refine ⟨fun hd => by simp [FW] at hd, (hy2 _ _).mono ?_⟩
          rintro e1 w' ⟨b, M0', rfl, hX', hys⟩
          obtain ⟨k1, k2⟩ := hr.yielded (l' := l') (xs' := tr) (i' := i + 1) (st' := !b) hl hys
          have hid : 0 < hp.length := look_lt (by rw [hl]; simp)
          refine next ⟨true, .v (.s (.bool b))⟩ (.bool b) _ M0' bs w' ⟨fun _ => rfl, by simp⟩ ⟨k1, ?_, by rw [hy]; exact k2, by simp [hy]⟩ (hK b)
          intro l2 xs2 i2 st2 ht
          rw [look_set 0 _ 0 hid, if_pos rfl] at ht
          injection ht with q1 q2 q3 q4
          subst q1; subst q2; subst q3; subst q4
          exact hX'
        · exact h.elim
    · split at h
      · rename_i c args heq
        obtain ⟨dst, op, t, pos, after, guard⟩ := o
        simp only at hok hmem heq next ⊢
        unfold effOf at heq
        split at heq
        · rename_i f xs ts _
          cases hc : look g.E f with
          | none => simp [hc] at heq
          | some c' =>
            simp only [hc, Option.some.injEq, Prod.mk.injEq] at heq
            obtain ⟨rfl, rfl⟩ := heq
            obtain ⟨hent, hcon⟩ := hg.2.2 f c' hc
            have hargs := args_rel hg.1 (e := e) (a := a) xs.toList ts.toList (fun x hx => oper_rel he x (okOps_all (by simp) hok x (by simp [Op.operands, Call.operands]; simp at hx; simp [hx])))
            refine ⟨fun f _ => trivial, ?_⟩
            rw [Oper.semAt_eq _ _ _ (by simp)]
            have hrun : (execOp a.eval { dst := dst, op := .call { callee := .value (.func f), args := xs, argTypes := ts }, type := t, pos := pos, after := after, guard := guard }).run P w = .ok (.enter f (xs.toList.map a.eval).toArray) w := by
              have := hent (xs.toList.map a.eval).toArray w
              simp only [execOp, resolve, Act.eval, Deferred.ofValue, Sem.run_bind, Sem.run_pure, Result.andThen_ok, invoke, map_arr]
              simpa using this
            rw [hrun]
            refine ⟨fun hd => by simp [FW] at hd, callsIn_FW ((effVC_sound hcon hr h hargs).mono ?_)⟩
            rintro e1 w' ⟨v, rv, hp', bs', rfl, hK, hv, k1, k2⟩
            exact next ⟨true, rv⟩ v hp' _ bs' w' ⟨fun _ => hv, by simp⟩ (.of_step hX hx k1 k2) hK
        · cases heq
      · exact pEv_wp hg hr o (fun x _ hx => oper_rel he x hx) hok h.1 fun z w' k1 k2 k3 => next ⟨true, _⟩ z hp _ bs w' ⟨fun _ => k1, by simp⟩ (.of_step hX hx k2 k3) h.2

/-- The next operation, in the order of the text. -/
theorem vcOps_step (hg : g.good P) (hX : XOk P X) {n : Nat} {r : Option Nat} {Q : Exit → Act → World → Prop} {K : Env → List Blk → Prop} (ops : Array Oper) (o : Oper) (l : List Oper) (e : Env) (hp : List Blk) (bs : Bs) (a : Act) (w : World)
    (h : vcOps g ops.toList (o :: l) e hp K) (hr : HR w M0 bs hp) (hx : XR X w M0 bs hp) (he : relEnv w (Mof M0 bs) bs hp e a) (Kn : Act → World → Prop)
    (next : ∀ (x : SL) (z : Value) (hp' : List Blk) (M0' : Nat → Prop) (bs' : Bs) (w' : World), relSL w' (Mof M0' bs') bs' hp' x z → Nx P g X w M0 bs hp w' M0' bs' hp' → vcOps g ops.toList l (putE o.dst x e) hp' K → Kn (a.put o.dst z) w') :
    if Region.wanted o (yielded ops a.tmps) = true then o.wpIn (FW r) n P a w Kn Q else (∀ f, o.about P w a.eval = some f → (FW r).fn f) ∧ Kn (a.put o.dst undef) w := by
  simp only [vcOps] at h
  cases hgd : o.guard with
  | none =>
    rw [if_pos (by simp [Region.wanted, hgd])]
    simp only [hgd] at h
    exact opVC_sound hg hX o e hp bs a w h hr hx he Kn next
  | some gd =>
    simp only [hgd] at h
    cases hgc : gcond ops.toList e (some gd) with
    | none => simp [hgc] at h
    | some gc =>
      simp only [hgc] at h
      rw [guard_rel hgc o hgd (fun d _ => getE_rel he d)]
      cases hmem : isMem g.ye o.op with
      | true =>
        simp only [hmem] at h
        cases gc with
        | true => exact opVC_sound hg hX o e hp bs a w (h.1 rfl) hr hx he Kn next
        | false => exact ⟨fun _ _ => trivial, next ⟨false, _⟩ undef hp _ bs w ⟨by simp, fun _ => rfl⟩ (.refl hr hx) (h.2 rfl)⟩
      | false =>
        simp only [hmem] at h
        obtain ⟨h1, h3⟩ := h
        cases gc with
        | true =>
          obtain ⟨h1, h2⟩ := h1 rfl
          exact pEv_wp hg hr o (fun x _ hx => oper_rel he x hx) h1 h2 fun z w' k1 k2 k3 => next ⟨true, _⟩ z hp _ bs w' ⟨fun _ => k1, by simp⟩ (.of_step hX hx k2 k3) h3
        | false =>
          exact ⟨fun _ _ => trivial, next ⟨false, _⟩ undef hp _ bs w ⟨by simp, fun _ => rfl⟩ (.refl hr hx) h3⟩

theorem put_defers (a : Act) (d : Option Nat) (v : Value) : (a.put d v).defers = a.defers := by cases d <;> rfl

/-- What is to hold behind a region. -/
def Behind (P : Program) (g : G) (X : XT) (M0 : Nat → Prop) (N : Nat) (Q : Exit → Act → World → Prop) (K : Env → List Blk → Prop) (w : World) (bs : Bs) (hp : List Blk) (df : List Deferred) : Prop :=
  ∀ e' hp' M0' bs' a' w', K e' hp' → Nx P g X w M0 bs hp w' M0' bs' hp' → relEnv w' (Mof M0' bs') bs' hp' e' a' → a'.tmps.size = N → a'.defers = df → Q .normal a' w'

theorem Behind.step {N : Nat} {Q : Exit → Act → World → Prop} {K : Env → List Blk → Prop} {w' : World} {M0' : Nat → Prop} {bs' : Bs} {hp' : List Blk} {df : List Deferred} (h : Behind P g X M0 N Q K w bs hp df)
    (hst : Nx P g X w M0 bs hp w' M0' bs' hp') : Behind P g X M0' N Q K w' bs' hp' df :=
  fun e' hp'' M0'' bs'' a' w'' hk k1 k2 k3 k4 => h e' hp'' M0'' bs'' a' w'' hk (hst.trans k1) k2 k3 k4

/-- A region in the order of the text. -/
theorem vcOps_sound (hg : g.good P) (hX : XOk P X) {N n : Nat} {r : Option Nat} {Q : Exit → Act → World → Prop} {K : Env → List Blk → Prop} (ops : Array Oper) :
    ∀ (l : List Oper) (e : Env) (hp : List Blk) (M0 : Nat → Prop) (bs : Bs) (a : Act) (w : World), (∀ o ∈ l, ∀ d, o.dst = some d → d < N) → vcOps g ops.toList l e hp K → HR w M0 bs hp → XR X w M0 bs hp → relEnv w (Mof M0 bs) bs hp e a → a.tmps.size = N →
    Behind P g X M0 N Q K w bs hp a.defers → wpListIn (FW r) n P ops Q l a w := by
  intro l
  induction l with
  | nil => intro e hp M0 bs a w _ h hr hx he hN hQ; exact hQ e hp M0 bs a w h (.refl hr hx) he hN rfl
  | cons o l ih =>
    intro e hp M0 bs a w hdst h hr hx he hN hQ
    refine vcOps_step hg hX ops o l e hp bs a w h hr hx he _ ?_
    intro x z hp' M0' bs' w' hx hst hv
    exact ih _ hp' M0' bs' _ w' (fun o' ho' => hdst o' (by simp [ho'])) hv hst.hr hst.xr (relEnv_put (relEnv_step hst.st he) o.dst x z hx (fun d hd => by rw [hN]; exact hdst o (by simp) d hd)) (by rw [put_eval]; exact hN)
      (by rw [put_defers]; exact hQ.step hst)

/-! ### Whatever order -/
def valAt (g : G) (ops : List Oper) (hp : List Blk) (o : Oper) (e : Env) : SL :=
  match o.guard with
  | none => ⟨true, (pEv g hp e o.type o.op).2⟩
  | some gd => match gcond ops e (some gd) with
    | some gc => ⟨gc, (pEv g hp e o.type o.op).2⟩
    | none => junk
def envAt (g : G) (ops : List Oper) (hp : List Blk) (e : Env) : Nat → Env
  | 0 => e
  | i + 1 => match ops[i]? with
    | some o => putE o.dst (valAt g ops hp o (envAt g ops hp e i)) (envAt g ops hp e i)
    | none => envAt g ops hp e i
/-- What is asked of an operation in any order. -/
def oblAt (g : G) (ops : List Oper) (hp : List Blk) (o : Oper) (e : Env) : Prop :=
  match o.guard with
  | none => okOps e o.op ∧ (pEv g hp e o.type o.op).1
  | some gd => ∃ gc, gcond ops e (some gd) = some gc ∧ (gc = true → okOps e o.op ∧ (pEv g hp e o.type o.op).1)

theorem isMem_false {y : Bool × List FuncId} {op : Op} (h : isMem y op = false) : isMem0 op = false := by
  unfold isMem at h
  split at h
  · rfl
  · rfl
  · exact h
theorem yieldOf_none {e : Env} {op : Op} (h : isMem g.ye op = false) : (if g.y then yieldOf g e op else none) = none := by
  cases hy : g.y with
  | false => simp
  | true =>
    simp only [if_true]
    unfold yieldOf
    split
    · simp [isMem, hy] at h
    · rfl
theorem look_ids {α : Type} : ∀ {l : List (Nat × α)} {f : Nat} {c : α}, look l f = some c → (l.map (·.1)).contains f = true
  | [], f, c, h => by simp [look] at h
  | (k, x) :: r, f, c, h => by
    simp only [look] at h
    split at h
    · rename_i e; subst e; simp
    · have := look_ids h
      simp only [List.map_cons, List.contains_cons, this, Bool.or_true]
theorem effOf_none {e : Env} {op : Op} (h : isMem g.ye op = false) : effOf g e op = none := by
  unfold effOf
  split
  · rename_i f xs ts
    split
    · rename_i c hc
      simp only [isMem] at h
      rw [look_ids hc] at h
      cases h
    · rfl
  · rfl
theorem opVC_quiet {e : Env} {o : Oper} {K : SL → List Blk → Prop} (h : opVC g e hp o K) (hm : isMem g.ye o.op = false) : okOps e o.op ∧ (pEv g hp e o.type o.op).1 ∧ K ⟨true, (pEv g hp e o.type o.op).2⟩ hp := by
  obtain ⟨h1, h2⟩ := h
  rw [isMem_false hm, yieldOf_none hm] at h2
  simp only [effOf_none hm] at h2
  exact ⟨h1, h2⟩

theorem vc_pre {ops : List Oper} {e : Env} {K : Env → List Blk → Prop} (h : vcOps g ops ops e hp K) : ∀ (i : Nat), (∀ j o, j < i → ops[j]? = some o → isMem g.ye o.op = false) → i ≤ ops.length →
    vcOps g ops (ops.drop i) (envAt g ops hp e i) hp K ∧ ∀ j o, j < i → ops[j]? = some o → oblAt g ops hp o (envAt g ops hp e j) := by
  intro i
  induction i with
  | zero => intro _ _; exact ⟨by simpa [envAt] using h, fun j o hj => by omega⟩
  | succ i ih =>
    intro hm hi
    obtain ⟨h1, h2⟩ := ih (fun j o hj => hm j o (by omega)) (by omega)
    have hlt : i < ops.length := by omega
    have ho : ops[i]? = some ops[i] := List.getElem?_eq_getElem hlt
    rw [List.drop_eq_getElem_cons hlt] at h1
    have hmem := hm i _ (by omega) ho
    simp only [vcOps] at h1
    have key : vcOps g ops (ops.drop (i + 1)) (envAt g ops hp e (i + 1)) hp K ∧ oblAt g ops hp ops[i] (envAt g ops hp e i) := by
      simp only [envAt, ho, valAt, oblAt]
      cases hgd : ops[i].guard with
      | none =>
        simp only [hgd] at h1
        obtain ⟨q1, q2, q3⟩ := opVC_quiet h1 hmem
        exact ⟨q3, q1, q2⟩
      | some gd =>
        simp only [hgd] at h1
        cases hgc : gcond ops (envAt g ops hp e i) (some gd) with
        | none => simp [hgc] at h1
        | some gc =>
          simp only [hgc, hmem] at h1 ⊢
          exact ⟨h1.2, gc, rfl, h1.1⟩
    refine ⟨key.1, fun j o hj hjo => ?_⟩
    rcases Nat.lt_succ_iff_lt_or_eq.1 hj with hlt' | rfl
    · exact h2 j o hlt' hjo
    · rw [ho] at hjo; cases hjo; exact key.2

theorem getE_put (d : Option Nat) (x : SL) (e : Env) (s : Nat) : getE (putE d x e) s = if d = some s then x else getE e s := by
  cases d with
  | none => simp [putE]
  | some k =>
    simp only [putE, getE, look]
    by_cases h : k = s
    · subst h; simp
    · simp [h]

theorem envAt_get (ops : List Oper) (e : Env) (s : Nat) : ∀ i, i ≤ ops.length →
    (∃ j o, j < i ∧ ops[j]? = some o ∧ o.dst = some s ∧ getE (envAt g ops hp e i) s = valAt g ops hp o (envAt g ops hp e j)) ∨
    ((∀ j o, j < i → ops[j]? = some o → o.dst ≠ some s) ∧ getE (envAt g ops hp e i) s = getE e s) := by
  intro i
  induction i with
  | zero => intro _; right; exact ⟨fun j o hj => by omega, rfl⟩
  | succ i ih =>
    intro hi
    have hlt : i < ops.length := by omega
    have ho : ops[i]? = some ops[i] := List.getElem?_eq_getElem hlt
    simp only [envAt, ho]
    rw [getE_put]
    by_cases hd : ops[i].dst = some s
    · left
      exact ⟨i, _, by omega, ho, hd, by rw [if_pos hd]⟩
    · rw [if_neg hd]
      rcases ih (by omega) with ⟨j, o, h1, h2, h3, h4⟩ | ⟨h1, h2⟩
      · exact .inl ⟨j, o, by omega, h2, h3, h4⟩
      · refine .inr ⟨fun j o hj hjo => ?_, h2⟩
        rcases Nat.lt_succ_iff_lt_or_eq.1 hj with hlt' | rfl
        · exact h1 j o hlt' hjo
        · rw [ho] at hjo; cases hjo; exact hd

theorem mem_temps {t : Nat} : ∀ {l : List Operand}, Operand.tmp t ∈ l → t ∈ temps l
  | .tmp u :: l, h => by
    simp only [temps, List.mem_cons] at h ⊢
    rcases h with h | h
    · injection h with h; exact .inl h
    · exact .inr (mem_temps h)
  | .const _ :: l, h => by
    simp only [temps, List.mem_cons] at h ⊢
    rcases h with h | h
    · cases h
    · exact mem_temps h
  | .global _ :: l, h => by
    simp only [temps, List.mem_cons] at h ⊢
    rcases h with h | h
    · cases h
    · exact mem_temps h
  | .func _ :: l, h => by
    simp only [temps, List.mem_cons] at h ⊢
    rcases h with h | h
    · cases h
    · exact mem_temps h

theorem drawOk_spec {y : Bool × List FuncId} {ops : List Oper} {m : Nat} (h : drawOk y ops m = true) {i : Nat} {o : Oper} (ho : ops[i]? = some o) :
    (∀ k ∈ edg o, k < i) ∧ (i < m → isMem y o.op = false ∧ (∀ t ∈ temps o.op.operands.toList, ∀ j, j < m → dstIs ops j t = true → j < i ∧ j ∈ edg o) ∧ (∀ gd, o.guard = some gd → gd.1 < m ∧ gd.1 ∈ edg o) ∧
      (∀ j, j < m → j ≠ i → ∀ d, o.dst = some d → dstIs ops j d = false)) ∧ (m ≤ i → ∀ k, k < i → k ∈ (clo ops []).getD i []) := by
  unfold drawOk at h
  rw [List.all_eq_true] at h
  have hi := (List.getElem?_eq_some_iff.1 ho).1
  have h1 := h i (by simpa using hi)
  rw [ho] at h1
  simp only [Bool.and_eq_true, List.all_eq_true, decide_eq_true_eq] at h1
  obtain ⟨h1, h2⟩ := h1
  refine ⟨h1, fun hlt => ?_, fun hge => ?_⟩
  · rw [if_pos hlt] at h2
    simp only [Bool.and_eq_true, List.all_eq_true, Bool.not_eq_true', List.mem_range, Bool.or_eq_true, decide_eq_true_eq, beq_iff_eq] at h2
    obtain ⟨⟨⟨q1, q2⟩, q3⟩, q4⟩ := h2
    refine ⟨q1, fun t ht j hj hd => ?_, fun gd hgd => ?_, fun j hj hne d hd => ?_⟩
    · rcases q2 t ht j hj with q | q
      · rw [hd] at q; cases q
      · exact ⟨q.1, by simpa using q.2⟩
    · rw [hgd] at q3
      obtain ⟨x, y⟩ := gd
      simp only [Bool.and_eq_true, decide_eq_true_eq] at q3
      exact ⟨q3.1, by simpa using q3.2⟩
    · have := q4 j hj
      rw [hd] at this
      simpa [hne] using this
  · rw [if_neg (by omega)] at h2
    simp only [List.all_eq_true, List.mem_range] at h2
    exact fun k hk => by simpa using h2 k hk

/-- What is listed holds with each operation all that it waits for. -/
def Closed (ops : List Oper) (p : Nat → Prop) : Prop := ∀ i o, ops[i]? = some o → p i → ∀ k ∈ edg o, p k

theorem clo_length : ∀ (l : List Oper) (acc : List (List Nat)), (clo l acc).length = acc.length + l.length
  | [], acc => by simp [clo]
  | o :: l, acc => by simp only [clo]; rw [clo_length]; simp; omega
theorem clo_acc : ∀ (l : List Oper) (acc : List (List Nat)) (i : Nat), i < acc.length → (clo l acc).getD i [] = acc.getD i []
  | [], acc, i, _ => rfl
  | o :: l, acc, i, h => by
    simp only [clo]
    rw [clo_acc l _ i (by simp; omega)]
    simp only [List.getD_eq_getElem?_getD]
    rw [List.getElem?_append_left h]

theorem clo_spec {ops : List Oper} {p : Nat → Prop} (hp' : Closed ops p) : ∀ (l : List Oper) (acc : List (List Nat)), (∀ j, l[j]? = ops[acc.length + j]?) →
    (∀ i o, i < acc.length → ops[i]? = some o → (∀ k ∈ edg o, p k) → ∀ k ∈ acc.getD i [], p k) → (∀ i o, ops[i]? = some o → ∀ k ∈ edg o, k < i) →
    ∀ i o, i < acc.length + l.length → ops[i]? = some o → (∀ k ∈ edg o, p k) → ∀ k ∈ (clo l acc).getD i [], p k := by
  intro l
  induction l with
  | nil => intro acc _ ha _ i o hi ho hk k hkm; exact ha i o (by simpa using hi) ho hk k hkm
  | cons o l ih =>
    intro acc hl ha hlt i o' hi ho' hk k hkm
    simp only [clo] at hkm
    refine ih (acc ++ [edg o ++ (edg o).flatMap fun j => acc.getD j []]) (fun j => ?_) ?_ hlt i o' (by simp at hi ⊢; omega) ho' hk k hkm
    · have := hl (j + 1)
      simp only [List.getElem?_cons_succ] at this
      rw [this, List.length_append]; congr 1; simp; omega
    · intro i o' hi ho' hk k hkm
      simp only [List.getD_eq_getElem?_getD] at hkm
      rcases Nat.lt_or_ge i acc.length with h | h
      · rw [List.getElem?_append_left h] at hkm
        exact ha i o' h ho' hk k (by rw [List.getD_eq_getElem?_getD]; exact hkm)
      · have hie : i = acc.length := by simp at hi; omega
        subst hie
        simp at hkm
        have h0 := hl 0
        simp at h0
        rw [← h0] at ho'
        cases ho'
        rcases hkm with hkm | ⟨j, hj, hkm⟩
        · exact hk k hkm
        · have hjp := hk j hj
          have hjlt := hlt acc.length o (by rw [← h0]) j hj
          obtain ⟨oj, hoj⟩ : ∃ oj, ops[j]? = some oj := ⟨_, List.getElem?_eq_getElem (by have := (List.getElem?_eq_some_iff.1 h0.symm).1; omega)⟩
          exact ha j oj hjlt hoj (hp' j oj hoj hjp) k (by rw [List.getD_eq_getElem?_getD]; exact hkm)

theorem filter_le {α : Type} (p q : α → Bool) (h : ∀ x, q x = true → p x = true) : ∀ (l : List α), (l.filter q).length ≤ (l.filter p).length
  | [] => Nat.le_refl _
  | x :: l => by
    have ih := filter_le p q h l
    simp only [List.filter_cons]
    cases hq : q x with
    | true => rw [h x hq]; simpa using ih
    | false => cases p x <;> simp <;> omega
theorem filter_lt {α : Type} (p q : α → Bool) (h : ∀ x, q x = true → p x = true) (i : α) (hp1 : p i = true) (hq1 : q i = false) : ∀ (l : List α), i ∈ l → (l.filter q).length < (l.filter p).length
  | [], hi => by cases hi
  | x :: l, hi => by
    simp only [List.filter_cons]
    by_cases e : i = x
    · subst e
      rw [hp1, hq1]
      have := filter_le p q h l
      simp; omega
    · have hi' : i ∈ l := by cases hi with
        | head => exact absurd rfl e
        | tail _ hm => exact hm
      have ih := filter_lt p q h i hp1 hq1 l hi'
      cases hq : q x with
      | true => rw [h x hq]; simpa using ih
      | false => cases p x <;> simp <;> omega

theorem getD_tf {listed : Array Bool} {j : Nat} (h : j < listed.size) : listed.getD j true = listed.getD j false := by
  simp [Array.getD_eq_getD_getElem?, h]
theorem set_get (listed : Array Bool) (i j : Nat) (h : i < listed.size) : (listed.setIfInBounds i true).getD j true = (if i = j then true else listed.getD j true) := by
  by_cases e : i = j
  · subst e; simp [Array.getD_eq_getD_getElem?, h]
  · simp only [Array.getD_eq_getD_getElem?, if_neg e]
    rw [Array.getElem?_setIfInBounds_ne e]

/-- The forced end of a region. -/
theorem phaseB (hg : g.good P) (hX : XOk P X) {N n : Nat} {r : Option Nat} {Q : Exit → Act → World → Prop} {K : Env → List Blk → Prop} (ops : Array Oper) (hdst : ∀ o ∈ ops.toList, ∀ d, o.dst = some d → d < N)
    (hlt : ∀ i o, ops.toList[i]? = some o → ∀ k ∈ edg o, k < i) :
    ∀ (fuel i : Nat) (listed : Array Bool) (e : Env) (hp : List Blk) (M0 : Nat → Prop) (bs : Bs) (a : Act) (w : World), listed.size = ops.size → (∀ j, j < ops.size → (listed.getD j true = true ↔ j < i)) → i ≤ ops.size → ops.size - i ≤ fuel →
    (∀ j, i ≤ j → j < ops.size → ∀ k, k < j → k ∈ (clo ops.toList []).getD j []) →
    vcOps g ops.toList (ops.toList.drop i) e hp K → HR w M0 bs hp → XR X w M0 bs hp → relEnv w (Mof M0 bs) bs hp e a → a.tmps.size = N → Behind P g X M0 N Q K w bs hp a.defers → wpAnyIn (FW r) n P .any ops Q fuel listed a w := by
  intro fuel
  induction fuel with
  | zero =>
    intro i listed e hp M0 bs a w hsz hl hi hf _ hv hr hx he hN hQ
    have hie : i = ops.size := by omega
    subst hie
    refine ⟨?_, ?_⟩
    · cases hr' : Region.ready .any ops listed with
      | nil => rfl
      | cons j js =>
        have : j ∈ Region.ready .any ops listed := by rw [hr']; simp
        obtain ⟨h1, o, ho, _⟩ := mem_ready.1 this
        have hj := (Array.getElem?_eq_some_iff.1 ho).1
        rw [(hl j hj).2 hj] at h1; cases h1
    · rw [List.drop_of_length_le (by simp)] at hv
      exact hQ e hp M0 bs a w hv (.refl hr hx) he hN rfl
  | succ fuel ih =>
    intro i listed e hp M0 bs a w hsz hl hi hf hforce hv hr hx he hN hQ
    -- what is ready
    have hready : ∀ j ∈ Region.ready .any ops listed, j = i ∧ i < ops.size := by
      intro j hj
      obtain ⟨h1, o, ho, h2⟩ := mem_ready.1 hj
      have hjs := (Array.getElem?_eq_some_iff.1 ho).1
      have hji : ¬ j < i := fun h => by rw [(hl j hjs).2 h] at h1; cases h1
      refine ⟨?_, by omega⟩
      rcases Nat.lt_or_ge i j with hij | hij
      · exfalso
        have hcl : Closed ops.toList (fun k => listed.getD k true = true ∧ k < ops.size) := by
          intro k ok hok hk q hq
          have hk2 := (List.getElem?_eq_some_iff.1 hok).1
          simp only [Array.length_toList] at hk2
          have := hlt k ok hok q hq
          have hki := (hl k hk2).1 hk.1
          exact ⟨(hl q (by omega)).2 (by omega), by omega⟩
        have := clo_spec hcl ops.toList [] (by simp) (fun i o h => by simp at h) hlt j o (by simpa using hjs) (by simpa using ho) (fun q hq => by
          simp only [edg, List.mem_map, List.mem_filter] at hq
          obtain ⟨ed, ⟨hed, hb⟩, rfl⟩ := hq
          have hqlt := hlt j o (by simpa using ho) ed.on (by simp only [edg, List.mem_map, List.mem_filter]; exact ⟨ed, ⟨hed, hb⟩, rfl⟩)
          have := h2 ed (by simpa using hed) hb
          exact ⟨by rw [getD_tf (by omega)]; exact this, by omega⟩) i (hforce j (by omega) hjs i hij)
        exact absurd ((hl i (by omega)).1 this.1) (by omega)
      · omega
    refine ⟨fun hnil => ?_, fun j hj => ?_⟩
    · rcases Nat.lt_or_ge i ops.size with hilt | hige
      · exfalso
        have ho : ops[i]? = some ops[i] := Array.getElem?_eq_getElem hilt
        have : i ∈ Region.ready .any ops listed := mem_ready.2 ⟨by
          cases hli : listed.getD i true with
          | false => rfl
          | true => exact absurd ((hl i hilt).1 hli) (by omega), _, ho, fun ed hed hb => by
          have hk := hlt i _ (by rw [Array.getElem?_toList]; exact ho) ed.on (by simp only [edg, List.mem_map, List.mem_filter]; exact ⟨ed, ⟨by simpa using hed, hb⟩, rfl⟩)
          rw [← getD_tf (by omega)]
          exact (hl ed.on (by omega)).2 hk⟩
        rw [hnil] at this; cases this
      · have hie : i = ops.size := by omega
        subst hie
        rw [List.drop_of_length_le (by simp)] at hv
        exact hQ e hp M0 bs a w hv (.refl hr hx) he hN rfl
    · obtain ⟨rfl, hjs⟩ := hready j hj
      have ho : ops[j]? = some ops[j] := Array.getElem?_eq_getElem hjs
      rw [List.drop_eq_getElem_cons (by simpa using hjs)] at hv
      unfold wpOpIn
      rw [ho]
      simp only [Array.getElem_toList] at hv
      refine vcOps_step hg hX ops ops[j] _ e hp bs a w hv hr hx he _ ?_
      intro x z hp' M0' bs' w' hx hst hv'
      refine ih (j + 1) _ _ hp' M0' bs' _ w' (by simp [hsz]) (fun k hk => ?_) hjs (by omega) (fun k hk hk2 => hforce k (by omega) hk2) hv' hst.hr hst.xr
        (relEnv_put (relEnv_step hst.st he) _ x z hx (fun d hd => by rw [hN]; exact hdst ops[j] (by simp) d hd)) (by rw [put_eval]; exact hN) (by rw [put_defers]; exact hQ.step hst)
      rw [set_get _ _ _ (by omega)]
      by_cases e : j = k
      · subst e; simp
      · rw [if_neg e, hl k hk]; omega

/-- The state while operations come in any order. -/
structure InvA (g : G) (X : XT) (M0 : Nat → Prop) (ops : List Oper) (m : Nat) (e : Env) (bs : Bs) (hp : List Blk) (listed : Array Bool) (a : Act) (w : World) : Prop where
  size : listed.size = ops.length
  pre : ∀ i, m ≤ i → i < ops.length → listed.getD i true = false
  closed : ∀ i o, ops[i]? = some o → listed.getD i true = true → ∀ k ∈ edg o, listed.getD k true = true
  hr : HR w M0 bs hp
  xr : XR X w M0 bs hp
  done : ∀ j o, j < m → ops[j]? = some o → listed.getD j true = true → ∀ d, o.dst = some d → relSL w (Mof M0 bs) bs hp (valAt g ops hp o (envAt g ops hp e j)) (a.tmps.getD d undef)
  old : ∀ s, (∀ j, j < m → dstIs ops j s = false) → relSL w (Mof M0 bs) bs hp (getE e s) (a.tmps.getD s undef)

theorem dstIs_of {ops : List Oper} {j : Nat} {o : Oper} {s : Nat} (ho : ops[j]? = some o) (hd : o.dst = some s) : dstIs ops j s = true := by simp [dstIs, ho, hd]
theorem dstIs_not {ops : List Oper} {j : Nat} {s : Nat} (h : dstIs ops j s = true) : ∃ o, ops[j]? = some o ∧ o.dst = some s := by
  unfold dstIs at h
  cases ho : ops[j]? with
  | none => simp [ho] at h
  | some o => simp [ho] at h; exact ⟨o, rfl, h⟩

theorem least_not {p : Nat → Bool} {m : Nat} (h : ∃ i, i < m ∧ p i = false) : ∃ i, i < m ∧ p i = false ∧ ∀ k, k < i → p k = true := by
  induction m with
  | zero => obtain ⟨i, h1, _⟩ := h; omega
  | succ m ih =>
    by_cases hm : ∃ i, i < m ∧ p i = false
    · obtain ⟨i, h1, h2, h3⟩ := ih hm
      exact ⟨i, by omega, h2, h3⟩
    · obtain ⟨i, h1, h2⟩ := h
      have hi : i = m := by
        rcases Nat.lt_or_ge i m with h | h
        · exact absurd ⟨i, h, h2⟩ hm
        · omega
      subst hi
      refine ⟨i, h1, h2, fun k hk => ?_⟩
      cases hpk : p k with
      | true => rfl
      | false => exact absurd ⟨k, hk, hpk⟩ hm

theorem getD_put {a : Act} {d : Option Nat} {z : Value} (s : Nat) (h : d ≠ some s) : (a.put d z).tmps.getD s undef = a.tmps.getD s undef := by
  cases d with
  | none => rfl
  | some k =>
    have hk : k ≠ s := fun e => h (by rw [e])
    simp only [Act.put, Array.getD_eq_getD_getElem?]
    rw [Array.getElem?_setIfInBounds_ne hk]
theorem getD_put_same {a : Act} {k : Nat} {z : Value} (h : k < a.tmps.size) : (a.put (some k) z).tmps.getD k undef = z := by
  simp [Act.put, Array.getD_eq_getD_getElem?, h]

/-- Operations in whatever order. -/
theorem phaseA (hg : g.good P) (hX : XOk P X) {N n : Nat} {r : Option Nat} {Q : Exit → Act → World → Prop} {K : Env → List Blk → Prop} (ops : Array Oper) (hdst : ∀ o ∈ ops.toList, ∀ d, o.dst = some d → d < N) (m : Nat) (hm : m ≤ ops.size)
    (hok : drawOk g.ye ops.toList m = true) (e : Env) (hp : List Blk) (bs : Bs) (hv : vcOps g ops.toList ops.toList e hp K) :
    ∀ (fuel : Nat) (listed : Array Bool) (a : Act) (w : World), InvA g X M0 ops.toList m e bs hp listed a w → a.tmps.size = N → Behind P g X M0 N Q K w bs hp a.defers →
    ((List.range m).filter (fun j => !listed.getD j true)).length + (ops.size - m) ≤ fuel → wpAnyIn (FW r) n P .any ops Q fuel listed a w := by
  have hlt : ∀ i o, ops.toList[i]? = some o → ∀ k ∈ edg o, k < i := fun i o ho => (drawOk_spec hok ho).1
  obtain ⟨hvm, hobl⟩ := vc_pre hv m (fun j o hj ho => ((drawOk_spec hok ho).2.1 hj).1) (by simpa using hm)
  have hsizes : ops.toList.length = ops.size := by simp
  intro fuel
  induction fuel with
  | zero =>
    intro listed a w hI hN hQ hf
    have hall : ∀ i, i < m → listed.getD i true = true := by
      intro i hi
      cases hli : listed.getD i true with
      | true => rfl
      | false =>
        have : i ∈ (List.range m).filter (fun j => !listed.getD j true) := List.mem_filter.2 ⟨List.mem_range.2 hi, by rw [hli]; rfl⟩
        have := List.length_pos_of_mem this
        omega
    refine phaseB hg hX ops hdst hlt 0 m listed (envAt g ops.toList hp e m) hp M0 bs a w (by rw [hI.size, hsizes]) (fun j hj => ⟨fun h => ?_, fun h => hall j h⟩) hm (by omega)
      (fun j hj hj2 k hk => (drawOk_spec hok (List.getElem?_eq_getElem (by simpa using hj2))).2.2 hj k hk) hvm hI.hr hI.xr ?_ hN hQ
    · rcases Nat.lt_or_ge j m with h' | h'
      · exact h'
      · rw [hI.pre j h' (by omega)] at h; cases h
    · intro s x hx
      have hgx : getE (envAt g ops.toList hp e m) s = x := by simp [getE, hx]
      rw [← hgx]
      rcases envAt_get (g := g) (hp := hp) ops.toList e s m (by simpa using hm) with ⟨j, o, h1, h2, h3, h4⟩ | ⟨h1, h2⟩
      · rw [h4]; exact hI.done j o h1 h2 (hall j h1) s h3
      · rw [h2]; refine hI.old s fun j hj => ?_
        cases hds : dstIs ops.toList j s with
        | false => rfl
        | true => obtain ⟨o, ho, hd⟩ := dstIs_not hds; exact absurd hd (h1 j o hj ho)
  | succ fuel ih =>
    intro listed a w hI hN hQ hf
    by_cases hall : ∀ i, i < m → listed.getD i true = true
    · refine phaseB hg hX ops hdst hlt (fuel + 1) m listed (envAt g ops.toList hp e m) hp M0 bs a w (by rw [hI.size, hsizes]) (fun j hj => ⟨fun h => ?_, fun h => hall j h⟩) hm (by omega)
        (fun j hj hj2 k hk => (drawOk_spec hok (List.getElem?_eq_getElem (by simpa using hj2))).2.2 hj k hk) hvm hI.hr hI.xr ?_ hN hQ
      · rcases Nat.lt_or_ge j m with h' | h'
        · exact h'
        · rw [hI.pre j h' (by omega)] at h; cases h
      · intro s x hx
        have hgx : getE (envAt g ops.toList hp e m) s = x := by simp [getE, hx]
        rw [← hgx]
        rcases envAt_get (g := g) (hp := hp) ops.toList e s m (by simpa using hm) with ⟨j, o, h1, h2, h3, h4⟩ | ⟨h1, h2⟩
        · rw [h4]; exact hI.done j o h1 h2 (hall j h1) s h3
        · rw [h2]; refine hI.old s fun j hj => ?_
          cases hds : dstIs ops.toList j s with
          | false => rfl
          | true => obtain ⟨o, ho, hd⟩ := dstIs_not hds; exact absurd hd (h1 j o hj ho)
    · have hex : ∃ i, i < m ∧ listed.getD i true = false := by
        apply Classical.byContradiction
        intro hne
        refine hall fun i hi => ?_
        cases hli : listed.getD i true with
        | true => rfl
        | false => exact absurd ⟨i, hi, hli⟩ hne
      obtain ⟨i0, hi0, hi1, hi2⟩ := least_not (p := fun i => listed.getD i true) hex
      have hls : listed.size = ops.size := by rw [hI.size, hsizes]
      refine ⟨fun hnil => ?_, fun j hj => ?_⟩
      · exfalso
        have hio : ops[i0]? = some ops[i0] := Array.getElem?_eq_getElem (by omega)
        have : i0 ∈ Region.ready .any ops listed := mem_ready.2 ⟨hi1, _, hio, fun ed hed hb => by
          have hk := hlt i0 _ (by rw [Array.getElem?_toList]; exact hio) ed.on (by simp only [edg, List.mem_map, List.mem_filter]; exact ⟨ed, ⟨by simpa using hed, hb⟩, rfl⟩)
          rw [← getD_tf (by omega)]
          exact hi2 ed.on hk⟩
        rw [hnil] at this; cases this
      · obtain ⟨h1, o, ho, h2⟩ := mem_ready.1 hj
        have hjs := (Array.getElem?_eq_some_iff.1 ho).1
        have hol : ops.toList[j]? = some o := by rw [Array.getElem?_toList]; exact ho
        obtain ⟨d1, d2, d3⟩ := drawOk_spec hok hol
        have hedg : ∀ k ∈ edg o, listed.getD k true = true := by
          intro k hk
          have hk0 := hk
          simp only [edg, List.mem_map, List.mem_filter] at hk
          obtain ⟨ed, ⟨hed, hb⟩, rfl⟩ := hk
          have := d1 ed.on hk0
          rw [getD_tf (by omega)]
          exact h2 ed (by simpa using hed) hb
        have hjm : j < m := by
          rcases Nat.lt_or_ge j m with h | h
          · exact h
          · exfalso
            have hcl : Closed ops.toList (fun k => listed.getD k true = true) := fun k ok hok' hk q hq => hI.closed k ok hok' hk q hq
            have := clo_spec hcl ops.toList [] (by simp) (fun i o h => by simp at h) hlt j o (by simpa using hjs) hol hedg i0 (d3 h i0 (by omega))
            rw [hi1] at this; cases this
        obtain ⟨q1, q2, q3, q4⟩ := d2 hjm
        have hob := hobl j o hjm hol
        -- what its operands are
        have hslot : ∀ t, (∀ j', j' < m → dstIs ops.toList j' t = true → j' < j ∧ j' ∈ edg o) → relSL w (Mof M0 bs) bs hp (getE (envAt g ops.toList hp e j) t) (a.tmps.getD t undef) := by
          intro t ht
          rcases envAt_get (g := g) (hp := hp) ops.toList e t j (by simp; omega) with ⟨j', o', k1, k2, k3, k4⟩ | ⟨k1, k2⟩
          · rw [k4]
            exact hI.done j' o' (by omega) k2 (hedg j' (ht j' (by omega) (dstIs_of k2 k3)).2) t k3
          · rw [k2]
            refine hI.old t fun j' hj' => ?_
            cases hds : dstIs ops.toList j' t with
            | false => rfl
            | true =>
              obtain ⟨o', ho', hd'⟩ := dstIs_not hds
              exact absurd hd' (k1 j' o' (ht j' hj' hds).1 ho')
        have hops : ∀ x ∈ o.op.operands.toList, (oper (envAt g ops.toList hp e j) x).ok = true → relRV w (Mof M0 bs) bs hp (opRV (envAt g ops.toList hp e j) x) (a.eval x) := by
          intro x hx hxo
          cases x with
          | tmp t => exact (hslot t (fun j' hj' hds => q2 t (mem_temps hx) j' hj' hds)).1 hxo
          | const v => cases v <;> exact rfl
          | func f => exact ⟨[], rfl, .nil⟩
          | global n => trivial
        -- what it leaves
        have next : ∀ (z : Value) (w' : World), relSL w' (Mof M0 bs) bs hp (valAt g ops.toList hp o (envAt g ops.toList hp e j)) z → HR w' M0 bs hp → Step false w (Mof M0 bs) bs hp w' (Mof M0 bs) bs hp →
            wpAnyIn (FW r) n P .any ops Q fuel (listed.setIfInBounds j true) (a.put o.dst z) w' := by
          intro z w' hz hr' hst
          refine ih _ _ w' ⟨by simp [hI.size], ?_, ?_, hr', hI.xr.step hX hst hr'.lt, ?_, ?_⟩ (by rw [put_eval]; exact hN) (by rw [put_defers]; exact hQ.step (.of_step hX hI.xr hr' hst)) ?_
          · intro i hmi hi
            rw [set_get _ _ _ (by omega), if_neg (by omega)]
            exact hI.pre i hmi hi
          · intro i oi hoi hli k hk
            rw [set_get _ _ _ (by omega)] at hli ⊢
            by_cases e1 : j = k
            · rw [if_pos e1]
            · rw [if_neg e1]
              by_cases e2 : j = i
              · subst e2; rw [hol] at hoi; cases hoi; exact hedg k hk
              · rw [if_neg e2] at hli; exact hI.closed i oi hoi hli k hk
          · intro j' o' hj' ho' hl' d hd
            by_cases e1 : j = j'
            · subst e1
              rw [hol] at ho'; cases ho'
              rw [hd, getD_put_same (by rw [hN]; exact hdst o (List.mem_of_getElem? hol) d hd)]
              exact hz
            · have hne : o.dst ≠ some d := fun h => by
                have := q4 j' hj' (fun e => e1 e.symm) d h
                rw [dstIs_of ho' hd] at this; cases this
              rw [getD_put d hne]
              rw [set_get _ _ _ (by omega), if_neg e1] at hl'
              exact relSL_step hst _ _ (hI.done j' o' hj' ho' hl' d hd)
          · intro s hs
            have hne : o.dst ≠ some s := fun h => by
              have := hs j hjm
              rw [dstIs_of hol h] at this; cases this
            rw [getD_put s hne]
            exact relSL_step hst _ _ (hI.old s hs)
          · have := filter_lt (fun k => !listed.getD k true) (fun k => !(listed.setIfInBounds j true).getD k true) (fun x hx => by
              simp only [set_get _ _ _ (show j < listed.size by omega)] at hx
              by_cases e1 : j = x
              · rw [if_pos e1] at hx; simp at hx
              · rw [if_neg e1] at hx; exact hx) j (by simp [h1]) (by simp [set_get _ _ _ (show j < listed.size by omega)]) (List.range m) (by simpa using hjm)
            omega
        unfold wpOpIn
        rw [ho]
        simp only
        unfold oblAt at hob
        unfold valAt at next
        cases hgd : o.guard with
        | none =>
          rw [if_pos (by simp [Region.wanted, hgd])]
          simp only [hgd] at hob next
          exact pEv_wp hg hI.hr o hops hob.1 hob.2 fun z w' k1 k2 k3 => next z w' ⟨fun _ => k1, by simp⟩ k2 k3
        | some gd =>
          simp only [hgd] at hob next
          obtain ⟨gc, hgc, hob⟩ := hob
          simp only [hgc] at next
          obtain ⟨q5, q6⟩ := q3 gd hgd
          rw [guard_rel (ops := ops) hgc o hgd (fun d hd => hslot d (fun j' hj' hds => by
            have hgo : ∃ og, ops.toList[gd.1]? = some og ∧ og.dst = some d := by
              rw [Array.getElem?_toList]
              cases hog : ops[gd.1]? with
              | none => simp [hog] at hd
              | some og => simp [hog] at hd; exact ⟨og, rfl, hd⟩
            obtain ⟨og, hog, hogd⟩ := hgo
            have hjg : j' = gd.1 := by
              apply Classical.byContradiction
              intro hne
              have := ((drawOk_spec hok hog).2.1 q5).2.2.2 j' hj' hne d hogd
              rw [hds] at this; cases this
            subst hjg
            exact ⟨d1 _ q6, q6⟩))]
          cases gc with
          | true =>
            obtain ⟨k1, k2⟩ := hob rfl
            exact pEv_wp hg hI.hr o hops k1 k2 fun z w' k1 k2 k3 => next z w' ⟨fun _ => k1, by simp⟩ k2 k3
          | false => exact ⟨fun _ _ => trivial, next undef w ⟨by simp, fun _ => rfl⟩ hI.hr (Step.refl _ _ _ _)⟩

/-- A region, drawn or not. -/
theorem region_sound (hg : g.good P) (hX : XOk P X) (hm : P.follows .mixedOrders = true) {N n : Nat} {r : Option Nat} {Q : Exit → Act → World → Prop} {K : Env → List Blk → Prop} (id : Nat) (ops : Array Oper) (draw : Bool) (hok : regionOk g.ye N ops.toList draw = true)
    (e : Env) (hp : List Blk) (bs : Bs) (a : Act) (w : World) (hv : vcOps g ops.toList ops.toList e hp K) (hr : HR w M0 bs hp) (hx : XR X w M0 bs hp) (he : relEnv w (Mof M0 bs) bs hp e a) (hN : a.tmps.size = N) (hQ : Behind P g X M0 N Q K w bs hp a.defers) :
    (Code.region id ops draw).wpIn (FW r) n P Q a w := by
  unfold regionOk at hok
  simp only [Bool.and_eq_true, List.all_eq_true] at hok
  obtain ⟨h1, h2⟩ := hok
  have hdst : ∀ o ∈ ops.toList, ∀ d, o.dst = some d → d < N := fun o ho d hd => by have := h1 o ho; rw [hd] at this; simpa using this
  cases draw with
  | false => exact wpIn_region_list (vcOps_sound hg hX ops ops.toList e hp M0 bs a w hdst hv hr hx he hN hQ)
  | true =>
    simp only [Bool.not_true, Bool.false_or, List.any_eq_true, List.mem_range] at h2
    obtain ⟨m, hm1, hm2⟩ := h2
    refine wpIn_region_any hm ?_
    obtain ⟨k1, k2⟩ := hr.keep_drew
    refine phaseA hg hX ops hdst m (by simp at hm1; omega) hm2 e hp bs hv _ _ a _ ⟨by simp, ?_, ?_, k1, hx.step hX k2 k1.lt, ?_, ?_⟩ hN (hQ.step (.of_step hX hx k1 k2)) ?_
    · intro i _ hi; simp at hi; simp [Array.getD_eq_getD_getElem?, hi]
    · intro i o ho hl
      have hi := (List.getElem?_eq_some_iff.1 ho).1
      simp at hi
      simp [Array.getD_eq_getD_getElem?, hi] at hl
    · intro j o hj ho hl
      have hi := (List.getElem?_eq_some_iff.1 ho).1
      simp at hi
      simp [Array.getD_eq_getD_getElem?, hi] at hl
    · intro s _; exact relSL_step k2 _ _ (getE_rel he s)
    · have := List.length_filter_le (fun j => !(Array.replicate ops.size false).getD j true) (List.range m)
      simp at this hm1 ⊢
      omega


/-! ### Every order, one by one -/
def readyL (ops : List Oper) (done : List Nat) : List Nat :=
  (List.range ops.length).filter fun j => !done.contains j && match ops[j]? with
    | some o => (edg o).all fun k => done.contains k
    | none => false
def allP : List Nat → (Nat → Prop) → Prop
  | [], _ => True
  | j :: r, f => f j ∧ allP r f
theorem allP_mem {f : Nat → Prop} : ∀ {l : List Nat}, allP l f → ∀ j ∈ l, f j
  | [], _, j, h => by cases h
  | k :: r, h, j, hj => by
    cases hj with
    | head => exact h.1
    | tail _ hj => exact allP_mem h.2 j hj
def vcAll (g : G) (ops : List Oper) : Nat → List Nat → Env → List Blk → (Env → List Blk → Prop) → Prop
  | 0, done, e, hp, K => (readyL ops done).isEmpty = true ∧ K e hp
  | f + 1, done, e, hp, K => ((readyL ops done).isEmpty = true → K e hp) ∧ allP (readyL ops done) fun j => match ops[j]? with
    | some o => vcOps g ops [o] e hp fun e' hp' => vcAll g ops f (j :: done) e' hp' K
    | none => False

theorem ready_eq {ops : Array Oper} {listed : Array Bool} {done : List Nat} (hsz : listed.size = ops.size) (hd : ∀ j, listed.getD j false = done.contains j) (j : Nat) : j ∈ Region.ready .any ops listed ↔ j ∈ readyL ops.toList done := by
  rw [mem_ready, readyL, List.mem_filter, List.mem_range]
  constructor
  · rintro ⟨h1, o, ho, h2⟩
    have hj := (Array.getElem?_eq_some_iff.1 ho).1
    refine ⟨by simpa using hj, ?_⟩
    rw [getD_tf (by omega), hd] at h1
    rw [Array.getElem?_toList, ho]
    simp only [Bool.and_eq_true, Bool.not_eq_true', List.all_eq_true]
    refine ⟨h1, fun k hk => ?_⟩
    simp only [edg, List.mem_map, List.mem_filter] at hk
    obtain ⟨ed, ⟨hed, hb⟩, rfl⟩ := hk
    rw [← hd]; exact h2 ed (by simpa using hed) hb
  · rintro ⟨h1, h2⟩
    have hj : j < ops.size := by simpa using h1
    have ho : ops[j]? = some ops[j] := Array.getElem?_eq_getElem hj
    rw [Array.getElem?_toList, ho] at h2
    simp only [Bool.and_eq_true, Bool.not_eq_true', List.all_eq_true] at h2
    refine ⟨by rw [getD_tf (by omega), hd]; exact h2.1, _, ho, fun ed hed hb => ?_⟩
    rw [hd]
    exact h2.2 ed.on (by simp only [edg, List.mem_map, List.mem_filter]; exact ⟨ed, ⟨by simpa using hed, hb⟩, rfl⟩)

theorem vcAll_sound (hg : g.good P) (hX : XOk P X) {N n : Nat} {r : Option Nat} {Q : Exit → Act → World → Prop} {K : Env → List Blk → Prop} (ops : Array Oper) (hdst : ∀ o ∈ ops.toList, ∀ d, o.dst = some d → d < N) :
    ∀ (fuel : Nat) (done : List Nat) (listed : Array Bool) (e : Env) (hp : List Blk) (M0 : Nat → Prop) (bs : Bs) (a : Act) (w : World), listed.size = ops.size → (∀ j, listed.getD j false = done.contains j) → vcAll g ops.toList fuel done e hp K →
    HR w M0 bs hp → XR X w M0 bs hp → relEnv w (Mof M0 bs) bs hp e a → a.tmps.size = N → Behind P g X M0 N Q K w bs hp a.defers → wpAnyIn (FW r) n P .any ops Q fuel listed a w := by
  intro fuel
  induction fuel with
  | zero =>
    intro done listed e hp M0 bs a w hsz hd hv hr hx he hN hQ
    refine ⟨?_, hQ e hp M0 bs a w hv.2 (.refl hr hx) he hN rfl⟩
    cases hr' : Region.ready .any ops listed with
    | nil => rfl
    | cons j js =>
      have : j ∈ readyL ops.toList done := (ready_eq hsz hd j).1 (by rw [hr']; simp)
      rw [List.isEmpty_iff.1 hv.1] at this; cases this
  | succ fuel ih =>
    intro done listed e hp M0 bs a w hsz hd hv hr hx he hN hQ
    obtain ⟨hv1, hv2⟩ := hv
    refine ⟨fun hnil => ?_, fun j hj => ?_⟩
    · refine hQ e hp M0 bs a w (hv1 ?_) (.refl hr hx) he hN rfl
      cases hr' : readyL ops.toList done with
      | nil => rfl
      | cons j js =>
        have : j ∈ Region.ready .any ops listed := (ready_eq hsz hd j).2 (by rw [hr']; simp)
        rw [hnil] at this; cases this
    · have hjr := (ready_eq hsz hd j).1 hj
      have hvj := allP_mem hv2 j hjr
      obtain ⟨_, o, ho, _⟩ := mem_ready.1 hj
      have hjs := (Array.getElem?_eq_some_iff.1 ho).1
      rw [Array.getElem?_toList, ho] at hvj
      simp only at hvj
      unfold wpOpIn
      rw [ho]
      simp only
      have hmem : o ∈ ops.toList := List.mem_of_getElem? (by rw [Array.getElem?_toList]; exact ho)
      refine vcOps_step hg hX ops o [] e hp bs a w hvj hr hx he _ ?_
      intro x z hp' M0' bs' w' hx' hst hv'
      refine ih (j :: done) _ _ hp' M0' bs' _ w' (by simp [hsz]) (fun k => ?_) hv' hst.hr hst.xr (relEnv_put (relEnv_step hst.st he) _ x z hx' (fun d hd => by rw [hN]; exact hdst o hmem d hd)) (by rw [put_eval]; exact hN) (by rw [put_defers]; exact hQ.step hst)
      simp only [Array.getD_eq_getD_getElem?, List.contains_cons]
      by_cases e1 : j = k
      · subst e1; simp [hsz, hjs]
      · rw [Array.getElem?_setIfInBounds_ne e1, ← Array.getD_eq_getD_getElem?, hd]
        have : (k == j) = false := by simp; exact fun h => e1 h.symm
        rw [this]; rfl

def dstOk (N : Nat) (ops : List Oper) : Bool := ops.all (fun o => match o.dst with | some d => d < N | none => true)
theorem region_all (hg : g.good P) (hX : XOk P X) (hm : P.follows .mixedOrders = true) {N n : Nat} {r : Option Nat} {Q : Exit → Act → World → Prop} {K : Env → List Blk → Prop} (id : Nat) (ops : Array Oper) (hok : dstOk N ops.toList = true)
    (e : Env) (hp : List Blk) (bs : Bs) (a : Act) (w : World) (hv : vcAll g ops.toList ops.toList.length [] e hp K) (hr : HR w M0 bs hp) (hx : XR X w M0 bs hp) (he : relEnv w (Mof M0 bs) bs hp e a) (hN : a.tmps.size = N) (hQ : Behind P g X M0 N Q K w bs hp a.defers) :
    (Code.region id ops true).wpIn (FW r) n P Q a w := by
  have hdst : ∀ o ∈ ops.toList, ∀ d, o.dst = some d → d < N := by
    unfold dstOk at hok
    rw [List.all_eq_true] at hok
    intro o ho d hd
    have := hok o ho; rw [hd] at this; simpa using this
  refine wpIn_region_any hm ?_
  obtain ⟨k1, k2⟩ := hr.keep_drew
  have hn : Nx P g X w M0 bs hp { w with drawn := w.drawn + 1 } M0 bs hp := .of_step hX hx k1 k2
  rw [show ops.size = ops.toList.length by simp]
  refine vcAll_sound hg hX ops hdst _ [] _ e hp M0 bs a _ (by simp) (fun j => ?_) hv hn.hr hn.xr (relEnv_step k2 he) hN (hQ.step hn)
  simp only [Array.getD_eq_getD_getElem?]
  cases h : (Array.replicate ops.toList.length false)[j]? with
  | none => rfl
  | some b =>
    have := (Array.getElem?_eq_some_iff.1 h)
    obtain ⟨h1, h2⟩ := this
    simp at h2; subst h2; rfl
end
end Go.Am
