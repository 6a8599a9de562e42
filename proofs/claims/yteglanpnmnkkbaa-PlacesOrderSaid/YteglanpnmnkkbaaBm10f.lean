/- Regions in any order, with operations that change memory one after the other. -/
import Derived.Test.YteglanpnmnkkbaaBm10
namespace Go.Am
set_option linter.unusedVariables false
open Go.RowKit

/-- Operations that do not look at memory. -/
def hpFree : Op → Bool
  | .move _ => true
  | .assign _ => true
  | .pick .. => true
  | .binOp .. => true
  | .unOp .. => true
  | .slice .. => true
  | .extract .. => true
  | .convert .. => true
  | .buildSlice _ _ ps => ps.toList.isEmpty
  | .call { callee := .value (.func _), .. } => true
  | _ => false

section
variable {P : Program} {g : G} {X : XT} {w : World} {M0 : Nat → Prop} {bs : Bs} {hp : List Blk}

theorem hpFree_eq {op : Op} (h : hpFree op = true) (hp hp' : List Blk) (e : Env) (t : TypeId) : pEv g hp e t op = pEv g hp' e t op := by
  cases op
  case call c =>
    obtain ⟨callee, args, argTypes⟩ := c
    cases callee
    case value f => cases f <;> first | rfl | (simp [hpFree] at h)
    all_goals simp [hpFree] at h
  case buildSlice u len ps =>
    obtain ⟨ps⟩ := ps
    cases ps with
    | cons x r => simp [hpFree] at h
    | nil =>
      simp only [pEv, buildSliceEv, List.map_nil, fillSV]
      cases g.td u <;> try rfl
      rename_i e ety b
      simp only
      cases ety.parses len (List.replicate (len * ety.size) SV.any) <;> rfl
  all_goals first | rfl | (simp [hpFree] at h)
theorem isMem0_isMem {y : Bool × List FuncId} {op : Op} (h : isMem0 op = true) : isMem y op = true := by
  unfold isMem
  split
  · simp [isMem0] at h
  · simp [isMem0] at h
  · exact h

def valF (g : G) (ops : List Oper) (o : Oper) (s : Env × List Blk) : SL := match isMem0 o.op with
  | true => match gcond ops s.1 o.guard with
    | some true => ⟨true, (mEv g s.2 s.1 o.op).2.1⟩
    | _ => ⟨false, .v (.s .any)⟩
  | false => valAt g ops s.2 o s.1
def hpF (g : G) (ops : List Oper) (o : Oper) (s : Env × List Blk) : List Blk := match isMem0 o.op with
  | true => match gcond ops s.1 o.guard with
    | some true => (mEv g s.2 s.1 o.op).2.2
    | _ => s.2
  | false => s.2
def stAt (g : G) (ops : List Oper) (s : Env × List Blk) : Nat → Env × List Blk
  | 0 => s
  | i + 1 => match ops[i]? with
    | some o => (putE o.dst (valF g ops o (stAt g ops s i)) (stAt g ops s i).1, hpF g ops o (stAt g ops s i))
    | none => stAt g ops s i
def oblF (g : G) (ops : List Oper) (o : Oper) (s : Env × List Blk) : Prop := match isMem0 o.op with
  | true => ∃ gc, gcond ops s.1 o.guard = some gc ∧ (gc = true → okOps s.1 o.op ∧ (mEv g s.2 s.1 o.op).1)
  | false => oblAt g ops s.2 o s.1
/-- May it stand among operations in any order? -/
def flIn (y : Bool × List FuncId) (o : Oper) : Bool := !isMem y o.op || isMem0 o.op

theorem vc_preF {ops : List Oper} {e : Env} {K : Env → List Blk → Prop} (h : vcOps g ops ops e hp K) : ∀ (i : Nat), (∀ j o, j < i → ops[j]? = some o → flIn g.ye o = true) → i ≤ ops.length →
    vcOps g ops (ops.drop i) (stAt g ops (e, hp) i).1 (stAt g ops (e, hp) i).2 K ∧ ∀ j o, j < i → ops[j]? = some o → oblF g ops o (stAt g ops (e, hp) j) := by
  intro i
  induction i with
  | zero => intro _ _; exact ⟨by simpa [stAt] using h, fun j o hj => by omega⟩
  | succ i ih =>
    intro hm hi
    obtain ⟨h1, h2⟩ := ih (fun j o hj => hm j o (by omega)) (by omega)
    have hlt : i < ops.length := by omega
    have ho : ops[i]? = some ops[i] := List.getElem?_eq_getElem hlt
    rw [List.drop_eq_getElem_cons hlt] at h1
    have hmem := hm i _ (by omega) ho
    simp only [vcOps] at h1
    have key : vcOps g ops (ops.drop (i + 1)) (stAt g ops (e, hp) (i + 1)).1 (stAt g ops (e, hp) (i + 1)).2 K ∧ oblF g ops ops[i] (stAt g ops (e, hp) i) := by
      simp only [stAt, ho, valF, hpF, oblF]
      cases hm0 : isMem0 ops[i].op with
      | true =>
        cases hgd : ops[i].guard with
        | none =>
          simp only [hgd] at h1
          obtain ⟨q1, q2⟩ := h1
          simp only [hm0] at q2
          exact ⟨q2.2, true, rfl, fun _ => ⟨q1, q2.1⟩⟩
        | some gd =>
          simp only [hgd] at h1
          cases hgc : gcond ops (stAt g ops (e, hp) i).1 (some gd) with
          | none => simp [hgc] at h1
          | some gc =>
            have hme : isMem g.ye ops[i].op = true := isMem0_isMem hm0
            simp only [hgc, hme] at h1 ⊢
            cases gc with
            | true =>
              obtain ⟨q1, q2⟩ := h1.1 rfl
              simp only [hm0] at q2
              exact ⟨q2.2, true, rfl, fun _ => ⟨q1, q2.1⟩⟩
            | false => exact ⟨h1.2 rfl, false, rfl, fun h => by cases h⟩
      | false =>
        have hmem : isMem g.ye ops[i].op = false := by
          unfold flIn at hmem
          rw [hm0] at hmem
          simpa using hmem
        simp only [valAt, oblAt]
        cases hgd : ops[i].guard with
        | none =>
          simp only [hgd] at h1
          obtain ⟨q1, q2, q3⟩ := opVC_quiet h1 hmem
          exact ⟨q3, q1, q2⟩
        | some gd =>
          simp only [hgd] at h1
          cases hgc : gcond ops (stAt g ops (e, hp) i).1 (some gd) with
          | none => simp [hgc] at h1
          | some gc =>
            simp only [hgc, hmem] at h1 ⊢
            exact ⟨h1.2, gc, rfl, h1.1⟩
    refine ⟨key.1, fun j o hj hjo => ?_⟩
    rcases Nat.lt_succ_iff_lt_or_eq.1 hj with hlt' | rfl
    · exact h2 j o hlt' hjo
    · rw [ho] at hjo; cases hjo; exact key.2

theorem stAt_get (ops : List Oper) (s0 : Env × List Blk) (s : Nat) : ∀ i, i ≤ ops.length →
    (∃ j o, j < i ∧ ops[j]? = some o ∧ o.dst = some s ∧ getE (stAt g ops s0 i).1 s = valF g ops o (stAt g ops s0 j)) ∨
    ((∀ j o, j < i → ops[j]? = some o → o.dst ≠ some s) ∧ getE (stAt g ops s0 i).1 s = getE s0.1 s) := by
  intro i
  induction i with
  | zero => intro _; right; exact ⟨fun j o hj => by omega, rfl⟩
  | succ i ih =>
    intro hi
    have hlt : i < ops.length := by omega
    have ho : ops[i]? = some ops[i] := List.getElem?_eq_getElem hlt
    simp only [stAt, ho]
    rw [getE_put]
    by_cases hd : ops[i].dst = some s
    · left
      exact ⟨i, _, by omega, ho, hd, by rw [if_pos hd]⟩
    · rw [if_neg hd]
      rcases ih (by omega) with ⟨j, o, h1, h2, h3, h4⟩ | ⟨h1, h2⟩
      · exact .inl ⟨j, o, by omega, h2, h3, h4⟩
      · refine .inr ⟨fun j o hj hjo => ?_, h2⟩
        rcases Nat.lt_succ_iff_lt_or_eq.1 hj with hlt' | rfl
        · exact h1 j o hlt' hjo
        · rw [ho] at hjo; cases hjo; exact hd

def memAt (y : Bool × List FuncId) (ops : List Oper) (k : Nat) : Bool := match ops[k]? with
  | some o => isMem y o.op
  | none => false

theorem stAt_const {ops : List Oper} {s0 : Env × List Blk} {y : Bool × List FuncId} {q : Nat} : ∀ (m : Nat), q ≤ m → (∀ k, q ≤ k → k < m → memAt y ops k = false) → (stAt g ops s0 m).2 = (stAt g ops s0 q).2 := by
  intro m
  induction m with
  | zero => intro h _; rw [show q = 0 by omega]
  | succ m ih =>
    intro h hk
    rcases Nat.lt_or_ge m q with hm | hm
    · rw [show q = m + 1 by omega]
    · rw [← ih hm fun k h1 h2 => hk k h1 (by omega)]
      have := hk m hm (by omega)
      simp only [stAt]
      cases ho : ops[m]? with
      | none => rfl
      | some o =>
        simp only [memAt, ho] at this
        simp only [hpF, isMem_false this]

/-- The states of memory that are told apart. -/
def vers (y : Bool × List FuncId) (ops : List Oper) (m : Nat) : List Nat := 0 :: ((List.range m).filter (memAt y ops)).map (· + 1)
def clash (y : Bool × List FuncId) (ops : List Oper) (m i q : Nat) : Bool :=
  (List.range m).any fun k => memAt y ops k && ((((clo ops []).getD i []).contains k && !(decide (k < q))) || (((clo ops []).getD k []).contains i && decide (k < q)))
def drawFl (y : Bool × List FuncId) (ops : List Oper) (m : Nat) (ps : List (Nat × Nat)) : Bool :=
  (List.range ops.length).all fun i => match ops[i]? with
    | none => true
    | some o => (edg o).all (fun k => k < i) &&
      (if i < m then
        (temps o.op.operands.toList).all (fun t => (List.range m).all fun j => !dstIs ops j t || (j < i && (edg o).contains j)) &&
        (match o.guard with
          | none => true
          | some (j, _) => j < m && (edg o).contains j) &&
        (List.range m).all (fun j => j == i || (match o.dst with
          | some d => !dstIs ops j d
          | none => true)) &&
        (if isMem y o.op then isMem0 o.op && (List.range i).all (fun k => !memAt y ops k || ((clo ops []).getD i []).contains k)
          else hpFree o.op || (vers y ops m).all fun q => clash y ops m i q || ps.contains (i, q))
      else (List.range i).all fun k => ((clo ops []).getD i []).contains k)
theorem drawFl_spec {y : Bool × List FuncId} {ops : List Oper} {m : Nat} {ps : List (Nat × Nat)} (h : drawFl y ops m ps = true) {i : Nat} {o : Oper} (ho : ops[i]? = some o) :
    (∀ k ∈ edg o, k < i) ∧ (i < m → (∀ t ∈ temps o.op.operands.toList, ∀ j, j < m → dstIs ops j t = true → j < i ∧ j ∈ edg o) ∧ (∀ gd, o.guard = some gd → gd.1 < m ∧ gd.1 ∈ edg o) ∧
      (∀ j, j < m → j ≠ i → ∀ d, o.dst = some d → dstIs ops j d = false) ∧
      (isMem y o.op = true → isMem0 o.op = true ∧ ∀ k, k < i → memAt y ops k = true → k ∈ (clo ops []).getD i []) ∧
      (isMem y o.op = false → hpFree o.op = true ∨ ∀ q ∈ vers y ops m, clash y ops m i q = true ∨ (i, q) ∈ ps)) ∧
    (m ≤ i → ∀ k, k < i → k ∈ (clo ops []).getD i []) := by
  unfold drawFl at h
  rw [List.all_eq_true] at h
  have hi := (List.getElem?_eq_some_iff.1 ho).1
  have h1 := h i (by simpa using hi)
  rw [ho] at h1
  simp only [Bool.and_eq_true, List.all_eq_true, decide_eq_true_eq] at h1
  obtain ⟨h1, h2⟩ := h1
  refine ⟨h1, fun hlt => ?_, fun hge => ?_⟩
  · rw [if_pos hlt] at h2
    simp only [Bool.and_eq_true, List.all_eq_true, Bool.not_eq_true', List.mem_range, Bool.or_eq_true, decide_eq_true_eq, beq_iff_eq] at h2
    obtain ⟨⟨⟨q2, q3⟩, q4⟩, q5⟩ := h2
    refine ⟨fun t ht j hj hd => ?_, fun gd hgd => ?_, fun j hj hne d hd => ?_, fun hm => ?_, fun hm => ?_⟩
    · rcases q2 t ht j hj with q | q
      · rw [hd] at q; cases q
      · exact ⟨q.1, by simpa using q.2⟩
    · rw [hgd] at q3
      obtain ⟨x, y⟩ := gd
      simp only [Bool.and_eq_true, decide_eq_true_eq] at q3
      exact ⟨q3.1, by simpa using q3.2⟩
    · have := q4 j hj
      rw [hd] at this
      simpa [hne] using this
    · rw [if_pos hm] at q5
      simp only [Bool.and_eq_true, List.all_eq_true, List.mem_range, Bool.or_eq_true, Bool.not_eq_true'] at q5
      refine ⟨q5.1, fun k hk hmk => ?_⟩
      rcases q5.2 k hk with q | q
      · rw [hmk] at q; cases q
      · simpa using q
    · rw [if_neg (by rw [hm]; decide)] at q5
      simp only [Bool.or_eq_true, List.all_eq_true] at q5
      refine q5.imp id fun q v hv => (q v hv).imp id fun q => by simpa using q
  · rw [if_neg (by omega)] at h2
    simp only [List.all_eq_true, List.mem_range] at h2
    exact fun k hk => by simpa using h2 k hk

/-- What is asked for the states of memory in which an operation may find itself. -/
def eqAt (g : G) (ops : List Oper) (i : Nat) (s s' : Env × List Blk) : Prop := match ops[i]? with
  | some o => (pEv g s'.2 s.1 o.type o.op).1 ∧ (pEv g s'.2 s.1 o.type o.op).2 = (pEv g s.2 s.1 o.type o.op).2
  | none => True
def floatAt (g : G) (ops : List Oper) (s0 : Env × List Blk) (ps : List (Nat × Nat)) : Prop := ∀ p ∈ ps, eqAt g ops p.1 (stAt g ops s0 p.1) (stAt g ops s0 p.2)

/-- The state while operations come in any order. -/
structure InvF (g : G) (X : XT) (M0 : Nat → Prop) (ops : List Oper) (m : Nat) (s0 : Env × List Blk) (q : Nat) (bs : Bs) (listed : Array Bool) (a : Act) (w : World) : Prop where
  size : listed.size = ops.length
  pre : ∀ i, m ≤ i → i < ops.length → listed.getD i true = false
  closed : ∀ i o, ops[i]? = some o → listed.getD i true = true → ∀ k ∈ edg o, listed.getD k true = true
  ver : ∀ k, k < m → memAt g.ye ops k = true → (listed.getD k true = true ↔ k < q)
  qin : q ∈ vers g.ye ops m
  hr : HR w M0 bs (stAt g ops s0 q).2
  xr : XR X w M0 bs (stAt g ops s0 q).2
  done : ∀ j o, j < m → ops[j]? = some o → listed.getD j true = true → ∀ d, o.dst = some d → relSL w (Mof M0 bs) bs (stAt g ops s0 q).2 (valF g ops o (stAt g ops s0 j)) (a.tmps.getD d undef)
  old : ∀ s, (∀ j, j < m → dstIs ops j s = false) → relSL w (Mof M0 bs) bs (stAt g ops s0 q).2 (getE s0.1 s) (a.tmps.getD s undef)

theorem vers_le {y : Bool × List FuncId} {ops : List Oper} {m q : Nat} (h : q ∈ vers y ops m) : q ≤ m := by
  simp only [vers, List.mem_cons, List.mem_map, List.mem_filter, List.mem_range] at h
  rcases h with rfl | ⟨k, ⟨hk, _⟩, rfl⟩ <;> omega

/-- All of them are done. -/
theorem InvF.finish {ops : List Oper} {m : Nat} {s0 : Env × List Blk} {q : Nat} {listed : Array Bool} {a : Act} (hm : m ≤ ops.length) (hI : InvF g X M0 ops m s0 q bs listed a w) (hall : ∀ i, i < m → listed.getD i true = true) :
    (stAt g ops s0 m).2 = (stAt g ops s0 q).2 ∧ relEnv w (Mof M0 bs) bs (stAt g ops s0 m).2 (stAt g ops s0 m).1 a := by
  have hc : (stAt g ops s0 m).2 = (stAt g ops s0 q).2 := by
    refine stAt_const (y := g.ye) m (vers_le hI.qin) fun k h1 h2 => ?_
    cases hk : memAt g.ye ops k with
    | false => rfl
    | true =>
      have := (hI.ver k h2 hk).1 (hall k h2)
      omega
  refine ⟨hc, ?_⟩
  rw [hc]
  intro s x hx
  have hgx : getE (stAt g ops s0 m).1 s = x := by simp [getE, hx]
  rw [← hgx]
  rcases stAt_get (g := g) ops s0 s m hm with ⟨j, o, h1, h2, h3, h4⟩ | ⟨h1, h2⟩
  · rw [h4]; exact hI.done j o h1 h2 (hall j h1) s h3
  · rw [h2]; refine hI.old s fun j hj => ?_
    cases hds : dstIs ops j s with
    | false => rfl
    | true => obtain ⟨o, ho, hd⟩ := dstIs_not hds; exact absurd hd (h1 j o hj ho)

/-- Operations in whatever order. -/
theorem phaseF (hg : g.good P) (hX : XOk P X) {N n : Nat} {r : Option Nat} {Q : Exit → Act → World → Prop} {K : Env → List Blk → Prop} (ops : Array Oper) (hdst : ∀ o ∈ ops.toList, ∀ d, o.dst = some d → d < N) (m : Nat) (hm : m ≤ ops.size) (ps : List (Nat × Nat))
    (hok : drawFl g.ye ops.toList m ps = true) (e : Env) (hp : List Blk) (hv : vcOps g ops.toList ops.toList e hp K) (hfl : floatAt g ops.toList (e, hp) ps) :
    ∀ (fuel : Nat) (q : Nat) (bs : Bs) (listed : Array Bool) (a : Act) (w : World), InvF g X M0 ops.toList m (e, hp) q bs listed a w → a.tmps.size = N → Behind P g X M0 N Q K w bs (stAt g ops.toList (e, hp) q).2 a.defers →
    ((List.range m).filter (fun j => !listed.getD j true)).length + (ops.size - m) ≤ fuel → wpAnyIn (FW r) n P .any ops Q fuel listed a w := by
  have hlt : ∀ i o, ops.toList[i]? = some o → ∀ k ∈ edg o, k < i := fun i o ho => (drawFl_spec hok ho).1
  obtain ⟨hvm, hobl⟩ := vc_preF hv m (fun j o hj ho => by
    obtain ⟨_, _, _, h4, _⟩ := (drawFl_spec hok ho).2.1 hj
    unfold flIn
    cases hm : isMem g.ye o.op with
    | false => rfl
    | true => obtain ⟨k1, _⟩ := h4 hm; rw [k1]; rfl) (by simpa using hm)
  have hsizes : ops.toList.length = ops.size := by simp
  have hend : ∀ (fuel q : Nat) (bs : Bs) (listed : Array Bool) (a : Act) (w : World), InvF g X M0 ops.toList m (e, hp) q bs listed a w → a.tmps.size = N → Behind P g X M0 N Q K w bs (stAt g ops.toList (e, hp) q).2 a.defers →
      (∀ i, i < m → listed.getD i true = true) → ops.size - m ≤ fuel → wpAnyIn (FW r) n P .any ops Q fuel listed a w := by
    intro fuel q bs listed a w hI hN hQ hall hf
    obtain ⟨hc, hre⟩ := hI.finish (by simpa using hm) hall
    refine phaseB hg hX ops hdst hlt fuel m listed _ _ M0 bs a w (by rw [hI.size, hsizes]) (fun j hj => ⟨fun h => ?_, fun h => hall j h⟩) hm hf
      (fun j hj hj2 k hk => (drawFl_spec hok (List.getElem?_eq_getElem (by simpa using hj2))).2.2 hj k hk) hvm (by rw [hc]; exact hI.hr) (by rw [hc]; exact hI.xr) hre hN (by rw [hc]; exact hQ)
    rcases Nat.lt_or_ge j m with h' | h'
    · exact h'
    · rw [hI.pre j h' (by omega)] at h; cases h
  intro fuel
  induction fuel with
  | zero =>
    intro q bs listed a w hI hN hQ hf
    refine hend 0 q bs listed a w hI hN hQ (fun i hi => ?_) (by omega)
    cases hli : listed.getD i true with
    | true => rfl
    | false =>
      have : i ∈ (List.range m).filter (fun j => !listed.getD j true) := List.mem_filter.2 ⟨List.mem_range.2 hi, by rw [hli]; rfl⟩
      have := List.length_pos_of_mem this
      omega
  | succ fuel ih =>
    intro q bs listed a w hI hN hQ hf
    by_cases hall : ∀ i, i < m → listed.getD i true = true
    · exact hend (fuel + 1) q bs listed a w hI hN hQ hall (by omega)
    · have hex : ∃ i, i < m ∧ listed.getD i true = false := by
        apply Classical.byContradiction
        intro hne
        refine hall fun i hi => ?_
        cases hli : listed.getD i true with
        | true => rfl
        | false => exact absurd ⟨i, hi, hli⟩ hne
      obtain ⟨i0, hi0, hi1, hi2⟩ := least_not (p := fun i => listed.getD i true) hex
      have hls : listed.size = ops.size := by rw [hI.size, hsizes]
      refine ⟨fun hnil => ?_, fun j hj => ?_⟩
      · exfalso
        have hio : ops[i0]? = some ops[i0] := Array.getElem?_eq_getElem (by omega)
        have : i0 ∈ Region.ready .any ops listed := mem_ready.2 ⟨hi1, _, hio, fun ed hed hb => by
          have hk := hlt i0 _ (by rw [Array.getElem?_toList]; exact hio) ed.on (by simp only [edg, List.mem_map, List.mem_filter]; exact ⟨ed, ⟨by simpa using hed, hb⟩, rfl⟩)
          rw [← getD_tf (by omega)]
          exact hi2 ed.on hk⟩
        rw [hnil] at this; cases this
      · obtain ⟨h1, o, ho, h2⟩ := mem_ready.1 hj
        have hjs := (Array.getElem?_eq_some_iff.1 ho).1
        have hol : ops.toList[j]? = some o := by rw [Array.getElem?_toList]; exact ho
        obtain ⟨d1, d2, d3⟩ := drawFl_spec hok hol
        have hedg : ∀ k ∈ edg o, listed.getD k true = true := by
          intro k hk
          have hk0 := hk
          simp only [edg, List.mem_map, List.mem_filter] at hk
          obtain ⟨ed, ⟨hed, hb⟩, rfl⟩ := hk
          have := d1 ed.on hk0
          rw [getD_tf (by omega)]
          exact h2 ed (by simpa using hed) hb
        have hcl : Closed ops.toList (fun k => listed.getD k true = true) := fun k ok hok' hk q hq => hI.closed k ok hok' hk q hq
        have hclo : ∀ k ∈ (clo ops.toList []).getD j [], listed.getD k true = true := clo_spec hcl ops.toList [] (by simp) (fun i o h => by simp at h) hlt j o (by simpa using hjs) hol hedg
        have hjm : j < m := by
          rcases Nat.lt_or_ge j m with h | h
          · exact h
          · exfalso
            have := hclo i0 (d3 h i0 (by omega))
            rw [hi1] at this; cases this
        obtain ⟨q2, q3, q4, qm, qf⟩ := d2 hjm
        have hob := hobl j o hjm hol
        -- what its operands are
        have hslot : ∀ t, (∀ j', j' < m → dstIs ops.toList j' t = true → j' < j ∧ j' ∈ edg o) → relSL w (Mof M0 bs) bs (stAt g ops.toList (e, hp) q).2 (getE (stAt g ops.toList (e, hp) j).1 t) (a.tmps.getD t undef) := by
          intro t ht
          rcases stAt_get (g := g) ops.toList (e, hp) t j (by simp; omega) with ⟨j', o', k1, k2, k3, k4⟩ | ⟨k1, k2⟩
          · rw [k4]
            exact hI.done j' o' (by omega) k2 (hedg j' (ht j' (by omega) (dstIs_of k2 k3)).2) t k3
          · rw [k2]
            refine hI.old t fun j' hj' => ?_
            cases hds : dstIs ops.toList j' t with
            | false => rfl
            | true =>
              obtain ⟨o', ho', hd'⟩ := dstIs_not hds
              exact absurd hd' (k1 j' o' (ht j' hj' hds).1 ho')
        have hops : ∀ x ∈ o.op.operands.toList, (oper (stAt g ops.toList (e, hp) j).1 x).ok = true → relRV w (Mof M0 bs) bs (stAt g ops.toList (e, hp) q).2 (opRV (stAt g ops.toList (e, hp) j).1 x) (a.eval x) := by
          intro x hx hxo
          cases x with
          | tmp t => exact (hslot t (fun j' hj' hds => q2 t (mem_temps hx) j' hj' hds)).1 hxo
          | const v => cases v <;> exact rfl
          | func f => exact ⟨[], rfl, .nil⟩
          | global n => trivial
        -- what it leaves
        have next : ∀ (q' : Nat) (bs' : Bs) (z : Value) (w' : World), q' ∈ vers g.ye ops.toList m → (∀ k, k < m → memAt g.ye ops.toList k = true → ((listed.setIfInBounds j true).getD k true = true ↔ k < q')) →
            relSL w' (Mof M0 bs') bs' (stAt g ops.toList (e, hp) q').2 (valF g ops.toList o (stAt g ops.toList (e, hp) j)) z → HR w' M0 bs' (stAt g ops.toList (e, hp) q').2 →
            Step false w (Mof M0 bs) bs (stAt g ops.toList (e, hp) q).2 w' (Mof M0 bs') bs' (stAt g ops.toList (e, hp) q').2 →
            wpAnyIn (FW r) n P .any ops Q fuel (listed.setIfInBounds j true) (a.put o.dst z) w' := by
          intro q' bs' z w' hq' hver hz hr' hst
          refine ih q' bs' _ _ w' ⟨by simp [hI.size], ?_, ?_, hver, hq', hr', hI.xr.step hX hst hr'.lt, ?_, ?_⟩ (by rw [put_eval]; exact hN) (by rw [put_defers]; exact hQ.step (.of_step hX hI.xr hr' hst)) ?_
          · intro i hmi hi
            rw [set_get _ _ _ (by omega), if_neg (by omega)]
            exact hI.pre i hmi hi
          · intro i oi hoi hli k hk
            rw [set_get _ _ _ (by omega)] at hli ⊢
            by_cases e1 : j = k
            · rw [if_pos e1]
            · rw [if_neg e1]
              by_cases e2 : j = i
              · subst e2; rw [hol] at hoi; cases hoi; exact hedg k hk
              · rw [if_neg e2] at hli; exact hI.closed i oi hoi hli k hk
          · intro j' o' hj' ho' hl' d hd
            by_cases e1 : j = j'
            · subst e1
              rw [hol] at ho'; cases ho'
              rw [hd, getD_put_same (by rw [hN]; exact hdst o (List.mem_of_getElem? hol) d hd)]
              exact hz
            · have hne : o.dst ≠ some d := fun h => by
                have := q4 j' hj' (fun e => e1 e.symm) d h
                rw [dstIs_of ho' hd] at this; cases this
              rw [getD_put d hne]
              rw [set_get _ _ _ (by omega), if_neg e1] at hl'
              exact relSL_step hst _ _ (hI.done j' o' hj' ho' hl' d hd)
          · intro s hs
            have hne : o.dst ≠ some s := fun h => by
              have := hs j hjm
              rw [dstIs_of hol h] at this; cases this
            rw [getD_put s hne]
            exact relSL_step hst _ _ (hI.old s hs)
          · have := filter_lt (fun k => !listed.getD k true) (fun k => !(listed.setIfInBounds j true).getD k true) (fun x hx => by
              simp only [set_get _ _ _ (show j < listed.size by omega)] at hx
              by_cases e1 : j = x
              · rw [if_pos e1] at hx; simp at hx
              · rw [if_neg e1] at hx; exact hx) j (by simp [h1]) (by simp [set_get _ _ _ (show j < listed.size by omega)]) (List.range m) (by simpa using hjm)
            omega
        unfold wpOpIn
        rw [ho]
        simp only
        unfold oblF at hob
        cases hmo : isMem g.ye o.op with
        | true =>
          obtain ⟨m0, mc⟩ := qm hmo
          simp only [m0] at hob
          obtain ⟨gc, hgc, hob⟩ := hob
          have hmj : memAt g.ye ops.toList j = true := by simp only [memAt, hol]; exact hmo
          have hqj : q ≤ j := by
            rcases Nat.lt_or_ge j q with h | h
            · have := (hI.ver j hjm hmj).2 h
              rw [h1] at this; cases this
            · exact h
          have hcur : (stAt g ops.toList (e, hp) j).2 = (stAt g ops.toList (e, hp) q).2 := by
            refine stAt_const (y := g.ye) j hqj fun k k1 k2 => ?_
            cases hk : memAt g.ye ops.toList k with
            | false => rfl
            | true =>
              have := (hI.ver k (by omega) hk).1 (hclo k (mc k k2 hk))
              omega
          have hvin : j + 1 ∈ vers g.ye ops.toList m := by
            simp only [vers, List.mem_cons, List.mem_map, List.mem_filter, List.mem_range]
            exact .inr ⟨j, ⟨hjm, hmj⟩, rfl⟩
          have hvv : ∀ k, k < m → memAt g.ye ops.toList k = true → ((listed.setIfInBounds j true).getD k true = true ↔ k < j + 1) := by
            intro k hk hmk
            rw [set_get _ _ _ (by omega)]
            by_cases e1 : j = k
            · subst e1; simp
            · rw [if_neg e1, hI.ver k hk hmk]
              constructor
              · intro h; omega
              · intro h
                exact (hI.ver k hk hmk).1 (hclo k (mc k (by omega) hmk))
          have hnxt : gc = true → (stAt g ops.toList (e, hp) (j + 1)).2 = (mEv g (stAt g ops.toList (e, hp) j).2 (stAt g ops.toList (e, hp) j).1 o.op).2.2 := by
            intro hgt
            subst hgt
            simp only [stAt, hol, hpF, m0, hgc]
          have hvt : gc = true → valF g ops.toList o (stAt g ops.toList (e, hp) j) = ⟨true, (mEv g (stAt g ops.toList (e, hp) j).2 (stAt g ops.toList (e, hp) j).1 o.op).2.1⟩ := by
            intro hgt
            subst hgt
            simp only [valF, m0, hgc]
          cases hgd : o.guard with
          | none =>
            rw [if_pos (by simp [Region.wanted, hgd])]
            have hgt : gc = true := by rw [hgd] at hgc; exact (Option.some.inj hgc).symm
            obtain ⟨ho1, ho2⟩ := hob hgt
            obtain ⟨hdid, hdef⟩ := mEv_did hg (by rw [hcur]; exact hI.hr) o (by rw [hcur]; exact hops) ho1 ho2
            exact did_wp (fun _ => trivial) hdef hdid fun z w' bs' k1 k2 k3 => next (j + 1) bs' z w' hvin hvv (by rw [hnxt hgt, hvt hgt]; exact ⟨fun _ => k1, by simp⟩) (by rw [hnxt hgt]; exact k2) (by rw [hnxt hgt, ← hcur]; exact k3)
          | some gd =>
            obtain ⟨q5, q6⟩ := q3 gd hgd
            rw [guard_rel (ops := ops) (by rw [← hgd]; exact hgc) o hgd (fun d hd => hslot d (fun j' hj' hds => by
              have hgo : ∃ og, ops.toList[gd.1]? = some og ∧ og.dst = some d := by
                rw [Array.getElem?_toList]
                cases hog : ops[gd.1]? with
                | none => simp [hog] at hd
                | some og => simp [hog] at hd; exact ⟨og, rfl, hd⟩
              obtain ⟨og, hog, hogd⟩ := hgo
              have hjg : j' = gd.1 := by
                apply Classical.byContradiction
                intro hne
                have := ((drawFl_spec hok hog).2.1 q5).2.2.1 j' hj' hne d hogd
                rw [hds] at this; cases this
              subst hjg
              exact ⟨d1 _ q6, q6⟩))]
            cases gc with
            | true =>
              obtain ⟨ho1, ho2⟩ := hob rfl
              obtain ⟨hdid, hdef⟩ := mEv_did hg (by rw [hcur]; exact hI.hr) o (by rw [hcur]; exact hops) ho1 ho2
              exact did_wp (fun _ => trivial) hdef hdid fun z w' bs' k1 k2 k3 => next (j + 1) bs' z w' hvin hvv (by rw [hnxt rfl, hvt rfl]; exact ⟨fun _ => k1, by simp⟩) (by rw [hnxt rfl]; exact k2) (by rw [hnxt rfl, ← hcur]; exact k3)
            | false =>
              have hnx : (stAt g ops.toList (e, hp) (j + 1)).2 = (stAt g ops.toList (e, hp) q).2 := by
                rw [← hcur]
                simp only [stAt, hol, hpF, m0, hgc]
              refine ⟨fun _ _ => trivial, next (j + 1) bs undef w hvin hvv ?_ ?_ ?_⟩
              · simp only [valF, m0, hgc]
                exact ⟨by simp, fun _ => rfl⟩
              · rw [hnx]; exact hI.hr
              · rw [hnx]; exact Step.refl _ _ _ _
        | false =>
          have m0 := isMem_false hmo
          simp only [m0] at hob
          have hval : valF g ops.toList o (stAt g ops.toList (e, hp) j) = valAt g ops.toList (stAt g ops.toList (e, hp) j).2 o (stAt g ops.toList (e, hp) j).1 := by simp only [valF, m0]
          have hver' : ∀ k, k < m → memAt g.ye ops.toList k = true → ((listed.setIfInBounds j true).getD k true = true ↔ k < q) := by
            intro k hk hmk
            rw [set_get _ _ _ (by omega)]
            by_cases e1 : j = k
            · subst e1
              simp only [memAt, hol, hmo] at hmk
              cases hmk
            · rw [if_neg e1]; exact hI.ver k hk hmk
          have hpe : (pEv g (stAt g ops.toList (e, hp) j).2 (stAt g ops.toList (e, hp) j).1 o.type o.op).1 → (pEv g (stAt g ops.toList (e, hp) q).2 (stAt g ops.toList (e, hp) j).1 o.type o.op).1 ∧
              (pEv g (stAt g ops.toList (e, hp) q).2 (stAt g ops.toList (e, hp) j).1 o.type o.op).2 = (pEv g (stAt g ops.toList (e, hp) j).2 (stAt g ops.toList (e, hp) j).1 o.type o.op).2 := by
            intro hp1
            rcases qf hmo with hf | hf
            · rw [hpFree_eq hf (stAt g ops.toList (e, hp) q).2 (stAt g ops.toList (e, hp) j).2]
              exact ⟨hp1, rfl⟩
            · rcases hf q hI.qin with hf | hf
              · exfalso
                simp only [clash, List.any_eq_true, List.mem_range, Bool.and_eq_true, Bool.or_eq_true, List.contains_iff_mem, Bool.not_eq_true', decide_eq_true_eq, decide_eq_false_iff_not] at hf
                obtain ⟨k, hk, hmk, hc | hc⟩ := hf
                · exact hc.2 ((hI.ver k hk hmk).1 (hclo k hc.1))
                · have hlk := (hI.ver k hk hmk).2 hc.2
                  obtain ⟨ok, hok'⟩ : ∃ ok, ops.toList[k]? = some ok := ⟨_, List.getElem?_eq_getElem (by simp; omega)⟩
                  have := clo_spec hcl ops.toList [] (by simp) (fun i o h => by simp at h) hlt k ok (by simp; omega) hok' (fun x hx => hI.closed k ok hok' hlk x hx) j hc.1
                  rw [h1] at this; cases this
              · have := hfl _ hf
                simp only [eqAt, hol] at this
                exact this
          have fin : ∀ (gc : Bool) (z : Value) (w' : World), (gc = true → relRV w' (Mof M0 bs) bs (stAt g ops.toList (e, hp) q).2 (pEv g (stAt g ops.toList (e, hp) j).2 (stAt g ops.toList (e, hp) j).1 o.type o.op).2 z) → (gc = false → z = undef) →
              valAt g ops.toList (stAt g ops.toList (e, hp) j).2 o (stAt g ops.toList (e, hp) j).1 = ⟨gc, (pEv g (stAt g ops.toList (e, hp) j).2 (stAt g ops.toList (e, hp) j).1 o.type o.op).2⟩ →
              HR w' M0 bs (stAt g ops.toList (e, hp) q).2 → Step false w (Mof M0 bs) bs (stAt g ops.toList (e, hp) q).2 w' (Mof M0 bs) bs (stAt g ops.toList (e, hp) q).2 →
              wpAnyIn (FW r) n P .any ops Q fuel (listed.setIfInBounds j true) (a.put o.dst z) w' := by
            intro gc z w' hz1 hz2 hva hr' hst
            refine next q bs z w' hI.qin hver' ?_ hr' hst
            rw [hval, hva]
            exact ⟨fun h => hz1 h, fun h => hz2 h⟩
          unfold oblAt at hob
          unfold valAt at fin
          cases hgd : o.guard with
          | none =>
            rw [if_pos (by simp [Region.wanted, hgd])]
            simp only [hgd] at hob fin
            obtain ⟨p1, p2⟩ := hpe hob.2
            exact pEv_wp hg hI.hr o hops hob.1 p1 fun z w' k1 k2 k3 => fin true z w' (fun _ => by rw [← p2]; exact k1) (by simp) rfl k2 k3
          | some gd =>
            simp only [hgd] at hob fin
            obtain ⟨gc, hgc, hob⟩ := hob
            simp only [hgc] at fin
            obtain ⟨q5, q6⟩ := q3 gd hgd
            rw [guard_rel (ops := ops) hgc o hgd (fun d hd => hslot d (fun j' hj' hds => by
              have hgo : ∃ og, ops.toList[gd.1]? = some og ∧ og.dst = some d := by
                rw [Array.getElem?_toList]
                cases hog : ops[gd.1]? with
                | none => simp [hog] at hd
                | some og => simp [hog] at hd; exact ⟨og, rfl, hd⟩
              obtain ⟨og, hog, hogd⟩ := hgo
              have hjg : j' = gd.1 := by
                apply Classical.byContradiction
                intro hne
                have := ((drawFl_spec hok hog).2.1 q5).2.2.1 j' hj' hne d hogd
                rw [hds] at this; cases this
              subst hjg
              exact ⟨d1 _ q6, q6⟩))]
            cases gc with
            | true =>
              obtain ⟨k1, k2⟩ := hob rfl
              obtain ⟨p1, p2⟩ := hpe k2
              exact pEv_wp hg hI.hr o hops k1 p1 fun z w' k1 k2 k3 => fin true z w' (fun _ => by rw [← p2]; exact k1) (by simp) rfl k2 k3
            | false => exact ⟨fun _ _ => trivial, fin false undef w (by simp) (fun _ => rfl) rfl hI.hr (Step.refl _ _ _ _)⟩

/-- The float conditions, along the text. -/
def vcFl (g : G) (ops : List Oper) (ps : List (Nat × Nat)) : List Oper → Env → List Blk → List (Env × List Blk) → Prop
  | [], e, hp, acc => ∀ p ∈ ps, match (acc ++ [(e, hp)])[p.1]?, (acc ++ [(e, hp)])[p.2]? with
    | some s, some s' => eqAt g ops p.1 s s'
    | _, _ => False
  | o :: r, e, hp, acc => vcFl g ops ps r (putE o.dst (valF g ops o (e, hp)) e) (hpF g ops o (e, hp)) (acc ++ [(e, hp)])

theorem vcFl_spec (ops : List Oper) (ps : List (Nat × Nat)) (s0 : Env × List Blk) : ∀ (l : List Oper) (i : Nat) (acc : List (Env × List Blk)), l = ops.drop i → i ≤ ops.length → acc.length = i → (∀ j, j < i → acc[j]? = some (stAt g ops s0 j)) →
    vcFl g ops ps l (stAt g ops s0 i).1 (stAt g ops s0 i).2 acc → floatAt g ops s0 ps := by
  intro l
  induction l with
  | nil =>
    intro i acc hl hi hacc hst h p hp
    have hie : i = ops.length := by
      have := congrArg List.length hl
      simp at this
      omega
    have hget : ∀ k s, (acc ++ [((stAt g ops s0 i).1, (stAt g ops s0 i).2)])[k]? = some s → s = stAt g ops s0 k := by
      intro k s hk
      rcases Nat.lt_or_ge k i with h' | h'
      · rw [List.getElem?_append_left (by omega), hst k h'] at hk
        exact (Option.some.inj hk).symm
      · have hk' := (List.getElem?_eq_some_iff.1 hk).1
        simp only [List.length_append, List.length_cons, List.length_nil] at hk'
        have : k = i := by omega
        subst this
        rw [List.getElem?_append_right (by omega)] at hk
        simp [hacc] at hk
        exact hk.symm
    have := h p hp
    split at this
    · rename_i s s' h1 h2
      rw [hget _ _ h1, hget _ _ h2] at this
      exact this
    · exact this.elim
  | cons o r ih =>
    intro i acc hl hi hacc hst h
    have hlt : i < ops.length := by
      rcases Nat.lt_or_ge i ops.length with h' | h'
      · exact h'
      · rw [List.drop_of_length_le h'] at hl; cases hl
    rw [List.drop_eq_getElem_cons hlt] at hl
    injection hl with h1 h2
    have ho : ops[i]? = some o := by rw [h1]; exact List.getElem?_eq_getElem hlt
    refine ih (i + 1) (acc ++ [stAt g ops s0 i]) h2 hlt (by simp [hacc]) (fun j hj => ?_) ?_
    · rcases Nat.lt_succ_iff_lt_or_eq.1 hj with h' | rfl
      · rw [List.getElem?_append_left (by omega)]; exact hst j h'
      · rw [List.getElem?_append_right (by omega)]; simp [hacc]
    · simp only [vcFl] at h
      simp only [stAt, ho]
      exact h

def regionFl (y : Bool × List FuncId) (N : Nat) (ops : List Oper) (ps : List (Nat × Nat)) : Bool :=
  dstOk N ops && (List.range (ops.length + 1)).any fun m => drawFl y ops m ps

theorem region_float (hg : g.good P) (hX : XOk P X) (hm : P.follows .mixedOrders = true) {N n : Nat} {r : Option Nat} {Q : Exit → Act → World → Prop} {K : Env → List Blk → Prop} (id : Nat) (ops : Array Oper) (ps : List (Nat × Nat)) (hok : regionFl g.ye N ops.toList ps = true)
    (e : Env) (hp : List Blk) (bs : Bs) (a : Act) (w : World) (hv : vcOps g ops.toList ops.toList e hp K) (hf : vcFl g ops.toList ps ops.toList e hp []) (hr : HR w M0 bs hp) (hx : XR X w M0 bs hp) (he : relEnv w (Mof M0 bs) bs hp e a) (hN : a.tmps.size = N) (hQ : Behind P g X M0 N Q K w bs hp a.defers) :
    (Code.region id ops true).wpIn (FW r) n P Q a w := by
  unfold regionFl dstOk at hok
  simp only [Bool.and_eq_true, List.all_eq_true, List.any_eq_true, List.mem_range] at hok
  obtain ⟨h1, m, hm1, hm2⟩ := hok
  have hdst : ∀ o ∈ ops.toList, ∀ d, o.dst = some d → d < N := fun o ho d hd => by have := h1 o ho; rw [hd] at this; simpa using this
  have hfl : floatAt g ops.toList (e, hp) ps := vcFl_spec ops.toList ps (e, hp) ops.toList 0 [] (by simp) (by simp) rfl (fun j hj => by omega) hf
  refine wpIn_region_any hm ?_
  obtain ⟨k1, k2⟩ := hr.keep_drew
  refine phaseF hg hX ops hdst m (by simp at hm1; omega) ps hm2 e hp hv hfl _ 0 bs _ a _ ⟨by simp, ?_, ?_, ?_, by simp [vers], k1, hx.step hX k2 k1.lt, ?_, ?_⟩ hN (hQ.step (.of_step hX hx k1 k2)) ?_
  · intro i _ hi; simp at hi; simp [Array.getD_eq_getD_getElem?, hi]
  · intro i o ho hl
    have hi := (List.getElem?_eq_some_iff.1 ho).1
    simp at hi
    simp [Array.getD_eq_getD_getElem?, hi] at hl
  · intro k hk _
    have hi : k < ops.size := by simp at hm1; omega
    simp [Array.getD_eq_getD_getElem?, hi]
  · intro j o hj ho hl
    have hi := (List.getElem?_eq_some_iff.1 ho).1
    simp at hi
    simp [Array.getD_eq_getD_getElem?, hi] at hl
  · intro s _; exact relSL_step k2 _ _ (getE_rel he s)
  · have := List.length_filter_le (fun j => !(Array.replicate ops.size false).getD j true) (List.range m)
    simp at this hm1 ⊢
    omega
end
end Go.Am
