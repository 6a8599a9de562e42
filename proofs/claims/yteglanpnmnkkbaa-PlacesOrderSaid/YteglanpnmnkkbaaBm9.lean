/- One operation of any kind is sound. -/
import Derived.Test.YteglanpnmnkkbaaBm8
namespace Go.Am
set_option linter.unusedVariables false
open Go.RowKit

/-- What a contract says of a function. -/
def PureOk (P : Program) (f : FuncId) (c : Con) : Prop :=
  ∀ (w : World) (M0 : Nat → Prop) (args : List AV) (vs : List Value), c.pre args → (∀ b, M0 b → b < w.heap.size) → All2 (relAV w M0 [] []) args vs →
    Calls P f vs.toArray w (fun e w' => ∃ v, e = .returned v ∧ relRV w' M0 [] [] (c.val args) v ∧ Below w.heap.size w w' ∧ w.drawn ≤ w'.drawn)

/-- What a contract with effects says of a function. -/
def EffOk (P : Program) (f : FuncId) (c : ECon) : Prop :=
  ∀ (w : World) (M0 : Nat → Prop) (bs : Bs) (hp : List Blk) (args : List AV) (vs : List Value) (K : RV → List Blk → Prop), c.wp args hp K → HR w M0 bs hp → hp.all Blk.pureB = true → All2 (relAV w (Mof M0 bs) bs hp) args vs →
    Calls P f vs.toArray w (fun o w' => ∃ v rv hp' bs', o = .returned v ∧ K rv hp' ∧ relRV w' (Mof M0 bs') bs' hp' rv v ∧ hp'.all Blk.pureB = true ∧ HR w' M0 bs' hp' ∧ Step false w (Mof M0 bs) bs hp w' (Mof M0 bs') bs' hp')

def G.good (P : Program) (g : G) : Prop := g.ok P ∧ (∀ f c, look g.Γ f = some c → (∀ (args : Array Value) (w : World), (callFunc f args).run P w = .ok (.enter f args) w) ∧ PureOk P f c) ∧
  ∀ f c, look g.E f = some c → (∀ (args : Array Value) (w : World), (callFunc f args).run P w = .ok (.enter f args) w) ∧ EffOk P f c

section
variable {P : Program} {g : G} {w : World} {M0 : Nat → Prop} {bs : Bs} {hp : List Blk}

theorem relSV_pure {M : Nat → Prop} {x : SV} {v : Value} (hx : x.pure = true) (h : relSV w M bs hp x v) : relSV w M [] [] x v := by
  cases x with
  | fn f caps =>
    cases caps with
    | nil => obtain ⟨ps, rfl, h2⟩ := h; cases h2; exact ⟨[], rfl, .nil⟩
    | cons c cs => simp [SV.pure] at hx
  | _ => first | exact h | simp [SV.pure] at hx
theorem relAV_pure {M : Nat → Prop} {x : AV} {v : Value} (hx : x.pure = true) (h : relAV w M bs hp x v) : relAV w M [] [] x v := by
  cases x with
  | s x => exact relSV_pure hx h
  | agg cs =>
    obtain ⟨vs, rfl, h⟩ := h
    refine ⟨vs, rfl, ?_⟩
    simp only [AV.pure] at hx
    induction h with
    | nil => exact .nil
    | cons r _ ih =>
      simp only [List.all_cons, Bool.and_eq_true] at hx
      exact .cons ⟨relSV_pure hx.1 r.1, r.2⟩ (ih hx.2)
theorem relSV_lift {M : Nat → Prop} {x : SV} {v : Value} (h : relSV w M [] [] x v) : relSV w M bs hp x v := by
  cases x with
  | box id off => obtain ⟨h1, _⟩ := h; simp at h1
  | own t id n => obtain ⟨h1, _⟩ := h; simp at h1
  | eown t id n off => obtain ⟨h1, _⟩ := h; simp at h1
  | fn f caps =>
    obtain ⟨ps, rfl, h2⟩ := h
    cases h2 with
    | nil => exact ⟨[], rfl, .nil⟩
    | cons r _ => obtain ⟨r, _⟩ := r; simp [Bs.at] at r
  | mp id => obtain ⟨b, _, _, _, h1, _⟩ := h; simp [Bs.at] at h1
  | _ => exact h
theorem relAV_lift {M : Nat → Prop} {x : AV} {v : Value} (h : relAV w M [] [] x v) : relAV w M bs hp x v := by
  cases x with
  | s x => exact relSV_lift h
  | agg cs => obtain ⟨vs, rfl, h⟩ := h; exact ⟨vs, rfl, h.imp fun x u hu => ⟨relSV_lift hu.1, hu.2⟩⟩
theorem relRV_lift {M : Nat → Prop} {x : RV} {v : Value} (h : relRV w M [] [] x v) : relRV w M bs hp x v := by
  cases x with
  | v x => exact relAV_lift h
  | tup xs => obtain ⟨vs, rfl, h⟩ := h; exact ⟨vs, rfl, h.imp fun x u hu => relAV_lift hu⟩

theorem Evo.of_below {M : Nat → Prop} {w w' : World} (h : Below w.heap.size w w') (hd : w.drawn ≤ w'.drawn) : Evo M M w w' :=
  ⟨h.os, h.tape, h.output, h.size, hd, fun b hb _ => h.block b hb, fun _ _ hm => hm⟩

/-- What stands in the temporaries. -/
def relEnv (w : World) (M : Nat → Prop) (bs : Bs) (hp : List Blk) (e : Env) (a : Act) : Prop := ∀ s x, look e s = some x → relSL w M bs hp x (a.tmps.getD s undef)

theorem relEnv_step {v₀ : Bool} {w' : World} {M M' : Nat → Prop} {bs' : Bs} {hp' : List Blk} {e : Env} {a : Act} (h : Step v₀ w M bs hp w' M' bs' hp') (k : relEnv w M bs hp e a) : relEnv w' M' bs' hp' e a :=
  fun s x hs => relSL_step h _ _ (k s x hs)

theorem getE_rel {M : Nat → Prop} {e : Env} {a : Act} (h : relEnv w M bs hp e a) (s : Nat) : relSL w M bs hp (getE e s) (a.tmps.getD s undef) := by
  unfold getE
  cases hl : look e s with
  | none => exact ⟨fun _ => trivial, fun hn => by cases hn⟩
  | some x => exact h s x hl

theorem oper_rel {M : Nat → Prop} {e : Env} {a : Act} (h : relEnv w M bs hp e a) (x : Operand) (hx : (oper e x).ok = true) : relRV w M bs hp (opRV e x) (a.eval x) := by
  cases x with
  | tmp t => exact (getE_rel h t).1 hx
  | const v => cases v <;> exact rfl
  | func f => exact ⟨[], rfl, .nil⟩
  | global n => trivial

theorem allOk_mem {e : Env} : ∀ {l : List Operand}, allOk e l → ∀ x ∈ l, (oper e x).ok = true
  | [], _, x, hx => by cases hx
  | y :: l, h, x, hx => by
    cases hx with
    | head => exact h.1
    | tail _ hm => exact allOk_mem h.2 x hm

theorem put_eval (a : Act) (d : Option Nat) (v : Value) : (a.put d v).tmps.size = a.tmps.size := by
  cases d <;> simp [Act.put]

theorem relEnv_put {M : Nat → Prop} {e : Env} {a : Act} (h : relEnv w M bs hp e a) (d : Option Nat) (x : SL) (v : Value) (hx : relSL w M bs hp x v) (hd : ∀ k, d = some k → k < a.tmps.size) :
    relEnv w M bs hp (putE d x e) (a.put d v) := by
  intro s y hs
  cases d with
  | none => exact h s y hs
  | some k =>
    simp only [putE, look] at hs
    simp only [Act.put]
    have hk := hd k rfl
    split at hs
    · rename_i e; subst e
      injection hs with hs; subst hs
      simp [Array.getD_eq_getD_getElem?, hk]
      exact hx
    · rename_i hne
      have := h s y hs
      simp only [Array.getD_eq_getD_getElem?] at this ⊢
      rw [Array.getElem?_setIfInBounds_ne hne]
      exact this

/-- One operation, any kind. K: what is to hold behind it. -/
theorem did_wp {F : Fence} (hF : ∀ f, F.fn f) {n : Nat} {o : Oper} {a : Act} {rv : RV} {hp' : List Blk} {K : Act → World → Prop} {Q : Exit → Act → World → Prop} (hdef : ∀ c, o.op ≠ .defer c)
    (h : Did w M0 bs hp ((execOp a.eval o).run P w) rv hp') (hK : ∀ z w' bs', relRV w' (Mof M0 bs') bs' hp' rv z → HR w' M0 bs' hp' → Step false w (Mof M0 bs) bs hp w' (Mof M0 bs') bs' hp' → K (a.put o.dst z) w') :
    o.wpIn F n P a w K Q := by
  obtain ⟨z, w', bs', hres, h1, h2, h3⟩ := h
  refine ⟨fun f _ => hF f, ?_⟩
  rw [Oper.semAt_eq _ _ _ hdef]
  rcases hres with hres | ⟨hres, rfl⟩
  · rw [hres]; exact hK z w' bs' h1 h2 h3
  · rw [hres]; exact hK undef w' bs' h1 h2 h3

theorem pdid_of_quiet (hr : HR w M0 bs hp) {res : Result Next} {rv : RV} (h : ∃ z, res = .ok (.value z) w ∧ relRV w (Mof M0 bs) bs hp rv z) : PDid w M0 bs hp res rv := by
  obtain ⟨z, h1, h2⟩ := h
  exact ⟨z, w, h1, h2, hr, Step.refl _ _ _ _⟩

theorem parts_rel {e : Env} {a : Act} : ∀ (l : List (Nat × Operand)), (∀ p ∈ l, relRV w (Mof M0 bs) bs hp (opRV e p.2) (a.eval p.2)) →
    PartsRel w (Mof M0 bs) bs hp (l.map fun p => (p.1, (opRV e p.2).av)) (l.map fun p => (p.1, a.eval p.2))
  | [], _ => .nil
  | p :: l, h => .cons ⟨rfl, relRV_av (h p (by simp))⟩ (parts_rel l fun q hq => h q (by simp [hq]))

theorem args_rel (hg : g.ok P) {e : Env} {a : Act} : ∀ (l : List Operand) (ts : List TypeId), (∀ x ∈ l, relRV w (Mof M0 bs) bs hp (opRV e x) (a.eval x)) → All2 (relAV w (Mof M0 bs) bs hp) (argsEv g e l ts) (l.map a.eval)
  | [], _, _ => .nil
  | x :: l, [], h => .cons (relRV_av (h x (by simp))) (args_rel hg l [] fun y hy => h y (by simp [hy]))
  | x :: l, t :: ts, h => .cons (relRV_av (coe_sound hg t _ _ (h x (by simp)))) (args_rel hg l ts fun y hy => h y (by simp [hy]))

theorem okOps_all {e : Env} {op : Op} (hp : ∀ c a b, op ≠ .pick c a b) (h : okOps e op) : ∀ x ∈ op.operands.toList, (oper e x).ok = true := by
  unfold okOps at h
  split at h
  · exact absurd rfl (hp _ _ _)
  · exact allOk_mem h

theorem all2_pure {l : List AV} {vs : List Value} {M : Nat → Prop} (hp' : l.all AV.pure = true) (h : All2 (relAV w M bs hp) l vs) : All2 (relAV w M [] []) l vs := by
  induction h with
  | nil => exact .nil
  | cons r _ ih =>
    simp only [List.all_cons, Bool.and_eq_true] at hp'
    exact .cons (relAV_pure hp'.1 r) (ih hp'.2)

theorem callsIn_FW {r : Option Nat} {n : Nat} {f : FuncId} {args : Array Value} {R : Ending → World → Prop} (h : Calls P f args w R) : CallsIn (FW r) n P f args w R := by
  have := (callsIn_wide (n := n)).2 h
  exact this

theorem parts_map (a : Act) (ps : Array (Nat × Operand)) : (ps.map fun p => (p.1, a.eval p.2)).toList = ps.toList.map fun p => (p.1, a.eval p.2) := by simp

theorem relSV_weaken {M M' : Nat → Prop} (hM : ∀ b, M' b → M b) {x : SV} {v : Value} (h : relSV w M [] [] x v) : relSV w M' [] [] x v := by
  have he : Evo M M' w w := Evo.more w fun b _ => hM b
  exact relSV_step (v₀ := true) ⟨he, Nat.le_refl _, fun id cs h1 _ => by simp at h1, fun id b k u es h1 _ => by simp [Bs.at] at h1, fun id al cs h _ => by simp at h, by simp⟩ x v h
theorem relAV_weaken {M M' : Nat → Prop} (hM : ∀ b, M' b → M b) {x : AV} {v : Value} (h : relAV w M [] [] x v) : relAV w M' [] [] x v := by
  cases x with
  | s x => exact relSV_weaken hM h
  | agg cs => obtain ⟨vs, rfl, h⟩ := h; exact ⟨vs, rfl, h.imp fun x u hu => ⟨relSV_weaken hM hu.1, hu.2⟩⟩
theorem all2_weaken {M M' : Nat → Prop} (hM : ∀ b, M' b → M b) {l : List AV} {vs : List Value} (h : All2 (relAV w M [] []) l vs) : All2 (relAV w M' [] []) l vs := h.imp fun _ _ k => relAV_weaken hM k

theorem relSV_scalar {M M' : Nat → Prop} {bs' : Bs} {hp' : List Blk} {x : SV} {v : Value} (hx : x.scalar = true) (h : relSV w M bs hp x v) : relSV w M' bs' hp' x v := by
  cases x <;> first | exact h | simp [SV.scalar] at hx
theorem relAV_scalar {M M' : Nat → Prop} {bs' : Bs} {hp' : List Blk} {x : AV} {v : Value} (hx : x.scalar = true) (h : relAV w M bs hp x v) : relAV w M' bs' hp' x v := by
  cases x with
  | s x => exact relSV_scalar hx h
  | agg cs =>
    obtain ⟨vs, rfl, h⟩ := h
    refine ⟨vs, rfl, ?_⟩
    simp only [AV.scalar] at hx
    induction h with
    | nil => exact .nil
    | cons r _ ih =>
      simp only [List.all_cons, Bool.and_eq_true] at hx
      exact .cons ⟨relSV_scalar hx.1 r.1, r.2⟩ (ih hx.2)
theorem relRV_scalar {M M' : Nat → Prop} {bs' : Bs} {hp' : List Blk} {x : RV} {v : Value} (hx : x.scalar = true) (h : relRV w M bs hp x v) : relRV w M' bs' hp' x v := by
  cases x with
  | v x => exact relAV_scalar hx h
  | tup xs =>
    obtain ⟨vs, rfl, h⟩ := h
    refine ⟨vs, rfl, ?_⟩
    simp only [RV.scalar] at hx
    induction h with
    | nil => exact .nil
    | cons r _ ih =>
      simp only [List.all_cons, Bool.and_eq_true] at hx
      exact .cons (relAV_scalar hx.1 r) (ih hx.2)

theorem sig_sound {M : Nat → Prop} {x : SV} {u : Value} {c : Sigma Ty.T} (hs : x.sig = some c) (h : relSV w M bs hp x u) : rep w M c.1 c.2 [u] := by
  cases x with
  | fn f ids =>
    cases ids with
    | cons i r => simp [SV.sig] at hs
    | nil =>
      simp [SV.sig] at hs; subst hs
      obtain ⟨ps, rfl, h2⟩ := h
      cases h2
      simp only [rep]
      exact repD_fnOf (ps := []) f .nil
  | fnp f caps =>
    simp [SV.sig] at hs; subst hs
    obtain ⟨ps, rfl, h2⟩ := h
    simp only [rep]
    exact repD_fnOf f h2
  | fv x =>
    simp [SV.sig] at hs; subst hs
    simp only [rep]
    exact h
  | int k n => simp [SV.sig] at hs; subst hs; rw [show u = _ from h]; simp [rep]
  | bool b => simp [SV.sig] at hs; subst hs; rw [show u = _ from h]; simp [rep]
  | str s => simp [SV.sig] at hs; subst hs; rw [show u = _ from h]; simp [rep]
  | sl t xs ex =>
    simp [SV.sig] at hs; subst hs
    obtain ⟨a, c, h1, h2, h3, _, h5⟩ := h
    simp only [rep]; exact ⟨a, c, by rw [h1], h2, h3, h5⟩
  | _ => simp [SV.sig] at hs
theorem sigs_sound {M : Nat → Prop} : ∀ {cs : List SV} {us : List Value} {c : Sigma Ty.T}, sigs cs = some c → All2 (relSV w M bs hp) cs us → rep w M c.1 c.2 us
  | [], _, c, hs, .nil => by simp [sigs] at hs; subst hs; simp [rep]
  | x :: r, _, c, hs, .cons h1 h2 => by
    simp only [sigs] at hs
    split at hs
    · rename_i a b ha hb
      injection hs with hs
      subst hs
      simp only [rep]
      exact ⟨[_], _, rfl, sig_sound ha h1, sigs_sound hb h2⟩
    · cases hs

theorem boxCap_sound (hr : HR w M0 bs hp) {id b : Nat} {c : Sigma Ty.T} {M' : Nat → Prop} (hb : bs.at id = some b) (hc : boxCap hp id = some c) (hM : ∀ b, M' b → Mof M0 bs b) (hn : ¬ M' b) :
    FrozenAt w M' c (.pointer (some ⟨b, 0, none⟩)) := by
  unfold boxCap at hc
  have key : ∀ cs, Blk.look hp id = .cells cs → ∃ us : List Value, All2 (relSV w (Mof M0 bs) bs hp) cs us ∧ CellsAt w b 0 us := by
    intro cs hl
    obtain ⟨b', cur, e, k1, k2, k3, k4⟩ := hr.cells id cs hl
    rw [hb] at k1; cases k1
    refine ⟨cur.toList, All2.of_get (by simpa using k3) (fun i x u hx hu => ?_), fun j v hj => ?_⟩
    · obtain ⟨u', q1, q2, q3⟩ := k4 i x hx
      rw [Array.getElem?_toList, q1] at hu
      cases hu; exact q3
    · rw [Array.getElem?_toList] at hj
      simp [World.cell?, k2, hj]
  have hw : Evo (Mof M0 bs) M' w w := Evo.more w fun b _ => hM b
  have hlt := hr.lt id b hb
  split at hc
  · rename_i x hl
    obtain ⟨us, h1, h2⟩ := key _ hl
    cases h1 with
    | cons h1 h1' =>
      cases h1'
      exact ⟨b, 0, _, rfl, hn, hlt, rep_evo hw _ _ _ (sig_sound hc h1), h2⟩
  · rename_i cs _ hl
    obtain ⟨us, h1, h2⟩ := key _ hl
    exact ⟨b, 0, _, rfl, hn, hlt, rep_evo hw _ _ _ (sigs_sound hc h1), h2⟩
  · cases hc

theorem boxCap_cells {id : Nat} {c : Sigma Ty.T} (hc : boxCap hp id = some c) : ∃ cs, Blk.look hp id = .cells cs := by
  unfold boxCap at hc
  split at hc
  · rename_i hl; exact ⟨_, hl⟩
  · rename_i hl; exact ⟨_, hl⟩
  · cases hc
theorem boxCaps_at : ∀ {ids : List Nat} {ps : List Nat} {caps : List (Sigma Ty.T)}, boxCaps hp ids = some caps → All2 (fun id b => id < hp.length ∧ ∀ cs, Blk.look hp id = .cells cs → bs.at id = some b) ids ps → All2 (fun id b => bs.at id = some b ∧ ∃ cs, Blk.look hp id = .cells cs) ids ps
  | [], _, caps, h, .nil => .nil
  | id :: r, _, caps, h, .cons h1 h2 => by
    simp only [boxCaps] at h
    split at h
    · rename_i c cs hc1 hc2
      obtain ⟨k, hk⟩ := boxCap_cells hc1
      exact .cons ⟨h1.2 k hk, k, hk⟩ (boxCaps_at hc2 h2)
    · cases h
theorem boxCaps_sound (hr : HR w M0 bs hp) {M' : Nat → Prop} (hM : ∀ b, M' b → Mof M0 bs b) : ∀ {ids : List Nat} {ps : List Nat} {caps : List (Sigma Ty.T)}, boxCaps hp ids = some caps →
    All2 (fun id b => bs.at id = some b ∧ ∃ cs, Blk.look hp id = .cells cs) ids ps → (∀ b ∈ ps, ¬ M' b) → All2 (FrozenAt w M') caps (ps.map fun b => .pointer (some ⟨b, 0, none⟩))
  | [], _, caps, hc, .nil, _ => by simp [boxCaps] at hc; subst hc; exact .nil
  | id :: ids, _, caps, hc, .cons h1 h2, hn => by
    simp only [boxCaps] at hc
    split at hc
    · rename_i c cs hc1 hc2
      injection hc with hc
      subst hc
      exact .cons (boxCap_sound hr h1.1 hc1 hM (hn _ (by simp))) (boxCaps_sound hr hM hc2 h2 fun b hb => hn b (by simp [hb]))
    · cases hc

theorem caps_rel {M : Nat → Prop} {caps : List (Sigma Ty.T)} {ps : List Value} (h : All2 (FrozenAt w M) caps ps) : All2 (relAV w M [] []) (caps.map capAV) ps := by
  induction h with
  | nil => exact .nil
  | cons r _ ih => exact .cons r ih

theorem callVal_parts (hr : HR w M0 bs hp) (f : RV) (args : List AV) (v : Value) (hf : relRV w (Mof M0 bs) bs hp f v) (h : (callVal g hp f args).1) :
    ∃ (f0 : FuncId) (qs : List Value), v = .func (.func f0) #[] qs.toArray ∧ ∃ (M' : Nat → Prop) (caps : List (Sigma Ty.T)), (∀ b, M' b → Mof M0 bs b) ∧ All2 (relAV w M' [] []) (caps.map capAV) qs ∧
      ((callEv g f0 (args ++ caps.map capAV)).1 ∧ (callEv g f0 (args ++ caps.map capAV)).2 = (callVal g hp f args).2) ∧
      ∀ w' u, relRV w' M' [] [] (callVal g hp f args).2 u → relRV w' (Mof M0 bs) bs hp (callVal g hp f args).2 u := by
  unfold callVal at h ⊢
  split at h
  · rename_i f0
    obtain ⟨ps, rfl, h2⟩ := hf
    cases h2
    exact ⟨f0, [], rfl, Mof M0 bs, [], fun _ h => h, .nil, ⟨by simpa using h, by simp⟩, fun w' u hu => relRV_lift hu⟩
  · rename_i f0 caps
    obtain ⟨ps, rfl, h2⟩ := hf
    exact ⟨f0, ps, rfl, Mof M0 bs, caps, fun _ h => h, caps_rel h2, ⟨h, rfl⟩, fun w' u hu => relRV_lift hu⟩
  · rename_i f0 ids hne
    obtain ⟨ps, rfl, h2⟩ := hf
    split at h
    · rename_i caps hcaps
      refine ⟨f0, ps.map fun b => .pointer (some ⟨b, 0, none⟩), rfl, fun b => Mof M0 bs b ∧ b ∉ ps, caps, fun _ h => h.1, ?_, ?_⟩
      · exact caps_rel (boxCaps_sound hr (fun _ h => h.1) hcaps (boxCaps_at hcaps h2) fun b hb h => h.2 hb)
      · exact ⟨⟨h.1, rfl⟩, fun w' u hu => relRV_scalar h.2 hu⟩
    · exact h.elim
  · rename_i x
    split at h
    · rename_i f0 caps heq
      obtain ⟨ps, rfl, h2⟩ := repD_parts hf heq
      exact ⟨f0, ps, rfl, Mof M0 bs, caps, fun _ h => h, caps_rel h2, ⟨h, rfl⟩, fun w' u hu => relRV_lift hu⟩
    · exact h.elim
  · exact h.elim

/-- An operation that leaves abstract memory as it is. -/
theorem pEv_wp (hg : g.good P) (hr : HR w M0 bs hp) {e : Env} {a : Act} (o : Oper) (he : ∀ x ∈ o.op.operands.toList, (oper e x).ok = true → relRV w (Mof M0 bs) bs hp (opRV e x) (a.eval x)) (hok : okOps e o.op) (h : (pEv g hp e o.type o.op).1) {r : Option Nat} {n : Nat}
    {K : Act → World → Prop} {Q : Exit → Act → World → Prop}
    (hK : ∀ z w', relRV w' (Mof M0 bs) bs hp (pEv g hp e o.type o.op).2 z → HR w' M0 bs hp → Step false w (Mof M0 bs) bs hp w' (Mof M0 bs) bs hp → K (a.put o.dst z) w') :
    o.wpIn (FW r) n P a w K Q := by
  have fin : ∀ (rv : RV), (pEv g hp e o.type o.op).2 = rv → (∀ c, o.op ≠ .defer c) → PDid w M0 bs hp ((execOp a.eval o).run P w) rv → o.wpIn (FW r) n P a w K Q := by
    intro rv hrv hdef hd
    obtain ⟨z, w', h1, h2, h3, h4⟩ := hd
    refine ⟨fun f _ => trivial, ?_⟩
    rw [Oper.semAt_eq _ _ _ hdef, h1]
    exact hK z w' (hrv ▸ h2) h3 h4
  obtain ⟨dst, op, t, pos, after, guard⟩ := o
  simp only at h hok hK fin he ⊢
  unfold pEv at h
  split at h
  · -- a slice
    rename_i u len ps
    refine fin _ rfl (by simp) ?_
    have hps := parts_rel (e := e) (a := a) ps.toList (fun p hp => he p.2 (by simp [Op.operands]; exact ⟨p.1, by simpa using hp⟩) (okOps_all (by simp) hok p.2 (by simp [Op.operands]; exact ⟨p.1, by simpa using hp⟩)))
    rw [← parts_map] at hps
    have := buildSliceEv_sound (P := P) hg.1 hr u len _ _ hps h
    simpa [execOp, pEv] using this
  · -- a struct
    rename_i u ps
    refine fin _ rfl (by simp) ?_
    have hps := parts_rel (e := e) (a := a) ps.toList (fun p hp => he p.2 (by simp [Op.operands]; exact ⟨p.1, by simpa using hp⟩) (okOps_all (by simp) hok p.2 (by simp [Op.operands]; exact ⟨p.1, by simpa using hp⟩)))
    rw [← parts_map] at hps
    have := buildEv_sound (P := P) hg.1 hr u _ _ hps h
    simpa [execOp, pEv] using this
  · -- a call
    rename_i f xs ts
    clear fin
    simp only [pEv] at hK
    have hargs := args_rel hg.1 (e := e) (a := a) xs.toList ts.toList (fun x hx => he x (by simp [Op.operands, Call.operands]; simp at hx; simp [hx]) (okOps_all (by simp) hok x (by simp [Op.operands, Call.operands]; simp at hx; simp [hx])))
    have hf := he f (by simp [Op.operands, Call.operands]) (okOps_all (by simp) hok f (by simp [Op.operands, Call.operands]))
    obtain ⟨f0, qs, hev, M', caps, hM, hq, hce, hsc⟩ := callVal_parts hr _ _ _ hf h
    unfold callEv at hce
    cases hc : look g.Γ f0 with
    | none => simp [hc] at hce
    | some c =>
      simp only [hc] at hce
      obtain ⟨⟨hpre, hpure⟩, hval⟩ := hce
      obtain ⟨hent, hcon⟩ := hg.2.1 f0 c hc
      have hpa : (argsEv g e xs.toList ts.toList).all AV.pure = true := by
        rw [List.all_append, Bool.and_eq_true] at hpure; exact hpure.1
      have hargs' : All2 (relAV w M' [] []) (argsEv g e xs.toList ts.toList ++ caps.map capAV) (xs.toList.map a.eval ++ qs) :=
        (all2_weaken hM (all2_pure hpa hargs)).append hq
      refine ⟨fun f _ => trivial, ?_⟩
      rw [Oper.semAt_eq _ _ _ (by simp)]
      have hrun : (execOp a.eval { dst := dst, op := .call { callee := .value f, args := xs, argTypes := ts }, type := t, pos := pos, after := after, guard := guard }).run P w = .ok (.enter f0 (xs.toList.map a.eval ++ qs).toArray) w := by
        have := hent (xs.toList.map a.eval ++ qs).toArray w
        simp only [execOp, resolve, hev, Deferred.ofValue, Sem.run_bind, Sem.run_pure, Result.andThen_ok, invoke, map_arr]
        simpa using this
      rw [hrun]
      refine ⟨fun hd => by simp [FW] at hd, callsIn_FW ((hcon w M' _ _ hpre ?_ hargs').mono ?_)⟩
      · intro b hb
        rcases hM b hb with hb | ⟨id, hb⟩
        · exact hr.m0 b hb
        · exact hr.lt id b hb
      · rintro e1 w' ⟨v, rfl, hv, hbel, hdr⟩
        obtain ⟨k1, k2⟩ := hr.keep (Evo.of_below hbel hdr) (fun id b hb => hbel.block b (hr.lt id b hb)) (fun b hb _ => hbel.block b hb)
        rw [hval] at hv
        exact hK v w' (hsc w' v hv) k1 k2
  · -- a quiet operation
    rename_i hn1 hn2 hn3
    have heq : pEv g hp e t op = qEv g hp (opRV e) t op := by
      unfold pEv
      split
      · exact absurd rfl (hn1 _ _ _)
      · exact absurd rfl (hn2 _ _)
      · exact absurd rfl (hn3 _ _ _)
      · rfl
    rw [heq] at fin
    clear hK
    by_cases hpk : ∃ c x y, op = .pick c x y
    · obtain ⟨c, x, y, rfl⟩ := hpk
      refine fin _ rfl (by simp) (pdid_of_quiet hr ?_)
      simp only [okOps] at hok
      obtain ⟨hc, hxy⟩ := hok
      have hcv := he c (by simp [Op.operands]) hc
      simp only [qEv] at h ⊢
      cases hcr : opRV e c with
      | tup xs => simp [hcr] at hxy
      | v cv =>
        cases cv with
        | agg cs => simp [hcr] at hxy
        | s sv =>
          cases sv with
          | bool q =>
            simp only [hcr] at hxy h hcv ⊢
            obtain hcv : a.eval c = .bool q := hcv
            unfold pickEv at h ⊢
            split at h
            · rename_i q' b1 b2 e1 e2 e3
              obtain rfl : q = q' := by simpa [RV.av] using e1
              cases q with
              | true =>
                have hx := relRV_av (he x (by simp [Op.operands]) (hxy.1 rfl))
                rw [e2] at hx
                obtain hx : a.eval x = .bool b1 := hx
                exact ⟨.bool b1, by simp [execOp, hcv, asBool, hx], rfl⟩
              | false =>
                have hy := relRV_av (he y (by simp [Op.operands]) (hxy.2 rfl))
                rw [e3] at hy
                obtain hy : a.eval y = .bool b2 := hy
                exact ⟨.bool b2, by simp [execOp, hcv, asBool, hy], rfl⟩
            · rename_i q' b2 e1 e2 e3
              obtain rfl : q = q' := by simpa [RV.av] using e1
              simp only at h
              subst h
              have hy := relRV_av (he y (by simp [Op.operands]) (hxy.2 rfl))
              rw [e3] at hy
              obtain hy : a.eval y = .bool b2 := hy
              exact ⟨.bool b2, by simp [execOp, hcv, asBool, hy], rfl⟩
            · rename_i q' b1 e1 e2 e3
              obtain rfl : q = q' := by simpa [RV.av] using e1
              simp only at h
              subst h
              have hx := relRV_av (he x (by simp [Op.operands]) (hxy.1 rfl))
              rw [e2] at hx
              obtain hx : a.eval x = .bool b1 := hx
              exact ⟨.bool b1, by simp [execOp, hcv, asBool, hx], rfl⟩
            · exact h.elim
          | _ => simp [hcr] at hxy
    · refine fin _ rfl ?_ (pdid_of_quiet hr (qEv_sound hg.1 hr ⟨dst, op, t, pos, after, guard⟩ (opRV e) a (fun x hx => he x hx (okOps_all (fun c x y he => hpk ⟨c, x, y, he⟩) hok x hx)) h))
      intro c hc
      subst hc
      simp [qEv] at h

theorem of_one {t : Ty} {x : AV} {y : t.T} (h : t.of x = some y) (h0 : t.nfld = 0) {v : Value} {M : Nat → Prop} (hx : relAV w M bs hp x v) : rep w M t y [v] := by
  cases x with
  | agg cs => simp [Ty.of, h0] at h
  | s sv =>
    simp only [Ty.of, h0, if_true] at h
    split at h
    · rename_i z heq
      injection h with h
      subst h
      obtain ⟨c1, c2, hc, h1, h2⟩ := parse_rep t [sv] z [] [v] heq (.cons hx .nil)
      cases h2
      simp at hc
      subst hc
      exact h1
    · cases h

theorem all2_set {α β : Type} {R : α → β → Prop} {l : List α} {m : List β} (h : All2 R l m) (j : Nat) (x : α) (y : β) (hxy : R x y) : All2 R (l.set j x) (m.set j y) := by
  induction h generalizing j with
  | nil => exact .nil
  | cons r h ih =>
    cases j with
    | zero => exact .cons hxy h
    | succ j => exact .cons r (ih j)

theorem mapUpdateEv_sound (hg : g.ok P) (hr : HR w M0 bs hp) (t : TypeId) (m k v : AV) (vm vk vv : Value) (hm : relAV w (Mof M0 bs) bs hp m vm) (hk : relAV w (Mof M0 bs) bs hp k vk) (hv : relAV w (Mof M0 bs) bs hp v vv)
    (h : (mapUpdateEv g hp t m k v).1) : Did w M0 bs hp ((do Instr.mapUpdate t vm vk vv; pure .skip : Sem Next).run P w) (mapUpdateEv g hp t m k v).2.1 (mapUpdateEv g hp t m k v).2.2 := by
  have ht := G.td_ok hg t
  unfold mapUpdateEv at h ⊢
  split at h
  · rename_i kk ee kt vt id htd
    rw [htd] at ht
    obtain ⟨b, k0, u0, es, hb, hl, rfl⟩ := hm
    simp only [hl] at h ⊢
    cases hof : k0.of k with
    | none => simp [hof, nope] at h
    | some key =>
      cases hov : u0.of (coeTy u0 v) with
      | none => simp [hof, hov, nope] at h
      | some val =>
        simp only [hof, hov] at h ⊢
        obtain ⟨rfl, rfl⟩ := h
        obtain ⟨h1, h2, h3, ⟨q, rfl⟩, h5, h6⟩ := ht
        obtain ⟨b', ents, clock, hb', hheap, hes⟩ := hr.map id _ _ _ hl
        rw [hb] at hb'; cases hb'
        obtain rfl := of_int hof hk
        have hval := of_one hov h6 (coeTy_sound u0 v vv hv)
        have hget : (getObj b).run P w = .ok (.map ents clock) w := by simp [getObj, Sem.run, hheap]
        have hset : ∀ o, (setObj b o).run P w = .ok () (w.putObj b o) := fun o => by simp [setObj, Sem.run, hheap, World.putObj]
        have hfk : ∀ r, Instr.findNow (.int q) (.int q key) ents.toList 0 = some r → (Instr.findKey kk (.int q key) ents.toList).run P w = .ok r w := fun r hr => by
          simp [Instr.findKey, Sem.run_bind, run_underlying (show P.underlying kk = some (.int q) from h2), hr]
        have hblt := hr.lt id b hb
        -- what the new entries leave
        have fin : ∀ (o : Obj) (es' : List (Int × u0.T)) (ents' : Array MapEntry) (c' : Nat), o = .map ents' c' → (Instr.mapUpdate t (.map (some b)) (.int q key) vv).run P w = .ok () (w.putObj b o) →
            All2 (fun x (m : MapEntry) => rep w (Mof M0 bs) (.int q) x.1 [m.key] ∧ rep w (Mof M0 bs) u0 x.2 [m.val]) es' ents'.toList →
            Did w M0 bs hp ((do Instr.mapUpdate t (.map (some b)) (.int q key) vv; pure .skip : Sem Next).run P w) (.v (.s .any)) (hp.set id (.map (.int q) u0 es')) := by
          rintro o es' ents' c' rfl hrun hes'
          have hevo : Evo (Mof M0 bs) (Mof M0 bs) w (w.putObj b (.map ents' c')) :=
            ⟨rfl, rfl, rfl, by simp [World.putObj], Nat.le_refl _, fun c _ hm => World.putObj_heap_other (fun e => hm (e ▸ .inr ⟨id, hb⟩)), fun _ _ h => h⟩
          obtain ⟨k1, k2⟩ := hr.rewrite hb hevo (fun c hne _ => World.putObj_heap_other hne) (World.putObj_heap_same hblt) (.map (.int q) u0 es') ⟨ents', c', rfl, hes'⟩ (by rw [hl]; exact ⟨rfl, rfl⟩)
          exact ⟨undef, _, bs, .inr ⟨by rw [Sem.run_bind, hrun]; rfl, rfl⟩, trivial, k1, k2⟩
        rcases find_rel (w := w) (M := Mof M0 bs) (q := q) key es ents.toList 0 hes with ⟨f1, f2, f3⟩ | ⟨j, x, me, f1, f2, f3, f4, f5, f6⟩
        · rw [f3]
          refine fin (.map (ents.push { key := .int q key, val := vv, born := clock }) (clock + 1)) _ _ _ rfl ?_ (by simpa using hes.append (.cons ⟨by simp [rep], hval⟩ .nil))
          simp only [Instr.mapUpdate, Sem.run_bind, run_underlying h1, Result.andThen_ok, hget, run_checkKey h2 _ 9999, hfk _ f1, hset]
        · rw [f6]
          have hkey : me.key = .int q key := by
            obtain ⟨m', hm', hmr⟩ := hes.get j x f1
            rw [f2] at hm'; cases hm'
            have := hmr.1
            simp only [rep] at this
            rw [← f3]; simpa using this
          refine fin (.map (ents.modify (0 + j) fun e => { e with key := .int q key, val := vv }) clock) _ _ _ rfl ?_ ?_
          · have hj : ents[0 + j]? = some me := by simpa using f2
            simp only [Instr.mapUpdate, Sem.run_bind, run_underlying h1, Result.andThen_ok, hget, run_checkKey h2 _ 9999, hfk _ f4, hj, Option.map_some, Option.getD_some, hkey]
            simp [Instr.keyThatStays, Instr.sameBits, hset]
          · have : (ents.modify (0 + j) fun e => { e with key := .int q key, val := vv }).toList = ents.toList.set j { me with key := .int q key, val := vv } := by
              apply List.ext_getElem?
              intro i
              rw [Nat.zero_add, Array.getElem?_toList, Array.getElem?_modify, List.getElem?_set]
              by_cases e : j = i
              · subst e
                have hlt := (List.getElem?_eq_some_iff.1 f2).1
                simp only [Array.length_toList] at hlt
                simp [hlt]
                simp at f2
                rw [Array.getElem?_eq_getElem hlt] at f2
                injection f2 with f2
                rw [f2]
              · simp [e]
            rw [this]
            exact all2_set hes j _ _ ⟨by simp [rep], hval⟩
  · simp [nope] at h

theorem plain_td {t : TypeId} (h : plainTD (g.td t) = true) : g.td t ≠ .other ∧ ∀ k e kt vt, g.td t ≠ .map k e kt vt := by
  cases hd : g.td t <;> simp_all [plainTD]

/-- An operation that may change abstract memory. -/
theorem mEv_did (hg : g.good P) (hr : HR w M0 bs hp) {e : Env} {a : Act} (o : Oper) (he : ∀ x ∈ o.op.operands.toList, (oper e x).ok = true → relRV w (Mof M0 bs) bs hp (opRV e x) (a.eval x)) (hok : okOps e o.op) (h : (mEv g hp e o.op).1) :
    Did w M0 bs hp ((execOp a.eval o).run P w) (mEv g hp e o.op).2.1 (mEv g hp e o.op).2.2 ∧ ∀ c, o.op ≠ .defer c := by
  obtain ⟨dst, op, t, pos, after, guard⟩ := o
  simp only at h hok ⊢
  unfold mEv at h ⊢
  split at h
  · rename_i u
    exact ⟨by simpa only [execOp] using allocEv_sound hg.1 hr u h, by simp⟩
  · rename_i u x
    exact ⟨by simpa only [execOp] using boxEv_sound hr u _ _ (relRV_av (coe_sound hg.1 u _ _ (he x (by simp [Op.operands]) (okOps_all (by simp) hok x (by simp [Op.operands]))))) h, by simp⟩
  · rename_i u y x
    obtain ⟨h1, h2⟩ := h
    obtain ⟨k1, k2⟩ := plain_td h1
    exact ⟨by simpa only [execOp] using storeEv_sound hg.1 hr u _ _ _ _ (relRV_av (he y (by simp [Op.operands]) (okOps_all (by simp) hok y (by simp [Op.operands])))) (relRV_av (coe_sound hg.1 u _ _ (he x (by simp [Op.operands]) (okOps_all (by simp) hok x (by simp [Op.operands]))))) k1 k2 h2, by simp⟩
  · rename_i u
    exact ⟨by simpa only [execOp, Option.map_none] using makeMapEv_sound hg.1 hr u h, by simp⟩
  · rename_i u l c
    exact ⟨by simpa only [execOp] using makeSliceEv_sound hg.1 hr u _ _ _ _ (relRV_av (he l (by simp [Op.operands]) (okOps_all (by simp) hok l (by simp [Op.operands])))) (relRV_av (he c (by simp [Op.operands]) (okOps_all (by simp) hok c (by simp [Op.operands])))) h, by simp⟩
  · rename_i u m k v
    exact ⟨by simpa only [execOp] using mapUpdateEv_sound hg.1 hr u _ _ _ _ _ _ (relRV_av (he m (by simp [Op.operands]) (okOps_all (by simp) hok m (by simp [Op.operands])))) (relRV_av (he k (by simp [Op.operands]) (okOps_all (by simp) hok k (by simp [Op.operands])))) (relRV_av (he v (by simp [Op.operands]) (okOps_all (by simp) hok v (by simp [Op.operands])))) h, by simp⟩
  · rename_i u m k v
    exact ⟨by simpa only [execOp] using mapUpdateEv_sound hg.1 hr u _ _ _ _ _ _ (relRV_av (he m (by simp [Op.operands]) (okOps_all (by simp) hok m (by simp [Op.operands])))) (relRV_av (he k (by simp [Op.operands]) (okOps_all (by simp) hok k (by simp [Op.operands])))) (relRV_av (he v (by simp [Op.operands]) (okOps_all (by simp) hok v (by simp [Op.operands])))) h, by simp⟩
  · rename_i xs ts
    unfold appendArgs at h ⊢
    split at h
    · rename_i s y t1 t2 e1 e2
      obtain rfl : xs = #[s, y] := by cases xs; simpa using e1
      obtain rfl : ts = #[t1, t2] := by cases ts; simpa using e2
      refine ⟨?_, by simp⟩
      have hap : (t1 = t2 ∧ (appendEv g hp t1 (coeA g t1 (opRV e s)) (coeA g t1 (opRV e y))).1) → Did w M0 bs hp ((execOp a.eval ⟨dst, .call { callee := .builtin .append, args := #[s, y], argTypes := #[t1, t2] }, t, pos, after, guard⟩).run P w) (appendEv g hp t1 (coeA g t1 (opRV e s)) (coeA g t1 (opRV e y))).2.1 (appendEv g hp t1 (coeA g t1 (opRV e s)) (coeA g t1 (opRV e y))).2.2 := by
        rintro ⟨rfl, hq⟩
        have := appendEv_sound hg.1 hr t1 t _ _ _ _ (relRV_av (coe_sound hg.1 t1 _ _ (he s (by simp [Op.operands, Call.operands]) (okOps_all (by simp) hok s (by simp [Op.operands, Call.operands]))))) (relRV_av (coe_sound hg.1 t1 _ _ (he y (by simp [Op.operands, Call.operands]) (okOps_all (by simp) hok y (by simp [Op.operands, Call.operands]))))) hq
        simpa [execOp, resolve, invoke, builtin] using this
      split at h
      · exact Did.fz hap h
      · exact hap h
    · simp [nope] at h
  · simp [nope] at h

end
end Go.Am
