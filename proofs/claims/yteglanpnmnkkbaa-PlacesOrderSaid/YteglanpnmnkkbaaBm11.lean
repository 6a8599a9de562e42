/- Control: states, verification conditions of code, loops; functions. -/
import Derived.Test.YteglanpnmnkkbaaBm10f
import Derived.Shelf.Abstract
namespace Go.Am
set_option linter.unusedVariables false
open Go.RowKit

structure St where
  e : Env
  hp : List Blk

def keepE : List Nat → Env → Env
  | [], _ => []
  | s :: r, e => match look e s with
    | some x => (s, x) :: keepE r e
    | none => keepE r e

theorem look_keepE : ∀ (L : List Nat) (e : Env) (s : Nat) (x : SL), look (keepE L e) s = some x → look e s = some x
  | [], e, s, x, h => by simp [keepE, look] at h
  | t :: r, e, s, x, h => by
    simp only [keepE] at h
    cases ht : look e t with
    | none => rw [ht] at h; exact look_keepE r e s x h
    | some y =>
      rw [ht] at h
      simp only [look] at h
      split at h
      · rename_i e1; subst e1; rw [ht]; exact h
      · exact look_keepE r e s x h

def envLe : Env → Env → Prop
  | [], _ => True
  | (k, x) :: r, e => look e k = some x ∧ envLe r e
theorem look_envLe : ∀ {e e' : Env}, envLe e e' → ∀ s x, look e s = some x → look e' s = some x
  | [], _, _, s, x, h => by simp [look] at h
  | (k, y) :: r, e', h, s, x, hs => by
    simp only [look] at hs
    split at hs
    · rename_i e1; subst e1; rw [← hs]; exact h.1
    · exact look_envLe h.2 s x hs
/-- Less is known. -/
def St.le (s' s : St) : Prop := envLe s'.e s.e ∧ s'.hp = s.hp

def markOf (D : Nat) : Deferred := { target := .collected D, args := #[] }
def DefOk (n0 : Option Nat) (w : World) (M : Nat → Prop) (df : List Deferred) : Prop :=
  match n0 with
  | none => df = []
  | some n0 => n0 ≤ w.heap.size ∧ ∃ Ds : List Nat, df = Ds.map markOf ∧ Ds.Nodup ∧ ∀ D ∈ Ds, n0 ≤ D ∧ D < w.heap.size ∧ ¬ M D ∧ w.heap[D]? = some (.deferred (some []))
theorem DefOk.evo {n0 : Option Nat} {w w' : World} {M M' : Nat → Prop} {df : List Deferred} (h : DefOk n0 w M df) (k : Evo M M' w w') : DefOk n0 w' M' df := by
  cases n0 with
  | none => exact h
  | some n0 =>
    obtain ⟨h0, Ds, h1, h2, h3⟩ := h
    exact ⟨Nat.le_trans h0 k.size, Ds, h1, h2, fun D hD => by
      obtain ⟨q0, q1, q2, q3⟩ := h3 D hD
      exact ⟨q0, Nat.lt_of_lt_of_le q1 k.size, k.free D q1 q2, by rw [k.block D q1 q2]; exact q3⟩⟩

theorem exists_least (p : Nat → Prop) (h : ∃ n, p n) : ∃ n, p n ∧ ∀ m, p m → n ≤ m := by
  obtain ⟨n, hn⟩ := h
  induction n using Nat.strongRecOn with
  | _ n ih =>
    by_cases hm : ∃ m, m < n ∧ p m
    · obtain ⟨m, h1, h2⟩ := hm
      exact ih m h1 h2
    · exact ⟨n, hn, fun m hp => Classical.byContradiction fun hlt => hm ⟨m, by omega, hp⟩⟩
/-- The least number of a kind. -/
noncomputable def sInf' (p : Nat → Prop) : Nat := @dite _ (∃ n, p n) (Classical.propDecidable _) (fun h => Classical.choose (exists_least p h)) (fun _ => 0)
theorem sInf'_spec (p : Nat → Prop) (h : ∃ n, p n) : p (sInf' p) ∧ ∀ m, p m → sInf' p ≤ m := by
  unfold sInf'
  rw [dif_pos h]
  exact Classical.choose_spec (exists_least p h)
theorem sInf'_mem (p : Nat → Prop) (h : ∃ n, p n) : p (sInf' p) := (sInf'_spec p h).1
theorem sInf'_le (p : Nat → Prop) {m : Nat} (h : p m) : sInf' p ≤ m := (sInf'_spec p ⟨m, h⟩).2 m h
theorem stepR_scope {P : Program} {b : Frame} {a : Act} {k : List Item} {cs : List Frame} {w : World} {c : Code} : step P (lone (b.atR a (.code (.scope c) :: k)) cs w) = .next (lone (b.atR a (.code c :: .inScope c :: k)) cs w) :=
  step_lone_go (by simp [stepG, stepG.exec, Frame.atR])
theorem stepR_inScope {P : Program} {b : Frame} {a : Act} {k : List Item} {cs : List Frame} {w : World} {c : Code} : step P (lone (b.atR a (.inScope c :: k)) cs w) = .next (lone (b.atR a k) cs w) :=
  step_lone_go (by simp [stepG, stepG.exec, Frame.atR])
def Exit.noGo (Q : Exit → Act → World → Prop) : Exit → Act → World → Prop
  | .goto _, _, _ => False
  | e, a, w => Q e a w
theorem wpIn_scope {F : Fence} {n : Nat} {P : Program} {Q : Exit → Act → World → Prop} {a : Act} {w : World} {c : Code} (h : c.wpIn F n P (Exit.noGo Q) a w) : (Code.scope c).wpIn F n P Q a w := by
  intro b k cs hro hb hr
  have h0 : (lone (b.atR a (.code (.scope c) :: k)) cs w).fenced P F := fenced_calm hb hr rfl
  obtain ⟨e, a₁, w₁, hq, harr⟩ := h b (.inScope c :: k) cs hro hb hr
  cases e with
  | normal => exact ⟨.normal, a₁, w₁, hq, .head h0 stepR_scope (StepsIn.trans harr (.one (fenced_calm hb hr rfl) stepR_inScope))⟩
  | exit id =>
    have hx : exitTo id (.inScope c :: k) = exitTo id k := by simp [exitTo]
    exact ⟨.exit id, a₁, w₁, hq, fun k' hk => .head h0 stepR_scope (harr.1 k' (by rw [hx]; exact hk)),
      fun hr' hk => let ⟨k₁, h1, h2⟩ := harr.2 hr' (by rw [hx]; exact hk); ⟨k₁, h1, .head h0 stepR_scope h2⟩⟩
  | goto l => exact hq.elim
  | ret => exact ⟨_, a₁, w₁, hq, .of_steps (.one h0 stepR_scope) harr⟩
  | panic ch => exact ⟨_, a₁, w₁, hq, .of_steps (.one h0 stepR_scope) harr⟩
  | outgrown => exact ⟨_, a₁, w₁, hq, .of_steps (.one h0 stepR_scope) harr⟩

/-- all: the regions of which every order is told; live: the temporaries that outlive a region; frz: ahead of a region: the temporaries (or the variables to which they point) whose slices nobody writes any more. -/
structure Cfg where
  live : List Nat
  frz : List (Nat × List Nat) := []
  all : List Nat := []
  eps : List (Nat × List Nat) := []
  cut : List Nat := []
  fl : List (Nat × List (Nat × Nat)) := []
  fin : List (Nat × List (Nat × List Nat)) := []

/-- The region with which a piece of code begins. -/
def firstReg : Code → Option Nat
  | .region id _ _ => some id
  | .seq x _ => firstReg x
  | _ => none
/-- Is a sequence cut off (proved by itself)? -/
def isCut (l : List Nat) (x : Code) : Bool := match firstReg x with
  | some id => l.contains id
  | none => false

def frzSlot (k : Nat) (s : St) (K : St → Prop) : Prop :=
  match look s.e k with
  | some ⟨true, .v (.s (.own t id n))⟩ => match Blk.look s.hp id with
    | .arr _ cs => ∃ xs : List t.T, cs = t.flats xs ∧ n = xs.length ∧ K ⟨(k, ⟨true, .v (.s (.sl t xs false))⟩) :: s.e, s.hp.set id .dead⟩
    | _ => False
  | some ⟨true, .v (.s (.box b off))⟩ => match Blk.look s.hp b with
    | .cells bc => match bc[off]? with
      | some (.own t id n) => match Blk.look s.hp id with
        | .arr _ cs => ∃ xs : List t.T, cs = t.flats xs ∧ n = xs.length ∧ K ⟨s.e, (s.hp.set b (.cells (bc.set off (.sl t xs false)))).set id .dead⟩
        | _ => False
      | _ => K s
    | _ => K s
  | _ => K s
/-- A variable that nobody writes any more (a function value that has captured it may be handed on). -/
def epsSlot (k : Nat) (s : St) (K : St → Prop) : Prop :=
  match look s.e k with
  | some ⟨true, .v (.s (.box b 0))⟩ => match boxCap s.hp b with
    | some c => K ⟨(k, ⟨true, .v (.s (.eptr c.1 c.2))⟩) :: s.e, s.hp.set b .dead⟩
    | none => False
  | _ => K s
def epsSlots : List Nat → St → (St → Prop) → Prop
  | [], s, K => K s
  | k :: r, s, K => epsSlot k s fun s' => epsSlots r s' K
def frzSlots : List Nat → St → (St → Prop) → Prop
  | [], s, K => K s
  | k :: r, s, K => frzSlot k s fun s' => frzSlots r s' K

section
variable {P : Program} {g : G} {X : XT} {N : Nat} {n0 : Option Nat} {L : Cfg}

/-- The state stands for the world and the activation. -/
structure Rel (P : Program) (X : XT) (N : Nat) (n0 : Option Nat) (w : World) (M0 : Nat → Prop) (bs : Bs) (a : Act) (s : St) : Prop where
  hr : HR w M0 bs s.hp
  xr : XR X w M0 bs s.hp
  env : relEnv w (Mof M0 bs) bs s.hp s.e a
  size : a.tmps.size = N
  df : DefOk n0 w (Mof M0 bs) a.defers

/-- What is to hold behind a piece of code. -/
def Post (P : Program) (g : G) (X : XT) (N : Nat) (n0 : Option Nat) (K : Exit → St → Prop) (w : World) (M0 : Nat → Prop) (bs : Bs) (hp : List Blk) (e : Exit) (a' : Act) (w' : World) : Prop :=
  ∃ s' M0' bs', K e s' ∧ Rel P X N n0 w' M0' bs' a' s' ∧ Nx P g X w M0 bs hp w' M0' bs' s'.hp
def Wp (P : Program) (g : G) (X : XT) (N : Nat) (c : Code) (s : St) (K : Exit → St → Prop) : Prop :=
  ∀ (n : Nat) (r : Option Nat) (n0 : Option Nat) (M0 : Nat → Prop) (bs : Bs) (a : Act) (w : World), (g.top = true → r = none) ∧ n0.isSome = !g.y → Rel P X N n0 w M0 bs a s → c.wpIn (FW r) n P (Post P g X N n0 K w M0 bs s.hp) a w

theorem Wp.mono {c : Code} {s : St} {K K' : Exit → St → Prop} (h : Wp P g X N c s K) (hk : ∀ e s, K e s → K' e s) : Wp P g X N c s K' :=
  fun n r n0 M0 bs a w hT hr => wpIn_mono (h n r n0 M0 bs a w hT hr) fun e a w ⟨s', M0', bs', k, x⟩ => ⟨s', M0', bs', hk _ _ k, x⟩

theorem Rel.le {w : World} {M0 : Nat → Prop} {bs : Bs} {a : Act} {s s' : St} (h : Rel P X N n0 w M0 bs a s) (k : s'.le s) : Rel P X N n0 w M0 bs a s' := by
  obtain ⟨e, hp⟩ := s
  obtain ⟨e', hp'⟩ := s'
  obtain ⟨k1, k2⟩ := k
  simp only at k1 k2
  subst k2
  exact ⟨h.hr, h.xr, fun s x hx => h.env s x (look_envLe k1 s x hx), h.size, h.df⟩

/-- A turn of the state alone: the world stays. -/
def Turn (P : Program) (g : G) (X : XT) (N : Nat) (s s' : St) : Prop :=
  ∀ (n0 : Option Nat) (w : World) (M0 : Nat → Prop) (bs : Bs) (a : Act), Rel P X N n0 w M0 bs a s → ∃ bs', Rel P X N n0 w M0 bs' a s' ∧ Nx P g X w M0 bs s.hp w M0 bs' s'.hp
theorem Turn.le {s s' : St} (h : s'.le s) : Turn P g X N s s' := fun n0 w M0 bs a hr => ⟨bs, hr.le h, by rw [h.2]; exact .refl hr.hr hr.xr⟩
theorem Turn.refl (s : St) : Turn P g X N s s := fun n0 w M0 bs a hr => ⟨bs, hr, .refl hr.hr hr.xr⟩
theorem Turn.trans {s s' s'' : St} (h : Turn P g X N s s') (k : Turn P g X N s' s'') : Turn P g X N s s'' := fun n0 w M0 bs a hr => by
  obtain ⟨bs', h1, h2⟩ := h n0 w M0 bs a hr
  obtain ⟨bs'', k1, k2⟩ := k n0 w M0 bs' a h1
  exact ⟨bs'', k1, h2.trans k2⟩
/-- A slice that has no room is one of the call's own. -/
theorem Turn.virt {s : St} {k : Nat} {t : Ty} {xs : List t.T} (hk : look s.e k = some ⟨true, .v (.s (.sl t xs true))⟩) : Turn P g X N s ⟨(k, ⟨true, .v (.s (.own t s.hp.length xs.length))⟩) :: s.e, s.hp ++ [.arr false (t.flats xs)]⟩ := by
  intro n0 w M0 bs a hr
  obtain ⟨h1, h2⟩ := hr.hr.virt (t.flats xs)
  have hx : XR X w M0 (bs ++ [none]) (s.hp ++ [.arr false (t.flats xs)]) := by
    intro l ys i st ht
    have hin : inBs (bs ++ [none]) = inBs bs := by
      funext b; apply propext
      constructor
      · rintro ⟨id, h⟩
        rw [at_push] at h
        split at h
        · cases h
        · exact ⟨id, h⟩
      · rintro ⟨id, h⟩
        exact ⟨id, by rw [at_push, if_neg (by have := at_lt h; omega)]; exact h⟩
    rw [hin]
    refine hr.xr l ys i st ?_
    rw [look_push] at ht
    split at ht
    · cases ht
    · exact ht
  refine ⟨bs ++ [none], ⟨h1, hx, ?_, hr.size, hr.df.evo h2.evo⟩, ⟨h1, hx, h2.weaken, fun _ => rfl⟩⟩
  intro j x hj
  simp only [look] at hj
  split at hj
  · rename_i e; subst e
    injection hj with hj; subst hj
    refine ⟨fun _ => ?_, by simp⟩
    have hv0 : relSV w (Mof M0 bs) bs s.hp (.sl t xs true) _ := (hr.env _ _ hk).1 rfl
    obtain ⟨ad, c, q1, q2, q3, q4, q5⟩ := relSV_step h2 _ _ hv0
    refine ⟨by simp, fun al cs hl => ?_⟩
    rw [look_push, if_pos rfl] at hl
    injection hl with hl1 hl2
    subst hl2
    refine ⟨by rw [flats_length]; exact Nat.le_refl _, fun _ => .inr ⟨?_, xs, ad, rfl, by omega, rfl, by rw [q1, q4 rfl], q5⟩⟩
    rw [at_push, if_pos hr.hr.len.symm]
  · exact relSL_step h2 _ _ (hr.env _ _ hj)

/-- A variable's cells are told otherwise. -/
theorem HR.recell {w : World} {M0 : Nat → Prop} {bs : Bs} {hp : List Blk} (hr : HR w M0 bs hp) {id : Nat} {cs cs' : List SV} (hl : Blk.look hp id = .cells cs) (hlen : cs'.length = cs.length)
    (h : ∀ (j : Nat) (x y : SV) (u : Value), cs[j]? = some x → cs'[j]? = some y → relSV w (Mof M0 bs) bs hp x u → relSV w (Mof M0 bs) bs hp y u) :
    HR w M0 bs (hp.set id (.cells cs')) ∧ Step false w (Mof M0 bs) bs hp w (Mof M0 bs) bs (hp.set id (.cells cs')) := by
  obtain ⟨b, cur, e, h1, h2, h3, h4⟩ := hr.cells id cs hl
  refine hr.rewrite h1 (Evo.refl _ _) (fun _ _ _ => rfl) h2 (.cells cs') ⟨cur, e, rfl, by omega, fun j y hj => ?_⟩ (by rw [hl]; trivial)
  have hj2 := (List.getElem?_eq_some_iff.1 hj).1
  obtain ⟨u, k1, k2, k3⟩ := h4 j cs[j] (List.getElem?_eq_getElem (by omega))
  exact ⟨u, k1, k2, h j _ y u (List.getElem?_eq_getElem (by omega)) hj k3⟩

theorem Turn.virtBox {s : St} {b off : Nat} {bc : List SV} {t : Ty} {xs : List t.T} (hb : Blk.look s.hp b = .cells bc) (ho : bc[off]? = some (.sl t xs true)) :
    Turn P g X N s ⟨s.e, (s.hp ++ [Blk.arr false (t.flats xs)]).set b (.cells (bc.set off (.own t s.hp.length xs.length)))⟩ := by
  intro n0 w M0 bs a hr
  obtain ⟨h1, h2⟩ := hr.hr.virt (t.flats xs)
  have hblt : b < s.hp.length := look_lt (by rw [hb]; simp)
  have hb' : Blk.look (s.hp ++ [Blk.arr false (t.flats xs)]) b = .cells bc := by rw [look_push, if_neg (by omega)]; exact hb
  have hat : Bs.at (bs ++ [none]) s.hp.length = none := by rw [at_push, if_pos hr.hr.len.symm]
  obtain ⟨k1, k2⟩ := h1.recell (cs' := bc.set off (.own t s.hp.length xs.length)) hb' (by simp) (by
    intro j x y u hx hy hrel
    rw [List.getElem?_set] at hy
    split at hy
    · rename_i e; subst e
      rw [ho] at hx; injection hx with hx; subst hx
      split at hy
      · injection hy with hy; subst hy
        obtain ⟨ad, c, q1, q2, q3, q4, q5⟩ := hrel
        refine ⟨by simp, fun al cs hl => ?_⟩
        rw [look_push, if_pos rfl] at hl
        injection hl with hl1 hl2
        subst hl2
        exact ⟨by rw [flats_length]; exact Nat.le_refl _, fun _ => .inr ⟨hat, xs, ad, rfl, by omega, rfl, by rw [q1, q4 rfl], q5⟩⟩
      · cases hy
    · rw [hx] at hy; injection hy with hy; subst hy; exact hrel)
  have hx : XR X w M0 (bs ++ [none]) ((s.hp ++ [Blk.arr false (t.flats xs)]).set b (.cells (bc.set off (.own t s.hp.length xs.length)))) := by
    intro l ys i st ht
    have hin : inBs (bs ++ [none]) = inBs bs := by
      funext b; apply propext
      constructor
      · rintro ⟨id, h⟩
        rw [at_push] at h
        split at h
        · cases h
        · exact ⟨id, h⟩
      · rintro ⟨id, h⟩
        exact ⟨id, by rw [at_push, if_neg (by have := at_lt h; omega)]; exact h⟩
    rw [hin]
    refine hr.xr l ys i st ?_
    rw [look_set b _ 0 (by simp; omega)] at ht
    split at ht
    · cases ht
    · rw [look_push] at ht
      split at ht
      · cases ht
      · exact ht
  have hst := h2.trans k2
  exact ⟨bs ++ [none], ⟨k1, hx, relEnv_step hst hr.env, hr.size, hr.df.evo hst.evo⟩, ⟨k1, hx, hst.weaken, fun _ => rfl⟩⟩

/-- A block that abstract memory lets go. -/
theorem kill_blk (hX : XOk P X) {w : World} {M0 : Nat → Prop} {bs : Bs} {hp : List Blk} (hr : HR w M0 bs hp) (hx : XR X w M0 bs hp) {id : Nat} (hid : id < hp.length) (hnm : ∀ k u es, Blk.look hp id ≠ .map k u es) :
    HR w M0 (bs.set id none) (hp.set id .dead) ∧ XR X w M0 (bs.set id none) (hp.set id .dead) ∧ Step false w (Mof M0 bs) bs hp w (Mof M0 (bs.set id none)) (bs.set id none) (hp.set id .dead) ∧
      (∀ j b, Bs.at (bs.set id none) j = some b → j ≠ id ∧ bs.at j = some b) ∧ Evo (Mof M0 bs) (Mof M0 (bs.set id none)) w w := by
  obtain ⟨h1, h3, h4, h5⟩ := kill_blkH hr hid hnm
  refine ⟨h1, ?_, h3, h4, h5⟩
  intro l ys i st h
  have hl : Blk.look hp 0 = .trace l ys i st := by
    rw [look_set id _ 0 hid] at h
    split at h
    · cases h
    · exact h
  exact hX.stable (hx l ys i st hl) rfl rfl rfl (Nat.le_refl _) (Nat.le_refl _) (fun _ _ _ => rfl) (fun b _ hn ⟨j, hj⟩ => hn ⟨j, (h4 j b hj).2⟩) (fun b ⟨j, hj⟩ => hr.lt j b (h4 j b hj).2)

/-- A slice of the call's own that nobody writes any more. -/
theorem freeze_blk (hX : XOk P X) {w : World} {M0 : Nat → Prop} {bs : Bs} {hp : List Blk} (hr : HR w M0 bs hp) (hx : XR X w M0 bs hp) {id : Nat} {al : Bool} {t : Ty} {xs : List t.T} (hl : Blk.look hp id = .arr al (t.flats xs)) :
    HR w M0 (bs.set id none) (hp.set id .dead) ∧ XR X w M0 (bs.set id none) (hp.set id .dead) ∧ Step false w (Mof M0 bs) bs hp w (Mof M0 (bs.set id none)) (bs.set id none) (hp.set id .dead) ∧
      ∀ v, relSV w (Mof M0 bs) bs hp (.own t id xs.length) v → relSV w (Mof M0 (bs.set id none)) (bs.set id none) (hp.set id .dead) (.sl t xs false) v := by
  obtain ⟨h1, h2, h3⟩ := freeze_blkH hr hl
  exact ⟨h1, (kill_blk hX hr hx (look_lt (by rw [hl]; simp)) (by rw [hl]; intro _ _ _ h; cases h)).2.1, h2, h3⟩

/-- A variable that nobody writes any more. -/
theorem freeze_box (hX : XOk P X) {w : World} {M0 : Nat → Prop} {bs : Bs} {hp : List Blk} (hr : HR w M0 bs hp) (hx : XR X w M0 bs hp) {id : Nat} {c : Sigma Ty.T} (hc : boxCap hp id = some c) :
    HR w M0 (bs.set id none) (hp.set id .dead) ∧ XR X w M0 (bs.set id none) (hp.set id .dead) ∧ Step false w (Mof M0 bs) bs hp w (Mof M0 (bs.set id none)) (bs.set id none) (hp.set id .dead) ∧
      ∀ v, relSV w (Mof M0 bs) bs hp (.box id 0) v → relSV w (Mof M0 (bs.set id none)) (bs.set id none) (hp.set id .dead) (.eptr c.1 c.2) v := by
  obtain ⟨cs, hl⟩ := boxCap_cells hc
  have hid : id < hp.length := look_lt (by rw [hl]; simp)
  obtain ⟨g1, g2, g3, hat', he⟩ := kill_blk hX hr hx hid (by rw [hl]; intro _ _ _ h; cases h)
  refine ⟨g1, g2, g3, fun v hv => ?_⟩
  obtain ⟨b, hb, rfl⟩ := hv.2 cs hl
  exact boxCap_sound hr hb hc (fun b hb => by
    rcases hb with hb | ⟨j, hb⟩
    · exact .inl hb
    · exact .inr ⟨j, (hat' j b hb).2⟩) (fun hb' => by
    rcases hb' with hb' | ⟨j, hb'⟩
    · exact hr.out id b hb hb'
    · obtain ⟨hne, h⟩ := hat' j b hb'
      exact hne (hr.inj j id b h hb))
theorem epsSlot_sound (hX : XOk P X) {s : St} {k : Nat} {K : St → Prop} (h : epsSlot k s K) : ∃ s', Turn P g X N s s' ∧ K s' := by
  unfold epsSlot at h
  split at h
  · rename_i b hk
    split at h
    · rename_i c hc
      refine ⟨_, fun n0 w M0 bs a hr => ?_, h⟩
      obtain ⟨k1, k2, k3, k4⟩ := freeze_box hX hr.hr hr.xr hc
      refine ⟨_, ⟨k1, k2, fun j x hj => ?_, hr.size, hr.df.evo k3.evo⟩, ⟨k1, k2, k3.weaken, fun _ => rfl⟩⟩
      simp only [look] at hj
      split at hj
      · rename_i e; subst e
        injection hj with hj; subst hj
        exact ⟨fun _ => k4 _ ((hr.env _ _ hk).1 rfl), by simp⟩
      · exact relSL_step k3 _ _ (hr.env _ _ hj)
    · exact h.elim
  · exact ⟨s, .refl s, h⟩
theorem epsSlots_sound (hX : XOk P X) : ∀ (l : List Nat) {s : St} {K : St → Prop}, epsSlots l s K → ∃ s', Turn P g X N s s' ∧ K s'
  | [], s, K, h => ⟨s, .refl s, h⟩
  | k :: l, s, K, h => by
    obtain ⟨s1, h1, h2⟩ := epsSlot_sound (P := P) (g := g) (X := X) (N := N) hX h
    obtain ⟨s2, k1, k2⟩ := epsSlots_sound hX l h2
    exact ⟨s2, h1.trans k1, k2⟩

theorem frzSlot_sound (hX : XOk P X) {s : St} {k : Nat} {K : St → Prop} (h : frzSlot k s K) : ∃ s', Turn P g X N s s' ∧ K s' := by
  unfold frzSlot at h
  split at h
  · rename_i t id n hk
    split at h
    · rename_i al cs hl
      obtain ⟨xs, rfl, rfl, hK⟩ := h
      refine ⟨_, fun n0 w M0 bs a hr => ?_, hK⟩
      obtain ⟨k1, k2, k3, k4⟩ := freeze_blk hX hr.hr hr.xr hl
      refine ⟨_, ⟨k1, k2, fun j x hj => ?_, hr.size, hr.df.evo k3.evo⟩, ⟨k1, k2, k3.weaken, fun _ => rfl⟩⟩
      simp only [look] at hj
      split at hj
      · rename_i e; subst e
        injection hj with hj; subst hj
        exact ⟨fun _ => k4 _ ((hr.env _ _ hk).1 rfl), by simp⟩
      · exact relSL_step k3 _ _ (hr.env _ _ hj)
    · exact h.elim
  · rename_i b off hk
    split at h
    · rename_i bc hb
      split at h
      · rename_i t id n ho
        split at h
        · rename_i al cs hl
          obtain ⟨xs, rfl, rfl, hK⟩ := h
          refine ⟨_, fun n0 w M0 bs a hr => ?_, hK⟩
          have hne : b ≠ id := fun e => by subst e; rw [hb] at hl; cases hl
          have hidl : id < s.hp.length := look_lt (by rw [hl]; simp)
          have hbl : b < s.hp.length := look_lt (by rw [hb]; simp)
          obtain ⟨k1, k2, k3, k4⟩ := freeze_blk hX hr.hr hr.xr hl
          have hb' : Blk.look (s.hp.set id .dead) b = .cells bc := by rw [look_set id _ b hidl, if_neg hne]; exact hb
          -- the cell's value is known as a slice of the call's own
          obtain ⟨bb, cur, e, c1, c2, c3, c4⟩ := hr.hr.cells b bc hb
          obtain ⟨u0, u1, u2, u3⟩ := c4 off _ ho
          have hu := k4 _ u3
          obtain ⟨j1, j2⟩ := k1.rewrite (id := b) (b := bb) (by rw [at_set id _ b (by rw [hr.hr.len]; exact hidl), if_neg hne]; exact c1) (Evo.refl _ _) (fun _ _ _ => rfl) c2 (.cells (bc.set off (.sl t xs false)))
            ⟨cur, e, rfl, by simp; omega, fun j y hj => by
              rw [List.getElem?_set] at hj
              split at hj
              · rename_i e; subst e
                split at hj
                · injection hj with hj; subst hj; exact ⟨u0, u1, u2, hu⟩
                · cases hj
              · obtain ⟨u, q1, q2, q3⟩ := c4 j y hj
                exact ⟨u, q1, q2, relSV_step k3 _ _ q3⟩⟩ (by rw [hb']; trivial)
          have hcomm : (s.hp.set id .dead).set b (.cells (bc.set off (.sl t xs false))) = (s.hp.set b (.cells (bc.set off (.sl t xs false)))).set id .dead := by
            rw [List.set_comm _ _ hne.symm]
          rw [hcomm] at j1 j2
          have hst := k3.trans j2
          have hx : XR X w M0 (bs.set id none) ((s.hp.set b (.cells (bc.set off (.sl t xs false)))).set id .dead) := fun l ys i st ht => k2 l ys i st ((j2.only rfl).tr 0 l ys i st ht)
          exact ⟨_, ⟨j1, hx, relEnv_step hst hr.env, hr.size, hr.df.evo hst.evo⟩, ⟨j1, hx, hst.weaken, fun _ => rfl⟩⟩
        · exact h.elim
      · exact ⟨s, .refl s, h⟩
    · exact ⟨s, .refl s, h⟩
  · exact ⟨s, .refl s, h⟩
theorem frzSlots_sound (hX : XOk P X) : ∀ (l : List Nat) {s : St} {K : St → Prop}, frzSlots l s K → ∃ s', Turn P g X N s s' ∧ K s'
  | [], s, K, h => ⟨s, .refl s, h⟩
  | k :: l, s, K, h => by
    obtain ⟨s1, h1, h2⟩ := frzSlot_sound (P := P) (g := g) (X := X) (N := N) hX h
    obtain ⟨s2, k1, k2⟩ := frzSlots_sound hX l h2
    exact ⟨s2, h1.trans k1, k2⟩

theorem Wp.turn {c : Code} {s s' : St} {K : Exit → St → Prop} (ht : Turn P g X N s s') (h : Wp P g X N c s' K) : Wp P g X N c s K := fun n r n0 M0 bs a w hT hr => by
  obtain ⟨bs', h1, h2⟩ := ht n0 w M0 bs a hr
  exact wpIn_mono (h n r n0 M0 bs' a w hT h1) fun e a w ⟨s'', M0', bs'', k, x, y⟩ => ⟨s'', M0', bs'', k, x, h2.trans y⟩

/-- Control flow behind a piece of code. -/
def thenK (K1 : St → Prop) (K : Exit → St → Prop) : Exit → St → Prop
  | .normal, s => K1 s
  | e, s => K e s
def inBlockK (id : Nat) (K : Exit → St → Prop) : Exit → St → Prop
  | .exit id', s => if id' = id then K .normal s else K (.exit id') s
  | e, s => K e s

def noGotoK (K : Exit → St → Prop) : Exit → St → Prop
  | .goto _, _ => False
  | e, s => K e s

def vcCond (x : SL) (A B : Prop) : Prop :=
  match x with
  | ⟨true, .v (.s (.bool b))⟩ => (b = true → A) ∧ (b = false → B)
  | ⟨true, .v (.s (.ib p q))⟩ => (p → A) ∧ (q → B)
  | _ => False

/-- What is asked where operations float. -/
def flOf (g : G) (fl : List (Nat × List (Nat × Nat))) (id : Nat) (ops : List Oper) (s : St) : Prop := match look fl id with
  | some ps => vcFl g ops ps ops s.e s.hp []
  | none => True
/-- A region in the order of the text; slices are frozen between its operations. -/
def vcFr (g : G) (ops : List Oper) (fr : List (Nat × List Nat)) : Nat → List Oper → St → (St → Prop) → Prop
  | _, [], s, K => K s
  | i, o :: r, s, K => frzSlots ((look fr i).getD []) s fun s => vcOps g ops [o] s.e s.hp fun e hp => vcFr g ops fr (i + 1) r ⟨e, hp⟩ K
/-- The verification condition of code. -/
def vc (P : Program) (g : G) (X : XT) (N : Nat) (L : Cfg) : Code → St → (Exit → St → Prop) → Prop
  | .skip, s, K => K .normal s
  | .label _, s, K => K .normal s
  | .region id ops dr, s, K => frzSlots ((look L.frz id).getD []) s fun s => epsSlots ((look L.eps id).getD []) s fun s => match dr && L.all.contains id with
    | true => vcAll g ops.toList ops.toList.length [] s.e s.hp fun e hp => K .normal ⟨keepE L.live e, hp⟩
    | false => match look L.fin id with
      | some fr => vcFr g ops.toList fr 0 ops.toList s fun s => K .normal ⟨keepE L.live s.e, s.hp⟩
      | none => (vcOps g ops.toList ops.toList s.e s.hp fun e hp => K .normal ⟨keepE L.live e, hp⟩) ∧ flOf g L.fl id ops.toList s
  | .seq x y, s, K => match isCut L.cut x with
    | true => Wp P g X N (.seq x y) s K
    | false => vc P g X N L x s (thenK (fun s' => vc P g X N L y s' K) K)
  | .cond c x y, s, K => vcCond (oper s.e c) (vc P g X N L x s K) (vc P g X N L y s K)
  | .block id c, s, K => vc P g X N L c s (inBlockK id K)
  | .scope c, s, K => vc P g X N L c s (noGotoK K)
  | .exit id, s, K => K (.exit id) s
  | .goto l, s, K => K (.goto l) s
  | .ret, s, K => K .ret s
  | c, s, K => Wp P g X N c s K

def codeOk' (L : Cfg) (y : Bool × List FuncId) (N : Nat) : Code → Bool
  | .region id ops draw => if draw && L.all.contains id then dstOk N ops.toList else if (look L.fin id).isSome then !draw && dstOk N ops.toList else match draw, look L.fl id with
    | true, some ps => regionFl y N ops.toList ps
    | _, _ => regionOk y N ops.toList draw
  | .seq a b => codeOk' L y N a && codeOk' L y N b
  | .cond _ a b => codeOk' L y N a && codeOk' L y N b
  | .block _ c => codeOk' L y N c
  | .scope c => codeOk' L y N c
  | .loop c => codeOk' L y N c
  | .rangeFunc _ _ a b => codeOk' L y N a && codeOk' L y N b
  | _ => true

theorem Post.of_refl {w : World} {M0 : Nat → Prop} {bs : Bs} {a : Act} {s : St} {K : Exit → St → Prop} {e : Exit} (h : Rel P X N n0 w M0 bs a s) (k : K e s) : Post P g X N n0 K w M0 bs s.hp e a w :=
  ⟨s, M0, bs, k, h, .refl h.hr h.xr⟩

theorem vcFr_sound (hg : g.good P) (hX : XOk P X) {n : Nat} {r : Option Nat} {Q : Exit → Act → World → Prop} (ops : Array Oper) (fr : List (Nat × List Nat)) (n0 : Option Nat) :
    ∀ (l : List Oper) (i : Nat) (s : St) (K : St → Prop) (M0 : Nat → Prop) (bs : Bs) (a : Act) (w : World), (∀ o ∈ l, ∀ d, o.dst = some d → d < N) → vcFr g ops.toList fr i l s K → Rel P X N n0 w M0 bs a s →
    (∀ s' M0' bs' a' w', K s' → Nx P g X w M0 bs s.hp w' M0' bs' s'.hp → Rel P X N n0 w' M0' bs' a' s' → Q .normal a' w') → wpListIn (FW r) n P ops Q l a w := by
  intro l
  induction l with
  | nil => intro i s K M0 bs a w _ h hr hQ; exact hQ s M0 bs a w h (.refl hr.hr hr.xr) hr
  | cons o l ih =>
    intro i s K M0 bs a w hdst h hr hQ
    obtain ⟨s1, ht, hv⟩ := frzSlots_sound (P := P) (g := g) (X := X) (N := N) hX _ h
    obtain ⟨bs1, hr1, hn1⟩ := ht n0 w M0 bs a hr
    refine vcOps_step hg hX ops o [] s1.e s1.hp bs1 a w hv hr1.hr hr1.xr hr1.env _ ?_
    intro x z hp' M0' bs' w' hx hst hv
    refine ih (i + 1) ⟨putE o.dst x s1.e, hp'⟩ K M0' bs' _ w' (fun o' ho' => hdst o' (by simp [ho'])) hv ⟨hst.hr, hst.xr, ?_, by rw [put_eval]; exact hr1.size, by rw [put_defers]; exact hr1.df.evo hst.st.evo⟩ ?_
    · exact relEnv_put (relEnv_step hst.st hr1.env) o.dst x z hx (fun d hd => by rw [hr1.size]; exact hdst o (by simp) d hd)
    · intro s' M0'' bs'' a' w'' hk hn hr'
      exact hQ s' M0'' bs'' a' w'' hk ((hn1.trans hst).trans hn) hr'
theorem vc_sound (hg : g.good P) (hX : XOk P X) (hm : P.follows .mixedOrders = true) : ∀ (c : Code), codeOk' L g.ye N c = true → ∀ (s : St) (K : Exit → St → Prop), vc P g X N L c s K → Wp P g X N c s K := by
  intro c
  induction c with
  | skip => intro _ s K h n r n0 M0 bs a w hT hr; exact wpIn_skip (.of_refl hr h)
  | label l => intro _ s K h n r n0 M0 bs a w hT hr; exact wpIn_label (.of_refl hr h)
  | exit id => intro _ s K h n r n0 M0 bs a w hT hr; exact wpIn_exit (.of_refl hr h)
  | goto l => intro _ s K h n r n0 M0 bs a w hT hr; exact wpIn_goto (.of_refl hr h)
  | ret => intro _ s K h n r n0 M0 bs a w hT hr; exact wpIn_ret (.of_refl hr h)
  | region id ops draw =>
    intro hok s K h n r n0 M0 bs a w hT hr
    obtain ⟨s0, hturn0, hv0⟩ := frzSlots_sound (P := P) (g := g) (X := X) (N := N) hX _ h
    clear h
    obtain ⟨s1, hturn1, hv⟩ := epsSlots_sound (P := P) (g := g) (X := X) (N := N) hX _ hv0
    clear hv0
    refine Wp.turn (hturn0.trans hturn1) ?_ n r n0 M0 bs a w hT hr
    intro n r n0 M0 bs a w hT hr
    have hbeh : Behind P g X M0 N (Post P g X N n0 K w M0 bs s1.hp) (fun e hp => K .normal ⟨keepE L.live e, hp⟩) w bs s1.hp a.defers := by
      intro e' hp' M0' bs' a' w' hk hn he hN hdf
      exact ⟨⟨keepE L.live e', hp'⟩, M0', bs', hk, ⟨hn.hr, hn.xr, fun t x hx => he t x (look_keepE L.live e' t x hx), hN, by rw [hdf]; exact hr.df.evo hn.st.evo⟩, hn⟩
    simp only [codeOk'] at hok
    cases hal : draw && L.all.contains id with
    | true =>
      rw [hal] at hv hok
      simp only [if_true] at hok
      simp only [Bool.and_eq_true] at hal
      obtain ⟨rfl, _⟩ := hal
      exact region_all hg hX hm id ops hok s1.e s1.hp bs a w hv hr.hr hr.xr hr.env hr.size hbeh
    | false =>
      rw [hal] at hv hok
      simp only [Bool.false_eq_true, if_false] at hok
      cases hfin : look L.fin id with
      | some fr =>
        rw [hfin] at hv hok
        simp only [Option.isSome_some, if_true, Bool.and_eq_true, Bool.not_eq_true'] at hok
        obtain ⟨rfl, hd⟩ := hok
        simp only [dstOk, List.all_eq_true] at hd
        refine wpIn_region_list (vcFr_sound hg hX ops fr n0 ops.toList 0 s1 _ M0 bs a w (fun o ho d hod => ?_) hv hr fun s' M0' bs' a' w' hk hn hr' => ⟨⟨keepE L.live s'.e, s'.hp⟩, M0', bs', hk, ⟨hr'.hr, hr'.xr, fun t x hx => hr'.env t x (look_keepE L.live s'.e t x hx), hr'.size, hr'.df⟩, hn⟩)
        have := hd o ho
        rw [hod] at this
        simpa using this
      | none =>
      rw [hfin] at hv hok
      simp only [Option.isSome_none, Bool.false_eq_true, if_false] at hok
      obtain ⟨hv, hfl⟩ := hv
      split at hok
      · rename_i ps heq
        unfold flOf at hfl
        rw [heq] at hfl
        exact region_float hg hX hm id ops ps hok s1.e s1.hp bs a w hv hfl hr.hr hr.xr hr.env hr.size hbeh
      · exact region_sound hg hX hm id ops _ hok s1.e s1.hp bs a w hv hr.hr hr.xr hr.env hr.size hbeh
  | seq x y ihx ihy =>
    intro hok s K h
    cases hcut : isCut L.cut x with
    | true => simp only [vc, hcut] at h; exact h
    | false =>
    simp only [vc, hcut] at h
    intro n r n0 M0 bs a w hT hr
    simp only [codeOk', Bool.and_eq_true] at hok
    refine wpIn_seq (wpIn_mono (ihx hok.1 s _ h n r n0 M0 bs a w hT hr) ?_)
    rintro e a' w' ⟨s', M0', bs', k, hr', hn⟩
    have hK : e ≠ .normal → Post P g X N n0 K w M0 bs s.hp e a' w' := fun he => ⟨s', M0', bs', by cases e <;> first | exact absurd rfl he | exact k, hr', hn⟩
    cases e with
    | normal => exact wpIn_mono (ihy hok.2 s' K k n r n0 M0' bs' a' w' hT hr') fun e a w ⟨s'', M0'', bs'', k, x, y⟩ => ⟨s'', M0'', bs'', k, x, hn.trans y⟩
    | _ => exact hK (by simp)
  | cond c x y ihx ihy =>
    intro hok s K h n r n0 M0 bs a w hT hr
    simp only [codeOk', Bool.and_eq_true] at hok
    simp only [vc] at h
    have ho := oper_rel hr.env c
    unfold opRV at ho
    generalize oper s.e c = z at h ho
    obtain ⟨ok, v⟩ := z
    unfold vcCond at h
    split at h
    · rename_i b heq
      injection heq with e1 e2
      subst e1; subst e2
      obtain ⟨h1, h2⟩ := h
      have hb : a.eval c = .bool b := ho rfl
      refine wpIn_cond_split hb (fun hb => ?_) (fun hb => ?_)
      · exact ihx hok.1 s K (h1 hb) n r n0 M0 bs a w hT hr
      · exact ihy hok.2 s K (h2 hb) n r n0 M0 bs a w hT hr
    · rename_i p q heq
      injection heq with e1 e2
      subst e1; subst e2
      obtain ⟨h1, h2⟩ := h
      obtain ⟨b, hb, k1, k2⟩ : ∃ b, a.eval c = .bool b ∧ (b = true → p) ∧ (b = false → q) := ho rfl
      refine wpIn_cond_split hb (fun hb => ?_) (fun hb => ?_)
      · exact ihx hok.1 s K (h1 (k1 hb)) n r n0 M0 bs a w hT hr
      · exact ihy hok.2 s K (h2 (k2 hb)) n r n0 M0 bs a w hT hr
    · exact h.elim
  | block id c ih =>
    intro hok s K h n r n0 M0 bs a w hT hr
    refine wpIn_block (wpIn_mono (ih hok s _ h n r n0 M0 bs a w hT hr) ?_)
    rintro e a' w' ⟨s', M0', bs', k, hr', hn⟩
    cases e with
    | exit id' =>
      simp only [inBlockK] at k
      simp only [Exit.inBlock]
      split at k
      · rename_i e1; rw [if_pos e1]; exact ⟨s', M0', bs', k, hr', hn⟩
      · rename_i e1; rw [if_neg e1]; exact ⟨s', M0', bs', k, hr', hn⟩
    | _ => exact ⟨s', M0', bs', k, hr', hn⟩
  | scope c ih =>
    intro hok s K h n r n0 M0 bs a w hT hr
    refine wpIn_scope (wpIn_mono (ih hok s _ h n r n0 M0 bs a w hT hr) ?_)
    rintro e a' w' ⟨s', M0', bs', k, hr', hn⟩
    cases e with
    | goto l => exact k.elim
    | _ => exact ⟨s', M0', bs', k, hr', hn⟩
  | _ => intro _ s K h; exact h

/-- A turn behind something that began with n blocks. -/
def TurnT (P : Program) (g : G) (X : XT) (N n : Nat) (s s' : St) : Prop :=
  ∀ (n0 : Option Nat) (w : World) (M0 : Nat → Prop) (bs : Bs) (a : Act), Rel P X N n0 w M0 bs a s → ∃ bs', Rel P X N n0 w M0 bs' a s' ∧
    ∀ (w0 : World) (M00 : Nat → Prop) (bs0 : Bs) (hp0 : List Blk), hp0.length ≤ n → Nx P g X w0 M00 bs0 hp0 w M0 bs s.hp → Nx P g X w0 M00 bs0 hp0 w M0 bs' s'.hp
theorem Turn.toT {n : Nat} {s s' : St} (h : Turn P g X N s s') : TurnT P g X N n s s' := fun n0 w M0 bs a hr => by
  obtain ⟨bs', h1, h2⟩ := h n0 w M0 bs a hr
  exact ⟨bs', h1, fun _ _ _ _ _ hn => hn.trans h2⟩
theorem TurnT.le {n : Nat} {s s' : St} (h : s'.le s) : TurnT P g X N n s s' := (Turn.le h).toT
theorem TurnT.trans {n : Nat} {s s' s'' : St} (h : TurnT P g X N n s s') (k : TurnT P g X N n s' s'') : TurnT P g X N n s s'' := fun n0 w M0 bs a hr => by
  obtain ⟨bs', h1, h2⟩ := h n0 w M0 bs a hr
  obtain ⟨bs'', k1, k2⟩ := k n0 w M0 bs' a h1
  exact ⟨bs'', k1, fun w0 M00 bs0 hp0 hl hn => k2 w0 M00 bs0 hp0 hl (h2 w0 M00 bs0 hp0 hl hn)⟩

def SV.below (n : Nat) : SV → Bool
  | .box id _ => decide (id < n)
  | .own _ id _ => decide (id < n)
  | .eown _ id _ _ => decide (id < n)
  | .fn _ ids => ids.all fun id => decide (id < n)
  | .mp id => decide (id < n)
  | _ => true
def AV.below (n : Nat) : AV → Bool
  | .s x => x.below n
  | .agg cs => cs.all fun x => x.below n
def RV.below (n : Nat) : RV → Bool
  | .v x => x.below n
  | .tup xs => xs.all fun x => x.below n
def Blk.below (n : Nat) : Blk → Bool
  | .cells cs => cs.all fun x => x.below n
  | .arr _ cs => cs.all fun x => x.below n
  | _ => true

section trunc
variable {w : World} {M0 : Nat → Prop} {bs : Bs} {hp junk : List Blk}
theorem at_take {n id : Nat} (h : id < n) : Bs.at (bs.take n) id = bs.at id := by
  simp [Bs.at, h]
theorem at_take' {n id b : Nat} (h : Bs.at (bs.take n) id = some b) : bs.at id = some b := by
  have := at_lt h
  rw [List.length_take] at this
  rw [at_take (by omega)] at h; exact h
theorem look_app {id : Nat} (h : id < hp.length) : Blk.look (hp ++ junk) id = Blk.look hp id := by
  simp [Blk.look, List.getElem?_append_left h]
theorem Mof_take {n b : Nat} (h : Mof M0 (bs.take n) b) : Mof M0 bs b := by
  rcases h with h | ⟨id, h⟩
  · exact .inl h
  · exact .inr ⟨id, at_take' h⟩
theorem relSV_trunc {x : SV} {v : Value} (hb : x.below hp.length = true) (h : relSV w (Mof M0 bs) bs (hp ++ junk) x v) : relSV w (Mof M0 (bs.take hp.length)) (bs.take hp.length) hp x v := by
  have he : Evo (Mof M0 bs) (Mof M0 (bs.take hp.length)) w w := Evo.more w fun b _ => Mof_take
  cases x with
  | sl t xs ex => obtain ⟨a, c, h1, h2, h3, h4, h5⟩ := h; exact ⟨a, c, h1, h2, h3, h4, h5.evo he⟩
  | eptr t x => obtain ⟨b, off, cs, h1, h2, h3, h4, h5⟩ := h; exact ⟨b, off, cs, h1, he.free b h3 h2, h3, rep_evo he _ _ _ h4, h5⟩
  | fnp f caps => obtain ⟨ps, h1, h2⟩ := h; exact ⟨ps, h1, h2.imp fun c p hp => hp.evo he⟩
  | fv x => exact RepD.evo he h
  | box id off =>
    simp only [SV.below, decide_eq_true_eq] at hb
    obtain ⟨h1, h2⟩ := h
    refine ⟨hb, fun cs hl => ?_⟩
    rw [at_take hb]
    exact h2 cs (by rw [look_app hb]; exact hl)
  | own t id n =>
    simp only [SV.below, decide_eq_true_eq] at hb
    obtain ⟨h1, h2⟩ := h
    refine ⟨hb, fun al cs hl => ?_⟩
    rw [← look_app (junk := junk) hb] at hl
    refine ⟨(h2 al cs hl).1, fun hlen => ?_⟩
    rw [at_take hb]
    rcases (h2 al cs hl).2 hlen with h | ⟨k1, xs, a, k2, k3, k4, k5, k6⟩
    · exact .inl h
    · exact .inr ⟨k1, xs, a, k2, k3, k4, k5, k6.evo he⟩
  | eown t id n off =>
    simp only [SV.below, decide_eq_true_eq] at hb
    obtain ⟨h1, h2⟩ := h
    refine ⟨hb, fun al cs hl => ?_⟩
    rw [← look_app (junk := junk) hb] at hl
    refine ⟨(h2 al cs hl).1, fun hlen => ?_⟩
    rw [at_take hb]
    exact (h2 al cs hl).2 hlen
  | fn f ids =>
    simp only [SV.below, List.all_eq_true, decide_eq_true_eq] at hb
    obtain ⟨ps, h1, h2⟩ := h
    refine ⟨ps, h1, ?_⟩
    clear h1
    induction h2 with
    | nil => exact .nil
    | cons r _ ih =>
      have h0 := hb _ (List.mem_cons_self ..)
      refine .cons ⟨h0, fun cs hl => by rw [at_take h0]; exact r.2 cs (by rw [look_app h0]; exact hl)⟩ (ih fun id hid => hb id (List.mem_cons_of_mem _ hid))
  | mp id =>
    simp only [SV.below, decide_eq_true_eq] at hb
    obtain ⟨b, k, u, es, h1, h2, h3⟩ := h
    exact ⟨b, k, u, es, by rw [at_take hb]; exact h1, by rw [← look_app hb]; exact h2, h3⟩
  | _ => exact h
theorem relAV_trunc {x : AV} {v : Value} (hb : x.below hp.length = true) (h : relAV w (Mof M0 bs) bs (hp ++ junk) x v) : relAV w (Mof M0 (bs.take hp.length)) (bs.take hp.length) hp x v := by
  cases x with
  | s x => exact relSV_trunc hb h
  | agg cs =>
    obtain ⟨vs, rfl, h⟩ := h
    refine ⟨vs, rfl, ?_⟩
    simp only [AV.below] at hb
    induction h with
    | nil => exact .nil
    | cons r _ ih =>
      simp only [List.all_cons, Bool.and_eq_true] at hb
      exact .cons ⟨relSV_trunc hb.1 r.1, r.2⟩ (ih hb.2)
theorem relRV_trunc {x : RV} {v : Value} (hb : x.below hp.length = true) (h : relRV w (Mof M0 bs) bs (hp ++ junk) x v) : relRV w (Mof M0 (bs.take hp.length)) (bs.take hp.length) hp x v := by
  cases x with
  | v x => exact relAV_trunc hb h
  | tup xs =>
    obtain ⟨vs, rfl, h⟩ := h
    refine ⟨vs, rfl, ?_⟩
    simp only [RV.below] at hb
    induction h with
    | nil => exact .nil
    | cons r _ ih =>
      simp only [List.all_cons, Bool.and_eq_true] at hb
      exact .cons (relAV_trunc hb.1 r) (ih hb.2)

theorem HR.trunc (hr : HR w M0 bs (hp ++ junk)) (hb : hp.all (fun b => b.below hp.length) = true) : HR w M0 (bs.take hp.length) hp := by
  have he : Evo (Mof M0 bs) (Mof M0 (bs.take hp.length)) w w := Evo.more w fun b _ => Mof_take
  have hlen : (bs.take hp.length).length = hp.length := by rw [List.length_take, hr.len, List.length_append]; omega
  have hlk : ∀ id x, Blk.look hp id = x → x ≠ .dead → id < hp.length ∧ Blk.look (hp ++ junk) id = x := by
    intro id x h hne
    have hlt : id < hp.length := look_lt (by rw [h]; exact hne)
    exact ⟨hlt, by rw [look_app hlt]; exact h⟩
  have hbel : ∀ id x, Blk.look hp id = x → x ≠ .dead → x.below hp.length = true := by
    intro id x h hne
    have hlt := (hlk id x h hne).1
    rw [List.all_eq_true] at hb
    have hmem : x ∈ hp := by
      rw [← h]; simp only [Blk.look, List.getElem?_eq_getElem hlt, Option.getD_some]; exact List.getElem_mem hlt
    exact hb x hmem
  refine ⟨hlen, hr.m0, fun id b h => hr.lt id b (at_take' h), fun i j b h1 h2 => hr.inj i j b (at_take' h1) (at_take' h2), fun id b h => hr.out id b (at_take' h), ?_, ?_, ?_, ?_⟩
  · intro id cs h
    obtain ⟨h1, h2⟩ := hlk id _ h (by simp)
    obtain ⟨b, hb⟩ := hr.al id cs h2
    exact ⟨b, by rw [at_take h1]; exact hb⟩
  · intro id cs h
    obtain ⟨h1, h2⟩ := hlk id _ h (by simp)
    have hbl := hbel id _ h (by simp)
    simp only [Blk.below, List.all_eq_true] at hbl
    obtain ⟨b, cur, e, q1, q2, q3, q4⟩ := hr.cells id cs h2
    refine ⟨b, cur, e, by rw [at_take h1]; exact q1, q2, q3, fun j x hj => ?_⟩
    obtain ⟨u, k1, k2, k3⟩ := q4 j x hj
    exact ⟨u, k1, k2, relSV_trunc (hbl x (List.mem_of_getElem? hj)) k3⟩
  · intro id al cs b h hat
    obtain ⟨h1, h2⟩ := hlk id _ h (by simp)
    have hbl := hbel id _ h (by simp)
    simp only [Blk.below, List.all_eq_true] at hbl
    obtain ⟨cur, e, q2, q4⟩ := hr.arr id al cs b h2 (at_take' hat)
    refine ⟨cur, e, q2, fun j x hj => ?_⟩
    obtain ⟨u, k1, k2, k3⟩ := q4 j x hj
    exact ⟨u, k1, k2, relSV_trunc (hbl x (List.mem_of_getElem? hj)) k3⟩
  · intro id k v es h
    obtain ⟨h1, h2⟩ := hlk id _ h (by simp)
    obtain ⟨b, ents, clock, q1, q2, q3⟩ := hr.map id k v es h2
    exact ⟨b, ents, clock, by rw [at_take h1]; exact q1, q2, q3.imp fun x m hm => ⟨rep_evo he _ _ _ hm.1, rep_evo he _ _ _ hm.2⟩⟩
end trunc

def envBelow (n : Nat) : Env → Bool
  | [] => true
  | (_, x) :: r => x.v.below n && envBelow n r
theorem envBelow_look {n : Nat} : ∀ {e : Env} {s : Nat} {x : SL}, envBelow n e = true → look e s = some x → x.v.below n = true
  | [], s, x, _, h => by simp [look] at h
  | (k, y) :: r, s, x, hb, h => by
    simp only [envBelow, Bool.and_eq_true] at hb
    simp only [look] at h
    split at h
    · injection h with h; subst h; exact hb.1
    · exact envBelow_look hb.2 h

/-- The last blocks are forgotten. -/
theorem TurnT.trunc (hX : XOk P X) {n : Nat} {e e' : Env} {hp junk : List Blk} (hn : n ≤ hp.length) (hb : hp.all (fun b => b.below hp.length) = true) (he : envLe e' e) (heb : envBelow hp.length e' = true) : TurnT P g X N n ⟨e, hp ++ junk⟩ ⟨e', hp⟩ := by
  intro n0 w M0 bs a hr
  have hr1 := hr.hr.trunc hb
  have hev : Evo (Mof M0 bs) (Mof M0 (bs.take hp.length)) w w := Evo.more w fun b _ => Mof_take
  have htr : ∀ l ys i st, Blk.look hp 0 = .trace l ys i st → Blk.look (hp ++ junk) 0 = .trace l ys i st := fun l ys i st ht => by
    rw [look_app (look_lt (by rw [ht]; simp))]; exact ht
  have hx : XR X w M0 (bs.take hp.length) hp := fun l ys i st ht =>
    hX.stable (hr.xr l ys i st (htr l ys i st ht)) rfl rfl rfl (Nat.le_refl _) (Nat.le_refl _) (fun _ _ _ => rfl) (fun b _ hn ⟨j, hj⟩ => hn ⟨j, at_take' hj⟩) (fun b ⟨j, hj⟩ => hr1.lt j b hj)
  refine ⟨bs.take hp.length, ⟨hr1, hx, fun s x hs => ?_, hr.size, hr.df.evo hev⟩, fun w0 M00 bs0 hp0 hl hnx => ⟨hr1, hx, ?_, hnx.eq⟩⟩
  · have h1 := hr.env s x (look_envLe he s x hs)
    exact ⟨fun ho => relRV_trunc (envBelow_look heb hs) (h1.1 ho), h1.2⟩
  · have hst := hnx.st
    change Step g.y w0 (Mof M00 bs0) bs0 hp0 w (Mof M0 (bs.take hp.length)) (bs.take hp.length) hp
    refine ⟨hst.evo.trans hev, by omega, ?_, ?_, ?_, fun hv => ?_⟩
    · intro id cs h1 h2
      rw [at_take (by omega)]
      exact hst.box id cs h1 (by rw [look_app (by omega)]; exact h2)
    · intro id b k u es h1 h2
      have hlt : id < hp0.length := look_lt (by rw [h2]; simp)
      obtain ⟨k1, es', k2⟩ := hst.map id b k u es h1 h2
      exact ⟨by rw [at_take (by omega)]; exact k1, es', by rw [← look_app (junk := junk) (by omega)]; exact k2⟩
    · intro id al cs hid h
      rw [at_take (by omega)]
      exact hst.own id al cs hid (by rw [look_app (by omega)]; exact h)
    · have ho := hst.only hv
      exact ⟨ho.old, fun b hb hn j hj => ho.new b hb hn j (at_take' hj), fun j l ys i st ht => ho.tr j l ys i st (by rw [look_app (look_lt (by rw [ht]; simp))]; exact ht)⟩

/-- A loop. S: what holds at the head of a round, by the data x; μ falls from round to round. -/
theorem Wp.cut (hg : g.good P) (hX : XOk P X) (hm : P.follows .mixedOrders = true) {c : Code} (hok : codeOk' L g.ye N c = true) {s s' : St} {K : Exit → St → Prop} (hs : Turn P g X N s s') (h : vc P g X N L c s' K) : Wp P g X N c s K :=
  Wp.turn hs (vc_sound hg hX hm c hok s' K h)

theorem Wp.loop (hg : g.good P) (hX : XOk P X) (hm : P.follows .mixedOrders = true) {c : Code} (hok : codeOk' L g.ye N c = true) {s : St} {K : Exit → St → Prop} {ι : Type} (S : ι → St) (R : ι → Prop) (μ : ι → Nat) (i0 : ι) (h0 : R i0) (hs : Turn P g X N s (S i0))
    (h : ∀ i, R i → vc P g X N L c (S i) (thenK (fun s' => ∃ j, R j ∧ μ j < μ i ∧ TurnT P g X N s.hp.length s' (S j)) K)) : Wp P g X N (.loop c) s K := by
  intro n r n0 M0 bs a w hT hr
  have key : ∀ (m : Nat) (a : Act) (w' : World) (i : ι) (M0' : Nat → Prop) (bs' : Bs), True := fun _ _ _ _ _ _ => trivial
  obtain ⟨bs0, hr0, hn0⟩ := hs n0 w M0 bs a hr
  refine wpIn_loop (fun a' w' => ∃ i M0' bs', R i ∧ Rel P X N n0 w' M0' bs' a' (S i) ∧ Nx P g X w M0 bs s.hp w' M0' bs' (S i).hp)
    (fun a' w' => sInf' (fun m => ∃ i M0' bs', μ i = m ∧ R i ∧ Rel P X N n0 w' M0' bs' a' (S i) ∧ Nx P g X w M0 bs s.hp w' M0' bs' (S i).hp)) ⟨i0, M0, bs0, h0, hr0, hn0⟩ ?_
  intro a1 w1 hI
  obtain ⟨i, M1, bs1, hmu, hRi, hr1, hn1⟩ := sInf'_mem (fun m => ∃ i M0' bs', μ i = m ∧ R i ∧ Rel P X N n0 w1 M0' bs' a1 (S i) ∧ Nx P g X w M0 bs s.hp w1 M0' bs' (S i).hp) (let ⟨i, M0', bs', x⟩ := hI; ⟨μ i, i, M0', bs', rfl, x⟩)
  refine wpIn_mono (vc_sound (L := L) hg hX hm c hok (S i) _ (h i hRi) n r n0 M1 bs1 a1 w1 hT hr1) ?_
  rintro e a2 w2 ⟨s', M2, bs2, k, hr2, hn2⟩
  have hK : e ≠ .normal → Post P g X N n0 K w M0 bs s.hp e a2 w2 := fun he => ⟨s', M2, bs2, by cases e <;> first | exact absurd rfl he | exact k, hr2, hn1.trans hn2⟩
  cases e with
  | normal =>
    obtain ⟨j, hRj, hlt, ht⟩ := k
    obtain ⟨bs3, hr3, hn3⟩ := ht n0 w2 M2 bs2 a2 hr2
    have hnx := hn3 w M0 bs s.hp (Nat.le_refl _) (hn1.trans hn2)
    have hj : ∃ i M0' bs', μ i = μ j ∧ R i ∧ Rel P X N n0 w2 M0' bs' a2 (S i) ∧ Nx P g X w M0 bs s.hp w2 M0' bs' (S i).hp := ⟨j, M2, bs3, rfl, hRj, hr3, hnx⟩
    refine ⟨⟨j, M2, bs3, hRj, hr3, hnx⟩, ?_⟩
    have := sInf'_le (fun m => ∃ i M0' bs', μ i = m ∧ R i ∧ Rel P X N n0 w2 M0' bs' a2 (S i) ∧ Nx P g X w M0 bs s.hp w2 M0' bs' (S i).hp) hj
    omega
  | _ => exact hK (by simp)
end
end Go.Am
