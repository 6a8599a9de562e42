/- Part 4 of the proof's base. -/
import Derived.Test.YtnekjoocbfbmaaaGreatK3
set_option linter.all false
namespace Go.Am
open Go.RowKit
structure St where
 e : Env
 hp : List Blk
def keepE : List Nat → Env → Env
 | [], _ => []
 | s :: r, e => match look e s with
  | some x => (s, x) :: keepE r e
  | none => keepE r e
theorem look_keepE : ∀ (L : List Nat) (e : Env) (s : Nat) (x : SL), look (keepE L e) s = some x → look e s = some x
 | [], e, s, x, h => by simp [keepE, look] at h
 | t :: r, e, s, x, h => by
  simp only [keepE] at h
  cases ht : look e t with
  | none => rw [ht] at h; exact look_keepE r e s x h
  | some y =>
   rw [ht] at h
   simp only [look] at h
   split at h
   ·
    rename_i e1; subst e1; rw [ht]; exact h
   ·
    exact look_keepE r e s x h
def envLe : Env → Env → Prop
 | [], _ => True
 | (k, x) :: r, e => look e k = some x ∧ envLe r e
theorem look_envLe : ∀ {e e' : Env}, envLe e e' → ∀ s x, look e s = some x → look e' s = some x
 | [], _, _, s, x, h => by simp [look] at h
 | (k, y) :: r, e', h, s, x, hs => by
  simp only [look] at hs
  split at hs
  ·
   rename_i e1; subst e1; rw [← hs]; exact h.1
  ·
   exact look_envLe h.2 s x hs
def St.le (s' s : St) : Prop := envLe s'.e s.e ∧ s'.hp = s.hp
def markOf (D : Nat) : Deferred := { target := .collected D, args := #[] }
abbrev NB := Nat × List Deferred
def DefOk (n0 : Option NB) (w : World) (M : Nat → Prop) (df : List Deferred) : Prop :=
 match n0 with
 | none => df = []
 | some (n0, B) => n0 ≤ w.heap.size ∧ ∃ Ds : List Nat, df = Ds.map markOf ++ B ∧ Ds.Nodup ∧ ∀ D ∈ Ds, n0 ≤ D ∧ D < w.heap.size ∧ ¬ M D ∧ w.heap[D]? = some (.deferred (some []))
theorem DefOk.evo {n0 : Option NB} {w w' : World} {M M' : Nat → Prop} {df : List Deferred} (h : DefOk n0 w M df) (k : Evo M M' w w') : DefOk n0 w' M' df := by
 cases n0 with
 | none => exact h
 | some nb =>
  obtain ⟨n0, B⟩ := nb
  obtain ⟨h0, Ds, h1, h2, h3⟩ := h
  exact ⟨Nat.le_trans h0 k.size, Ds, h1, h2, fun D hD => by
   obtain ⟨q0, q1, q2, q3⟩ := h3 D hD
   exact ⟨q0, Nat.lt_of_lt_of_le q1 k.size, k.free D q1 q2, by rw [k.block D q1 q2]; exact q3⟩⟩
theorem exists_least (p : Nat → Prop) (h : ∃ n, p n) : ∃ n, p n ∧ ∀ m, p m → n ≤ m := by
 obtain ⟨n, hn⟩ := h
 induction n using Nat.strongRecOn with
 | _ n ih =>
  by_cases hm : ∃ m, m < n ∧ p m
  ·
   obtain ⟨m, h1, h2⟩ := hm
   exact ih m h1 h2
  ·
   exact ⟨n, hn, fun m hp => Classical.byContradiction fun hlt => hm ⟨m, by omega, hp⟩⟩
noncomputable def sInf' (p : Nat → Prop) : Nat := @dite _ (∃ n, p n) (Classical.propDecidable _) (fun h => Classical.choose (exists_least p h)) (fun _ => 0)
theorem sInf'_spec (p : Nat → Prop) (h : ∃ n, p n) : p (sInf' p) ∧ ∀ m, p m → sInf' p ≤ m := by
 unfold sInf'
 rw [dif_pos h]
 exact Classical.choose_spec (exists_least p h)
theorem sInf'_mem (p : Nat → Prop) (h : ∃ n, p n) : p (sInf' p) := (sInf'_spec p h).1
theorem sInf'_le (p : Nat → Prop) {m : Nat} (h : p m) : sInf' p ≤ m := (sInf'_spec p ⟨m, h⟩).2 m h
theorem stepR_scope {P : Program} {b : Frame} {a : Act} {k : List Item} {cs : List Frame} {w : World} {c : Code} : step P (lone (b.atR a (.code (.scope c) :: k)) cs w) = .next (lone (b.atR a (.code c :: .inScope c :: k)) cs w) :=
 step_lone_go (by simp [stepG, stepG.exec, Frame.atR])
theorem stepR_inScope {P : Program} {b : Frame} {a : Act} {k : List Item} {cs : List Frame} {w : World} {c : Code} : step P (lone (b.atR a (.inScope c :: k)) cs w) = .next (lone (b.atR a k) cs w) :=
 step_lone_go (by simp [stepG, stepG.exec, Frame.atR])
def Exit.noGo (Q : Exit → Act → World → Prop) : Exit → Act → World → Prop
 | .goto _, _, _ => False
 | e, a, w => Q e a w
theorem wpIn_scope {F : Fence} {n : Nat} {P : Program} {Q : Exit → Act → World → Prop} {a : Act} {w : World} {c : Code} (h : c.wpIn F n P (Exit.noGo Q) a w) : (Code.scope c).wpIn F n P Q a w := by
 intro b k cs hro hb hr
 have h0 : (lone (b.atR a (.code (.scope c) :: k)) cs w).fenced P F := fenced_calm hb hr rfl
 obtain ⟨e, a₁, w₁, hq, harr⟩ := h b (.inScope c :: k) cs hro hb hr
 cases e with
 | normal => exact ⟨.normal, a₁, w₁, hq, .head h0 stepR_scope (StepsIn.trans harr (.one (fenced_calm hb hr rfl) stepR_inScope))⟩
 | exit id =>
  have hx : exitTo id (.inScope c :: k) = exitTo id k := by simp [exitTo]
  exact ⟨.exit id, a₁, w₁, hq, fun k' hk => .head h0 stepR_scope (harr.1 k' (by rw [hx]; exact hk)),
   fun hr' hk => let ⟨k₁, h1, h2⟩ := harr.2 hr' (by rw [hx]; exact hk); ⟨k₁, h1, .head h0 stepR_scope h2⟩⟩
 | goto l => exact hq.elim
 | ret => exact ⟨_, a₁, w₁, hq, .of_steps (.one h0 stepR_scope) harr⟩
 | panic ch => exact ⟨_, a₁, w₁, hq, .of_steps (.one h0 stepR_scope) harr⟩
 | outgrown => exact ⟨_, a₁, w₁, hq, .of_steps (.one h0 stepR_scope) harr⟩
structure Cfg where
 live : List Nat
 frz : List (Nat × List Nat) := []
 all : List Nat := []
 eps : List (Nat × List Nat) := []
 cut : List Nat := []
 fl : List (Nat × List (Nat × Nat)) := []
 fin : List (Nat × List (Nat × List Nat)) := []
 qy : List Nat := []
def firstReg : Code → Option Nat
 | .region id _ _ => some id
 | .seq x _ => firstReg x
 | _ => none
def isCut (l : List Nat) (x : Code) : Bool := match firstReg x with
 | some id => l.contains id
 | none => false
def frzSlot (k : Nat) (s : St) (K : St → Prop) : Prop :=
 match look s.e k with
 | some ⟨true, .v (.s (.own t id n))⟩ => match Blk.look s.hp id with
  | .arr _ cs => ∃ xs : List t.T, cs = t.flats xs ∧ n = xs.length ∧ K ⟨(k, ⟨true, .v (.s (.sl t xs false))⟩) :: s.e, s.hp.set id .dead⟩
  | _ => False
 | some ⟨true, .v (.s (.pre t id n m))⟩ => match Blk.look s.hp id with
  | .arr _ cs => ∃ xs : List t.T, cs = t.flats xs ∧ n = xs.length ∧ K ⟨(k, ⟨true, .v (.s (.sl t (xs.take m) false))⟩) :: s.e, s.hp.set id .dead⟩
  | _ => False
 | some ⟨true, .v (.s (.box b off))⟩ => match Blk.look s.hp b with
  | .cells bc => match bc[off]? with
   | some (.own t id n) => match Blk.look s.hp id with
    | .arr _ cs => ∃ xs : List t.T, cs = t.flats xs ∧ n = xs.length ∧ K ⟨s.e, (s.hp.set b (.cells (bc.set off (.sl t xs false)))).set id .dead⟩
    | _ => False
   | _ => K s
  | _ => K s
 | _ => K s
def epsSlot (k : Nat) (s : St) (K : St → Prop) : Prop :=
 match look s.e k with
 | some ⟨true, .v (.s (.box b 0))⟩ => match boxCap s.hp b with
  | some c => K ⟨(k, ⟨true, .v (.s (.eptr c.1 c.2))⟩) :: s.e, s.hp.set b .dead⟩
  | none => False
 | _ => K s
def epsSlots : List Nat → St → (St → Prop) → Prop
 | [], s, K => K s
 | k :: r, s, K => epsSlot k s fun s' => epsSlots r s' K
def frzSlots : List Nat → St → (St → Prop) → Prop
 | [], s, K => K s
 | k :: r, s, K => frzSlot k s fun s' => frzSlots r s' K
section
variable {P : Program} {g : G} {X : XT} {N : Nat} {n0 : Option NB} {L : Cfg}
structure Rel (P : Program) (X : XT) (N : Nat) (n0 : Option NB) (w : World) (M0 : Nat → Prop) (bs : Bs) (a : Act) (s : St) : Prop where
 hr : HR w M0 bs s.hp
 xr : XR X w M0 bs s.hp
 env : relEnv w (Mof M0 bs) bs s.hp s.e a
 size : a.tmps.size = N
 df : DefOk n0 w (Mof M0 bs) a.defers
def Post (P : Program) (g : G) (X : XT) (N : Nat) (n0 : Option NB) (K : Exit → St → Prop) (w : World) (M0 : Nat → Prop) (bs : Bs) (hp : List Blk) (e : Exit) (a' : Act) (w' : World) : Prop :=
 ∃ s' M0' bs', K e s' ∧ Rel P X N n0 w' M0' bs' a' s' ∧ Nx P g X w M0 bs hp w' M0' bs' s'.hp
def Wp (P : Program) (g : G) (X : XT) (N : Nat) (c : Code) (s : St) (K : Exit → St → Prop) : Prop :=
 ∀ (n : Nat) (r : Option Nat) (n0 : Option NB) (M0 : Nat → Prop) (bs : Bs) (a : Act) (w : World), (g.top = true → r = none) ∧ n0.isSome = !g.y → Rel P X N n0 w M0 bs a s → c.wpIn (FW r) n P (Post P g X N n0 K w M0 bs s.hp) a w
theorem Wp.mono {c : Code} {s : St} {K K' : Exit → St → Prop} (h : Wp P g X N c s K) (hk : ∀ e s, K e s → K' e s) : Wp P g X N c s K' :=
 fun n r n0 M0 bs a w hT hr => wpIn_mono (h n r n0 M0 bs a w hT hr) fun e a w ⟨s', M0', bs', k, x⟩ => ⟨s', M0', bs', hk _ _ k, x⟩
theorem Rel.le {w : World} {M0 : Nat → Prop} {bs : Bs} {a : Act} {s s' : St} (h : Rel P X N n0 w M0 bs a s) (k : s'.le s) : Rel P X N n0 w M0 bs a s' := by
 obtain ⟨e, hp⟩ := s
 obtain ⟨e', hp'⟩ := s'
 obtain ⟨k1, k2⟩ := k
 simp only at k1 k2
 subst k2
 exact ⟨h.hr, h.xr, fun s x hx => h.env s x (look_envLe k1 s x hx), h.size, h.df⟩
def Turn (P : Program) (g : G) (X : XT) (N : Nat) (s s' : St) : Prop :=
 ∀ (n0 : Option NB) (w : World) (M0 : Nat → Prop) (bs : Bs) (a : Act), Rel P X N n0 w M0 bs a s → ∃ bs', Rel P X N n0 w M0 bs' a s' ∧ Nx P g X w M0 bs s.hp w M0 bs' s'.hp
theorem Turn.le {s s' : St} (h : s'.le s) : Turn P g X N s s' := fun n0 w M0 bs a hr => ⟨bs, hr.le h, by rw [h.2]; exact .refl hr.hr hr.xr⟩
theorem Turn.refl (s : St) : Turn P g X N s s := fun n0 w M0 bs a hr => ⟨bs, hr, .refl hr.hr hr.xr⟩
theorem Turn.trans {s s' s'' : St} (h : Turn P g X N s s') (k : Turn P g X N s' s'') : Turn P g X N s s'' := fun n0 w M0 bs a hr => by
 obtain ⟨bs', h1, h2⟩ := h n0 w M0 bs a hr
 obtain ⟨bs'', k1, k2⟩ := k n0 w M0 bs' a h1
 exact ⟨bs'', k1, h2.trans k2⟩
theorem Turn.virt {s : St} {k : Nat} {t : Ty} {xs : List t.T} (hk : look s.e k = some ⟨true, .v (.s (.sl t xs true))⟩) : Turn P g X N s ⟨(k, ⟨true, .v (.s (.own t s.hp.length xs.length))⟩) :: s.e, s.hp ++ [.arr false (t.flats xs)]⟩ := by
 intro n0 w M0 bs a hr
 obtain ⟨h1, h2⟩ := hr.hr.virt (t.flats xs)
 have hx : XR X w M0 (bs ++ [none]) (s.hp ++ [.arr false (t.flats xs)]) := by
  intro l ys i st ht
  have hin : inBs (bs ++ [none]) = inBs bs := by
   funext b; apply propext
   constructor
   ·
    rintro ⟨id, h⟩
    rw [at_push] at h
    split at h
    ·
     cases h
    ·
     exact ⟨id, h⟩
   ·
    rintro ⟨id, h⟩
    exact ⟨id, by rw [at_push, if_neg (by have := at_lt h; omega)]; exact h⟩
  rw [hin]
  refine hr.xr l ys i st ?_
  rw [look_push] at ht
  split at ht
  ·
   cases ht
  ·
   exact ht
 refine ⟨bs ++ [none], ⟨h1, hx, ?_, hr.size, hr.df.evo h2.evo⟩, ⟨h1, hx, h2.weaken, fun _ => rfl⟩⟩
 intro j x hj
 simp only [look] at hj
 split at hj
 ·
  rename_i e; subst e
  injection hj with hj; subst hj
  refine ⟨fun _ => ?_, by simp⟩
  have hv0 : relSV w (Mof M0 bs) bs s.hp (.sl t xs true) _ := (hr.env _ _ hk).1 rfl
  obtain ⟨ad, c, q1, q2, q3, q4, q5⟩ := relSV_step h2 _ _ hv0
  refine ⟨by simp, fun al cs hl => ?_⟩
  rw [look_push, if_pos rfl] at hl
  injection hl with hl1 hl2
  subst hl2
  refine ⟨by rw [flats_length]; exact Nat.le_refl _, fun _ => .inr ⟨?_, xs, ad, rfl, by omega, rfl, by rw [q1, q4 rfl], q5⟩⟩
  rw [at_push, if_pos hr.hr.len.symm]
 ·
  exact relSL_step h2 _ _ (hr.env _ _ hj)
theorem HR.recell {w : World} {M0 : Nat → Prop} {bs : Bs} {hp : List Blk} (hr : HR w M0 bs hp) {id : Nat} {cs cs' : List SV} (hl : Blk.look hp id = .cells cs) (hlen : cs'.length = cs.length)
  (h : ∀ (j : Nat) (x y : SV) (u : Value), cs[j]? = some x → cs'[j]? = some y → relSV w (Mof M0 bs) bs hp x u → relSV w (Mof M0 bs) bs hp y u) :
  HR w M0 bs (hp.set id (.cells cs')) ∧ Step false w (Mof M0 bs) bs hp w (Mof M0 bs) bs (hp.set id (.cells cs')) := by
 obtain ⟨b, cur, e, h1, h2, h3, h4⟩ := hr.cells id cs hl
 refine hr.rewrite h1 (Evo.refl _ _) (fun _ _ _ => rfl) h2 (.cells cs') ⟨cur, e, rfl, by omega, fun j y hj => ?_⟩ (by rw [hl]; trivial)
 have hj2 := (List.getElem?_eq_some_iff.1 hj).1
 obtain ⟨u, k1, k2, k3⟩ := h4 j cs[j] (List.getElem?_eq_getElem (by omega))
 exact ⟨u, k1, k2, h j _ y u (List.getElem?_eq_getElem (by omega)) hj k3⟩
theorem Turn.virtBox {s : St} {b off : Nat} {bc : List SV} {t : Ty} {xs : List t.T} (hb : Blk.look s.hp b = .cells bc) (ho : bc[off]? = some (.sl t xs true)) :
  Turn P g X N s ⟨s.e, (s.hp ++ [Blk.arr false (t.flats xs)]).set b (.cells (bc.set off (.own t s.hp.length xs.length)))⟩ := by
 intro n0 w M0 bs a hr
 obtain ⟨h1, h2⟩ := hr.hr.virt (t.flats xs)
 have hblt : b < s.hp.length := look_lt (by rw [hb]; simp)
 have hb' : Blk.look (s.hp ++ [Blk.arr false (t.flats xs)]) b = .cells bc := by rw [look_push, if_neg (by omega)]; exact hb
 have hat : Bs.at (bs ++ [none]) s.hp.length = none := by rw [at_push, if_pos hr.hr.len.symm]
 obtain ⟨k1, k2⟩ := h1.recell (cs' := bc.set off (.own t s.hp.length xs.length)) hb' (by simp) (by
  intro j x y u hx hy hrel
  rw [List.getElem?_set] at hy
  split at hy
  ·
   rename_i e; subst e
   rw [ho] at hx; injection hx with hx; subst hx
   split at hy
   ·
    injection hy with hy; subst hy
    obtain ⟨ad, c, q1, q2, q3, q4, q5⟩ := hrel
    refine ⟨by simp, fun al cs hl => ?_⟩
    rw [look_push, if_pos rfl] at hl
    injection hl with hl1 hl2
    subst hl2
    exact ⟨by rw [flats_length]; exact Nat.le_refl _, fun _ => .inr ⟨hat, xs, ad, rfl, by omega, rfl, by rw [q1, q4 rfl], q5⟩⟩
   ·
    cases hy
  ·
   rw [hx] at hy; injection hy with hy; subst hy; exact hrel)
 have hx : XR X w M0 (bs ++ [none]) ((s.hp ++ [Blk.arr false (t.flats xs)]).set b (.cells (bc.set off (.own t s.hp.length xs.length)))) := by
  intro l ys i st ht
  have hin : inBs (bs ++ [none]) = inBs bs := by
   funext b; apply propext
   constructor
   ·
    rintro ⟨id, h⟩
    rw [at_push] at h
    split at h
    ·
     cases h
    ·
     exact ⟨id, h⟩
   ·
    rintro ⟨id, h⟩
    exact ⟨id, by rw [at_push, if_neg (by have := at_lt h; omega)]; exact h⟩
  rw [hin]
  refine hr.xr l ys i st ?_
  rw [look_set b _ 0 (by simp; omega)] at ht
  split at ht
  ·
   cases ht
  ·
   rw [look_push] at ht
   split at ht
   ·
    cases ht
   ·
    exact ht
 have hst := h2.trans k2
 exact ⟨bs ++ [none], ⟨k1, hx, relEnv_step hst hr.env, hr.size, hr.df.evo hst.evo⟩, ⟨k1, hx, hst.weaken, fun _ => rfl⟩⟩
theorem kill_blk (hX : XOk P X) {w : World} {M0 : Nat → Prop} {bs : Bs} {hp : List Blk} (hr : HR w M0 bs hp) (hx : XR X w M0 bs hp) {id : Nat} (hid : id < hp.length) (hnm : ∀ k u es, Blk.look hp id ≠ .map k u es) :
  HR w M0 (bs.set id none) (hp.set id .dead) ∧ XR X w M0 (bs.set id none) (hp.set id .dead) ∧ Step false w (Mof M0 bs) bs hp w (Mof M0 (bs.set id none)) (bs.set id none) (hp.set id .dead) ∧
   (∀ j b, Bs.at (bs.set id none) j = some b → j ≠ id ∧ bs.at j = some b) ∧ Evo (Mof M0 bs) (Mof M0 (bs.set id none)) w w := by
 obtain ⟨h1, h3, h4, h5⟩ := kill_blkH hr hid hnm
 refine ⟨h1, ?_, h3, h4, h5⟩
 intro l ys i st h
 have hl : Blk.look hp 0 = .trace l ys i st := by
  rw [look_set id _ 0 hid] at h
  split at h
  ·
   cases h
  ·
   exact h
 exact hX.stable (hx l ys i st hl) rfl rfl rfl (Nat.le_refl _) (Nat.le_refl _) (fun _ _ _ => rfl) (fun b _ hn ⟨j, hj⟩ => hn ⟨j, (h4 j b hj).2⟩) (fun b ⟨j, hj⟩ => hr.lt j b (h4 j b hj).2)
theorem freeze_blk (hX : XOk P X) {w : World} {M0 : Nat → Prop} {bs : Bs} {hp : List Blk} (hr : HR w M0 bs hp) (hx : XR X w M0 bs hp) {id : Nat} {al : Bool} {t : Ty} {xs : List t.T} (hl : Blk.look hp id = .arr al (t.flats xs)) :
  HR w M0 (bs.set id none) (hp.set id .dead) ∧ XR X w M0 (bs.set id none) (hp.set id .dead) ∧ Step false w (Mof M0 bs) bs hp w (Mof M0 (bs.set id none)) (bs.set id none) (hp.set id .dead) ∧
   ∀ v, relSV w (Mof M0 bs) bs hp (.own t id xs.length) v → relSV w (Mof M0 (bs.set id none)) (bs.set id none) (hp.set id .dead) (.sl t xs false) v := by
 obtain ⟨h1, h2, h3⟩ := freeze_blkH hr hl
 exact ⟨h1, (kill_blk hX hr hx (look_lt (by rw [hl]; simp)) (by rw [hl]; intro _ _ _ h; cases h)).2.1, h2, h3⟩
theorem freeze_box (hX : XOk P X) {w : World} {M0 : Nat → Prop} {bs : Bs} {hp : List Blk} (hr : HR w M0 bs hp) (hx : XR X w M0 bs hp) {id : Nat} {c : Sigma Ty.T} (hc : boxCap hp id = some c) :
  HR w M0 (bs.set id none) (hp.set id .dead) ∧ XR X w M0 (bs.set id none) (hp.set id .dead) ∧ Step false w (Mof M0 bs) bs hp w (Mof M0 (bs.set id none)) (bs.set id none) (hp.set id .dead) ∧
   ∀ v, relSV w (Mof M0 bs) bs hp (.box id 0) v → relSV w (Mof M0 (bs.set id none)) (bs.set id none) (hp.set id .dead) (.eptr c.1 c.2) v := by
 obtain ⟨cs, hl⟩ := boxCap_cells hc
 have hid : id < hp.length := look_lt (by rw [hl]; simp)
 obtain ⟨g1, g2, g3, hat', he⟩ := kill_blk hX hr hx hid (by rw [hl]; intro _ _ _ h; cases h)
 refine ⟨g1, g2, g3, fun v hv => ?_⟩
 obtain ⟨b, hb, rfl⟩ := hv.2 cs hl
 exact boxCap_sound hr hb hc (fun b hb => by
  rcases hb with hb | ⟨j, hb⟩
  ·
   exact .inl hb
  ·
   exact .inr ⟨j, (hat' j b hb).2⟩) (fun hb' => by
  rcases hb' with hb' | ⟨j, hb'⟩
  ·
   exact hr.out id b hb hb'
  ·
   obtain ⟨hne, h⟩ := hat' j b hb'
   exact hne (hr.inj j id b h hb))
theorem epsSlot_sound (hX : XOk P X) {s : St} {k : Nat} {K : St → Prop} (h : epsSlot k s K) : ∃ s', Turn P g X N s s' ∧ K s' := by
 unfold epsSlot at h
 split at h
 ·
  rename_i b hk
  split at h
  ·
   rename_i c hc
   refine ⟨_, fun n0 w M0 bs a hr => ?_, h⟩
   obtain ⟨k1, k2, k3, k4⟩ := freeze_box hX hr.hr hr.xr hc
   refine ⟨_, ⟨k1, k2, fun j x hj => ?_, hr.size, hr.df.evo k3.evo⟩, ⟨k1, k2, k3.weaken, fun _ => rfl⟩⟩
   simp only [look] at hj
   split at hj
   ·
    rename_i e; subst e
    injection hj with hj; subst hj
    exact ⟨fun _ => k4 _ ((hr.env _ _ hk).1 rfl), by simp⟩
   ·
    exact relSL_step k3 _ _ (hr.env _ _ hj)
  ·
   exact h.elim
 ·
  exact ⟨s, .refl s, h⟩
theorem epsSlots_sound (hX : XOk P X) : ∀ (l : List Nat) {s : St} {K : St → Prop}, epsSlots l s K → ∃ s', Turn P g X N s s' ∧ K s'
 | [], s, K, h => ⟨s, .refl s, h⟩
 | k :: l, s, K, h => by
  obtain ⟨s1, h1, h2⟩ := epsSlot_sound (P := P) (g := g) (X := X) (N := N) hX h
  obtain ⟨s2, k1, k2⟩ := epsSlots_sound hX l h2
  exact ⟨s2, h1.trans k1, k2⟩
theorem freeze_pre (hX : XOk P X) {w : World} {M0 : Nat → Prop} {bs : Bs} {hp : List Blk} (hr : HR w M0 bs hp) (hx : XR X w M0 bs hp) {id m : Nat} {al : Bool} {t : Ty} {xs : List t.T} (hl : Blk.look hp id = .arr al (t.flats xs)) :
  HR w M0 (bs.set id none) (hp.set id .dead) ∧ XR X w M0 (bs.set id none) (hp.set id .dead) ∧ Step false w (Mof M0 bs) bs hp w (Mof M0 (bs.set id none)) (bs.set id none) (hp.set id .dead) ∧
   ∀ v, relSV w (Mof M0 bs) bs hp (.pre t id xs.length m) v → relSV w (Mof M0 (bs.set id none)) (bs.set id none) (hp.set id .dead) (.sl t (xs.take m) false) v := by
 obtain ⟨h1, h2, h3, h4⟩ := freeze_blk hX hr hx hl
 refine ⟨h1, h2, h3, fun v hv => ?_⟩
 obtain ⟨g1, g2, g3⟩ := hv
 obtain ⟨b, cap, k1, rfl, k3, k4⟩ := (g3 _ _ hl).2 (flats_length t xs)
 obtain ⟨a, c, e1, e2, e3, _, e5⟩ := h4 (.slice (some ⟨b, 0, none⟩) xs.length cap) ⟨g1, fun al' cs' hl' => ⟨(g3 _ _ hl').1, fun hn => .inl ⟨b, cap, k1, rfl, k3, k4⟩⟩⟩
 injection e1 with e1 e1' e1''
 subst e1 e1''
 have hm : (xs.take m).length = m := by rw [List.length_take]; omega
 refine ⟨_, cap, by rw [hm], by omega, e3, by simp, ?_⟩
 have := RowAt_cut e5 0 m (some ⟨b, 0, none⟩) (fun _ => by simp [addr_add]) (by omega) (by omega)
 simpa using this
theorem frzSlot_sound (hX : XOk P X) {s : St} {k : Nat} {K : St → Prop} (h : frzSlot k s K) : ∃ s', Turn P g X N s s' ∧ K s' := by
 unfold frzSlot at h
 split at h
 ·
  rename_i t id n hk
  split at h
  ·
   rename_i al cs hl
   obtain ⟨xs, rfl, rfl, hK⟩ := h
   refine ⟨_, fun n0 w M0 bs a hr => ?_, hK⟩
   obtain ⟨k1, k2, k3, k4⟩ := freeze_blk hX hr.hr hr.xr hl
   refine ⟨_, ⟨k1, k2, fun j x hj => ?_, hr.size, hr.df.evo k3.evo⟩, ⟨k1, k2, k3.weaken, fun _ => rfl⟩⟩
   simp only [look] at hj
   split at hj
   ·
    rename_i e; subst e
    injection hj with hj; subst hj
    exact ⟨fun _ => k4 _ ((hr.env _ _ hk).1 rfl), by simp⟩
   ·
    exact relSL_step k3 _ _ (hr.env _ _ hj)
  ·
   exact h.elim
 ·
  rename_i t id n m hk
  split at h
  ·
   rename_i al cs hl
   obtain ⟨xs, rfl, rfl, hK⟩ := h
   refine ⟨_, fun n0 w M0 bs a hr => ?_, hK⟩
   obtain ⟨k1, k2, k3, k4⟩ := freeze_pre (m := m) hX hr.hr hr.xr hl
   refine ⟨_, ⟨k1, k2, fun j x hj => ?_, hr.size, hr.df.evo k3.evo⟩, ⟨k1, k2, k3.weaken, fun _ => rfl⟩⟩
   simp only [look] at hj
   split at hj
   ·
    rename_i e; subst e
    injection hj with hj; subst hj
    exact ⟨fun _ => k4 _ ((hr.env _ _ hk).1 rfl), by simp⟩
   ·
    exact relSL_step k3 _ _ (hr.env _ _ hj)
  ·
   exact h.elim
 ·
  rename_i b off hk
  split at h
  ·
   rename_i bc hb
   split at h
   ·
    rename_i t id n ho
    split at h
    ·
     rename_i al cs hl
     obtain ⟨xs, rfl, rfl, hK⟩ := h
     refine ⟨_, fun n0 w M0 bs a hr => ?_, hK⟩
     have hne : b ≠ id := fun e => by subst e; rw [hb] at hl; cases hl
     have hidl : id < s.hp.length := look_lt (by rw [hl]; simp)
     have hbl : b < s.hp.length := look_lt (by rw [hb]; simp)
     obtain ⟨k1, k2, k3, k4⟩ := freeze_blk hX hr.hr hr.xr hl
     have hb' : Blk.look (s.hp.set id .dead) b = .cells bc := by rw [look_set id _ b hidl, if_neg hne]; exact hb
     obtain ⟨bb, cur, e, c1, c2, c3, c4⟩ := hr.hr.cells b bc hb
     obtain ⟨u0, u1, u2, u3⟩ := c4 off _ ho
     have hu := k4 _ u3
     obtain ⟨j1, j2⟩ := k1.rewrite (id := b) (b := bb) (by rw [at_set id _ b (by rw [hr.hr.len]; exact hidl), if_neg hne]; exact c1) (Evo.refl _ _) (fun _ _ _ => rfl) c2 (.cells (bc.set off (.sl t xs false)))
      ⟨cur, e, rfl, by simp; omega, fun j y hj => by
       rw [List.getElem?_set] at hj
       split at hj
       ·
        rename_i e; subst e
        split at hj
        ·
         injection hj with hj; subst hj; exact ⟨u0, u1, u2, hu⟩
        ·
         cases hj
       ·
        obtain ⟨u, q1, q2, q3⟩ := c4 j y hj
        exact ⟨u, q1, q2, relSV_step k3 _ _ q3⟩⟩ (by rw [hb']; trivial)
     have hcomm : (s.hp.set id .dead).set b (.cells (bc.set off (.sl t xs false))) = (s.hp.set b (.cells (bc.set off (.sl t xs false)))).set id .dead := by
      rw [List.set_comm _ _ hne.symm]
     rw [hcomm] at j1 j2
     have hst := k3.trans j2
     have hx : XR X w M0 (bs.set id none) ((s.hp.set b (.cells (bc.set off (.sl t xs false)))).set id .dead) := fun l ys i st ht => k2 l ys i st ((j2.only rfl).tr 0 l ys i st ht)
     exact ⟨_, ⟨j1, hx, relEnv_step hst hr.env, hr.size, hr.df.evo hst.evo⟩, ⟨j1, hx, hst.weaken, fun _ => rfl⟩⟩
    ·
     exact h.elim
   ·
    exact ⟨s, .refl s, h⟩
  ·
   exact ⟨s, .refl s, h⟩
 ·
  exact ⟨s, .refl s, h⟩
theorem frzSlots_sound (hX : XOk P X) : ∀ (l : List Nat) {s : St} {K : St → Prop}, frzSlots l s K → ∃ s', Turn P g X N s s' ∧ K s'
 | [], s, K, h => ⟨s, .refl s, h⟩
 | k :: l, s, K, h => by
  obtain ⟨s1, h1, h2⟩ := frzSlot_sound (P := P) (g := g) (X := X) (N := N) hX h
  obtain ⟨s2, k1, k2⟩ := frzSlots_sound hX l h2
  exact ⟨s2, h1.trans k1, k2⟩
theorem Wp.turn {c : Code} {s s' : St} {K : Exit → St → Prop} (ht : Turn P g X N s s') (h : Wp P g X N c s' K) : Wp P g X N c s K := fun n r n0 M0 bs a w hT hr => by
 obtain ⟨bs', h1, h2⟩ := ht n0 w M0 bs a hr
 exact wpIn_mono (h n r n0 M0 bs' a w hT h1) fun e a w ⟨s'', M0', bs'', k, x, y⟩ => ⟨s'', M0', bs'', k, x, h2.trans y⟩
def thenK (K1 : St → Prop) (K : Exit → St → Prop) : Exit → St → Prop
 | .normal, s => K1 s
 | e, s => K e s
def inBlockK (id : Nat) (K : Exit → St → Prop) : Exit → St → Prop
 | .exit id', s => if id' = id then K .normal s else K (.exit id') s
 | e, s => K e s
def noGotoK (K : Exit → St → Prop) : Exit → St → Prop
 | .goto _, _ => False
 | e, s => K e s
def vcCond (x : SL) (A B : Prop) : Prop :=
 match x with
 | ⟨true, .v (.s (.bool b))⟩ => (b = true → A) ∧ (b = false → B)
 | ⟨true, .v (.s (.ib p q))⟩ => (p → A) ∧ (q → B)
 | _ => False
def flOf (g : G) (fl : List (Nat × List (Nat × Nat))) (id : Nat) (ops : List Oper) (s : St) : Prop := match look fl id with
 | some ps => vcFl g ops ps ops s.e s.hp []
 | none => True
def panOf (g : G) (e : Env) (o : Oper) : Option (Prop × Value) := match o.guard with
 | some _ => none
 | none => match o.op with
  | .panic x => match opRV e x with
   | .v (.s (.val (.iface t u))) => some (True, .iface t u)
   | _ => none
  | .call { callee := .value (.func f), args := xs, argTypes := ts } => match look g.Pn f with
   | some c => some (c.when (argsEv g e xs.toList ts.toList) ∧ (argsEv g e xs.toList ts.toList).all AV.pure = true, c.what (argsEv g e xs.toList ts.toList))
   | none => none
  | _ => none
def vcFr (g : G) (ops : List Oper) (fr : List (Nat × List Nat)) : Nat → List Oper → St → (St → Prop) → (Value → St → Prop) → Prop
 | _, [], s, K, _ => K s
 | i, o :: r, s, K, KP => frzSlots ((look fr i).getD []) s fun s => match panOf g s.e o with
  | none => vcOps g ops [o] s.e s.hp fun e hp => vcFr g ops fr (i + 1) r ⟨e, hp⟩ K KP
  | some (p, v) => okOps s.e o.op ∧ (p → KP v s) ∧ (¬ p → vcOps g ops [o] s.e s.hp fun e hp => vcFr g ops fr (i + 1) r ⟨e, hp⟩ K KP)
def vc (P : Program) (g : G) (X : XT) (N : Nat) (L : Cfg) : Code → St → (Exit → St → Prop) → Prop
 | .skip, s, K => K .normal s
 | .label _, s, K => K .normal s
 | .region id ops dr, s, K => frzSlots ((look L.frz id).getD []) s fun s => epsSlots ((look L.eps id).getD []) s fun s => match dr && L.all.contains id with
  | true => vcAll g ops.toList ops.toList.length [] s.e s.hp fun e hp => K .normal ⟨keepE L.live e, hp⟩
  | false => match look L.fin id with
   | some fr => vcFr g ops.toList fr 0 ops.toList s (fun s => K .normal ⟨keepE L.live s.e, s.hp⟩) fun v s => K (.panic [{ v := v, recovered := false }]) ⟨keepE L.live s.e, s.hp⟩
   | none => match L.qy.contains id with
    | true => (vcOps g.quiet ops.toList ops.toList s.e s.hp fun e hp => K .normal ⟨keepE L.live e, hp⟩) ∧ flOf g.quiet L.fl id ops.toList s
    | false => (vcOps g ops.toList ops.toList s.e s.hp fun e hp => K .normal ⟨keepE L.live e, hp⟩) ∧ flOf g L.fl id ops.toList s
 | .seq x y, s, K => match isCut L.cut x with
  | true => Wp P g X N (.seq x y) s K
  | false => vc P g X N L x s (thenK (fun s' => vc P g X N L y s' K) K)
 | .cond c x y, s, K => vcCond (oper s.e c) (vc P g X N L x s K) (vc P g X N L y s K)
 | .block id c, s, K => vc P g X N L c s (inBlockK id K)
 | .scope c, s, K => vc P g X N L c s (noGotoK K)
 | .exit id, s, K => K (.exit id) s
 | .goto l, s, K => K (.goto l) s
 | .ret, s, K => K .ret s
 | c, s, K => Wp P g X N c s K
def codeOk' (L : Cfg) (y : Bool × List FuncId) (N : Nat) : Code → Bool
 | .region id ops draw => if draw && L.all.contains id then dstOk N ops.toList else if (look L.fin id).isSome then !draw && dstOk N ops.toList else match L.qy.contains id with
  | true => (match draw, look L.fl id with
   | true, some ps => regionFl (false, y.2) N ops.toList ps
   | _, _ => regionOk (false, y.2) N ops.toList draw)
  | false => match draw, look L.fl id with
   | true, some ps => regionFl y N ops.toList ps
   | _, _ => regionOk y N ops.toList draw
 | .seq a b => codeOk' L y N a && codeOk' L y N b
 | .cond _ a b => codeOk' L y N a && codeOk' L y N b
 | .block _ c => codeOk' L y N c
 | .scope c => codeOk' L y N c
 | .loop c => codeOk' L y N c
 | .rangeFunc _ _ a b => codeOk' L y N a && codeOk' L y N b
 | _ => true
theorem Post.of_refl {w : World} {M0 : Nat → Prop} {bs : Bs} {a : Act} {s : St} {K : Exit → St → Prop} {e : Exit} (h : Rel P X N n0 w M0 bs a s) (k : K e s) : Post P g X N n0 K w M0 bs s.hp e a w :=
 ⟨s, M0, bs, k, h, .refl h.hr h.xr⟩
theorem pan_wp (hg : g.good P) {n : Nat} {r : Option Nat} {Q : Exit → Act → World → Prop} {Kn : Act → World → Prop} (o : Oper) {e : Env} {hp : List Blk} {bs : Bs} {a : Act} {w : World} {M0 : Nat → Prop} {p : Prop} {v : Value}
  (hpo : panOf g e o = some (p, v)) (hok : okOps e o.op) (hp' : p) (hr : HR w M0 bs hp) (he : relEnv w (Mof M0 bs) bs hp e a)
  (hQ : ∀ w', HR w' M0 bs hp → Step false w (Mof M0 bs) bs hp w' (Mof M0 bs) bs hp → Q (.panic [{ v := v, recovered := false }]) a w') : o.guard = none ∧ o.wpIn (FW r) n P a w Kn Q := by
 unfold panOf at hpo
 split at hpo
 ·
  cases hpo
 ·
  rename_i hgd
  refine ⟨hgd, ?_⟩
  obtain ⟨dst, op, t, pos, after, guard⟩ := o
  simp only at hok hpo hgd
  split at hpo
  ·
   rename_i x
   split at hpo
   ·
    rename_i ti u hx
    injection hpo with hpo
    injection hpo with _ hv
    have hxo : (oper e x).ok = true := allOk_mem (e := e) (l := [x]) (by simpa [okOps, Op.operands] using hok) x (by simp)
    have hrel := oper_rel he x hxo
    rw [hx] at hrel
    have hv2 : a.eval x = .iface ti u := hrel
    refine ⟨fun f _ => trivial, ?_⟩
    rw [Oper.semAt_eq _ _ _ (by simp)]
    have hrun : (execOp a.eval { dst := dst, op := .panic x, type := t, pos := pos, after := after, guard := guard }).run P w = .halt (.panic (.iface ti u)) w := by
     simp [execOp, hv2, Instr.panic, goPanic, Sem.run_bind]
    rw [hrun]
    rw [← hv] at hQ
    exact hQ w hr (Step.refl _ _ _ _)
   ·
    cases hpo
  ·
   rename_i f xs ts
   split at hpo
   ·
    rename_i c hc
    injection hpo with hpo
    injection hpo with hp1 hv
    subst hp1
    subst hv
    obtain ⟨hent, hcon⟩ := hg.2.2.2 f c hc
    have hall := okOps_all (by simp) hok
    have hargs := args_rel hg.1 xs.toList ts.toList (fun x hx => oper_rel he x (hall x (by simp [Op.operands, Call.operands]; exact .inr (by simpa using hx))))
    refine ⟨fun f _ => trivial, ?_⟩
    rw [Oper.semAt_eq _ _ _ (by simp)]
    have hrun : (execOp a.eval { dst := dst, op := .call { callee := .value (.func f), args := xs, argTypes := ts }, type := t, pos := pos, after := after, guard := guard }).run P w = .ok (.enter f (xs.toList.map a.eval).toArray) w := by
     have := hent (xs.toList.map a.eval).toArray w
     simp only [execOp, resolve, Act.eval, Deferred.ofValue, Sem.run_bind, Sem.run_pure, Result.andThen_ok, invoke, map_arr]
     simpa using this
    rw [hrun]
    refine ⟨fun hd => by simp [FW] at hd, callsIn_FW ((hcon w (Mof M0 bs) _ _ hp'.1 ?_ (all2_pure hp'.2 hargs)).mono ?_)⟩
    ·
     intro b hb
     rcases hb with hb | ⟨id, hb⟩
     ·
      exact hr.m0 b hb
     ·
      exact hr.lt id b hb
    ·
     rintro e1 w' ⟨rfl, hbel, hdr⟩
     obtain ⟨k1, k2⟩ := hr.keep (Evo.of_below hbel hdr) (fun id b hb => hbel.block b (hr.lt id b hb)) (fun b hb _ => hbel.block b hb)
     exact hQ w' k1 k2
   ·
    cases hpo
  ·
   cases hpo
theorem vcFr_sound (hg : g.good P) (hX : XOk P X) {n : Nat} {r : Option Nat} {Q : Exit → Act → World → Prop} (ops : Array Oper) (fr : List (Nat × List Nat)) (n0 : Option NB) :
  ∀ (l : List Oper) (i : Nat) (s : St) (K : St → Prop) (KP : Value → St → Prop) (M0 : Nat → Prop) (bs : Bs) (a : Act) (w : World), (∀ o ∈ l, ∀ d, o.dst = some d → d < N) → vcFr g ops.toList fr i l s K KP → Rel P X N n0 w M0 bs a s →
  (∀ s' M0' bs' a' w', K s' → Nx P g X w M0 bs s.hp w' M0' bs' s'.hp → Rel P X N n0 w' M0' bs' a' s' → a'.defers = a.defers → Q .normal a' w') →
  (∀ v s' M0' bs' a' w', KP v s' → Nx P g X w M0 bs s.hp w' M0' bs' s'.hp → Rel P X N n0 w' M0' bs' a' s' → a'.defers = a.defers → Q (.panic [{ v := v, recovered := false }]) a' w') → wpListIn (FW r) n P ops Q l a w := by
 intro l
 induction l with
 | nil => intro i s K KP M0 bs a w _ h hr hQ _; exact hQ s M0 bs a w h (.refl hr.hr hr.xr) hr rfl
 | cons o l ih =>
  intro i s K KP M0 bs a w hdst h hr hQ hQP
  obtain ⟨s1, ht, hv⟩ := frzSlots_sound (P := P) (g := g) (X := X) (N := N) hX _ h
  obtain ⟨bs1, hr1, hn1⟩ := ht n0 w M0 bs a hr
  have go : (vcOps g ops.toList [o] s1.e s1.hp fun e hp => vcFr g ops.toList fr (i + 1) l ⟨e, hp⟩ K KP) → wpListIn (FW r) n P ops Q (o :: l) a w := by
   intro hv
   refine vcOps_step hg hX ops o [] s1.e s1.hp bs1 a w hv hr1.hr hr1.xr hr1.env _ ?_
   intro x z hp' M0' bs' w' hx hst hv
   refine ih (i + 1) ⟨putE o.dst x s1.e, hp'⟩ K KP M0' bs' _ w' (fun o' ho' => hdst o' (by simp [ho'])) hv ⟨hst.hr, hst.xr, ?_, by rw [put_eval]; exact hr1.size, by rw [put_defers]; exact hr1.df.evo hst.st.evo⟩ ?_ ?_
   ·
    exact relEnv_put (relEnv_step hst.st hr1.env) o.dst x z hx (fun d hd => by rw [hr1.size]; exact hdst o (by simp) d hd)
   ·
    intro s' M0'' bs'' a' w'' hk hn hr' hdf
    exact hQ s' M0'' bs'' a' w'' hk ((hn1.trans hst).trans hn) hr' (by rw [hdf, put_defers])
   ·
    intro v s' M0'' bs'' a' w'' hk hn hr' hdf
    exact hQP v s' M0'' bs'' a' w'' hk ((hn1.trans hst).trans hn) hr' (by rw [hdf, put_defers])
  cases hpo : panOf g s1.e o with
  | none => rw [hpo] at hv; exact go hv
  | some pv =>
   obtain ⟨p, v⟩ := pv
   rw [hpo] at hv
   obtain ⟨hok, h1, h2⟩ := hv
   by_cases hp : p
   ·
    obtain ⟨k1, k2⟩ := pan_wp (r := r) (n := n) (Q := Q) (Kn := wpListIn (FW r) n P ops Q l) hg o hpo hok hp hr1.hr hr1.env (fun w' q1 q2 => by
     refine hQP v s1 M0 bs1 a w' (h1 hp) (hn1.trans ?_) ⟨q1, hr1.xr.step hX q2 q1.lt, relEnv_step q2 hr1.env, hr1.size, hr1.df.evo q2.evo⟩ rfl
     exact .of_step hX hr1.xr q1 q2)
    show ite _ _ _
    rw [if_pos (by simp [Region.wanted, k1])]
    exact k2
   ·
    exact go (h2 hp)
theorem vc_region (hg : g.good P) (hX : XOk P X) (hm : P.follows .mixedOrders = true) (id : Nat) (ops : Array Oper) (draw : Bool) (hok : codeOk' L g.ye N (.region id ops draw) = true) (s : St) (K : Exit → St → Prop)
  (h : vc P g X N L (.region id ops draw) s K) (n : Nat) (r : Option Nat) (n0 : Option NB) (M0 : Nat → Prop) (bs : Bs) (a : Act) (w : World) (hT : (g.top = true → r = none) ∧ n0.isSome = !g.y) (hr : Rel P X N n0 w M0 bs a s) :
  (Code.region id ops draw).wpIn (FW r) n P (fun e a' w' => Post P g X N n0 K w M0 bs s.hp e a' w' ∧ a'.defers = a.defers) a w := by
 obtain ⟨s0, hturn0, hv0⟩ := frzSlots_sound (P := P) (g := g) (X := X) (N := N) hX _ h
 clear h
 obtain ⟨s1, hturn1, hv⟩ := epsSlots_sound (P := P) (g := g) (X := X) (N := N) hX _ hv0
 clear hv0
 obtain ⟨bs', hr', hnx'⟩ := (hturn0.trans hturn1) n0 w M0 bs a hr
 refine wpIn_mono (Q := fun e a' w' => Post P g X N n0 K w M0 bs' s1.hp e a' w' ∧ a'.defers = a.defers) ?_ fun e a w ⟨⟨s'', M0', bs'', k, x, y⟩, z⟩ => ⟨⟨s'', M0', bs'', k, x, hnx'.trans y⟩, z⟩
 clear hr hnx'
 have hr := hr'
 clear hr'
 revert hr
 generalize bs' = bs
 intro hr
 have hbeh : Behind P g X M0 N (fun e a' w' => Post P g X N n0 K w M0 bs s1.hp e a' w' ∧ a'.defers = a.defers) (fun e hp => K .normal ⟨keepE L.live e, hp⟩) w bs s1.hp a.defers := by
  intro e' hp' M0' bs' a' w' hk hn he hN hdf
  exact ⟨⟨⟨keepE L.live e', hp'⟩, M0', bs', hk, ⟨hn.hr, hn.xr, fun t x hx => he t x (look_keepE L.live e' t x hx), hN, by rw [hdf]; exact hr.df.evo hn.st.evo⟩, hn⟩, hdf⟩
 simp only [codeOk'] at hok
 cases hal : draw && L.all.contains id with
 | true =>
  rw [hal] at hv hok
  simp only [if_true] at hok
  simp only [Bool.and_eq_true] at hal
  obtain ⟨rfl, _⟩ := hal
  exact region_all hg hX hm id ops hok s1.e s1.hp bs a w hv hr.hr hr.xr hr.env hr.size hbeh
 | false =>
  rw [hal] at hv hok
  simp only [Bool.false_eq_true, if_false] at hok
  cases hfin : look L.fin id with
  | some fr =>
   rw [hfin] at hv hok
   simp only [Option.isSome_some, if_true, Bool.and_eq_true, Bool.not_eq_true'] at hok
   obtain ⟨rfl, hd⟩ := hok
   simp only [dstOk, List.all_eq_true] at hd
   refine wpIn_region_list (vcFr_sound hg hX ops fr n0 ops.toList 0 s1 _ _ M0 bs a w (fun o ho d hod => ?_) hv hr (fun s' M0' bs' a' w' hk hn hr' hdf => ⟨⟨⟨keepE L.live s'.e, s'.hp⟩, M0', bs', hk, ⟨hr'.hr, hr'.xr, fun t x hx => hr'.env t x (look_keepE L.live s'.e t x hx), hr'.size, hr'.df⟩, hn⟩, hdf⟩) fun v s' M0' bs' a' w' hk hn hr' hdf => ⟨⟨⟨keepE L.live s'.e, s'.hp⟩, M0', bs', hk, ⟨hr'.hr, hr'.xr, fun t x hx => hr'.env t x (look_keepE L.live s'.e t x hx), hr'.size, hr'.df⟩, hn⟩, hdf⟩)
   have := hd o ho
   rw [hod] at this
   simpa using this
  | none =>
  rw [hfin] at hv hok
  simp only [Option.isSome_none, Bool.false_eq_true, if_false] at hok
  cases hqy : L.qy.contains id with
  | false =>
   rw [hqy] at hv hok
   simp only at hv hok
   obtain ⟨hv, hfl⟩ := hv
   split at hok
   ·
    rename_i ps heq
    unfold flOf at hfl
    rw [heq] at hfl
    exact region_float hg hX hm id ops ps hok s1.e s1.hp bs a w hv hfl hr.hr hr.xr hr.env hr.size hbeh
   ·
    exact region_sound hg hX hm id ops _ hok s1.e s1.hp bs a w hv hr.hr hr.xr hr.env hr.size hbeh
  | true =>
   rw [hqy] at hv hok
   simp only at hv hok
   have hgq : g.quiet.good P := hg
   have hbq : Behind P g.quiet X M0 N (fun e a' w' => Post P g X N n0 K w M0 bs s1.hp e a' w' ∧ a'.defers = a.defers) (fun e hp => K .normal ⟨keepE L.live e, hp⟩) w bs s1.hp a.defers := by
    intro e' hp' M0' bs' a' w' hk hn he hN hdf
    exact hbeh e' hp' M0' bs' a' w' hk ⟨hn.hr, hn.xr, hn.st.weaken, fun _ => hn.eq rfl⟩ he hN hdf
   obtain ⟨hv, hfl⟩ := hv
   split at hok
   ·
    rename_i ps heq
    unfold flOf at hfl
    rw [heq] at hfl
    exact region_float hgq hX hm id ops ps hok s1.e s1.hp bs a w hv hfl hr.hr hr.xr hr.env hr.size hbq
   ·
    exact region_sound hgq hX hm id ops _ hok s1.e s1.hp bs a w hv hr.hr hr.xr hr.env hr.size hbq
theorem vc_sound (hg : g.good P) (hX : XOk P X) (hm : P.follows .mixedOrders = true) : ∀ (c : Code), codeOk' L g.ye N c = true → ∀ (s : St) (K : Exit → St → Prop), vc P g X N L c s K → Wp P g X N c s K := by
 intro c
 induction c with
 | skip => intro _ s K h n r n0 M0 bs a w hT hr; exact wpIn_skip (.of_refl hr h)
 | label l => intro _ s K h n r n0 M0 bs a w hT hr; exact wpIn_label (.of_refl hr h)
 | exit id => intro _ s K h n r n0 M0 bs a w hT hr; exact wpIn_exit (.of_refl hr h)
 | goto l => intro _ s K h n r n0 M0 bs a w hT hr; exact wpIn_goto (.of_refl hr h)
 | ret => intro _ s K h n r n0 M0 bs a w hT hr; exact wpIn_ret (.of_refl hr h)
 | region id ops draw =>
  intro hok s K h n r n0 M0 bs a w hT hr
  exact wpIn_mono (vc_region hg hX hm id ops draw hok s K h n r n0 M0 bs a w hT hr) fun e a w h => h.1
 | seq x y ihx ihy =>
  intro hok s K h
  cases hcut : isCut L.cut x with
  | true => simp only [vc, hcut] at h; exact h
  | false =>
  simp only [vc, hcut] at h
  intro n r n0 M0 bs a w hT hr
  simp only [codeOk', Bool.and_eq_true] at hok
  refine wpIn_seq (wpIn_mono (ihx hok.1 s _ h n r n0 M0 bs a w hT hr) ?_)
  rintro e a' w' ⟨s', M0', bs', k, hr', hn⟩
  have hK : e ≠ .normal → Post P g X N n0 K w M0 bs s.hp e a' w' := fun he => ⟨s', M0', bs', by cases e <;> first | exact absurd rfl he | exact k, hr', hn⟩
  cases e with
  | normal => exact wpIn_mono (ihy hok.2 s' K k n r n0 M0' bs' a' w' hT hr') fun e a w ⟨s'', M0'', bs'', k, x, y⟩ => ⟨s'', M0'', bs'', k, x, hn.trans y⟩
  | _ => exact hK (by simp)
 | cond c x y ihx ihy =>
  intro hok s K h n r n0 M0 bs a w hT hr
  simp only [codeOk', Bool.and_eq_true] at hok
  simp only [vc] at h
  have ho := oper_rel hr.env c
  unfold opRV at ho
  generalize oper s.e c = z at h ho
  obtain ⟨ok, v⟩ := z
  unfold vcCond at h
  split at h
  ·
   rename_i b heq
   injection heq with e1 e2
   subst e1; subst e2
   obtain ⟨h1, h2⟩ := h
   have hb : a.eval c = .bool b := ho rfl
   refine wpIn_cond_split hb (fun hb => ?_) (fun hb => ?_)
   ·
    exact ihx hok.1 s K (h1 hb) n r n0 M0 bs a w hT hr
   ·
    exact ihy hok.2 s K (h2 hb) n r n0 M0 bs a w hT hr
  ·
   rename_i p q heq
   injection heq with e1 e2
   subst e1; subst e2
   obtain ⟨h1, h2⟩ := h
   obtain ⟨b, hb, k1, k2⟩ : ∃ b, a.eval c = .bool b ∧ (b = true → p) ∧ (b = false → q) := ho rfl
   refine wpIn_cond_split hb (fun hb => ?_) (fun hb => ?_)
   ·
    exact ihx hok.1 s K (h1 (k1 hb)) n r n0 M0 bs a w hT hr
   ·
    exact ihy hok.2 s K (h2 (k2 hb)) n r n0 M0 bs a w hT hr
  ·
   exact h.elim
 | block id c ih =>
  intro hok s K h n r n0 M0 bs a w hT hr
  refine wpIn_block (wpIn_mono (ih hok s _ h n r n0 M0 bs a w hT hr) ?_)
  rintro e a' w' ⟨s', M0', bs', k, hr', hn⟩
  cases e with
  | exit id' =>
   simp only [inBlockK] at k
   simp only [Exit.inBlock]
   split at k
   ·
    rename_i e1; rw [if_pos e1]; exact ⟨s', M0', bs', k, hr', hn⟩
   ·
    rename_i e1; rw [if_neg e1]; exact ⟨s', M0', bs', k, hr', hn⟩
  | _ => exact ⟨s', M0', bs', k, hr', hn⟩
 | scope c ih =>
  intro hok s K h n r n0 M0 bs a w hT hr
  refine wpIn_scope (wpIn_mono (ih hok s _ h n r n0 M0 bs a w hT hr) ?_)
  rintro e a' w' ⟨s', M0', bs', k, hr', hn⟩
  cases e with
  | goto l => exact k.elim
  | _ => exact ⟨s', M0', bs', k, hr', hn⟩
 | _ => intro _ s K h; exact h
def TurnT (P : Program) (g : G) (X : XT) (N n : Nat) (s s' : St) : Prop :=
 ∀ (n0 : Option NB) (w : World) (M0 : Nat → Prop) (bs : Bs) (a : Act), Rel P X N n0 w M0 bs a s → ∃ bs', Rel P X N n0 w M0 bs' a s' ∧
  ∀ (w0 : World) (M00 : Nat → Prop) (bs0 : Bs) (hp0 : List Blk), hp0.length ≤ n → Nx P g X w0 M00 bs0 hp0 w M0 bs s.hp → Nx P g X w0 M00 bs0 hp0 w M0 bs' s'.hp
theorem Turn.toT {n : Nat} {s s' : St} (h : Turn P g X N s s') : TurnT P g X N n s s' := fun n0 w M0 bs a hr => by
 obtain ⟨bs', h1, h2⟩ := h n0 w M0 bs a hr
 exact ⟨bs', h1, fun _ _ _ _ _ hn => hn.trans h2⟩
theorem TurnT.le {n : Nat} {s s' : St} (h : s'.le s) : TurnT P g X N n s s' := (Turn.le h).toT
theorem TurnT.trans {n : Nat} {s s' s'' : St} (h : TurnT P g X N n s s') (k : TurnT P g X N n s' s'') : TurnT P g X N n s s'' := fun n0 w M0 bs a hr => by
 obtain ⟨bs', h1, h2⟩ := h n0 w M0 bs a hr
 obtain ⟨bs'', k1, k2⟩ := k n0 w M0 bs' a h1
 exact ⟨bs'', k1, fun w0 M00 bs0 hp0 hl hn => k2 w0 M00 bs0 hp0 hl (h2 w0 M00 bs0 hp0 hl hn)⟩
def SV.below (n : Nat) : SV → Bool
 | .box id _ => decide (id < n)
 | .own _ id _ => decide (id < n)
 | .eown _ id _ _ => decide (id < n)
 | .pre _ id _ _ => decide (id < n)
 | .suf _ id _ _ => decide (id < n)
 | .fn _ ids => ids.all fun id => decide (id < n)
 | .mp id => decide (id < n)
 | _ => true
def AV.below (n : Nat) : AV → Bool
 | .s x => x.below n
 | .agg cs => cs.all fun x => x.below n
def RV.below (n : Nat) : RV → Bool
 | .v x => x.below n
 | .tup xs => xs.all fun x => x.below n
def Blk.below (n : Nat) : Blk → Bool
 | .cells cs => cs.all fun x => x.below n
 | .arr _ cs => cs.all fun x => x.below n
 | _ => true
section trunc
variable {w : World} {M0 : Nat → Prop} {bs : Bs} {hp junk : List Blk}
theorem at_take {n id : Nat} (h : id < n) : Bs.at (bs.take n) id = bs.at id := by
 simp [Bs.at, h]
theorem at_take' {n id b : Nat} (h : Bs.at (bs.take n) id = some b) : bs.at id = some b := by
 have := at_lt h
 rw [List.length_take] at this
 rw [at_take (by omega)] at h; exact h
theorem look_app {id : Nat} (h : id < hp.length) : Blk.look (hp ++ junk) id = Blk.look hp id := by
 simp [Blk.look, List.getElem?_append_left h]
theorem Mof_take {n b : Nat} (h : Mof M0 (bs.take n) b) : Mof M0 bs b := by
 rcases h with h | ⟨id, h⟩
 ·
  exact .inl h
 ·
  exact .inr ⟨id, at_take' h⟩
theorem relSV_trunc {x : SV} {v : Value} (hb : x.below hp.length = true) (h : relSV w (Mof M0 bs) bs (hp ++ junk) x v) : relSV w (Mof M0 (bs.take hp.length)) (bs.take hp.length) hp x v := by
 have he : Evo (Mof M0 bs) (Mof M0 (bs.take hp.length)) w w := Evo.more w fun b _ => Mof_take
 cases x with
 | sl t xs ex => obtain ⟨a, c, h1, h2, h3, h4, h5⟩ := h; exact ⟨a, c, h1, h2, h3, h4, h5.evo he⟩
 | eptr t x => obtain ⟨b, off, cs, h1, h2, h3, h4, h5⟩ := h; exact ⟨b, off, cs, h1, he.free b h3 h2, h3, rep_evo he _ _ _ h4, h5⟩
 | fnp f caps => obtain ⟨ps, h1, h2⟩ := h; exact ⟨ps, h1, h2.imp fun c p hp => hp.evo he⟩
 | fv x => exact RepD.evo he h
 | box id off =>
  simp only [SV.below, decide_eq_true_eq] at hb
  obtain ⟨h1, h2⟩ := h
  refine ⟨hb, fun cs hl => ?_⟩
  rw [at_take hb]
  exact h2 cs (by rw [look_app hb]; exact hl)
 | own t id n =>
  simp only [SV.below, decide_eq_true_eq] at hb
  obtain ⟨h1, h2⟩ := h
  refine ⟨hb, fun al cs hl => ?_⟩
  rw [← look_app (junk := junk) hb] at hl
  refine ⟨(h2 al cs hl).1, fun hlen => ?_⟩
  rw [at_take hb]
  rcases (h2 al cs hl).2 hlen with h | ⟨k1, xs, a, k2, k3, k4, k5, k6⟩
  ·
   exact .inl h
  ·
   exact .inr ⟨k1, xs, a, k2, k3, k4, k5, k6.evo he⟩
 | eown t id n off =>
  simp only [SV.below, decide_eq_true_eq] at hb
  obtain ⟨h1, h2⟩ := h
  refine ⟨hb, fun al cs hl => ?_⟩
  rw [← look_app (junk := junk) hb] at hl
  refine ⟨(h2 al cs hl).1, fun hlen => ?_⟩
  rw [at_take hb]
  exact (h2 al cs hl).2 hlen
 | pre t id n m =>
  simp only [SV.below, decide_eq_true_eq] at hb
  obtain ⟨h1, hm, h2⟩ := h
  refine ⟨hb, hm, fun al cs hl => ?_⟩
  rw [← look_app (junk := junk) hb] at hl
  refine ⟨(h2 al cs hl).1, fun hlen => ?_⟩
  rw [at_take hb]
  exact (h2 al cs hl).2 hlen
 | suf t id n k =>
  simp only [SV.below, decide_eq_true_eq] at hb
  obtain ⟨h1, hm, h2⟩ := h
  refine ⟨hb, hm, fun al cs hl => ?_⟩
  rw [← look_app (junk := junk) hb] at hl
  refine ⟨(h2 al cs hl).1, fun hlen => ?_⟩
  rw [at_take hb]
  exact (h2 al cs hl).2 hlen
 | fn f ids =>
  simp only [SV.below, List.all_eq_true, decide_eq_true_eq] at hb
  obtain ⟨ps, h1, h2⟩ := h
  refine ⟨ps, h1, ?_⟩
  clear h1
  induction h2 with
  | nil => exact .nil
  | cons r _ ih =>
   have h0 := hb _ (List.mem_cons_self ..)
   refine .cons ⟨h0, fun cs hl => by rw [at_take h0]; exact r.2 cs (by rw [look_app h0]; exact hl)⟩ (ih fun id hid => hb id (List.mem_cons_of_mem _ hid))
 | mp id =>
  simp only [SV.below, decide_eq_true_eq] at hb
  obtain ⟨b, k, u, es, h1, h2, h3⟩ := h
  exact ⟨b, k, u, es, by rw [at_take hb]; exact h1, by rw [← look_app hb]; exact h2, h3⟩
 | _ => exact h
theorem relAV_trunc {x : AV} {v : Value} (hb : x.below hp.length = true) (h : relAV w (Mof M0 bs) bs (hp ++ junk) x v) : relAV w (Mof M0 (bs.take hp.length)) (bs.take hp.length) hp x v := by
 cases x with
 | s x => exact relSV_trunc hb h
 | agg cs =>
  obtain ⟨vs, rfl, h⟩ := h
  refine ⟨vs, rfl, ?_⟩
  simp only [AV.below] at hb
  induction h with
  | nil => exact .nil
  | cons r _ ih =>
   simp only [List.all_cons, Bool.and_eq_true] at hb
   exact .cons ⟨relSV_trunc hb.1 r.1, r.2⟩ (ih hb.2)
theorem relRV_trunc {x : RV} {v : Value} (hb : x.below hp.length = true) (h : relRV w (Mof M0 bs) bs (hp ++ junk) x v) : relRV w (Mof M0 (bs.take hp.length)) (bs.take hp.length) hp x v := by
 cases x with
 | v x => exact relAV_trunc hb h
 | tup xs =>
  obtain ⟨vs, rfl, h⟩ := h
  refine ⟨vs, rfl, ?_⟩
  simp only [RV.below] at hb
  induction h with
  | nil => exact .nil
  | cons r _ ih =>
   simp only [List.all_cons, Bool.and_eq_true] at hb
   exact .cons (relAV_trunc hb.1 r) (ih hb.2)
theorem HR.trunc (hr : HR w M0 bs (hp ++ junk)) (hb : hp.all (fun b => b.below hp.length) = true) : HR w M0 (bs.take hp.length) hp := by
 have he : Evo (Mof M0 bs) (Mof M0 (bs.take hp.length)) w w := Evo.more w fun b _ => Mof_take
 have hlen : (bs.take hp.length).length = hp.length := by rw [List.length_take, hr.len, List.length_append]; omega
 have hlk : ∀ id x, Blk.look hp id = x → x ≠ .dead → id < hp.length ∧ Blk.look (hp ++ junk) id = x := by
  intro id x h hne
  have hlt : id < hp.length := look_lt (by rw [h]; exact hne)
  exact ⟨hlt, by rw [look_app hlt]; exact h⟩
 have hbel : ∀ id x, Blk.look hp id = x → x ≠ .dead → x.below hp.length = true := by
  intro id x h hne
  have hlt := (hlk id x h hne).1
  rw [List.all_eq_true] at hb
  have hmem : x ∈ hp := by
   rw [← h]; simp only [Blk.look, List.getElem?_eq_getElem hlt, Option.getD_some]; exact List.getElem_mem hlt
  exact hb x hmem
 refine ⟨hlen, hr.m0, fun id b h => hr.lt id b (at_take' h), fun i j b h1 h2 => hr.inj i j b (at_take' h1) (at_take' h2), fun id b h => hr.out id b (at_take' h), ?_, ?_, ?_, ?_⟩
 ·
  intro id cs h
  obtain ⟨h1, h2⟩ := hlk id _ h (by simp)
  obtain ⟨b, hb⟩ := hr.al id cs h2
  exact ⟨b, by rw [at_take h1]; exact hb⟩
 ·
  intro id cs h
  obtain ⟨h1, h2⟩ := hlk id _ h (by simp)
  have hbl := hbel id _ h (by simp)
  simp only [Blk.below, List.all_eq_true] at hbl
  obtain ⟨b, cur, e, q1, q2, q3, q4⟩ := hr.cells id cs h2
  refine ⟨b, cur, e, by rw [at_take h1]; exact q1, q2, q3, fun j x hj => ?_⟩
  obtain ⟨u, k1, k2, k3⟩ := q4 j x hj
  exact ⟨u, k1, k2, relSV_trunc (hbl x (List.mem_of_getElem? hj)) k3⟩
 ·
  intro id al cs b h hat
  obtain ⟨h1, h2⟩ := hlk id _ h (by simp)
  have hbl := hbel id _ h (by simp)
  simp only [Blk.below, List.all_eq_true] at hbl
  obtain ⟨cur, e, q2, q4⟩ := hr.arr id al cs b h2 (at_take' hat)
  refine ⟨cur, e, q2, fun j x hj => ?_⟩
  obtain ⟨u, k1, k2, k3⟩ := q4 j x hj
  exact ⟨u, k1, k2, relSV_trunc (hbl x (List.mem_of_getElem? hj)) k3⟩
 ·
  intro id k v es h
  obtain ⟨h1, h2⟩ := hlk id _ h (by simp)
  obtain ⟨b, ents, clock, q1, q2, q3⟩ := hr.map id k v es h2
  exact ⟨b, ents, clock, by rw [at_take h1]; exact q1, q2, q3.imp fun x m hm => ⟨hm.1, repV_evo he hm.2⟩⟩
end trunc
def envBelow (n : Nat) : Env → Bool
 | [] => true
 | (_, x) :: r => x.v.below n && envBelow n r
theorem envBelow_look {n : Nat} : ∀ {e : Env} {s : Nat} {x : SL}, envBelow n e = true → look e s = some x → x.v.below n = true
 | [], s, x, _, h => by simp [look] at h
 | (k, y) :: r, s, x, hb, h => by
  simp only [envBelow, Bool.and_eq_true] at hb
  simp only [look] at h
  split at h
  ·
   injection h with h; subst h; exact hb.1
  ·
   exact envBelow_look hb.2 h
theorem TurnT.trunc (hX : XOk P X) {n : Nat} {e e' : Env} {hp junk : List Blk} (hn : n ≤ hp.length) (hb : hp.all (fun b => b.below hp.length) = true) (he : envLe e' e) (heb : envBelow hp.length e' = true) : TurnT P g X N n ⟨e, hp ++ junk⟩ ⟨e', hp⟩ := by
 intro n0 w M0 bs a hr
 have hr1 := hr.hr.trunc hb
 have hev : Evo (Mof M0 bs) (Mof M0 (bs.take hp.length)) w w := Evo.more w fun b _ => Mof_take
 have htr : ∀ l ys i st, Blk.look hp 0 = .trace l ys i st → Blk.look (hp ++ junk) 0 = .trace l ys i st := fun l ys i st ht => by
  rw [look_app (look_lt (by rw [ht]; simp))]; exact ht
 have hx : XR X w M0 (bs.take hp.length) hp := fun l ys i st ht =>
  hX.stable (hr.xr l ys i st (htr l ys i st ht)) rfl rfl rfl (Nat.le_refl _) (Nat.le_refl _) (fun _ _ _ => rfl) (fun b _ hn ⟨j, hj⟩ => hn ⟨j, at_take' hj⟩) (fun b ⟨j, hj⟩ => hr1.lt j b hj)
 refine ⟨bs.take hp.length, ⟨hr1, hx, fun s x hs => ?_, hr.size, hr.df.evo hev⟩, fun w0 M00 bs0 hp0 hl hnx => ⟨hr1, hx, ?_, hnx.eq⟩⟩
 ·
  have h1 := hr.env s x (look_envLe he s x hs)
  exact ⟨fun ho => relRV_trunc (envBelow_look heb hs) (h1.1 ho), h1.2⟩
 ·
  have hst := hnx.st
  change Step g.y w0 (Mof M00 bs0) bs0 hp0 w (Mof M0 (bs.take hp.length)) (bs.take hp.length) hp
  refine ⟨hst.evo.trans hev, by omega, ?_, ?_, ?_, fun hv => ?_⟩
  ·
   intro id cs h1 h2
   rw [at_take (by omega)]
   exact hst.box id cs h1 (by rw [look_app (by omega)]; exact h2)
  ·
   intro id b k u es h1 h2
   have hlt : id < hp0.length := look_lt (by rw [h2]; simp)
   obtain ⟨k1, es', k2⟩ := hst.map id b k u es h1 h2
   exact ⟨by rw [at_take (by omega)]; exact k1, es', by rw [← look_app (junk := junk) (by omega)]; exact k2⟩
  ·
   intro id al cs hid h
   rw [at_take (by omega)]
   exact hst.own id al cs hid (by rw [look_app (by omega)]; exact h)
  ·
   have ho := hst.only hv
   exact ⟨ho.old, fun b hb hn j hj => ho.new b hb hn j (at_take' hj), fun j l ys i st ht => ho.tr j l ys i st (by rw [look_app (look_lt (by rw [ht]; simp))]; exact ht)⟩
theorem Wp.cut (hg : g.good P) (hX : XOk P X) (hm : P.follows .mixedOrders = true) {c : Code} (hok : codeOk' L g.ye N c = true) {s s' : St} {K : Exit → St → Prop} (hs : Turn P g X N s s') (h : vc P g X N L c s' K) : Wp P g X N c s K :=
 Wp.turn hs (vc_sound hg hX hm c hok s' K h)
theorem Wp.loop (hg : g.good P) (hX : XOk P X) (hm : P.follows .mixedOrders = true) {c : Code} (hok : codeOk' L g.ye N c = true) {s : St} {K : Exit → St → Prop} {ι : Type} (S : ι → St) (R : ι → Prop) (μ : ι → Nat) (i0 : ι) (h0 : R i0) (hs : Turn P g X N s (S i0))
  (h : ∀ i, R i → vc P g X N L c (S i) (thenK (fun s' => ∃ j, R j ∧ μ j < μ i ∧ TurnT P g X N s.hp.length s' (S j)) K)) : Wp P g X N (.loop c) s K := by
 intro n r n0 M0 bs a w hT hr
 have key : ∀ (m : Nat) (a : Act) (w' : World) (i : ι) (M0' : Nat → Prop) (bs' : Bs), True := fun _ _ _ _ _ _ => trivial
 obtain ⟨bs0, hr0, hn0⟩ := hs n0 w M0 bs a hr
 refine wpIn_loop (fun a' w' => ∃ i M0' bs', R i ∧ Rel P X N n0 w' M0' bs' a' (S i) ∧ Nx P g X w M0 bs s.hp w' M0' bs' (S i).hp)
  (fun a' w' => sInf' (fun m => ∃ i M0' bs', μ i = m ∧ R i ∧ Rel P X N n0 w' M0' bs' a' (S i) ∧ Nx P g X w M0 bs s.hp w' M0' bs' (S i).hp)) ⟨i0, M0, bs0, h0, hr0, hn0⟩ ?_
 intro a1 w1 hI
 obtain ⟨i, M1, bs1, hmu, hRi, hr1, hn1⟩ := sInf'_mem (fun m => ∃ i M0' bs', μ i = m ∧ R i ∧ Rel P X N n0 w1 M0' bs' a1 (S i) ∧ Nx P g X w M0 bs s.hp w1 M0' bs' (S i).hp) (let ⟨i, M0', bs', x⟩ := hI; ⟨μ i, i, M0', bs', rfl, x⟩)
 refine wpIn_mono (vc_sound (L := L) hg hX hm c hok (S i) _ (h i hRi) n r n0 M1 bs1 a1 w1 hT hr1) ?_
 rintro e a2 w2 ⟨s', M2, bs2, k, hr2, hn2⟩
 have hK : e ≠ .normal → Post P g X N n0 K w M0 bs s.hp e a2 w2 := fun he => ⟨s', M2, bs2, by cases e <;> first | exact absurd rfl he | exact k, hr2, hn1.trans hn2⟩
 cases e with
 | normal =>
  obtain ⟨j, hRj, hlt, ht⟩ := k
  obtain ⟨bs3, hr3, hn3⟩ := ht n0 w2 M2 bs2 a2 hr2
  have hnx := hn3 w M0 bs s.hp (Nat.le_refl _) (hn1.trans hn2)
  have hj : ∃ i M0' bs', μ i = μ j ∧ R i ∧ Rel P X N n0 w2 M0' bs' a2 (S i) ∧ Nx P g X w M0 bs s.hp w2 M0' bs' (S i).hp := ⟨j, M2, bs3, rfl, hRj, hr3, hnx⟩
  refine ⟨⟨j, M2, bs3, hRj, hr3, hnx⟩, ?_⟩
  have := sInf'_le (fun m => ∃ i M0' bs', μ i = m ∧ R i ∧ Rel P X N n0 w2 M0' bs' a2 (S i) ∧ Nx P g X w M0 bs s.hp w2 M0' bs' (S i).hp) hj
  omega
 | _ => exact hK (by simp)
end
def frzSV (hp : List Blk) : SV → Option SV
 | .sl t xs _ => some (.sl t xs false)
 | .own t id n => match Blk.look hp id with
  | .arr _ cs => if cs.length = n * t.size then (t.parses n cs).map fun xs => .sl t xs false else none
  | _ => none
 | .fn f [] => some (.fn f [])
 | .fn f ids => (boxCaps hp ids).map fun caps => .fnp f caps
 | .box _ _ => none
 | .eown _ _ _ _ => none
 | .suf _ _ _ _ => none
 | .pre t id n m => match Blk.look hp id with
  | .arr _ cs => if cs.length = n * t.size ∧ m ≤ n then (t.parses n cs).map fun xs => .sl t (xs.take m) false else none
  | _ => none
 | .mp _ => none
 | .ib _ _ => none
 | x => some x
def frzL (hp : List Blk) : List SV → Option (List SV)
 | [] => some []
 | x :: r => match frzSV hp x, frzL hp r with
  | some y, some s => some (y :: s)
  | _, _ => none
def frzAV (hp : List Blk) : AV → Option AV
 | .s x => (frzSV hp x).map .s
 | .agg cs => (frzL hp cs).map .agg
def frzAs (hp : List Blk) : List AV → Option (List AV)
 | [] => some []
 | x :: r => match frzAV hp x, frzAs hp r with
  | some y, some s => some (y :: s)
  | _, _ => none
def resEv (g : G) (e : Env) (hp : List Blk) : ResultVar → Prop × AV
 | .tmp t => ((getE e t).ok = true, (getE e t).v.av)
 | .cell a t => ((getE e a).ok = true ∧ (loadEv g hp t (getE e a).v.av).1, (loadEv g hp t (getE e a).v.av).2.av)
def resOk (g : G) (e : Env) (hp : List Blk) : List ResultVar → Prop
 | [] => True
 | x :: r => (resEv g e hp x).1 ∧ resOk g e hp r
def resVs (g : G) (e : Env) (hp : List Blk) (l : List ResultVar) : List AV := l.map fun x => (resEv g e hp x).2
def oneRV : List AV → RV
 | [x] => .v x
 | l => .tup l
def retOk (g : G) (fn : Func) (s : St) (rv : RV) : Prop := resOk g s.e s.hp fn.results.toList ∧ ∃ vs, frzAs s.hp (resVs g s.e s.hp fn.results.toList) = some vs ∧ oneRV vs = rv
def argEnv : Nat → List AV → Env
 | _, [] => []
 | i, x :: r => (i, ⟨true, .v x⟩) :: argEnv (i + 1) r
section
variable {P : Program} {g : G} {X : XT} {N : Nat} {L : Cfg} {w : World} {M0 : Nat → Prop} {bs : Bs} {hp : List Blk}
theorem Evo.to_m0 (hr : HR w M0 bs hp) : Evo (Mof M0 bs) M0 w w := Evo.more w fun b _ h => .inl h
theorem own_row (hr : HR w M0 bs hp) {t : Ty} {id n b cap : Nat} {al : Bool} {cs : List SV} {xs : List t.T} (hl : Blk.look hp id = .arr al cs) (k1 : bs.at id = some b) (k3 : n ≤ cap) (k4 : OwnAt w b cap t.size)
  (hlen : cs.length = n * t.size) (hp' : t.parses n cs = some xs) : xs.length = n ∧ cap ≤ maxLen ∧ RowAt w M0 (fun x cs => rep w M0 t x cs) t.size (some ⟨b, 0, none⟩) xs := by
 have he := Evo.to_m0 hr
 obtain ⟨cur, e, q1, q2⟩ := hr.arr id al cs b hl k1
 obtain ⟨cur', e', q3, q4, q5⟩ := k4
 rw [q1] at q3
 injection q3 with q3; injection q3 with q3 _ _
 subst q3
 have hus : ∃ us : List Value, All2 (relSV w (Mof M0 bs) bs hp) cs us ∧ ∀ (j : Nat) (v : Value), us[j]? = some v → cur[j]? = some v := by
  refine ⟨cur.toList.take cs.length, All2.of_get ?_ (fun i x u hx hu => ?_), fun j v hj => ?_⟩
  ·
   have h1 : cur.toList.length = cap * t.size := by rw [Array.length_toList]; exact q4
   have := Nat.mul_le_mul_right t.size k3
   rw [List.length_take, h1]
   omega
  ·
   obtain ⟨u', r1, r2, r3⟩ := q2 i x hx
   have hi := (List.getElem?_eq_some_iff.1 hx).1
   rw [List.getElem?_take_of_lt hi, Array.getElem?_toList, r1] at hu
   cases hu; exact r3
  ·
   have hj' : j < cs.length := by
    have := (List.getElem?_eq_some_iff.1 hj).1
    rw [List.length_take] at this
    omega
   rw [List.getElem?_take_of_lt hj', Array.getElem?_toList] at hj
   exact hj
 obtain ⟨us, r1, r2⟩ := hus
 obtain ⟨s1, s2⟩ := parses_rows t n cs xs us hp' r1
 refine ⟨s1, q5, .inr ⟨b, 0, rfl, hr.out id b k1, hr.lt id b k1, fun i x hx => ?_⟩⟩
 obtain ⟨cs', t1, t2, t3⟩ := s2 i x hx
 refine ⟨cs', t1, rep_evo he _ _ _ t2, fun j v hj => ?_⟩
 have := r2 _ _ (t3 j v hj)
 simp only [World.cell?, q1, Nat.zero_add]
 exact this
theorem frzSV_sound (hr : HR w M0 bs hp) {x y : SV} {v : Value} (h : relSV w (Mof M0 bs) bs hp x v) (hf : frzSV hp x = some y) : relSV w M0 [] [] y v := by
 have he := Evo.to_m0 hr
 cases x with
 | any => simp [frzSV] at hf; subst hf; trivial
 | bool b => simp [frzSV] at hf; subst hf; exact h
 | int k n => simp [frzSV] at hf; subst hf; exact h
 | str s => simp [frzSV] at hf; subst hf; exact h
 | val u => simp [frzSV] at hf; subst hf; exact h
 | sl t xs ex =>
  simp [frzSV] at hf; subst hf
  obtain ⟨a, c, h1, h2, h3, h4, h5⟩ := h
  exact ⟨a, c, h1, h2, h3, by simp, h5.evo he⟩
 | eptr t x =>
  simp [frzSV] at hf; subst hf
  obtain ⟨b, off, cs, h1, h2, h3, h4, h5⟩ := h
  exact ⟨b, off, cs, h1, fun h => h2 (.inl h), h3, rep_evo he _ _ _ h4, h5⟩
 | box id off => simp [frzSV] at hf
 | eown t id n off => simp [frzSV] at hf
 | suf t id n k => simp [frzSV] at hf
 | pre t id n m =>
  simp only [frzSV] at hf
  cases hl : Blk.look hp id with
  | arr al cs =>
   simp only [hl] at hf
   split at hf
   ·
    rename_i hlen
    cases hp' : t.parses n cs with
    | none => simp [hp'] at hf
    | some xs =>
     simp [hp'] at hf
     subst hf
     obtain ⟨b, cap, k1, rfl, k3, k4⟩ := (h.2.2 al cs hl).2 hlen.1
     obtain ⟨q1, q2, q3⟩ := own_row hr hl k1 k3 k4 hlen.1 hp'
     have hm : (xs.take m).length = m := by rw [List.length_take]; omega
     refine ⟨some ⟨b, 0, none⟩, cap, by rw [hm], by omega, q2, by simp, ?_⟩
     have := RowAt_cut q3 0 m (some ⟨b, 0, none⟩) (fun _ => by simp [addr_add]) (by omega) (by omega)
     simpa using this
   ·
    cases hf
  | _ => simp [hl] at hf
 | mp id => simp [frzSV] at hf
 | ib p q => simp [frzSV] at hf
 | fv x => simp [frzSV] at hf; subst hf; exact RepD.evo he h
 | fnp f caps =>
  simp [frzSV] at hf; subst hf
  obtain ⟨ps, h1, h2⟩ := h
  exact ⟨ps, h1, h2.imp fun c p hp => hp.evo he⟩
 | fn f ids =>
  cases ids with
  | nil =>
   simp [frzSV] at hf; subst hf
   obtain ⟨ps, h1, h2⟩ := h
   cases h2
   exact ⟨[], h1, .nil⟩
  | cons i ids =>
   simp only [frzSV] at hf
   cases hb : boxCaps hp (i :: ids) with
   | none => simp [hb] at hf
   | some caps =>
    simp [hb] at hf
    subst hf
    obtain ⟨ps, h1, h2⟩ := h
    have h2 := boxCaps_at hb h2
    refine ⟨_, h1, boxCaps_sound hr (fun b hb => .inl hb) hb h2 fun b hb => ?_⟩
    have : ∀ {l : List Nat} {m : List Nat}, All2 (fun id b => bs.at id = some b ∧ ∃ cs, Blk.look hp id = .cells cs) l m → ∀ b ∈ m, ∃ id, bs.at id = some b := by
     intro l m hlm
     induction hlm with
     | nil => intro b hb; cases hb
     | cons r _ ih =>
      intro b hb
      cases hb with
      | head => exact ⟨_, r.1⟩
      | tail _ hb => exact ih b hb
    obtain ⟨id, hid⟩ := this h2 b hb
    exact hr.out id b hid
 | own t id n =>
  simp only [frzSV] at hf
  cases hl : Blk.look hp id with
  | arr al cs =>
   simp only [hl] at hf
   split at hf
   ·
    rename_i hlen
    cases hp' : t.parses n cs with
    | none => simp [hp'] at hf
    | some xs =>
     simp [hp'] at hf
     subst hf
     rcases (h.2 al cs hl).2 hlen with ⟨b, cap, k1, rfl, k3, k4⟩ | ⟨k1, ys, a, k2, k3, rfl, rfl, k6⟩
     ·
      obtain ⟨q1, q2, q3⟩ := own_row hr hl k1 k3 k4 hlen hp'
      exact ⟨some ⟨b, 0, none⟩, cap, by rw [q1], by omega, q2, by simp, q3⟩
     ·
      subst k2
      rw [parses_flats] at hp'
      cases hp'
      exact ⟨a, xs.length, rfl, Nat.le_refl _, k3, by simp, k6.evo he⟩
   ·
    cases hf
  | _ => simp [hl] at hf
theorem frzL_sound (hr : HR w M0 bs hp) : ∀ {cs ds : List SV} {vs : List Value}, All2 (fun x u => relSV w (Mof M0 bs) bs hp x u ∧ u.oneCell' = true) cs vs → frzL hp cs = some ds → All2 (fun x u => relSV w M0 [] [] x u ∧ u.oneCell' = true) ds vs
 | [], ds, _, .nil, hf => by simp [frzL] at hf; subst hf; exact .nil
 | x :: r, ds, _, .cons h1 h2, hf => by
  simp only [frzL] at hf
  split at hf
  ·
   rename_i y s e1 e2
   injection hf with hf; subst hf
   exact .cons ⟨frzSV_sound hr h1.1 e1, h1.2⟩ (frzL_sound hr h2 e2)
  ·
   cases hf
theorem frzAV_sound (hr : HR w M0 bs hp) {x y : AV} {v : Value} (h : relAV w (Mof M0 bs) bs hp x v) (hf : frzAV hp x = some y) : relAV w M0 [] [] y v := by
 cases x with
 | s x =>
  simp only [frzAV] at hf
  cases hx : frzSV hp x with
  | none => simp [hx] at hf
  | some z => simp [hx] at hf; subst hf; exact frzSV_sound hr h hx
 | agg cs =>
  simp only [frzAV] at hf
  cases hx : frzL hp cs with
  | none => simp [hx] at hf
  | some z => simp [hx] at hf; subst hf; obtain ⟨vs, rfl, h⟩ := h; exact ⟨vs, rfl, frzL_sound hr h hx⟩
theorem frzAs_sound (hr : HR w M0 bs hp) : ∀ {xs ys : List AV} {vs : List Value}, All2 (relAV w (Mof M0 bs) bs hp) xs vs → frzAs hp xs = some ys → All2 (relAV w M0 [] []) ys vs
 | [], ys, _, .nil, hf => by simp [frzAs] at hf; subst hf; exact .nil
 | x :: r, ys, _, .cons h1 h2, hf => by
  simp only [frzAs] at hf
  split at hf
  ·
   rename_i y s e1 e2
   injection hf with hf; subst hf
   exact .cons (frzAV_sound hr h1 e1) (frzAs_sound hr h2 e2)
  ·
   cases hf
theorem RepD.cells {M : Nat → Prop} {w' : World} (hc : ∀ p v, w.cell? p = some v → w'.cell? p = some v) (hs : w.heap.size ≤ w'.heap.size) {t : Ty} {d : D t} {cs : List Value} (hr : RepD w M t d cs) : RepD w' M t d cs := by
 induction hr with
 | int k n => exact .int _ _
 | bool b => exact .bool _
 | str s => exact .str _
 | slice t xs a c b off css h1 h2 h3 h4 h5 ih =>
  refine .slice t xs a c b off css h1 h2 (fun hn => ?_) (fun i x hx => ⟨(h4 i x hx).1, fun j v hj => hc _ _ ((h4 i x hx).2 j v hj)⟩) ih
  obtain ⟨k1, k2, k3⟩ := h3 hn
  exact ⟨k1, k2, Nat.lt_of_lt_of_le k3 hs⟩
 | nil => exact .nil
 | cons t r x y c1 c2 _ _ ih1 ih2 => exact .cons _ _ _ _ _ _ ih1 ih2
 | nofn => exact .nofn
 | fn f caps ps css bo h1 h2 h3 ih =>
  refine .fn f caps ps css bo h1 (fun i p hp => ?_) ih
  obtain ⟨k1, k2, k3, k4⟩ := h2 i p hp
  exact ⟨k1, k2, Nat.lt_of_lt_of_le k3 hs, fun j v hj => hc _ _ (k4 j v hj)⟩
 | bnd f t x cs _ ih => exact .bnd f t x cs ih
theorem rep_cells {M : Nat → Prop} {w' : World} (hc : ∀ p v, w.cell? p = some v → w'.cell? p = some v) (hs : w.heap.size ≤ w'.heap.size) : ∀ (t : Ty) (x : t.T) (cs : List Value), rep w M t x cs → rep w' M t x cs
 | .int k, n, cs, hr => by simpa only [rep] using hr
 | .bool, b, cs, hr => by simpa only [rep] using hr
 | .str, s, cs, hr => by simpa only [rep] using hr
 | .slice t, xs, cs, hr => by
  simp only [rep] at hr ⊢
  obtain ⟨a, c, rfl, h1, h2, h3⟩ := hr
  refine ⟨a, c, rfl, h1, h2, ?_⟩
  rcases h3 with h3 | ⟨b, off, ha, hm, hb, he⟩
  ·
   exact .inl h3
  ·
   refine .inr ⟨b, off, ha, hm, Nat.lt_of_lt_of_le hb hs, fun i x hi => ?_⟩
   obtain ⟨cs, hl, hx, hcs⟩ := he i x hi
   exact ⟨cs, hl, rep_cells hc hs t x cs hx, fun j v hj => hc _ _ (hcs j v hj)⟩
 | .nil, _, cs, hr => by simpa only [rep] using hr
 | .cons t r, x, cs, hr => by
  simp only [rep] at hr ⊢
  obtain ⟨c1, c2, rfl, h1, h2⟩ := hr
  exact ⟨c1, c2, rfl, rep_cells hc hs t _ _ h1, rep_cells hc hs r _ _ h2⟩
 | .fn, x, cs, hr => by
  simp only [rep] at hr ⊢
  exact hr.cells hc hs
structure Same (w w' : World) (bs : Bs) : Prop where
 cells : ∀ p v, w.cell? p = some v → w'.cell? p = some v
 size : w'.heap.size = w.heap.size
 own : ∀ id b, bs.at id = some b → w'.heap[b]? = w.heap[b]?
theorem relSV_same {M : Nat → Prop} {w' : World} (hs : Same w w' bs) {x : SV} {v : Value} (h : relSV w M bs hp x v) : relSV w' M bs hp x v := by
 have hc := hs.cells
 have hsz : w.heap.size ≤ w'.heap.size := by rw [hs.size]; exact Nat.le_refl _
 have hrow : ∀ (t : Ty) (a : Option Addr) (xs : List t.T), RowAt w M (fun x cs => rep w M t x cs) t.size a xs → RowAt w' M (fun x cs => rep w' M t x cs) t.size a xs := by
  intro t a xs h5
  rcases h5 with h5 | ⟨b, off, ha, hm, hb, he⟩
  ·
   exact .inl h5
  ·
   refine .inr ⟨b, off, ha, hm, Nat.lt_of_lt_of_le hb hsz, fun i x hi => ?_⟩
   obtain ⟨cs, hl, hx, hcs⟩ := he i x hi
   exact ⟨cs, hl, rep_cells hc hsz t x cs hx, fun j v hj => hc _ _ (hcs j v hj)⟩
 have hown : ∀ id b, bs.at id = some b → ∀ cap size, OwnAt w b cap size → OwnAt w' b cap size := by
  intro id b hb cap size ⟨cur, e, h1, h2⟩
  exact ⟨cur, e, by rw [hs.own id b hb]; exact h1, h2⟩
 cases x with
 | sl t xs ex =>
  obtain ⟨a, c, h1, h2, h3, h4, h5⟩ := h
  exact ⟨a, c, h1, h2, h3, h4, hrow _ _ _ h5⟩
 | eptr t x =>
  obtain ⟨b, off, cs, h1, h2, h3, h4, h5⟩ := h
  exact ⟨b, off, cs, h1, h2, Nat.lt_of_lt_of_le h3 hsz, rep_cells hc hsz _ _ _ h4, fun j v hj => hc _ _ (h5 j v hj)⟩
 | fnp f caps =>
  obtain ⟨ps, h1, h2⟩ := h
  refine ⟨ps, h1, h2.imp fun c p hp => ?_⟩
  obtain ⟨b, off, cs, h1, h2, h3, h4, h5⟩ := hp
  exact ⟨b, off, cs, h1, h2, Nat.lt_of_lt_of_le h3 hsz, rep_cells hc hsz _ _ _ h4, fun j v hj => hc _ _ (h5 j v hj)⟩
 | own t id n =>
  obtain ⟨h1, h2⟩ := h
  refine ⟨h1, fun al cs hl => ⟨(h2 al cs hl).1, fun hlen => ?_⟩⟩
  rcases (h2 al cs hl).2 hlen with ⟨b, cap, k1, k2, k3, k4⟩ | ⟨k1, xs, a, k2, k3, k4, k5, k6⟩
  ·
   exact .inl ⟨b, cap, k1, k2, k3, hown id b k1 _ _ k4⟩
  ·
   exact .inr ⟨k1, xs, a, k2, k3, k4, k5, hrow _ _ _ k6⟩
 | pre t id n m =>
  obtain ⟨h1, hm, h2⟩ := h
  refine ⟨h1, hm, fun al cs hl => ⟨(h2 al cs hl).1, fun hlen => ?_⟩⟩
  obtain ⟨b, cap, k1, k2, k3, k4⟩ := (h2 al cs hl).2 hlen
  exact ⟨b, cap, k1, k2, k3, hown id b k1 _ _ k4⟩
 | suf t id n k =>
  obtain ⟨h1, hm, h2⟩ := h
  refine ⟨h1, hm, fun al cs hl => ⟨(h2 al cs hl).1, fun hlen => ?_⟩⟩
  obtain ⟨b, cap, a, k1, k2, k5, k3, k4⟩ := (h2 al cs hl).2 hlen
  exact ⟨b, cap, a, k1, k2, k5, k3, hown id b k1 _ _ k4⟩
 | fv x => exact RepD.cells hc hsz h
 | _ => exact h
theorem relAV_same {M : Nat → Prop} {w' : World} (hs : Same w w' bs) {x : AV} {v : Value} (h : relAV w M bs hp x v) : relAV w' M bs hp x v := by
 cases x with
 | s x => exact relSV_same hs h
 | agg cs => obtain ⟨vs, rfl, h⟩ := h; exact ⟨vs, rfl, h.imp fun x u hu => ⟨relSV_same hs hu.1, hu.2⟩⟩
theorem relRV_same {M : Nat → Prop} {w' : World} (hs : Same w w' bs) {x : RV} {v : Value} (h : relRV w M bs hp x v) : relRV w' M bs hp x v := by
 cases x with
 | v x => exact relAV_same hs h
 | tup xs => obtain ⟨vs, rfl, h⟩ := h; exact ⟨vs, rfl, h.imp fun x u hu => relAV_same hs hu⟩
theorem HR.same {w' : World} (hr : HR w M0 bs hp) (hs : Same w w' bs) : HR w' M0 bs hp := by
 refine ⟨hr.len, fun b hb => by rw [hs.size]; exact hr.m0 b hb, fun id b h => by rw [hs.size]; exact hr.lt id b h, hr.inj, hr.out, hr.al, ?_, ?_, ?_⟩
 ·
  intro id cs hl
  obtain ⟨b, cur, e, h1, h2, h3, h4⟩ := hr.cells id cs hl
  refine ⟨b, cur, e, h1, by rw [hs.own id b h1]; exact h2, h3, fun j x hj => ?_⟩
  obtain ⟨u, k1, k2, k3⟩ := h4 j x hj
  exact ⟨u, k1, k2, relSV_same hs k3⟩
 ·
  intro id al cs b hl hb
  obtain ⟨cur, e, h2, h4⟩ := hr.arr id al cs b hl hb
  refine ⟨cur, e, by rw [hs.own id b hb]; exact h2, fun j x hj => ?_⟩
  obtain ⟨u, k1, k2, k3⟩ := h4 j x hj
  exact ⟨u, k1, k2, relSV_same hs k3⟩
 ·
  intro id k v es hl
  obtain ⟨b, ents, clock, h1, h2, h3⟩ := hr.map id k v es hl
  exact ⟨b, ents, clock, h1, by rw [hs.own id b h1]; exact h2, h3.imp fun x m hm => ⟨hm.1, by obtain ⟨cs, q1, q2⟩ := hm.2; exact ⟨cs, q1, rep_cells hs.cells (by rw [hs.size]; exact Nat.le_refl _) _ _ _ q2⟩⟩⟩
theorem relEnv_same {M : Nat → Prop} {w' : World} {e : Env} {a : Act} (hs : Same w w' bs) (h : relEnv w M bs hp e a) : relEnv w' M bs hp e a :=
 fun s x hx => ⟨fun ho => relRV_same hs ((h s x hx).1 ho), (h s x hx).2⟩
theorem loadAt_asAddr {t : TypeId} {v u : Value} {w w' : World} (h : (Instr.loadAt t v).run P w = .ok u w') : (do loadVar t (← asAddr v) : Sem Value).run P w = .ok u w' := by
 cases v with
 | pointer p =>
  cases p with
  | none => simp [Instr.loadAt, Instr.sureAddr, stuck, Sem.run_bind] at h
  | some a => simpa [Instr.loadAt, Instr.sureAddr, asAddr] using h
 | _ => simp [Instr.loadAt, Instr.sureAddr, stuck, Sem.run_bind] at h
theorem results_run (hg : g.ok P) (hr : HR w M0 bs hp) {e : Env} {a : Act} (he : relEnv w (Mof M0 bs) bs hp e a) (fn : Func) (hok : resOk g e hp fn.results.toList) (tm : Array Value) (htm : tm = a.tmps) :
  ∃ vs : List Value, (results fn tm).run P w = .ok (if h : vs.toArray.size = 1 then vs.toArray[0] else .tuple vs.toArray) w ∧ All2 (relAV w (Mof M0 bs) bs hp) (resVs g e hp fn.results.toList) vs := by
 subst htm
 have key : ∀ (f : ResultVar → Sem Value) (hf1 : ∀ t, f (.tmp t) = pure (a.tmps.getD t undef)) (hf2 : ∀ c t, f (.cell c t) = (do loadVar t (← asAddr (a.tmps.getD c undef)))) (l : List ResultVar), resOk g e hp l →
   ∃ vs : List Value, (l.mapM f).run P w = .ok vs w ∧ All2 (relAV w (Mof M0 bs) bs hp) (resVs g e hp l) vs := by
  intro f hf1 hf2 l
  induction l with
  | nil => intro _; exact ⟨[], rfl, .nil⟩
  | cons x r ih =>
   intro h
   obtain ⟨h1, h2⟩ := h
   obtain ⟨vs, k1, k2⟩ := ih h2
   have hx : ∃ v, (f x).run P w = .ok v w ∧ relAV w (Mof M0 bs) bs hp (resEv g e hp x).2 v := by
    cases x with
    | tmp t => rw [hf1]; exact ⟨_, rfl, relRV_av ((getE_rel he t).1 h1)⟩
    | cell c t =>
     rw [hf2]
     obtain ⟨q1, q2⟩ := h1
     obtain ⟨u, q3, q4⟩ := loadEv_sound hg hr t _ _ (relRV_av ((getE_rel he c).1 q1)) q2
     exact ⟨u, loadAt_asAddr q3, relRV_av q4⟩
   obtain ⟨v, hv1, hv2⟩ := hx
   refine ⟨v :: vs, ?_, .cons hv2 k2⟩
   rw [List.mapM_cons, Sem.run_bind, hv1]
   simp only [Result.andThen_ok]
   rw [Sem.run_bind, k1]
   rfl
 have fin : ∀ (f : ResultVar → Sem Value) (hf1 : ∀ t, f (.tmp t) = pure (a.tmps.getD t undef)) (hf2 : ∀ c t, f (.cell c t) = (do loadVar t (← asAddr (a.tmps.getD c undef)))),
   ∃ vs : List Value, ((List.mapM f fn.results.toList).run P w).andThen (fun a w' => (Sem.run P (pure a.toArray) w').andThen fun a w' => Sem.run P (pure (if h : a.size = 1 then a[0] else .tuple a)) w') =
    .ok (if h : vs.toArray.size = 1 then vs.toArray[0] else .tuple vs.toArray) w ∧ All2 (relAV w (Mof M0 bs) bs hp) (resVs g e hp fn.results.toList) vs := by
  intro f hf1 hf2
  obtain ⟨vs, k1, k2⟩ := key f hf1 hf2 _ hok
  refine ⟨vs, ?_, k2⟩
  rw [k1]
  simp [Result.andThen_ok]
 unfold results
 rw [Array.mapM_eq_mapM_toList]
 simp only [Sem.run_bind, bind_assoc, map_eq_pure_bind]
 exact fin _ (fun _ => rfl) (fun _ _ => rfl)
theorem oneRV_rel {w : World} {M : Nat → Prop} {xs : List AV} {vs : List Value} (h : All2 (relAV w M bs hp) xs vs) : relRV w M bs hp (oneRV xs) (if h : vs.toArray.size = 1 then vs.toArray[0] else .tuple vs.toArray) := by
 cases h with
 | nil => exact ⟨[], rfl, .nil⟩
 | cons r h =>
  cases h with
  | nil => exact r
  | cons r2 h => exact ⟨_, by simp, .cons r (.cons r2 h)⟩
def Ty.lenOk : (t : Ty) → t.T → Prop
 | .slice t, xs => xs.length ≤ maxLen ∧ ∀ x ∈ xs, t.lenOk x
 | .cons t r, x => t.lenOk x.1 ∧ r.lenOk x.2
 | .int _, _ => True
 | .bool, _ => True
 | .str, _ => True
 | .nil, _ => True
 | .fn, _ => True
def SV.lenOk : SV → Prop
 | .sl t xs _ => (Ty.slice t).lenOk xs
 | .eptr t x => t.lenOk x
 | _ => True
def AV.lenOk : AV → Prop
 | .s x => x.lenOk
 | .agg cs => ∀ x ∈ cs, x.lenOk
def allLen : List AV → Prop
 | [] => True
 | x :: r => x.lenOk ∧ allLen r
theorem rep_lenOk {w : World} {M : Nat → Prop} : ∀ (t : Ty) (x : t.T) (cs : List Value), rep w M t x cs → t.lenOk x
 | .int k, n, cs, h => trivial
 | .bool, b, cs, h => trivial
 | .str, s, cs, h => trivial
 | .slice t, xs, cs, h => by
  simp only [rep] at h
  obtain ⟨a, c, rfl, h1, h2, h3⟩ := h
  refine ⟨Nat.le_trans h1 h2, fun x hx => ?_⟩
  rcases h3 with rfl | ⟨b, off, ha, hm, hb, he⟩
  ·
   cases hx
  ·
   obtain ⟨i, hi, rfl⟩ := List.getElem_of_mem hx
   obtain ⟨cs, _, k, _⟩ := he i _ (List.getElem?_eq_getElem hi)
   exact rep_lenOk t _ _ k
 | .nil, _, cs, h => trivial
 | .cons t r, x, cs, h => by
  simp only [rep] at h
  obtain ⟨c1, c2, rfl, h1, h2⟩ := h
  exact ⟨rep_lenOk t _ _ h1, rep_lenOk r _ _ h2⟩
 | .fn, _, cs, h => trivial
theorem relSV_lenOk {w : World} {M : Nat → Prop} {bs : Bs} {hp : List Blk} {x : SV} {v : Value} (h : relSV w M bs hp x v) : x.lenOk := by
 cases x with
 | sl t xs ex =>
  obtain ⟨a, c, h1, h2, h3, h4, h5⟩ := h
  exact rep_lenOk (w := w) (M := M) (.slice t) xs [.slice a xs.length c] (by simp only [rep]; exact ⟨a, c, rfl, h2, h3, h5⟩)
 | eptr t x => obtain ⟨b, off, cs, h1, h2, h3, h4, h5⟩ := h; exact rep_lenOk _ _ _ h4
 | _ => trivial
theorem relAV_lenOk {w : World} {M : Nat → Prop} {bs : Bs} {hp : List Blk} {x : AV} {v : Value} (h : relAV w M bs hp x v) : x.lenOk := by
 cases x with
 | s x => exact relSV_lenOk h
 | agg cs =>
  obtain ⟨vs, rfl, h⟩ := h
  intro x hx
  obtain ⟨i, hi, rfl⟩ := List.getElem_of_mem hx
  obtain ⟨u, _, k, _⟩ := h.get i _ (List.getElem?_eq_getElem hi)
  exact relSV_lenOk k
theorem allLen_rel {w : World} {M : Nat → Prop} {bs : Bs} {hp : List Blk} {xs : List AV} {vs : List Value} (h : All2 (relAV w M bs hp) xs vs) : allLen xs := by
 induction h with
 | nil => trivial
 | cons r _ ih => exact ⟨relAV_lenOk r, ih⟩
theorem argEnv_rel {w : World} {M : Nat → Prop} {bs : Bs} {hp : List Blk} : ∀ {xs : List AV} {vs : List Value} (i : Nat) (a : Act), All2 (relAV w M bs hp) xs vs → (∀ (j : Nat) (v : Value), vs[j]? = some v → a.tmps.getD (i + j) undef = v) → relEnv w M bs hp (argEnv i xs) a
 | [], _, i, a, .nil, h => fun s x hs => by simp [argEnv, look] at hs
 | x :: xs, _, i, a, .cons r hr, h => fun s y hs => by
  simp only [argEnv, look] at hs
  split at hs
  ·
   rename_i e; subst e
   injection hs with hs; subst hs
   have := h 0 _ rfl
   simp only [Nat.add_zero] at this
   rw [this]
   exact ⟨fun _ => r, by simp⟩
  ·
   exact argEnv_rel (i + 1) a hr (fun j v hj => by rw [← h (j + 1) v (by simpa using hj)]; congr 1; omega) s y hs
def X0 : XT := fun _ _ _ _ _ _ _ => False
theorem X0_ok : XOk P X0 := ⟨fun h => h.elim, fun h => h.elim⟩
theorem shut_marks {fn : Func} {tmps : Array Value} {r : Option Nat} {n : Nat} : ∀ (Ds : List Nat) (w : World) (R : Ending → World → Prop), Ds.Nodup → (∀ D ∈ Ds, w.heap[D]? = some (.deferred (some []))) →
  (∀ w', w'.heap.size = w.heap.size → w'.os = w.os → w'.tape = w.tape → w'.output = w.output → w'.drawn = w.drawn → (∀ b, b ∉ Ds → w'.heap[b]? = w.heap[b]?) → ∃ v, (results fn tmps).run P w' = .ok v w' ∧ R (.returned v) w') →
  LeavesInM (FW r) n P fn tmps R (Ds.map markOf) .returning w
 | [], w, R, _, _, h => by
  obtain ⟨v, h1, h2⟩ := h w rfl rfl rfl rfl rfl (fun _ _ => rfl)
  exact ⟨v, h1, h2⟩
 | D :: Ds, w, R, hnd, hd, h => by
  refine ⟨by simp, .inl ⟨D, w.putObj D (.deferred none), rfl, run_takeDeferred (hd D (by simp)), ?_⟩⟩
  refine shut_marks Ds _ R (List.nodup_cons.1 hnd).2 (fun E hE => ?_) (fun w' h1 h2 h3 h4 hdr h5 => ?_)
  ·
   have hne : E ≠ D := fun e => (List.nodup_cons.1 hnd).1 (e ▸ hE)
   rw [World.putObj_heap_other hne]
   exact hd E (by simp [hE])
  ·
   refine h w' (by rw [h1]; simp) h2 h3 h4 hdr (fun b hb => ?_)
   simp only [List.mem_cons, not_or] at hb
   rw [h5 b hb.2, World.putObj_heap_other hb.1]
theorem pureOk_of (hg : g.good P) (hy : g.y = false) (hm : P.follows .mixedOrders = true) {f : FuncId} {fn : Func} {c : Code} (hf : P.funcs[f]? = some fn) (hb : fn.body = some c) (con : Con) (k : Nat) (hk : k ≤ fn.ntmps)
  (hok : codeOk' L g.ye fn.ntmps c = true)
  (h : ∀ args, con.pre args → allLen args → args.length = k ∧ vc P g X0 fn.ntmps L c ⟨argEnv 0 args, []⟩ (fun e s => (e = .normal ∨ e = .ret) ∧ retOk g fn s (con.val args))) : PureOk P f con := by
 intro w M0 args vs hpre hM0 hargs
 obtain ⟨hlen, hvc⟩ := h args hpre (allLen_rel hargs)
 have hwp := vc_sound (X := X0) (L := L) hg X0_ok hm c hok _ _ hvc
 refine (callsIn_wide (n := 0)).1 ?_
 have hF : (FW none) = Fence.wide := rfl
 rw [← hF]
 have hr0 : HR w M0 [] [] := by
  refine ⟨rfl, hM0, ?_, ?_, ?_, ?_, ?_, ?_, ?_⟩ <;> intros <;> simp_all [Bs.at, Blk.look]
 have hN : (vs.toArray ++ Array.replicate (fn.ntmps - vs.toArray.size) undef).size = fn.ntmps := by
  have := hargs.length
  simp; omega
 refine callsIn_of_wp_marks (n := 0) hf hb trivial (wpIn_mono (hwp 0 none (some (w.heap.size, [])) M0 [] { tmps := vs.toArray ++ Array.replicate (fn.ntmps - vs.toArray.size) undef, defers := [] } w ⟨fun _ => rfl, by simp [hy]⟩ ⟨hr0, ?_, ?_, hN, ⟨Nat.le_refl _, [], rfl, .nil, by simp⟩⟩) ?_)
 ·
  intro l xs i st ht; simp [Blk.look] at ht
 ·
  refine argEnv_rel 0 _ (hargs.imp fun x v h => relAV_weaken (fun b hb => hb.elim id fun ⟨id, h⟩ => by simp [Bs.at] at h) h) (fun j v hj => ?_)
  have hj2 := (List.getElem?_eq_some_iff.1 hj).1
  simp only [Array.getD_eq_getD_getElem?, Nat.zero_add]
  rw [Array.getElem?_append_left (by simpa using hj2)]
  simp [hj]
 ·
  rintro e a' w' ⟨s', M0', bs', ⟨hke, hk1, vs', hk2, hk3⟩, hr', hn⟩
  obtain rfl : M0' = M0 := hn.eq hy
  obtain ⟨_, Ds, hdf, hnd, hD⟩ := hr'.df
  have hst : Step false w (Mof M0' []) [] [] w' (Mof M0' bs') bs' s'.hp := by have := hn.st; rwa [hy] at this
  have hold := hst.only rfl
  have : LeavesInM (FW none) 0 P fn a'.tmps (fun e w' => ∃ v, e = .returned v ∧ relRV w' M0' [] [] (con.val args) v ∧ Below w.heap.size w w' ∧ w.drawn ≤ w'.drawn) a'.defers .returning w' := by
   rw [hdf, List.append_nil]
   refine shut_marks Ds w' _ hnd (fun D h => (hD D h).2.2.2) fun w'' h1 h2 h3 h4 hdr h5 => ?_
   have hsame : Same w' w'' bs' := by
    refine ⟨fun p u hp => ?_, h1, fun id b hb => h5 b fun hm => (hD b hm).2.2.1 (.inr ⟨id, hb⟩)⟩
    have hne : p.block ∉ Ds := fun hm => by
     have := (hD _ hm).2.2.2
     simp [World.cell?, this] at hp
    rw [← hp]
    exact World.cell?_of_block (h5 _ hne)
   obtain ⟨us, q1, q2⟩ := results_run hg.1 (hr'.hr.same hsame) (relEnv_same hsame hr'.env) fn hk1 _ rfl
   have q3 := frzAs_sound (hr'.hr.same hsame) q2 hk2
   refine ⟨_, q1, _, rfl, ?_, ?_⟩
   ·
    rw [← hk3]; exact oneRV_rel q3
   ·
    have e1 := hst.evo
    refine ⟨⟨h2.trans e1.os, h3.trans e1.tape, h4.trans e1.output, by rw [h1]; exact e1.size, fun b hb => by
     rw [h5 b (fun hm => by have := (hD b hm).1; omega)]
     exact hold.old b hb (by simp [Bs.at])⟩, by rw [hdr]; exact e1.drawn⟩
  rcases hke with rfl | rfl <;> exact this
end
structure ItCon where
 pre : List AV → Prop
 xs : List AV → List (List AV)
def ItOk (P : Program) (f : FuncId) (ic : ItCon) : Prop :=
 (∀ (args : Array Value) (w : World), (callFunc f args).run P w = .ok (.enter f args) w) ∧
 ∀ (X : XT) (l : Nat) (w : World) (M0 : Nat → Prop) (caps : List AV) (vs : List Value), XOk P X → ic.pre caps → (∀ b, M0 b → b < w.heap.size) → All2 (relAV w M0 [] []) caps vs → X l (ic.xs caps) 0 false w M0 (fun _ => False) →
  ∀ n, CallsIn (FW none) n P f (#[.func (.yield l) #[] #[]] ++ vs.toArray) w fun e w' => ∃ v i st M0' B', e = .returned v ∧ X l (ic.xs caps) i st w' M0' B' ∧ (st = false → i = (ic.xs caps).length)
section
variable {P : Program} {g : G} {X : XT} {N : Nat} {n0 : Option Nat} {L : Cfg} {w : World} {M0 : Nat → Prop} {bs : Bs} {hp : List Blk}
def yieldAV (l : Nat) : AV := .s (.val (.func (.yield l) #[] #[]))
theorem itOk_of (hg : g.good P) (hy : g.y = true) (hm : P.follows .mixedOrders = true) {f : FuncId} {fn : Func} {c : Code} (hf : P.funcs[f]? = some fn) (hent : ∀ (args : Array Value) (w : World), (callFunc f args).run P w = .ok (.enter f args) w) (hb : fn.body = some c) (hres : fn.results = #[]) (ic : ItCon) (k : Nat) (hk : k < fn.ntmps)
  (hok : codeOk' L g.ye fn.ntmps c = true)
  (h : ∀ caps l, ic.pre caps → allLen caps → caps.length = k ∧ ∀ X, XOk P X → vc P g X fn.ntmps L c ⟨argEnv 0 (yieldAV l :: caps), [.trace l (ic.xs caps) 0 false]⟩ (fun e s => (e = .normal ∨ e = .ret) ∧ ∃ i st, Blk.look s.hp 0 = .trace l (ic.xs caps) i st ∧ (st = false → i = (ic.xs caps).length))) :
  ItOk P f ic := by
 refine ⟨hent, fun X l w M0 caps vs hX hpre hM0 hargs hx n => ?_⟩
 obtain ⟨hlen, hvc⟩ := h caps l hpre (allLen_rel hargs)
 have hwp := vc_sound (X := X) (L := L) hg hX hm c hok _ _ (hvc X hX)
 have hr0 : HR w M0 [none] [.trace l (ic.xs caps) 0 false] := by
  have hat : ∀ id b, Bs.at [none] id ≠ some b := by
   intro id b h
   cases id <;> simp [Bs.at] at h
  have hlk : ∀ id x, Blk.look [.trace l (ic.xs caps) 0 false] id = x → x = .trace l (ic.xs caps) 0 false ∨ x = .dead := by
   intro id x h
   cases id <;> simp [Blk.look] at h
   ·
    exact .inl h.symm
   ·
    exact .inr h.symm
  refine ⟨rfl, hM0, fun id b h => absurd h (hat id b), fun i j b h => absurd h (hat i b), fun id b h => absurd h (hat id b), fun id cs h => ?_, fun id cs h => ?_, fun id al cs b _ h => absurd h (hat id b), fun id k v es h => ?_⟩
  all_goals (rcases hlk _ _ h with h | h <;> cases h)
 have hmof : ∀ b, Mof M0 [none] b → M0 b := by
  rintro b (h | ⟨id, h⟩)
  ·
   exact h
  ·
   cases id <;> simp [Bs.at] at h
 have hrel : All2 (relAV w (Mof M0 [none]) [none] [.trace l (ic.xs caps) 0 false]) (yieldAV l :: caps) (.func (.yield l) #[] #[] :: vs) :=
  .cons rfl (hargs.imp fun x v h => relAV_lift (relAV_weaken hmof h))
 have hvs : #[.func (.yield l) #[] #[]] ++ vs.toArray = ((.func (.yield l) #[] #[] :: vs : List Value)).toArray := by simp
 rw [hvs]
 have hN : ((.func (.yield l) #[] #[] :: vs : List Value).toArray ++ Array.replicate (fn.ntmps - (.func (.yield l) #[] #[] :: vs : List Value).toArray.size) undef).size = fn.ntmps := by
  have := hargs.length
  simp; omega
 refine callsIn_of_wp_marks (n := n) hf hb trivial (wpIn_mono (hwp n none none M0 [none] { tmps := (.func (.yield l) #[] #[] :: vs : List Value).toArray ++ Array.replicate (fn.ntmps - (.func (.yield l) #[] #[] :: vs : List Value).toArray.size) undef, defers := [] } w ⟨fun _ => rfl, by simp [hy]⟩ ⟨hr0, ?_, ?_, hN, rfl⟩) ?_)
 ·
  intro l2 xs i st ht
  simp [Blk.look] at ht
  obtain ⟨rfl, rfl, rfl, rfl⟩ := ht
  have : inBs [none] = fun _ => False := by
   funext b; apply propext; constructor
   ·
    rintro ⟨id, h⟩; cases id <;> simp [Bs.at] at h
   ·
    exact False.elim
  rw [this]; exact hx
 ·
  refine argEnv_rel 0 _ hrel (fun j v hj => ?_)
  have hj2 := (List.getElem?_eq_some_iff.1 hj).1
  simp only [Array.getD_eq_getD_getElem?, Nat.zero_add]
  rw [Array.getElem?_append_left (by simpa using hj2)]
  simp only [List.getElem?_toArray, hj, Option.getD_some]
 ·
  rintro e a' w' ⟨s', M0', bs', ⟨hke, i, st, hlk, hend⟩, hr', hn⟩
  have hdf : a'.defers = [] := hr'.df
  have : LeavesInM (FW none) n P fn a'.tmps (fun e w' => ∃ v i st M0' B', e = .returned v ∧ X l (ic.xs caps) i st w' M0' B' ∧ (st = false → i = (ic.xs caps).length)) a'.defers .returning w' := by
   rw [hdf]
   exact ⟨.tuple #[], by simp [results, hres], _, i, st, M0', _, rfl, hr'.xr _ _ _ _ hlk, hend⟩
  rcases hke with rfl | rfl <;> exact this
def psE : List Nat → List AV → Env → Env
 | p :: ps, x :: xs, e => psE ps xs ((p, ⟨true, .v x⟩) :: e)
 | _, _, e => e
theorem psE_rel {M : Nat → Prop} (d : List Deferred) : ∀ (ps : List Nat) (xs : List AV) (vs : List Value) (e : Env) (tm : Array Value), All2 (relAV w M bs hp) xs vs → (∀ p ∈ ps, p < tm.size) → relEnv w M bs hp e { tmps := tm, defers := d } →
  relEnv w M bs hp (psE ps xs e) { tmps := (ps.zip vs).foldl (fun t (p, v) => t.setIfInBounds p v) tm, defers := d } ∧ ((ps.zip vs).foldl (fun t (p, v) => t.setIfInBounds p v) tm).size = tm.size
 | [], xs, vs, e, tm, _, _, h => by cases xs <;> exact ⟨h, rfl⟩
 | p :: ps, _, _, e, tm, .nil, _, h => ⟨h, rfl⟩
 | p :: ps, _, _, e, tm, .cons r hr, hp', h => by
  have h1 := relEnv_put (a := { tmps := tm, defers := d }) h (some p) ⟨true, .v _⟩ _ ⟨fun _ => r, by simp⟩ (fun k hk => by cases hk; exact hp' p (by simp))
  have := psE_rel d ps _ _ _ (tm.setIfInBounds p _) hr (fun q hq => by simp; exact hp' q (by simp [hq])) h1
  simp only [psE, List.zip_cons_cons, List.foldl_cons]
  refine ⟨this.1, this.2.trans (by simp)⟩
def jumpC : Exit → Option Code
 | .ret => some .ret
 | .exit id => some (.exit id)
 | .goto t => some (.goto t)
 | _ => none
def G.round (g : G) : G := { g with top := false }
def recOf (fn : FuncId) (tmps : Array Value) (ps : Array Tmp) (assign body : Code) (D : Nat) (st : LoopState) (pe : Option Code) : Loop := { state := st, pending := pe, fn, tmps, params := ps, assign, body, defers := D }
theorem HR.keep' {M0' : Nat → Prop} (hr : HR w M0 bs hp) {w' : World} (he : Evo (Mof M0 bs) (Mof M0' bs) w w') (hs : ∀ id b, bs.at id = some b → w'.heap[b]? = w.heap[b]?) (hm : ∀ b, M0' b → b < w'.heap.size) (ho : ∀ id b, bs.at id = some b → ¬ M0' b) :
  HR w' M0' bs hp ∧ Step true w (Mof M0 bs) bs hp w' (Mof M0' bs) bs hp := by
 have hst : Step true w (Mof M0 bs) bs hp w' (Mof M0' bs) bs hp :=
  ⟨he, Nat.le_refl _, fun id cs _ h => ⟨⟨cs, h⟩, rfl⟩, fun id b k u es h1 h2 => ⟨h1, es, h2⟩, fun id al cs _ h => ⟨al, cs, h, .inr ⟨rfl, rfl, fun _ => rfl, fun b hb cap size ho => by
   obtain ⟨cur, e, h1, h2⟩ := ho
   exact ⟨cur, e, by rw [hs id b hb]; exact h1, h2⟩⟩⟩, by simp⟩
 refine ⟨⟨hr.len, hm, fun id b h => Nat.lt_of_lt_of_le (hr.lt id b h) he.size, hr.inj, ho, hr.al, ?_, ?_, ?_⟩, hst⟩
 ·
  intro id cs hl
  obtain ⟨b, cur, e, h1, h2, h3, h4⟩ := hr.cells id cs hl
  refine ⟨b, cur, e, h1, by rw [hs id b h1]; exact h2, h3, fun j x hj => ?_⟩
  obtain ⟨u, k1, k2, k3⟩ := h4 j x hj
  exact ⟨u, k1, k2, relSV_step hst x u k3⟩
 ·
  intro id al cs b hl hb
  obtain ⟨cur, e, h2, h4⟩ := hr.arr id al cs b hl hb
  refine ⟨cur, e, by rw [hs id b hb]; exact h2, fun j x hj => ?_⟩
  obtain ⟨u, k1, k2, k3⟩ := h4 j x hj
  exact ⟨u, k1, k2, relSV_step hst x u k3⟩
 ·
  intro id k v es hl
  obtain ⟨b, ents, clock, h1, h2, h3⟩ := hr.map id k v es hl
  exact ⟨b, ents, clock, h1, by rw [hs id b h1]; exact h2, h3.imp fun x m hm => ⟨hm.1, repV_evo he hm.2⟩⟩
structure Stays (w0 : World) (M0 : Nat → Prop) (bs0 : Bs) (hp0 : List Blk) (D l : Nat) (B : Nat → Prop) (w : World) (bs : Bs) (hp : List Blk) : Prop where
 hr : HR w (fun b => M0 b ∨ b = l ∨ B b) bs hp
 st : Step true w0 (Mof M0 bs0) bs0 hp0 w (Mof (fun b => M0 b ∨ b = l ∨ B b) bs) bs hp
 only : Only w0 bs0 hp0 w bs hp
 tr : ∀ l xs i st, Blk.look hp 0 ≠ .trace l xs i st
 dD : DefOk (some (0, [])) w (Mof (fun b => M0 b ∨ b = l ∨ B b) bs) [markOf D]
def XC (K : Exit → List Blk → Prop) (R : Nat → List Blk → Prop) (fn : FuncId) (tmps : Array Value) (ps : Array Tmp) (assign body : Code) (w0 : World) (M0 : Nat → Prop) (bs0 : Bs) (hp0 : List Blk) (D l0 : Nat) (xs0 : List (List AV)) : XT :=
 fun l xs i st w MI B => l = l0 ∧ xs = xs0 ∧ ∃ bs hp pe, (∀ b, MI b ↔ (M0 b ∨ inBs bs b ∨ b = l0)) ∧ w.heap[l0]? = some (.loop (recOf fn tmps ps assign body D (if st then .done else .ready) pe)) ∧ ¬ B l0 ∧ ¬ inBs bs l0 ∧ w0.heap.size ≤ l0 ∧ (∀ b, B b → w0.heap.size ≤ b) ∧
  Stays w0 M0 bs0 hp0 D l0 B w bs hp ∧ (st = false → pe = none ∧ R i hp) ∧ (st = true → ∃ e c, pe = some c ∧ jumpC e = some c ∧ K e hp)
theorem XC_stable {K : Exit → List Blk → Prop} {R : Nat → List Blk → Prop} {fn : FuncId} {tmps : Array Value} {ps : Array Tmp} {assign body : Code} {w0 : World} {bs0 : Bs} {hp0 : List Blk} {D l0 : Nat} {xs0 : List (List AV)}
  {l : Nat} {xs : List (List AV)} {i : Nat} {st : Bool} {w w' : World} {MI B B' : Nat → Prop} (h : XC K R fn tmps ps assign body w0 M0 bs0 hp0 D l0 xs0 l xs i st w MI B) (hos : w'.os = w.os) (htp : w'.tape = w.tape) (hou : w'.output = w.output) (hsz : w.heap.size ≤ w'.heap.size) (hdr : w.drawn ≤ w'.drawn)
  (hsame : ∀ b, b < w.heap.size → ¬ B b → w'.heap[b]? = w.heap[b]?) (hnew : ∀ b, b < w.heap.size → ¬ B b → ¬ B' b) (hB' : ∀ b, B' b → b < w'.heap.size) : XC K R fn tmps ps assign body w0 M0 bs0 hp0 D l0 xs0 l xs i st w' MI B' := by
 obtain ⟨rfl, rfl, bs, hp, pe, hMI, hrec, hBl, hbl, hl0, hB0, hS, h1, h2⟩ := h
 have hll : l < w.heap.size := (Array.getElem?_eq_some_iff.1 hrec).1
 have hw0 : w0.heap.size ≤ w.heap.size := by omega
 have he : Evo (Mof (fun b => M0 b ∨ b = l ∨ B b) bs) (Mof (fun b => M0 b ∨ b = l ∨ B' b) bs) w w' := by
  refine ⟨hos, htp, hou, hsz, hdr, fun b hb hn => hsame b hb fun hB => hn (.inl (.inr (.inr hB))), fun b hb hn hm => ?_⟩
  have hnB : ¬ B b := fun hB => hn (.inl (.inr (.inr hB)))
  rcases hm with (hm | hm | hm) | hm
  ·
   exact hn (.inl (.inl hm))
  ·
   exact hn (.inl (.inr (.inl hm)))
  ·
   exact hnew b hb hnB hm
  ·
   exact hn (.inr hm)
 have hBbs : ∀ id b, bs.at id = some b → ¬ B b := fun id b hb hB => hS.hr.out id b hb (.inr (.inr hB))
 obtain ⟨k1, k2⟩ := hS.hr.keep' he (fun id b hb => hsame b (hS.hr.lt id b hb) (hBbs id b hb)) (fun b hb => by
  rcases hb with hb | hb | hb
  ·
   exact Nat.lt_of_lt_of_le (hS.hr.m0 b (.inl hb)) hsz
  ·
   subst hb; omega
  ·
   exact hB' b hb) (fun id b hb hm => by
  rcases hm with hm | hm | hm
  ·
   exact hS.hr.out id b hb (.inl hm)
  ·
   exact hS.hr.out id b hb (.inr (.inl hm))
  ·
   exact hnew b (hS.hr.lt id b hb) (hBbs id b hb) hm)
 have hge : ∀ b, B' b → w0.heap.size ≤ b := fun b hb => by
  rcases Nat.lt_or_ge b w.heap.size with hlt | hge
  ·
   by_cases hB : B b
   ·
    exact hB0 b hB
   ·
    exact absurd hb (hnew b hlt hB)
  ·
   omega
 refine ⟨rfl, rfl, bs, hp, pe, hMI, by rw [hsame l hll hBl]; exact hrec, hnew l hll hBl, hbl, hl0, hge, ⟨k1, hS.st.trans k2, ?_, hS.tr, hS.dD.evo he⟩, h1, h2⟩
 refine ⟨fun b hb hn => (hsame b (by omega) fun hB => by have := hB0 b hB; omega).trans (hS.only.old b hb hn), hS.only.new, hS.only.tr⟩
theorem Only.touch {w0 : World} {bs0 : Bs} {hp0 : List Blk} (h : Only w0 bs0 hp0 w bs hp) {w' : World} (hs : ∀ b, b < w0.heap.size → w'.heap[b]? = w.heap[b]?) : Only w0 bs0 hp0 w' bs hp :=
 ⟨fun b hb hn => (hs b hb).trans (h.old b hb hn), h.new, h.tr⟩
theorem Evo.congr {A B A' B' : Nat → Prop} {w w' : World} (h : Evo A B w w') (h1 : ∀ b, A b ↔ A' b) (h2 : ∀ b, B b ↔ B' b) : Evo A' B' w w' :=
 ⟨h.os, h.tape, h.output, h.size, h.drawn, fun b hb hn => h.block b hb fun k => hn ((h1 b).1 k), fun b hb hn k => h.free b hb (fun k => hn ((h1 b).1 k)) ((h2 b).2 k)⟩
theorem Evo.putObj {M : Nat → Prop} {l : Nat} (o : Obj) (hl : M l) : Evo M M w (w.putObj l o) :=
 ⟨rfl, rfl, rfl, by simp, Nat.le_refl _, fun b hb hn => World.putObj_heap_other (fun e => hn (e ▸ hl)), fun _ _ h => h⟩
theorem Stays.record {w0 : World} {bs0 : Bs} {hp0 : List Blk} {D l : Nat} {B : Nat → Prop} (h : Stays w0 M0 bs0 hp0 D l B w bs hp) (hl0 : w0.heap.size ≤ l) (hl : ¬ inBs bs l) (hll : l < w.heap.size) {r0 : Loop} (hr0 : w.heap[l]? = some (.loop r0)) (r1 : Loop) : Stays w0 M0 bs0 hp0 D l B (w.putObj l (.loop r1)) bs hp := by
 have he : Evo (Mof (fun b => M0 b ∨ b = l ∨ B b) bs) (Mof (fun b => M0 b ∨ b = l ∨ B b) bs) w (w.putObj l (.loop r1)) := Evo.putObj _ (.inl (.inr (.inl rfl)))
 obtain ⟨k1, k2⟩ := h.hr.keep' he (fun id b hb => World.putObj_heap_other fun e => hl ⟨id, e ▸ hb⟩) (fun b hb => by have := h.hr.m0 b hb; simpa using this) h.hr.out
 exact ⟨k1, h.st.trans k2, h.only.touch fun b hb => World.putObj_heap_other (by omega), h.tr, h.dD.evo he⟩
theorem Stays.step {w0 : World} {bs0 : Bs} {hp0 : List Blk} {D l : Nat} {B : Nat → Prop} (h : Stays w0 M0 bs0 hp0 D l B w bs hp) {w' : World} {bs' : Bs} {hp' : List Blk} (hr : HR w' (fun b => M0 b ∨ b = l ∨ B b) bs' hp')
  (hs : Step false w (Mof (fun b => M0 b ∨ b = l ∨ B b) bs) bs hp w' (Mof (fun b => M0 b ∨ b = l ∨ B b) bs') bs' hp') : Stays w0 M0 bs0 hp0 D l B w' bs' hp' :=
 ⟨hr, h.st.trans hs.weaken, h.only.trans h.st.evo.size (hs.only rfl), fun l xs i st ht => h.tr l xs i st ((hs.only rfl).tr 0 l xs i st ht), h.dD.evo hs.evo⟩
theorem zip_foldl (ps : Array Tmp) (vs : List Value) (tm : Array Value) :
  (ps.zip vs.toArray).foldl (fun t (x : Tmp × Value) => t.setIfInBounds x.1 x.2) tm = (ps.toList.zip vs).foldl (fun t (p, v) => t.setIfInBounds p v) tm := by
 rw [← Array.foldl_toList]; simp
def TrT (n : Nat) (hp hp' : List Blk) : Prop := hp' = hp ∨ ∃ junk, hp = hp' ++ junk ∧ n ≤ hp'.length ∧ hp'.all (fun b => b.below hp'.length) = true
theorem TrT.refl (n : Nat) (hp : List Blk) : TrT n hp hp := .inl rfl
theorem TrT.drop {n : Nat} {hp junk : List Blk} (h : n ≤ hp.length) (hb : hp.all (fun b => b.below hp.length) = true) : TrT n (hp ++ junk) hp := .inr ⟨junk, rfl, h, hb⟩
theorem Step.trunc' {v : Bool} {w0 w : World} {MM M : Nat → Prop} {bs0 bs : Bs} {hp0 hp junk : List Blk} (hl : hp0.length ≤ hp.length) (hst : Step v w0 MM bs0 hp0 w (Mof M bs) bs (hp ++ junk)) : Step v w0 MM bs0 hp0 w (Mof M (bs.take hp.length)) (bs.take hp.length) hp := by
 have hev : Evo (Mof M bs) (Mof M (bs.take hp.length)) w w := Evo.more w fun b _ => Mof_take
 refine ⟨hst.evo.trans hev, by omega, ?_, ?_, ?_, fun hv => ?_⟩
 ·
  intro id cs h1 h2
  rw [at_take (by omega)]
  exact hst.box id cs h1 (by rw [look_app (by omega)]; exact h2)
 ·
  intro id b k u es h1 h2
  have hlt : id < hp0.length := look_lt (by rw [h2]; simp)
  obtain ⟨k1, es', k2⟩ := hst.map id b k u es h1 h2
  exact ⟨by rw [at_take (by omega)]; exact k1, es', by rw [← look_app (junk := junk) (by omega)]; exact k2⟩
 ·
  intro id al cs hid h
  rw [at_take (by omega)]
  exact hst.own id al cs hid (by rw [look_app (by omega)]; exact h)
 ·
  have ho := hst.only hv
  exact ⟨ho.old, fun b hb hn j hj => ho.new b hb hn j (at_take' hj), fun j l ys i st ht => ho.tr j l ys i st (by rw [look_app (look_lt (by rw [ht]; simp))]; exact ht)⟩
theorem Stays.trunc {w0 w : World} {bs0 bs : Bs} {hp0 hp junk : List Blk} {D l : Nat} {B : Nat → Prop} (h : Stays w0 M0 bs0 hp0 D l B w bs (hp ++ junk)) (hl : hp0.length ≤ hp.length) (hb : hp.all (fun b => b.below hp.length) = true) : Stays w0 M0 bs0 hp0 D l B w (bs.take hp.length) hp :=
  ⟨h.hr.trunc hb, Step.trunc' hl h.st, ⟨h.only.old, fun b hb hn j hj => h.only.new b hb hn j (at_take' hj), fun j l ys i st ht => h.only.tr j l ys i st (by rw [look_app (look_lt (by rw [ht]; simp))]; exact ht)⟩,
   fun l xs i st ht => h.tr l xs i st (by rw [look_app (look_lt (by rw [ht]; simp))]; exact ht), h.dD.evo (Evo.more w fun b _ => Mof_take)⟩
def roundK (KJ : Exit → List Blk → Prop) (R : List Blk → Prop) (n : Nat) : Exit → St → Prop
 | .normal, s => ∃ hp', TrT n s.hp hp' ∧ R hp'
 | .ret, s => KJ .ret s.hp
 | .exit id, s => KJ (.exit id) s.hp
 | .goto t, s => KJ (.goto t) s.hp
 | _, _ => False
theorem XC_ok (hg : g.good P) (hy : g.y = false) (hm : P.follows .mixedOrders = true) {KJ : Exit → List Blk → Prop} {R : Nat → List Blk → Prop} {fn : FuncId} {tmps : Array Value} {ps : Array Tmp} {assign body : Code} {w0 : World} {bs0 : Bs} {hp0 : List Blk} {D l0 : Nat} {xs0 : List (List AV)} {e0 : Env}
  (he0 : relEnv w0 (Mof M0 bs0) bs0 hp0 e0 { tmps := tmps, defers := [] }) (hN : tmps.size = N) (hps : ∀ p ∈ ps.toList, p < N) (hoka : codeOk' L g.ye N assign = true) (hokb : codeOk' L g.ye N body = true)
  (hround : ∀ i args hp, xs0[i]? = some args → R i hp → args.length = ps.size ∧ vc P g.round X0 N L assign ⟨psE ps.toList args e0, hp⟩ (thenK (fun s1 => vc P g.round X0 N L body s1 (roundK KJ (R (i + 1)) hp0.length)) (fun _ _ => False))) :
  XOk P (XC KJ R fn tmps ps assign body w0 M0 bs0 hp0 D l0 xs0) := by
 refine ⟨fun h h1 h2 h3 h4 h4d h5 h6 h7 => XC_stable h h1 h2 h3 h4 h4d h5 h6 h7, ?_⟩
 rintro l xs i w MI B args vs ⟨rfl, rfl, bs, hp, pe, hMI, hrec, hBl, hbl, hl0, hB0, hS, h1, _⟩ hi hMI0 hB hargs
 obtain ⟨rfl, hR⟩ := h1 rfl
 obtain ⟨hlen, hvc⟩ := hround i args hp hi hR
 have hll : l < w.heap.size := (Array.getElem?_eq_some_iff.1 hrec).1
 simp only [if_neg, Bool.false_eq_true, not_false_eq_true] at hrec
 have hy' := run_yield (P := P) (args := vs.toArray) hrec (by have := hargs.length; simp [recOf]; omega)
 refine ⟨fn, _, assign, body, hy', fun n r => roundIn_of_wpIn trivial ?_⟩
 have hgr : g.round.good P := hg
 have hA := vc_sound (L := L) (N := N) hgr X0_ok hm assign hoka _ _ hvc
 have hsub : ∀ b, Mof (fun b => M0 b ∨ b = l ∨ B b) bs b → (fun b => MI b ∨ B b) b := by
  rintro b ((hb | hb | hb) | hb)
  ·
   exact .inl ((hMI b).2 (.inl hb))
  ·
   exact .inl ((hMI b).2 (.inr (.inr hb)))
  ·
   exact .inr hb
  ·
   exact .inl ((hMI b).2 (.inr (.inl hb)))
 obtain ⟨q1, q2⟩ := psE_rel [] ps.toList args vs e0 tmps ((all2_weaken hsub hargs).imp fun x v h => relAV_lift (bs := bs) (hp := hp) h) (by rw [hN]; exact hps) (relEnv_step hS.st he0)
 have htm : (ps.zip vs.toArray).foldl (fun t (x : Tmp × Value) => t.setIfInBounds x.1 x.2) tmps = (ps.toList.zip vs).foldl (fun t (p, v) => t.setIfInBounds p v) tmps := zip_foldl ps vs tmps
 have hrel : Rel P X0 N (some (0, [])) w (fun b => M0 b ∨ b = l ∨ B b) bs { tmps := (ps.toList.zip vs).foldl (fun t (p, v) => t.setIfInBounds p v) tmps, defers := [] } ⟨psE ps.toList args e0, hp⟩ :=
  ⟨hS.hr, fun l xs i st ht => absurd ht (hS.tr l xs i st), q1, q2.trans hN, ⟨Nat.zero_le _, [], rfl, .nil, by simp⟩⟩
 have hFW : (FW r).inRound l = FW (some l) := rfl
 rw [hFW]
 have hgoal := hA n (some l) (some (0, [])) _ bs _ w ⟨by simp [G.round], by simp [G.round, hy]⟩ hrel
 rw [← htm] at hgoal
 refine wpIn_mono hgoal ?_
 rintro e a1 w1 ⟨s1, M1, bs1, hK1, hrel1, hnx1⟩
 obtain rfl : M1 = _ := hnx1.eq hy
 cases e with
 | normal =>
  have hst1 : Step false w (Mof (fun b => M0 b ∨ b = l ∨ B b) bs) bs hp w1 (Mof (fun b => M0 b ∨ b = l ∨ B b) bs1) bs1 s1.hp := by have := hnx1.st; rwa [show g.round.y = false from hy] at this
  have hS1 := hS.step hrel1.hr hst1
  have ho1 := hst1.only rfl
  have hl1 : ¬ inBs bs1 l := fun ⟨id, h⟩ => ho1.new l hll (fun id h => hbl ⟨id, h⟩) id h
  have hrec1 : w1.heap[l]? = some (.loop (recOf fn tmps ps assign body D .ready none)) := (ho1.old l hll fun id h => hbl ⟨id, h⟩).trans hrec
  have hll1 : l < w1.heap.size := (Array.getElem?_eq_some_iff.1 hrec1).1
  refine ⟨_, run_beginRound hrec1 rfl, ?_⟩
  have hS2 := hS1.record hl0 hl1 hll1 hrec1 ({ recOf fn tmps ps assign body D .ready none with state := .busy })
  have hev2 : Evo (Mof (fun b => M0 b ∨ b = l ∨ B b) bs1) (Mof (fun b => M0 b ∨ b = l ∨ B b) bs1) w1 (w1.putObj l (.loop { recOf fn tmps ps assign body D .ready none with state := .busy })) := Evo.putObj _ (.inl (.inr (.inl rfl)))
  obtain ⟨_, hst2⟩ := hrel1.hr.keep' hev2 (fun id b hb => World.putObj_heap_other fun e => hl1 ⟨id, e ▸ hb⟩) (fun b hb => by have := hrel1.hr.m0 b hb; simpa using this) hrel1.hr.out
  have hB2 := vc_sound (L := L) (N := N) hgr X0_ok hm body hokb _ _ hK1
  have hrel2 : Rel P X0 N (some (0, [])) (w1.putObj l (.loop { recOf fn tmps ps assign body D .ready none with state := .busy })) (fun b => M0 b ∨ b = l ∨ B b) bs1 a1 s1 :=
   ⟨hS2.hr, fun l xs i st ht => absurd ht (hS2.tr l xs i st), relEnv_step hst2 hrel1.env, hrel1.size, hrel1.df.evo hev2⟩
  refine wpIn_mono (hB2 n (some l) (some (0, [])) _ bs1 a1 _ ⟨by simp [G.round], by simp [G.round, hy]⟩ hrel2) ?_
  rintro e a2 w2 ⟨s2, M2, bs2, hK2, hrel3, hnx2⟩
  obtain rfl : M2 = _ := hnx2.eq hy
  have hst3 := hnx2.st
  rw [show g.round.y = false from hy] at hst3
  have hS3 := hS2.step hrel3.hr hst3
  have ho3 := hst3.only rfl
  have hl2 : ¬ inBs bs2 l := fun ⟨id, h⟩ => ho3.new l (by simpa using hll1) (fun id h => hl1 ⟨id, h⟩) id h
  have hrec2 : w2.heap[l]? = some (.loop { recOf fn tmps ps assign body D .ready none with state := .busy }) := (ho3.old l (by simpa using hll1) fun id h => hl1 ⟨id, h⟩).trans (World.putObj_heap_same hll1)
  have hll2 : l < w2.heap.size := (Array.getElem?_eq_some_iff.1 hrec2).1
  have fin : ∀ (bsF : Bs) (hpF : List Blk), Stays w0 M0 bs0 hp0 D l B w2 bsF hpF → (∀ b, inBs bsF b → inBs bs2 b) → ∀ (jump : Option Code), (jump = none → R (i + 1) hpF) → (∀ c, jump = some c → ∃ e, jumpC e = some c ∧ KJ e hpF) →
    ∃ v w', (Instr.endRound l jump).run P w2 = .ok v w' ∧ ∃ b M0', Ending.returned v = .returned (.bool b) ∧ XC KJ R fn tmps ps assign body w0 M0 bs0 hp0 D l xs l xs (i + 1) (!b) w' M0' B ∧ YStep w MI B w' M0' := by
   intro bsF hpF hSF hle jump hj1 hj2
   have hlF : ¬ inBs bsF l := fun h => hl2 (hle l h)
   refine ⟨_, _, run_endRound jump hrec2, jump.isNone, (fun b => M0 b ∨ inBs bsF b ∨ b = l), rfl, ?_, ?_⟩
   ·
    have hS4 := hSF.record hl0 hlF hll2 hrec2 ({ recOf fn tmps ps assign body D .ready none with state := if jump.isNone then .ready else .done, pending := jump })
    refine ⟨rfl, rfl, bsF, hpF, jump, fun b => Iff.rfl, ?_, hBl, hlF, hl0, hB0, hS4, ?_, ?_⟩
    ·
     rw [World.putObj_heap_same hll2]
     cases jump <;> rfl
    ·
     intro hb
     cases jump with
     | none => exact ⟨rfl, hj1 rfl⟩
     | some c => simp at hb
    ·
     intro hb
     cases jump with
     | none => simp at hb
     | some c =>
      obtain ⟨e, k1, k2⟩ := hj2 c rfl
      exact ⟨e, c, rfl, k1, k2⟩
   ·
    have hset1 : ∀ b, Mof (fun b => M0 b ∨ b = l ∨ B b) bs b ↔ (fun b => MI b ∨ B b) b := fun b => ⟨hsub b, by
     rintro (hb | hb)
     ·
      rcases (hMI b).1 hb with hb | hb | hb
      ·
       exact .inl (.inl hb)
      ·
       exact .inr hb
      ·
       exact .inl (.inr (.inl hb))
     ·
      exact .inl (.inr (.inr hb))⟩
    have hset2 : ∀ b, Mof (fun b => M0 b ∨ b = l ∨ B b) bsF b ↔ (fun b => (M0 b ∨ inBs bsF b ∨ b = l) ∨ B b) b := fun b => ⟨by
     rintro ((hb | hb | hb) | hb)
     ·
      exact .inl (.inl hb)
     ·
      exact .inl (.inr (.inr hb))
     ·
      exact .inr hb
     ·
      exact .inl (.inr (.inl hb)), by
     rintro ((hb | hb | hb) | hb)
     ·
      exact .inl (.inl hb)
     ·
      exact .inr hb
     ·
      exact .inl (.inr (.inl hb))
     ·
      exact .inl (.inr (.inr hb))⟩
    have hev4 : Evo (Mof (fun b => M0 b ∨ b = l ∨ B b) bs2) (Mof (fun b => M0 b ∨ b = l ∨ B b) bs2) w2 (w2.putObj l (.loop { recOf fn tmps ps assign body D .ready none with state := if jump.isNone then .ready else .done, pending := jump })) := Evo.putObj _ (.inl (.inr (.inl rfl)))
    have hevF : Evo (Mof (fun b => M0 b ∨ b = l ∨ B b) bs2) (Mof (fun b => M0 b ∨ b = l ∨ B b) bsF) _ _ := Evo.more (w2.putObj l (.loop { recOf fn tmps ps assign body D .ready none with state := if jump.isNone then .ready else .done, pending := jump })) fun b _ hb => by
     rcases hb with hb | hb
     ·
      exact .inl hb
     ·
      exact .inr (hle b hb)
    have hev := (((hst1.evo.trans hev2).trans hst3.evo).trans hev4).trans hevF
    have hBb : ∀ b, B b → b ≠ l ∧ ¬ inBs bs b ∧ ¬ inBs bs1 b ∧ ¬ inBs bs2 b := fun b hb => by
     have h0 : ¬ inBs bs b := fun h => (hB b hb).2 ((hMI b).2 (.inr (.inl h)))
     have h1 : ¬ inBs bs1 b := fun ⟨id, h⟩ => ho1.new b (hB b hb).1 (fun id h => h0 ⟨id, h⟩) id h
     have h2 : ¬ inBs bs2 b := fun ⟨id, h⟩ => ho3.new b (by have := hst1.evo.size; have := (hB b hb).1; simp; omega) (fun id h => h1 ⟨id, h⟩) id h
     exact ⟨fun e => hBl (e ▸ hb), h0, h1, h2⟩
    refine ⟨hev.congr hset1 hset2, fun b hb => ?_, ?_, ?_⟩
    ·
     obtain ⟨g1, g2, g3, g4⟩ := hBb b hb
     have hb1 := (hB b hb).1
     rw [World.putObj_heap_other g1, ho3.old b (by have := hst1.evo.size; simp; omega) (fun id h => g3 ⟨id, h⟩), World.putObj_heap_other g1, ho1.old b hb1 (fun id h => g2 ⟨id, h⟩)]
    ·
     rintro b (hb | hb | hb)
     ·
      have := hSF.hr.m0 b (.inl hb); simpa using this
     ·
      obtain ⟨id, hb⟩ := hb; have := hSF.hr.lt id b hb; simpa using this
     ·
      subst hb; simpa using hll2
    ·
     intro b hb hm
     obtain ⟨g1, g2, g3, g4⟩ := hBb b hb
     rcases hm with hm | hm | hm
     ·
      exact (hB b hb).2 ((hMI b).2 (.inl hm))
     ·
      exact g4 (hle b hm)
     ·
      exact g1 hm
  cases e with
  | normal =>
   obtain ⟨hp', htr, hR⟩ := hK2
   rcases htr with rfl | ⟨junk, heq, hlen, hbel⟩
   ·
    exact fin bs2 s2.hp hS3 (fun _ h => h) none (fun _ => hR) (by simp)
   ·
    rw [heq] at hS3
    exact fin _ hp' (hS3.trunc hlen hbel) (fun b ⟨j, hj⟩ => ⟨j, at_take' hj⟩) none (fun _ => hR) (by simp)
  | ret => exact fin bs2 s2.hp hS3 (fun _ h => h) (some .ret) (by simp) (fun c hc => by injection hc with hc; subst hc; exact ⟨.ret, rfl, hK2⟩)
  | exit id => exact fin bs2 s2.hp hS3 (fun _ h => h) (some (.exit id)) (by simp) (fun c hc => by injection hc with hc; subst hc; exact ⟨.exit id, rfl, hK2⟩)
  | goto t => exact fin bs2 s2.hp hS3 (fun _ h => h) (some (.goto t)) (by simp) (fun c hc => by injection hc with hc; subst hc; exact ⟨.goto t, rfl, hK2⟩)
  | panic ch => exact hK2.elim
  | outgrown => exact hK2.elim
 | _ => exact hK1.elim
theorem Wp.rangeFunc (hg : g.good P) (hm : P.follows .mixedOrders = true) (hy : g.y = false) (htop : g.top = true) {gop : Operand} {ps : Array Tmp} {assign body : Code} {s : St} {K : Exit → St → Prop} (f : FuncId) (caps : List (Sigma Ty.T))
  (hop : oper s.e gop = ⟨true, .v (.s (.fnp f caps))⟩) (ic : ItCon) (hit : ItOk P f ic) (hpre : ic.pre (caps.map capAV)) (hps : ∀ p ∈ ps.toList, p < N) (hoka : codeOk' L g.ye N assign = true) (hokb : codeOk' L g.ye N body = true) (htr : ∀ l xs i st, Blk.look s.hp 0 ≠ .trace l xs i st)
  (R : Nat → List Blk → Prop) (h0 : R 0 s.hp)
  (hround : ∀ i args hp, (ic.xs (caps.map capAV))[i]? = some args → R i hp → args.length = ps.size ∧
   vc P g.round X0 N L assign ⟨psE ps.toList args s.e, hp⟩ (thenK (fun s1 => vc P g.round X0 N L body s1 (roundK (fun e hp => K e ⟨s.e, hp⟩) (R (i + 1)) s.hp.length)) (fun _ _ => False)))
  (hend : ∀ hp, R (ic.xs (caps.map capAV)).length hp → K .normal ⟨s.e, hp⟩) : Wp P g X0 N (.rangeFunc gop ps assign body) s K := by
 intro n r n0 M0 bs a w hT hr
 obtain rfl : r = none := hT.1 htop
 refine wpIn_rangeFunc ?_
 intro fn hfn
 have ho := oper_rel hr.env gop
 unfold opRV at ho
 rw [hop] at ho
 obtain ⟨qs, hev, hq⟩ := ho rfl
 obtain ⟨W1, hW1⟩ : ∃ W1, (w.alloc (.deferred (some []))).alloc (.loop (recOf fn a.tmps ps assign body w.heap.size .ready none)) = W1 := ⟨_, rfl⟩
 have hL1 : W1.heap[w.heap.size + 1]? = some (.loop (recOf fn a.tmps ps assign body w.heap.size .ready none)) := by
  rw [← hW1]; have := World.alloc_heap_new (w.alloc (.deferred (some []))) (.loop (recOf fn a.tmps ps assign body w.heap.size .ready none)); rwa [World.size_alloc] at this
 have hK1 : W1.heap[w.heap.size]? = some (.deferred (some [])) := by
  rw [← hW1]; exact (Below.heap_alloc _ _ _ (by simp)).trans (World.alloc_heap_new w _)
 have hsz1 : W1.heap.size = w.heap.size + 2 := by rw [← hW1]; simp
 have hev0 : Evo (Mof M0 bs) (Mof (fun b => M0 b ∨ b = w.heap.size + 1 ∨ False) bs) w W1 := by
  have e1 : Evo (Mof M0 bs) (Mof M0 bs) w W1 := by rw [← hW1]; exact (Evo.alloc _ _ _).trans (Evo.alloc _ _ _)
  refine ⟨e1.os, e1.tape, e1.output, e1.size, e1.drawn, e1.block, fun b hb hn hm => ?_⟩
  rcases hm with (hm | hm | hm) | hm
  ·
   exact hn (.inl hm)
  ·
   omega
  ·
   exact hm
  ·
   exact hn (.inr hm)
 have hold : ∀ b, b < w.heap.size → W1.heap[b]? = w.heap[b]? := fun b hb => by
  rw [← hW1]; exact (Below.heap_alloc _ _ _ (by simp; omega)).trans (Below.heap_alloc w _ b hb)
 obtain ⟨k1, k2⟩ := hr.hr.keep' (M0' := fun b => M0 b ∨ b = w.heap.size + 1 ∨ False) hev0 (fun id b hb => hold b (hr.hr.lt id b hb)) (fun b hb => by
  rcases hb with hb | hb | hb
  ·
   have := hr.hr.m0 b hb; omega
  ·
   omega
  ·
   exact hb.elim) (fun id b hb hm => by
  rcases hm with hm | hm | hm
  ·
   exact hr.hr.out id b hb hm
  ·
   have := hr.hr.lt id b hb; omega
  ·
   exact hm)
 have hS : Stays w M0 bs s.hp w.heap.size (w.heap.size + 1) (fun _ => False) W1 bs s.hp := by
  refine ⟨k1, k2, ⟨fun b hb _ => hold b hb, fun b _ h => h, fun _ _ _ _ _ h => h⟩, htr, ⟨Nat.zero_le _, [w.heap.size], rfl, by simp, ?_⟩⟩
  intro D hD
  simp only [List.mem_singleton] at hD
  subst hD
  refine ⟨Nat.zero_le _, by omega, ?_, hK1⟩
  rintro ((hm | hm | hm) | ⟨id, hm⟩)
  ·
   have := hr.hr.m0 _ hm; omega
  ·
   omega
  ·
   exact hm
  ·
   have := hr.hr.lt id _ hm; omega
 have hXok : XOk P (XC (fun e hp => K e ⟨s.e, hp⟩) R fn a.tmps ps assign body w M0 bs s.hp w.heap.size (w.heap.size + 1) (ic.xs (caps.map capAV))) :=
  XC_ok (L := L) hg hy hm (e0 := s.e) (fun t x hx => hr.env t x hx) hr.size hps hoka hokb hround
 have hrun := hit.1
 refine ⟨w.heap.size + 1, [markOf w.heap.size], W1, { target := .fn (.func f) qs.toArray, args := #[.func (.yield (w.heap.size + 1)) #[] #[]] }, W1, f,
  #[.func (.yield (w.heap.size + 1)) #[] #[]] ++ qs.toArray, W1, ?_, ?_, ?_, ?_, fun hd => by simp [FW] at hd, ?_⟩
 ·
  rw [← hW1]; exact run_enterLoop_outer _ _ _ _ _
 ·
  simp only [resolve, hev]
  simp [go_sem]
 ·
  intro f' _; trivial
 ·
  simp [invoke, go_sem, hrun]
 ·
  refine (hit.2 _ (w.heap.size + 1) W1 (fun b => M0 b ∨ inBs bs b ∨ b = w.heap.size + 1) (caps.map capAV) qs hXok hpre ?_ ?_ ?_ (n - 1)).mono ?_
  ·
   rintro b (hb | ⟨id, hb⟩ | hb)
   ·
    have := hr.hr.m0 b hb; omega
   ·
    have := hr.hr.lt id b hb; omega
   ·
    omega
  ·
   refine caps_rel (hq.imp fun c p hp => FrozenAt.evo (M' := fun b => M0 b ∨ inBs bs b ∨ b = w.heap.size + 1) (hev0.congr (fun b => Iff.rfl) fun b => ?_) hp)
   constructor
   ·
    rintro ((h | h | h) | h)
    ·
     exact .inl h
    ·
     exact .inr (.inr h)
    ·
     exact h.elim
    ·
     exact .inr (.inl h)
   ·
    rintro (h | h | h)
    ·
     exact .inl (.inl h)
    ·
     exact .inr h
    ·
     exact .inl (.inr (.inl h))
  ·
   exact ⟨rfl, rfl, bs, s.hp, none, fun b => Iff.rfl, hL1, fun h => h, fun ⟨id, h⟩ => by have := hr.hr.lt id _ h; omega, by omega, fun b h => h.elim, hS, fun _ => ⟨rfl, h0⟩, by simp⟩
  ·
   rintro e w3 ⟨v, i, st, MI3, B3, rfl, ⟨_, _, bs3, hp3, pe, hMI, hrec, hBl, hbl, hl0, hB0, hS3, hs1, hs2⟩, hst⟩
   have hll : w.heap.size + 1 < w3.heap.size := (Array.getElem?_eq_some_iff.1 hrec).1
   refine ⟨pe, _, run_endLoop hrec (by cases st <;> simp [recOf]), ?_⟩
   have hS4 := hS3.record hl0 hbl hll hrec ({ recOf fn a.tmps ps assign body w.heap.size (if st then .done else .ready) pe with state := .exhausted })
   have hev5 : Evo (Mof (fun b => M0 b ∨ b = w.heap.size + 1 ∨ B3 b) bs3) (Mof M0 bs3) (w3.putObj (w.heap.size + 1) (.loop { recOf fn a.tmps ps assign body w.heap.size (if st then .done else .ready) pe with state := .exhausted })) (w3.putObj (w.heap.size + 1) (.loop { recOf fn a.tmps ps assign body w.heap.size (if st then .done else .ready) pe with state := .exhausted })) :=
    Evo.more _ fun b _ h => h.elim (fun h => .inl (.inl h)) .inr
   obtain ⟨j1, j2⟩ := hS4.hr.keep' hev5 (fun _ _ _ => rfl) (fun b hb => hS4.hr.m0 b (.inl hb)) (fun id b hb hm => hS4.hr.out id b hb (.inl hm))
   have hfull := hS4.st.trans j2
   have hx4 : XR X0 (w3.putObj (w.heap.size + 1) (.loop { recOf fn a.tmps ps assign body w.heap.size (if st then .done else .ready) pe with state := .exhausted })) M0 bs3 hp3 := fun l xs i st ht => absurd ht (hS4.tr l xs i st)
   have hrel : Rel P X0 N n0 (w3.putObj (w.heap.size + 1) (.loop { recOf fn a.tmps ps assign body w.heap.size (if st then .done else .ready) pe with state := .exhausted })) M0 bs3 { a with defers := [markOf w.heap.size] ++ a.defers } ⟨s.e, hp3⟩ := by
    refine ⟨j1, hx4, fun t x hx => relEnv_step hfull hr.env t x hx, hr.size, ?_⟩
    cases hn0 : n0 with
    | none => have := hT.2; simp [hn0, hy] at this
    | some nb =>
     obtain ⟨m0, B0⟩ := nb
     have hd := hr.df
     rw [hn0] at hd
     obtain ⟨d1, Ds, d2, d3, d4⟩ := hd
     have hd' : DefOk (some (m0, B0)) w (Mof M0 bs) a.defers := ⟨d1, Ds, d2, d3, d4⟩
     obtain ⟨f1, Ds', f2, f3, f4⟩ := hd'.evo hfull.evo
     obtain ⟨_, Es, g2, g3, g4⟩ := hS4.dD.evo hev5
     have hEs : Es = [w.heap.size] := by
      cases Es with
      | nil => simp [markOf] at g2
      | cons x Es =>
       cases Es with
       | nil => simp [markOf] at g2; rw [g2]
       | cons y Es => simp at g2
     subst hEs
     refine ⟨f1, w.heap.size :: Ds, by rw [d2]; rfl, ?_, ?_⟩
     ·
      refine List.nodup_cons.2 ⟨fun h => ?_, d3⟩
      have := (d4 _ h).2.1
      omega
     ·
      intro E hE
      rcases List.mem_cons.1 hE with rfl | hE
      ·
       exact ⟨d1, (g4 _ (by simp)).2⟩
      ·
       have hmap : Ds' = Ds := by
        have : Ds'.map markOf = Ds.map markOf := List.append_cancel_right (f2.symm.trans d2)
        exact (List.map_inj_right (fun x y h => by simpa [markOf] using h)).1 this
       rw [hmap] at f4
       exact f4 E hE
   have hnx : Nx P g X0 w M0 bs s.hp (w3.putObj (w.heap.size + 1) (.loop { recOf fn a.tmps ps assign body w.heap.size (if st then .done else .ready) pe with state := .exhausted })) M0 bs3 hp3 :=
    ⟨j1, hx4, ⟨hfull.evo, hfull.len, hfull.box, hfull.map, hfull.own, fun _ => hS4.only⟩, fun _ => rfl⟩
   cases st with
   | false =>
    obtain ⟨rfl, hR⟩ := hs1 rfl
    rw [hst rfl] at hR
    exact ⟨⟨s.e, hp3⟩, M0, bs3, hend _ hR, hrel, hnx⟩
   | true =>
    obtain ⟨e, c, rfl, hc, hK⟩ := hs2 rfl
    cases e with
    | ret => injection hc with hc; subst hc; exact wpIn_ret ⟨⟨s.e, hp3⟩, M0, bs3, hK, hrel, hnx⟩
    | exit id => injection hc with hc; subst hc; exact wpIn_exit ⟨⟨s.e, hp3⟩, M0, bs3, hK, hrel, hnx⟩
    | goto t => injection hc with hc; subst hc; exact wpIn_goto ⟨⟨s.e, hp3⟩, M0, bs3, hK, hrel, hnx⟩
    | _ => simp [jumpC] at hc
theorem round_td (t : TypeId) : g.round.td t = g.td t := rfl
theorem round_y : g.round.y = g.y := rfl
theorem round_Γ : g.round.Γ = g.Γ := rfl
end
abbrev vI (n : Int) : SL := ⟨true, .v (.s (.int .i64 n))⟩
abbrev vB (b : Bool) : SL := ⟨true, .v (.s (.bool b))⟩
abbrev vS (t : Ty) (xs : List t.T) (ex : Bool) : SL := ⟨true, .v (.s (.sl t xs ex))⟩
abbrev aI (n : Int) : AV := .s (.int .i64 n)
abbrev aB (b : Bool) : AV := .s (.bool b)
abbrev aS (t : Ty) (xs : List t.T) (ex : Bool) : AV := .s (.sl t xs ex)
theorem getD_lt {α : Type} {xs : List α} {i : Nat} (h : i < xs.length) (d : α) : xs[i]?.getD d = xs[i] := by simp [h]
structure Dum {α : Type} (x : α) : Type where
section
variable {P : Program} {g : G} {X : XT} {N : Nat} {L : Cfg}
def WpD (P : Program) (g : G) (X : XT) (N : Nat) (c : Code) (s : St) (K : Exit → St → Prop) (_ : Dum (c, K)) : Prop := Wp P g X N c s K
def thenKD (K1 : St → Prop) (K : Exit → St → Prop) (_ : Dum (K1, K)) (e : Exit) (s : St) : Prop := thenK K1 K e s
def inBlockKD (id : Nat) (K : Exit → St → Prop) (_ : Dum K) (e : Exit) (s : St) : Prop := inBlockK id K e s
def noGotoKD (K : Exit → St → Prop) (_ : Dum K) (e : Exit) (s : St) : Prop := noGotoK K e s
def roundKD (KJ : Exit → List Blk → Prop) (R : List Blk → Prop) (n : Nat) (_ : Dum (KJ, R)) (e : Exit) (s : St) : Prop := roundK KJ R n e s
def opVCD (g : G) (e : Env) (hp : List Blk) (o : Oper) (K : SL → List Blk → Prop) (_ : Dum (o, K)) : Prop := opVC g e hp o K
def effVCD (hp : List Blk) (c : ECon) (args : List AV) (K : RV → List Blk → Prop) (_ : Dum K) : Prop := effVC hp c args K
def yieldVCD (hp : List Blk) (l : Nat) (args : List AV) (K : Bool → List Blk → Prop) (_ : Dum K) : Prop := yieldVC hp l args K
def vcOpsD (g : G) (ops l : List Oper) (e : Env) (hp : List Blk) (K : Env → List Blk → Prop) (_ : Dum ((ops, l), K)) : Prop := vcOps g ops l e hp K
def vcAllD (g : G) (ops : List Oper) (f : Nat) (done : List Nat) (e : Env) (hp : List Blk) (K : Env → List Blk → Prop) (_ : Dum (ops, K)) : Prop := vcAll g ops f done e hp K
def vcFlD (g : G) (ops : List Oper) (ps : List (Nat × Nat)) (l : List Oper) (e : Env) (hp : List Blk) (acc : List (Env × List Blk)) (_ : Dum (ops, l)) : Prop := vcFl g ops ps l e hp acc
def flPairs (g : G) (ops : List Oper) (l : List (Env × List Blk)) : (ps : List (Nat × Nat)) → Dum ops → Prop
 | [], _ => True
 | p :: r, _ => (match l[p.1]?, l[p.2]? with
  | some s, some s' => eqAt g ops p.1 s s'
  | _, _ => False) ∧ flPairs g ops l r ⟨⟩
def flOfD (g : G) (fl : List (Nat × List (Nat × Nat))) (id : Nat) (ops : List Oper) (s : St) (_ : Dum ops) : Prop := flOf g fl id ops s
def vcFrD (g : G) (ops : List Oper) (fr : List (Nat × List Nat)) (i : Nat) (l : List Oper) (s : St) (K : St → Prop) (KP : Value → St → Prop) (_ : Dum ((ops, l), (K, KP))) : Prop := vcFr g ops fr i l s K KP
def frzSlotD (k : Nat) (s : St) (K : St → Prop) (_ : Dum K) : Prop := frzSlot k s K
def epsSlotD (k : Nat) (s : St) (K : St → Prop) (_ : Dum K) : Prop := epsSlot k s K
def epsSlotsD (l : List Nat) (s : St) (K : St → Prop) (_ : Dum K) : Prop := epsSlots l s K
def frzSlotsD (l : List Nat) (s : St) (K : St → Prop) (_ : Dum K) : Prop := frzSlots l s K
def vcD (P : Program) (g : G) (X : XT) (N : Nat) (L : Cfg) (c : Code) (s : St) (K : Exit → St → Prop) (_ : Dum ((c, L), K)) : Prop := vc P g X N L c s K
def isCutD (l : List Nat) (x : Code) (_ : Dum x) : Bool := isCut l x
def firstRegD (x : Code) (_ : Dum x) : Option Nat := firstReg x
def vcCondD (x : SL) (A B : Prop) : Prop := vcCond x A B
variable {K : Exit → St → Prop} {K1 : St → Prop} {s : St}
theorem thenKD_normal {d : Dum (K1, K)} : thenKD K1 K d .normal s = K1 s := rfl
theorem thenKD_exit {d : Dum (K1, K)} {id : Nat} : thenKD K1 K d (.exit id) s = K (.exit id) s := rfl
theorem thenKD_goto {d : Dum (K1, K)} {id : Nat} : thenKD K1 K d (.goto id) s = K (.goto id) s := rfl
theorem thenKD_ret {d : Dum (K1, K)} : thenKD K1 K d .ret s = K .ret s := rfl
theorem inBlockKD_normal {i : Nat} {d : Dum K} : inBlockKD i K d .normal s = K .normal s := rfl
theorem inBlockKD_exit {i j : Nat} {d : Dum K} : inBlockKD i K d (.exit j) s = if j = i then K .normal s else K (.exit j) s := rfl
theorem inBlockKD_goto {i j : Nat} {d : Dum K} : inBlockKD i K d (.goto j) s = K (.goto j) s := rfl
theorem inBlockKD_ret {i : Nat} {d : Dum K} : inBlockKD i K d .ret s = K .ret s := rfl
theorem noGotoKD_normal {d : Dum K} : noGotoKD K d .normal s = K .normal s := rfl
theorem noGotoKD_exit {d : Dum K} {j : Nat} : noGotoKD K d (.exit j) s = K (.exit j) s := rfl
theorem noGotoKD_goto {d : Dum K} {j : Nat} : noGotoKD K d (.goto j) s = False := rfl
theorem noGotoKD_ret {d : Dum K} : noGotoKD K d .ret s = K .ret s := rfl
theorem roundKD_normal {KJ : Exit → List Blk → Prop} {R : List Blk → Prop} {n : Nat} {d : Dum (KJ, R)} : roundKD KJ R n d .normal s = ∃ hp', TrT n s.hp hp' ∧ R hp' := rfl
theorem roundKD_exit {KJ : Exit → List Blk → Prop} {R : List Blk → Prop} {n : Nat} {d : Dum (KJ, R)} {j : Nat} : roundKD KJ R n d (.exit j) s = KJ (.exit j) s.hp := rfl
theorem roundKD_goto {KJ : Exit → List Blk → Prop} {R : List Blk → Prop} {n : Nat} {d : Dum (KJ, R)} {j : Nat} : roundKD KJ R n d (.goto j) s = KJ (.goto j) s.hp := rfl
theorem roundKD_ret {KJ : Exit → List Blk → Prop} {R : List Blk → Prop} {n : Nat} {d : Dum (KJ, R)} : roundKD KJ R n d .ret s = KJ .ret s.hp := rfl
def eptrOf : Sigma Ty.T → SV
 | ⟨t, x⟩ => .eptr t x
theorem eptrOf_mk {t : Ty} {x : t.T} : eptrOf ⟨t, x⟩ = .eptr t x := rfl
theorem epsSlotsD_nil {d : Dum K1} : epsSlotsD [] s K1 d = K1 s := rfl
theorem epsSlotsD_cons {k : Nat} {r : List Nat} {d : Dum K1} : epsSlotsD (k :: r) s K1 d = epsSlotD k s (fun s' => epsSlotsD r s' K1 ⟨⟩) ⟨⟩ := rfl
theorem epsSlotD_eq {k : Nat} {d : Dum K1} : epsSlotD k s K1 d = match look s.e k with
 | some ⟨true, .v (.s (.box b 0))⟩ => match boxCap s.hp b with
  | some c => K1 ⟨(k, ⟨true, .v (.s (eptrOf c))⟩) :: s.e, s.hp.set b .dead⟩
  | none => False
 | _ => K1 s := rfl
theorem frzSlotsD_nil {d : Dum K1} : frzSlotsD [] s K1 d = K1 s := rfl
theorem frzSlotsD_cons {k : Nat} {r : List Nat} {d : Dum K1} : frzSlotsD (k :: r) s K1 d = frzSlotD k s (fun s' => frzSlotsD r s' K1 ⟨⟩) ⟨⟩ := rfl
theorem frzSlotD_eq {k : Nat} {d : Dum K1} : frzSlotD k s K1 d = match look s.e k with
 | some ⟨true, .v (.s (.own t id n))⟩ => match Blk.look s.hp id with
  | .arr _ cs => ∃ xs : List t.T, cs = t.flats xs ∧ n = xs.length ∧ K1 ⟨(k, ⟨true, .v (.s (.sl t xs false))⟩) :: s.e, s.hp.set id .dead⟩
  | _ => False
 | some ⟨true, .v (.s (.pre t id n m))⟩ => match Blk.look s.hp id with
  | .arr _ cs => ∃ xs : List t.T, cs = t.flats xs ∧ n = xs.length ∧ K1 ⟨(k, ⟨true, .v (.s (.sl t (xs.take m) false))⟩) :: s.e, s.hp.set id .dead⟩
  | _ => False
 | some ⟨true, .v (.s (.box b off))⟩ => match Blk.look s.hp b with
  | .cells bc => match bc[off]? with
   | some (.own t id n) => match Blk.look s.hp id with
    | .arr _ cs => ∃ xs : List t.T, cs = t.flats xs ∧ n = xs.length ∧ K1 ⟨s.e, (s.hp.set b (.cells (bc.set off (.sl t xs false)))).set id .dead⟩
    | _ => False
   | _ => K1 s
  | _ => K1 s
 | _ => K1 s := rfl
theorem yieldVCD_trace {hp : List Blk} {l l' : Nat} {xs : List (List AV)} {i : Nat} {args : List AV} {KB : Bool → List Blk → Prop} {d : Dum KB} : yieldVCD (.trace l' xs i false :: hp) l args KB d = (l' = l ∧ xs[i]? = some args ∧ args.all AV.pure = true ∧ ∀ b, KB b (.trace l xs (i + 1) (!b) :: hp)) := rfl
theorem opVCD_eq {e : Env} {hp : List Blk} {o : Oper} {KO : SL → List Blk → Prop} {d : Dum (o, KO)} : opVCD g e hp o KO d = (okOps e o.op ∧ match isMem0 o.op with
 | true => (mEv g hp e o.op).1 ∧ KO ⟨true, (mEv g hp e o.op).2.1⟩ (mEv g hp e o.op).2.2
 | false => match (if g.y then yieldOf g e o.op else none) with
  | some (l, args) => yieldVCD hp l args (fun b hp' => KO ⟨true, .v (.s (.bool b))⟩ hp') ⟨⟩
  | none => match effOf g e o.op with
   | some (c, args) => effVCD hp c args (fun rv hp' => KO ⟨true, rv⟩ hp') ⟨⟩
   | none => (pEv g hp e o.type o.op).1 ∧ KO ⟨true, (pEv g hp e o.type o.op).2⟩ hp) := rfl
theorem effVCD_eq {hp : List Blk} {c : ECon} {args : List AV} {KE : RV → List Blk → Prop} {d : Dum KE} : effVCD hp c args KE d = (((dedup [] (args.flatMap AV.ids)).all fun id => (Blk.look hp id).pureB) = true ∧
  c.wp (args.map (AV.ren (idx (dedup [] (args.flatMap AV.ids))))) ((dedup [] (args.flatMap AV.ids)).map (Blk.look hp)) fun rv out => KE (rv.ren (outId (dedup [] (args.flatMap AV.ids)) hp.length)) (mergeB hp (dedup [] (args.flatMap AV.ids)) out)) := rfl
theorem vcOpsD_nil {ops : List Oper} {e : Env} {hp : List Blk} {KE : Env → List Blk → Prop} {d : Dum ((ops, ([] : List Oper)), KE)} : vcOpsD g ops [] e hp KE d = KE e hp := rfl
theorem vcOpsD_cons {ops r : List Oper} {o : Oper} {e : Env} {hp : List Blk} {KE : Env → List Blk → Prop} {d : Dum ((ops, o :: r), KE)} : vcOpsD g ops (o :: r) e hp KE d = match o.guard with
  | none => opVCD g e hp o (fun x hp' => vcOpsD g ops r (putE o.dst x e) hp' KE ⟨⟩) ⟨⟩
  | some gd => match gcond ops e (some gd) with
   | none => False
   | some gc => match isMem g.ye o.op with
    | true => (gc = true → opVCD g e hp o (fun x hp' => vcOpsD g ops r (putE o.dst x e) hp' KE ⟨⟩) ⟨⟩) ∧ (gc = false → vcOpsD g ops r (putE o.dst ⟨false, .v (.s .any)⟩ e) hp KE ⟨⟩)
    | false => (gc = true → okOps e o.op ∧ (pEv g hp e o.type o.op).1) ∧ vcOpsD g ops r (putE o.dst ⟨gc, (pEv g hp e o.type o.op).2⟩ e) hp KE ⟨⟩ := rfl
def edgA (o : Oper) : List Nat := (o.after.toList.filter (fun e => match e.ground with | .textOnly _ => false | .gcOnly _ => false | _ => true)).map (·.on)
theorem edg_eq (o : Oper) : edg o = edgA o := by
 have h : ∀ l : List Edge, l.filter (Region.binds .any) = l.filter (fun e => match e.ground with | .textOnly _ => false | .gcOnly _ => false | _ => true) := by
  intro l
  refine List.filter_congr fun e _ => ?_
  unfold Region.binds
  cases e.ground <;> rfl
 unfold edg edgA
 rw [h]
def readyAux (done : List Nat) : Nat → List Oper → List Nat
 | _, [] => []
 | i, o :: r => if (!done.contains i && (edgA o).all fun k => done.contains k) = true then i :: readyAux done (i + 1) r else readyAux done (i + 1) r
theorem readyAux_eq (ops : List Oper) (done : List Nat) : ∀ (l : List Oper) (k : Nat), (∀ j : Nat, ops[k + j]? = l[j]?) → readyAux done k l = (List.range' k l.length).filter fun j => !done.contains j && match ops[j]? with
  | some o => (edg o).all fun k => done.contains k
  | none => false
 | [], k, _ => rfl
 | o :: r, k, h => by
  have h0 : ops[k]? = some o := by simpa using h 0
  have ih := readyAux_eq ops done r (k + 1) (fun j => by have := h (j + 1); rw [show k + 1 + j = k + (j + 1) by omega]; simpa using this)
  simp only [readyAux, List.length_cons, List.range'_succ, List.filter_cons, h0, edg_eq]
  rw [ih]
  simp only [edg_eq]
theorem readyL_eq (ops : List Oper) (done : List Nat) : readyL ops done = readyAux done 0 ops := by
 rw [readyAux_eq ops done ops 0 (fun j => by simp), readyL, List.range_eq_range']
 rfl
theorem vcAllD_zero {ops : List Oper} {done : List Nat} {e : Env} {hp : List Blk} {KE : Env → List Blk → Prop} {d : Dum (ops, KE)} : vcAllD g ops 0 done e hp KE d = ((readyAux done 0 ops).isEmpty = true ∧ KE e hp) := by rw [← readyL_eq]; rfl
def allAtD (g : G) (ops : List Oper) (f : Nat) (done : List Nat) (e : Env) (hp : List Blk) (K : Env → List Blk → Prop) (js : List Nat) (_ : Dum (ops, K)) : Prop := allP js fun j => match ops[j]? with
 | some o => vcOps g ops [o] e hp fun e' hp' => vcAll g ops f (j :: done) e' hp' K
 | none => False
theorem allAtD_nil {ops : List Oper} {f : Nat} {done : List Nat} {e : Env} {hp : List Blk} {KE : Env → List Blk → Prop} {d : Dum (ops, KE)} : allAtD g ops f done e hp KE [] d = True := rfl
theorem allAtD_cons {ops : List Oper} {f j : Nat} {js : List Nat} {done : List Nat} {e : Env} {hp : List Blk} {KE : Env → List Blk → Prop} {d : Dum (ops, KE)} : allAtD g ops f done e hp KE (j :: js) d = ((match ops[j]? with
 | some o => vcOpsD g ops [o] e hp (fun e' hp' => vcAllD g ops f (j :: done) e' hp' KE ⟨⟩) ⟨⟩
 | none => False) ∧ allAtD g ops f done e hp KE js ⟨⟩) := rfl
theorem vcAllD_succ {ops : List Oper} {f : Nat} {done : List Nat} {e : Env} {hp : List Blk} {KE : Env → List Blk → Prop} {d : Dum (ops, KE)} : vcAllD g ops (f + 1) done e hp KE d = (((readyAux done 0 ops).isEmpty = true → KE e hp) ∧ allAtD g ops f done e hp KE (readyAux done 0 ops) ⟨⟩) := by rw [← readyL_eq]; rfl
theorem vcD_skip {d : Dum ((Code.skip, L), K)} : vcD P g X N L .skip s K d = K .normal s := rfl
theorem vcD_label {l : Nat} {d : Dum ((Code.label l, L), K)} : vcD P g X N L (.label l) s K d = K .normal s := rfl
theorem vcD_exit {l : Nat} {d : Dum ((Code.exit l, L), K)} : vcD P g X N L (.exit l) s K d = K (.exit l) s := rfl
theorem vcD_goto {l : Nat} {d : Dum ((Code.goto l, L), K)} : vcD P g X N L (.goto l) s K d = K (.goto l) s := rfl
theorem vcD_ret {d : Dum ((Code.ret, L), K)} : vcD P g X N L .ret s K d = K .ret s := rfl
theorem vcD_region {id : Nat} {ops : List Oper} {dr : Bool} {d : Dum ((Code.region id (List.toArray ops) dr, L), K)} : vcD P g X N L (.region id (List.toArray ops) dr) s K d =
  frzSlotsD ((look L.frz id).getD []) s (fun s => epsSlotsD ((look L.eps id).getD []) s (fun s => match dr && L.all.contains id with
  | true => vcAllD g ops ops.length [] s.e s.hp (fun e hp => K .normal ⟨keepE L.live e, hp⟩) ⟨⟩
  | false => match look L.fin id with
   | some fr => vcFrD g ops fr 0 ops s (fun s => K .normal ⟨keepE L.live s.e, s.hp⟩) (fun v s => K (.panic [{ v := v, recovered := false }]) ⟨keepE L.live s.e, s.hp⟩) ⟨⟩
   | none => match L.qy.contains id with
    | true => vcOpsD g.quiet ops ops s.e s.hp (fun e hp => K .normal ⟨keepE L.live e, hp⟩) ⟨⟩ ∧ flOfD g.quiet L.fl id ops s ⟨⟩
    | false => vcOpsD g ops ops s.e s.hp (fun e hp => K .normal ⟨keepE L.live e, hp⟩) ⟨⟩ ∧ flOfD g L.fl id ops s ⟨⟩) ⟨⟩) ⟨⟩ := rfl
theorem vcFrD_nil {ops : List Oper} {fr : List (Nat × List Nat)} {i : Nat} {KP : Value → St → Prop} {d : Dum ((ops, ([] : List Oper)), (K1, KP))} : vcFrD g ops fr i [] s K1 KP d = K1 s := rfl
def panVCD (g : G) (o : Oper) (s : St) (KP : Value → St → Prop) (A : St → Prop) (_ : Dum (KP, A)) : Prop := match panOf g s.e o with
  | none => A s
  | some (p, v) => okOps s.e o.op ∧ (p → KP v s) ∧ (¬ p → A s)
theorem panVCD_eq {o : Oper} {KP : Value → St → Prop} {A : St → Prop} {d : Dum (KP, A)} : panVCD g o s KP A d = match panOf g s.e o with
  | none => A s
  | some (p, v) => okOps s.e o.op ∧ (p → KP v s) ∧ (¬ p → A s) := rfl
theorem vcFrD_cons {ops r : List Oper} {o : Oper} {fr : List (Nat × List Nat)} {i : Nat} {KP : Value → St → Prop} {d : Dum ((ops, o :: r), (K1, KP))} : vcFrD g ops fr i (o :: r) s K1 KP d =
  frzSlotsD ((look fr i).getD []) s (fun s => panVCD g o s KP (fun s => vcOpsD g ops [o] s.e s.hp (fun e hp => vcFrD g ops fr (i + 1) r ⟨e, hp⟩ K1 KP ⟨⟩) ⟨⟩) ⟨⟩) ⟨⟩ := rfl
theorem flOfD_nil {id : Nat} {ops : List Oper} {d : Dum ops} : flOfD g [] id ops s d = True := rfl
theorem flOfD_cons {id k : Nat} {ps : List (Nat × Nat)} {r : List (Nat × List (Nat × Nat))} {ops : List Oper} {d : Dum ops} : flOfD g ((k, ps) :: r) id ops s d = match look ((k, ps) :: r) id with
 | some ps => vcFlD g ops ps ops s.e s.hp [] ⟨⟩
 | none => True := rfl
theorem vcFlD_cons {ops r : List Oper} {o : Oper} {ps : List (Nat × Nat)} {e : Env} {hp : List Blk} {acc : List (Env × List Blk)} {d : Dum (ops, o :: r)} : vcFlD g ops ps (o :: r) e hp acc d =
  vcFlD g ops ps r (putE o.dst (match isMem0 o.op with
   | true => match gcond ops e o.guard with
    | some true => ⟨true, (mEv g hp e o.op).2.1⟩
    | _ => ⟨false, .v (.s .any)⟩
   | false => match o.guard with
    | none => ⟨true, (pEv g hp e o.type o.op).2⟩
    | some gd => match gcond ops e (some gd) with
     | some gc => ⟨gc, (pEv g hp e o.type o.op).2⟩
     | none => junk) e) (match isMem0 o.op with
   | true => match gcond ops e o.guard with
    | some true => (mEv g hp e o.op).2.2
    | _ => hp
   | false => hp) (acc ++ [(e, hp)]) ⟨⟩ := rfl
theorem vcFlD_nil {ops : List Oper} {ps : List (Nat × Nat)} {e : Env} {hp : List Blk} {acc : List (Env × List Blk)} {d : Dum (ops, ([] : List Oper))} : vcFlD g ops ps [] e hp acc d = flPairs g ops (acc ++ [(e, hp)]) ps ⟨⟩ := by
 apply propext
 unfold vcFlD vcFl
 generalize acc ++ [(e, hp)] = l
 constructor
 ·
  intro h
  induction ps with
  | nil => trivial
  | cons p r ih => exact ⟨h p (by simp), ih fun q hq => h q (by simp [hq])⟩
 ·
  intro h
  induction ps with
  | nil => simp
  | cons p r ih =>
   obtain ⟨h1, h2⟩ := h
   intro q hq
   rcases List.mem_cons.1 hq with rfl | hq
   ·
    exact h1
   ·
    exact ih h2 q hq
theorem flPairs_nil {ops : List Oper} {l : List (Env × List Blk)} {d : Dum ops} : flPairs g ops l [] d = True := rfl
theorem flPairs_cons {ops : List Oper} {l : List (Env × List Blk)} {i q : Nat} {r : List (Nat × Nat)} {d : Dum ops} : flPairs g ops l ((i, q) :: r) d = ((match l[i]?, l[q]? with
  | some s, some s' => match ops[i]? with
   | some o => (pEv g s'.2 s.1 o.type o.op).1 ∧ (pEv g s'.2 s.1 o.type o.op).2 = (pEv g s.2 s.1 o.type o.op).2
   | none => True
  | _, _ => False) ∧ flPairs g ops l r ⟨⟩) := rfl
theorem vcD_seq {x y : Code} {d : Dum ((Code.seq x y, L), K)} (h : isCutD L.cut x ⟨⟩ = false) : vcD P g X N L (.seq x y) s K d = vcD P g X N L x s (thenKD (fun s' => vcD P g X N L y s' K ⟨⟩) K ⟨⟩) ⟨⟩ := by
 unfold isCutD at h
 simp only [vcD, vc, h]
 rfl
theorem vcD_seqC {x y : Code} {d : Dum ((Code.seq x y, L), K)} (h : isCutD L.cut x ⟨⟩ = true) : vcD P g X N L (.seq x y) s K d = WpD P g X N (.seq x y) s K ⟨⟩ := by
 unfold isCutD at h
 simp only [vcD, vc, h]
 rfl
theorem isCutD_nil {x : Code} {d : Dum x} : isCutD [] x d = false := by unfold isCutD isCut; cases firstReg x <;> rfl
theorem isCutD_cons {x : Code} {l : List Nat} {k : Nat} {d : Dum x} : isCutD (k :: l) x d = match firstRegD x ⟨⟩ with
 | some id => (k :: l).contains id
 | none => false := rfl
theorem firstReg_region {id : Nat} {ops : Array Oper} {dr : Bool} {d : Dum (Code.region id ops dr)} : firstRegD (.region id ops dr) d = some id := rfl
theorem firstReg_seq {x y : Code} {d : Dum (Code.seq x y)} : firstRegD (.seq x y) d = firstRegD x ⟨⟩ := rfl
theorem firstReg_skip {d : Dum Code.skip} : firstRegD .skip d = none := rfl
theorem firstReg_ret {d : Dum Code.ret} : firstRegD .ret d = none := rfl
theorem firstReg_label {l : Nat} {d : Dum (Code.label l)} : firstRegD (.label l) d = none := rfl
theorem firstReg_exit {l : Nat} {d : Dum (Code.exit l)} : firstRegD (.exit l) d = none := rfl
theorem firstReg_goto {l : Nat} {d : Dum (Code.goto l)} : firstRegD (.goto l) d = none := rfl
theorem firstReg_cond {o : Operand} {x y : Code} {d : Dum (Code.cond o x y)} : firstRegD (.cond o x y) d = none := rfl
theorem firstReg_block {i : Nat} {x : Code} {d : Dum (Code.block i x)} : firstRegD (.block i x) d = none := rfl
theorem firstReg_scope {x : Code} {d : Dum (Code.scope x)} : firstRegD (.scope x) d = none := rfl
theorem firstReg_loop {x : Code} {d : Dum (Code.loop x)} : firstRegD (.loop x) d = none := rfl
theorem firstReg_rf {o : Operand} {x y : Code} {ps : Array Tmp} {d : Dum (Code.rangeFunc o ps x y)} : firstRegD (.rangeFunc o ps x y) d = none := rfl
theorem vcD_cond {c : Operand} {x y : Code} {d : Dum ((Code.cond c x y, L), K)} : vcD P g X N L (.cond c x y) s K d = vcCondD (oper s.e c) (vcD P g X N L x s K ⟨⟩) (vcD P g X N L y s K ⟨⟩) := rfl
theorem vcCondD_ib {p q A B : Prop} : vcCondD ⟨true, .v (.s (.ib p q))⟩ A B = ((p → A) ∧ (q → B)) := rfl
theorem vcCondD_bool {b : Bool} {A B : Prop} : vcCondD ⟨true, .v (.s (.bool b))⟩ A B = ((b = true → A) ∧ (b = false → B)) := rfl
theorem vcD_block {id : Nat} {c : Code} {d : Dum ((Code.block id c, L), K)} : vcD P g X N L (.block id c) s K d = vcD P g X N L c s (inBlockKD id K ⟨⟩) ⟨⟩ := rfl
theorem vcD_scope {c : Code} {d : Dum ((Code.scope c, L), K)} : vcD P g X N L (.scope c) s K d = vcD P g X N L c s (noGotoKD K ⟨⟩) ⟨⟩ := rfl
theorem vcD_loop {c : Code} {d : Dum ((Code.loop c, L), K)} : vcD P g X N L (.loop c) s K d = WpD P g X N (.loop c) s K ⟨⟩ := rfl
theorem vcD_rangeFunc {f : Operand} {ps : Array Tmp} {a b : Code} {d : Dum ((Code.rangeFunc f ps a b, L), K)} : vcD P g X N L (.rangeFunc f ps a b) s K d = WpD P g X N (.rangeFunc f ps a b) s K ⟨⟩ := rfl
theorem parses_flats' {t : Ty} {xs : List t.T} {n : Nat} (h : xs.length = n) : t.parses n (t.flats xs) = some xs := by subst h; exact parses_flats t xs
theorem capAV_mk {t : Ty} {x : t.T} : capAV ⟨t, x⟩ = .s (.eptr t x) := rfl
theorem av_int {k : IntKind} {n : Int} : Ty.av (.int k) n = .s (.int k n) := rfl
theorem av_bool {b : Bool} : Ty.av .bool b = .s (.bool b) := rfl
theorem av_str {b : ByteArray} : Ty.av .str b = .s (.str b) := rfl
theorem av_slice {t : Ty} {xs : List t.T} : Ty.av (.slice t) xs = .s (.sl t xs false) := rfl
theorem av_cons {t r : Ty} {x : t.T × r.T} : Ty.av (.cons t r) x = .agg (t.flat x.1 ++ r.flat x.2) := rfl
theorem av_fld0 {t r : Ty} {x : t.T} : Ty.av (Ty.fld (.cons t r) 0) x = Ty.av t x := rfl
theorem av_fld1 {t r : Ty} {x : (r.fld 0).T} : Ty.av (Ty.fld (.cons t r) 1) x = Ty.av (Ty.fld r 0) x := rfl
theorem av_fld2 {t r : Ty} {x : (r.fld 1).T} : Ty.av (Ty.fld (.cons t r) 2) x = Ty.av (Ty.fld r 1) x := rfl
theorem av_fld3 {t r : Ty} {x : (r.fld 2).T} : Ty.av (Ty.fld (.cons t r) 3) x = Ty.av (Ty.fld r 2) x := rfl
theorem av_fld4 {t r : Ty} {x : (r.fld 3).T} : Ty.av (Ty.fld (.cons t r) 4) x = Ty.av (Ty.fld r 3) x := rfl
theorem WpD.loop {c : Code} {d : Dum ((Code.loop c), K)} (hg : g.good P) (hX : XOk P X) (hm : P.follows .mixedOrders = true) (hok : codeOk' L g.ye N c = true) {ι : Type} (S : ι → St) (R : ι → Prop) (μ : ι → Nat) (i0 : ι) (h0 : R i0) (hs : Turn P g X N s (S i0))
  (h : ∀ i, R i → vcD P g X N L c (S i) (thenKD (fun s' => ∃ j, R j ∧ μ j < μ i ∧ TurnT P g X N s.hp.length s' (S j)) K ⟨⟩) ⟨⟩) : WpD P g X N (.loop c) s K d := Wp.loop (L := L) hg hX hm hok S R μ i0 h0 hs h
theorem WpD.cut {c : Code} {s : St} {K : Exit → St → Prop} {d : Dum (c, K)} (hg : g.good P) (hX : XOk P X) (hm : P.follows .mixedOrders = true) (hok : codeOk' L g.ye N c = true) (s' : St) (hs : Turn P g X N s s') (h : vcD P g X N L c s' K ⟨⟩) : WpD P g X N c s K d := Wp.cut (L := L) hg hX hm hok hs h
theorem WpD.turn {c : Code} {s : St} {K : Exit → St → Prop} {d : Dum (c, K)} (s' : St) (hs : Turn P g X N s s') (h : WpD P g X N c s' K ⟨⟩) : WpD P g X N c s K d := Wp.turn hs h
theorem pureOkD {P : Program} {g : G} (hg : g.good P) (hy : g.y = false) (hm : P.follows .mixedOrders = true) {f : FuncId} {fn : Func} {c : Code} (hf : P.funcs[f]? = some fn) (hb : fn.body = some c) (con : Con) (k : Nat) (hk : k ≤ fn.ntmps)
  (hok : codeOk' L g.ye fn.ntmps c = true)
  (h : ∀ args, con.pre args → allLen args → args.length = k ∧ vcD P g X0 fn.ntmps L c ⟨argEnv 0 args, []⟩ (fun e s => (e = .normal ∨ e = .ret) ∧ retOk g fn s (con.val args)) ⟨⟩) : PureOk P f con := pureOk_of (L := L) hg hy hm hf hb con k hk hok h
theorem itOkD {P : Program} {g : G} (hg : g.good P) (hy : g.y = true) (hm : P.follows .mixedOrders = true) {f : FuncId} {fn : Func} {c : Code} (hf : P.funcs[f]? = some fn) (hent : ∀ (args : Array Value) (w : World), (callFunc f args).run P w = .ok (.enter f args) w) (hb : fn.body = some c) (hres : fn.results = #[]) (ic : ItCon) (k : Nat) (hk : k < fn.ntmps)
  (hok : codeOk' L g.ye fn.ntmps c = true)
  (h : ∀ caps l, ic.pre caps → allLen caps → caps.length = k ∧ ∀ X, XOk P X → vcD P g X fn.ntmps L c ⟨argEnv 0 (yieldAV l :: caps), [.trace l (ic.xs caps) 0 false]⟩ (fun e s => (e = .normal ∨ e = .ret) ∧ ∃ i st, Blk.look s.hp 0 = .trace l (ic.xs caps) i st ∧ (st = false → i = (ic.xs caps).length)) ⟨⟩) :
  ItOk P f ic := itOk_of (L := L) hg hy hm hf hent hb hres ic k hk hok h
theorem WpD.rangeFunc (hg : g.good P) (hm : P.follows .mixedOrders = true) (hy : g.y = false) (htop : g.top = true) {gop : Operand} {ps : List Tmp} {assign body : Code} {d : Dum ((Code.rangeFunc gop (List.toArray ps) assign body), K)} (f : FuncId) (caps : List (Sigma Ty.T))
  (hop : oper s.e gop = ⟨true, .v (.s (.fnp f caps))⟩) (ic : ItCon) (hit : ItOk P f ic) (hpre : ic.pre (caps.map capAV)) (hps : ∀ p ∈ ps, p < N) (hoka : codeOk' L g.ye N assign = true) (hokb : codeOk' L g.ye N body = true) (htr : ∀ l xs i st, Blk.look s.hp 0 ≠ .trace l xs i st)
  (R : Nat → List Blk → Prop) (h0 : R 0 s.hp)
  (hround : ∀ i args hp, (ic.xs (caps.map capAV))[i]? = some args → R i hp → args.length = ps.length ∧
   vcD P g.round X0 N L assign ⟨psE ps args s.e, hp⟩ (thenKD (fun s1 => vcD P g.round X0 N L body s1 (roundKD (fun e hp => K e ⟨s.e, hp⟩) (R (i + 1)) s.hp.length ⟨⟩) ⟨⟩) (fun _ _ => False) ⟨⟩) ⟨⟩)
  (hend : ∀ hp, R (ic.xs (caps.map capAV)).length hp → K .normal ⟨s.e, hp⟩) : WpD P g X0 N (.rangeFunc gop (List.toArray ps) assign body) s K d :=
 Wp.rangeFunc (L := L) hg hm hy htop f caps hop ic hit hpre hps hoka hokb htr R h0 hround hend
end
end Go.Am
