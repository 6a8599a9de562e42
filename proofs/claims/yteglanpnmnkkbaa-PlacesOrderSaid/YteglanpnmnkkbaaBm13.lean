/- Ranging over iterators. -/
import Derived.Test.YteglanpnmnkkbaaBm12
namespace Go.Am
set_option linter.unusedVariables false
open Go.RowKit

structure ItCon where
  pre : List AV → Prop
  xs : List AV → List (List AV)
/-- What a contract says of an iterator: f: its function; caps: what it has captured. -/
def ItOk (P : Program) (f : FuncId) (ic : ItCon) : Prop :=
  (∀ (args : Array Value) (w : World), (callFunc f args).run P w = .ok (.enter f args) w) ∧
  ∀ (X : XT) (l : Nat) (w : World) (M0 : Nat → Prop) (caps : List AV) (vs : List Value), XOk P X → ic.pre caps → (∀ b, M0 b → b < w.heap.size) → All2 (relAV w M0 [] []) caps vs → X l (ic.xs caps) 0 false w M0 (fun _ => False) →
    ∀ n, CallsIn (FW none) n P f (#[.func (.yield l) #[] #[]] ++ vs.toArray) w fun e w' => ∃ v i st M0' B', e = .returned v ∧ X l (ic.xs caps) i st w' M0' B' ∧ (st = false → i = (ic.xs caps).length)

section
variable {P : Program} {g : G} {X : XT} {N : Nat} {n0 : Option Nat} {L : Cfg} {w : World} {M0 : Nat → Prop} {bs : Bs} {hp : List Blk}

def yieldAV (l : Nat) : AV := .s (.val (.func (.yield l) #[] #[]))

/-- An iterator's contract from the verification condition of its body. -/
theorem itOk_of (hg : g.good P) (hy : g.y = true) (hm : P.follows .mixedOrders = true) {f : FuncId} {fn : Func} {c : Code} (hf : P.funcs[f]? = some fn) (hent : ∀ (args : Array Value) (w : World), (callFunc f args).run P w = .ok (.enter f args) w) (hb : fn.body = some c) (hres : fn.results = #[]) (ic : ItCon) (k : Nat) (hk : k < fn.ntmps)
    (hok : codeOk' L g.ye fn.ntmps c = true)
    (h : ∀ caps l, ic.pre caps → allLen caps → caps.length = k ∧ ∀ X, XOk P X → vc P g X fn.ntmps L c ⟨argEnv 0 (yieldAV l :: caps), [.trace l (ic.xs caps) 0 false]⟩ (fun e s => (e = .normal ∨ e = .ret) ∧ ∃ i st, Blk.look s.hp 0 = .trace l (ic.xs caps) i st ∧ (st = false → i = (ic.xs caps).length))) :
    ItOk P f ic := by
  refine ⟨hent, fun X l w M0 caps vs hX hpre hM0 hargs hx n => ?_⟩
  obtain ⟨hlen, hvc⟩ := h caps l hpre (allLen_rel hargs)
  have hwp := vc_sound (X := X) (L := L) hg hX hm c hok _ _ (hvc X hX)
  have hr0 : HR w M0 [none] [.trace l (ic.xs caps) 0 false] := by
    have hat : ∀ id b, Bs.at [none] id ≠ some b := by
      intro id b h
      cases id <;> simp [Bs.at] at h
    have hlk : ∀ id x, Blk.look [.trace l (ic.xs caps) 0 false] id = x → x = .trace l (ic.xs caps) 0 false ∨ x = .dead := by
      intro id x h
      cases id <;> simp [Blk.look] at h
      · exact .inl h.symm
      · exact .inr h.symm
    refine ⟨rfl, hM0, fun id b h => absurd h (hat id b), fun i j b h => absurd h (hat i b), fun id b h => absurd h (hat id b), fun id cs h => ?_, fun id cs h => ?_, fun id al cs b _ h => absurd h (hat id b), fun id k v es h => ?_⟩
    all_goals (rcases hlk _ _ h with h | h <;> cases h)
  have hmof : ∀ b, Mof M0 [none] b → M0 b := by
    rintro b (h | ⟨id, h⟩)
    · exact h
    · cases id <;> simp [Bs.at] at h
  have hrel : All2 (relAV w (Mof M0 [none]) [none] [.trace l (ic.xs caps) 0 false]) (yieldAV l :: caps) (.func (.yield l) #[] #[] :: vs) :=
    .cons rfl (hargs.imp fun x v h => relAV_lift (relAV_weaken hmof h))
  have hvs : #[.func (.yield l) #[] #[]] ++ vs.toArray = ((.func (.yield l) #[] #[] :: vs : List Value)).toArray := by simp
  rw [hvs]
  have hN : ((.func (.yield l) #[] #[] :: vs : List Value).toArray ++ Array.replicate (fn.ntmps - (.func (.yield l) #[] #[] :: vs : List Value).toArray.size) undef).size = fn.ntmps := by
    have := hargs.length
    simp; omega
  refine callsIn_of_wp_marks (n := n) hf hb trivial (wpIn_mono (hwp n none none M0 [none] { tmps := (.func (.yield l) #[] #[] :: vs : List Value).toArray ++ Array.replicate (fn.ntmps - (.func (.yield l) #[] #[] :: vs : List Value).toArray.size) undef, defers := [] } w ⟨fun _ => rfl, by simp [hy]⟩ ⟨hr0, ?_, ?_, hN, rfl⟩) ?_)
  · intro l2 xs i st ht
    simp [Blk.look] at ht
    obtain ⟨rfl, rfl, rfl, rfl⟩ := ht
    have : inBs [none] = fun _ => False := by
      funext b; apply propext; constructor
      · rintro ⟨id, h⟩; cases id <;> simp [Bs.at] at h
      · exact False.elim
    rw [this]; exact hx
  · refine argEnv_rel 0 _ hrel (fun j v hj => ?_)
    have hj2 := (List.getElem?_eq_some_iff.1 hj).1
    simp only [Array.getD_eq_getD_getElem?, Nat.zero_add]
    rw [Array.getElem?_append_left (by simpa using hj2)]
    simp only [List.getElem?_toArray, hj, Option.getD_some]
  · rintro e a' w' ⟨s', M0', bs', ⟨hke, i, st, hlk, hend⟩, hr', hn⟩
    have hdf : a'.defers = [] := hr'.df
    have : LeavesInM (FW none) n P fn a'.tmps (fun e w' => ∃ v i st M0' B', e = .returned v ∧ X l (ic.xs caps) i st w' M0' B' ∧ (st = false → i = (ic.xs caps).length)) a'.defers .returning w' := by
      rw [hdf]
      exact ⟨.tuple #[], by simp [results, hres], _, i, st, M0', _, rfl, hr'.xr _ _ _ _ hlk, hend⟩
    rcases hke with rfl | rfl <;> exact this

/-! ### Who ranges -/
/-- The temporaries at a round's beginning. -/
def psE : List Nat → List AV → Env → Env
  | p :: ps, x :: xs, e => psE ps xs ((p, ⟨true, .v x⟩) :: e)
  | _, _, e => e

theorem psE_rel {M : Nat → Prop} (d : List Deferred) : ∀ (ps : List Nat) (xs : List AV) (vs : List Value) (e : Env) (tm : Array Value), All2 (relAV w M bs hp) xs vs → (∀ p ∈ ps, p < tm.size) → relEnv w M bs hp e { tmps := tm, defers := d } →
    relEnv w M bs hp (psE ps xs e) { tmps := (ps.zip vs).foldl (fun t (p, v) => t.setIfInBounds p v) tm, defers := d } ∧ ((ps.zip vs).foldl (fun t (p, v) => t.setIfInBounds p v) tm).size = tm.size
  | [], xs, vs, e, tm, _, _, h => by cases xs <;> exact ⟨h, rfl⟩
  | p :: ps, _, _, e, tm, .nil, _, h => ⟨h, rfl⟩
  | p :: ps, _, _, e, tm, .cons r hr, hp', h => by
    have h1 := relEnv_put (a := { tmps := tm, defers := d }) h (some p) ⟨true, .v _⟩ _ ⟨fun _ => r, by simp⟩ (fun k hk => by cases hk; exact hp' p (by simp))
    have := psE_rel d ps _ _ _ (tm.setIfInBounds p _) hr (fun q hq => by simp; exact hp' q (by simp [hq])) h1
    simp only [psE, List.zip_cons_cons, List.foldl_cons]
    refine ⟨this.1, this.2.trans (by simp)⟩

/-- The jump that a round leaves. -/
def jumpC : Exit → Option Code
  | .ret => some .ret
  | .exit id => some (.exit id)
  | .goto t => some (.goto t)
  | _ => none

def G.round (g : G) : G := { g with top := false }

/-- The record of a range over an iterator. -/
def recOf (fn : FuncId) (tmps : Array Value) (ps : Array Tmp) (assign body : Code) (D : Nat) (st : LoopState) (pe : Option Code) : Loop := { state := st, pending := pe, fn, tmps, params := ps, assign, body, defers := D }

theorem HR.keep' {M0' : Nat → Prop} (hr : HR w M0 bs hp) {w' : World} (he : Evo (Mof M0 bs) (Mof M0' bs) w w') (hs : ∀ id b, bs.at id = some b → w'.heap[b]? = w.heap[b]?) (hm : ∀ b, M0' b → b < w'.heap.size) (ho : ∀ id b, bs.at id = some b → ¬ M0' b) :
    HR w' M0' bs hp ∧ Step true w (Mof M0 bs) bs hp w' (Mof M0' bs) bs hp := by
  have hst : Step true w (Mof M0 bs) bs hp w' (Mof M0' bs) bs hp :=
    ⟨he, Nat.le_refl _, fun id cs _ h => ⟨⟨cs, h⟩, rfl⟩, fun id b k u es h1 h2 => ⟨h1, es, h2⟩, fun id al cs _ h => ⟨al, cs, h, .inr ⟨rfl, rfl, fun _ => rfl, fun b hb cap size ho => by
      obtain ⟨cur, e, h1, h2⟩ := ho
      exact ⟨cur, e, by rw [hs id b hb]; exact h1, h2⟩⟩⟩, by simp⟩
  refine ⟨⟨hr.len, hm, fun id b h => Nat.lt_of_lt_of_le (hr.lt id b h) he.size, hr.inj, ho, hr.al, ?_, ?_, ?_⟩, hst⟩
  · intro id cs hl
    obtain ⟨b, cur, e, h1, h2, h3, h4⟩ := hr.cells id cs hl
    refine ⟨b, cur, e, h1, by rw [hs id b h1]; exact h2, h3, fun j x hj => ?_⟩
    obtain ⟨u, k1, k2, k3⟩ := h4 j x hj
    exact ⟨u, k1, k2, relSV_step hst x u k3⟩
  · intro id al cs b hl hb
    obtain ⟨cur, e, h2, h4⟩ := hr.arr id al cs b hl hb
    refine ⟨cur, e, by rw [hs id b hb]; exact h2, fun j x hj => ?_⟩
    obtain ⟨u, k1, k2, k3⟩ := h4 j x hj
    exact ⟨u, k1, k2, relSV_step hst x u k3⟩
  · intro id k v es hl
    obtain ⟨b, ents, clock, h1, h2, h3⟩ := hr.map id k v es hl
    exact ⟨b, ents, clock, h1, by rw [hs id b h1]; exact h2, h3.imp fun x m hm => ⟨rep_evo he _ _ _ hm.1, rep_evo he _ _ _ hm.2⟩⟩

/-- What stays as long as the loop runs. -/
structure Stays (w0 : World) (M0 : Nat → Prop) (bs0 : Bs) (hp0 : List Blk) (D l : Nat) (B : Nat → Prop) (w : World) (bs : Bs) (hp : List Blk) : Prop where
  hr : HR w (fun b => M0 b ∨ b = l ∨ B b) bs hp
  st : Step true w0 (Mof M0 bs0) bs0 hp0 w (Mof (fun b => M0 b ∨ b = l ∨ B b) bs) bs hp
  only : Only w0 bs0 hp0 w bs hp
  tr : ∀ l xs i st, Blk.look hp 0 ≠ .trace l xs i st
  dD : DefOk (some 0) w (Mof (fun b => M0 b ∨ b = l ∨ B b) bs) [markOf D]

/-- The consumer's part of the world, from round to round. -/
def XC (K : Exit → List Blk → Prop) (R : Nat → List Blk → Prop) (fn : FuncId) (tmps : Array Value) (ps : Array Tmp) (assign body : Code) (w0 : World) (M0 : Nat → Prop) (bs0 : Bs) (hp0 : List Blk) (D l0 : Nat) (xs0 : List (List AV)) : XT :=
  fun l xs i st w MI B => l = l0 ∧ xs = xs0 ∧ ∃ bs hp pe, (∀ b, MI b ↔ (M0 b ∨ inBs bs b ∨ b = l0)) ∧ w.heap[l0]? = some (.loop (recOf fn tmps ps assign body D (if st then .done else .ready) pe)) ∧ ¬ B l0 ∧ ¬ inBs bs l0 ∧ w0.heap.size ≤ l0 ∧ (∀ b, B b → w0.heap.size ≤ b) ∧
    Stays w0 M0 bs0 hp0 D l0 B w bs hp ∧ (st = false → pe = none ∧ R i hp) ∧ (st = true → ∃ e c, pe = some c ∧ jumpC e = some c ∧ K e hp)

theorem XC_stable {K : Exit → List Blk → Prop} {R : Nat → List Blk → Prop} {fn : FuncId} {tmps : Array Value} {ps : Array Tmp} {assign body : Code} {w0 : World} {bs0 : Bs} {hp0 : List Blk} {D l0 : Nat} {xs0 : List (List AV)}
    {l : Nat} {xs : List (List AV)} {i : Nat} {st : Bool} {w w' : World} {MI B B' : Nat → Prop} (h : XC K R fn tmps ps assign body w0 M0 bs0 hp0 D l0 xs0 l xs i st w MI B) (hos : w'.os = w.os) (htp : w'.tape = w.tape) (hou : w'.output = w.output) (hsz : w.heap.size ≤ w'.heap.size) (hdr : w.drawn ≤ w'.drawn)
    (hsame : ∀ b, b < w.heap.size → ¬ B b → w'.heap[b]? = w.heap[b]?) (hnew : ∀ b, b < w.heap.size → ¬ B b → ¬ B' b) (hB' : ∀ b, B' b → b < w'.heap.size) : XC K R fn tmps ps assign body w0 M0 bs0 hp0 D l0 xs0 l xs i st w' MI B' := by
  obtain ⟨rfl, rfl, bs, hp, pe, hMI, hrec, hBl, hbl, hl0, hB0, hS, h1, h2⟩ := h
  have hll : l < w.heap.size := (Array.getElem?_eq_some_iff.1 hrec).1
  have hw0 : w0.heap.size ≤ w.heap.size := by omega
  have he : Evo (Mof (fun b => M0 b ∨ b = l ∨ B b) bs) (Mof (fun b => M0 b ∨ b = l ∨ B' b) bs) w w' := by
    refine ⟨hos, htp, hou, hsz, hdr, fun b hb hn => hsame b hb fun hB => hn (.inl (.inr (.inr hB))), fun b hb hn hm => ?_⟩
    have hnB : ¬ B b := fun hB => hn (.inl (.inr (.inr hB)))
    rcases hm with (hm | hm | hm) | hm
    · exact hn (.inl (.inl hm))
    · exact hn (.inl (.inr (.inl hm)))
    · exact hnew b hb hnB hm
    · exact hn (.inr hm)
  have hBbs : ∀ id b, bs.at id = some b → ¬ B b := fun id b hb hB => hS.hr.out id b hb (.inr (.inr hB))
  obtain ⟨k1, k2⟩ := hS.hr.keep' he (fun id b hb => hsame b (hS.hr.lt id b hb) (hBbs id b hb)) (fun b hb => by
    rcases hb with hb | hb | hb
    · exact Nat.lt_of_lt_of_le (hS.hr.m0 b (.inl hb)) hsz
    · subst hb; omega
    · exact hB' b hb) (fun id b hb hm => by
    rcases hm with hm | hm | hm
    · exact hS.hr.out id b hb (.inl hm)
    · exact hS.hr.out id b hb (.inr (.inl hm))
    · exact hnew b (hS.hr.lt id b hb) (hBbs id b hb) hm)
  have hge : ∀ b, B' b → w0.heap.size ≤ b := fun b hb => by
    rcases Nat.lt_or_ge b w.heap.size with hlt | hge
    · by_cases hB : B b
      · exact hB0 b hB
      · exact absurd hb (hnew b hlt hB)
    · omega
  refine ⟨rfl, rfl, bs, hp, pe, hMI, by rw [hsame l hll hBl]; exact hrec, hnew l hll hBl, hbl, hl0, hge, ⟨k1, hS.st.trans k2, ?_, hS.tr, hS.dD.evo he⟩, h1, h2⟩
  refine ⟨fun b hb hn => (hsame b (by omega) fun hB => by have := hB0 b hB; omega).trans (hS.only.old b hb hn), hS.only.new, hS.only.tr⟩

theorem Only.touch {w0 : World} {bs0 : Bs} {hp0 : List Blk} (h : Only w0 bs0 hp0 w bs hp) {w' : World} (hs : ∀ b, b < w0.heap.size → w'.heap[b]? = w.heap[b]?) : Only w0 bs0 hp0 w' bs hp :=
  ⟨fun b hb hn => (hs b hb).trans (h.old b hb hn), h.new, h.tr⟩
theorem Evo.congr {A B A' B' : Nat → Prop} {w w' : World} (h : Evo A B w w') (h1 : ∀ b, A b ↔ A' b) (h2 : ∀ b, B b ↔ B' b) : Evo A' B' w w' :=
  ⟨h.os, h.tape, h.output, h.size, h.drawn, fun b hb hn => h.block b hb fun k => hn ((h1 b).1 k), fun b hb hn k => h.free b hb (fun k => hn ((h1 b).1 k)) ((h2 b).2 k)⟩
theorem Evo.putObj {M : Nat → Prop} {l : Nat} (o : Obj) (hl : M l) : Evo M M w (w.putObj l o) :=
  ⟨rfl, rfl, rfl, by simp, Nat.le_refl _, fun b hb hn => World.putObj_heap_other (fun e => hn (e ▸ hl)), fun _ _ h => h⟩

/-- The record of the loop is written. -/
theorem Stays.record {w0 : World} {bs0 : Bs} {hp0 : List Blk} {D l : Nat} {B : Nat → Prop} (h : Stays w0 M0 bs0 hp0 D l B w bs hp) (hl0 : w0.heap.size ≤ l) (hl : ¬ inBs bs l) (hll : l < w.heap.size) {r0 : Loop} (hr0 : w.heap[l]? = some (.loop r0)) (r1 : Loop) : Stays w0 M0 bs0 hp0 D l B (w.putObj l (.loop r1)) bs hp := by
  have he : Evo (Mof (fun b => M0 b ∨ b = l ∨ B b) bs) (Mof (fun b => M0 b ∨ b = l ∨ B b) bs) w (w.putObj l (.loop r1)) := Evo.putObj _ (.inl (.inr (.inl rfl)))
  obtain ⟨k1, k2⟩ := h.hr.keep' he (fun id b hb => World.putObj_heap_other fun e => hl ⟨id, e ▸ hb⟩) (fun b hb => by have := h.hr.m0 b hb; simpa using this) h.hr.out
  exact ⟨k1, h.st.trans k2, h.only.touch fun b hb => World.putObj_heap_other (by omega), h.tr, h.dD.evo he⟩
/-- The body of a round does something. -/
theorem Stays.step {w0 : World} {bs0 : Bs} {hp0 : List Blk} {D l : Nat} {B : Nat → Prop} (h : Stays w0 M0 bs0 hp0 D l B w bs hp) {w' : World} {bs' : Bs} {hp' : List Blk} (hr : HR w' (fun b => M0 b ∨ b = l ∨ B b) bs' hp')
    (hs : Step false w (Mof (fun b => M0 b ∨ b = l ∨ B b) bs) bs hp w' (Mof (fun b => M0 b ∨ b = l ∨ B b) bs') bs' hp') : Stays w0 M0 bs0 hp0 D l B w' bs' hp' :=
  ⟨hr, h.st.trans hs.weaken, h.only.trans h.st.evo.size (hs.only rfl), fun l xs i st ht => h.tr l xs i st ((hs.only rfl).tr 0 l xs i st ht), h.dD.evo hs.evo⟩

theorem zip_foldl (ps : Array Tmp) (vs : List Value) (tm : Array Value) :
    (ps.zip vs.toArray).foldl (fun t (x : Tmp × Value) => t.setIfInBounds x.1 x.2) tm = (ps.toList.zip vs).foldl (fun t (p, v) => t.setIfInBounds p v) tm := by
  rw [← Array.foldl_toList]; simp

/-- The last blocks may be forgotten. -/
def TrT (n : Nat) (hp hp' : List Blk) : Prop := hp' = hp ∨ ∃ junk, hp = hp' ++ junk ∧ n ≤ hp'.length ∧ hp'.all (fun b => b.below hp'.length) = true
theorem TrT.refl (n : Nat) (hp : List Blk) : TrT n hp hp := .inl rfl
theorem TrT.drop {n : Nat} {hp junk : List Blk} (h : n ≤ hp.length) (hb : hp.all (fun b => b.below hp.length) = true) : TrT n (hp ++ junk) hp := .inr ⟨junk, rfl, h, hb⟩
theorem Step.trunc' {v : Bool} {w0 w : World} {MM M : Nat → Prop} {bs0 bs : Bs} {hp0 hp junk : List Blk} (hl : hp0.length ≤ hp.length) (hst : Step v w0 MM bs0 hp0 w (Mof M bs) bs (hp ++ junk)) : Step v w0 MM bs0 hp0 w (Mof M (bs.take hp.length)) (bs.take hp.length) hp := by
  have hev : Evo (Mof M bs) (Mof M (bs.take hp.length)) w w := Evo.more w fun b _ => Mof_take
  refine ⟨hst.evo.trans hev, by omega, ?_, ?_, ?_, fun hv => ?_⟩
  · intro id cs h1 h2
    rw [at_take (by omega)]
    exact hst.box id cs h1 (by rw [look_app (by omega)]; exact h2)
  · intro id b k u es h1 h2
    have hlt : id < hp0.length := look_lt (by rw [h2]; simp)
    obtain ⟨k1, es', k2⟩ := hst.map id b k u es h1 h2
    exact ⟨by rw [at_take (by omega)]; exact k1, es', by rw [← look_app (junk := junk) (by omega)]; exact k2⟩
  · intro id al cs hid h
    rw [at_take (by omega)]
    exact hst.own id al cs hid (by rw [look_app (by omega)]; exact h)
  · have ho := hst.only hv
    exact ⟨ho.old, fun b hb hn j hj => ho.new b hb hn j (at_take' hj), fun j l ys i st ht => ho.tr j l ys i st (by rw [look_app (look_lt (by rw [ht]; simp))]; exact ht)⟩
theorem Stays.trunc {w0 w : World} {bs0 bs : Bs} {hp0 hp junk : List Blk} {D l : Nat} {B : Nat → Prop} (h : Stays w0 M0 bs0 hp0 D l B w bs (hp ++ junk)) (hl : hp0.length ≤ hp.length) (hb : hp.all (fun b => b.below hp.length) = true) : Stays w0 M0 bs0 hp0 D l B w (bs.take hp.length) hp :=
  ⟨h.hr.trunc hb, Step.trunc' hl h.st, ⟨h.only.old, fun b hb hn j hj => h.only.new b hb hn j (at_take' hj), fun j l ys i st ht => h.only.tr j l ys i st (by rw [look_app (look_lt (by rw [ht]; simp))]; exact ht)⟩,
   fun l xs i st ht => h.tr l xs i st (by rw [look_app (look_lt (by rw [ht]; simp))]; exact ht), h.dD.evo (Evo.more w fun b _ => Mof_take)⟩
/-- Where a round ends. -/
def roundK (KJ : Exit → List Blk → Prop) (R : List Blk → Prop) (n : Nat) : Exit → St → Prop
  | .normal, s => ∃ hp', TrT n s.hp hp' ∧ R hp'
  | .ret, s => KJ .ret s.hp
  | .exit id, s => KJ (.exit id) s.hp
  | .goto t, s => KJ (.goto t) s.hp
  | _, _ => False

theorem XC_ok (hg : g.good P) (hy : g.y = false) (hm : P.follows .mixedOrders = true) {KJ : Exit → List Blk → Prop} {R : Nat → List Blk → Prop} {fn : FuncId} {tmps : Array Value} {ps : Array Tmp} {assign body : Code} {w0 : World} {bs0 : Bs} {hp0 : List Blk} {D l0 : Nat} {xs0 : List (List AV)} {e0 : Env}
    (he0 : relEnv w0 (Mof M0 bs0) bs0 hp0 e0 { tmps := tmps, defers := [] }) (hN : tmps.size = N) (hps : ∀ p ∈ ps.toList, p < N) (hoka : codeOk' L g.ye N assign = true) (hokb : codeOk' L g.ye N body = true)
    (hround : ∀ i args hp, xs0[i]? = some args → R i hp → args.length = ps.size ∧ vc P g.round X0 N L assign ⟨psE ps.toList args e0, hp⟩ (thenK (fun s1 => vc P g.round X0 N L body s1 (roundK KJ (R (i + 1)) hp0.length)) (fun _ _ => False))) :
    XOk P (XC KJ R fn tmps ps assign body w0 M0 bs0 hp0 D l0 xs0) := by
  refine ⟨fun h h1 h2 h3 h4 h4d h5 h6 h7 => XC_stable h h1 h2 h3 h4 h4d h5 h6 h7, ?_⟩
  rintro l xs i w MI B args vs ⟨rfl, rfl, bs, hp, pe, hMI, hrec, hBl, hbl, hl0, hB0, hS, h1, _⟩ hi hMI0 hB hargs
  obtain ⟨rfl, hR⟩ := h1 rfl
  obtain ⟨hlen, hvc⟩ := hround i args hp hi hR
  have hll : l < w.heap.size := (Array.getElem?_eq_some_iff.1 hrec).1
  simp only [if_neg, Bool.false_eq_true, not_false_eq_true] at hrec
  have hy' := run_yield (P := P) (args := vs.toArray) hrec (by have := hargs.length; simp [recOf]; omega)
  refine ⟨fn, _, assign, body, hy', fun n r => roundIn_of_wpIn trivial ?_⟩
  have hgr : g.round.good P := hg
  have hA := vc_sound (L := L) (N := N) hgr X0_ok hm assign hoka _ _ hvc
  -- the temporaries of the round
  have hsub : ∀ b, Mof (fun b => M0 b ∨ b = l ∨ B b) bs b → (fun b => MI b ∨ B b) b := by
    rintro b ((hb | hb | hb) | hb)
    · exact .inl ((hMI b).2 (.inl hb))
    · exact .inl ((hMI b).2 (.inr (.inr hb)))
    · exact .inr hb
    · exact .inl ((hMI b).2 (.inr (.inl hb)))
  obtain ⟨q1, q2⟩ := psE_rel [] ps.toList args vs e0 tmps ((all2_weaken hsub hargs).imp fun x v h => relAV_lift (bs := bs) (hp := hp) h) (by rw [hN]; exact hps) (relEnv_step hS.st he0)
  have htm : (ps.zip vs.toArray).foldl (fun t (x : Tmp × Value) => t.setIfInBounds x.1 x.2) tmps = (ps.toList.zip vs).foldl (fun t (p, v) => t.setIfInBounds p v) tmps := zip_foldl ps vs tmps
  have hrel : Rel P X0 N (some 0) w (fun b => M0 b ∨ b = l ∨ B b) bs { tmps := (ps.toList.zip vs).foldl (fun t (p, v) => t.setIfInBounds p v) tmps, defers := [] } ⟨psE ps.toList args e0, hp⟩ :=
    ⟨hS.hr, fun l xs i st ht => absurd ht (hS.tr l xs i st), q1, q2.trans hN, ⟨Nat.zero_le _, [], rfl, .nil, by simp⟩⟩
  have hFW : (FW r).inRound l = FW (some l) := rfl
  rw [hFW]
  have hgoal := hA n (some l) (some 0) _ bs _ w ⟨by simp [G.round], by simp [G.round, hy]⟩ hrel
  rw [← htm] at hgoal
  refine wpIn_mono hgoal ?_
  rintro e a1 w1 ⟨s1, M1, bs1, hK1, hrel1, hnx1⟩
  obtain rfl : M1 = _ := hnx1.eq hy
  cases e with
  | normal =>
    have hst1 : Step false w (Mof (fun b => M0 b ∨ b = l ∨ B b) bs) bs hp w1 (Mof (fun b => M0 b ∨ b = l ∨ B b) bs1) bs1 s1.hp := by have := hnx1.st; rwa [show g.round.y = false from hy] at this
    have hS1 := hS.step hrel1.hr hst1
    have ho1 := hst1.only rfl
    have hl1 : ¬ inBs bs1 l := fun ⟨id, h⟩ => ho1.new l hll (fun id h => hbl ⟨id, h⟩) id h
    have hrec1 : w1.heap[l]? = some (.loop (recOf fn tmps ps assign body D .ready none)) := (ho1.old l hll fun id h => hbl ⟨id, h⟩).trans hrec
    have hll1 : l < w1.heap.size := (Array.getElem?_eq_some_iff.1 hrec1).1
    refine ⟨_, run_beginRound hrec1 rfl, ?_⟩
    have hS2 := hS1.record hl0 hl1 hll1 hrec1 ({ recOf fn tmps ps assign body D .ready none with state := .busy })
    have hev2 : Evo (Mof (fun b => M0 b ∨ b = l ∨ B b) bs1) (Mof (fun b => M0 b ∨ b = l ∨ B b) bs1) w1 (w1.putObj l (.loop { recOf fn tmps ps assign body D .ready none with state := .busy })) := Evo.putObj _ (.inl (.inr (.inl rfl)))
    obtain ⟨_, hst2⟩ := hrel1.hr.keep' hev2 (fun id b hb => World.putObj_heap_other fun e => hl1 ⟨id, e ▸ hb⟩) (fun b hb => by have := hrel1.hr.m0 b hb; simpa using this) hrel1.hr.out
    have hB2 := vc_sound (L := L) (N := N) hgr X0_ok hm body hokb _ _ hK1
    have hrel2 : Rel P X0 N (some 0) (w1.putObj l (.loop { recOf fn tmps ps assign body D .ready none with state := .busy })) (fun b => M0 b ∨ b = l ∨ B b) bs1 a1 s1 :=
      ⟨hS2.hr, fun l xs i st ht => absurd ht (hS2.tr l xs i st), relEnv_step hst2 hrel1.env, hrel1.size, hrel1.df.evo hev2⟩
    refine wpIn_mono (hB2 n (some l) (some 0) _ bs1 a1 _ ⟨by simp [G.round], by simp [G.round, hy]⟩ hrel2) ?_
    rintro e a2 w2 ⟨s2, M2, bs2, hK2, hrel3, hnx2⟩
    obtain rfl : M2 = _ := hnx2.eq hy
    have hst3 := hnx2.st
    rw [show g.round.y = false from hy] at hst3
    have hS3 := hS2.step hrel3.hr hst3
    have ho3 := hst3.only rfl
    have hl2 : ¬ inBs bs2 l := fun ⟨id, h⟩ => ho3.new l (by simpa using hll1) (fun id h => hl1 ⟨id, h⟩) id h
    have hrec2 : w2.heap[l]? = some (.loop { recOf fn tmps ps assign body D .ready none with state := .busy }) := (ho3.old l (by simpa using hll1) fun id h => hl1 ⟨id, h⟩).trans (World.putObj_heap_same hll1)
    have hll2 : l < w2.heap.size := (Array.getElem?_eq_some_iff.1 hrec2).1
    -- what is left
    have fin : ∀ (bsF : Bs) (hpF : List Blk), Stays w0 M0 bs0 hp0 D l B w2 bsF hpF → (∀ b, inBs bsF b → inBs bs2 b) → ∀ (jump : Option Code), (jump = none → R (i + 1) hpF) → (∀ c, jump = some c → ∃ e, jumpC e = some c ∧ KJ e hpF) →
        ∃ v w', (Instr.endRound l jump).run P w2 = .ok v w' ∧ ∃ b M0', Ending.returned v = .returned (.bool b) ∧ XC KJ R fn tmps ps assign body w0 M0 bs0 hp0 D l xs l xs (i + 1) (!b) w' M0' B ∧ YStep w MI B w' M0' := by
      intro bsF hpF hSF hle jump hj1 hj2
      have hlF : ¬ inBs bsF l := fun h => hl2 (hle l h)
      refine ⟨_, _, run_endRound jump hrec2, jump.isNone, (fun b => M0 b ∨ inBs bsF b ∨ b = l), rfl, ?_, ?_⟩
      · have hS4 := hSF.record hl0 hlF hll2 hrec2 ({ recOf fn tmps ps assign body D .ready none with state := if jump.isNone then .ready else .done, pending := jump })
        refine ⟨rfl, rfl, bsF, hpF, jump, fun b => Iff.rfl, ?_, hBl, hlF, hl0, hB0, hS4, ?_, ?_⟩
        · rw [World.putObj_heap_same hll2]
          cases jump <;> rfl
        · intro hb
          cases jump with
          | none => exact ⟨rfl, hj1 rfl⟩
          | some c => simp at hb
        · intro hb
          cases jump with
          | none => simp at hb
          | some c =>
            obtain ⟨e, k1, k2⟩ := hj2 c rfl
            exact ⟨e, c, rfl, k1, k2⟩
      · have hset1 : ∀ b, Mof (fun b => M0 b ∨ b = l ∨ B b) bs b ↔ (fun b => MI b ∨ B b) b := fun b => ⟨hsub b, by
          rintro (hb | hb)
          · rcases (hMI b).1 hb with hb | hb | hb
            · exact .inl (.inl hb)
            · exact .inr hb
            · exact .inl (.inr (.inl hb))
          · exact .inl (.inr (.inr hb))⟩
        have hset2 : ∀ b, Mof (fun b => M0 b ∨ b = l ∨ B b) bsF b ↔ (fun b => (M0 b ∨ inBs bsF b ∨ b = l) ∨ B b) b := fun b => ⟨by
          rintro ((hb | hb | hb) | hb)
          · exact .inl (.inl hb)
          · exact .inl (.inr (.inr hb))
          · exact .inr hb
          · exact .inl (.inr (.inl hb)), by
          rintro ((hb | hb | hb) | hb)
          · exact .inl (.inl hb)
          · exact .inr hb
          · exact .inl (.inr (.inl hb))
          · exact .inl (.inr (.inr hb))⟩
        have hev4 : Evo (Mof (fun b => M0 b ∨ b = l ∨ B b) bs2) (Mof (fun b => M0 b ∨ b = l ∨ B b) bs2) w2 (w2.putObj l (.loop { recOf fn tmps ps assign body D .ready none with state := if jump.isNone then .ready else .done, pending := jump })) := Evo.putObj _ (.inl (.inr (.inl rfl)))
        have hevF : Evo (Mof (fun b => M0 b ∨ b = l ∨ B b) bs2) (Mof (fun b => M0 b ∨ b = l ∨ B b) bsF) _ _ := Evo.more (w2.putObj l (.loop { recOf fn tmps ps assign body D .ready none with state := if jump.isNone then .ready else .done, pending := jump })) fun b _ hb => by
          rcases hb with hb | hb
          · exact .inl hb
          · exact .inr (hle b hb)
        have hev := (((hst1.evo.trans hev2).trans hst3.evo).trans hev4).trans hevF
        have hBb : ∀ b, B b → b ≠ l ∧ ¬ inBs bs b ∧ ¬ inBs bs1 b ∧ ¬ inBs bs2 b := fun b hb => by
          have h0 : ¬ inBs bs b := fun h => (hB b hb).2 ((hMI b).2 (.inr (.inl h)))
          have h1 : ¬ inBs bs1 b := fun ⟨id, h⟩ => ho1.new b (hB b hb).1 (fun id h => h0 ⟨id, h⟩) id h
          have h2 : ¬ inBs bs2 b := fun ⟨id, h⟩ => ho3.new b (by have := hst1.evo.size; have := (hB b hb).1; simp; omega) (fun id h => h1 ⟨id, h⟩) id h
          exact ⟨fun e => hBl (e ▸ hb), h0, h1, h2⟩
        refine ⟨hev.congr hset1 hset2, fun b hb => ?_, ?_, ?_⟩
        · obtain ⟨g1, g2, g3, g4⟩ := hBb b hb
          have hb1 := (hB b hb).1
          rw [World.putObj_heap_other g1, ho3.old b (by have := hst1.evo.size; simp; omega) (fun id h => g3 ⟨id, h⟩), World.putObj_heap_other g1, ho1.old b hb1 (fun id h => g2 ⟨id, h⟩)]
        · rintro b (hb | hb | hb)
          · have := hSF.hr.m0 b (.inl hb); simpa using this
          · obtain ⟨id, hb⟩ := hb; have := hSF.hr.lt id b hb; simpa using this
          · subst hb; simpa using hll2
        · intro b hb hm
          obtain ⟨g1, g2, g3, g4⟩ := hBb b hb
          rcases hm with hm | hm | hm
          · exact (hB b hb).2 ((hMI b).2 (.inl hm))
          · exact g4 (hle b hm)
          · exact g1 hm
    cases e with
    | normal =>
      obtain ⟨hp', htr, hR⟩ := hK2
      rcases htr with rfl | ⟨junk, heq, hlen, hbel⟩
      · exact fin bs2 s2.hp hS3 (fun _ h => h) none (fun _ => hR) (by simp)
      · rw [heq] at hS3
        exact fin _ hp' (hS3.trunc hlen hbel) (fun b ⟨j, hj⟩ => ⟨j, at_take' hj⟩) none (fun _ => hR) (by simp)
    | ret => exact fin bs2 s2.hp hS3 (fun _ h => h) (some .ret) (by simp) (fun c hc => by injection hc with hc; subst hc; exact ⟨.ret, rfl, hK2⟩)
    | exit id => exact fin bs2 s2.hp hS3 (fun _ h => h) (some (.exit id)) (by simp) (fun c hc => by injection hc with hc; subst hc; exact ⟨.exit id, rfl, hK2⟩)
    | goto t => exact fin bs2 s2.hp hS3 (fun _ h => h) (some (.goto t)) (by simp) (fun c hc => by injection hc with hc; subst hc; exact ⟨.goto t, rfl, hK2⟩)
    | panic ch => exact hK2.elim
    | outgrown => exact hK2.elim
  | _ => exact hK1.elim

/-- A range over an iterator. R i: what abstract memory is like after i rounds. -/
theorem Wp.rangeFunc (hg : g.good P) (hm : P.follows .mixedOrders = true) (hy : g.y = false) (htop : g.top = true) {gop : Operand} {ps : Array Tmp} {assign body : Code} {s : St} {K : Exit → St → Prop} (f : FuncId) (caps : List (Sigma Ty.T))
    (hop : oper s.e gop = ⟨true, .v (.s (.fnp f caps))⟩) (ic : ItCon) (hit : ItOk P f ic) (hpre : ic.pre (caps.map capAV)) (hps : ∀ p ∈ ps.toList, p < N) (hoka : codeOk' L g.ye N assign = true) (hokb : codeOk' L g.ye N body = true) (htr : ∀ l xs i st, Blk.look s.hp 0 ≠ .trace l xs i st)
    (R : Nat → List Blk → Prop) (h0 : R 0 s.hp)
    (hround : ∀ i args hp, (ic.xs (caps.map capAV))[i]? = some args → R i hp → args.length = ps.size ∧
      vc P g.round X0 N L assign ⟨psE ps.toList args s.e, hp⟩ (thenK (fun s1 => vc P g.round X0 N L body s1 (roundK (fun e hp => K e ⟨s.e, hp⟩) (R (i + 1)) s.hp.length)) (fun _ _ => False)))
    (hend : ∀ hp, R (ic.xs (caps.map capAV)).length hp → K .normal ⟨s.e, hp⟩) : Wp P g X0 N (.rangeFunc gop ps assign body) s K := by
  intro n r n0 M0 bs a w hT hr
  obtain rfl : r = none := hT.1 htop
  refine wpIn_rangeFunc ?_
  intro fn hfn
  have ho := oper_rel hr.env gop
  unfold opRV at ho
  rw [hop] at ho
  obtain ⟨qs, hev, hq⟩ := ho rfl
  obtain ⟨W1, hW1⟩ : ∃ W1, (w.alloc (.deferred (some []))).alloc (.loop (recOf fn a.tmps ps assign body w.heap.size .ready none)) = W1 := ⟨_, rfl⟩
  have hL1 : W1.heap[w.heap.size + 1]? = some (.loop (recOf fn a.tmps ps assign body w.heap.size .ready none)) := by
    rw [← hW1]; have := World.alloc_heap_new (w.alloc (.deferred (some []))) (.loop (recOf fn a.tmps ps assign body w.heap.size .ready none)); rwa [World.size_alloc] at this
  have hK1 : W1.heap[w.heap.size]? = some (.deferred (some [])) := by
    rw [← hW1]; exact (Below.heap_alloc _ _ _ (by simp)).trans (World.alloc_heap_new w _)
  have hsz1 : W1.heap.size = w.heap.size + 2 := by rw [← hW1]; simp
  have hev0 : Evo (Mof M0 bs) (Mof (fun b => M0 b ∨ b = w.heap.size + 1 ∨ False) bs) w W1 := by
    have e1 : Evo (Mof M0 bs) (Mof M0 bs) w W1 := by rw [← hW1]; exact (Evo.alloc _ _ _).trans (Evo.alloc _ _ _)
    refine ⟨e1.os, e1.tape, e1.output, e1.size, e1.drawn, e1.block, fun b hb hn hm => ?_⟩
    rcases hm with (hm | hm | hm) | hm
    · exact hn (.inl hm)
    · omega
    · exact hm
    · exact hn (.inr hm)
  have hold : ∀ b, b < w.heap.size → W1.heap[b]? = w.heap[b]? := fun b hb => by
    rw [← hW1]; exact (Below.heap_alloc _ _ _ (by simp; omega)).trans (Below.heap_alloc w _ b hb)
  obtain ⟨k1, k2⟩ := hr.hr.keep' (M0' := fun b => M0 b ∨ b = w.heap.size + 1 ∨ False) hev0 (fun id b hb => hold b (hr.hr.lt id b hb)) (fun b hb => by
    rcases hb with hb | hb | hb
    · have := hr.hr.m0 b hb; omega
    · omega
    · exact hb.elim) (fun id b hb hm => by
    rcases hm with hm | hm | hm
    · exact hr.hr.out id b hb hm
    · have := hr.hr.lt id b hb; omega
    · exact hm)
  have hS : Stays w M0 bs s.hp w.heap.size (w.heap.size + 1) (fun _ => False) W1 bs s.hp := by
    refine ⟨k1, k2, ⟨fun b hb _ => hold b hb, fun b _ h => h, fun _ _ _ _ _ h => h⟩, htr, ⟨Nat.zero_le _, [w.heap.size], rfl, by simp, ?_⟩⟩
    intro D hD
    simp only [List.mem_singleton] at hD
    subst hD
    refine ⟨Nat.zero_le _, by omega, ?_, hK1⟩
    rintro ((hm | hm | hm) | ⟨id, hm⟩)
    · have := hr.hr.m0 _ hm; omega
    · omega
    · exact hm
    · have := hr.hr.lt id _ hm; omega
  have hXok : XOk P (XC (fun e hp => K e ⟨s.e, hp⟩) R fn a.tmps ps assign body w M0 bs s.hp w.heap.size (w.heap.size + 1) (ic.xs (caps.map capAV))) :=
    XC_ok (L := L) hg hy hm (e0 := s.e) (fun t x hx => hr.env t x hx) hr.size hps hoka hokb hround
  have hrun := hit.1
  refine ⟨w.heap.size + 1, [markOf w.heap.size], W1, { target := .fn (.func f) qs.toArray, args := #[.func (.yield (w.heap.size + 1)) #[] #[]] }, W1, f,
    #[.func (.yield (w.heap.size + 1)) #[] #[]] ++ qs.toArray, W1, ?_, ?_, ?_, ?_, fun hd => by simp [FW] at hd, ?_⟩
  · rw [← hW1]; exact run_enterLoop_outer _ _ _ _ _
  · simp only [resolve, hev]
    simp [go_sem]
  · intro f' _; trivial
  · simp [invoke, go_sem, hrun]
  · refine (hit.2 _ (w.heap.size + 1) W1 (fun b => M0 b ∨ inBs bs b ∨ b = w.heap.size + 1) (caps.map capAV) qs hXok hpre ?_ ?_ ?_ (n - 1)).mono ?_
    · rintro b (hb | ⟨id, hb⟩ | hb)
      · have := hr.hr.m0 b hb; omega
      · have := hr.hr.lt id b hb; omega
      · omega
    · refine caps_rel (hq.imp fun c p hp => FrozenAt.evo (M' := fun b => M0 b ∨ inBs bs b ∨ b = w.heap.size + 1) (hev0.congr (fun b => Iff.rfl) fun b => ?_) hp)
      constructor
      · rintro ((h | h | h) | h)
        · exact .inl h
        · exact .inr (.inr h)
        · exact h.elim
        · exact .inr (.inl h)
      · rintro (h | h | h)
        · exact .inl (.inl h)
        · exact .inr h
        · exact .inl (.inr (.inl h))
    · exact ⟨rfl, rfl, bs, s.hp, none, fun b => Iff.rfl, hL1, fun h => h, fun ⟨id, h⟩ => by have := hr.hr.lt id _ h; omega, by omega, fun b h => h.elim, hS, fun _ => ⟨rfl, h0⟩, by simp⟩
    · rintro e w3 ⟨v, i, st, MI3, B3, rfl, ⟨_, _, bs3, hp3, pe, hMI, hrec, hBl, hbl, hl0, hB0, hS3, hs1, hs2⟩, hst⟩
      have hll : w.heap.size + 1 < w3.heap.size := (Array.getElem?_eq_some_iff.1 hrec).1
      refine ⟨pe, _, run_endLoop hrec (by cases st <;> simp [recOf]), ?_⟩
      have hS4 := hS3.record hl0 hbl hll hrec ({ recOf fn a.tmps ps assign body w.heap.size (if st then .done else .ready) pe with state := .exhausted })
      -- the loop's own blocks are forgotten
      have hev5 : Evo (Mof (fun b => M0 b ∨ b = w.heap.size + 1 ∨ B3 b) bs3) (Mof M0 bs3) (w3.putObj (w.heap.size + 1) (.loop { recOf fn a.tmps ps assign body w.heap.size (if st then .done else .ready) pe with state := .exhausted })) (w3.putObj (w.heap.size + 1) (.loop { recOf fn a.tmps ps assign body w.heap.size (if st then .done else .ready) pe with state := .exhausted })) :=
        Evo.more _ fun b _ h => h.elim (fun h => .inl (.inl h)) .inr
      obtain ⟨j1, j2⟩ := hS4.hr.keep' hev5 (fun _ _ _ => rfl) (fun b hb => hS4.hr.m0 b (.inl hb)) (fun id b hb hm => hS4.hr.out id b hb (.inl hm))
      have hfull := hS4.st.trans j2
      have hx4 : XR X0 (w3.putObj (w.heap.size + 1) (.loop { recOf fn a.tmps ps assign body w.heap.size (if st then .done else .ready) pe with state := .exhausted })) M0 bs3 hp3 := fun l xs i st ht => absurd ht (hS4.tr l xs i st)
      have hrel : Rel P X0 N n0 (w3.putObj (w.heap.size + 1) (.loop { recOf fn a.tmps ps assign body w.heap.size (if st then .done else .ready) pe with state := .exhausted })) M0 bs3 { a with defers := [markOf w.heap.size] ++ a.defers } ⟨s.e, hp3⟩ := by
        refine ⟨j1, hx4, fun t x hx => relEnv_step hfull hr.env t x hx, hr.size, ?_⟩
        cases hn0 : n0 with
        | none => have := hT.2; simp [hn0, hy] at this
        | some m0 =>
          have hd := hr.df
          rw [hn0] at hd
          obtain ⟨d1, Ds, d2, d3, d4⟩ := hd
          have hd' : DefOk (some m0) w (Mof M0 bs) a.defers := ⟨d1, Ds, d2, d3, d4⟩
          obtain ⟨f1, Ds', f2, f3, f4⟩ := hd'.evo hfull.evo
          obtain ⟨_, Es, g2, g3, g4⟩ := hS4.dD.evo hev5
          have hEs : Es = [w.heap.size] := by
            cases Es with
            | nil => simp at g2
            | cons x Es =>
              cases Es with
              | nil => simp [markOf] at g2; rw [g2]
              | cons y Es => simp at g2
          subst hEs
          refine ⟨f1, w.heap.size :: Ds, by rw [d2]; rfl, ?_, ?_⟩
          · refine List.nodup_cons.2 ⟨fun h => ?_, d3⟩
            have := (d4 _ h).2.1
            omega
          · intro E hE
            rcases List.mem_cons.1 hE with rfl | hE
            · exact ⟨d1, (g4 _ (by simp)).2⟩
            · have hmap : Ds' = Ds := by
                have : Ds'.map markOf = Ds.map markOf := by rw [← f2, d2]
                exact (List.map_inj_right (fun x y h => by simpa [markOf] using h)).1 this
              rw [hmap] at f4
              exact f4 E hE
      have hnx : Nx P g X0 w M0 bs s.hp (w3.putObj (w.heap.size + 1) (.loop { recOf fn a.tmps ps assign body w.heap.size (if st then .done else .ready) pe with state := .exhausted })) M0 bs3 hp3 :=
        ⟨j1, hx4, ⟨hfull.evo, hfull.len, hfull.box, hfull.map, hfull.own, fun _ => hS4.only⟩, fun _ => rfl⟩
      cases st with
      | false =>
        obtain ⟨rfl, hR⟩ := hs1 rfl
        rw [hst rfl] at hR
        exact ⟨⟨s.e, hp3⟩, M0, bs3, hend _ hR, hrel, hnx⟩
      | true =>
        obtain ⟨e, c, rfl, hc, hK⟩ := hs2 rfl
        cases e with
        | ret => injection hc with hc; subst hc; exact wpIn_ret ⟨⟨s.e, hp3⟩, M0, bs3, hK, hrel, hnx⟩
        | exit id => injection hc with hc; subst hc; exact wpIn_exit ⟨⟨s.e, hp3⟩, M0, bs3, hK, hrel, hnx⟩
        | goto t => injection hc with hc; subst hc; exact wpIn_goto ⟨⟨s.e, hp3⟩, M0, bs3, hK, hrel, hnx⟩
        | _ => simp [jumpC] at hc

theorem round_td (t : TypeId) : g.round.td t = g.td t := rfl
theorem round_y : g.round.y = g.y := rfl
theorem round_Γ : g.round.Γ = g.Γ := rfl
end
abbrev vI (n : Int) : SL := ⟨true, .v (.s (.int .i64 n))⟩
abbrev vB (b : Bool) : SL := ⟨true, .v (.s (.bool b))⟩
abbrev vS (t : Ty) (xs : List t.T) (ex : Bool) : SL := ⟨true, .v (.s (.sl t xs ex))⟩
abbrev aI (n : Int) : AV := .s (.int .i64 n)
abbrev aB (b : Bool) : AV := .s (.bool b)
abbrev aS (t : Ty) (xs : List t.T) (ex : Bool) : AV := .s (.sl t xs ex)
theorem getD_lt {α : Type} {xs : List α} {i : Nat} (h : i < xs.length) (d : α) : xs[i]?.getD d = xs[i] := by simp [h]
end Go.Am
