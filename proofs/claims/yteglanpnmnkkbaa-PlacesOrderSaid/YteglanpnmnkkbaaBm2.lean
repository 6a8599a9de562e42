/- Abstract values, abstract memory, and what it says of a world that they stand for it. -/
import Derived.Test.YteglanpnmnkkbaaBm1
namespace Go.Am
set_option linter.unusedVariables false
open Go.RowKit

/-- Abstract values of one cell. -/
inductive SV where
  | any
  | bool (b : Bool)
  | int (k : IntKind) (n : Int)
  | str (s : ByteArray)
  | val (v : Value)
  | sl (t : Ty) (xs : List t.T) (ex : Bool)
  | eptr (t : Ty) (x : t.T)
  | box (id off : Nat)
  | own (t : Ty) (id n : Nat)
  | eown (t : Ty) (id n off : Nat)
  | fn (f : FuncId) (caps : List Nat)
  | fnp (f : FuncId) (caps : List (Sigma Ty.T))
  | mp (id : Nat)
  | ib (p q : Prop)
  | fv (x : D .fn)

inductive AV where
  | s (v : SV)
  | agg (cs : List SV)
inductive RV where
  | v (x : AV)
  | tup (xs : List AV)
structure SL where
  ok : Bool
  v : RV
/-- A block of abstract memory: variables; the array of a slice that the call itself makes (al: it surely has a block in memory); a map. -/
inductive Blk where
  | dead
  | cells (cs : List SV)
  | arr (al : Bool) (cs : List SV)
  | map (k v : Ty) (es : List (k.T × v.T))
  | trace (l : Nat) (xs : List (List AV)) (i : Nat) (st : Bool)

def Ty.flat : (t : Ty) → t.T → List SV
  | .int k, n => [.int k n]
  | .bool, b => [.bool b]
  | .str, s => [.str s]
  | .slice t, xs => [.sl t xs false]
  | .nil, _ => []
  | .cons t r, x => t.flat x.1 ++ r.flat x.2
  | .fn, x => [.fv x]
def Ty.flats (t : Ty) : List t.T → List SV
  | [] => []
  | x :: l => t.flat x ++ t.flats l

/-- From cells to a datum. -/
def Ty.parse : (t : Ty) → List SV → Option (t.T × List SV)
  | .int k, .int k' n :: r => if k = k' then some (n, r) else none
  | .bool, .bool b :: r => some (b, r)
  | .str, .str s :: r => some (s, r)
  | .slice t, .sl t' xs _ :: r => if h : t' = t then some (h ▸ xs, r) else none
  | .nil, r => some ((), r)
  | .cons t u, l => match t.parse l with
    | some (x, l') => match u.parse l' with
      | some (y, l'') => some ((x, y), l'')
      | none => none
    | none => none
  | .fn, .fv x :: r => some (x, r)
  | .fn, .fn f [] :: r => some (D.fnOf f [], r)
  | .fn, .fnp f caps :: r => some (D.fnOf f caps, r)
  | .fn, .val .nilFunc :: r => some (D.nofn, r)
  | _, _ => none

@[reducible] def Ty.fld : Ty → Nat → Ty
  | .cons t _, 0 => t
  | .cons _ r, f + 1 => r.fld f
  | _, _ => .nil
def Ty.get : (t : Ty) → t.T → (f : Nat) → (t.fld f).T
  | .cons _ _, x, 0 => x.1
  | .cons _ r, x, f + 1 => r.get x.2 f
  | .int _, _, _ => ()
  | .bool, _, _ => ()
  | .str, _, _ => ()
  | .slice _, _, _ => ()
  | .nil, _, _ => ()
  | .fn, _, _ => ()
def Ty.off : Ty → Nat → Nat
  | .cons _ _, 0 => 0
  | .cons t r, f + 1 => t.size + r.off f
  | _, _ => 0
def Ty.nfld : Ty → Nat
  | .cons _ r => r.nfld + 1
  | _ => 0

/-- Relations, element by element. -/
inductive All2 {α β : Type} (R : α → β → Prop) : List α → List β → Prop
  | nil : All2 R [] []
  | cons {a b l m} : R a b → All2 R l m → All2 R (a :: l) (b :: m)

section
variable {α β : Type} {R S : α → β → Prop}
theorem All2.imp {l : List α} {m : List β} (h : ∀ a b, R a b → S a b) (k : All2 R l m) : All2 S l m := by
  induction k with
  | nil => exact .nil
  | cons r _ ih => exact .cons (h _ _ r) ih
theorem All2.length {l : List α} {m : List β} (k : All2 R l m) : l.length = m.length := by
  induction k with
  | nil => rfl
  | cons _ _ ih => simp [ih]
theorem All2.get {l : List α} {m : List β} (k : All2 R l m) : ∀ (i : Nat) (a : α), l[i]? = some a → ∃ b, m[i]? = some b ∧ R a b := by
  induction k with
  | nil => intro i a h; simp at h
  | cons r _ ih =>
    intro i a h
    cases i with
    | zero => simp at h; subst h; exact ⟨_, rfl, r⟩
    | succ i => simpa using ih i a (by simpa using h)
theorem All2.append {l l' : List α} {m m' : List β} (k : All2 R l m) (k' : All2 R l' m') : All2 R (l ++ l') (m ++ m') := by
  induction k with
  | nil => exact k'
  | cons r _ ih => exact .cons r ih
theorem All2.split {l l' : List α} : ∀ {m : List β}, All2 R (l ++ l') m → ∃ m1 m2, m = m1 ++ m2 ∧ All2 R l m1 ∧ All2 R l' m2 := by
  induction l with
  | nil => intro m h; exact ⟨[], m, rfl, .nil, h⟩
  | cons a l ih =>
    intro m h
    cases h with
    | cons r h => obtain ⟨m1, m2, rfl, h1, h2⟩ := ih h; exact ⟨_ :: m1, m2, rfl, .cons r h1, h2⟩
theorem All2.of_get : ∀ {l : List α} {m : List β}, l.length = m.length → (∀ (i : Nat) (a : α) (b : β), l[i]? = some a → m[i]? = some b → R a b) → All2 R l m
  | [], [], _, _ => .nil
  | [], _ :: _, h, _ => by simp at h
  | _ :: _, [], h, _ => by simp at h
  | a :: l, b :: m, h, k => .cons (k 0 a b rfl rfl) (All2.of_get (by simpa using h) fun i x y hx hy => k (i + 1) x y (by simpa using hx) (by simpa using hy))
end

/-- What the abstract memory stands on: which block each abstract block has. -/
abbrev Bs := List (Option Nat)
def Bs.at (bs : Bs) (id : Nat) : Option Nat := (bs[id]?).bind fun x => x
def Blk.look (hp : List Blk) (id : Nat) : Blk := (hp[id]?).getD .dead
/-- The blocks that may be written: those of the callers, and those of the abstract memory. -/
def Mof (M0 : Nat → Prop) (bs : Bs) (b : Nat) : Prop := M0 b ∨ ∃ id, bs.at id = some b

/-- A slice that owns the block b. -/
def OwnAt (w : World) (b cap size : Nat) : Prop := ∃ cur e, w.heap[b]? = some (.cells cur e (0, 0)) ∧ cur.size = cap * size ∧ cap ≤ maxLen

/-- A pointer to cells that nobody writes any more. -/
def FrozenAt (w : World) (M : Nat → Prop) (c : Sigma Ty.T) (p : Value) : Prop :=
  ∃ b off cs, p = .pointer (some ⟨b, off, none⟩) ∧ ¬ M b ∧ b < w.heap.size ∧ rep w M c.1 c.2 cs ∧ CellsAt w b off cs

theorem repD_fnOf {w : World} {M : Nat → Prop} (f : FuncId) {caps : List (Sigma Ty.T)} {ps : List Value} (h : All2 (FrozenAt w M) caps ps) : RepD w M .fn (D.fnOf f caps) [.func (.func f) #[] ps.toArray] := by
  have hl := h.length
  have hc : ∃ (css : Nat → List Value) (bo : Nat → Nat × Nat), ∀ (i : Nat) (c : Sigma Ty.T) (p : Value), caps[i]? = some c → ps[i]? = some p →
      p = .pointer (some ⟨(bo i).1, (bo i).2, none⟩) ∧ ¬ M (bo i).1 ∧ (bo i).1 < w.heap.size ∧ rep w M c.1 c.2 (css i) ∧ CellsAt w (bo i).1 (bo i).2 (css i) := by
    clear hl
    induction h with
    | nil => exact ⟨fun _ => [], fun _ => (0, 0), fun i c p h => by simp at h⟩
    | cons r _ ih =>
      obtain ⟨css, bo, hh⟩ := ih
      obtain ⟨b, off, cs, h1, h2, h3, h4, h5⟩ := r
      refine ⟨fun i => match i with | 0 => cs | i + 1 => css i, fun i => match i with | 0 => (b, off) | i + 1 => bo i, fun i c p hc hp => ?_⟩
      cases i with
      | zero => simp at hc hp; subst hc; subst hp; exact ⟨h1, h2, h3, h4, h5⟩
      | succ i => exact hh i c p (by simpa using hc) (by simpa using hp)
  obtain ⟨css, bo, hh⟩ := hc
  have hto : (DC.of (caps.map dS)).to = caps.map dS := DC.to_of _
  refine .fn f _ ps css bo (by rw [hto, List.length_map]; exact hl.symm) (fun i p hp => ?_) (fun i c hc => ?_)
  · have hi := (List.getElem?_eq_some_iff.1 hp).1
    obtain ⟨k1, k2, k3, _, k5⟩ := hh i caps[i] p (List.getElem?_eq_getElem (by omega)) hp
    exact ⟨k1, k2, k3, k5⟩
  · rw [hto, List.getElem?_map] at hc
    cases hi : caps[i]? with
    | none => rw [hi] at hc; cases hc
    | some y =>
      rw [hi] at hc; cases hc
      have hlt := (List.getElem?_eq_some_iff.1 hi).1
      obtain ⟨_, _, _, k4, _⟩ := hh i y ps[i] hi (List.getElem?_eq_getElem (by omega))
      exact rep_toD _ _ _ k4
theorem repD_parts {w : World} {M : Nat → Prop} {x : D .fn} {v : Value} {f : FuncId} {caps : List (Sigma Ty.T)} (h : RepD w M .fn x [v]) (hp : x.parts = some (f, caps)) : ∃ ps : List Value, v = .func (.func f) #[] ps.toArray ∧ All2 (FrozenAt w M) caps ps := by
  cases h with
  | nofn => simp [D.parts] at hp
  | fn f' caps' ps css bo h1 h2 h3 =>
    simp only [D.parts, Option.some.injEq, Prod.mk.injEq] at hp
    obtain ⟨rfl, rfl⟩ := hp
    refine ⟨ps, rfl, All2.of_get (by rw [List.length_map, h1]) fun i c p hc hp => ?_⟩
    rw [List.getElem?_map] at hc
    cases hi : caps'.to[i]? with
    | none => rw [hi] at hc; cases hc
    | some y =>
      rw [hi] at hc; cases hc
      obtain ⟨k1, k2, k3, k4⟩ := h2 i p hp
      exact ⟨_, _, _, k1, k2, k3, rep_ofD _ _ _ (h3 i y hi), k4⟩

theorem FrozenAt.evo {w w' : World} {M M' : Nat → Prop} (h : Evo M M' w w') {c : Sigma Ty.T} {p : Value} (k : FrozenAt w M c p) : FrozenAt w' M' c p := by
  obtain ⟨b, off, cs, h1, h2, h3, h4, h5⟩ := k
  exact ⟨b, off, cs, h1, h.free b h3 h2, Nat.lt_of_lt_of_le h3 h.size, rep_evo h _ _ _ h4, h5.evo h h3 h2⟩

def relSV (w : World) (M : Nat → Prop) (bs : Bs) (hp : List Blk) : SV → Value → Prop
  | .any, _ => True
  | .bool b, v => v = .bool b
  | .int k n, v => v = .int k n
  | .str s, v => v = .string s
  | .val x, v => v = x
  | .sl t xs ex, v => ∃ a c, v = .slice a xs.length c ∧ xs.length ≤ c ∧ c ≤ maxLen ∧ (ex = true → c = xs.length) ∧ RowAt w M (fun x cs => rep w M t x cs) t.size a xs
  | .eptr t x, v => ∃ b off cs, v = .pointer (some ⟨b, off, none⟩) ∧ ¬ M b ∧ b < w.heap.size ∧ rep w M t x cs ∧ CellsAt w b off cs
  | .box id off, v => id < hp.length ∧ ∀ cs, Blk.look hp id = .cells cs → ∃ b, bs.at id = some b ∧ v = .pointer (some ⟨b, off, none⟩)
  | .own t id n, v => id < hp.length ∧ ∀ al cs, Blk.look hp id = .arr al cs → n * t.size ≤ cs.length ∧ (cs.length = n * t.size →
      (∃ b cap, bs.at id = some b ∧ v = .slice (some ⟨b, 0, none⟩) n cap ∧ n ≤ cap ∧ OwnAt w b cap t.size) ∨
      (bs.at id = none ∧ ∃ (xs : List t.T) (a : Option Addr), xs.length = n ∧ n ≤ maxLen ∧ cs = t.flats xs ∧ v = .slice a n n ∧ RowAt w M (fun x cs => rep w M t x cs) t.size a xs))
  | .eown t id n off, v => id < hp.length ∧ ∀ al cs, Blk.look hp id = .arr al cs → n * t.size ≤ cs.length ∧ (cs.length = n * t.size → ∃ b, bs.at id = some b ∧ v = .pointer (some ⟨b, off, none⟩))
  | .fn f caps, v => ∃ ps, v = .func (.func f) #[] (ps.map fun b => .pointer (some ⟨b, 0, none⟩)).toArray ∧ All2 (fun id b => id < hp.length ∧ ∀ cs, Blk.look hp id = .cells cs → bs.at id = some b) caps ps
  | .fnp f caps, v => ∃ ps, v = .func (.func f) #[] ps.toArray ∧ All2 (FrozenAt w M) caps ps
  | .mp id, v => ∃ b k u es, bs.at id = some b ∧ Blk.look hp id = .map k u es ∧ v = .map (some b)
  | .ib p q, v => ∃ b, v = .bool b ∧ (b = true → p) ∧ (b = false → q)
  | .fv x, v => RepD w M .fn x [v]

def relAV (w : World) (M : Nat → Prop) (bs : Bs) (hp : List Blk) : AV → Value → Prop
  | .s x, v => relSV w M bs hp x v
  | .agg cs, v => ∃ vs, v = .agg vs.toArray ∧ All2 (fun x u => relSV w M bs hp x u ∧ u.oneCell' = true) cs vs
def relRV (w : World) (M : Nat → Prop) (bs : Bs) (hp : List Blk) : RV → Value → Prop
  | .v x, v => relAV w M bs hp x v
  | .tup xs, v => ∃ vs, v = .tuple vs.toArray ∧ All2 (relAV w M bs hp) xs vs
def relSL (w : World) (M : Nat → Prop) (bs : Bs) (hp : List Blk) (x : SL) (v : Value) : Prop :=
  (x.ok = true → relRV w M bs hp x.v v) ∧ (x.ok = false → v = undef)

/-- The world outside of the abstract memory is as it was. -/
structure Only (w : World) (bs : Bs) (hp : List Blk) (w' : World) (bs' : Bs) (hp' : List Blk) : Prop where
  old : ∀ b, b < w.heap.size → (∀ id, bs.at id ≠ some b) → w'.heap[b]? = w.heap[b]?
  new : ∀ b, b < w.heap.size → (∀ id, bs.at id ≠ some b) → ∀ id, bs'.at id ≠ some b
  tr : ∀ id l xs i st, Blk.look hp' id = .trace l xs i st → Blk.look hp id = .trace l xs i st

theorem Only.refl (w : World) (bs : Bs) (hp : List Blk) : Only w bs hp w bs hp := ⟨fun _ _ _ => rfl, fun _ _ h => h, fun _ _ _ _ _ h => h⟩
theorem Only.trans {w w' w'' : World} {bs bs' bs'' : Bs} {hp hp' hp'' : List Blk} (h : Only w bs hp w' bs' hp') (hs : w.heap.size ≤ w'.heap.size) (k : Only w' bs' hp' w'' bs'' hp'') : Only w bs hp w'' bs'' hp'' :=
  ⟨fun b hb hn => (k.old b (Nat.lt_of_lt_of_le hb hs) (h.new b hb hn)).trans (h.old b hb hn), fun b hb hn => k.new b (Nat.lt_of_lt_of_le hb hs) (h.new b hb hn), fun id l xs i st ht => h.tr id l xs i st (k.tr id l xs i st ht)⟩

/-- How the abstract memory may go on. (v: a round may have turned the world outside of it.) -/
structure Step (v : Bool) (w : World) (M : Nat → Prop) (bs : Bs) (hp : List Blk) (w' : World) (M' : Nat → Prop) (bs' : Bs) (hp' : List Blk) : Prop where
  evo : Evo M M' w w'
  len : hp.length ≤ hp'.length
  box : ∀ id cs', id < hp.length → Blk.look hp' id = .cells cs' → (∃ cs, Blk.look hp id = .cells cs) ∧ bs'.at id = bs.at id
  map : ∀ id b k u es, bs.at id = some b → Blk.look hp id = .map k u es → bs'.at id = some b ∧ ∃ es', Blk.look hp' id = .map k u es'
  own : ∀ id al cs, id < hp.length → Blk.look hp' id = .arr al cs → ∃ al0 cs0, Blk.look hp id = .arr al0 cs0 ∧ (cs0.length < cs.length ∨
      (cs0.length = cs.length ∧ bs'.at id = bs.at id ∧ (bs.at id = none → cs = cs0) ∧ ∀ b, bs.at id = some b → ∀ cap size, OwnAt w b cap size → OwnAt w' b cap size))
  only : v = false → Only w bs hp w' bs' hp'

theorem Step.refl {v : Bool} (w : World) (M : Nat → Prop) (bs : Bs) (hp : List Blk) : Step v w M bs hp w M bs hp :=
  ⟨Evo.refl M w, Nat.le_refl _, fun id cs _ h => ⟨⟨cs, h⟩, rfl⟩, fun id b k u es h1 h2 => ⟨h1, es, h2⟩, fun id al cs _ h => ⟨al, cs, h, .inr ⟨rfl, rfl, fun _ => rfl, fun b hb cap size ho => ho⟩⟩, fun _ => Only.refl _ _ _⟩
theorem Step.weaken {v : Bool} {w w' : World} {M M' : Nat → Prop} {bs bs' : Bs} {hp hp' : List Blk} (h : Step false w M bs hp w' M' bs' hp') : Step v w M bs hp w' M' bs' hp' := ⟨h.evo, h.len, h.box, h.map, h.own, fun _ => h.only rfl⟩
theorem Step.trans {v : Bool} {w w' w'' : World} {M M' M'' : Nat → Prop} {bs bs' bs'' : Bs} {hp hp' hp'' : List Blk} (h : Step v w M bs hp w' M' bs' hp') (k : Step v w' M' bs' hp' w'' M'' bs'' hp'') :
    Step v w M bs hp w'' M'' bs'' hp'' := by
  refine ⟨h.evo.trans k.evo, Nat.le_trans h.len k.len, ?_, ?_, ?_, fun hv => (h.only hv).trans h.evo.size (k.only hv)⟩
  · intro id cs'' hid hl
    obtain ⟨⟨cs', e1⟩, e2⟩ := k.box id cs'' (Nat.lt_of_lt_of_le hid h.len) hl
    obtain ⟨e3, e4⟩ := h.box id cs' hid e1
    exact ⟨e3, e2.trans e4⟩
  · intro id b kt u es h1 h2
    obtain ⟨e1, es', e2⟩ := h.map id b kt u es h1 h2
    exact k.map id b kt u es' e1 e2
  · intro id al cs hid hl
    obtain ⟨al1, cs1, h1, h2⟩ := k.own id al cs (Nat.lt_of_lt_of_le hid h.len) hl
    obtain ⟨al0, cs0, h3, h4⟩ := h.own id al1 cs1 hid h1
    refine ⟨al0, cs0, h3, ?_⟩
    rcases h2 with h2 | ⟨h2, e2, q2, r2⟩
    · rcases h4 with h4 | ⟨h4, _⟩
      · exact .inl (by omega)
      · exact .inl (by omega)
    · rcases h4 with h4 | ⟨h4, e4, q4, r4⟩
      · exact .inl (by omega)
      · refine .inr ⟨by omega, by rw [e2, e4], fun hn => by rw [q2 (by rw [e4]; exact hn), q4 hn], fun b hb cap size ho => ?_⟩
        exact r2 b (by rw [e4]; exact hb) _ _ (r4 b hb _ _ ho)

theorem relSV_step {v₀ : Bool} {w w' : World} {M M' : Nat → Prop} {bs bs' : Bs} {hp hp' : List Blk} (h : Step v₀ w M bs hp w' M' bs' hp') : ∀ (x : SV) (v : Value), relSV w M bs hp x v → relSV w' M' bs' hp' x v
  | .any, _, _ => trivial
  | .bool b, v, hr => hr
  | .int k n, v, hr => hr
  | .str s, v, hr => hr
  | .val x, v, hr => hr
  | .sl t xs ex, v, hr => by
    obtain ⟨a, c, h1, h2, h3, h4, h5⟩ := hr
    exact ⟨a, c, h1, h2, h3, h4, h5.evo h.evo⟩
  | .eptr t x, v, hr => by
    obtain ⟨b, off, cs, h1, h2, h3, h4, h5⟩ := hr
    exact ⟨b, off, cs, h1, h.evo.free b h3 h2, Nat.lt_of_lt_of_le h3 h.evo.size, rep_evo h.evo _ _ _ h4, h5.evo h.evo h3 h2⟩
  | .box id off, v, hr => by
    obtain ⟨hid, hr⟩ := hr
    refine ⟨Nat.lt_of_lt_of_le hid h.len, fun cs' hl => ?_⟩
    obtain ⟨⟨cs, k1⟩, k2⟩ := h.box id cs' hid hl
    rw [k2]
    exact hr cs k1
  | .own t id n, v, hr => by
    obtain ⟨hid, hr⟩ := hr
    refine ⟨Nat.lt_of_lt_of_le hid h.len, fun al cs hcs => ?_⟩
    obtain ⟨al0, cs0, hc0, hlen⟩ := h.own id al cs hid hcs
    obtain ⟨h1, h2⟩ := hr al0 cs0 hc0
    rcases hlen with hlt | ⟨hle, e1, e2, e3⟩
    · exact ⟨by omega, fun hl => by omega⟩
    · refine ⟨by omega, fun hl => ?_⟩
      rcases h2 (by omega) with ⟨b, cap, k1, k2, k3, k4⟩ | ⟨k1, xs, a, k2, k3, k4, k5, k6⟩
      · exact .inl ⟨b, cap, by rw [e1]; exact k1, k2, k3, e3 b k1 _ _ k4⟩
      · exact .inr ⟨by rw [e1]; exact k1, xs, a, k2, k3, by rw [e2 k1]; exact k4, k5, k6.evo h.evo⟩
  | .eown t id n off, v, hr => by
    obtain ⟨hid, hr⟩ := hr
    refine ⟨Nat.lt_of_lt_of_le hid h.len, fun al cs hcs => ?_⟩
    obtain ⟨al0, cs0, hc0, hlen⟩ := h.own id al cs hid hcs
    obtain ⟨h1, h2⟩ := hr al0 cs0 hc0
    rcases hlen with hlt | ⟨hle, e1, e2, e3⟩
    · exact ⟨by omega, fun hl => by omega⟩
    · refine ⟨by omega, fun hl => ?_⟩
      obtain ⟨b, k1, k2⟩ := h2 (by omega)
      exact ⟨b, by rw [e1]; exact k1, k2⟩
  | .fn f caps, v, hr => by
    obtain ⟨ps, h1, h2⟩ := hr
    refine ⟨ps, h1, h2.imp fun id b hb => ?_⟩
    obtain ⟨hid, hb⟩ := hb
    refine ⟨Nat.lt_of_lt_of_le hid h.len, fun cs' hl => ?_⟩
    obtain ⟨⟨cs, k1⟩, k2⟩ := h.box id cs' hid hl
    rw [k2]
    exact hb cs k1
  | .fnp f caps, v, hr => by
    obtain ⟨ps, h1, h2⟩ := hr
    exact ⟨ps, h1, h2.imp fun c p hp => hp.evo h.evo⟩
  | .mp id, v, hr => by
    obtain ⟨b, k, u, es, h1, h2, h3⟩ := hr
    obtain ⟨k1, es', k2⟩ := h.map id b k u es h1 h2
    exact ⟨b, k, u, es', k1, k2, h3⟩
  | .ib _ _, _, hr => hr
  | .fv x, v, hr => RepD.evo h.evo hr
theorem relAV_step {v₀ : Bool} {w w' : World} {M M' : Nat → Prop} {bs bs' : Bs} {hp hp' : List Blk} (h : Step v₀ w M bs hp w' M' bs' hp') : ∀ (x : AV) (v : Value), relAV w M bs hp x v → relAV w' M' bs' hp' x v
  | .s x, v, hr => relSV_step h x v hr
  | .agg cs, v, hr => by
    obtain ⟨vs, h1, h2⟩ := hr
    exact ⟨vs, h1, h2.imp fun x u hu => ⟨relSV_step h x u hu.1, hu.2⟩⟩
theorem relRV_step {v₀ : Bool} {w w' : World} {M M' : Nat → Prop} {bs bs' : Bs} {hp hp' : List Blk} (h : Step v₀ w M bs hp w' M' bs' hp') : ∀ (x : RV) (v : Value), relRV w M bs hp x v → relRV w' M' bs' hp' x v
  | .v x, v, hr => relAV_step h x v hr
  | .tup xs, v, hr => by
    obtain ⟨vs, h1, h2⟩ := hr
    exact ⟨vs, h1, h2.imp fun x u hu => relAV_step h x u hu⟩
theorem relSL_step {v₀ : Bool} {w w' : World} {M M' : Nat → Prop} {bs bs' : Bs} {hp hp' : List Blk} (h : Step v₀ w M bs hp w' M' bs' hp') (x : SL) (v : Value) (hr : relSL w M bs hp x v) : relSL w' M' bs' hp' x v :=
  ⟨fun ho => relRV_step h x.v v (hr.1 ho), hr.2⟩

/-- What the abstract memory says of the world. -/
structure HR (w : World) (M0 : Nat → Prop) (bs : Bs) (hp : List Blk) : Prop where
  len : bs.length = hp.length
  m0 : ∀ b, M0 b → b < w.heap.size
  lt : ∀ id b, bs.at id = some b → b < w.heap.size
  inj : ∀ i j b, bs.at i = some b → bs.at j = some b → i = j
  out : ∀ id b, bs.at id = some b → ¬ M0 b
  al : ∀ id cs, Blk.look hp id = .arr true cs → ∃ b, bs.at id = some b
  cells : ∀ id cs, Blk.look hp id = .cells cs → ∃ b cur e, bs.at id = some b ∧ w.heap[b]? = some (.cells cur e (0, 0)) ∧ cs.length = cur.size ∧
    ∀ (j : Nat) (x : SV), cs[j]? = some x → ∃ u, cur[j]? = some u ∧ u.oneCell' = true ∧ relSV w (Mof M0 bs) bs hp x u
  arr : ∀ id al cs b, Blk.look hp id = .arr al cs → bs.at id = some b → ∃ cur e, w.heap[b]? = some (.cells cur e (0, 0)) ∧
    ∀ (j : Nat) (x : SV), cs[j]? = some x → ∃ u, cur[j]? = some u ∧ u.oneCell' = true ∧ relSV w (Mof M0 bs) bs hp x u
  map : ∀ id k v es, Blk.look hp id = .map k v es → ∃ b ents clock, bs.at id = some b ∧ w.heap[b]? = some (.map ents clock) ∧
    All2 (fun x (m : MapEntry) => rep w (Mof M0 bs) k x.1 [m.key] ∧ rep w (Mof M0 bs) v x.2 [m.val]) es ents.toList

theorem rep_flat {w : World} {M : Nat → Prop} {bs : Bs} {hp : List Blk} : ∀ (t : Ty) (x : t.T) (cs : List Value), rep w M t x cs → All2 (fun x u => relSV w M bs hp x u ∧ u.oneCell' = true) (t.flat x) cs
  | .int k, n, cs, h => by simp only [rep] at h; subst h; exact .cons ⟨rfl, rfl⟩ .nil
  | .bool, b, cs, h => by simp only [rep] at h; subst h; exact .cons ⟨rfl, rfl⟩ .nil
  | .str, s, cs, h => by simp only [rep] at h; subst h; exact .cons ⟨rfl, rfl⟩ .nil
  | .slice t, xs, cs, h => by
    simp only [rep] at h
    obtain ⟨a, c, rfl, h1, h2, h3⟩ := h
    exact .cons ⟨⟨a, c, rfl, h1, h2, by simp, h3⟩, rfl⟩ .nil
  | .nil, _, cs, h => by simp only [rep] at h; subst h; exact .nil
  | .cons t r, x, cs, h => by
    simp only [rep] at h
    obtain ⟨c1, c2, rfl, h1, h2⟩ := h
    exact (rep_flat t _ _ h1).append (rep_flat r _ _ h2)
  | .fn, x, cs, h => by
    simp only [rep] at h
    obtain ⟨v, rfl, h1⟩ := h.fn_one
    exact .cons ⟨h, h1⟩ .nil

theorem parse_rep {w : World} {M : Nat → Prop} {bs : Bs} {hp : List Blk} : ∀ (t : Ty) (l : List SV) (x : t.T) (r : List SV) (us : List Value), t.parse l = some (x, r) →
    All2 (relSV w M bs hp) l us → ∃ c1 c2, us = c1 ++ c2 ∧ rep w M t x c1 ∧ All2 (relSV w M bs hp) r c2
  | .int k, l, x, r, us, h, hu => by
    cases hu with
    | nil => simp [Ty.parse] at h
    | cons ha hl =>
      rename_i a b l m
      cases a <;> simp [Ty.parse] at h
      obtain ⟨rfl, rfl, rfl⟩ := h
      exact ⟨[b], m, rfl, by rw [show b = _ from ha]; simp [rep], hl⟩
  | .bool, l, x, r, us, h, hu => by
    cases hu with
    | nil => simp [Ty.parse] at h
    | cons ha hl =>
      rename_i a b l m
      cases a <;> simp [Ty.parse] at h
      obtain ⟨rfl, rfl⟩ := h
      exact ⟨[b], m, rfl, by rw [show b = _ from ha]; simp [rep], hl⟩
  | .str, l, x, r, us, h, hu => by
    cases hu with
    | nil => simp [Ty.parse] at h
    | cons ha hl =>
      rename_i a b l m
      cases a <;> simp [Ty.parse] at h
      obtain ⟨rfl, rfl⟩ := h
      exact ⟨[b], m, rfl, by rw [show b = _ from ha]; simp [rep], hl⟩
  | .slice t, l, x, r, us, h, hu => by
    cases hu with
    | nil => simp [Ty.parse] at h
    | cons ha hl =>
      rename_i a b l m
      cases a <;> simp [Ty.parse] at h
      rename_i t' xs ex
      obtain ⟨⟨rfl, rfl⟩, rfl⟩ := h
      obtain ⟨a, c, h1, h2, h3, _, h5⟩ := ha
      exact ⟨[b], m, rfl, by simp only [rep]; exact ⟨a, c, by rw [h1], h2, h3, h5⟩, hl⟩
  | .fn, l, x, r, us, h, hu => by
    cases hu with
    | nil => simp [Ty.parse] at h
    | cons ha hl =>
      rename_i a b l m
      simp only [rep]
      cases a with
      | fv y =>
        simp [Ty.parse] at h
        obtain ⟨rfl, rfl⟩ := h
        exact ⟨[b], m, rfl, ha, hl⟩
      | fnp f caps =>
        simp [Ty.parse] at h
        obtain ⟨rfl, rfl⟩ := h
        obtain ⟨ps, rfl, k2⟩ := ha
        exact ⟨_, m, rfl, repD_fnOf f k2, hl⟩
      | fn f ids =>
        cases ids with
        | cons i ids => simp [Ty.parse] at h
        | nil =>
          simp [Ty.parse] at h
          obtain ⟨rfl, rfl⟩ := h
          obtain ⟨ps, rfl, k2⟩ := ha
          cases k2
          exact ⟨_, m, rfl, repD_fnOf (ps := []) f .nil, hl⟩
      | val y =>
        cases y <;> simp [Ty.parse] at h
        obtain ⟨rfl, rfl⟩ := h
        obtain rfl : b = _ := ha
        exact ⟨_, m, rfl, .nofn, hl⟩
      | _ => simp [Ty.parse] at h
  | .nil, l, x, r, us, h, hu => by
    simp [Ty.parse] at h
    subst h
    exact ⟨[], us, rfl, by simp [rep], hu⟩
  | .cons t u, l, x, r, us, h, hu => by
    simp only [Ty.parse] at h
    cases h1 : t.parse l with
    | none => simp [h1] at h
    | some p =>
      obtain ⟨x1, l1⟩ := p
      simp only [h1] at h
      cases h2 : u.parse l1 with
      | none => simp [h2] at h
      | some q =>
        obtain ⟨y1, l2⟩ := q
        simp only [h2] at h
        simp at h
        obtain ⟨rfl, rfl⟩ := h
        obtain ⟨c1, c2, rfl, k1, k2⟩ := parse_rep t l x1 l1 us h1 hu
        obtain ⟨c3, c4, rfl, k3, k4⟩ := parse_rep u l1 y1 l2 c2 h2 k2
        exact ⟨c1 ++ c3, c4, by simp, by simp only [rep]; exact ⟨c1, c3, rfl, k1, k3⟩, k4⟩
end Go.Am
