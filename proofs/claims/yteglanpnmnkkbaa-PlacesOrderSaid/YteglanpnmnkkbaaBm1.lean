/- Abstract data types for the values of a Go program, and how they lie in memory.
   Plain data (numbers, bools, strings, slices, structs) that nobody writes any more. -/
import Derived.Test.YteglanpnmnkkbaaRows
import Derived.WalkKit
import Derived.Lib.Hide
import Derived.RangeFuncNested
import Derived.RangeFuncBound
import Derived.RangeFuncCalls
import Derived.RangeFuncLeaves
import Derived.OrdersIn
namespace Go.Am
set_option linter.unusedVariables false
open Go.RowKit

/-- Codes of data types. A struct is a list of fields: cons .. nil. -/
inductive Ty where
  | int (k : IntKind)
  | bool
  | str
  | slice (t : Ty)
  | nil
  | cons (t r : Ty)
  | fn
  deriving DecidableEq

mutual
/-- Data, told deeply: what a function value has captured. -/
inductive D : Ty → Type where
  | int (k : IntKind) (n : Int) : D (.int k)
  | bool (b : Bool) : D .bool
  | str (s : ByteArray) : D .str
  | slice (t : Ty) (xs : DL t) : D (.slice t)
  | nil : D .nil
  | cons (t r : Ty) (x : D t) (y : D r) : D (.cons t r)
  | nofn : D .fn
  | fn (f : FuncId) (caps : DC) : D .fn
inductive DL : Ty → Type where
  | nil (t : Ty) : DL t
  | cons (t : Ty) (x : D t) (l : DL t) : DL t
inductive DC : Type where
  | nil : DC
  | cons (t : Ty) (x : D t) (l : DC) : DC
end
def DL.to {t : Ty} : DL t → List (D t)
  | .nil _ => []
  | .cons _ x l => x :: l.to
def DL.of {t : Ty} : List (D t) → DL t
  | [] => .nil t
  | x :: l => .cons t x (DL.of l)
theorem DL.to_of {t : Ty} : ∀ l : List (D t), (DL.of l).to = l
  | [] => rfl
  | x :: l => by simp only [DL.of, DL.to, DL.to_of l]
theorem DL.of_to {t : Ty} : ∀ l : DL t, DL.of l.to = l
  | .nil _ => rfl
  | .cons _ x l => by simp only [DL.of, DL.to, DL.of_to l]
def DC.to : DC → List ((t : Ty) × D t)
  | .nil => []
  | .cons t x l => ⟨t, x⟩ :: l.to
def DC.of : List ((t : Ty) × D t) → DC
  | [] => .nil
  | x :: l => .cons x.1 x.2 (DC.of l)
theorem DC.to_of : ∀ l : List ((t : Ty) × D t), (DC.of l).to = l
  | [] => rfl
  | x :: l => by simp only [DC.of, DC.to, DC.to_of l]
theorem DC.of_to : ∀ l : DC, DC.of l.to = l
  | .nil => rfl
  | .cons t x l => by simp only [DC.of, DC.to, DC.of_to l]

@[reducible] def Ty.T : Ty → Type
  | .int _ => Int
  | .bool => Bool
  | .str => ByteArray
  | .slice t => List t.T
  | .nil => Unit
  | .cons t r => t.T × r.T
  | .fn => D .fn

@[reducible] def Ty.size : Ty → Nat
  | .int _ => 1
  | .bool => 1
  | .str => 1
  | .slice _ => 1
  | .nil => 0
  | .cons t r => t.size + r.size
  | .fn => 1

@[reducible] def Ty.dflt : (t : Ty) → t.T
  | .int _ => (0 : Int)
  | .bool => false
  | .str => ByteArray.empty
  | .slice _ => []
  | .nil => ()
  | .cons t r => (t.dflt, r.dflt)
  | .fn => .nofn

/-- From data as told plainly to data told deeply, and back. -/
def toD : (t : Ty) → t.T → D t
  | .int k, n => .int k n
  | .bool, b => .bool b
  | .str, s => .str s
  | .slice t, xs => .slice t (DL.of (xs.map (toD t)))
  | .nil, _ => .nil
  | .cons t r, x => .cons t r (toD t x.1) (toD r x.2)
  | .fn, x => x
def D.n : {k : IntKind} → D (.int k) → Int | _, .int _ n => n
def D.b : D .bool → Bool | .bool b => b
def D.s : D .str → ByteArray | .str s => s
def D.l : {t : Ty} → D (.slice t) → List (D t) | _, .slice _ l => l.to
def D.x : {t r : Ty} → D (.cons t r) → D t | _, _, .cons _ _ x _ => x
def D.y : {t r : Ty} → D (.cons t r) → D r | _, _, .cons _ _ _ y => y
def ofD : (t : Ty) → D t → t.T
  | .int _, d => d.n
  | .bool, d => d.b
  | .str, d => d.s
  | .slice t, d => d.l.map (ofD t)
  | .nil, _ => ()
  | .cons t r, d => (ofD t d.x, ofD r d.y)
  | .fn, x => x
theorem ofD_toD : ∀ (t : Ty) (x : t.T), ofD t (toD t x) = x
  | .int _, _ => rfl
  | .bool, _ => rfl
  | .str, _ => rfl
  | .slice t, xs => by
    simp only [toD, ofD, D.l, DL.to_of, List.map_map]
    conv => rhs; rw [← List.map_id xs]
    exact List.map_congr_left fun x _ => ofD_toD t x
  | .nil, _ => rfl
  | .cons t r, x => by simp only [toD, ofD, D.x, D.y, ofD_toD t, ofD_toD r]
  | .fn, _ => rfl
theorem toD_ofD : ∀ (t : Ty) (d : D t), toD t (ofD t d) = d
  | .int _, .int _ _ => rfl
  | .bool, .bool _ => rfl
  | .str, .str _ => rfl
  | .slice t, .slice _ xs => by
    simp only [toD, ofD, D.l, List.map_map]
    congr 1
    conv => rhs; rw [← DL.of_to xs, ← List.map_id xs.to]
    congr 1
    exact List.map_congr_left fun x _ => toD_ofD t x
  | .nil, .nil => rfl
  | .cons t r, .cons _ _ x y => by simp only [toD, ofD, D.x, D.y, toD_ofD t, toD_ofD r]
  | .fn, _ => rfl
abbrev dS (c : Sigma Ty.T) : (t : Ty) × D t := ⟨c.1, toD c.1 c.2⟩
abbrev sD (c : (t : Ty) × D t) : Sigma Ty.T := ⟨c.1, ofD c.1 c.2⟩
theorem sD_dS (c : Sigma Ty.T) : sD (dS c) = c := by simp only [sD, dS, ofD_toD]
theorem dS_sD (c : (t : Ty) × D t) : dS (sD c) = c := by simp only [sD, dS, toD_ofD]
/-- The function of a function value, and what it has captured. -/
def D.parts : D .fn → Option (FuncId × List (Sigma Ty.T))
  | .nofn => none
  | .fn f caps => some (f, caps.to.map sD)
/-- A function value that has captured these. -/
def D.fnOf (f : FuncId) (caps : List (Sigma Ty.T)) : D .fn := .fn f (DC.of (caps.map dS))
theorem D.parts_fnOf (f : FuncId) (caps : List (Sigma Ty.T)) : (D.fnOf f caps).parts = some (f, caps) := by
  simp only [D.fnOf, D.parts, DC.to_of, List.map_map]
  congr 2
  conv => rhs; rw [← List.map_id caps]
  exact List.map_congr_left fun c _ => sD_dS c

/-- Cells ad, ad+1, .. of block b, from offset off on, hold cs. -/
def CellsAt (w : World) (b off : Nat) (cs : List Value) : Prop :=
  ∀ j v, cs[j]? = some v → w.cell? ⟨b, off + j, none⟩ = some v

/-- A row of elements at address a, each of sz cells. -/
def RowAt {α : Type} (w : World) (M : Nat → Prop) (ρ : α → List Value → Prop) (sz : Nat) (a : Option Addr) (xs : List α) : Prop :=
  xs = [] ∨ ∃ b off, a = some ⟨b, off, none⟩ ∧ ¬ M b ∧ b < w.heap.size ∧
    ∀ i x, xs[i]? = some x → ∃ cs, cs.length = sz ∧ ρ x cs ∧ CellsAt w b (off + i * sz) cs

/-- The cells cs hold the datum x, told deeply. -/
inductive RepD (w : World) (M : Nat → Prop) : (t : Ty) → D t → List Value → Prop where
  | int (k n) : RepD w M (.int k) (.int k n) [.int k n]
  | bool (b) : RepD w M .bool (.bool b) [.bool b]
  | str (s) : RepD w M .str (.str s) [.string s]
  | slice (t : Ty) (xs : DL t) (a : Option Addr) (c b off : Nat) (css : Nat → List Value) : xs.to.length ≤ c → c ≤ maxLen → (xs.to ≠ [] → a = some ⟨b, off, none⟩ ∧ ¬ M b ∧ b < w.heap.size) →
      (∀ (i : Nat) (x : D t), xs.to[i]? = some x → (css i).length = t.size ∧ CellsAt w b (off + i * t.size) (css i)) → (∀ (i : Nat) (x : D t), xs.to[i]? = some x → RepD w M t x (css i)) → RepD w M (.slice t) (.slice t xs) [.slice a xs.to.length c]
  | nil : RepD w M .nil .nil []
  | cons (t r : Ty) (x : D t) (y : D r) (c1 c2 : List Value) : RepD w M t x c1 → RepD w M r y c2 → RepD w M (.cons t r) (.cons t r x y) (c1 ++ c2)
  | nofn : RepD w M .fn .nofn [.nilFunc]
  | fn (f : FuncId) (caps : DC) (ps : List Value) (css : Nat → List Value) (bo : Nat → Nat × Nat) : ps.length = caps.to.length →
      (∀ (i : Nat) (p : Value), ps[i]? = some p → p = .pointer (some ⟨(bo i).1, (bo i).2, none⟩) ∧ ¬ M (bo i).1 ∧ (bo i).1 < w.heap.size ∧ CellsAt w (bo i).1 (bo i).2 (css i)) →
      (∀ (i : Nat) (c : (t : Ty) × D t), caps.to[i]? = some c → RepD w M c.1 c.2 (css i)) → RepD w M .fn (.fn f caps) [.func (.func f) #[] ps.toArray]

/-- The cells cs hold the datum x. M: blocks that may still be written (none of them is met). -/
def rep (w : World) (M : Nat → Prop) : (t : Ty) → t.T → List Value → Prop
  | .int k, n, cs => cs = [.int k n]
  | .bool, b, cs => cs = [.bool b]
  | .str, s, cs => cs = [.string s]
  | .slice t, xs, cs => ∃ a c, cs = [.slice a xs.length c] ∧ xs.length ≤ c ∧ c ≤ maxLen ∧ RowAt w M (fun x cs => rep w M t x cs) t.size a xs
  | .nil, _, cs => cs = []
  | .cons t r, x, cs => ∃ c1 c2, cs = c1 ++ c2 ∧ rep w M t x.1 c1 ∧ rep w M r x.2 c2
  | .fn, x, cs => RepD w M .fn x cs

theorem RepD.int_inv {w : World} {M : Nat → Prop} {k : IntKind} {d : D (.int k)} {cs : List Value} (h : RepD w M (.int k) d cs) : cs = [.int k d.n] := by cases h; rfl
theorem RepD.bool_inv {w : World} {M : Nat → Prop} {d : D .bool} {cs : List Value} (h : RepD w M .bool d cs) : cs = [.bool d.b] := by cases h; rfl
theorem RepD.str_inv {w : World} {M : Nat → Prop} {d : D .str} {cs : List Value} (h : RepD w M .str d cs) : cs = [.string d.s] := by cases h; rfl
theorem RepD.fn_one {w : World} {M : Nat → Prop} {d : D .fn} {cs : List Value} (h : RepD w M .fn d cs) : ∃ v, cs = [v] ∧ v.oneCell' = true := by cases h <;> exact ⟨_, rfl, rfl⟩
theorem rep_toD {w : World} {M : Nat → Prop} : ∀ (t : Ty) (x : t.T) (cs : List Value), rep w M t x cs → RepD w M t (toD t x) cs
  | .int k, n, cs, h => by simp only [rep] at h; subst h; exact .int _ _
  | .bool, b, cs, h => by simp only [rep] at h; subst h; exact .bool _
  | .str, s, cs, h => by simp only [rep] at h; subst h; exact .str _
  | .slice t, xs, cs, h => by
    simp only [rep] at h
    obtain ⟨a, c, rfl, h1, h2, h3⟩ := h
    have hl : (xs.map (toD t)).length = xs.length := List.length_map ..
    have key : ∀ (b off : Nat) (css : Nat → List Value), (xs ≠ [] → a = some ⟨b, off, none⟩ ∧ ¬ M b ∧ b < w.heap.size) → (∀ (i : Nat) (x : t.T), xs[i]? = some x → (css i).length = t.size ∧ CellsAt w b (off + i * t.size) (css i)) →
        (∀ (i : Nat) (x : t.T), xs[i]? = some x → rep w M t x (css i)) → RepD w M (.slice t) (toD (.slice t) xs) [.slice a xs.length c] := by
      intro b off css k1 k2 k3
      have := RepD.slice (w := w) (M := M) t (DL.of (xs.map (toD t))) a c b off css (by rw [DL.to_of, hl]; exact h1) h2 (fun hn => k1 fun he => hn (by rw [he]; rfl)) (fun i x hx => by
        rw [DL.to_of, List.getElem?_map] at hx
        cases hi : xs[i]? with
        | none => rw [hi] at hx; cases hx
        | some y => exact k2 i y hi) (fun i x hx => by
        rw [DL.to_of, List.getElem?_map] at hx
        cases hi : xs[i]? with
        | none => rw [hi] at hx; cases hx
        | some y => rw [hi] at hx; cases hx; exact rep_toD t y _ (k3 i y hi))
      rw [DL.to_of, hl] at this
      exact this
    rcases h3 with rfl | ⟨b, off, ha, hm, hb, he⟩
    · exact key 0 0 (fun _ => []) (fun h => absurd rfl h) (fun i x h => by simp at h) (fun i x h => by simp at h)
    · have hc : ∃ css : Nat → List Value, ∀ (i : Nat) (x : t.T), xs[i]? = some x → (css i).length = t.size ∧ rep w M t x (css i) ∧ CellsAt w b (off + i * t.size) (css i) :=
        ⟨fun i => @dite _ (i < xs.length) (Classical.propDecidable _) (fun h => Classical.choose (he i xs[i] (List.getElem?_eq_getElem h))) (fun _ => []), fun i x hx => by
          have hlt := (List.getElem?_eq_some_iff.1 hx).1
          have hx' : x = xs[i] := by rw [List.getElem?_eq_getElem hlt] at hx; cases hx; rfl
          subst hx'
          simp only [hlt, dif_pos]
          exact Classical.choose_spec (he i xs[i] (List.getElem?_eq_getElem hlt))⟩
      obtain ⟨css, hcss⟩ := hc
      exact key b off css (fun _ => ⟨ha, hm, hb⟩) (fun i x hx => ⟨(hcss i x hx).1, (hcss i x hx).2.2⟩) (fun i x hx => (hcss i x hx).2.1)
  | .nil, _, cs, h => by simp only [rep] at h; subst h; exact .nil
  | .cons t r, x, cs, h => by
    simp only [rep] at h
    obtain ⟨c1, c2, rfl, h1, h2⟩ := h
    exact .cons _ _ _ _ _ _ (rep_toD t _ _ h1) (rep_toD r _ _ h2)
  | .fn, x, cs, h => by simpa only [rep, toD] using h
theorem rep_ofD {w : World} {M : Nat → Prop} : ∀ (t : Ty) (d : D t) (cs : List Value), RepD w M t d cs → rep w M t (ofD t d) cs
  | .int k, d, cs, h => by cases h; simp only [rep, ofD, D.n]
  | .bool, d, cs, h => by cases h; simp only [rep, ofD, D.b]
  | .str, d, cs, h => by cases h; simp only [rep, ofD, D.s]
  | .slice t, d, cs, h => by
    cases h with
    | slice _ xs a c b off css h1 h2 h3 h4 h5 =>
      have hl : (xs.to.map (ofD t)).length = xs.to.length := List.length_map ..
      simp only [rep, ofD, D.l]
      refine ⟨a, c, by rw [hl], by rw [hl]; exact h1, h2, ?_⟩
      by_cases hn : xs.to = []
      · left; rw [hn]; rfl
      · right
        obtain ⟨k1, k2, k3⟩ := h3 hn
        refine ⟨b, off, k1, k2, k3, fun i x hx => ?_⟩
        rw [List.getElem?_map] at hx
        cases hi : xs.to[i]? with
        | none => rw [hi] at hx; cases hx
        | some y =>
          rw [hi] at hx; cases hx
          exact ⟨css i, (h4 i y hi).1, rep_ofD t y _ (h5 i y hi), (h4 i y hi).2⟩
  | .nil, d, cs, h => by cases h; simp only [rep]
  | .cons t r, d, cs, h => by
    cases h with
    | cons _ _ x y c1 c2 h1 h2 =>
      simp only [rep, ofD, D.x, D.y]
      exact ⟨c1, c2, rfl, rep_ofD t _ _ h1, rep_ofD r _ _ h2⟩
  | .fn, x, cs, h => by simpa only [rep, ofD] using h

theorem rep_length {w : World} {M : Nat → Prop} : ∀ (t : Ty) (x : t.T) (cs : List Value), rep w M t x cs → cs.length = t.size
  | .int k, n, cs, h => by simp only [rep] at h; subst h; rfl
  | .bool, b, cs, h => by simp only [rep] at h; subst h; rfl
  | .str, s, cs, h => by simp only [rep] at h; subst h; rfl
  | .slice t, xs, cs, h => by simp only [rep] at h; obtain ⟨a, c, rfl, _⟩ := h; rfl
  | .nil, _, cs, h => by simp only [rep] at h; subst h; rfl
  | .cons t r, x, cs, h => by
    simp only [rep] at h
    obtain ⟨c1, c2, rfl, h1, h2⟩ := h
    simp [rep_length t _ _ h1, rep_length r _ _ h2]
  | .fn, x, cs, h => by
    simp only [rep] at h
    obtain ⟨v, rfl, _⟩ := h.fn_one
    rfl

/-- From w to w' nothing has turned but blocks of M; what was not in M is not in M'. -/
structure Evo (M M' : Nat → Prop) (w w' : World) : Prop where
  os : w'.os = w.os
  tape : w'.tape = w.tape
  output : w'.output = w.output
  size : w.heap.size ≤ w'.heap.size
  drawn : w.drawn ≤ w'.drawn
  block : ∀ b, b < w.heap.size → ¬ M b → w'.heap[b]? = w.heap[b]?
  free : ∀ b, b < w.heap.size → ¬ M b → ¬ M' b

theorem Evo.refl (M : Nat → Prop) (w : World) : Evo M M w w := ⟨rfl, rfl, rfl, Nat.le_refl _, Nat.le_refl _, fun _ _ _ => rfl, fun _ _ h => h⟩
theorem Evo.trans {M1 M2 M3 : Nat → Prop} {a b c : World} (h : Evo M1 M2 a b) (k : Evo M2 M3 b c) : Evo M1 M3 a c :=
  ⟨k.os.trans h.os, k.tape.trans h.tape, k.output.trans h.output, Nat.le_trans h.size k.size, Nat.le_trans h.drawn k.drawn,
   fun i hi hm => (k.block i (Nat.lt_of_lt_of_le hi h.size) (h.free i hi hm)).trans (h.block i hi hm),
   fun i hi hm => k.free i (Nat.lt_of_lt_of_le hi h.size) (h.free i hi hm)⟩

theorem CellsAt.evo {w w' : World} {M M' : Nat → Prop} (h : Evo M M' w w') {b off : Nat} {cs : List Value} (hb : b < w.heap.size) (hm : ¬ M b) (hc : CellsAt w b off cs) : CellsAt w' b off cs := by
  intro j v hj
  have h1 := hc j v hj
  rw [← h1]
  exact World.cell?_of_block (w := w) (h.block b hb hm)

theorem RepD.evo {w w' : World} {M M' : Nat → Prop} (h : Evo M M' w w') {t : Ty} {d : D t} {cs : List Value} (hr : RepD w M t d cs) : RepD w' M' t d cs := by
  induction hr with
  | int k n => exact .int _ _
  | bool b => exact .bool _
  | str s => exact .str _
  | slice t xs a c b off css h1 h2 h3 h4 h5 ih =>
    refine .slice t xs a c b off css h1 h2 (fun hn => ?_) (fun i x hx => ⟨(h4 i x hx).1, ?_⟩) ih
    · obtain ⟨k1, k2, k3⟩ := h3 hn
      exact ⟨k1, h.free b k3 k2, Nat.lt_of_lt_of_le k3 h.size⟩
    · obtain ⟨k1, k2, k3⟩ := h3 (by intro e; rw [e] at hx; simp at hx)
      exact (h4 i x hx).2.evo h k3 k2
  | nil => exact .nil
  | cons t r x y c1 c2 _ _ ih1 ih2 => exact .cons _ _ _ _ _ _ ih1 ih2
  | nofn => exact .nofn
  | fn f caps ps css bo h1 h2 h3 ih =>
    refine .fn f caps ps css bo h1 (fun i p hp => ?_) ih
    obtain ⟨k1, k2, k3, k4⟩ := h2 i p hp
    exact ⟨k1, h.free _ k3 k2, Nat.lt_of_lt_of_le k3 h.size, k4.evo h k3 k2⟩
theorem rep_evo {w w' : World} {M M' : Nat → Prop} (h : Evo M M' w w') : ∀ (t : Ty) (x : t.T) (cs : List Value), rep w M t x cs → rep w' M' t x cs
  | .int k, n, cs, hr => by simpa only [rep] using hr
  | .bool, b, cs, hr => by simpa only [rep] using hr
  | .str, s, cs, hr => by simpa only [rep] using hr
  | .slice t, xs, cs, hr => by
    simp only [rep] at hr ⊢
    obtain ⟨a, c, rfl, h1, h2, h3⟩ := hr
    refine ⟨a, c, rfl, h1, h2, ?_⟩
    rcases h3 with h3 | ⟨b, off, ha, hm, hb, he⟩
    · exact .inl h3
    · refine .inr ⟨b, off, ha, h.free b hb hm, Nat.lt_of_lt_of_le hb h.size, fun i x hi => ?_⟩
      obtain ⟨cs, hl, hx, hc⟩ := he i x hi
      exact ⟨cs, hl, rep_evo h t x cs hx, hc.evo h hb hm⟩
  | .nil, _, cs, hr => by simpa only [rep] using hr
  | .cons t r, x, cs, hr => by
    simp only [rep] at hr ⊢
    obtain ⟨c1, c2, rfl, h1, h2⟩ := hr
    exact ⟨c1, c2, rfl, rep_evo h t _ _ h1, rep_evo h r _ _ h2⟩
  | .fn, x, cs, hr => by
    simp only [rep] at hr ⊢
    exact hr.evo h

theorem RowAt.evo {t : Ty} {w w' : World} {M M' : Nat → Prop} (h : Evo M M' w w') {a : Option Addr} {xs : List t.T} (hr : RowAt w M (rep w M t) t.size a xs) : RowAt w' M' (rep w' M' t) t.size a xs := by
  rcases hr with h3 | ⟨b, off, ha, hm, hb, he⟩
  · exact .inl h3
  · refine .inr ⟨b, off, ha, h.free b hb hm, Nat.lt_of_lt_of_le hb h.size, fun i x hi => ?_⟩
    obtain ⟨cs, hl, hx, hc⟩ := he i x hi
    exact ⟨cs, hl, rep_evo h t x cs hx, hc.evo h hb hm⟩

/-- Steps of the machine. -/
theorem Evo.alloc (M : Nat → Prop) (w : World) (o : Obj) : Evo M M w (w.alloc o) :=
  ⟨rfl, rfl, rfl, by simp, Nat.le_refl _, fun b hb _ => Below.heap_alloc w o b hb, fun _ _ h => h⟩
theorem Evo.drew (M : Nat → Prop) (w : World) : Evo M M w { w with drawn := w.drawn + 1 } := ⟨rfl, rfl, rfl, Nat.le_refl _, Nat.le_succ _, fun _ _ _ => rfl, fun _ _ h => h⟩
theorem Evo.more {M M' : Nat → Prop} (w : World) (h : ∀ b, b < w.heap.size → M' b → M b) : Evo M M' w w :=
  ⟨rfl, rfl, rfl, Nat.le_refl _, Nat.le_refl _, fun _ _ _ => rfl, fun b hb hn hm => hn (h b hb hm)⟩

end Go.Am
