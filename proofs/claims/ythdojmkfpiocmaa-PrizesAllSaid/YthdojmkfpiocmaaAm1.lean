/- Abstract data types for the values of a Go program, and how they lie in memory.
   Plain data (numbers, bools, strings, slices, structs) that nobody writes any more. -/
import Derived.Test.YthdojmkfpiocmaaRows
import Derived.WalkKit
import Derived.Lib.Hide
import Derived.RangeFuncNested
import Derived.RangeFuncBound
import Derived.RangeFuncCalls
import Derived.RangeFuncLeaves
import Derived.OrdersIn
namespace Go.Am
set_option linter.unusedVariables false
open Go.RowKit

/-- Codes of data types. A struct is a list of fields: cons .. nil. -/
inductive Ty where
  | int (k : IntKind)
  | bool
  | str
  | slice (t : Ty)
  | nil
  | cons (t r : Ty)
  deriving DecidableEq

@[reducible] def Ty.T : Ty → Type
  | .int _ => Int
  | .bool => Bool
  | .str => ByteArray
  | .slice t => List t.T
  | .nil => Unit
  | .cons t r => t.T × r.T

@[reducible] def Ty.size : Ty → Nat
  | .int _ => 1
  | .bool => 1
  | .str => 1
  | .slice _ => 1
  | .nil => 0
  | .cons t r => t.size + r.size

@[reducible] def Ty.dflt : (t : Ty) → t.T
  | .int _ => (0 : Int)
  | .bool => false
  | .str => ByteArray.empty
  | .slice _ => []
  | .nil => ()
  | .cons t r => (t.dflt, r.dflt)

/-- Cells ad, ad+1, .. of block b, from offset off on, hold cs. -/
def CellsAt (w : World) (b off : Nat) (cs : List Value) : Prop :=
  ∀ j v, cs[j]? = some v → w.cell? ⟨b, off + j, none⟩ = some v

/-- A row of elements at address a, each of sz cells. -/
def RowAt {α : Type} (w : World) (M : Nat → Prop) (ρ : α → List Value → Prop) (sz : Nat) (a : Option Addr) (xs : List α) : Prop :=
  xs = [] ∨ ∃ b off, a = some ⟨b, off, none⟩ ∧ ¬ M b ∧ b < w.heap.size ∧
    ∀ i x, xs[i]? = some x → ∃ cs, cs.length = sz ∧ ρ x cs ∧ CellsAt w b (off + i * sz) cs

/-- The cells cs hold the datum x. M: blocks that may still be written (none of them is met). -/
def rep (w : World) (M : Nat → Prop) : (t : Ty) → t.T → List Value → Prop
  | .int k, n, cs => cs = [.int k n]
  | .bool, b, cs => cs = [.bool b]
  | .str, s, cs => cs = [.string s]
  | .slice t, xs, cs => ∃ a c, cs = [.slice a xs.length c] ∧ xs.length ≤ c ∧ c ≤ maxLen ∧ RowAt w M (fun x cs => rep w M t x cs) t.size a xs
  | .nil, _, cs => cs = []
  | .cons t r, x, cs => ∃ c1 c2, cs = c1 ++ c2 ∧ rep w M t x.1 c1 ∧ rep w M r x.2 c2

theorem rep_length {w : World} {M : Nat → Prop} : ∀ (t : Ty) (x : t.T) (cs : List Value), rep w M t x cs → cs.length = t.size
  | .int k, n, cs, h => by simp only [rep] at h; subst h; rfl
  | .bool, b, cs, h => by simp only [rep] at h; subst h; rfl
  | .str, s, cs, h => by simp only [rep] at h; subst h; rfl
  | .slice t, xs, cs, h => by simp only [rep] at h; obtain ⟨a, c, rfl, _⟩ := h; rfl
  | .nil, _, cs, h => by simp only [rep] at h; subst h; rfl
  | .cons t r, x, cs, h => by
    simp only [rep] at h
    obtain ⟨c1, c2, rfl, h1, h2⟩ := h
    simp [rep_length t _ _ h1, rep_length r _ _ h2]

/-- From w to w' nothing has turned but blocks of M; what was not in M is not in M'. -/
structure Evo (M M' : Nat → Prop) (w w' : World) : Prop where
  os : w'.os = w.os
  tape : w'.tape = w.tape
  output : w'.output = w.output
  size : w.heap.size ≤ w'.heap.size
  block : ∀ b, b < w.heap.size → ¬ M b → w'.heap[b]? = w.heap[b]?
  free : ∀ b, b < w.heap.size → ¬ M b → ¬ M' b
  frz : ∀ a, w'.frozen? a = w.frozen? a

theorem Evo.refl (M : Nat → Prop) (w : World) : Evo M M w w := ⟨rfl, rfl, rfl, Nat.le_refl _, fun _ _ _ => rfl, fun _ _ h => h, fun _ => rfl⟩
theorem Evo.trans {M1 M2 M3 : Nat → Prop} {a b c : World} (h : Evo M1 M2 a b) (k : Evo M2 M3 b c) : Evo M1 M3 a c :=
  ⟨k.os.trans h.os, k.tape.trans h.tape, k.output.trans h.output, Nat.le_trans h.size k.size,
   fun i hi hm => (k.block i (Nat.lt_of_lt_of_le hi h.size) (h.free i hi hm)).trans (h.block i hi hm),
   fun i hi hm => k.free i (Nat.lt_of_lt_of_le hi h.size) (h.free i hi hm), fun x => (k.frz x).trans (h.frz x)⟩

theorem CellsAt.evo {w w' : World} {M M' : Nat → Prop} (h : Evo M M' w w') {b off : Nat} {cs : List Value} (hb : b < w.heap.size) (hm : ¬ M b) (hc : CellsAt w b off cs) : CellsAt w' b off cs := by
  intro j v hj
  have h1 := hc j v hj
  rw [← h1]
  exact World.cell?_of_block (w := w) (h.block b hb hm)

theorem rep_evo {w w' : World} {M M' : Nat → Prop} (h : Evo M M' w w') : ∀ (t : Ty) (x : t.T) (cs : List Value), rep w M t x cs → rep w' M' t x cs
  | .int k, n, cs, hr => by simpa only [rep] using hr
  | .bool, b, cs, hr => by simpa only [rep] using hr
  | .str, s, cs, hr => by simpa only [rep] using hr
  | .slice t, xs, cs, hr => by
    simp only [rep] at hr ⊢
    obtain ⟨a, c, rfl, h1, h2, h3⟩ := hr
    refine ⟨a, c, rfl, h1, h2, ?_⟩
    rcases h3 with h3 | ⟨b, off, ha, hm, hb, he⟩
    · exact .inl h3
    · refine .inr ⟨b, off, ha, h.free b hb hm, Nat.lt_of_lt_of_le hb h.size, fun i x hi => ?_⟩
      obtain ⟨cs, hl, hx, hc⟩ := he i x hi
      exact ⟨cs, hl, rep_evo h t x cs hx, hc.evo h hb hm⟩
  | .nil, _, cs, hr => by simpa only [rep] using hr
  | .cons t r, x, cs, hr => by
    simp only [rep] at hr ⊢
    obtain ⟨c1, c2, rfl, h1, h2⟩ := hr
    exact ⟨c1, c2, rfl, rep_evo h t _ _ h1, rep_evo h r _ _ h2⟩

theorem RowAt.evo {t : Ty} {w w' : World} {M M' : Nat → Prop} (h : Evo M M' w w') {a : Option Addr} {xs : List t.T} (hr : RowAt w M (rep w M t) t.size a xs) : RowAt w' M' (rep w' M' t) t.size a xs := by
  rcases hr with h3 | ⟨b, off, ha, hm, hb, he⟩
  · exact .inl h3
  · refine .inr ⟨b, off, ha, h.free b hb hm, Nat.lt_of_lt_of_le hb h.size, fun i x hi => ?_⟩
    obtain ⟨cs, hl, hx, hc⟩ := he i x hi
    exact ⟨cs, hl, rep_evo h t x cs hx, hc.evo h hb hm⟩

/-- No cell of the block is frozen. -/
def NoFrz (o : Option Obj) : Prop := ∀ c e fz, o = some (.cells c e fz) → fz = (0, 0)
theorem frozen_of {w w' : World} (h : ∀ b : Nat, w'.heap[b]? = w.heap[b]? ∨ (NoFrz w'.heap[b]? ∧ NoFrz w.heap[b]?)) (a : Addr) : w'.frozen? a = w.frozen? a := by
  have key : ∀ v : World, NoFrz v.heap[a.block]? → v.frozen? a = false := by
    intro v hv
    unfold World.frozen?
    split
    · rename_i c e lo hi heq
      have := hv _ _ _ heq
      injection this with h1 h2
      subst h1; subst h2; simp
    · rfl
  rcases h a.block with h | ⟨h1, h2⟩
  · unfold World.frozen?; rw [h]
  · rw [key w' h1, key w h2]
theorem frozen_alloc (w : World) (o : Obj) (h : NoFrz (some o)) (a : Addr) : (w.alloc o).frozen? a = w.frozen? a := by
  refine frozen_of (fun b => ?_) a
  rcases Nat.lt_trichotomy b w.heap.size with hb | hb | hb
  · exact .inl (Below.heap_alloc w o b hb)
  · right
    subst hb
    constructor
    · rw [World.alloc_heap_new]; exact h
    · intro c e fz hc; simp at hc
  · left
    show (w.heap.push o)[b]? = w.heap[b]?
    rw [Array.getElem?_eq_none (by simp; omega), Array.getElem?_eq_none (by omega)]
theorem frozen_putObj (w : World) (b : Nat) (o : Obj) (h1 : NoFrz (some o)) (h2 : NoFrz w.heap[b]?) (a : Addr) : (w.putObj b o).frozen? a = w.frozen? a := by
  refine frozen_of (fun c => ?_) a
  by_cases e : c = b
  · subst e
    right
    refine ⟨?_, h2⟩
    rcases Nat.lt_or_ge c w.heap.size with hb | hb
    · rw [World.putObj_heap_same hb]; exact h1
    · rw [Array.getElem?_eq_none (by simp; omega)]
      intro _ _ _ hc; cases hc
  · exact .inl (World.putObj_heap_other e)
/-- Steps of the machine. -/
theorem Evo.alloc (M : Nat → Prop) (w : World) (o : Obj) (h : NoFrz (some o)) : Evo M M w (w.alloc o) :=
  ⟨rfl, rfl, rfl, by simp, fun b hb _ => Below.heap_alloc w o b hb, fun _ _ h => h, frozen_alloc w o h⟩
theorem Evo.drew (M : Nat → Prop) (w : World) : Evo M M w { w with drawn := w.drawn + 1 } := ⟨rfl, rfl, rfl, Nat.le_refl _, fun _ _ _ => rfl, fun _ _ h => h, fun _ => rfl⟩
theorem Evo.more {M M' : Nat → Prop} (w : World) (h : ∀ b, b < w.heap.size → M' b → M b) : Evo M M' w w :=
  ⟨rfl, rfl, rfl, Nat.le_refl _, fun _ _ _ => rfl, fun b hb hn hm => hn (h b hb hm), fun _ => rfl⟩

end Go.Am
