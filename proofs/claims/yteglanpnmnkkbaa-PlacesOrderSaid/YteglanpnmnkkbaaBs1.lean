/- The library's sort, as a contract with effects. -/
import Derived.Test.YteglanpnmnkkbaaBm17
import Derived.Shelf.SortM.Plain
import Derived.Shelf.SortM.SortNone
import Derived.Shelf.SlSortCmp.NoneTotal
namespace Go.Am
set_option linter.unusedVariables false
open Go.RowKit

section
variable {P : Program} {w : World} {M0 : Nat → Prop} {bs : Bs} {α : Type} [Inhabited α]

theorem heap_putRow {enc : α → Value} {b : Nat} {d : Array α} {m : Nat} {os : Array Obj} {cur : Array Value} {e : TypeId} {fr : Nat × Nat} (hb : w.heap[b]? = some (.cells cur e fr)) :
    (Sort.grow (Sort.putRow enc (Sort.ahead w m) b 0 d) os).heap[b]? = some (.cells (Sort.putCells enc 0 d cur) e fr) := by
  have hlt := (Array.getElem?_eq_some_iff.1 hb).1
  simp only [Sort.grow, Sort.putRow, Sort.mapBlock, Sort.ahead]
  rw [Array.getElem?_append_left (by simpa using hlt), Array.getElem?_modify]
  simp only [if_true, hb, Option.map_some, Sort.onCells]
theorem heap_putRow_other {enc : α → Value} {b c : Nat} {d : Array α} {m : Nat} {os : Array Obj} (hne : c ≠ b) (hc : c < w.heap.size) :
    (Sort.grow (Sort.putRow enc (Sort.ahead w m) b 0 d) os).heap[c]? = w.heap[c]? := by
  simp only [Sort.grow, Sort.putRow, Sort.mapBlock, Sort.ahead]
  rw [Array.getElem?_append_left (by simpa using hc), Array.getElem?_modify, if_neg (fun e => hne e.symm)]

/-- A row of the call's own, laid anew. -/
theorem row_anew {enc : α → Value} {b cap : Nat} {d : Array α} {m : Nat} {os : Array Obj} {al : Bool} {cs cs' : List SV} (hr : HR w M0 bs [.arr al cs]) (hb : bs.at 0 = some b) (ho : OwnAt w b cap 1) (hlen : cs'.length = cs.length) (hd : d.size = cs.length) (hcap : cs.length ≤ cap)
    (hrel : ∀ (j : Nat) (x : SV), cs'[j]? = some x → (enc d[j]!).oneCell' = true ∧ relSV w (Mof M0 bs) bs [.arr al cs] x (enc d[j]!)) :
    HR (Sort.grow (Sort.putRow enc (Sort.ahead w m) b 0 d) os) M0 bs [.arr al cs'] ∧
      Step false w (Mof M0 bs) bs [.arr al cs] (Sort.grow (Sort.putRow enc (Sort.ahead w m) b 0 d) os) (Mof M0 bs) bs [.arr al cs'] := by
  obtain ⟨cur, e, h1, h2, h3⟩ := ho
  have hnew := heap_putRow (enc := enc) (d := d) (m := m) (os := os) h1
  have hoth := fun c hne hc => heap_putRow_other (w := w) (enc := enc) (b := b) (c := c) (d := d) (m := m) (os := os) hne hc
  have hcs : (Sort.putCells enc 0 d cur).size = cur.size := by simp [Sort.putCells]
  have hev : Evo (Mof M0 bs) (Mof M0 bs) w (Sort.grow (Sort.putRow enc (Sort.ahead w m) b 0 d) os) :=
    ⟨rfl, rfl, rfl, by simp [Sort.grow, Sort.putRow, Sort.mapBlock, Sort.ahead], by simp [Sort.grow, Sort.putRow, Sort.mapBlock, Sort.ahead], fun c hc hn => hoth c (fun e => hn (e ▸ .inr ⟨0, hb⟩)) hc, fun _ _ h => h⟩
  refine hr.rewrite (id := 0) hb hev hoth hnew (.arr al cs') ⟨_, e, rfl, fun j x hj => ?_⟩ ?_
  · have hjl := (List.getElem?_eq_some_iff.1 hj).1
    obtain ⟨k1, k2⟩ := hrel j x hj
    refine ⟨enc d[j]!, ?_, k1, k2⟩
    have hjc : j < cur.size := by omega
    simp [Sort.putCells, hjc]
    intro hge
    omega
  · refine .inr ⟨hlen.symm, fun cap' size ⟨cur', e', g1, g2, g3⟩ => ?_⟩
    rw [h1] at g1
    injection g1 with g1; injection g1 with g1 g1'
    subst g1; subst g1'
    exact ⟨_, e, hnew, by rw [hcs]; exact g2, g3⟩

theorem flats_int_get {k : IntKind} : ∀ (xs : List Int) (j : Nat), ((Ty.int k).flats xs)[j]? = (xs[j]?).map (SV.int k)
  | [], j => by simp [Ty.flats]
  | x :: xs, 0 => by simp [Ty.flats, Ty.flat]
  | x :: xs, j + 1 => by simp [Ty.flats, Ty.flat, flats_int_get xs j]

/-- What a slice of the call's own is. -/
theorem own_cases {t : Ty} {al : Bool} {n : Nat} {cs : List SV} {v : Value} (hr : HR w M0 bs [.arr al cs]) (hlen : cs.length = n * t.size) (h : relSV w (Mof M0 bs) bs [.arr al cs] (.own t 0 n) v) :
    (∃ b cap cur e, bs.at 0 = some b ∧ v = .slice (some ⟨b, 0, none⟩) n cap ∧ n ≤ cap ∧ OwnAt w b cap t.size ∧ w.heap[b]? = some (.cells cur e (0, 0)) ∧ cur.size = cap * t.size ∧ cap ≤ maxLen ∧ b < w.heap.size ∧
      ∀ (j : Nat) (x : SV), cs[j]? = some x → ∃ u, cur[j]? = some u ∧ u.oneCell' = true ∧ relSV w (Mof M0 bs) bs [.arr al cs] x u) ∨
    (al = false ∧ ∃ a : Option Addr, v = .slice a n n ∧ n ≤ maxLen) := by
  obtain ⟨_, h⟩ := h
  rcases (h al cs rfl).2 hlen with ⟨b, cap, h1, h2, h3, h4⟩ | ⟨h1, xs, a, h2, h3, h4, h5, h6⟩
  · left
    obtain ⟨cur, e, g1, g2⟩ := hr.arr 0 al cs b rfl h1
    obtain ⟨cur', e', g3, g4, g5⟩ := h4
    rw [g1] at g3
    injection g3 with g3; injection g3 with g3 g3'
    subst g3; subst g3'
    exact ⟨b, cap, cur, e, h1, h2, h3, ⟨cur, e, g1, g4, g5⟩, g1, g4, g5, hr.lt 0 b h1, g2⟩
  · right
    refine ⟨?_, a, h5, h3⟩
    cases al with
    | false => rfl
    | true =>
      obtain ⟨b, hb⟩ := hr.al 0 cs rfl
      rw [h1] at hb; cases hb

/-- slices.Sort of ints. -/
def isort (xs : List Int) : List Int := xs.mergeSort fun x y => decide (x ≤ y)
theorem isort_length (xs : List Int) : (isort xs).length = xs.length := by simp [isort]
def conSort : ECon := { wp := fun args hp K => match args, hp with
  | [.s (.own (.int .i64) 0 n)], [.arr al cs] => ∃ xs : List Int, cs = (Ty.int .i64).flats xs ∧ xs.length = n ∧ xs.length < 4611686018427387904 ∧ (al = true ∨ xs = []) ∧ K (.tup []) [.arr al ((Ty.int .i64).flats (isort xs))]
  | _, _ => False }
theorem sort_eff {ρ : Shelf.Ren} (L : Proofs.SlLaysM.n5 P ρ) : EffOk P (ρ.f 5) conSort := by
  intro w M0 bs hp args vs K hpre hr hpure hargs
  simp only [conSort] at hpre
  split at hpre
  · rename_i n al cs
    obtain ⟨xs, rfl, rfl, hsz, hal, hK⟩ := hpre
    obtain ⟨v, rfl, hv⟩ : ∃ v, vs = [v] ∧ relAV w (Mof M0 bs) bs [.arr al ((Ty.int .i64).flats xs)] (.s (.own (.int .i64) 0 xs.length)) v := by
      cases hargs with
      | cons h1 h2 => cases h2; exact ⟨_, rfl, h1⟩
    rcases own_cases hr (by rw [flats_length]) hv with ⟨b, cap, cur, e, h1, rfl, h3, h4, h5, h6, h7, h8, h9⟩ | ⟨hfal, a, rfl, hn⟩
    · have hH : Sort.Holds (Value.int .i64) w b 0 xs.toArray := by
        intro j hj
        have hj' : j < xs.length := by simpa using hj
        obtain ⟨u, k1, k2, k3⟩ := h9 j (.int .i64 xs[j]) (by rw [flats_int_get]; simp [hj'])
        obtain rfl : u = _ := k3
        refine ⟨?_, ?_⟩
        · simp only [Nat.zero_add, World.cell?, h5, Option.isSome_none, Bool.false_eq_true, if_false, k1]
          simp [hj']
        · simp [World.frozen?, h5]
      refine (Proofs.AnyM.slices_Sort_int L b 0 cap xs w hH h8 hsz).mono ?_
      rintro o w' ⟨rfl, m, os, rfl⟩
      obtain ⟨k1, k2⟩ := row_anew (enc := Value.int .i64) (d := (isort xs).toArray) (m := m) (os := os) (cs' := (Ty.int .i64).flats (isort xs)) hr h1 h4 (by rw [flats_length, flats_length, isort_length]) (by rw [flats_length]; simp [isort_length]) (by rw [flats_length]; simpa using h3) (fun j x hj => by
        rw [flats_int_get] at hj
        cases hi : (isort xs)[j]? with
        | none => rw [hi] at hj; cases hj
        | some y =>
          rw [hi] at hj
          simp at hj; subst hj
          have hlt := (List.getElem?_eq_some_iff.1 hi).1
          have hy : (isort xs).toArray[j]! = y := by
            rw [getElem!_pos _ _ (by simpa using hlt)]
            simp only [List.getElem_toArray]
            rw [List.getElem?_eq_getElem hlt] at hi
            injection hi
          rw [hy]
          exact ⟨rfl, rfl⟩)
      exact ⟨_, .tup [], [.arr al ((Ty.int .i64).flats (isort xs))], bs, rfl, hK, ⟨[], rfl, .nil⟩, by simp [Blk.pureB, flats_pure], k1, k2⟩
    · have hx : xs = [] := by
        rcases hal with hal | hal
        · rw [hfal] at hal; cases hal
        · exact hal
      subst hx
      refine (Proofs.AnyM.slices_Sort_int_none L a 0 w).mono ?_
      rintro o w' ⟨rfl, rfl⟩
      have h0 : isort [] = [] := by simp [isort]
      rw [h0] at hK
      exact ⟨_, .tup [], _, bs, rfl, hK, ⟨[], rfl, .nil⟩, hpure, hr, Step.refl _ _ _ _⟩
  · exact hpre.elim
end
end Go.Am
