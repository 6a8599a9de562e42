/- The library's Compact, as a contract with effects. -/
import Derived.Test.YteglanpnmnkkbaaBs2
import Derived.Shelf.SlicesG.CompactI
namespace Go.Am
set_option linter.unusedVariables false
open Go.RowKit

section
variable {P : Program} {w : World} {M0 : Nat → Prop} {bs : Bs}

/-- slices.Compact of ints: the slice is given away; what comes back is nobody's. -/
def conCompact : ECon := { wp := fun args hp K => match args, hp with
  | [.s (.own (.int .i64) 0 n)], [.arr al cs] => ∃ xs : List Int, cs = (Ty.int .i64).flats xs ∧ xs.length = n ∧ (al = true ∨ xs = []) ∧ K (.v (.s (.sl (.int .i64) (Lib.compact xs) false))) [.arr false ((Ty.int .i64).flats (xs ++ [0]))]
  | _, _ => False }

theorem compact_length (xs : List Int) : (Lib.compact xs).length ≤ xs.length := by
  unfold Lib.compact Lib.compactUpTo
  rw [List.length_map]
  have := List.length_filter_le (Lib.keeps xs.toArray) (List.range xs.length)
  simpa using this

/-- A slice of the call's own is given away. -/
theorem give_away {al : Bool} {cs cs' : List SV} {w' : World} (hr : HR w M0 bs [.arr al cs]) (hlen : cs.length < cs'.length) (hpure : (Blk.arr false cs').pureB = true) (hev : Evo (Mof M0 bs) (Mof M0 bs) w w') (hoth : ∀ c, (∀ id, bs.at id ≠ some c) → c < w.heap.size → w'.heap[c]? = w.heap[c]?) :
    HR w' M0 [none] [.arr false cs'] ∧ Step false w (Mof M0 bs) bs [.arr al cs] w' (Mof M0 [none]) [none] [.arr false cs'] := by
  have hat : ∀ id, Bs.at [none] id = none := fun id => by cases id <;> rfl
  have hlk : ∀ id x, Blk.look [Blk.arr false cs'] id = x → x ≠ .dead → id = 0 ∧ x = .arr false cs' := by
    intro id x h hne
    cases id with
    | zero => exact ⟨rfl, h.symm⟩
    | succ id => exact absurd h.symm (by simpa [Blk.look] using hne)
  have hlk0 : ∀ id x, Blk.look [Blk.arr al cs] id = x → x ≠ .dead → id = 0 ∧ x = .arr al cs := by
    intro id x h hne
    cases id with
    | zero => exact ⟨rfl, h.symm⟩
    | succ id => exact absurd h.symm (by simpa [Blk.look] using hne)
  refine ⟨⟨rfl, fun b hb => Nat.lt_of_lt_of_le (hr.m0 b hb) hev.size, ?_, ?_, ?_, ?_, ?_, ?_, ?_⟩, ⟨?_, by simp, ?_, ?_, ?_, fun _ => ⟨fun b hb hn => hoth b hn hb, ?_, ?_⟩⟩⟩
  · intro id b h; rw [hat] at h; cases h
  · intro i j b h; rw [hat] at h; cases h
  · intro id b h; rw [hat] at h; cases h
  · intro id cs h
    have := (hlk id _ h (by simp)).2
    cases this
  · intro id cs h
    have := (hlk id _ h (by simp)).2
    cases this
  · intro id al cs b h hb; rw [hat] at hb; cases hb
  · intro id k v es h
    have := (hlk id _ h (by simp)).2
    cases this
  · refine ⟨hev.os, hev.tape, hev.output, hev.size, hev.drawn, hev.block, fun b hb hn hm => ?_⟩
    rcases hm with hm | ⟨id, hm⟩
    · exact hn (.inl hm)
    · rw [hat] at hm; cases hm
  · intro id cs h1 h2
    have := (hlk id _ h2 (by simp)).2
    cases this
  · intro id b k u es h1 h2
    have := (hlk0 id _ h2 (by simp)).2
    cases this
  · intro id al' cs'' hid h
    obtain ⟨rfl, h⟩ := hlk id _ h (by simp)
    injection h with h1 h2
    subst h1; subst h2
    exact ⟨al, cs, rfl, .inl hlen⟩
  · intro b hb hn id h; rw [hat] at h; cases h
  · intro id l xs i st h
    have := (hlk id _ h (by simp)).2
    cases this

theorem compact_eff {ρ : Shelf.Ren} (L : Proofs.SlLaysN.n43 P ρ) : EffOk P (ρ.f 43) conCompact := by
  intro w M0 bs hp args vs K hpre hr hpure hargs
  simp only [conCompact] at hpre
  split at hpre
  · rename_i n al cs
    obtain ⟨xs, rfl, rfl, hal, hK⟩ := hpre
    obtain ⟨v, rfl, hv⟩ : ∃ v, vs = [v] ∧ relAV w (Mof M0 bs) bs [.arr al ((Ty.int .i64).flats xs)] (.s (.own (.int .i64) 0 xs.length)) v := by
      cases hargs with
      | cons h1 h2 => cases h2; exact ⟨_, rfl, h1⟩
    have hgl : ((Ty.int .i64).flats xs).length < ((Ty.int .i64).flats (xs ++ [0])).length := by rw [flats_length, flats_length]; simp
    have hgp : (Blk.arr false ((Ty.int .i64).flats (xs ++ [0]))).pureB = true := by simp only [Blk.pureB]; exact flats_pure _ _
    rcases own_cases hr (by rw [flats_length]) hv with ⟨b, cap, cur, e, h1, rfl, h3, h4, h5, h6, h7, h8, h9⟩ | ⟨hfal, a, rfl, hn⟩
    · have hH : Sort.Holds (Value.int .i64) w b 0 xs.toArray := by
        intro j hj
        have hj' : j < xs.length := by simpa using hj
        obtain ⟨u, k1, k2, k3⟩ := h9 j (.int .i64 xs[j]) (by rw [flats_int_get]; simp [hj'])
        obtain rfl : u = _ := k3
        refine ⟨?_, ?_⟩
        · simp only [Nat.zero_add, World.cell?, h5, Option.isSome_none, Bool.false_eq_true, if_false, k1]
          simp [hj']
        · simp [World.frozen?, h5]
      have hml : xs.length ≤ 9223372036854775807 := by have : (9223372036854775807 : Nat) = maxLen := rfl; omega
      refine (Proofs.AnyG.slices_Compact_int L b 0 cap xs w hH hml h3).mono ?_
      rintro o w' ⟨rfl, q, hw'⟩
      have hcl := compact_length xs
      generalize hd : (Lib.compact xs ++ List.replicate (xs.length - (Lib.compact xs).length) 0).toArray = d at hw'
      have hw2 : w' = Sort.grow (Sort.putRow (Value.int .i64) (Sort.ahead w q) b 0 d) #[] := by rw [hw', Sort.grow_empty]
      clear hw'
      have hnew := heap_putRow (enc := Value.int .i64) (d := d) (m := q) (os := #[]) h5
      have hoth := fun c hne hc => heap_putRow_other (w := w) (enc := Value.int .i64) (b := b) (c := c) (d := d) (m := q) (os := #[]) hne hc
      rw [← hw2] at hnew hoth
      have hev : Evo (Mof M0 bs) (Mof M0 bs) w w' := by
        refine ⟨by rw [hw2]; rfl, by rw [hw2]; rfl, by rw [hw2]; rfl, by rw [hw2]; simp [Sort.grow, Sort.putRow, Sort.mapBlock, Sort.ahead], by rw [hw2]; simp [Sort.grow, Sort.putRow, Sort.mapBlock, Sort.ahead], fun c hc hn => hoth c (fun e => hn (e ▸ .inr ⟨0, h1⟩)) hc, fun _ _ h => h⟩
      obtain ⟨k1, k2⟩ := give_away hr hgl hgp hev (fun c hn hc => hoth c (fun e => hn 0 (e ▸ h1)) hc)
      refine ⟨_, _, _, [none], rfl, hK, ?_, by simp only [List.all_cons, List.all_nil, Bool.and_true]; exact hgp, k1, k2⟩
      refine ⟨some ⟨b, 0, none⟩, cap, rfl, by omega, h7, by simp, .inr ⟨b, 0, rfl, ?_, Nat.lt_of_lt_of_le h8 hev.size, fun i x hx => ?_⟩⟩
      · rintro (hm | ⟨id, hm⟩)
        · exact hr.out 0 b h1 hm
        · have : Bs.at [none] id = none := by cases id <;> rfl
          rw [this] at hm; cases hm
      · have hi := (List.getElem?_eq_some_iff.1 hx).1
        refine ⟨[.int .i64 x], rfl, by simp only [rep], fun j v hj => ?_⟩
        have hj0 : j = 0 := by have := (List.getElem?_eq_some_iff.1 hj).1; simp at this; omega
        subst hj0
        simp at hj; subst hj
        have hdx : d[i]? = some x := by
          rw [← hd]
          simp only [List.getElem?_toArray]
          rw [List.getElem?_append_left hi]; exact hx
        have hds : d.size = xs.length := by rw [← hd]; simp; omega
        have hic : i < cur.size := by rw [h6]; show i < cap * 1; omega
        have hdi : d[i]! = x := by rw [getElem!_pos _ _ (by omega)]; rw [Array.getElem?_eq_getElem (by omega)] at hdx; injection hdx
        simp only [World.cell?, hnew, Option.isSome_none, Bool.false_eq_true, if_false]
        have hi1 : 0 + i * (Ty.int .i64).size + 0 = i := by show 0 + i * 1 + 0 = i; omega
        rw [hi1]
        simp only [Sort.putCells, Array.getElem?_mapIdx, Array.getElem?_eq_getElem hic, Option.map_some, Nat.zero_le, true_and, Nat.sub_zero]
        rw [if_pos (by omega), hdi]
    · have hx : xs = [] := by
        rcases hal with hal | hal
        · rw [hfal] at hal; cases hal
        · exact hal
      subst hx
      refine (Proofs.AnyG.slices_Compact_int_empty L a 0 w).mono ?_
      rintro o w' ⟨rfl, rfl⟩
      obtain ⟨k1, k2⟩ := give_away hr hgl hgp (Evo.refl _ _) (fun _ _ _ => rfl)
      have h0 : Lib.compact ([] : List Int) = [] := by simp [Lib.compact, Lib.compactUpTo]
      rw [h0] at hK
      exact ⟨_, _, _, [none], rfl, hK, ⟨a, 0, rfl, Nat.le_refl _, by simp [maxLen], by simp, .inl rfl⟩, by simp only [List.all_cons, List.all_nil, Bool.and_true]; exact hgp, k1, k2⟩
  · exact hpre.elim

theorem isort_perm (xs : List Int) : (isort xs).Perm xs := List.mergeSort_perm ..
theorem isort_sorted (xs : List Int) : (isort xs).Pairwise (fun x y => x ≤ y) := by
  have := List.pairwise_mergeSort (le := fun x y : Int => decide (x ≤ y)) (by intro a b c; simp; omega) (by intro a b; simp; omega) xs
  exact this.imp (by simp)
/-- No two alike. -/
theorem compact_nodup (xs : List Int) : ((Lib.compact (isort xs)).length = xs.length) ↔ xs.Nodup := by
  have hl := isort_length xs
  have hs := isort_sorted xs
  have hpm := isort_perm xs
  rw [← hpm.nodup_iff]
  generalize isort xs = ys at *
  unfold Lib.compact Lib.compactUpTo
  rw [List.length_map, ← hl]
  have hk : ∀ j (hj : j < ys.length), Lib.keeps ys.toArray j = decide (j = 0 ∨ ys[j] ≠ ys[j - 1]'(by omega)) := by
    intro j hj
    unfold Lib.keeps
    have e1 : ys.toArray[j]! = ys[j] := by rw [getElem!_pos _ _ (by simpa using hj)]; simp
    have e2 : ys.toArray[j - 1]! = ys[j - 1]'(by omega) := by rw [getElem!_pos _ _ (by simp; omega)]; simp
    rw [e1, e2]
  constructor
  · intro h
    have hall : ∀ j, j < ys.length → Lib.keeps ys.toArray j = true := by
      have := List.length_filter_eq_length_iff.1 (show ((List.range ys.length).filter (Lib.keeps ys.toArray)).length = (List.range ys.length).length by simpa using h)
      intro j hj
      exact this j (by simpa using hj)
    rw [List.nodup_iff_pairwise_ne] 
    rw [List.pairwise_iff_getElem] at hs ⊢
    intro i j hi hj hij he
    have h1 := hs i (j - 1 + 1) hi (by omega) (by omega)
    have h2 := hall j hj
    rw [hk j hj] at h2
    simp only [decide_eq_true_eq] at h2
    rcases h2 with h2 | h2
    · omega
    · have h3 := hs (j - 1) j (by omega) hj (by omega)
      rcases Nat.lt_or_ge i (j - 1) with h4 | h4
      · have h5 := hs i (j - 1) hi (by omega) h4
        omega
      · have : i = j - 1 := by omega
        subst this
        exact h2 he.symm
  · intro h
    rw [List.length_filter_eq_length_iff.2]
    · simp
    · intro j hj
      have hj' : j < ys.length := by simpa using hj
      rw [hk j hj']
      simp only [decide_eq_true_eq]
      by_cases h0 : j = 0
      · exact .inl h0
      · right
        intro e
        have := (List.getElem_inj (h₀ := hj') (h₁ := by omega) h).1 e
        omega
end
end Go.Am
