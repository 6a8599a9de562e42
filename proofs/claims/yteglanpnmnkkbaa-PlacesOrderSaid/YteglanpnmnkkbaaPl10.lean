/- The program of chapter 22: plain laws. -/
import Derived.Test.YteglanpnmnkkbaaPl9
namespace Go.Am
set_option linter.unusedVariables false
set_option linter.unusedSimpArgs false
set_option maxHeartbeats 4000000
set_option maxRecDepth 20000
open Go.RowKit Go.Proofs

theorem above_iff {r : List Int} {x y : Int} (hx : x ∈ r) (hy : y ∈ r) : above x r < above y r ↔ y < x := by
  unfold above
  constructor
  · intro h
    apply Int.not_le.1
    intro hle
    have := filter_le (fun z => decide (x < z)) (fun z => decide (y < z)) (fun z hz => by simp at hz ⊢; omega) r
    omega
  · intro h
    exact filter_lt (fun z => decide (y < z)) (fun z => decide (x < z)) (fun z hz => by simp at hz ⊢; omega) x (by simpa using h) (by simp) r hx
theorem ordRow_ordTot (r : List Int) : ordTot r = ordRow (ordTot r) := by
  conv => lhs; unfold ordTot
  unfold ordRow
  conv => rhs; rw [show ordTot r = r.map (fun n => (above n r : Int) + 1) from rfl]
  rw [List.map_map]
  refine List.map_congr_left fun n hn => ?_
  simp only [Function.comp_apply, below, List.filter_map, List.length_map]
  congr 2
  unfold above
  congr 1
  refine List.filter_congr fun x hx => ?_
  simp only [Function.comp_apply]
  have := above_iff hx hn
  unfold above at this
  rw [decide_eq_decide, ← this]
  omega
theorem use_check {t : List (List Int)} (h : useOk t) : checkErr (t.map ordTot) = 0 := by
  obtain ⟨h1, h2, h3, h4, h5⟩ := h
  have h0 := List.length_pos_iff.2 h2
  have hz : ((t.map ordTot)[0]?.getD []).length = (t[0]?.getD []).length := by
    rw [List.getElem?_map, List.getElem?_eq_getElem h0]
    simp [ordTot_len]
  refine checkErr_0 (tableErr_0 ?_ ?_) ?_
  · rintro (h | ⟨row, hr, hl⟩)
    · rw [List.length_map] at h; omega
    · obtain ⟨r, hr2, rfl⟩ := List.mem_map.1 hr
      rw [ordTot_len] at hl
      have := h1.2 r hr2; omega
  · rintro ⟨row, hr, hne⟩
    obtain ⟨r, hr2, rfl⟩ := List.mem_map.1 hr
    apply hne
    rw [ordTot_len, h5 r hr2, hz]
  · intro row hr
    obtain ⟨r, hr2, rfl⟩ := List.mem_map.1 hr
    exact ordRow_ordTot r
theorem dec_range : ∀ a b : List Sd, dec a b = -1 ∨ dec a b = 0 ∨ dec a b = 1
  | [], [] => .inr (.inl rfl)
  | [], _ :: _ => .inr (.inl rfl)
  | _ :: _, [] => .inr (.inl rfl)
  | x :: a, y :: b => by
    simp only [dec]
    split
    · have := sgn_cases (y.1 - x.1); omega
    · split
      · have := sgn_cases (x.2.1 - y.2.1); omega
      · exact dec_range a b
/-- What is known of a table of ordinals. -/
structure OrdT (l : List (List Int)) (n : Nat) : Prop where
  err : checkErr l = 0
  pos : 0 < l.length
  len : (l[0]?.getD []).length = n
  le : n ≤ 4096
theorem OrdT.of {t : List (List Int)} (h : useOk t) : OrdT (t.map ordTot) (t[0]?.getD []).length := by
  have h0 := List.length_pos_iff.2 h.2.1
  refine ⟨use_check h, by rw [List.length_map]; exact h0, ?_, ?_⟩
  · rw [List.getElem?_map, List.getElem?_eq_getElem h0]
    simp [ordTot_len]
  · have := h.1.2 _ (get_mem [] h0); omega
section
variable {l : List (List Int)} {n : Nat}
theorem OrdT.cmp (h : OrdT l n) {a b : Nat} (ha : a < n) (hb : b < n) : cmpErr l a b = 0 ∧ cmpV l a b = dec (standL l a) (standL l b) := by
  have hl : l ≠ [] := List.length_pos_iff.1 h.pos
  have he : cmpErr l a b = 0 := cmpErr_3 h.err (by
    have := h.len
    rintro ((q | q) | q)
    · exact hl q
    · split at q <;> omega
    · split at q <;> omega)
  exact ⟨he, by rw [cmpV, if_pos he]⟩
theorem OrdT.maj (h : OrdT l n) : (majL l).length = n ∧ ∀ a, a < n → (majL l)[a]?.getD 0 = (decN (allTo l n) (standL l a) : Int) + 1 := by
  have hl : l ≠ [] := List.length_pos_iff.1 h.pos
  have hM : majL l = (allTo l n).map fun x => (decN (allTo l n) x : Int) + 1 := by
    unfold majL; rw [if_pos ⟨h.err, hl⟩, h.len]
  refine ⟨by rw [hM, List.length_map, allTo_len], fun a ha => ?_⟩
  rw [hM, List.getElem?_map, allTo, List.getElem?_map, List.getElem?_range ha]; rfl
theorem OrdT.slen (h : OrdT l n) (a : Int) : (standL l a).length = n := by rw [standL_len, h.len]
theorem OrdT.anti (h : OrdT l n) (a b : Nat) : dec (standL l b) (standL l a) = - dec (standL l a) (standL l b) := dec_anti _ _
theorem OrdT.trans (h : OrdT l n) (a b c : Nat) : dec (standL l a) (standL l b) ≤ 0 → dec (standL l b) (standL l c) ≤ 0 → dec (standL l a) (standL l c) ≤ 0 ∧ (dec (standL l a) (standL l b) < 0 ∨ dec (standL l b) (standL l c) < 0 → dec (standL l a) (standL l c) < 0) :=
  dec_trans _ _ _ (by rw [h.slen, h.slen]) (by rw [h.slen, h.slen])
theorem all_mem {x : List Sd} : x ∈ allTo l n ↔ ∃ k, k < n ∧ x = standL l (k : Int) := by
  unfold allTo
  rw [List.mem_map]
  constructor
  · rintro ⟨k, hk, rfl⟩; exact ⟨k, List.mem_range.1 hk, rfl⟩
  · rintro ⟨k, hk, rfl⟩; exact ⟨k, List.mem_range.2 hk, rfl⟩
theorem filter_lt_mem {α : Type} (p q : α → Bool) (l : List α) (h : ∀ x ∈ l, q x = true → p x = true) (i : α) (hi : i ∈ l) (hp1 : p i = true) (hq1 : q i = false) : (l.filter q).length < (l.filter p).length := by
  have h1 : l.filter q = l.filter fun x => q x && p x := List.filter_congr fun x hx => by
    cases hq : q x
    · rfl
    · rw [h x hx hq]; rfl
  rw [h1]
  exact filter_lt p (fun x => q x && p x) (fun x hx => by simp at hx; exact hx.2) i hp1 (by rw [hq1]; rfl) l hi
theorem filter_le_mem {α : Type} (p q : α → Bool) (l : List α) (h : ∀ x ∈ l, q x = true → p x = true) : (l.filter q).length ≤ (l.filter p).length := by
  have h1 : l.filter q = l.filter fun x => q x && p x := List.filter_congr fun x hx => by
    cases hq : q x
    · rfl
    · rw [h x hx hq]; rfl
  rw [h1]
  exact filter_le p (fun x => q x && p x) (fun x hx => by simp at hx; exact hx.2) l
theorem OrdT.rank (h : OrdT l n) {a b : Nat} (ha : a < n) (hb : b < n) : dec (standL l a) (standL l b) < 0 ↔ decN (allTo l n) (standL l a) < decN (allTo l n) (standL l b) := by
  unfold decN
  constructor
  · intro hd
    refine filter_lt_mem _ _ _ (fun x hx hq => ?_) (standL l a) (all_mem.2 ⟨a, ha, rfl⟩) (by simpa using hd) (by simp [dec_self])
    obtain ⟨k, hk, rfl⟩ := all_mem.1 hx
    simp only [decide_eq_true_eq] at hq ⊢
    exact (h.trans k a b (by omega) (by omega)).2 (.inl hq)
  · intro hlt
    apply Int.not_le.1
    intro hge
    have := filter_le_mem (fun x => decide (dec x (standL l a) < 0)) (fun x => decide (dec x (standL l b) < 0)) (allTo l n) (fun x hx hq => by
      obtain ⟨k, hk, rfl⟩ := all_mem.1 hx
      simp only [decide_eq_true_eq] at hq ⊢
      have := h.anti a b
      exact (h.trans k b a (by omega) (by omega)).2 (.inl hq))
    omega
end
end Go.Am
