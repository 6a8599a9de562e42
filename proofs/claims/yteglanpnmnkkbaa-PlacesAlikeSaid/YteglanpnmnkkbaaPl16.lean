/- The program of chapter 22: plain laws for PlacesAlike. -/
import Derived.Test.YteglanpnmnkkbaaPl12
namespace Go.Am
set_option linter.unusedVariables false
set_option linter.unusedSimpArgs false
set_option maxHeartbeats 4000000
set_option maxRecDepth 20000
open Go.RowKit Go.Proofs

def dbl (t : List (List Int)) (k : Nat) : List (List Int) := t.map fun r => r ++ [r[k]?.getD 0]
theorem dbl_len (t : List (List Int)) (k : Nat) : (dbl t k).length = t.length := by simp [dbl]
section
variable {t : List (List Int)} {k : Nat}
theorem dbl_row {n : Nat} (hl : ∀ row ∈ t, row.length = n) : ∀ row ∈ dbl t k, row.length = n + 1 := fun row hr => by
  obtain ⟨r, hr2, rfl⟩ := List.mem_map.1 hr
  rw [List.length_append, hl r hr2]; rfl
theorem dbl_use (h : useOk t) (h9 : (t[0]?.getD []).length ≤ 9) : useOk (dbl t k) := by
  obtain ⟨h1, h2, h3, h4, h5⟩ := h
  have h0 := List.length_pos_iff.2 h2
  have hr := dbl_row (k := k) h5
  have hz : ((dbl t k)[0]?.getD []).length = (t[0]?.getD []).length + 1 := hr _ (get_mem [] (by rw [dbl_len]; exact h0))
  refine ⟨⟨by rw [dbl_len]; exact h1.1, fun row hrow => by rw [hr row hrow]; omega⟩, ?_, by rw [dbl_len]; exact h3, ?_, fun row hrow => by rw [hr row hrow, hz]⟩
  · intro q
    have := congrArg List.length q
    rw [dbl_len, List.length_nil] at this
    omega
  · intro q
    rw [q] at hz
    simp at hz
theorem dbl_stand {n : Nat} (ht : 0 < t.length) (hl : ∀ row ∈ t, row.length = n) (hk : k < n) : standL ((dbl t k).map ordTot) (k : Int) = standL ((dbl t k).map ordTot) (n : Int) := by
  have hl2 := dbl_row (k := k) hl
  rw [standL_map (by rw [dbl_len]; exact ht) hl2, standL_map (by rw [dbl_len]; exact ht) hl2]
  have hm : ((dbl t k).map fun row => (ordTot row)[k]?.getD 0) = (dbl t k).map fun row => (ordTot row)[n]?.getD 0 := by
    refine List.map_congr_left fun row hr => ?_
    have hlr := hl2 row hr
    rw [ord_at (by omega), ord_at (by omega)]
    obtain ⟨r, hr2, rfl⟩ := List.mem_map.1 hr
    have hrl := hl r hr2
    have e1 : (r ++ [r[k]?.getD 0])[k]?.getD 0 = r[k]?.getD 0 := by rw [List.getElem?_append_left (by omega)]
    have e2 : (r ++ [r[k]?.getD 0])[n]?.getD 0 = r[k]?.getD 0 := by rw [← hrl, List.getElem?_append_right (Nat.le_refl _)]; simp
    rw [e1, e2]
  rw [hm]
theorem dbl_all (h : useOk t) {n : Nat} (hn : (t[0]?.getD []).length = n) (h9 : n ≤ 9) (hk : k < n) :
    tableErr (dbl t k) = 0 ∧ ordL (dbl t k) = (dbl t k).map ordTot ∧ cmpErr ((dbl t k).map ordTot) k n = 0 ∧ cmpV ((dbl t k).map ordTot) k n = 0 ∧ checkErr ((dbl t k).map ordTot) = 0 ∧
    (majL ((dbl t k).map ordTot)).length = n + 1 ∧ (majL ((dbl t k).map ordTot))[k]?.getD 0 = (majL ((dbl t k).map ordTot))[n]?.getD 0 := by
  have hu := dbl_use (k := k) h (by omega)
  have ht := List.length_pos_iff.2 h.2.1
  have hl : ∀ row ∈ t, row.length = n := fun row hr => by rw [h.2.2.2.2 row hr, hn]
  have hl2 := dbl_row (k := k) hl
  have hz : ((dbl t k)[0]?.getD []).length = n + 1 := hl2 _ (get_mem [] (by rw [dbl_len]; exact ht))
  have hO := OrdT.of hu
  rw [hz] at hO
  have hT := use_table hu
  obtain ⟨c1, c2⟩ := hO.cmp (show k < n + 1 by omega) (show n < n + 1 by omega)
  obtain ⟨m1, m2⟩ := hO.maj
  have hs := dbl_stand ht hl hk
  refine ⟨hT, if_pos hT, c1, ?_, hO.err, m1, ?_⟩
  · rw [c2, hs, dec_self]
  · rw [m2 k (by omega), m2 n (by omega), hs]
theorem dbl_rng (hr : rngT t) {n : Nat} (hl : ∀ row ∈ t, row.length = n) (hk : k < n) : rngT (dbl t k) := fun row hrow x hx => by
  obtain ⟨r, hr2, rfl⟩ := List.mem_map.1 hrow
  rcases List.mem_append.1 hx with h | h
  · exact hr r hr2 x h
  · rw [List.mem_singleton.1 h]
    exact hr r hr2 _ (get_mem 0 (by rw [hl r hr2]; exact hk))
theorem dbl_take {i : Nat} (hi : i < t.length) : (dbl t k).take (i + 1) = (dbl t k).take i ++ [(t[i]?.getD []) ++ [(t[i]?.getD [])[k]?.getD 0]] := map_take_succ (fun r : List Int => r ++ [r[k]?.getD 0]) t hi []
end
end Go.Am
