/- The program of chapter 22: plain laws for PlacesOrder. -/
import Derived.Test.YteglanpnmnkkbaaPl12
namespace Go.Am
set_option linter.unusedVariables false
set_option linter.unusedSimpArgs false
set_option maxHeartbeats 4000000
set_option maxRecDepth 20000
open Go.RowKit Go.Proofs

def rot {α : Type} (k : Nat) (xs : List α) : List α := xs.drop k ++ xs.take k
theorem rot_perm {α : Type} (k : Nat) (xs : List α) : (rot k xs).Perm xs := by
  unfold rot
  have h := List.perm_append_comm (l₁ := xs.drop k) (l₂ := xs.take k)
  rw [List.take_append_drop] at h
  exact h
theorem rot_len {α : Type} (k : Nat) (xs : List α) : (rot k xs).length = xs.length := (rot_perm k xs).length_eq
theorem rot_map {α β : Type} (f : α → β) (k : Nat) (xs : List α) : rot k (xs.map f) = (rot k xs).map f := by
  unfold rot; rw [List.map_append, List.map_drop, List.map_take]
theorem standL_perm {l l' : List (List Int)} (h : l.Perm l') (h0 : (l[0]?.getD []).length = (l'[0]?.getD []).length) (e : Int) : standL l e = standL l' e := by
  unfold standL
  rw [h0]
  refine List.map_congr_left fun p _ => ?_
  exact stP_perm (h.map _) _
theorem check_all {l : List (List Int)} {n : Nat} (h1 : l.length ≤ 256) (h2 : n ≤ 4096) (hp : 0 < l.length) (hl : ∀ row ∈ l, row.length = n) (ho : ∀ row ∈ l, row = ordRow row) : checkErr l = 0 := by
  refine checkErr_0 (tableErr_0 ?_ ?_) ho
  · rintro (h | ⟨row, hr, h⟩)
    · omega
    · rw [hl row hr] at h; omega
  · rintro ⟨row, hr, hne⟩
    exact hne (by rw [hl row hr, hl _ (get_mem [] hp)])
theorem maj_eq {l : List (List Int)} {n : Nat} (hp : 0 < l.length) (hl : ∀ row ∈ l, row.length = n) (hc : checkErr l = 0) : majL l = (allTo l n).map fun x => (decN (allTo l n) x : Int) + 1 := by
  unfold majL
  rw [if_pos ⟨hc, List.length_pos_iff.1 hp⟩, hl _ (get_mem [] hp)]
theorem maj_turned {l l' : List (List Int)} {n : Nat} (h : l'.Perm l) (h1 : l.length ≤ 256) (h2 : n ≤ 4096) (hp : 0 < l.length) (hl : ∀ row ∈ l, row.length = n) (ho : ∀ row ∈ l, row = ordRow row) : checkErr l' = 0 ∧ majL l' = majL l := by
  have hl' : ∀ row ∈ l', row.length = n := fun row hr => hl row (h.mem_iff.1 hr)
  have ho' : ∀ row ∈ l', row = ordRow row := fun row hr => ho row (h.mem_iff.1 hr)
  have hp' : 0 < l'.length := by rw [h.length_eq]; exact hp
  have hc' := check_all (by rw [h.length_eq]; exact h1) h2 hp' hl' ho'
  have hc := check_all h1 h2 hp hl ho
  refine ⟨hc', ?_⟩
  rw [maj_eq hp' hl' hc', maj_eq hp hl hc]
  have ha : allTo l' n = allTo l n := by
    unfold allTo
    refine List.map_congr_left fun k _ => ?_
    exact standL_perm h (by rw [hl' _ (get_mem [] hp'), hl _ (get_mem [] hp)]) _
  rw [ha]
theorem rot_get {α : Type} (d : α) {k e n : Nat} {xs : List α} (hn : xs.length = n) (hk : k ≤ n) (he : e < n) : (rot k xs)[e]?.getD d = xs[if e < n - k then e + k else e - (n - k)]?.getD d := by
  unfold rot
  by_cases h : e < n - k
  · rw [if_pos h, List.getElem?_append_left (by rw [List.length_drop]; omega), List.getElem?_drop, Nat.add_comm]
  · rw [if_neg h, List.getElem?_append_right (by rw [List.length_drop]; omega), List.length_drop, hn, List.getElem?_take_of_lt (by omega)]
theorem ordRow_rot (k : Nat) {row : List Int} (h : row = ordRow row) : rot k row = ordRow (rot k row) := by
  have hb : ∀ x, below x (rot k row) = below x row := fun x => ((rot_perm k row).filter _).length_eq
  unfold ordRow
  simp only [hb]
  conv => lhs; rw [h, ordRow, rot_map]
theorem standL_rot {l : List (List Int)} {n k e : Nat} (hp : 0 < l.length) (hl : ∀ row ∈ l, row.length = n) (hk : k ≤ n) (he : e < n) : standL (l.map (rot k)) (e : Int) = standL l ((if e < n - k then e + k else e - (n - k) : Nat) : Int) := by
  have hz : ((l.map (rot k))[0]?.getD []).length = n := by
    rw [List.getElem?_map, List.getElem?_eq_getElem hp]
    simp [rot_len, hl]
  unfold standL
  rw [hz, hl _ (get_mem [] hp)]
  have hc : col (l.map (rot k)) (e : Int) = col l ((if e < n - k then e + k else e - (n - k) : Nat) : Int) := by
    unfold col
    rw [List.map_map]
    refine List.map_congr_left fun row hr => ?_
    simp only [Function.comp_apply, Int.toNat_natCast]
    exact rot_get 0 (hl row hr) hk he
  rw [hc]
theorem range_rot {α : Type} (f : Nat → α) {n k : Nat} (hk : k ≤ n) : ((List.range n).map fun e => f (if e < n - k then e + k else e - (n - k))) = rot k ((List.range n).map f) := by
  rw [rot_map]
  have h : (List.range n).map (fun e => if e < n - k then e + k else e - (n - k)) = rot k (List.range n) := by
    apply List.ext_getElem?
    intro e
    rcases Nat.lt_or_ge e n with he | he
    · rw [List.getElem?_map, List.getElem?_range he]
      unfold rot
      by_cases h : e < n - k
      · rw [List.getElem?_append_left (by rw [List.length_drop, List.length_range]; omega), List.getElem?_drop, List.getElem?_range (by omega)]
        simp [h, Nat.add_comm]
      · rw [List.getElem?_append_right (by rw [List.length_drop, List.length_range]; omega), List.length_drop, List.length_range, List.getElem?_take_of_lt (by omega), List.getElem?_range (by omega)]
        simp [h]
    · rw [List.getElem?_eq_none (by rw [List.length_map, List.length_range]; exact he), List.getElem?_eq_none (by rw [rot_len, List.length_range]; exact he)]
  rw [← h, List.map_map]
  rfl
theorem maj_moved {l : List (List Int)} {n k : Nat} (hk : k ≤ n) (h1 : l.length ≤ 256) (h2 : n ≤ 4096) (hp : 0 < l.length) (hl : ∀ row ∈ l, row.length = n) (ho : ∀ row ∈ l, row = ordRow row) : checkErr (l.map (rot k)) = 0 ∧ majL (l.map (rot k)) = rot k (majL l) := by
  have hl' : ∀ row ∈ l.map (rot k), row.length = n := fun row hr => by
    obtain ⟨r, hr2, rfl⟩ := List.mem_map.1 hr
    rw [rot_len, hl r hr2]
  have ho' : ∀ row ∈ l.map (rot k), row = ordRow row := fun row hr => by
    obtain ⟨r, hr2, rfl⟩ := List.mem_map.1 hr
    exact ordRow_rot k (ho r hr2)
  have hp' : 0 < (l.map (rot k)).length := by rw [List.length_map]; exact hp
  have hc' := check_all (by rw [List.length_map]; exact h1) h2 hp' hl' ho'
  have hc := check_all h1 h2 hp hl ho
  refine ⟨hc', ?_⟩
  rw [maj_eq hp' hl' hc', maj_eq hp hl hc]
  have ha : allTo (l.map (rot k)) n = rot k (allTo l n) := by
    unfold allTo
    rw [← range_rot _ hk]
    refine List.map_congr_left fun e he => ?_
    exact standL_rot hp hl hk (List.mem_range.1 he)
  rw [ha, rot_map]
  refine List.map_congr_left fun x _ => ?_
  rw [decN_perm (rot_perm k _)]
end Go.Am
