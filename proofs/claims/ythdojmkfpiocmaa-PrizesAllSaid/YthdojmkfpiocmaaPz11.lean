/- The program of chapter 25: plain facts behind the laws. -/
import Derived.Test.YthdojmkfpiocmaaPz10
namespace Go.Am
set_option linter.unusedVariables false
set_option linter.unusedSimpArgs false
set_option maxHeartbeats 4000000
set_option maxRecDepth 20000
open Go.RowKit Go.Proofs

theorem psum_add (l : List Int) (r : Int) (a : Nat) : ∀ m, psum l r (a + m) = psum l r a + psum l (r + a) m
  | 0 => by simp [psum]
  | m + 1 => by
    rw [← Nat.add_assoc, psum, psum_add l r a m, psum]
    rw [show r + ((a + m : Nat) : Int) = r + a + m by omega]
    omega
theorem psum_take (l : List Int) (m : Nat) : psum l 1 m = isum (l.take m) := by
  have := isum_drop_take l m 0
  simp only [Nat.zero_add, Nat.zero_min, List.drop_zero, Int.natCast_zero] at this
  rw [show (0 : Int) + 1 = 1 by omega] at this
  rw [← this, ← List.take_eq_take_min]
theorem isum_take_drop (l : List Int) (m : Nat) : isum l = isum (l.take m) + isum (l.drop m) := by
  rw [← isum_append, List.take_append_drop]
theorem isum_replicate (v : Int) : ∀ m : Nat, isum (List.replicate m v) = m * v
  | 0 => by simp [isum]
  | m + 1 => by
    rw [List.replicate_succ, isum, isum_replicate v m, Int.natCast_add, Int.add_mul]
    omega
theorem sharesTo_grp {l : List Int} {p : List Pl} (h : OkAll p) {a m : Nat} (hg : IsGrp p a m) (h0 : a = 0 ∨ pr p (a - 1) ≠ pr p a) : sharesTo l p (a + m) = sharesTo l p a ++ List.replicate m (Int.tdiv (psum l (a + 1) m) m) := by
  unfold sharesTo
  rw [List.range_add, List.map_append]
  congr 1
  apply List.ext_getElem
  · simp
  · intro i h1 h2
    simp only [List.getElem_map, List.getElem_range, List.getElem_replicate]
    simp only [List.length_map, List.length_range] at h1
    rw [share_grp h hg h0 (by omega) (by omega), isum_drop_take]
theorem all_left {l : List Int} {p : List Pl} (hl : right l = true) (h : OkAll p) : ∀ t, t ≤ (groups p).length →
    0 ≤ psum l 1 (posAt (groups p) t) - isum (sharesTo l p (posAt (groups p) t)) ∧ psum l 1 (posAt (groups p) t) - isum (sharesTo l p (posAt (groups p) t)) ≤ max 0 ((posAt (groups p) t : Int) - 1) := by
  intro t
  induction t with
  | zero => intro _; rw [posAt_zero]; simp [psum, sharesTo, isum]; omega
  | succ t ih =>
    intro ht
    obtain ⟨i1, i2⟩ := ih (by omega)
    have hx : (groups p)[t]? = some (groups p)[t] := List.getElem?_eq_getElem (by omega)
    generalize (groups p)[t] = x at hx
    obtain ⟨k1, k2, k3⟩ := groups_spec p hx
    have k4 := grp_first hx
    rw [k3, psum_add, sharesTo_grp h k2 k4, isum_append, isum_replicate]
    rw [← k1] at i1 i2
    have hm := k2.pos
    have hr := psum_bounds hl (r := (x.1 : Int) + 1) (by omega) x.2
    rw [Int.tdiv_eq_ediv_of_nonneg hr.1]
    rw [show (1 : Int) + x.1 = x.1 + 1 by omega]
    generalize psum l (↑x.1 + 1) x.2 = S at *
    have e1 := Int.mul_ediv_add_emod S x.2
    have e2 := Int.emod_nonneg S (show (x.2 : Int) ≠ 0 by omega)
    have e3 := Int.emod_lt_of_pos S (show (0 : Int) < x.2 by omega)
    generalize (x.2 : Int) * (S / x.2) = q at *
    omega
theorem left_bounds {l : List Int} {p : List Pl} (hl : right l = true) (h : OkAll p) :
    0 ≤ isum (l.take p.length) - isum (sharesTo l p p.length) ∧ isum (l.take p.length) - isum (sharesTo l p p.length) ≤ max 0 ((p.length : Int) - 1) := by
  have := all_left hl h (groups p).length (Nat.le_refl _)
  rwa [groups_end, psum_take] at this

/-- Every place lies in a group. -/
theorem grp_of (p : List Pl) : ∀ t, t ≤ (groups p).length → ∀ i, i < posAt (groups p) t → ∃ (s : Nat) (x : Nat × Nat), (groups p)[s]? = some x ∧ x.1 ≤ i ∧ i < x.1 + x.2 := by
  intro t
  induction t with
  | zero => intro _ i hi; rw [posAt_zero] at hi; omega
  | succ t ih =>
    intro ht i hi
    have hx : (groups p)[t]? = some (groups p)[t] := List.getElem?_eq_getElem (by omega)
    generalize (groups p)[t] = x at hx
    obtain ⟨k1, k2, k3⟩ := groups_spec p hx
    rcases Nat.lt_or_ge i (posAt (groups p) t) with h | h
    · exact ih (by omega) i h
    · exact ⟨t, x, hx, by omega, by omega⟩
theorem grp_at (p : List Pl) {i : Nat} (hi : i < p.length) : ∃ a m, IsGrp p a m ∧ (a = 0 ∨ pr p (a - 1) ≠ pr p a) ∧ a ≤ i ∧ i < a + m := by
  obtain ⟨s, x, h1, h2, h3⟩ := grp_of p _ (Nat.le_refl _) i (by rw [groups_end]; exact hi)
  exact ⟨x.1, x.2, (groups_spec p h1).2.1, grp_first h1, h2, h3⟩

theorem goodFrom_desc {l : List Int} : ∀ {last : Int}, goodFrom last l = true → ∀ i j, i ≤ j → j < l.length → l[j]?.getD 0 ≤ l[i]?.getD 0 := by
  intro last h i j hij hj
  induction l generalizing last i j with
  | nil => simp at hj
  | cons x r ih =>
    simp only [goodFrom, Bool.and_eq_true] at h
    cases i with
    | zero =>
      cases j with
      | zero => exact Int.le_refl _
      | succ j =>
        have := goodFrom_le h.2 (r[j]'(by simpa using hj)) (List.getElem_mem _)
        have hj' : j < r.length := by simpa using hj
        simp only [List.getElem?_cons_succ, List.getElem?_eq_getElem hj', Option.getD_some, List.getElem?_cons_zero]
        exact this.2
    | succ i =>
      cases j with
      | zero => omega
      | succ j => simpa using ih h.2 i j (by omega) (by simpa using hj)
theorem prize_mono {l : List Int} (hl : right l = true) {r s : Int} (hr : 1 ≤ r) (h : r ≤ s) : prize l s ≤ prize l r := by
  have h0 := (prize_bounds hl hr).1
  have hl' := hl
  simp only [right, Bool.and_eq_true] at hl
  unfold prize at *
  by_cases c : 1 ≤ s ∧ s ≤ l.length
  · rw [if_pos (by omega), if_pos (by omega)]
    exact goodFrom_desc hl.2 (r.toNat - 1) (s.toNat - 1) (by omega) (by omega)
  · rw [if_neg (by omega)]; exact h0
theorem psum_ge {l : List Int} (hl : right l = true) {r : Int} (hr : 1 ≤ r) {v : Int} : ∀ m : Nat, (∀ j : Nat, j < m → v ≤ prize l (r + j)) → m * v ≤ psum l r m
  | 0, _ => by simp [psum]
  | m + 1, h => by
    have h1 := psum_ge hl hr m fun j hj => h j (by omega)
    have h2 := h m (by omega)
    have : ((m + 1 : Nat) : Int) * v = m * v + v := by rw [Int.natCast_add, Int.add_mul]; omega
    simp only [psum]
    omega
theorem psum_le {l : List Int} (hl : right l = true) {r : Int} (hr : 1 ≤ r) {v : Int} : ∀ m : Nat, (∀ j : Nat, j < m → prize l (r + j) ≤ v) → psum l r m ≤ m * v
  | 0, _ => by simp [psum]
  | m + 1, h => by
    have h1 := psum_le hl hr m fun j hj => h j (by omega)
    have h2 := h m (by omega)
    have : ((m + 1 : Nat) : Int) * v = m * v + v := by rw [Int.natCast_add, Int.add_mul]; omega
    simp only [psum]
    omega
theorem share_eq {l : List Int} {p : List Pl} {i k : Nat} (h : pr p i = pr p k) : shareAt l p i = shareAt l p k := by
  unfold shareAt cnt
  rw [h]
theorem share_mono {l : List Int} {p : List Pl} (hl : right l = true) (h : OkAll p) {i k : Nat} (hi : i < p.length) (hk : k < p.length) (hlt : pr p i < pr p k) : shareAt l p k ≤ shareAt l p i := by
  obtain ⟨a, m, g1, g2, g3, g4⟩ := grp_at p hi
  obtain ⟨b, n, f1, f2, f3, f4⟩ := grp_at p hk
  rw [share_grp h g1 g2 g3 g4, share_grp h f1 f2 f3 f4, isum_drop_take, isum_drop_take]
  have ra := grp_rank h g1 g2
  have rb := grp_rank h f1 f2
  have ea := g1.eq i g3 g4
  have eb := f1.eq k f3 f4
  have hab : a + m ≤ b := by
    rcases Nat.lt_or_ge b (a + m) with c | c
    · have := g1.eq b (by omega) c
      omega
    · exact c
  have hm := g1.pos
  have hn := f1.pos
  have ba := psum_bounds hl (r := (a : Int) + 1) (by omega) m
  have bb := psum_bounds hl (r := (b : Int) + 1) (by omega) n
  have h1 := psum_ge hl (r := (a : Int) + 1) (by omega) (v := prize l (b + 1)) m (fun j hj => prize_mono hl (by omega) (by omega))
  have h2 := psum_le hl (r := (b : Int) + 1) (by omega) (v := prize l (b + 1)) n (fun j hj => prize_mono hl (by omega) (by omega))
  have h3 := (tdiv_bounds hn bb.1 h2).2
  have h4 : prize l (b + 1) ≤ Int.tdiv (psum l (a + 1) m) m := by
    rw [Int.tdiv_eq_ediv_of_nonneg ba.1]
    exact (Int.le_ediv_iff_mul_le (by omega)).2 (by rw [Int.mul_comm]; exact h1)
  omega
end Go.Am
