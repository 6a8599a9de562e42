/- The program of chapter 25: what the groups are, in plain numbers. -/
import Derived.Test.YthdojmkfpiocmaaPz7
namespace Go.Am
set_option linter.unusedVariables false
set_option linter.unusedSimpArgs false
set_option maxHeartbeats 4000000
set_option maxRecDepth 20000
open Go.RowKit Go.Proofs

theorem runL_spec (r : Int) : ∀ (l : List Pl), (∀ j, j < runL r l → (l[j]?.getD (0, 0, 0, ())).2.1 = r) ∧ (runL r l = l.length ∨ (l[runL r l]?.getD (0, 0, 0, ())).2.1 ≠ r)
  | [] => by simp [runL]
  | x :: l => by
    obtain ⟨h1, h2⟩ := runL_spec r l
    by_cases hx : x.2.1 = r
    · have he : runL r (x :: l) = runL r l + 1 := by simp [runL, hx]
      rw [he]
      refine ⟨fun j hj => ?_, ?_⟩
      · cases j with
        | zero => simpa using hx
        | succ j => simpa using h1 j (by omega)
      · simpa using h2
    · have he : runL r (x :: l) = 0 := by simp [runL, hx]
      rw [he]
      exact ⟨fun j hj => by omega, .inr (by simpa using hx)⟩

/-- A group. -/
structure IsGrp (p : List Pl) (a m : Nat) : Prop where
  pos : 0 < m
  le : a + m ≤ p.length
  eq : ∀ j, a ≤ j → j < a + m → pr p j = pr p a
  next : a + m < p.length → pr p (a + m) ≠ pr p a
def posAt : List (Nat × Nat) → Nat → Nat
  | [], _ => 0
  | _ :: _, 0 => 0
  | x :: r, t + 1 => x.2 + posAt r t
theorem grpF_spec (p : List Pl) : ∀ (f a : Nat), p.length - a ≤ f → a ≤ p.length →
    (∀ t x, (grpF f a (p.drop a))[t]? = some x → x.1 = a + posAt (grpF f a (p.drop a)) t ∧ IsGrp p x.1 x.2 ∧ a + posAt (grpF f a (p.drop a)) (t + 1) = x.1 + x.2) ∧ a + posAt (grpF f a (p.drop a)) (grpF f a (p.drop a)).length = p.length := by
  intro f
  induction f with
  | zero =>
    intro a hf ha
    exact ⟨fun t x h => by simp [grpF] at h, by simp only [grpF, posAt]; omega⟩
  | succ f ih =>
    intro a hf ha
    rcases Nat.lt_or_ge a p.length with hlt | hge
    · have hx : p[a]?.getD (0, 0, 0, ()) = p[a] := by simp [hlt]
      rw [List.drop_eq_getElem_cons hlt]
      simp only [grpF]
      rw [List.drop_drop]
      have hra : pr p a = p[a].2.1 := by unfold pr; rw [hx]
      obtain ⟨h1, h2⟩ := runL_spec p[a].2.1 (p.drop (a + 1))
      have hle := runL_le p[a].2.1 (p.drop (a + 1))
      generalize runL p[a].2.1 (p.drop (a + 1)) = n at *
      rw [List.length_drop] at h2 hle
      have hg : IsGrp p a (n + 1) := by
        refine ⟨by omega, by omega, fun j hj1 hj2 => ?_, fun hn => ?_⟩
        · rcases Nat.lt_or_ge a j with h | h
          · have := h1 (j - a - 1) (by omega)
            rw [List.getElem?_drop, show a + 1 + (j - a - 1) = j by omega] at this
            rw [hra]; exact this
          · rw [show j = a by omega]
        · rcases h2 with h2 | h2
          · omega
          · rw [List.getElem?_drop, show a + 1 + n = a + (n + 1) by omega] at h2
            rw [hra]; exact h2
      have hd : a + 1 + n = a + (n + 1) := by omega
      rw [hd]
      obtain ⟨k1, k2⟩ := ih (a + (n + 1)) (by omega) (by omega)
      refine ⟨fun t x h => ?_, ?_⟩
      · cases t with
        | zero =>
          simp at h; subst h
          refine ⟨by simp [posAt], hg, ?_⟩
          simp only [posAt]
          cases grpF f (a + (n + 1)) (p.drop (a + (n + 1))) <;> simp [posAt]
        | succ t =>
          simp only [List.getElem?_cons_succ] at h
          obtain ⟨q1, q2, q3⟩ := k1 t x h
          simp only [posAt]
          exact ⟨by omega, q2, by omega⟩
      · simp only [List.length_cons, posAt]; omega
    · have : a = p.length := by omega
      subst this
      rw [List.drop_length]
      exact ⟨fun t x h => by simp [grpF] at h, by simp [grpF, posAt]⟩
theorem groups_spec (p : List Pl) {t : Nat} {x : Nat × Nat} (h : (groups p)[t]? = some x) : x.1 = posAt (groups p) t ∧ IsGrp p x.1 x.2 ∧ posAt (groups p) (t + 1) = x.1 + x.2 := by
  have := (grpF_spec p p.length 0 (by omega) (by omega)).1 t x (by simpa [groups] using h)
  simpa [groups] using this
theorem groups_end (p : List Pl) : posAt (groups p) (groups p).length = p.length := by
  have := (grpF_spec p p.length 0 (by omega) (by omega)).2
  simpa [groups] using this
theorem posAt_zero (gs : List (Nat × Nat)) : posAt gs 0 = 0 := by cases gs <;> rfl

/-- The rank of a group that begins somewhere. -/
theorem grp_rank {p : List Pl} (h : OkAll p) {a m : Nat} (hg : IsGrp p a m) (h0 : a = 0 ∨ pr p (a - 1) ≠ pr p a) : pr p a = a + 1 := by
  have := hg.le
  have := hg.pos
  refine (h a (by omega)).rank fun hs => ?_
  rcases h0 with h0 | h0
  · have := hs.1; omega
  · exact h0 hs.2.symm
theorem cntTo_interval (p : List Pl) (r : Int) (a m : Nat) (hr : ∀ j, j < p.length → (pr p j = r ↔ a ≤ j ∧ j < a + m)) : ∀ n, n ≤ p.length → cntTo p r n = min (a + m) n - a := by
  intro n
  induction n with
  | zero => intro _; simp [cntTo]
  | succ n ih =>
    intro hn
    have h1 := ih (by omega)
    have h2 := hr n (by omega)
    simp only [cntTo, h1]
    by_cases h : a ≤ n ∧ n < a + m
    · rw [if_pos (h2.2 h)]; omega
    · rw [if_neg (fun k => h (h2.1 k))]; omega
theorem cnt_grp {p : List Pl} (h : OkAll p) {a m : Nat} (hg : IsGrp p a m) (h0 : a = 0 ∨ pr p (a - 1) ≠ pr p a) {j : Nat} (hj1 : a ≤ j) (hj2 : j < a + m) : cnt p j = m := by
  have hle := hg.le
  have hrk := grp_rank h hg h0
  unfold cnt
  rw [hg.eq j hj1 hj2]
  rw [cntTo_interval p (pr p a) a m ?_ _ (Nat.le_refl _)]
  · omega
  · intro i hi
    refine ⟨fun he => ⟨?_, ?_⟩, fun hi => hg.eq i hi.1 hi.2⟩
    · have := rank_bounds h i hi
      omega
    · rcases Nat.lt_or_ge i (a + m) with h1 | h1
      · exact h1
      · have h2 := rank_mono h i (a + m) h1 hi
        have h3 := hg.next (by omega)
        have h4 := rank_mono h (a + m) a (by omega) (by omega)
        omega
theorem isum_drop_take (l : List Int) : ∀ (m a : Nat), isum ((l.take (min (a + m) l.length)).drop (min a l.length)) = psum l (a + 1) m := by
  intro m
  induction m with
  | zero => intro a; simp [psum, isum]
  | succ m ih =>
    intro a
    simp only [psum]
    rw [← ih a]
    rcases Nat.lt_or_ge (a + m) l.length with h | h
    · have h1 : min (a + (m + 1)) l.length = (a + m) + 1 := by omega
      have h2 : min (a + m) l.length = a + m := by omega
      have h3 : min a l.length = a := by omega
      rw [h1, h2, h3, List.take_add_one, List.getElem?_eq_getElem h]
      simp only [Option.toList_some]
      rw [List.drop_append_of_le_length (by rw [List.length_take]; omega), isum_append]
      have : prize l ((a : Int) + 1 + m) = l[a + m] := by
        unfold prize
        rw [if_pos (by omega), show ((a : Int) + 1 + m).toNat - 1 = a + m by omega, getD_lt h]
      rw [this]
      simp [isum]
    · have h1 : min (a + (m + 1)) l.length = l.length := by omega
      have h2 : min (a + m) l.length = l.length := by omega
      rw [h1, h2]
      have : prize l ((a : Int) + 1 + m) = 0 := by
        unfold prize
        split
        · omega
        · rfl
      omega
theorem share_grp {l : List Int} {p : List Pl} (h : OkAll p) {a m : Nat} (hg : IsGrp p a m) (h0 : a = 0 ∨ pr p (a - 1) ≠ pr p a) {j : Nat} (hj1 : a ≤ j) (hj2 : j < a + m) :
    shareAt l p j = Int.tdiv (isum ((l.take (min (a + m) l.length)).drop (min a l.length))) m := by
  unfold shareAt
  rw [cnt_grp h hg h0 hj1 hj2, hg.eq j hj1 hj2, grp_rank h hg h0, isum_drop_take]
/-- A group begins where the one before it ends. -/
theorem grp_first {p : List Pl} {t : Nat} {x : Nat × Nat} (h : (groups p)[t]? = some x) : x.1 = 0 ∨ pr p (x.1 - 1) ≠ pr p x.1 := by
  cases t with
  | zero =>
    left
    rw [(groups_spec p h).1, posAt_zero]
  | succ t =>
    have hlt := (List.getElem?_eq_some_iff.1 h).1
    have hy : (groups p)[t]? = some (groups p)[t] := List.getElem?_eq_getElem (by omega)
    generalize (groups p)[t] = y at hy
    obtain ⟨k1, k2, k3⟩ := groups_spec p hy
    obtain ⟨q1, q2, q3⟩ := groups_spec p h
    right
    have hp := k2.pos
    have hn := q2.pos
    have hl := q2.le
    have := k2.next (by omega)
    rw [show x.1 - 1 = y.1 + y.2 - 1 by omega, k2.eq (y.1 + y.2 - 1) (by omega) (by omega), show x.1 = y.1 + y.2 by omega]
    exact this.symm
end Go.Am
