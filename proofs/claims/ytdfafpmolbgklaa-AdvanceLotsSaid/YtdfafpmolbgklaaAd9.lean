/- The plain law of chapter 24: those who go on are those whom the reference names. -/
import Derived.Test.YtdfafpmolbgklaaAd8
namespace Go.Am
set_option linter.unusedVariables false
set_option linter.unusedSimpArgs false
set_option maxHeartbeats 4000000
set_option maxRecDepth 20000
open Go.RowKit Go.Proofs

theorem isort_unique {xs ys : List Int} (hp : ys.Perm xs) (hs : ys.Pairwise (fun a b => a ≤ b)) : ys = isort xs :=
  List.Perm.eq_of_pairwise (le := fun a b : Int => a ≤ b) (fun a b _ _ h1 h2 => by omega) hs (isort_sorted xs) (hp.trans (isort_perm xs).symm)
theorem isort_congr {xs ys : List Int} (hp : ys.Perm xs) : isort ys = isort xs := isort_unique ((isort_perm ys).trans hp) (isort_sorted ys)
theorem putL_perm (l : List Int) (n : Int) : (putL l n).Perm (l ++ [n]) := by
  have h : l.takeWhile (· ≤ n) ++ l.dropWhile (· ≤ n) = l := List.takeWhile_append_dropWhile
  unfold putL
  have h1 : (l.takeWhile (· ≤ n) ++ n :: l.dropWhile (· ≤ n)).Perm (n :: (l.takeWhile (· ≤ n) ++ l.dropWhile (· ≤ n))) := List.perm_middle
  rw [h] at h1
  exact h1.trans (List.perm_append_comm (l₁ := [n]) (l₂ := l))
theorem putL_sorted (n : Int) : ∀ (l : List Int), l.Pairwise (fun a b => a ≤ b) → (putL l n).Pairwise (fun a b => a ≤ b)
  | [], _ => by simp [putL]
  | a :: l, h => by
    have ih := putL_sorted n l (List.pairwise_cons.1 h).2
    have ha := (List.pairwise_cons.1 h).1
    unfold putL at ih ⊢
    rw [List.takeWhile_cons, List.dropWhile_cons]
    by_cases hn : a ≤ n
    · simp only [hn, decide_true, if_true, List.cons_append, List.pairwise_cons]
      refine ⟨fun b hb => ?_, ih⟩
      have := (putL_perm l n).mem_iff.1 (show b ∈ putL l n from hb)
      rw [List.mem_append, List.mem_singleton] at this
      rcases this with h1 | rfl
      · exact ha b h1
      · exact hn
    · simp only [hn, decide_false, if_false, Bool.false_eq_true, List.nil_append, List.pairwise_cons]
      refine ⟨fun b hb => ?_, ha, (List.pairwise_cons.1 h).2⟩
      rcases List.mem_cons.1 hb with rfl | hb
      · omega
      · have := ha b hb; omega
theorem putL_isort (xs : List Int) (n : Int) : putL (isort xs) n = isort (xs ++ [n]) :=
  isort_unique ((putL_perm _ n).trans ((isort_perm xs).append_right [n])) (putL_sorted n _ (isort_sorted xs))
theorem putL_length (l : List Int) (n : Int) : (putL l n).length = l.length + 1 := by simpa using (putL_perm l n).length_eq

/-! ### Ranks -/
theorem rank_le {p : List Pl} (h : OkAll p) : ∀ i, i < p.length → pr p i ≤ i + 1 ∧ 1 ≤ pr p i := by
  intro i
  induction i with
  | zero =>
    intro hi
    have := (h 0 hi).rank (by simp [sameR])
    omega
  | succ i ih =>
    intro hi
    by_cases hs : sameR p (i + 1)
    · have := hs.2
      simp only [Nat.add_sub_cancel] at this
      have := ih (by omega)
      omega
    · have := (h (i + 1) hi).rank hs
      omega
theorem rank_mono {p : List Pl} (h : OkAll p) {i : Nat} : ∀ j, i ≤ j → j < p.length → pr p i ≤ pr p j := by
  intro j
  induction j with
  | zero => intro hij _; rw [show i = 0 by omega]; omega
  | succ j ih =>
    intro hij hj
    rcases Nat.lt_or_ge i (j + 1) with hlt | hge
    · have h1 := ih (by omega) (by omega)
      have h2 := rank_le h j (by omega)
      by_cases hs : sameR p (j + 1)
      · have := hs.2
        simp only [Nat.add_sub_cancel] at this
        omega
      · have := (h (j + 1) hj).rank hs
        omega
    · rw [show i = j + 1 by omega]; omega

/-- How many have a lesser rank; how many of a rank a lesser lot. -/
def befN (p : List Pl) (r : Int) (k : Nat) : Nat := ((List.range k).filter fun i => decide (pr p i < r)).length
def lesN (p : List Pl) (lots : List Int) (r : Int) (i k : Nat) : Nat := ((List.range k).filter fun j => decide (pr p j = r) && decide (lots[j]?.getD 0 < lots[i]?.getD 0)).length
def goes (p : List Pl) (q cut : Int) (lots : List Int) (i : Nat) : Bool :=
  decide (pr p i < rankQ p q) || (decide (pr p i = rankQ p q) && (decide (pr p q.toNat ≠ rankQ p q) || decide (cut = 1) || (decide (cut = 3) && decide (((befN p (rankQ p q) p.length : Nat) : Int) + lesN p lots (rankQ p q) i p.length < q))))

theorem befN_of {p : List Pl} {r : Int} {f : Nat} : ∀ n, f ≤ n → (∀ i, i < n → (pr p i < r ↔ i < f)) → befN p r n = f := by
  intro n
  induction n with
  | zero => intro h _; rw [show f = 0 by omega]; rfl
  | succ n ih =>
    intro h hi
    unfold befN at ih ⊢
    rw [List.range_succ, List.filter_append, List.length_append]
    rcases Nat.lt_or_ge n f with hn | hn
    · have hf : f = n + 1 := by omega
      subst hf
      have hall : ((List.range n).filter fun i => decide (pr p i < r)).length = n := by
        rw [List.filter_eq_self.2 (fun i hm => by have := List.mem_range.1 hm; simpa using (hi i (by omega)).2 (by omega))]
        simp
      have := (hi n (by omega)).2 (by omega)
      simp [hall, this]
    · have hno : ¬ pr p n < r := fun h => by have := (hi n (by omega)).1 h; omega
      rw [ih hn fun i hi' => hi i (by omega)]
      simp [hno]

/-! ### A list in strict order of its keys -/
theorem less_of_sorted (key : Int → Int) : ∀ (L : List Int), L.Pairwise (fun a b => key a < key b) → ∀ (j : Nat) (h : j < L.length), (L.filter (fun y => decide (key y < key L[j]))).length = j
  | [], _, j, h => by simp at h
  | a :: L, hp, 0, h => by
    have ha := (List.pairwise_cons.1 hp).1
    rw [List.filter_eq_nil_iff.2]
    · rfl
    · intro y hy
      rcases List.mem_cons.1 hy with rfl | hy
      · simp
      · have := ha y hy
        simp; omega
  | a :: L, hp, j + 1, h => by
    have ih := less_of_sorted key L (List.pairwise_cons.1 hp).2 j (by simpa using h)
    have hj : j < L.length := by simpa using h
    have ha := (List.pairwise_cons.1 hp).1 L[j] (List.getElem_mem hj)
    simp only [List.getElem_cons_succ, List.filter_cons]
    rw [if_pos (by simpa using ha)]
    simpa using ih
theorem take_of_sorted (key : Int → Int) {L : List Int} (hp : L.Pairwise (fun a b => key a < key b)) (m : Nat) (x : Int) : x ∈ L.take m ↔ x ∈ L ∧ (L.filter (fun y => decide (key y < key x))).length < m := by
  rw [List.mem_take_iff_getElem]
  constructor
  · rintro ⟨j, hj, rfl⟩
    exact ⟨List.getElem_mem _, by rw [less_of_sorted key L hp j (by omega)]; omega⟩
  · rintro ⟨hx, hl⟩
    obtain ⟨j, hj, rfl⟩ := List.mem_iff_getElem.1 hx
    rw [less_of_sorted key L hp j hj] at hl
    exact ⟨j, by omega, rfl⟩

theorem atIdx_nodup (p : List Pl) (r : Int) : (atIdx p r).Nodup := by
  unfold atIdx
  rw [List.nodup_iff_pairwise_ne, List.pairwise_map]
  exact ((List.nodup_iff_pairwise_ne.1 (List.nodup_range (n := p.length))).filter _).imp (by intro a b h; omega)
theorem sortBy_nodup (lots : List Int) (p : List Pl) (r : Int) : (sortBy lots (atIdx p r)).Nodup := (sortBy_perm lots _).nodup_iff.2 (atIdx_nodup p r)
theorem sortBy_strict {lots : List Int} {p : List Pl} {r : Int} (hn : lots.Nodup) (hl : p.length = lots.length) : (sortBy lots (atIdx p r)).Pairwise (fun a b => keyAt lots a < keyAt lots b) := by
  have h1 := (sortBy_sorted lots (atIdx p r)).and (List.nodup_iff_pairwise_ne.1 (sortBy_nodup lots p r))
  have h2 : (sortBy lots (atIdx p r)).Pairwise (fun a b => a ∈ sortBy lots (atIdx p r) ∧ b ∈ sortBy lots (atIdx p r) ∧ keyAt lots a ≤ keyAt lots b ∧ a ≠ b) :=
    List.Pairwise.imp_of_mem (fun ha hb h => ⟨ha, hb, h⟩) h1
  refine h2.imp ?_
  rintro a b ⟨ha, hb, hle, hne⟩
  have qa := sortBy_mem.1 ha
  have qb := sortBy_mem.1 hb
  have : keyAt lots a ≠ keyAt lots b := fun e => hne (keyAt_inj hn qa.1 (by omega) qb.1 (by omega) e)
  omega
theorem lesser_eq (lots : List Int) (p : List Pl) (r : Int) (x : Int) : ((sortBy lots (atIdx p r)).filter (fun y => decide (keyAt lots y < keyAt lots x))).length = lesN p lots r x.toNat p.length := by
  rw [((sortBy_perm lots (atIdx p r)).filter _).length_eq]
  unfold atIdx lesN keyAt
  rw [List.filter_map, List.length_map, List.filter_filter]
  congr 1
  refine List.filter_congr fun j _ => ?_
  simp [Bool.and_comm]

theorem range_filter_nodup (n : Nat) (f : Nat → Bool) : ((List.range n).filter f).Nodup := by
  rw [List.nodup_iff_pairwise_ne]
  exact (List.nodup_iff_pairwise_ne.1 (List.nodup_range (n := n))).filter _

theorem count_rank {p : List Pl} (h : OkAll p) {r : Int} {f : Nat} (hr : pr p f = r) (hf : f < p.length) (hno : ∀ j, j < f → pr p j ≠ r) {q : Nat} (hfq : f ≤ q) (hq : q < p.length) : (f + (atIdx p r).length > q ↔ pr p q = r) := by
  have hlen : (atIdx p r).length = ((List.range p.length).filter fun i => decide (pr p i = r)).length := by simp [atIdx]
  rw [hlen]
  constructor
  · intro hgt
    apply Classical.byContradiction
    intro hne
    -- all lines of the rank lie in [f, q)
    have hsub : ((List.range p.length).filter fun i => decide (pr p i = r)).length ≤ q - f := by
      have hperm : ((List.range p.length).filter fun i => decide (pr p i = r)).Perm (((List.range' f (q - f)).filter fun i => decide (pr p i = r))) := by
        refine (List.perm_ext_iff_of_nodup (range_filter_nodup _ _) ?_).2 fun i => ?_
        · rw [List.nodup_iff_pairwise_ne]
          exact (List.nodup_iff_pairwise_ne.1 (List.nodup_range' (s := f) (n := q - f) (step := 1))).filter _
        · simp only [List.mem_filter, List.mem_range, List.mem_range'_1, decide_eq_true_eq]
          constructor
          · rintro ⟨h1, h2⟩
            refine ⟨⟨?_, ?_⟩, h2⟩
            · apply Nat.not_lt.1; intro hlt; exact hno i hlt h2
            · rcases Nat.lt_or_ge i q with hh | hh
              · omega
              · exfalso
                have m1 := rank_mono h (i := f) q hfq hq
                have m2 := rank_mono h (i := q) i hh h1
                omega
          · rintro ⟨⟨h1, h2⟩, h3⟩
            exact ⟨by omega, h3⟩
      rw [hperm.length_eq]
      have := List.length_filter_le (fun i => decide (pr p i = r)) (List.range' f (q - f))
      simpa using this
    omega
  · intro he
    have hsup : q - f + 1 ≤ ((List.range p.length).filter fun i => decide (pr p i = r)).length := by
      have hperm : ((List.range p.length).filter fun i => decide (pr p i = r) && decide (i ≤ q)).Perm (List.range' f (q - f + 1)) := by
        refine (List.perm_ext_iff_of_nodup (range_filter_nodup _ _) List.nodup_range').2 fun i => ?_
        simp only [List.mem_filter, List.mem_range, List.mem_range'_1, decide_eq_true_eq, Bool.and_eq_true]
        constructor
        · rintro ⟨h1, h2, h3⟩
          refine ⟨?_, by omega⟩
          apply Nat.not_lt.1; intro hlt; exact hno i hlt h2
        · rintro ⟨h1, h2⟩
          have m1 := rank_mono h (i := f) i h1 (by omega)
          have m2 := rank_mono h (i := i) q (by omega) hq
          exact ⟨by omega, by omega, by omega⟩
      have h1 := hperm.length_eq
      rw [List.length_range'] at h1
      rw [← h1]
      exact filter_le (fun i => decide (pr p i = r)) (fun i => decide (pr p i = r) && decide (i ≤ q)) (fun x hx => by simp at hx ⊢; exact hx.1) _
    omega

/-- Who goes on, by indices. -/
theorem goOn_goes {p : List Pl} (h : OkAll p) {lots : List Int} (hl : p.length = lots.length) (hn : lots.Nodup) {q cut : Int} (hq1 : 1 ≤ q) (hq : q < p.length) (hc : cut = 1 ∨ cut = 2 ∨ cut = 3) :
    ∃ J : List Nat, (goOn p q cut lots).map (·.1) = J.map (pe p) ∧ J.Perm ((List.range p.length).filter (goes p q cut lots)) := by
  obtain ⟨f, hf, hfq, hfr, hfn⟩ := firstOf_spec (p := p) (r := rankQ p q) (k := (q - 1).toNat) (by omega) rfl
  have hbef : ∀ i, i < p.length → (pr p i < rankQ p q ↔ i < f) := fun i hi => by
    constructor
    · intro hlt
      apply Nat.not_le.1; intro hge
      have := rank_mono h (i := f) i hge hi
      omega
    · intro hlt
      have := rank_mono h (i := i) f (by omega) (by omega)
      have := hfn i hlt
      omega
  have hB : befN p (rankQ p q) p.length = f := befN_of p.length (by omega) hbef
  have hcnt := count_rank h hfr (by omega) hfn (q := q.toNat) (by omega) (by omega)
  have hsl : (sortBy lots (atIdx p (rankQ p q))).length = (atIdx p (rankQ p q)).length := (sortBy_perm lots _).length_eq
  -- who of the rank goes on
  have htm : ∀ i : Nat, ((i : Int) ∈ tiedL p q cut lots) ↔ i < p.length ∧ pr p i = rankQ p q ∧ (pr p q.toNat ≠ rankQ p q ∨ cut = 1 ∨ cut = 3 ∧ ((befN p (rankQ p q) p.length : Nat) : Int) + lesN p lots (rankQ p q) i p.length < q) := by
    intro i
    have hm : ((i : Int) ∈ sortBy lots (atIdx p (rankQ p q))) ↔ i < p.length ∧ pr p i = rankQ p q := by
      rw [sortBy_mem]; simp
    unfold tiedL
    simp only []
    rw [hf, hsl]
    by_cases hcl : pr p q.toNat = rankQ p q
    · rw [if_pos (by have := hcnt.2 hcl; omega)]
      unfold roomL
      rcases hc with rfl | rfl | rfl
      · rw [if_pos rfl, hm]; simp
      · rw [if_neg (by decide), if_pos rfl]; simp [hcl]
      · rw [if_neg (by decide), if_neg (by decide), take_of_sorted (keyAt lots) (sortBy_strict hn hl), hm, lesser_eq, hB]
        simp [hcl, and_assoc]
        intro _ _
        omega
    · rw [if_neg (fun hgt => hcl (hcnt.1 (by omega))), hm]
      simp [hcl]
  have hsub : ∀ x ∈ tiedL p q cut lots, 0 ≤ x ∧ x < p.length := by
    intro x hx
    have : x ∈ sortBy lots (atIdx p (rankQ p q)) := by
      unfold tiedL roomL at hx
      simp only [] at hx
      split at hx
      · split at hx
        · exact hx
        · split at hx
          · cases hx
          · exact List.mem_of_mem_take hx
      · exact hx
    have := sortBy_mem.1 this
    exact ⟨this.1, this.2.1⟩
  have hnd : (tiedL p q cut lots).Nodup := by
    have h0 := sortBy_nodup lots p (rankQ p q)
    unfold tiedL roomL
    simp only []
    split
    · split
      · exact h0
      · split
        · exact List.nodup_nil
        · exact List.Nodup.sublist (List.take_sublist _ _) h0
    · exact h0
  refine ⟨List.range f ++ (tiedL p q cut lots).map Int.toNat, ?_, ?_⟩
  · unfold goOn
    rw [if_neg (by omega), hf, List.map_append, List.map_append]
    congr 1
    · apply List.ext_getElem
      · simp; omega
      · intro i h1 h2
        simp at h1 h2
        have : pe p i = p[i].1 := by unfold pe; rw [getD_lt (by omega)]
        simp [this]
    · rw [List.map_map, List.map_map]
      rfl
  · refine (List.perm_ext_iff_of_nodup ?_ (range_filter_nodup _ _)).2 fun i => ?_
    · rw [List.nodup_append]
      refine ⟨List.nodup_range, ?_, ?_⟩
      · rw [List.nodup_iff_pairwise_ne, List.pairwise_map]
        refine List.Pairwise.imp_of_mem ?_ (List.nodup_iff_pairwise_ne.1 hnd)
        intro a b ha hb hne he
        have := hsub a ha
        have := hsub b hb
        omega
      · intro a ha b hb
        obtain ⟨x, hx, rfl⟩ := List.mem_map.1 hb
        have h1 := hsub x hx
        have h2 := (htm x.toNat).1 (by rw [show ((x.toNat : Nat) : Int) = x by omega]; exact hx)
        rintro rfl
        exact hfn _ (List.mem_range.1 ha) h2.2.1
    · rw [List.mem_append, List.mem_range, List.mem_map, List.mem_filter, List.mem_range]
      have hex : (∃ a, a ∈ tiedL p q cut lots ∧ a.toNat = i) ↔ ((i : Int) ∈ tiedL p q cut lots) := by
        constructor
        · rintro ⟨a, ha, rfl⟩
          have := hsub a ha
          rw [show ((a.toNat : Nat) : Int) = a by omega]; exact ha
        · intro hi; exact ⟨i, hi, by simp⟩
      rw [hex, htm]
      unfold goes
      simp only [Bool.or_eq_true, Bool.and_eq_true, decide_eq_true_eq]
      constructor
      · rintro (hlt | ⟨h1, h2, h3⟩)
        · exact ⟨by omega, .inl ((hbef i (by omega)).2 hlt)⟩
        · refine ⟨h1, .inr ⟨h2, ?_⟩⟩
          rcases h3 with h3 | h3 | h3
          · exact .inl (.inl h3)
          · exact .inl (.inr h3)
          · exact .inr h3
      · rintro ⟨h1, h2 | ⟨h2, h3⟩⟩
        · exact .inl ((hbef i h1).1 h2)
        · refine .inr ⟨h1, h2, ?_⟩
          rcases h3 with (h3 | h3) | h3
          · exact .inl h3
          · exact .inr (.inl h3)
          · exact .inr (.inr h3)
theorem goOn_isort {p : List Pl} (h : OkAll p) {lots : List Int} (hl : p.length = lots.length) (hn : lots.Nodup) {q cut : Int} (hq1 : 1 ≤ q) (hq : q < p.length) (hc : cut = 1 ∨ cut = 2 ∨ cut = 3) :
    isort (((List.range p.length).filter (goes p q cut lots)).map (pe p)) = isort ((goOn p q cut lots).map (·.1)) := by
  obtain ⟨J, h1, h2⟩ := goOn_goes h hl hn hq1 hq hc
  rw [h1]
  exact isort_congr (h2.symm.map _)
end Go.Am
