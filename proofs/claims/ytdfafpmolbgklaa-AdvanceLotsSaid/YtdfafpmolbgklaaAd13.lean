/- The plain laws of chapter 24. -/
import Derived.Test.YtdfafpmolbgklaaAd12
namespace Go.Am
set_option linter.unusedVariables false
set_option linter.unusedSimpArgs false
set_option maxHeartbeats 4000000
set_option maxRecDepth 20000
open Go.RowKit Go.Proofs

theorem err_cut {p : List Pl} {q cut cut' : Int} {lots : List Int} (h : nextErr p q cut lots = 0) (hc : cut' = 1 ∨ cut' = 2 ∨ cut' = 3) : nextErr p q cut' lots = 0 := by
  obtain ⟨h1, h2, h3, h4, h5, h6, h7⟩ := ok_of_err h
  unfold nextErr
  rw [if_neg (by simp [check_ok h1 h2]), if_neg]
  rintro (h | h | h | h | h)
  · omega
  · omega
  · exact h hc
  · omega
  · exact h h7
theorem err_mk {p : List Pl} {q cut : Int} {lots : List Int} (h1 : p.length ≤ 4096) (h2 : OkAll p) (h3 : 1 ≤ q) (h4 : q ≤ 4096) (h5 : cut = 1 ∨ cut = 2 ∨ cut = 3) (h6 : p.length = lots.length) (h7 : lots.Nodup) : nextErr p q cut lots = 0 := by
  unfold nextErr
  rw [if_neg (by simp [check_ok h1 h2]), if_neg]
  rintro (h | h | h | h | h)
  · omega
  · omega
  · exact h h5
  · omega
  · exact h h7

/-- Does a line go on? -/
def goA (p : List Pl) (q cut : Int) (lots : List Int) (i : Nat) : Bool := decide ((p.length : Int) ≤ q) || goes p q cut lots i
theorem goA_iff {p : List Pl} {q cut : Int} {lots : List Int} {i : Nat} : goA p q cut lots i = true ↔ ((p.length : Int) ≤ q ∨ pr p i < rankQ p q ∨ pr p i = rankQ p q ∧ ((pr p q.toNat ≠ rankQ p q ∨ cut = 1) ∨ cut = 3 ∧ ((befN p (rankQ p q) p.length : Nat) : Int) + lesN p lots (rankQ p q) i p.length < q)) := by
  unfold goA goes
  simp only [Bool.or_eq_true, Bool.and_eq_true, decide_eq_true_eq]
theorem pe_inj {p : List Pl} (h : OkAll p) {i j : Nat} (hi : i < p.length) (hj : j < p.length) (he : pe p i = pe p j) : i = j := by
  rcases Nat.lt_trichotomy i j with hlt | heq | hgt
  · exact absurd he ((h j hj).new i hlt)
  · exact heq
  · exact absurd he.symm ((h i hi).new j hgt)
theorem nextL_go {p : List Pl} {q cut : Int} {lots : List Int} (h : nextErr p q cut lots = 0) : nextL p q cut lots = isort (((List.range p.length).filter (goA p q cut lots)).map (pe p)) := by
  obtain ⟨h1, h2, h3, h4, h5, h6, h7⟩ := ok_of_err h
  unfold nextL
  rw [if_neg (by simpa using h)]
  by_cases hle : (p.length : Int) ≤ q
  · have hg : goOn p q cut lots = p := by unfold goOn; rw [if_pos hle]
    rw [hg]
    have : (List.range p.length).filter (goA p q cut lots) = List.range p.length := List.filter_eq_self.2 fun i _ => by simp [goA, hle]
    rw [this]
    congr 1
    apply List.ext_getElem
    · simp
    · intro i h1 h2
      simp at h1 h2
      have : pe p i = p[i].1 := by unfold pe; rw [getD_lt (by omega)]
      simp [this]
  · rw [← goOn_isort h2 h6 h7 h3 (by omega) h5]
    congr 2
    refine List.filter_congr fun i _ => ?_
    simp [goA, hle]
theorem mem_nextL {p : List Pl} {q cut : Int} {lots : List Int} (h : nextErr p q cut lots = 0) {i : Nat} (hi : i < p.length) : pe p i ∈ nextL p q cut lots ↔ goA p q cut lots i = true := by
  obtain ⟨h1, h2, _⟩ := ok_of_err h
  rw [nextL_go h, (isort_perm _).mem_iff, List.mem_map]
  constructor
  · rintro ⟨j, hj, he⟩
    rw [List.mem_filter, List.mem_range] at hj
    rw [pe_inj h2 hj.1 hi he] at hj
    exact hj.2
  · intro hg
    exact ⟨i, List.mem_filter.2 ⟨List.mem_range.2 hi, hg⟩, rfl⟩
theorem of_mem_nextL {p : List Pl} {q cut : Int} {lots : List Int} (h : nextErr p q cut lots = 0) {n : Int} (hn : n ∈ nextL p q cut lots) : ∃ i, i < p.length ∧ pe p i = n ∧ goA p q cut lots i = true := by
  rw [nextL_go h, (isort_perm _).mem_iff, List.mem_map] at hn
  obtain ⟨i, hi, rfl⟩ := hn
  rw [List.mem_filter, List.mem_range] at hi
  exact ⟨i, hi.1, rfl, hi.2⟩
theorem nextL_len {p : List Pl} {q cut : Int} {lots : List Int} (h : nextErr p q cut lots = 0) : (nextL p q cut lots).length = ((List.range p.length).filter (goA p q cut lots)).length := by
  rw [nextL_go h, isort_length, List.length_map]
theorem nextL_strict {p : List Pl} {q cut : Int} {lots : List Int} (h : nextErr p q cut lots = 0) : (nextL p q cut lots).Pairwise (fun a b => a < b) := by
  obtain ⟨h1, h2, _⟩ := ok_of_err h
  rw [nextL_go h]
  have hn : (isort (((List.range p.length).filter (goA p q cut lots)).map (pe p))).Nodup := by
    rw [(isort_perm _).nodup_iff, List.nodup_iff_pairwise_ne, List.pairwise_map]
    refine List.Pairwise.imp_of_mem ?_ (List.nodup_iff_pairwise_ne.1 (range_filter_nodup p.length (goA p q cut lots)))
    intro a b ha hb hne he
    rw [List.mem_filter, List.mem_range] at ha hb
    exact hne (pe_inj h2 ha.1 hb.1 he)
  exact ((isort_sorted _).and (List.nodup_iff_pairwise_ne.1 hn)).imp (by rintro a b ⟨h1, h2⟩; omega)
theorem nextL_asc {p : List Pl} {q cut : Int} {lots : List Int} (h : nextErr p q cut lots = 0) {i : Nat} (h0 : 0 < i) (hi : i < (nextL p q cut lots).length) : (nextL p q cut lots)[i - 1]?.getD 0 < (nextL p q cut lots)[i]?.getD 0 := by
  rw [getD_lt hi, getD_lt (show i - 1 < (nextL p q cut lots).length by omega)]
  exact List.pairwise_iff_getElem.1 (nextL_strict h) (i - 1) i (by omega) hi (by omega)

/-- Who has a lesser rank than one who goes on goes on. -/
theorem go_fair {p : List Pl} {q cut : Int} {lots : List Int} {i k : Nat} (hk : goA p q cut lots k = true) (hi : goA p q cut lots i = false) : ¬ pr p i < pr p k ∧ (pr p i = pr p k → cut = 3) := by
  have hi' : ¬ goA p q cut lots i = true := by rw [hi]; decide
  rw [goA_iff] at hk hi'
  simp only [not_or, not_and] at hi'
  obtain ⟨i1, i2, i3⟩ := hi'
  rcases hk with hk | hk | ⟨hk, hc⟩
  · exact absurd hk i1
  · exact ⟨by omega, fun he => by omega⟩
  · refine ⟨by omega, fun he => ?_⟩
    have := i3 (by omega)
    rcases hc with hc | hc
    · exact absurd hc (by simpa using this.1)
    · exact hc.1

/-- UnderC, LotC, OverC. -/
theorem go_under {p : List Pl} {q : Int} {lots : List Int} {i : Nat} (h : goA p q 2 lots i = true) : goA p q 3 lots i = true := by
  rw [goA_iff] at h ⊢
  rcases h with h | h | ⟨h, hc⟩
  · exact .inl h
  · exact .inr (.inl h)
  · refine .inr (.inr ⟨h, ?_⟩)
    rcases hc with (hc | hc) | hc
    · exact .inl (.inl hc)
    · cases hc
    · exact absurd hc.1 (by decide)
theorem go_lot {p : List Pl} {q : Int} {lots : List Int} {i : Nat} (h : goA p q 3 lots i = true) : goA p q 1 lots i = true := by
  rw [goA_iff] at h ⊢
  rcases h with h | h | ⟨h, hc⟩
  · exact .inl h
  · exact .inr (.inl h)
  · exact .inr (.inr ⟨h, .inl (.inr rfl)⟩)
theorem count_ge {p : List Pl} (h : OkAll p) {r : Int} {f : Nat} (hr : pr p f = r) {q : Nat} (hfq : f < q) (hq : q ≤ p.length) (hrq : pr p (q - 1) = r) (hno : ∀ j, j < f → pr p j ≠ r) : q ≤ f + (atIdx p r).length := by
  have hlen : (atIdx p r).length = ((List.range p.length).filter fun i => decide (pr p i = r)).length := by simp [atIdx]
  rw [hlen]
  have hperm : ((List.range p.length).filter fun i => decide (pr p i = r) && decide (i < q)).Perm (List.range' f (q - f)) := by
    refine (List.perm_ext_iff_of_nodup (range_filter_nodup _ _) List.nodup_range').2 fun i => ?_
    simp only [List.mem_filter, List.mem_range, List.mem_range'_1, decide_eq_true_eq, Bool.and_eq_true]
    constructor
    · rintro ⟨h1, h2, h3⟩
      refine ⟨?_, by omega⟩
      apply Nat.not_lt.1; intro hlt; exact hno i hlt h2
    · rintro ⟨h1, h2⟩
      have m1 := rank_mono h (i := f) i h1 (by omega)
      have m2 := rank_mono h (i := i) (q - 1) (by omega) (by omega)
      exact ⟨by omega, by omega, by omega⟩
  have h1 := hperm.length_eq
  rw [List.length_range'] at h1
  have := filter_le (fun i => decide (pr p i = r)) (fun i => decide (pr p i = r) && decide (i < q)) (fun x hx => by simp at hx ⊢; exact hx.1) (List.range p.length)
  omega
theorem lot_len {p : List Pl} {q : Int} {lots : List Int} (h : nextErr p q 3 lots = 0) : ((nextL p q 3 lots).length : Int) = if q < p.length then q else p.length := by
  obtain ⟨h1, h2, h3, h4, h5, h6, h7⟩ := ok_of_err h
  unfold nextL
  rw [if_neg (by simpa using h), isort_length, List.length_map]
  unfold goOn
  by_cases hle : (p.length : Int) ≤ q
  · rw [if_pos hle, if_neg (by omega)]
  · rw [if_neg hle, if_pos (by omega)]
    obtain ⟨f, hf, hfq, hfr, hfn⟩ := firstOf_spec (p := p) (r := rankQ p q) (k := (q - 1).toNat) (by omega) rfl
    have hge := count_ge h2 hfr (q := q.toNat) (by omega) (by omega) (by unfold rankQ; congr 1; omega) hfn
    have hsl : (sortBy lots (atIdx p (rankQ p q))).length = (atIdx p (rankQ p q)).length := (sortBy_perm lots _).length_eq
    rw [List.length_append, List.length_map, hf, List.length_take]
    unfold tiedL roomL
    simp only []
    rw [hf, hsl]
    split
    · rw [if_neg (by decide), if_neg (by decide), List.length_take, hsl]
      omega
    · rw [hsl]
      omega

/-- With OverC and UnderC lots do not matter. -/
theorem go_lots {p : List Pl} {q cut : Int} {lots others : List Int} (hc : cut ≠ 3) (i : Nat) : goA p q cut lots i = goA p q cut others i := by
  rw [Bool.eq_iff_iff, goA_iff, goA_iff]
  simp only [hc, false_and, or_false]
theorem next_lots {p : List Pl} {q cut : Int} {lots others : List Int} (hc : cut ≠ 3) (h : nextErr p q cut lots = 0) (h' : nextErr p q cut others = 0) : nextL p q cut lots = nextL p q cut others := by
  rw [nextL_go h, nextL_go h']
  congr 2
  exact List.filter_congr fun i _ => go_lots hc i

/-- The places of lots in their order. -/
def lessN (l : List Int) (n : Int) (k : Nat) : Nat := ((l.take k).filter fun m => decide (m < n)).length
def orderTo (l : List Int) (i : Nat) : List Int := (l.take i).map fun n => ((lessN l n l.length : Nat) : Int)
theorem lessN_mono (l : List Int) {a b : Int} (h : a ≤ b) : lessN l a l.length ≤ lessN l b l.length := filter_le _ _ (fun x hx => by simp at hx ⊢; omega) _
theorem lessN_lt (l : List Int) {a b : Int} (ha : a ∈ l) (h : a < b) : lessN l a l.length < lessN l b l.length := by
  unfold lessN
  rw [List.take_length]
  exact filter_lt _ _ (fun x hx => by simp at hx ⊢; omega) a (by simpa using h) (by simp) l ha
theorem order_len (l : List Int) : (orderTo l l.length).length = l.length := by simp [orderTo]
theorem order_get (l : List Int) {i : Nat} (hi : i < l.length) : (orderTo l l.length)[i]?.getD 0 = lessN l l[i] l.length := by
  rw [getD_lt (by simpa [orderTo] using hi)]
  simp [orderTo]
theorem order_iff (l : List Int) {i j : Nat} (hi : i < l.length) (hj : j < l.length) : (orderTo l l.length)[i]?.getD 0 < (orderTo l l.length)[j]?.getD 0 ↔ l[i]?.getD 0 < l[j]?.getD 0 := by
  rw [order_get l hi, order_get l hj, getD_lt hi, getD_lt hj]
  constructor
  · intro h
    apply Int.not_le.1; intro hle
    have := lessN_mono l hle
    omega
  · intro h
    have := lessN_lt l (List.getElem_mem hi) h
    omega
theorem order_nodup {l : List Int} (h : l.Nodup) : (orderTo l l.length).Nodup := by
  rw [nodup_take] at h ⊢
  rw [order_len]
  intro i hi k hk he
  have hne := h i hi k hk
  have h1 := order_iff l hi (show k < l.length by omega)
  have h2 := order_iff l (show k < l.length by omega) hi
  rw [he] at h1 h2
  have : ¬ (l[i]?.getD 0 < l[k]?.getD 0) := fun q => by have := h1.2 q; omega
  have : ¬ (l[k]?.getD 0 < l[i]?.getD 0) := fun q => by have := h2.2 q; omega
  omega
theorem lesN_order {p : List Pl} {lots : List Int} (hl : p.length = lots.length) (r : Int) {i : Nat} (hi : i < p.length) : lesN p (orderTo lots lots.length) r i p.length = lesN p lots r i p.length := by
  unfold lesN
  congr 1
  refine List.filter_congr fun j hj => ?_
  have hj' := List.mem_range.1 hj
  have := order_iff lots (i := j) (j := i) (by omega) (by omega)
  simp only [decide_eq_decide.2 this]
theorem next_order {p : List Pl} {q : Int} {lots : List Int} (h : nextErr p q 3 lots = 0) : nextErr p q 3 (orderTo lots lots.length) = 0 ∧ nextL p q 3 (orderTo lots lots.length) = nextL p q 3 lots := by
  obtain ⟨h1, h2, h3, h4, h5, h6, h7⟩ := ok_of_err h
  have h' : nextErr p q 3 (orderTo lots lots.length) = 0 := err_mk h1 h2 h3 h4 h5 (by rw [order_len]; exact h6) (order_nodup h7)
  refine ⟨h', ?_⟩
  rw [nextL_go h, nextL_go h']
  congr 2
  refine List.filter_congr fun i hi => ?_
  have hi' := List.mem_range.1 hi
  rw [Bool.eq_iff_iff, goA_iff, goA_iff, lesN_order h6 _ hi']
/-- A lesser lot. -/
theorem go_lesser {p : List Pl} {q cut : Int} {lots : List Int} {i k : Nat} (hr : pr p i = pr p k) (hl : lots[i]?.getD 0 < lots[k]?.getD 0) (hk : goA p q cut lots k = true) : goA p q cut lots i = true := by
  rw [goA_iff] at hk ⊢
  have hle : lesN p lots (rankQ p q) i p.length ≤ lesN p lots (rankQ p q) k p.length := filter_le _ _ (fun x hx => by simp at hx ⊢; exact ⟨hx.1, by omega⟩) _
  rcases hk with hk | hk | ⟨hk, hc⟩
  · exact .inl hk
  · exact .inr (.inl (by omega))
  · refine .inr (.inr ⟨by omega, ?_⟩)
    rcases hc with hc | hc
    · exact .inl hc
    · exact .inr ⟨hc.1, by omega⟩

/-- A greater quota. -/
theorem go_more {p : List Pl} (hok : OkAll p) {q q' cut : Int} {lots : List Int} (h1 : 1 ≤ q) (hq : q ≤ q') {i : Nat} (hi : i < p.length) (h : goA p q cut lots i = true) : goA p q' cut lots i = true := by
  rw [goA_iff] at h ⊢
  by_cases hle : (p.length : Int) ≤ q'
  · exact .inl hle
  · have hm : rankQ p q ≤ rankQ p q' := rank_mono hok (q' - 1).toNat (by omega) (by omega)
    rcases h with h | h | ⟨h, hc⟩
    · omega
    · exact .inr (.inl (by omega))
    · rcases Int.lt_or_eq_of_le hm with hlt | heq
      · exact .inr (.inl (by omega))
      · refine .inr (.inr ⟨by omega, ?_⟩)
        rw [← heq]
        rcases hc with (hc | hc) | hc
        · rcases Int.lt_or_eq_of_le hq with hlt | rfl
          · exfalso
            apply hc
            have m1 := rank_mono hok (i := (q - 1).toNat) q.toNat (by omega) (by omega)
            have m2 := rank_mono hok (i := q.toNat) (q' - 1).toNat (by omega) (by omega)
            unfold rankQ at heq ⊢
            omega
          · exact .inl (.inl hc)
        · exact .inl (.inr hc)
        · exact .inr ⟨hc.1, by omega⟩
end Go.Am
