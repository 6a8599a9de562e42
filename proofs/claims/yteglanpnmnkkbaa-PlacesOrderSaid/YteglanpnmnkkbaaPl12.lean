/- The program of chapter 22: plain laws for PlacesDecide. -/
import Derived.Test.YteglanpnmnkkbaaPl10
namespace Go.Am
set_option linter.unusedVariables false
set_option linter.unusedSimpArgs false
set_option maxHeartbeats 4000000
set_option maxRecDepth 20000
open Go.RowKit Go.Proofs

def aloneTo (row : List Int) (a j : Nat) : Bool := (List.range j).all fun b => decide (b = a ∨ row[b]?.getD 0 < row[a]?.getD 0)
theorem aloneTo_zero (row : List Int) (a : Nat) : aloneTo row a 0 = true := rfl
theorem aloneTo_succ (row : List Int) (a j : Nat) : aloneTo row a (j + 1) = (aloneTo row a j && decide (j = a ∨ row[j]?.getD 0 < row[a]?.getD 0)) := by
  simp [aloneTo, List.range_succ, List.all_append]
theorem aloneTo_iff {row : List Int} {a j : Nat} : aloneTo row a j = true ↔ ∀ b, b < j → b = a ∨ row[b]?.getD 0 < row[a]?.getD 0 := by
  simp [aloneTo, List.all_eq_true]
def bestTo (t : List (List Int)) (a i : Nat) : Nat := ((t.take i).filter fun row => aloneTo row a row.length).length
theorem bestTo_succ (t : List (List Int)) (a : Nat) {i : Nat} (hi : i < t.length) : bestTo t a (i + 1) = bestTo t a i + if aloneTo (t[i]?.getD []) a (t[i]?.getD []).length = true then 1 else 0 := by
  unfold bestTo
  rw [take_succ_get t hi [], List.filter_append, List.length_append]
  congr 1
  by_cases h : aloneTo (t[i]?.getD []) a (t[i]?.getD []).length = true
  · rw [if_pos h, List.filter_cons_of_pos (p := fun row => aloneTo row a row.length) h]; rfl
  · rw [if_neg h, List.filter_cons_of_neg (p := fun row => aloneTo row a row.length) h]; rfl
theorem bestTo_le (t : List (List Int)) (a i : Nat) : bestTo t a i ≤ i := by
  unfold bestTo
  have h1 := List.length_filter_le (fun row => aloneTo row a row.length) (t.take i)
  rw [List.length_take] at h1
  omega
def abv (t : List (List Int)) (a b i : Nat) : Bool := (t.take i).all fun row => decide (row[b]?.getD 0 < row[a]?.getD 0)
theorem abv_zero (t : List (List Int)) (a b : Nat) : abv t a b 0 = true := rfl
theorem abv_succ (t : List (List Int)) (a b : Nat) {i : Nat} (hi : i < t.length) : abv t a b (i + 1) = (abv t a b i && decide ((t[i]?.getD [])[b]?.getD 0 < (t[i]?.getD [])[a]?.getD 0)) := by
  unfold abv
  rw [take_succ_get t hi [], List.all_append]
  simp
theorem abv_iff {t : List (List Int)} {a b : Nat} : abv t a b t.length = true ↔ ∀ row ∈ t, row[b]?.getD 0 < row[a]?.getD 0 := by
  unfold abv
  rw [List.take_length]
  simp [List.all_eq_true]

theorem col_map (t : List (List Int)) (e : Nat) : col (t.map ordTot) (e : Int) = t.map fun row => (ordTot row)[e]?.getD 0 := by
  unfold col
  rw [List.map_map]
  rfl
theorem ord_at {row : List Int} {e : Nat} (h : e < row.length) : (ordTot row)[e]?.getD 0 = (above (row[e]?.getD 0) row : Int) + 1 := by
  unfold ordTot
  rw [List.getElem?_map, List.getElem?_eq_getElem h]; rfl
theorem map_filter_len (f : List Int → Int) (p : Int) (t : List (List Int)) : ((t.map f).filter fun x => decide (x ≤ p)).length = (t.filter fun r => decide (f r ≤ p)).length := by
  rw [List.filter_map, List.length_map]; rfl
theorem filter_co {α : Type} (q : α → Bool) : ∀ l : List α, (l.filter q).length + (l.filter fun x => !q x).length = l.length
  | [] => rfl
  | x :: l => by
    have := filter_co q l
    cases h : q x
    · rw [List.filter_cons_of_neg (by simp [h]), List.filter_cons_of_pos (by simp [h]), List.length_cons, List.length_cons]; omega
    · rw [List.filter_cons_of_pos (by simp [h]), List.filter_cons_of_neg (by simp [h]), List.length_cons, List.length_cons]; omega
theorem alone_0 {row : List Int} {a : Nat} (ha : a < row.length) (h : aloneTo row a row.length = true) : (ordTot row)[a]?.getD 0 ≤ 1 := by
  rw [ord_at ha]
  have h0 : above (row[a]?.getD 0) row = 0 := by
    unfold above
    rw [List.length_eq_zero_iff, List.filter_eq_nil_iff]
    intro x hx
    obtain ⟨j, hj, rfl⟩ := List.getElem_of_mem hx
    rcases aloneTo_iff.1 h j hj with rfl | hlt
    · rw [getD_lt hj]; simp
    · rw [getD_lt hj] at hlt; simp; omega
  rw [h0]; decide
theorem alone_2 {row : List Int} {a b : Nat} (ha : a < row.length) (hb : b < row.length) (hne : b ≠ a) (h : aloneTo row a row.length = true) : ¬ (ordTot row)[b]?.getD 0 ≤ 1 := by
  rw [ord_at hb]
  have h0 : 0 < above (row[b]?.getD 0) row := by
    unfold above
    refine List.length_pos_of_mem (List.mem_filter.2 ⟨get_mem 0 ha, ?_⟩)
    rcases aloneTo_iff.1 h b hb with rfl | hlt
    · exact absurd rfl hne
    · simpa using hlt
  omega
theorem standL_map {t : List (List Int)} {n : Nat} (ht : 0 < t.length) (hl : ∀ row ∈ t, row.length = n) (e : Nat) : standL (t.map ordTot) (e : Int) = (List.range n).map fun p : Nat => stP (t.map fun row => (ordTot row)[e]?.getD 0) ((p : Int) + 1) := by
  unfold standL
  have h0 : ((t.map ordTot)[0]?.getD []).length = n := by
    rw [List.getElem?_map, List.getElem?_eq_getElem ht]
    simp [ordTot_len, hl]
  rw [h0, col_map]
theorem dec_alone {t : List (List Int)} {n a b : Nat} (ht : 0 < t.length) (hl : ∀ row ∈ t, row.length = n) (ha : a < n) (hb : b < n) (hne : b ≠ a) (hbest : t.length < 2 * bestTo t a t.length) : dec (standL (t.map ordTot) (a : Int)) (standL (t.map ordTot) (b : Int)) < 0 := by
  rw [standL_map ht hl, standL_map ht hl]
  obtain ⟨m, rfl⟩ : ∃ m, n = m + 1 := ⟨n - 1, by omega⟩
  rw [List.range_succ_eq_map, List.map_cons, List.map_cons, dec_neg_cons]
  left
  unfold bestTo at hbest
  rw [List.take_length] at hbest
  have e1 := filter_le_mem (fun r => decide ((ordTot r)[a]?.getD 0 ≤ 1)) (fun row => aloneTo row a row.length) t (fun r hr hq => by simpa using alone_0 (by rw [hl r hr]; exact ha) hq)
  have e2 := filter_le_mem (fun row => !aloneTo row a row.length) (fun r => decide ((ordTot r)[b]?.getD 0 ≤ 1)) t (fun r hr hq => by
    cases hal : aloneTo r a r.length
    · rfl
    · exact absurd (by simpa using hq) (alone_2 (by rw [hl r hr]; exact ha) (by rw [hl r hr]; exact hb) hne hal))
  have e3 := filter_co (fun row => aloneTo row a row.length) t
  unfold stP
  rw [map_filter_len, map_filter_len, List.length_map, List.length_map]
  simp only [show ((0 : Nat) : Int) + 1 = 1 from rfl]
  rw [if_pos (by omega), if_neg (by omega)]
  show (0 : Int) < _
  omega
def bet (x y : Sd) : Prop := y.1 < x.1 ∨ (x.1 = y.1 ∧ x.2.1 < y.2.1)
theorem dec_lex (f g : Nat → Sd) : ∀ L : List Nat, (∀ p ∈ L, f p = g p ∨ bet (f p) (g p)) → (∃ p ∈ L, bet (f p) (g p)) → dec (L.map f) (L.map g) < 0
  | [], _, h => by obtain ⟨p, hp, _⟩ := h; cases hp
  | q :: L, h, h' => by
    rw [List.map_cons, List.map_cons, dec_neg_cons]
    rcases Classical.em (bet (f q) (g q)) with hb | hb
    · rcases hb with hb | ⟨h1, h2⟩
      · exact .inl hb
      · exact .inr ⟨h1, .inl h2⟩
    · rcases h q (List.mem_cons_self ..) with he | he
      · refine .inr ⟨by rw [he], .inr ⟨by rw [he], dec_lex f g L (fun p hp => h p (List.mem_cons_of_mem _ hp)) ?_⟩⟩
        obtain ⟨p, hp, hq⟩ := h'
        rcases List.mem_cons.1 hp with rfl | hp
        · exact absurd hq hb
        · exact ⟨p, hp, hq⟩
      · exact absurd he hb
theorem sum_cmp (f g : List Int → Int) (p : Int) : ∀ t : List (List Int), (∀ r ∈ t, f r < g r) →
    (((t.map g).filter fun x => decide (x ≤ p)).length ≤ ((t.map f).filter fun x => decide (x ≤ p)).length) ∧
    (((t.map g).filter fun x => decide (x ≤ p)).length = ((t.map f).filter fun x => decide (x ≤ p)).length → ((t.map f).filter fun x => decide (x ≤ p)).sum + (((t.map f).filter fun x => decide (x ≤ p)).length : Int) ≤ ((t.map g).filter fun x => decide (x ≤ p)).sum)
  | [], _ => ⟨Nat.le_refl _, fun _ => by simp⟩
  | r :: t, h => by
    obtain ⟨h1, h2⟩ := sum_cmp f g p t fun x hx => h x (List.mem_cons_of_mem _ hx)
    have hr := h r (List.mem_cons_self ..)
    rw [List.map_cons, List.map_cons]
    by_cases hg : g r ≤ p
    · rw [List.filter_cons_of_pos (by simpa using hg), List.filter_cons_of_pos (by simp; omega), List.length_cons, List.length_cons, List.sum_cons, List.sum_cons]
      refine ⟨by omega, fun he => ?_⟩
      have := h2 (by omega)
      omega
    · rw [List.filter_cons_of_neg (by simpa using hg)]
      by_cases hf : f r ≤ p
      · rw [List.filter_cons_of_pos (by simpa using hf), List.length_cons]
        exact ⟨by omega, fun he => by omega⟩
      · rw [List.filter_cons_of_neg (by simpa using hf)]
        exact ⟨h1, h2⟩
theorem stP_cmp (f g : List Int → Int) (p : Int) {t : List (List Int)} (h : ∀ r ∈ t, f r < g r) :
    (stP (t.map f) p = stP (t.map g) p ∨ bet (stP (t.map f) p) (stP (t.map g) p)) ∧ (t.length < 2 * ((t.map f).filter fun x => decide (x ≤ p)).length → bet (stP (t.map f) p) (stP (t.map g) p)) := by
  obtain ⟨h1, h2⟩ := sum_cmp f g p t h
  unfold stP
  rw [List.length_map, List.length_map]
  generalize ((t.map f).filter fun x => decide (x ≤ p)).length = N at *
  generalize ((t.map g).filter fun x => decide (x ≤ p)).length = N' at *
  generalize ((t.map f).filter fun x => decide (x ≤ p)).sum = S at *
  generalize ((t.map g).filter fun x => decide (x ≤ p)).sum = S' at *
  by_cases hN : 2 * N ≤ t.length
  · rw [if_pos hN, if_pos (by omega)]
    exact ⟨.inl rfl, fun q => by omega⟩
  · rw [if_neg hN]
    have hb : bet ((N : Int), S, ()) (if 2 * N' ≤ t.length then (0, 0, ()) else ((N' : Int), S', ())) := by
      by_cases hN' : 2 * N' ≤ t.length
      · rw [if_pos hN']
        left
        show (0 : Int) < N
        omega
      · rw [if_neg hN']
        rcases Nat.lt_or_ge N' N with hlt | hge
        · left
          show (N' : Int) < N
          omega
        · have := h2 (by omega)
          right
          show (N : Int) = N' ∧ S < S'
          omega
    exact ⟨.inr hb, fun _ => hb⟩
theorem above_len (x : Int) (row : List Int) : above x row ≤ row.length := List.length_filter_le _ _
theorem dec_above {t : List (List Int)} {n a b : Nat} (ht : 0 < t.length) (hl : ∀ row ∈ t, row.length = n) (ha : a < n) (hb : b < n) (hab : abv t a b t.length = true) : dec (standL (t.map ordTot) (a : Int)) (standL (t.map ordTot) (b : Int)) < 0 := by
  rw [standL_map ht hl, standL_map ht hl]
  have hlt : ∀ r ∈ t, (ordTot r)[a]?.getD 0 < (ordTot r)[b]?.getD 0 := fun r hr => by
    have hla : a < r.length := by rw [hl r hr]; exact ha
    have hlb : b < r.length := by rw [hl r hr]; exact hb
    rw [ord_at hla, ord_at hlb]
    have := (above_iff (get_mem 0 hla) (get_mem 0 hlb)).2 (abv_iff.1 hab r hr)
    omega
  refine dec_lex _ _ _ (fun p _ => (stP_cmp _ _ _ hlt).1) ⟨n - 1, List.mem_range.2 (by omega), (stP_cmp _ _ _ hlt).2 ?_⟩
  rw [map_filter_len, List.filter_eq_self.2]
  · omega
  · intro r hr
    have hla : a < r.length := by rw [hl r hr]; exact ha
    have hlb : b < r.length := by rw [hl r hr]; exact hb
    have h1 := hlt r hr
    rw [ord_at hla, ord_at hlb] at h1
    have h2 := above_len (r[b]?.getD 0) r
    have h3 := hl r hr
    simp only [decide_eq_true_eq]
    rw [ord_at hla]
    omega
section
variable {t : List (List Int)} {n : Nat}
theorem maj_alone (hu : useOk t) (hO : OrdT (t.map ordTot) n) (hl : ∀ row ∈ t, row.length = n) {a : Nat} (ha : a < n) (hbest : t.length < 2 * bestTo t a t.length) :
    decN (allTo (t.map ordTot) n) (standL (t.map ordTot) (a : Int)) = 0 ∧ ∀ b, b < n → b ≠ a → 0 < decN (allTo (t.map ordTot) n) (standL (t.map ordTot) (b : Int)) := by
  have ht := List.length_pos_iff.2 hu.2.1
  refine ⟨?_, fun b hb hne => ?_⟩
  · unfold decN
    rw [List.length_eq_zero_iff, List.filter_eq_nil_iff]
    intro x hx
    obtain ⟨k, hk, rfl⟩ := all_mem.1 hx
    simp only [decide_eq_true_eq]
    by_cases hka : k = a
    · subst hka; rw [dec_self]; omega
    · have h1 := dec_alone ht hl ha hk hka hbest
      have h2 := hO.anti a k
      omega
  · have := (hO.rank ha hb).1 (dec_alone ht hl ha hb hne hbest)
    omega
theorem maj_above (hu : useOk t) (hO : OrdT (t.map ordTot) n) (hl : ∀ row ∈ t, row.length = n) {a b : Nat} (ha : a < n) (hb : b < n) (hab : abv t a b t.length = true) :
    decN (allTo (t.map ordTot) n) (standL (t.map ordTot) (a : Int)) < decN (allTo (t.map ordTot) n) (standL (t.map ordTot) (b : Int)) :=
  (hO.rank ha hb).1 (dec_above (List.length_pos_iff.2 hu.2.1) hl ha hb hab)
end
end Go.Am
