/- The program of chapter 22: plain laws for PlacesOne. -/
import Derived.Test.YteglanpnmnkkbaaPl12
namespace Go.Am
set_option linter.unusedVariables false
set_option linter.unusedSimpArgs false
set_option maxHeartbeats 4000000
set_option maxRecDepth 20000
open Go.RowKit Go.Proofs

theorem above_neg (x : Int) (r : List Int) : above (-x) (r.map fun y => -y) = below x r := by
  unfold above below
  rw [List.filter_map, List.length_map]
  congr 1
  refine List.filter_congr fun y _ => ?_
  simp only [Function.comp_apply, decide_eq_decide]
  omega
theorem ordTot_neg (r : List Int) : ordTot (r.map fun y => -y) = ordRow r := by
  unfold ordTot ordRow
  rw [List.map_map]
  refine List.map_congr_left fun n _ => ?_
  simp only [Function.comp_apply, above_neg]
theorem above_dbl (x : Int) (r : List Int) : above (2 * x + 1) (r.map fun y => 2 * y + 1) = above x r := by
  unfold above
  rw [List.filter_map, List.length_map]
  congr 1
  refine List.filter_congr fun y _ => ?_
  simp only [Function.comp_apply, decide_eq_decide]
  omega
theorem ordTot_dbl (r : List Int) : ordTot (r.map fun y => 2 * y + 1) = ordTot r := by
  unfold ordTot
  rw [List.map_map]
  refine List.map_congr_left fun n _ => ?_
  simp only [Function.comp_apply, above_dbl]
theorem range_get (r : List Int) : (List.range r.length).map (fun k => r[k]?.getD 0) = r := by
  apply List.ext_getElem
  · simp
  · intro i h1 h2
    rw [List.getElem_map, List.getElem_range, getD_lt h2]
theorem filter_range (r : List Int) (q : Int → Bool) : ((List.range r.length).filter fun k => q (r[k]?.getD 0)).length = (r.filter q).length := by
  conv => rhs; rw [← range_get r, List.filter_map, List.length_map]
  rfl
theorem dec_one {r : List Int} {k i : Nat} (hk : k < r.length) (hi : i < r.length) : dec (standL ([r].map ordTot) (k : Int)) (standL ([r].map ordTot) (i : Int)) < 0 ↔ r[i]?.getD 0 < r[k]?.getD 0 := by
  have hl : ∀ row ∈ [r], row.length = r.length := fun row h => by rw [List.mem_singleton.1 h]
  have hup : ∀ a b : Nat, a < r.length → b < r.length → r[b]?.getD 0 < r[a]?.getD 0 → dec (standL ([r].map ordTot) (a : Int)) (standL ([r].map ordTot) (b : Int)) < 0 := fun a b ha hb h =>
    dec_above (by simp) hl ha hb (abv_iff.2 fun row hr => by rw [List.mem_singleton.1 hr]; exact h)
  constructor
  · intro h
    apply Int.not_le.1
    intro hle
    rcases Int.lt_or_eq_of_le hle with hlt | heq
    · have h1 := hup i k hi hk hlt
      have h2 := dec_anti (standL ([r].map ordTot) (k : Int)) (standL ([r].map ordTot) (i : Int))
      omega
    · have hs : standL ([r].map ordTot) (k : Int) = standL ([r].map ordTot) (i : Int) := by
        rw [standL_map (by simp) hl, standL_map (by simp) hl]
        simp only [List.map_cons, List.map_nil, ord_at hk, ord_at hi, heq]
      rw [hs, dec_self] at h
      omega
  · exact hup k i hk hi
theorem maj_one {r : List Int} (hp : 0 < r.length) (hle : r.length ≤ 10) : checkErr [ordTot r] = 0 ∧ majL [ordTot r] = ordTot r := by
  have hu : useOk [r] := ⟨⟨⟨by simp, by simp⟩, fun row h => by rw [List.mem_singleton.1 h]; exact hle⟩, by simp, by simp, by simpa using List.length_pos_iff.1 hp, fun row h => by rw [List.mem_singleton.1 h]; rfl⟩
  have hO : OrdT ([r].map ordTot) r.length := OrdT.of hu
  obtain ⟨h1, h2⟩ := hO.maj
  refine ⟨hO.err, ?_⟩
  refine List.ext_getElem (by rw [ordTot_len]; exact h1) fun i hi1 hi2 => ?_
  have hi : i < r.length := by rw [ordTot_len] at hi2; exact hi2
  have h3 : (majL [ordTot r])[i]?.getD 0 = (decN (allTo ([r].map ordTot) r.length) (standL ([r].map ordTot) (i : Int)) : Int) + 1 := h2 i hi
  have h4 := ord_at hi
  rw [getD_lt hi1] at h3
  rw [getD_lt hi2] at h4
  rw [h3, h4]
  congr 2
  unfold decN allTo
  rw [List.filter_map, List.length_map]
  unfold above
  rw [← filter_range r fun x => decide (r[i]?.getD 0 < x)]
  congr 1
  refine List.filter_congr fun k hk => ?_
  simp only [Function.comp_apply, decide_eq_decide]
  exact dec_one (List.mem_range.1 hk) hi
/-- What is filled in before k. -/
def fl (n k : Nat) (g : Nat → Int) : List Int := (List.range n).map fun j => if j < k then g j else 0
theorem fl_len (n k : Nat) (g : Nat → Int) : (fl n k g).length = n := by simp [fl]
theorem fl_at (n k : Nat) (g : Nat → Int) {i : Nat} (h : i < (fl n k g).length) : (fl n k g)[i] = if i < k then g i else 0 := by
  simp [fl]
theorem fl_zero (n : Nat) (g : Nat → Int) : fl n 0 g = List.replicate n 0 := by
  unfold fl
  apply List.ext_getElem
  · simp
  · intro i h1 h2; simp
theorem fl_set (n k : Nat) (g : Nat → Int) (hk : k < n) : (fl n k g).take k ++ g k :: (fl n k g).drop (k + 1) = fl n (k + 1) g := by
  have h0 : (fl n k g).take k ++ g k :: (fl n k g).drop (k + 1) = (fl n k g).set k (g k) := by
    rw [List.set_eq_take_append_cons_drop, if_pos (by rw [fl_len]; exact hk)]
  rw [h0]
  apply List.ext_getElem
  · simp [fl_len]
  · intro i h1 h2
    rw [List.getElem_set, fl_at, fl_at]
    by_cases e : k = i
    · subst e; rw [if_pos rfl, if_pos (by omega)]
    · rw [if_neg e]
      by_cases h : i < k
      · rw [if_pos h, if_pos (by omega)]
      · rw [if_neg h, if_neg (by omega)]
theorem fl_all (r : List Int) (h : Int → Int) : fl r.length r.length (fun j => h (r[j]?.getD 0)) = r.map h := by
  unfold fl
  conv => rhs; rw [← range_get r, List.map_map]
  refine List.map_congr_left fun k hk => ?_
  rw [if_pos (List.mem_range.1 hk)]; rfl
theorem flats_tI (xs : List Int) : (Ty.int .i64).flats xs = xs.map (SV.int .i64) := by
  induction xs with
  | nil => rfl
  | cons x xs ih => show SV.int .i64 x :: (Ty.int .i64).flats xs = _; rw [ih]; rfl
theorem fls_set (n k : Nat) (g : Nat → Int) (hk : k < n) {x : Int} (hx : x = g k) : List.take k ((Ty.int .i64).flats (fl n k g)) ++ SV.int .i64 x :: List.drop (k + 1) ((Ty.int .i64).flats (fl n k g)) = (Ty.int .i64).flats (fl n (k + 1) g) := by
  subst hx
  rw [flats_tI, flats_tI, ← List.map_take, ← List.map_drop, ← fl_set n k g hk, List.map_append, List.map_cons]
theorem fl_all' {r : List Int} {n : Nat} (h : r.length = n) (f : Int → Int) : fl n n (fun j => f (r[j]?.getD 0)) = r.map f := by
  subst h; exact fl_all r f
def R61 (x : Int) : Prop := -2305843009213693952 ≤ x ∧ x ≤ 2305843009213693952
theorem tab_map {t : List (List Int)} (h : useOk t) (f : List Int → List Int) (hf : ∀ r ∈ t, (f r).length = r.length) : tableErr (t.map f) = 0 := by
  obtain ⟨h1, h2, h3, h4, h5⟩ := h
  have h0 := List.length_pos_iff.2 h2
  have hz : ((t.map f)[0]?.getD []).length = (t[0]?.getD []).length := by
    rw [List.getElem?_map, List.getElem?_eq_getElem h0]
    exact hf _ (List.getElem_mem h0)
  refine tableErr_0 ?_ ?_
  · rintro (h | ⟨row, hr, hl⟩)
    · rw [List.length_map] at h; omega
    · obtain ⟨r, hr2, rfl⟩ := List.mem_map.1 hr
      rw [hf r hr2] at hl
      have := h1.2 r hr2; omega
  · rintro ⟨row, hr, hne⟩
    obtain ⟨r, hr2, rfl⟩ := List.mem_map.1 hr
    apply hne
    rw [hf r hr2, h5 r hr2, hz]
theorem one_minus {t : List (List Int)} (h : useOk t) : tableErr ((t.map ordTot).map fun r => r.map fun x => -x) = 0 ∧ ordL ((t.map ordTot).map fun r => r.map fun x => -x) = t.map ordTot := by
  rw [List.map_map]
  have h1 := tab_map h (((fun r : List Int => r.map fun x => -x)) ∘ ordTot) (fun r _ => by simp [ordTot_len])
  refine ⟨h1, ?_⟩
  rw [ordL, if_pos h1, List.map_map]
  refine List.map_congr_left fun r _ => ?_
  simp only [Function.comp_apply]
  rw [ordTot_neg, ← ordRow_ordTot]
theorem one_twice {t : List (List Int)} (h : useOk t) : tableErr (t.map fun r => r.map fun x => 2 * x + 1) = 0 ∧ ordL (t.map fun r => r.map fun x => 2 * x + 1) = t.map ordTot := by
  have h1 := tab_map h (fun r : List Int => r.map fun x => 2 * x + 1) (fun r _ => by simp)
  refine ⟨h1, ?_⟩
  rw [ordL, if_pos h1, List.map_map]
  refine List.map_congr_left fun r _ => ?_
  simp only [Function.comp_apply]
  rw [ordTot_dbl]
theorem ordTot_rng {r : List Int} (hr : r.length ≤ 10) {n : Int} (hn : n ∈ ordTot r) : 1 ≤ n ∧ n ≤ 11 := by
  unfold ordTot at hn
  obtain ⟨x, hx, rfl⟩ := List.mem_map.1 hn
  have := above_len x r
  omega
end Go.Am
