/- The program of chapter 25: what everybody gets, in plain numbers. -/
import Derived.Test.YthdojmkfpiocmaaPz5
namespace Go.Am
set_option linter.unusedVariables false
set_option linter.unusedSimpArgs false
set_option maxHeartbeats 4000000
set_option maxRecDepth 20000
open Go.RowKit Go.Proofs

def psum (l : List Int) (r : Int) : Nat → Int
  | 0 => 0
  | m + 1 => psum l r m + prize l (r + m)
def cntTo (p : List Pl) (r : Int) : Nat → Nat
  | 0 => 0
  | k + 1 => cntTo p r k + if pr p k = r then 1 else 0
def cnt (p : List Pl) (i : Nat) : Nat := cntTo p (pr p i) p.length
def shareAt (l : List Int) (p : List Pl) (i : Nat) : Int := Int.tdiv (psum l (pr p i) (cnt p i)) (cnt p i)
def sharesTo (l : List Int) (p : List Pl) (i : Nat) : List Int := (List.range i).map (shareAt l p)
noncomputable def shareErr (l : List Int) (p : List Pl) : Int := if right l = true then check p else 250
noncomputable def shareL (l : List Int) (p : List Pl) : List Int := if shareErr l p = 0 then sharesTo l p p.length else []
noncomputable def shareLeft (l : List Int) (p : List Pl) : Int := if shareErr l p = 0 then isum l - isum (sharesTo l p p.length) else 0

theorem check_zero {p : List Pl} (h : check p = 0) : p.length ≤ 4096 ∧ OkAll p := by
  unfold check at h
  split at h
  · omega
  · split at h
    · exact ⟨by omega, by assumption⟩
    · omega
theorem share_err {l : List Int} {p : List Pl} (h : shareErr l p = 0) : right l = true ∧ OkAll p := by
  unfold shareErr at h
  split at h
  · exact ⟨by assumption, (check_zero h).2⟩
  · omega

theorem rank_bounds {p : List Pl} (h : OkAll p) : ∀ i, i < p.length → 1 ≤ pr p i ∧ pr p i ≤ i + 1 := by
  intro i
  induction i with
  | zero =>
    intro hi
    have := (h 0 hi).rank (fun k => by have := k.1; omega)
    omega
  | succ i ih =>
    intro hi
    have hk := h (i + 1) hi
    by_cases hs : sameR p (i + 1)
    · have h1 := hs.2
      simp only [Nat.add_sub_cancel] at h1
      have := ih (by omega)
      omega
    · have := hk.rank hs
      omega
theorem rank_mono {p : List Pl} (h : OkAll p) : ∀ j i, i ≤ j → j < p.length → pr p i ≤ pr p j := by
  intro j
  induction j with
  | zero =>
    intro i hi _
    have : i = 0 := by omega
    subst this
    exact Int.le_refl _
  | succ j ih =>
    intro i hi hj
    rcases Nat.lt_succ_iff_lt_or_eq.1 (Nat.lt_succ_of_le hi) with h' | rfl
    · have h1 := ih i (by omega) (by omega)
      by_cases hs : sameR p (j + 1)
      · have h2 := hs.2
        simp only [Nat.add_sub_cancel] at h2
        omega
      · have h2 := (h (j + 1) hj).rank hs
        have h3 := rank_bounds h j (by omega)
        omega
    · exact Int.le_refl _

theorem right_mem {l : List Int} (h : right l = true) {x : Int} (hx : x ∈ l) : 0 ≤ x ∧ x ≤ 1099511627776 := by
  simp only [right, Bool.and_eq_true] at h
  exact goodFrom_le h.2 x hx
theorem right_len {l : List Int} (h : right l = true) : l.length ≤ 64 := by
  simp only [right, Bool.and_eq_true, decide_eq_true_eq] at h
  exact h.1
theorem prize_bounds {l : List Int} (h : right l = true) {r : Int} (hr : 1 ≤ r) : 0 ≤ prize l r ∧ prize l r ≤ 1099511627776 := by
  unfold prize
  split
  · rw [getD_lt (by omega)]
    exact right_mem h (List.getElem_mem _)
  · omega
theorem psum_bounds {l : List Int} (h : right l = true) {r : Int} (hr : 1 ≤ r) : ∀ m : Nat, 0 ≤ psum l r m ∧ psum l r m ≤ m * 1099511627776
  | 0 => by simp [psum]
  | m + 1 => by
    have h1 := psum_bounds h hr m
    have h2 := prize_bounds h (r := r + m) (by omega)
    simp only [psum]
    constructor
    · omega
    · have : ((m + 1 : Nat) : Int) * 1099511627776 = m * 1099511627776 + 1099511627776 := by omega
      omega
theorem cntTo_pos {p : List Pl} {i : Nat} : ∀ {n : Nat}, i < n → 0 < cntTo p (pr p i) n
  | 0, h => by omega
  | n + 1, h => by
    simp only [cntTo]
    rcases Nat.lt_succ_iff_lt_or_eq.1 h with h' | rfl
    · have := cntTo_pos h' (p := p); omega
    · simp
theorem cntTo_le (p : List Pl) (r : Int) : ∀ n, cntTo p r n ≤ n
  | 0 => by simp [cntTo]
  | n + 1 => by
    have := cntTo_le p r n
    simp only [cntTo]
    split <;> omega
theorem tdiv_bounds {x : Int} {m : Nat} (hm : 0 < m) (h0 : 0 ≤ x) {b : Int} (hb : x ≤ m * b) : 0 ≤ Int.tdiv x m ∧ Int.tdiv x m ≤ b := by
  rw [Int.tdiv_eq_ediv_of_nonneg h0]
  constructor
  · exact Int.ediv_nonneg h0 (by omega)
  · have : x / (m : Int) ≤ (m * b) / (m : Int) := Int.ediv_le_ediv (by omega) hb
    rwa [Int.mul_ediv_cancel_left _ (by omega)] at this
theorem shareAt_bounds {l : List Int} {p : List Pl} (hl : right l = true) (h : OkAll p) {i : Nat} (hi : i < p.length) : 0 ≤ shareAt l p i ∧ shareAt l p i ≤ 1099511627776 := by
  have h1 := rank_bounds h i hi
  have h2 := psum_bounds hl h1.1 (cnt p i)
  exact tdiv_bounds (cntTo_pos hi) h2.1 h2.2
theorem isum_bounds {b : Int} (hb : 0 ≤ b) : ∀ (l : List Int), (∀ x ∈ l, 0 ≤ x ∧ x ≤ b) → 0 ≤ isum l ∧ isum l ≤ l.length * b
  | [], _ => by simp [isum]
  | x :: l, h => by
    have h1 := isum_bounds hb l fun y hy => h y (by simp [hy])
    have h2 := h x (by simp)
    simp only [isum, List.length_cons]
    constructor
    · omega
    · have : ((l.length + 1 : Nat) : Int) * b = l.length * b + b := by rw [Int.natCast_add]; simp [Int.add_mul]
      omega
theorem sharesTo_succ (l : List Int) (p : List Pl) (i : Nat) : sharesTo l p (i + 1) = sharesTo l p i ++ [shareAt l p i] := by simp [sharesTo, List.range_succ]
theorem shares_bounds {l : List Int} {p : List Pl} (hl : right l = true) (h : OkAll p) {i : Nat} (hi : i ≤ p.length) : 0 ≤ isum (sharesTo l p i) ∧ isum (sharesTo l p i) ≤ i * 1099511627776 := by
  have := isum_bounds (b := 1099511627776) (by omega) (sharesTo l p i) (fun x hx => by
    simp only [sharesTo, List.mem_map, List.mem_range] at hx
    obtain ⟨j, hj, rfl⟩ := hx
    exact shareAt_bounds hl h (by omega))
  simpa [sharesTo] using this
theorem sum_bounds {l : List Int} (hl : right l = true) (k : Nat) : 0 ≤ isum (l.take k) ∧ isum (l.take k) ≤ 64 * 1099511627776 := by
  have h1 := isum_bounds (b := 1099511627776) (by omega) (l.take k) (fun x hx => right_mem hl (List.mem_of_mem_take hx))
  have h2 := right_len hl
  have h3 : (l.take k).length ≤ 64 := by rw [List.length_take]; omega
  constructor
  · exact h1.1
  · omega
end Go.Am
