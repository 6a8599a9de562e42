/- What a claim's arguments are: data that can be read are data of the abstract machine. -/
import Derived.Test.YteglanpnmnkkbaaBm14
import Derived.ChangeArms
import Derived.DataReads
namespace Go.Am
set_option linter.unusedVariables false
open Go.RowKit

mutual
def TyOf (P : Program) : Ty → TypeId → Prop
  | .int k, T => P.underlying T = some (.int k)
  | .bool, T => P.underlying T = some .bool
  | .str, T => P.underlying T = some .string
  | .slice t, T => ∃ e, P.underlying T = some (.slice e) ∧ 0 < t.size ∧ P.cellsOf e = t.size ∧ TyOf P t e
  | .nil, _ => False
  | .fn, _ => False
  | .cons t r, T => ∃ (fs : Array Field) (f : Field) (l : List Field), P.underlying T = some (.struct fs) ∧ fs.toList = f :: l ∧ f.offset = 0 ∧ P.cellsOf f.type = t.size ∧ TyOf P t f.type ∧ FieldsOf P r l t.size ∧ P.cellsOf T = t.size + r.size
def FieldsOf (P : Program) : Ty → List Field → Nat → Prop
  | .nil, l, _ => l = []
  | .cons t r, l, off => ∃ (f : Field) (l' : List Field), l = f :: l' ∧ f.offset = off ∧ P.cellsOf f.type = t.size ∧ TyOf P t f.type ∧ FieldsOf P r l' (off + t.size)
  | _, _, _ => False
end

mutual
def tyOfB (P : Program) : Ty → TypeId → Bool
  | .int k, T => match P.underlying T with | some (.int k') => decide (k' = k) | _ => false
  | .bool, T => match P.underlying T with | some .bool => true | _ => false
  | .str, T => match P.underlying T with | some .string => true | _ => false
  | .slice t, T => match P.underlying T with | some (.slice e) => decide (0 < t.size) && decide (P.cellsOf e = t.size) && tyOfB P t e | _ => false
  | .nil, _ => false
  | .fn, _ => false
  | .cons t r, T => match P.underlying T with
    | some (.struct fs) => match fs.toList with
      | f :: l => decide (f.offset = 0) && decide (P.cellsOf f.type = t.size) && tyOfB P t f.type && fieldsOfB P r l t.size && decide (P.cellsOf T = t.size + r.size)
      | [] => false
    | _ => false
def fieldsOfB (P : Program) : Ty → List Field → Nat → Bool
  | .nil, l, _ => match l with | [] => true | _ :: _ => false
  | .cons t r, l, off => match l with
    | f :: l' => decide (f.offset = off) && decide (P.cellsOf f.type = t.size) && tyOfB P t f.type && fieldsOfB P r l' (off + t.size)
    | [] => false
  | .int _, _, _ => false
  | .bool, _, _ => false
  | .str, _, _ => false
  | .slice _, _, _ => false
  | .fn, _, _ => false
end
mutual
theorem tyOf_of_B {P : Program} : ∀ (ty : Ty) (T : TypeId), tyOfB P ty T = true → TyOf P ty T
  | .int k, T, h => by
    simp only [tyOfB] at h
    split at h
    · rename_i k' hk
      simp only [TyOf, hk]
      rw [of_decide_eq_true h]
    · cases h
  | .bool, T, h => by
    simp only [tyOfB] at h
    split at h
    · rename_i hk; simpa only [TyOf] using hk
    · cases h
  | .str, T, h => by
    simp only [tyOfB] at h
    split at h
    · rename_i hk; simpa only [TyOf] using hk
    · cases h
  | .slice t, T, h => by
    simp only [tyOfB] at h
    split at h
    · rename_i e hk
      simp only [Bool.and_eq_true, decide_eq_true_eq] at h
      simp only [TyOf]
      exact ⟨e, hk, h.1.1, h.1.2, tyOf_of_B t e h.2⟩
    · cases h
  | .nil, T, h => by simp [tyOfB] at h
  | .fn, T, h => by simp [tyOfB] at h
  | .cons t r, T, h => by
    simp only [tyOfB] at h
    split at h
    · rename_i fs hk
      split at h
      · rename_i f l hl
        simp only [Bool.and_eq_true, decide_eq_true_eq] at h
        simp only [TyOf]
        exact ⟨fs, f, l, hk, hl, h.1.1.1.1, h.1.1.1.2, tyOf_of_B t _ h.1.1.2, fieldsOf_of_B r l _ h.1.2, h.2⟩
      · cases h
    · cases h
theorem fieldsOf_of_B {P : Program} : ∀ (ty : Ty) (l : List Field) (off : Nat), fieldsOfB P ty l off = true → FieldsOf P ty l off
  | .nil, l, off, h => by
    cases l with
    | nil => simp only [FieldsOf]
    | cons f l => simp [fieldsOfB] at h
  | .cons t r, l, off, h => by
    cases l with
    | nil => simp [fieldsOfB] at h
    | cons f l =>
      simp only [fieldsOfB, Bool.and_eq_true, decide_eq_true_eq] at h
      simp only [FieldsOf]
      exact ⟨f, l, rfl, h.1.1.1, h.1.1.2, tyOf_of_B t _ h.1.2, fieldsOf_of_B r l _ h.2⟩
  | .int _, l, off, h => by simp [fieldsOfB] at h
  | .bool, l, off, h => by simp [fieldsOfB] at h
  | .str, l, off, h => by simp [fieldsOfB] at h
  | .slice _, l, off, h => by simp [fieldsOfB] at h
  | .fn, l, off, h => by simp [fieldsOfB] at h
end

section
variable {H : Type} {enc : TypeId × Value → H} {P : Program} {w : World} {base : Nat} {spare : Nat → Bool} {held : Bool}

theorem choose_list {α : Type} (n : Nat) (p : Nat → α → Prop) (h : ∀ i, i < n → ∃ x, p i x) : ∃ xs : List α, xs.length = n ∧ ∀ i x, xs[i]? = some x → p i x := by
  induction n with
  | zero => exact ⟨[], rfl, fun i x h => by simp at h⟩
  | succ n ih =>
    obtain ⟨xs, h1, h2⟩ := ih fun i hi => h i (by omega)
    obtain ⟨x, hx⟩ := h n (by omega)
    refine ⟨xs ++ [x], by simp [h1], fun i y hy => ?_⟩
    rw [List.getElem?_append] at hy
    split at hy
    · exact h2 i y hy
    · obtain ⟨h3, h4⟩ := List.getElem?_eq_some_iff.1 hy
      rw [List.length_singleton] at h3
      have h5 : i = n := by omega
      subst h5
      rw [List.getElem_singleton] at h4
      rw [← h4]; exact hx

/-- Integers lie in their kinds' ranges, deeply. -/
def Ty.inR : (t : Ty) → t.T → Prop
  | .int k, n => k.min ≤ n ∧ n ≤ k.max
  | .slice t, xs => ∀ x ∈ xs, t.inR x
  | .cons t r, x => t.inR x.1 ∧ r.inR x.2
  | .bool, _ => True
  | .str, s => s.size ≤ maxLen
  | .nil, _ => True
  | .fn, _ => True
mutual
theorem trod_rep : ∀ (ty : Ty) (T : TypeId) (fuel : Nat) (cs : List Value) (x : DataW H × List MemPlace), TyOf P ty T → DataW.trod enc P w base spare held fuel T cs = some x → ∃ v : ty.T, rep w (fun _ => False) ty v cs ∧ ty.inR v
  | .int k, T, fuel, cs, x, ht, h => by
    obtain ⟨n, rfl, _, hw⟩ := DataW.trod_int (by simpa only [TyOf] using ht) h
    exact ⟨n, by simp only [rep], by simpa [Lit.wf, Ty.inR] using hw⟩
  | .bool, T, fuel, cs, x, ht, h => by
    obtain ⟨n, rfl, _⟩ := DataW.trod_bool (by simpa only [TyOf] using ht) h
    exact ⟨n, by simp only [rep], trivial⟩
  | .str, T, fuel, cs, x, ht, h => by
    obtain ⟨n, rfl, _, hs⟩ := DataW.trod_string (by simpa only [TyOf] using ht) h
    exact ⟨n, by simp only [rep], hs⟩
  | .slice t, T, fuel, cs, x, ht, h => by
    simp only [TyOf] at ht
    obtain ⟨e, h1, h2, h3, h4⟩ := ht
    rcases DataW.trod_slice h1 h with ⟨rfl, _⟩ | ⟨a, len, cap, elems, rest, n, _, rfl, _, hb, hl, hm, hlen, hel, _, _⟩
    · exact ⟨[], by simp only [rep]; exact ⟨none, 0, rfl, Nat.le_refl _, Nat.zero_le _, .inl rfl⟩, fun x hx => by cases hx⟩
    · have each : ∀ i, i < len → ∃ v : t.T, ∃ cs', cs'.length = t.size ∧ rep w (fun _ => False) t v cs' ∧ t.inR v ∧ ∀ j u, cs'[j]? = some u → w.cell? ((a.add (i * t.size)).add j) = some u := by
        intro i hi
        have hi' := hel i hi
        rw [List.getElem?_eq_getElem (by omega), h3] at hi'
        simp only [Option.bind_eq_some_iff] at hi'
        obtain ⟨cs', q1, q2⟩ := hi'
        obtain ⟨v, hv, hvr⟩ := trod_rep t e n cs' _ h4 q2
        obtain ⟨_, q3, q4⟩ := World.cells?_some q1
        refine ⟨v, cs', q3, hv, hvr, fun j u hj => ?_⟩
        have hjl := (List.getElem?_eq_some_iff.1 hj).1
        rw [q4 j (by omega)]; exact hj
      obtain ⟨xs, hxl, hxs⟩ := choose_list len _ each
      refine ⟨xs, ?_, fun x hx => by
        obtain ⟨i, hi⟩ := List.getElem?_of_mem hx
        obtain ⟨_, _, _, hr, _⟩ := hxs i x hi
        exact hr⟩
      simp only [rep]
      refine ⟨some a, cap, by rw [hxl], by omega, hm, ?_⟩
      rcases Nat.eq_zero_or_pos len with h0 | h0
      · left; exact List.length_eq_zero_iff.1 (by omega)
      · right
        have ⟨cs0, c1, c2, _, c3⟩ := hxs 0 xs[0] (List.getElem?_eq_getElem (by omega))
        have hu : cs0[0]? = some cs0[0] := List.getElem?_eq_getElem (by omega)
        have hc := c3 0 _ hu
        have ha0 : (a.add (0 * t.size)).add 0 = a := by simp [Addr.add]
        rw [ha0] at hc
        have hsp : a.spot = none := by
          unfold World.cell? at hc
          split at hc
          · split at hc
            · cases hc
            · rename_i hs; simpa using hs
          · cases hc
        have hblk : a.block < w.heap.size := by
          unfold World.cell? at hc
          split at hc
          · rename_i hh; exact (Array.getElem?_eq_some_iff.1 hh).1
          · cases hc
        obtain ⟨blk, off, sp⟩ := a
        simp only at hsp hblk
        subst hsp
        refine ⟨blk, off, rfl, fun h => h, hblk, fun i x hx => ?_⟩
        obtain ⟨cs', c1, c2, _, c3⟩ := hxs i x hx
        refine ⟨cs', c1, c2, fun j u hj => ?_⟩
        have := c3 j u hj
        rw [addr_add, addr_add] at this
        exact this
  | .nil, T, fuel, cs, x, ht, h => by simp only [TyOf] at ht
  | .fn, T, fuel, cs, x, ht, h => by simp only [TyOf] at ht
  | .cons t r, T, fuel, cs, x, ht, h => by
    simp only [TyOf] at ht
    obtain ⟨fs, f, l, h1, h2, h3, h4, h5, h6, h7⟩ := ht
    obtain ⟨xs, n, _, _, hcl, hxl, hx⟩ := DataW.trod_struct h1 h
    have hget : ∀ (i : Nat) (g : Field), (f :: l)[i]? = some g → ∃ y, DataW.trod enc P w base spare held n g.type ((cs.drop g.offset).take (P.cellsOf g.type)) = some y := by
      intro i g hg
      rw [← h2, Array.getElem?_toList] at hg
      have hi := (Array.getElem?_eq_some_iff.1 hg).1
      have := hx i g hg
      rw [List.getElem?_eq_getElem (by omega)] at this
      exact ⟨_, this⟩
    obtain ⟨y, hy⟩ := hget 0 f rfl
    rw [h3, h4] at hy
    obtain ⟨v, hv, hvr⟩ := trod_rep t f.type n _ _ h5 hy
    obtain ⟨u, hu, hur⟩ := trod_fields r l t.size n cs h6 (fun i g hg => hget (i + 1) g (by simpa using hg))
    refine ⟨(v, u), ?_, hvr, hur⟩
    simp only [rep]
    refine ⟨cs.take t.size, cs.drop t.size, (List.take_append_drop _ _).symm, by simpa using hv, ?_⟩
    rw [List.take_of_length_le (by rw [List.length_drop, hcl, h7]; omega)] at hu
    exact hu
theorem trod_fields : ∀ (ty : Ty) (l : List Field) (off n : Nat) (cs : List Value), FieldsOf P ty l off → (∀ (i : Nat) (g : Field), l[i]? = some g → ∃ y, DataW.trod enc P w base spare held n g.type ((cs.drop g.offset).take (P.cellsOf g.type)) = some y) →
    ∃ v : ty.T, rep w (fun _ => False) ty v ((cs.drop off).take ty.size) ∧ ty.inR v
  | .nil, l, off, n, cs, h, _ => ⟨(), by simp only [rep]; simp, trivial⟩
  | .cons t r, l, off, n, cs, h, hget => by
    simp only [FieldsOf] at h
    obtain ⟨f, l', rfl, h1, h2, h3, h4⟩ := h
    obtain ⟨y, hy⟩ := hget 0 f rfl
    rw [h1, h2] at hy
    obtain ⟨v, hv, hvr⟩ := trod_rep t f.type n _ _ h3 hy
    obtain ⟨u, hu, hur⟩ := trod_fields r l' (off + t.size) n cs h4 (fun i g hg => hget (i + 1) g (by simpa using hg))
    refine ⟨(v, u), ?_, hvr, hur⟩
    simp only [rep]
    refine ⟨_, _, ?_, hv, hu⟩
    rw [List.take_add, List.drop_drop]
  | .int _, l, off, n, cs, h, _ => by simp only [FieldsOf] at h
  | .bool, l, off, n, cs, h, _ => by simp only [FieldsOf] at h
  | .str, l, off, n, cs, h, _ => by simp only [FieldsOf] at h
  | .slice _, l, off, n, cs, h, _ => by simp only [FieldsOf] at h
  | .fn, l, off, n, cs, h, _ => by simp only [FieldsOf] at h
end
end
end Go.Am
