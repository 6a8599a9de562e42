/- Calls that change slices of their caller's: a part of abstract memory is handed over, and comes back. -/
import Derived.Test.YteglanpnmnkkbaaBm9
namespace Go.Am
set_option linter.unusedVariables false
open Go.RowKit

section
variable {w : World} {M M0 : Nat → Prop} {bs bs' : Bs} {hp hp' : List Blk}

theorem relSV_ren {σ : Nat → Nat} {x : SV} {v : Value} (hl : bs.length = hp.length) (hσ : ∀ id, id ∈ x.ids → id < hp.length → Blk.look hp' (σ id) = Blk.look hp id ∧ bs'.at (σ id) = bs.at id ∧ σ id < hp'.length) (h : relSV w M bs hp x v) : relSV w M bs' hp' (x.ren σ) v := by
  cases x with
  | box id off =>
    obtain ⟨h1, h2⟩ := h
    obtain ⟨k1, k2, k3⟩ := hσ id (by simp [SV.ids]) h1
    refine ⟨k3, fun cs hl => ?_⟩
    rw [k1] at hl
    rw [k2]
    exact h2 cs hl
  | own t id n =>
    obtain ⟨h1, h2⟩ := h
    obtain ⟨k1, k2, k3⟩ := hσ id (by simp [SV.ids]) h1
    refine ⟨k3, fun al cs hl => ?_⟩
    rw [k1] at hl
    rw [k2]
    exact h2 al cs hl
  | eown t id n off =>
    obtain ⟨h1, h2⟩ := h
    obtain ⟨k1, k2, k3⟩ := hσ id (by simp [SV.ids]) h1
    refine ⟨k3, fun al cs hl => ?_⟩
    rw [k1] at hl
    rw [k2]
    exact h2 al cs hl
  | fn f ids =>
    obtain ⟨ps, h1, h2⟩ := h
    refine ⟨ps, h1, ?_⟩
    have key : ∀ {l : List Nat} {m : List Nat}, (∀ id ∈ l, id < hp.length → Blk.look hp' (σ id) = Blk.look hp id ∧ bs'.at (σ id) = bs.at id ∧ σ id < hp'.length) → All2 (fun id b => id < hp.length ∧ ∀ cs, Blk.look hp id = .cells cs → bs.at id = some b) l m →
        All2 (fun id b => id < hp'.length ∧ ∀ cs, Blk.look hp' id = .cells cs → bs'.at id = some b) (l.map σ) m := by
      intro l m hs h
      induction h with
      | nil => exact .nil
      | cons r _ ih =>
        obtain ⟨r1, r2⟩ := r
        obtain ⟨k1, k2, k3⟩ := hs _ (List.mem_cons_self ..) r1
        exact .cons ⟨k3, fun cs hl => by rw [k2]; exact r2 cs (by rw [← k1]; exact hl)⟩ (ih fun id hid => hs id (by simp [hid]))
    exact key (fun id hid => hσ id hid) h2
  | mp id =>
    obtain ⟨b, k, u, es, h1, h2, h3⟩ := h
    obtain ⟨k1, k2, _⟩ := hσ id (by simp [SV.ids]) (look_lt (by rw [h2]; simp))
    exact ⟨b, k, u, es, by rw [k2]; exact h1, by rw [k1]; exact h2, h3⟩
  | _ => exact h
theorem relAV_ren {σ : Nat → Nat} {x : AV} {v : Value} (hl : bs.length = hp.length) (hσ : ∀ id, id ∈ x.ids → id < hp.length → Blk.look hp' (σ id) = Blk.look hp id ∧ bs'.at (σ id) = bs.at id ∧ σ id < hp'.length) (h : relAV w M bs hp x v) : relAV w M bs' hp' (x.ren σ) v := by
  cases x with
  | s x => exact relSV_ren hl hσ h
  | agg cs =>
    obtain ⟨vs, rfl, h⟩ := h
    refine ⟨vs, rfl, ?_⟩
    simp only [AV.ids] at hσ
    induction h with
    | nil => exact .nil
    | cons r _ ih => exact .cons ⟨relSV_ren hl (fun id hid => hσ id (by simp [hid])) r.1, r.2⟩ (ih fun id hid => hσ id (by simp at hid ⊢; exact .inr hid))
theorem relRV_ren {σ : Nat → Nat} {x : RV} {v : Value} (hl : bs.length = hp.length) (hσ : ∀ id, id < hp.length → Blk.look hp' (σ id) = Blk.look hp id ∧ bs'.at (σ id) = bs.at id ∧ σ id < hp'.length) (h : relRV w M bs hp x v) : relRV w M bs' hp' (x.ren σ) v := by
  cases x with
  | v x => exact relAV_ren hl (fun id _ => hσ id) h
  | tup xs =>
    obtain ⟨vs, rfl, h⟩ := h
    refine ⟨vs, rfl, ?_⟩
    induction h with
    | nil => exact .nil
    | cons r _ ih => exact .cons (relAV_ren hl (fun id _ => hσ id) r) ih
theorem all2_ren {σ : Nat → Nat} (hl : bs.length = hp.length) : ∀ {xs : List AV} {vs : List Value}, (∀ id, id ∈ xs.flatMap AV.ids → id < hp.length → Blk.look hp' (σ id) = Blk.look hp id ∧ bs'.at (σ id) = bs.at id ∧ σ id < hp'.length) → All2 (relAV w M bs hp) xs vs → All2 (relAV w M bs' hp') (xs.map (AV.ren σ)) vs
  | [], _, _, .nil => .nil
  | x :: xs, _, hσ, .cons r h => .cons (relAV_ren hl (fun id hid => hσ id (by simp [hid])) r) (all2_ren hl (fun id hid => hσ id (by simp only [List.flatMap_cons, List.mem_append]; exact .inr hid)) h)

theorem dedup_spec : ∀ (l acc : List Nat), acc.Nodup → (dedup acc l).Nodup ∧ ∀ x, x ∈ dedup acc l ↔ x ∈ acc ∨ x ∈ l
  | [], acc, h => by simp [dedup, h]
  | y :: l, acc, h => by
    simp only [dedup]
    split
    · rename_i hc
      obtain ⟨h1, h2⟩ := dedup_spec l acc h
      refine ⟨h1, fun x => ?_⟩
      rw [h2]
      simp only [List.mem_cons]
      constructor
      · rintro (h | h)
        · exact .inl h
        · exact .inr (.inr h)
      · rintro (h | h | h)
        · exact .inl h
        · subst h; exact .inl (by simpa using hc)
        · exact .inr h
    · rename_i hc
      have hy : y ∉ acc := by simpa using hc
      obtain ⟨h1, h2⟩ := dedup_spec l (acc ++ [y]) (by
        rw [List.nodup_append]
        exact ⟨h, by simp, fun a ha b hb => by simp at hb; subst hb; intro e; subst e; exact hy ha⟩)
      refine ⟨h1, fun x => ?_⟩
      rw [h2]
      simp only [List.mem_append, List.mem_cons, List.not_mem_nil, or_false]
      constructor
      · rintro ((h | h) | h)
        · exact .inl h
        · exact .inr (.inl h)
        · exact .inr (.inr h)
      · rintro (h | h | h)
        · exact .inl (.inl h)
        · exact .inl (.inr h)
        · exact .inr h
theorem idx_spec : ∀ (l : List Nat) (x : Nat), x ∈ l → l[idx l x]? = some x
  | y :: l, x, h => by
    simp only [idx]
    split
    · rename_i e; subst e; rfl
    · rename_i hne
      have : x ∈ l := by
        cases h with
        | head => exact absurd rfl hne
        | tail _ h => exact h
      simpa using idx_spec l x this

theorem mergeB_length {α : Type} : ∀ (sel : List Nat) (l out : List α), sel.length ≤ out.length → (mergeB l sel out).length = l.length + (out.length - sel.length)
  | [], l, out, _ => by simp [mergeB]
  | id :: sel, l, [], h => by simp at h
  | id :: sel, l, b :: out, h => by
    simp only [mergeB]
    rw [mergeB_length sel _ out (by simpa using h)]
    simp
theorem mergeB_other {α : Type} : ∀ (sel : List Nat) (l out : List α) (id : Nat), sel.length ≤ out.length → id ∉ sel → id < l.length → (mergeB l sel out)[id]? = l[id]?
  | [], l, out, id, _, _, h => by simp only [mergeB]; rw [List.getElem?_append_left h]
  | i :: sel, l, [], id, h, _, _ => by simp at h
  | i :: sel, l, b :: out, id, h, hn, hlt => by
    simp only [List.mem_cons, not_or] at hn
    simp only [mergeB]
    rw [mergeB_other sel _ out id (by simpa using h) hn.2 (by simpa using hlt), List.getElem?_set_ne (fun e => hn.1 e.symm)]
theorem mergeB_new {α : Type} : ∀ (sel : List Nat) (l out : List α) (i : Nat), sel.length ≤ out.length → (mergeB l sel out)[l.length + i]? = out[sel.length + i]?
  | [], l, out, i, _ => by simp [mergeB, List.getElem?_append_right]
  | id :: sel, l, [], i, h => by simp at h
  | id :: sel, l, b :: out, i, h => by
    simp only [mergeB]
    have := mergeB_new sel (l.set id b) out i (by simpa using h)
    rw [List.length_set] at this
    rw [this, List.length_cons, show sel.length + 1 + i = sel.length + i + 1 by omega]
    simp
theorem mergeB_sel {α : Type} : ∀ (sel : List Nat) (l out : List α) (j id : Nat), sel.length ≤ out.length → sel.Nodup → (∀ i ∈ sel, i < l.length) → sel[j]? = some id → (mergeB l sel out)[id]? = out[j]?
  | [], l, out, j, id, _, _, _, h => by simp at h
  | i :: sel, l, [], j, id, h, _, _, _ => by simp at h
  | i :: sel, l, b :: out, j, id, h, hn, hlt, hj => by
    simp only [mergeB]
    rw [List.nodup_cons] at hn
    cases j with
    | zero =>
      simp at hj; subst hj
      rw [mergeB_other sel _ out i (by simpa using h) hn.1 (by simpa using hlt i (by simp))]
      simp [hlt i (by simp)]
    | succ j =>
      rw [mergeB_sel sel _ out j id (by simpa using h) hn.2 (fun k hk => by simpa using hlt k (by simp [hk])) (by simpa using hj)]
      simp

theorem look_get {l : List Blk} {i : Nat} {l' : List Blk} {j : Nat} (h : l[i]? = l'[j]?) : Blk.look l i = Blk.look l' j := by unfold Blk.look; rw [h]
theorem at_get {l : Bs} {i : Nat} {l' : Bs} {j : Nat} (h : l[i]? = l'[j]?) : Bs.at l i = Bs.at l' j := by unfold Bs.at; rw [h]
theorem at_map (sel : List Nat) (j : Nat) : Bs.at (sel.map bs.at) j = (sel[j]?).bind bs.at := by
  unfold Bs.at
  rw [List.getElem?_map]
  cases sel[j]? <;> rfl
theorem look_map (sel : List Nat) (j : Nat) : Blk.look (sel.map (Blk.look hp)) j = match sel[j]? with | some id => Blk.look hp id | none => .dead := by
  unfold Blk.look
  rw [List.getElem?_map]
  cases sel[j]? <;> rfl

/-- Pure values mean the same whatever the blocks' numbers. -/
theorem relSV_pure_any {M' : Nat → Prop} {w' : World} {x : SV} {v : Value} (hx : x.pure = true) (he : Evo M M' w w') (h : relSV w M bs hp x v) : relSV w' M' bs' hp' x v := by
  have h1 : relSV w M [] [] x v := relSV_pure hx h
  have h2 : relSV w' M' [] [] x v := by
    cases x with
    | sl t xs ex => obtain ⟨a, c, q1, q2, q3, q4, q5⟩ := h1; exact ⟨a, c, q1, q2, q3, q4, q5.evo he⟩
    | eptr t x => obtain ⟨b, off, cs, q1, q2, q3, q4, q5⟩ := h1; exact ⟨b, off, cs, q1, he.free b q3 q2, Nat.lt_of_lt_of_le q3 he.size, rep_evo he _ _ _ q4, q5.evo he q3 q2⟩
    | fnp f caps => obtain ⟨ps, q1, q2⟩ := h1; exact ⟨ps, q1, q2.imp fun c p hp => hp.evo he⟩
    | fv x => exact RepD.evo he h1
    | box id off => simp [SV.pure] at hx
    | own t id n => simp [SV.pure] at hx
    | eown t id n off => simp [SV.pure] at hx
    | mp id => simp [SV.pure] at hx
    | ib p q => simp [SV.pure] at hx
    | _ => exact h1
  exact relSV_lift h2

theorem pure_cells {id : Nat} {cs : List SV} (h : hp.all Blk.pureB = true) (hl : Blk.look hp id = .cells cs) {i : Nat} {x : SV} (hx : cs[i]? = some x) : x.pure = true := by
  rw [List.all_eq_true] at h
  have hlt : id < hp.length := look_lt (by rw [hl]; simp)
  have := h hp[id] (List.getElem_mem hlt)
  simp only [Blk.look, List.getElem?_eq_getElem hlt, Option.getD_some] at hl
  rw [hl] at this
  simp only [Blk.pureB, List.all_eq_true] at this
  exact this x (List.mem_of_getElem? hx)
theorem pure_arr {id : Nat} {al : Bool} {cs : List SV} (h : hp.all Blk.pureB = true) (hl : Blk.look hp id = .arr al cs) {i : Nat} {x : SV} (hx : cs[i]? = some x) : x.pure = true := by
  rw [List.all_eq_true] at h
  have hlt : id < hp.length := look_lt (by rw [hl]; simp)
  have := h hp[id] (List.getElem_mem hlt)
  simp only [Blk.look, List.getElem?_eq_getElem hlt, Option.getD_some] at hl
  rw [hl] at this
  simp only [Blk.pureB, List.all_eq_true] at this
  exact this x (List.mem_of_getElem? hx)

/-- A part of abstract memory. -/
theorem HR.select {M0' : Nat → Prop} (hr : HR w M0 bs hp) (sel : List Nat) (hnd : sel.Nodup) (hpure : ∀ id ∈ sel, (Blk.look hp id).pureB = true) (hm : ∀ b, M0' b → b < w.heap.size) (hout : ∀ id ∈ sel, ∀ b, bs.at id = some b → ¬ M0' b)
    (hsub : ∀ b, b < w.heap.size → Mof M0' (sel.map bs.at) b → Mof M0 bs b) : HR w M0' (sel.map bs.at) (sel.map (Blk.look hp)) := by
  have hev : Evo (Mof M0 bs) (Mof M0' (sel.map bs.at)) w w := Evo.more w hsub
  have hat : ∀ j b, Bs.at (sel.map bs.at) j = some b → ∃ id, sel[j]? = some id ∧ bs.at id = some b := by
    intro j b h
    rw [at_map] at h
    cases hs : sel[j]? with
    | none => rw [hs] at h; cases h
    | some id => rw [hs] at h; exact ⟨id, rfl, h⟩
  have hlk : ∀ j x, Blk.look (sel.map (Blk.look hp)) j = x → x ≠ .dead → ∃ id, sel[j]? = some id ∧ Blk.look hp id = x ∧ x.pureB = true := by
    intro j x h hne
    rw [look_map] at h
    cases hs : sel[j]? with
    | none => rw [hs] at h; exact absurd h.symm hne
    | some id =>
      rw [hs] at h
      exact ⟨id, rfl, h, by rw [← h]; exact hpure id (List.mem_of_getElem? hs)⟩
  refine ⟨by simp, hm, fun j b h => ?_, fun i j b h1 h2 => ?_, fun j b h => ?_, fun j cs h => ?_, fun j cs h => ?_, fun j al cs b h hb => ?_, fun j k v es h => ?_⟩
  · obtain ⟨id, h1, h2⟩ := hat j b h
    exact hr.lt id b h2
  · obtain ⟨id1, q1, q2⟩ := hat i b h1
    obtain ⟨id2, q3, q4⟩ := hat j b h2
    have := hr.inj id1 id2 b q2 q4
    subst this
    exact (List.getElem?_inj (List.getElem?_eq_some_iff.1 q1).1 hnd).1 (q1.trans q3.symm)
  · obtain ⟨id, h1, h2⟩ := hat j b h
    exact hout id (List.mem_of_getElem? h1) b h2
  · obtain ⟨id, h1, h2, _⟩ := hlk j _ h (by simp)
    obtain ⟨b, hb⟩ := hr.al id cs h2
    exact ⟨b, by rw [at_map, h1]; exact hb⟩
  · obtain ⟨id, h1, h2, h3⟩ := hlk j _ h (by simp)
    obtain ⟨b, cur, e, q1, q2, q3, q4⟩ := hr.cells id cs h2
    refine ⟨b, cur, e, by rw [at_map, h1]; exact q1, q2, q3, fun i x hx => ?_⟩
    obtain ⟨u, r1, r2, r3⟩ := q4 i x hx
    simp only [Blk.pureB, List.all_eq_true] at h3
    exact ⟨u, r1, r2, relSV_pure_any (h3 x (List.mem_of_getElem? hx)) hev r3⟩
  · obtain ⟨id, h1, h2, h3⟩ := hlk j _ h (by simp)
    rw [at_map, h1] at hb
    obtain ⟨cur, e, q2, q4⟩ := hr.arr id al cs b h2 hb
    refine ⟨cur, e, q2, fun i x hx => ?_⟩
    obtain ⟨u, r1, r2, r3⟩ := q4 i x hx
    simp only [Blk.pureB, List.all_eq_true] at h3
    exact ⟨u, r1, r2, relSV_pure_any (h3 x (List.mem_of_getElem? hx)) hev r3⟩
  · obtain ⟨id, h1, h2, h3⟩ := hlk j _ h (by simp)
    obtain ⟨b, ents, clock, q1, q2, q3⟩ := hr.map id k v es h2
    exact ⟨b, ents, clock, by rw [at_map, h1]; exact q1, q2, q3.imp fun x m hm => ⟨rep_evo hev _ _ _ hm.1, rep_evo hev _ _ _ hm.2⟩⟩

/-- What a call that was handed a part leaves of the whole. -/
theorem merge_hr {w' : World} {bsL' : Bs} {hpL' : List Blk} (hr : HR w M0 bs hp) (sel : List Nat) (hnd : sel.Nodup) (hlt : ∀ id ∈ sel, id < hp.length)
    (hr' : HR w' (fun b => Mof M0 bs b ∧ ¬ ∃ id ∈ sel, bs.at id = some b) bsL' hpL') (hpure : hpL'.all Blk.pureB = true)
    (hst : Step false w (Mof (fun b => Mof M0 bs b ∧ ¬ ∃ id ∈ sel, bs.at id = some b) (sel.map bs.at)) (sel.map bs.at) (sel.map (Blk.look hp)) w' (Mof (fun b => Mof M0 bs b ∧ ¬ ∃ id ∈ sel, bs.at id = some b) bsL') bsL' hpL') :
    HR w' M0 (mergeB bs sel bsL') (mergeB hp sel hpL') ∧ Step false w (Mof M0 bs) bs hp w' (Mof M0 (mergeB bs sel bsL')) (mergeB bs sel bsL') (mergeB hp sel hpL') ∧
      (∀ j, j < hpL'.length → Blk.look (mergeB hp sel hpL') (outId sel hp.length j) = Blk.look hpL' j ∧ Bs.at (mergeB bs sel bsL') (outId sel hp.length j) = bsL'.at j ∧ outId sel hp.length j < (mergeB hp sel hpL').length) ∧
      ∀ b, Mof M0 (mergeB bs sel bsL') b ↔ Mof (fun b => Mof M0 bs b ∧ ¬ ∃ id ∈ sel, bs.at id = some b) bsL' b := by
  have hlenL : sel.length ≤ hpL'.length := by have := hst.len; simpa using this
  have hlenB : sel.length ≤ bsL'.length := by rw [hr'.len]; exact hlenL
  have hltb : ∀ id ∈ sel, id < bs.length := fun id h => by rw [hr.len]; exact hlt id h
  have hmlen : (mergeB hp sel hpL').length = hp.length + (hpL'.length - sel.length) := mergeB_length sel hp hpL' hlenL
  -- where each block of the whole comes from
  have hsel : ∀ j id, sel[j]? = some id → Blk.look (mergeB hp sel hpL') id = Blk.look hpL' j ∧ Bs.at (mergeB bs sel bsL') id = bsL'.at j := fun j id h =>
    ⟨look_get (mergeB_sel sel hp hpL' j id hlenL hnd hlt h), at_get (mergeB_sel sel bs bsL' j id hlenB hnd hltb h)⟩
  have hoth : ∀ id, id ∉ sel → id < hp.length → Blk.look (mergeB hp sel hpL') id = Blk.look hp id ∧ Bs.at (mergeB bs sel bsL') id = bs.at id := fun id h h' =>
    ⟨look_get (mergeB_other sel hp hpL' id hlenL h h'), at_get (mergeB_other sel bs bsL' id hlenB h (by rw [hr.len]; exact h'))⟩
  have hnew : ∀ i, Blk.look (mergeB hp sel hpL') (hp.length + i) = Blk.look hpL' (sel.length + i) ∧ Bs.at (mergeB bs sel bsL') (hp.length + i) = bsL'.at (sel.length + i) := fun i =>
    ⟨look_get (mergeB_new sel hp hpL' i hlenL), at_get (by have := mergeB_new sel bs bsL' i hlenB; rwa [hr.len] at this)⟩
  have hout : ∀ j, j < hpL'.length → Blk.look (mergeB hp sel hpL') (outId sel hp.length j) = Blk.look hpL' j ∧ Bs.at (mergeB bs sel bsL') (outId sel hp.length j) = bsL'.at j ∧ outId sel hp.length j < (mergeB hp sel hpL').length := by
    intro j hj
    unfold outId
    cases hs : sel[j]? with
    | some id => exact ⟨(hsel j id hs).1, (hsel j id hs).2, by rw [hmlen]; have := hlt id (List.mem_of_getElem? hs); simp only; omega⟩
    | none =>
      have hge : sel.length ≤ j := by simpa using hs
      have := hnew (j - sel.length)
      rw [show sel.length + (j - sel.length) = j by omega] at this
      exact ⟨this.1, this.2, by rw [hmlen]; simp only; omega⟩
  -- every block of the whole is one of these
  have hany : ∀ id, (∃ j, id = outId sel hp.length j ∧ (j < sel.length ∨ sel.length ≤ j) ∧ Blk.look (mergeB hp sel hpL') id = Blk.look hpL' j ∧ Bs.at (mergeB bs sel bsL') id = bsL'.at j ∧ (sel[j]? = some id ∨ (sel.length ≤ j ∧ hp.length ≤ id))) ∨
      (id ∉ sel ∧ id < hp.length ∧ Blk.look (mergeB hp sel hpL') id = Blk.look hp id ∧ Bs.at (mergeB bs sel bsL') id = bs.at id) := by
    intro id
    by_cases hin : id ∈ sel
    · obtain ⟨j, hj⟩ := List.getElem?_of_mem hin
      left
      exact ⟨j, by unfold outId; rw [hj], .inl (List.getElem?_eq_some_iff.1 hj).1, (hsel j id hj).1, (hsel j id hj).2, .inl hj⟩
    · by_cases hl : id < hp.length
      · right; exact ⟨hin, hl, (hoth id hin hl).1, (hoth id hin hl).2⟩
      · left
        have := hnew (id - hp.length)
        rw [show hp.length + (id - hp.length) = id by omega] at this
        refine ⟨sel.length + (id - hp.length), ?_, .inr (by omega), this.1, this.2, .inr ⟨by omega, by omega⟩⟩
        unfold outId
        rw [List.getElem?_eq_none (by omega)]
        simp only
        omega
  have hM0 : ∀ id ∈ sel, ∀ b, bs.at id = some b → ¬ M0 b := fun id _ b hb => hr.out id b hb
  -- the blocks that may be written are the same
  have hMB : ∀ b, Mof M0 bs b ↔ Mof (fun b => Mof M0 bs b ∧ ¬ ∃ id ∈ sel, bs.at id = some b) (sel.map bs.at) b := by
    intro b
    constructor
    · intro h
      by_cases hs : ∃ id ∈ sel, bs.at id = some b
      · obtain ⟨id, hid, hb⟩ := hs
        obtain ⟨j, hj⟩ := List.getElem?_of_mem hid
        exact .inr ⟨j, by rw [at_map, hj]; exact hb⟩
      · exact .inl ⟨h, hs⟩
    · rintro (h | ⟨j, h⟩)
      · exact h.1
      · rw [at_map] at h
        cases hs : sel[j]? with
        | none => rw [hs] at h; cases h
        | some id => rw [hs] at h; exact .inr ⟨id, h⟩
  have hMA : ∀ b, Mof M0 (mergeB bs sel bsL') b ↔ Mof (fun b => Mof M0 bs b ∧ ¬ ∃ id ∈ sel, bs.at id = some b) bsL' b := by
    intro b
    constructor
    · rintro (h | ⟨id, h⟩)
      · refine .inl ⟨.inl h, ?_⟩
        rintro ⟨id, hid, hb⟩
        exact hM0 id hid b hb h
      · rcases hany id with ⟨j, _, _, _, k2, _⟩ | ⟨k0, _, _, k2⟩
        · exact .inr ⟨j, by rw [← k2]; exact h⟩
        · rw [k2] at h
          refine .inl ⟨.inr ⟨id, h⟩, ?_⟩
          rintro ⟨id', hid', hb⟩
          exact k0 (hr.inj id id' b h hb ▸ hid')
    · rintro (⟨h | ⟨id, h⟩, hn⟩ | ⟨j, h⟩)
      · exact .inl h
      · have hid : id ∉ sel := fun hin => hn ⟨id, hin, h⟩
        exact .inr ⟨id, by rw [(hoth id hid (by rw [← hr.len]; exact at_lt h)).2]; exact h⟩
      · exact .inr ⟨_, by rw [(hout j (by rw [← hr'.len]; exact at_lt h)).2.1]; exact h⟩
  have hMBf : Mof (fun b => Mof M0 bs b ∧ ¬ ∃ id ∈ sel, bs.at id = some b) (sel.map bs.at) = Mof M0 bs := funext fun b => propext (hMB b).symm
  have hMAf : Mof (fun b => Mof M0 bs b ∧ ¬ ∃ id ∈ sel, bs.at id = some b) bsL' = Mof M0 (mergeB bs sel bsL') := funext fun b => propext (hMA b).symm
  rw [hMBf, hMAf] at hst
  have hold : ∀ id b, id ∉ sel → bs.at id = some b → w'.heap[b]? = w.heap[b]? := fun id b hid hb =>
    (hst.only rfl).old b (hr.lt id b hb) (fun j hj => by
      rw [at_map] at hj
      cases hs : sel[j]? with
      | none => rw [hs] at hj; cases hj
      | some id' =>
        rw [hs] at hj
        exact hid (hr.inj id id' b hb hj ▸ List.mem_of_getElem? hs))
  have hS : Step false w (Mof M0 bs) bs hp w' (Mof M0 (mergeB bs sel bsL')) (mergeB bs sel bsL') (mergeB hp sel hpL') := by
    refine ⟨hst.evo, by rw [hmlen]; omega, ?_, ?_, ?_, fun _ => ⟨?_, ?_, ?_⟩⟩
    · intro id cs h1 h2
      by_cases hin : id ∈ sel
      · obtain ⟨j, hj⟩ := List.getElem?_of_mem hin
        rw [(hsel j id hj).1] at h2
        obtain ⟨⟨cs', q1⟩, q2⟩ := hst.box j cs (by simpa using (List.getElem?_eq_some_iff.1 hj).1) h2
        rw [look_map, hj] at q1
        rw [at_map, hj] at q2
        exact ⟨⟨cs', q1⟩, by rw [(hsel j id hj).2]; exact q2⟩
      · have := hoth id hin h1
        exact ⟨⟨cs, by rw [← this.1]; exact h2⟩, this.2⟩
    · intro id b k u es h1 h2
      by_cases hin : id ∈ sel
      · obtain ⟨j, hj⟩ := List.getElem?_of_mem hin
        obtain ⟨q1, es', q2⟩ := hst.map j b k u es (by rw [at_map, hj]; exact h1) (by rw [look_map, hj]; exact h2)
        exact ⟨by rw [(hsel j id hj).2]; exact q1, es', by rw [(hsel j id hj).1]; exact q2⟩
      · have := hoth id hin (look_lt (by rw [h2]; simp))
        exact ⟨by rw [this.2]; exact h1, es, by rw [this.1]; exact h2⟩
    · intro id al cs hid hl
      by_cases hin : id ∈ sel
      · obtain ⟨j, hj⟩ := List.getElem?_of_mem hin
        rw [(hsel j id hj).1] at hl
        obtain ⟨al0, cs0, q1, q2⟩ := hst.own j al cs (by simpa using (List.getElem?_eq_some_iff.1 hj).1) hl
        rw [look_map, hj] at q1
        refine ⟨al0, cs0, q1, ?_⟩
        rw [(hsel j id hj).2]
        rw [at_map, hj] at q2
        exact q2
      · have := hoth id hin hid
        rw [this.1] at hl
        refine ⟨al, cs, hl, .inr ⟨rfl, this.2, fun _ => rfl, fun b hb cap size ho => ?_⟩⟩
        obtain ⟨cur, e, q1, q2⟩ := ho
        exact ⟨cur, e, by rw [hold id b hin hb]; exact q1, q2⟩
    · intro b hb hn
      refine (hst.only rfl).old b hb fun j hj => ?_
      rw [at_map] at hj
      cases hs : sel[j]? with
      | none => rw [hs] at hj; cases hj
      | some id => rw [hs] at hj; exact hn id hj
    · intro b hb hn id hid
      rcases hany id with ⟨j, _, _, _, k2, _⟩ | ⟨_, _, _, k2⟩
      · refine (hst.only rfl).new b hb (fun i hi => ?_) j (by rw [← k2]; exact hid)
        rw [at_map] at hi
        cases hs : sel[i]? with
        | none => rw [hs] at hi; cases hi
        | some id => rw [hs] at hi; exact hn id hi
      · exact hn id (by rw [← k2]; exact hid)
    · intro id l xs i st ht
      rcases hany id with ⟨j, _, _, k1, _, k3⟩ | ⟨_, _, k1, _⟩
      · rw [k1] at ht
        exfalso
        rw [List.all_eq_true] at hpure
        have hjl : j < hpL'.length := look_lt (by rw [ht]; simp)
        have := hpure hpL'[j] (List.getElem_mem hjl)
        simp only [Blk.look, List.getElem?_eq_getElem hjl, Option.getD_some] at ht
        rw [ht] at this
        simp [Blk.pureB] at this
      · rw [← k1]; exact ht
  refine ⟨⟨?_, fun b hb => ?_, ?_, ?_, ?_, ?_, ?_, ?_, ?_⟩, hS, hout, hMA⟩
  · rw [mergeB_length sel bs bsL' hlenB, hmlen, hr.len, hr'.len]
  · exact Nat.lt_of_lt_of_le (hr.m0 b hb) hst.evo.size
  · intro id b h
    rcases hany id with ⟨j, _, _, _, k2, _⟩ | ⟨_, _, _, k2⟩
    · exact hr'.lt j b (by rw [← k2]; exact h)
    · exact Nat.lt_of_lt_of_le (hr.lt id b (by rw [← k2]; exact h)) hst.evo.size
  · intro i j b h1 h2
    rcases hany i with ⟨i', e1, _, _, k2, _⟩ | ⟨n1, _, _, k2⟩ <;> rcases hany j with ⟨j', e2, _, _, k4, _⟩ | ⟨n2, _, _, k4⟩
    · have := hr'.inj i' j' b (by rw [← k2]; exact h1) (by rw [← k4]; exact h2)
      rw [e1, e2, this]
    · exfalso
      rw [k2] at h1; rw [k4] at h2
      refine hr'.out i' b h1 ⟨.inr ⟨j, h2⟩, ?_⟩
      rintro ⟨id, hid, hb⟩
      exact n2 (hr.inj j id b h2 hb ▸ hid)
    · exfalso
      rw [k2] at h1; rw [k4] at h2
      refine hr'.out j' b h2 ⟨.inr ⟨i, h1⟩, ?_⟩
      rintro ⟨id, hid, hb⟩
      exact n1 (hr.inj i id b h1 hb ▸ hid)
    · exact hr.inj i j b (by rw [← k2]; exact h1) (by rw [← k4]; exact h2)
  · intro id b h hm
    rcases hany id with ⟨j, _, _, _, k2, _⟩ | ⟨_, _, _, k2⟩
    · rw [k2] at h
      refine hr'.out j b h ⟨.inl hm, ?_⟩
      rintro ⟨id', hid', hb⟩
      exact hM0 id' hid' b hb hm
    · exact hr.out id b (by rw [← k2]; exact h) hm
  · intro id cs h
    rcases hany id with ⟨j, _, _, k1, k2, _⟩ | ⟨_, _, k1, k2⟩
    · obtain ⟨b, hb⟩ := hr'.al j cs (by rw [← k1]; exact h)
      exact ⟨b, by rw [k2]; exact hb⟩
    · obtain ⟨b, hb⟩ := hr.al id cs (by rw [← k1]; exact h)
      exact ⟨b, by rw [k2]; exact hb⟩
  · intro id cs h
    rcases hany id with ⟨j, _, _, k1, k2, _⟩ | ⟨n1, _, k1, k2⟩
    · rw [k1] at h
      obtain ⟨b, cur, e, q1, q2, q3, q4⟩ := hr'.cells j cs h
      refine ⟨b, cur, e, by rw [k2]; exact q1, q2, q3, fun i x hx => ?_⟩
      obtain ⟨u, r1, r2, r3⟩ := q4 i x hx
      rw [hMAf] at r3
      exact ⟨u, r1, r2, relSV_pure_any (pure_cells hpure h hx) (Evo.refl _ _) r3⟩
    · rw [k1] at h
      obtain ⟨b, cur, e, q1, q2, q3, q4⟩ := hr.cells id cs h
      refine ⟨b, cur, e, by rw [k2]; exact q1, by rw [hold id b n1 q1]; exact q2, q3, fun i x hx => ?_⟩
      obtain ⟨u, r1, r2, r3⟩ := q4 i x hx
      exact ⟨u, r1, r2, relSV_step hS x u r3⟩
  · intro id al cs b h hb
    rcases hany id with ⟨j, _, _, k1, k2, _⟩ | ⟨n1, _, k1, k2⟩
    · rw [k1] at h; rw [k2] at hb
      obtain ⟨cur, e, q2, q4⟩ := hr'.arr j al cs b h hb
      refine ⟨cur, e, q2, fun i x hx => ?_⟩
      obtain ⟨u, r1, r2, r3⟩ := q4 i x hx
      rw [hMAf] at r3
      exact ⟨u, r1, r2, relSV_pure_any (pure_arr hpure h hx) (Evo.refl _ _) r3⟩
    · rw [k1] at h; rw [k2] at hb
      obtain ⟨cur, e, q2, q4⟩ := hr.arr id al cs b h hb
      refine ⟨cur, e, by rw [hold id b n1 hb]; exact q2, fun i x hx => ?_⟩
      obtain ⟨u, r1, r2, r3⟩ := q4 i x hx
      exact ⟨u, r1, r2, relSV_step hS x u r3⟩
  · intro id k v es h
    rcases hany id with ⟨j, _, _, k1, k2, _⟩ | ⟨n1, _, k1, k2⟩
    · rw [k1] at h
      obtain ⟨b, ents, clock, q1, q2, q3⟩ := hr'.map j k v es h
      rw [hMAf] at q3
      exact ⟨b, ents, clock, by rw [k2]; exact q1, q2, q3⟩
    · rw [k1] at h
      obtain ⟨b, ents, clock, q1, q2, q3⟩ := hr.map id k v es h
      exact ⟨b, ents, clock, by rw [k2]; exact q1, by rw [hold id b n1 q1]; exact q2, q3.imp fun x m hm => ⟨rep_evo hS.evo _ _ _ hm.1, rep_evo hS.evo _ _ _ hm.2⟩⟩

/-- A call of a function with effects. -/
theorem effVC_sound {P : Program} {f : FuncId} {c : ECon} (hE : EffOk P f c) (hr : HR w M0 bs hp) {args : List AV} {vs : List Value} {K : RV → List Blk → Prop} (h : effVC hp c args K) (hargs : All2 (relAV w (Mof M0 bs) bs hp) args vs) :
    Calls P f vs.toArray w (fun o w' => ∃ v rv hp' bs', o = .returned v ∧ K rv hp' ∧ relRV w' (Mof M0 bs') bs' hp' rv v ∧ HR w' M0 bs' hp' ∧ Step false w (Mof M0 bs) bs hp w' (Mof M0 bs') bs' hp') := by
  obtain ⟨h1, h2⟩ := h
  obtain ⟨hnd, hmem⟩ := dedup_spec (args.flatMap AV.ids) [] (by simp)
  generalize dedup [] (args.flatMap AV.ids) = sel at *
  have hpure : ∀ id ∈ sel, (Blk.look hp id).pureB = true := by simpa only [List.all_eq_true] using h1
  have hlt : ∀ id ∈ sel, id < hp.length := fun id hid => look_lt (by
    have := hpure id hid
    intro e; rw [e] at this; simp [Blk.pureB] at this)
  have hMB : ∀ b, Mof M0 bs b ↔ Mof (fun b => Mof M0 bs b ∧ ¬ ∃ id ∈ sel, bs.at id = some b) (sel.map bs.at) b := by
    intro b
    constructor
    · intro h
      by_cases hs : ∃ id ∈ sel, bs.at id = some b
      · obtain ⟨id, hid, hb⟩ := hs
        obtain ⟨j, hj⟩ := List.getElem?_of_mem hid
        exact .inr ⟨j, by rw [at_map, hj]; exact hb⟩
      · exact .inl ⟨h, hs⟩
    · rintro (h | ⟨j, h⟩)
      · exact h.1
      · rw [at_map] at h
        cases hs : sel[j]? with
        | none => rw [hs] at h; cases h
        | some id => rw [hs] at h; exact .inr ⟨id, h⟩
  have hMBf : Mof M0 bs = Mof (fun b => Mof M0 bs b ∧ ¬ ∃ id ∈ sel, bs.at id = some b) (sel.map bs.at) := funext fun b => propext (hMB b)
  have hr1 := hr.select (M0' := fun b => Mof M0 bs b ∧ ¬ ∃ id ∈ sel, bs.at id = some b) sel hnd hpure (fun b hb => by
    rcases hb.1 with hb | ⟨id, hb⟩
    · exact hr.m0 b hb
    · exact hr.lt id b hb) (fun id hid b hb hm => hm.2 ⟨id, hid, hb⟩) (fun b _ hb => (hMB b).2 hb)
  have hargs1 : All2 (relAV w (Mof (fun b => Mof M0 bs b ∧ ¬ ∃ id ∈ sel, bs.at id = some b) (sel.map bs.at)) (sel.map bs.at) (sel.map (Blk.look hp))) (args.map (AV.ren (idx sel))) vs := by
    rw [← hMBf]
    refine all2_ren hr.len (fun id hid _ => ?_) hargs
    have hs := idx_spec sel id ((hmem id).2 (.inr hid))
    exact ⟨by rw [look_map, hs], by rw [at_map, hs]; rfl, by simpa using (List.getElem?_eq_some_iff.1 hs).1⟩
  have hp1 : (sel.map (Blk.look hp)).all Blk.pureB = true := by
    rw [List.all_map, List.all_eq_true]; exact hpure
  refine (hE w _ _ _ _ _ _ h2 hr1 hp1 hargs1).mono ?_
  rintro o w' ⟨v, rv, hpL', bsL', rfl, hK, hv, hpu, hr', hst⟩
  obtain ⟨k1, k2, k3, k4⟩ := merge_hr hr sel hnd hlt hr' hpu hst
  refine ⟨v, _, _, _, rfl, hK, ?_, k1, k2⟩
  have hMAf : Mof M0 (mergeB bs sel bsL') = Mof (fun b => Mof M0 bs b ∧ ¬ ∃ id ∈ sel, bs.at id = some b) bsL' := funext fun b => propext (k4 b)
  rw [hMAf]
  exact relRV_ren hr'.len (fun id hid => k3 id hid) hv
end
end Go.Am
