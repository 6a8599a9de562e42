/- The library's sort by a comparing function, as a contract with effects. -/
import Derived.Test.YteglanpnmnkkbaaBs1
namespace Go.Am
set_option linter.unusedVariables false
open Go.RowKit

section
variable {P : Program} {w : World} {M M0 : Nat → Prop} {bs : Bs} {hp : List Blk}

/-- The function of a function value, and what it has captured. -/
def fvParts : SV → Option (FuncId × List (Sigma Ty.T))
  | .fn f [] => some (f, [])
  | .fnp f caps => some (f, caps)
  | .fv x => x.parts
  | _ => none
theorem fvParts_sound {x : SV} {v : Value} {f : FuncId} {caps : List (Sigma Ty.T)} (hx : relSV w M bs hp x v) (h : fvParts x = some (f, caps)) : ∃ ps : List Value, v = .func (.func f) #[] ps.toArray ∧ All2 (FrozenAt w M) caps ps := by
  cases x with
  | fn f' ids =>
    cases ids with
    | cons i r => simp [fvParts] at h
    | nil =>
      simp [fvParts] at h
      obtain ⟨rfl, rfl⟩ := h
      obtain ⟨ps, rfl, h2⟩ := hx
      cases h2
      exact ⟨[], rfl, .nil⟩
  | fnp f' caps' =>
    simp [fvParts] at h
    obtain ⟨rfl, rfl⟩ := h
    obtain ⟨ps, rfl, h2⟩ := hx
    exact ⟨ps, rfl, h2⟩
  | fv x => exact repD_parts hx h
  | _ => simp [fvParts] at h

/-- A world of which only a bigger one is known. -/
theorem grown_of_below {W w' : World} (h : Below W.heap.size W w') (hd : W.drawn ≤ w'.drawn) : ∃ q os, w' = Sort.grow (W.drewN q) os := by
  refine ⟨w'.drawn - W.drawn, w'.heap.extract W.heap.size w'.heap.size, ?_⟩
  have h1 : w'.heap = W.heap ++ w'.heap.extract W.heap.size w'.heap.size := by
    apply Array.ext_getElem?
    intro i
    rcases Nat.lt_or_ge i W.heap.size with hi | hi
    · rw [Array.getElem?_append_left hi]; exact h.block i hi
    · rw [Array.getElem?_append_right hi]
      rcases Nat.lt_or_ge i w'.heap.size with hj | hj
      · rw [Array.getElem?_eq_getElem hj, Array.getElem?_eq_getElem (by simp; omega), Array.getElem_extract]
        congr 2
        omega
      · rw [Array.getElem?_eq_none hj, Array.getElem?_eq_none (by simp; omega)]
  obtain ⟨hh, tape, drawn, os, output⟩ := w'
  simp only at h1 hd
  simp only [Sort.grow, World.drewN]
  have e1 : os = W.os := h.os
  have e2 : tape = W.tape := h.tape
  have e3 : output = W.output := h.output
  subst e1; subst e2; subst e3
  rw [← h1]
  congr 1
  omega

theorem flats_get {t : Ty} (h1 : t.size = 1) : ∀ (xs : List t.T) (j : Nat) (x : t.T), xs[j]? = some x → ∃ s, t.flat x = [s] ∧ (t.flats xs)[j]? = some s
  | y :: xs, 0, x, h => by
    simp at h; subst h
    have hl := flat_length t y
    rw [h1] at hl
    obtain ⟨s, hs⟩ := List.length_eq_one_iff.1 hl
    exact ⟨s, hs, by simp [Ty.flats, hs]⟩
  | y :: xs, j + 1, x, h => by
    have hl := flat_length t y
    rw [h1] at hl
    obtain ⟨s', hs'⟩ := List.length_eq_one_iff.1 hl
    obtain ⟨s, k1, k2⟩ := flats_get h1 xs j x (by simpa using h)
    exact ⟨s, k1, by simp [Ty.flats, hs', k2]⟩

theorem parse_one {t : Ty} {x : t.T} {s : SV} {u : Value} (hf : t.flat x = [s]) (h : relSV w M bs hp s u) : rep w M t x [u] := by
  have hp := parses_flat t x []
  rw [List.append_nil, hf] at hp
  obtain ⟨c1, c2, hc, h1, h2⟩ := parse_rep t [s] x [] [u] hp (.cons h .nil)
  cases h2
  simp at hc
  rw [hc]; exact h1

/-- slices.SortFunc; Γc: what is known of comparing functions. -/
def conSortF (Γc : List (FuncId × Con)) : ECon := { wp := fun args hp K => match args, hp with
  | [.s (.own t 0 n), .s fv], [.arr al cs] => t.size = 1 ∧ t.nfld = 0 ∧ ∃ (xs : List t.T) (cf : t.T → t.T → Int) (f : FuncId) (caps : List (Sigma Ty.T)) (con : Con), cs = t.flats xs ∧ xs.length = n ∧ xs.length < 4611686018427387904 ∧ (al = true ∨ xs = []) ∧
      fvParts fv = some (f, caps) ∧ look Γc f = some con ∧ (∀ x ∈ xs, ∀ y ∈ xs, con.pre ([t.av x, t.av y] ++ caps.map capAV) ∧ con.val ([t.av x, t.av y] ++ caps.map capAV) = .v (.s (.int .i64 (cf x y)))) ∧
      (∀ x ∈ xs, ¬ cf x x < 0) ∧ (∀ x ∈ xs, ∀ y ∈ xs, ∀ z ∈ xs, cf x y < 0 → cf y z < 0 → cf x z < 0) ∧ (∀ x ∈ xs, ∀ y ∈ xs, ∀ z ∈ xs, ¬ cf x y < 0 → ¬ cf y z < 0 → ¬ cf x z < 0) ∧
      ∀ ys : List t.T, ys.Perm xs → ys.Pairwise (fun x y => ¬ cf y x < 0) → K (.tup []) [.arr al (t.flats ys)]
  | [.s (.sl t xs _), .s fv], [] => xs = [] ∧ (fvParts fv).isSome = true ∧ K (.tup []) []
  | _, _ => False }

theorem sortF_eff {ρ : Shelf.Ren} (L : Proofs.SlLaysF.n6 P ρ) (Γc : List (FuncId × Con)) (hΓ : ∀ f c, look Γc f = some c → (∀ (args : Array Value) (w : World), (callFunc f args).run P w = .ok (.enter f args) w) ∧ PureOk P f c) : EffOk P (ρ.f 6) (conSortF Γc) := by
  intro w M0 bs hp args vs K hpre hr hpure hargs
  simp only [conSortF] at hpre
  split at hpre
  · rename_i t n fv al cs
    obtain ⟨t1, t0, xs, cf, f, caps, con, rfl, rfl, hsz, hal, hfv, hcon, hcmp, ho1, ho2, ho3, hK⟩ := hpre
    obtain ⟨v, fvv, rfl, hv, hf⟩ : ∃ v fvv, vs = [v, fvv] ∧ relAV w (Mof M0 bs) bs [.arr al (t.flats xs)] (.s (.own t 0 xs.length)) v ∧ relSV w (Mof M0 bs) bs [.arr al (t.flats xs)] fv fvv := by
      cases hargs with
      | cons h1 h2 => cases h2 with
        | cons h2 h3 => cases h3; exact ⟨_, _, rfl, h1, h2⟩
    obtain ⟨ps, rfl, hps⟩ := fvParts_sound hf hfv
    obtain ⟨hent, hpok⟩ := hΓ f con hcon
    rcases own_cases hr (by rw [flats_length]) hv with ⟨b, cap, cur, e, h1, rfl, h3, h4, h5, h6, h7, h8, h9⟩ | ⟨hfal, a, rfl, hn⟩
    · by_cases hx0 : xs = []
      · subst hx0
        refine (Proofs.AnyF.slices_SortFunc_none { L with } (some ⟨b, 0, none⟩) cap (.func (.func f) #[] ps.toArray) w).mono ?_
        rintro o w' ⟨rfl, rfl⟩
        exact ⟨_, .tup [], _, bs, rfl, hK [] (.refl _) .nil, ⟨[], rfl, .nil⟩, hpure, hr, Step.refl _ _ _ _⟩
      have hpos : 0 < xs.length := List.length_pos_iff.2 hx0
      rw [t1] at h4 h6
      -- the cells' values
      have hcell : ∀ i : Nat, i < xs.length → ∃ (s : SV) (u : Value), (∃ x, xs[i]? = some x ∧ t.flat x = [s]) ∧ cur[i]? = some u ∧ u.oneCell' = true ∧ relSV w (Mof M0 bs) bs [.arr al (t.flats xs)] s u := by
        intro i hi
        obtain ⟨s, k1, k2⟩ := flats_get t1 xs i xs[i] (List.getElem?_eq_getElem hi)
        obtain ⟨u, q1, q2, q3⟩ := h9 i s k2
        exact ⟨s, u, ⟨xs[i], List.getElem?_eq_getElem hi, k1⟩, q1, q2, q3⟩
      let α := { i : Nat // i < xs.length }
      letI : Inhabited α := ⟨⟨0, hpos⟩⟩
      let enc : α → Value := fun i => cur.getD i.1 undef
      let at' : α → t.T := fun i => xs[i.1]'i.2
      let d : Array α := (List.range xs.length).attach.toArray.map fun i => ⟨i.1, by simpa using i.2⟩
      have hds : d.size = xs.length := by simp [d]
      have hdg : ∀ j (hj : j < xs.length), d[j]! = ⟨j, hj⟩ := by
        intro j hj
        rw [getElem!_pos _ _ (by rw [hds]; exact hj)]
        simp [d]
      have henc : ∀ i : α, ∃ (s : SV), t.flat (at' i) = [s] ∧ (enc i).oneCell' = true ∧ relSV w (Mof M0 bs) bs [.arr al (t.flats xs)] s (enc i) := by
        intro i
        obtain ⟨s, u, ⟨x, hx, hs⟩, k1, k2, k3⟩ := hcell i.1 i.2
        have hx' : x = at' i := by
          rw [List.getElem?_eq_getElem i.2] at hx
          injection hx with hx
          exact hx.symm
        have hu : enc i = u := by simp [enc, Array.getD_eq_getD_getElem?, k1]
        exact ⟨s, by rw [← hx']; exact hs, by rw [hu]; exact k2, by rw [hu]; exact k3⟩
      have hmem : ∀ i : α, at' i ∈ xs := fun i => List.getElem_mem _
      have hH : Sort.Holds enc w b 0 d := by
        intro j hj
        rw [hds] at hj
        rw [hdg j hj]
        obtain ⟨s, u, _, k1, _⟩ := hcell j hj
        have hu : enc ⟨j, hj⟩ = u := by simp [enc, Array.getD_eq_getD_getElem?, k1]
        refine ⟨?_, by simp [World.frozen?, h5]⟩
        rw [hu]
        simp only [Nat.zero_add, World.cell?, h5, Option.isSome_none, Bool.false_eq_true, if_false, k1]
      have hO : Sort.SWO (Proofs.ltOf fun i j : α => cf (at' i) (at' j)) := by
        refine ⟨fun x => ?_, fun x y z g1 g2 => ?_, fun x y z g1 g2 => ?_⟩
        · simpa [Proofs.ltOf] using ho1 _ (hmem x)
        · simp only [Proofs.ltOf, decide_eq_true_eq] at g1 g2 ⊢
          exact ho2 _ (hmem x) _ (hmem y) _ (hmem z) g1 g2
        · simp only [Proofs.ltOf, decide_eq_false_iff_not] at g1 g2 ⊢
          exact ho3 _ (hmem x) _ (hmem y) _ (hmem z) g1 g2
      have hcl : Proofs.CmpLays1 P f ps.toArray enc (fun i j : α => cf (at' i) (at' j)) b 0 d.size w := by
        intro m os dk hdk x y
        obtain ⟨sx, fx, ox, rx⟩ := henc x
        obtain ⟨sy, fy, oy, ry⟩ := henc y
        obtain ⟨c1, c2⟩ := hcmp _ (hmem x) _ (hmem y)
        obtain ⟨W, hW⟩ : ∃ W, Proofs.sortWorld enc w b 0 m dk os = W := ⟨_, rfl⟩
        have hWe : Evo (Mof M0 bs) (Mof M0 bs) w W := by
          rw [← hW]
          exact ⟨rfl, rfl, rfl, by simp [Proofs.sortWorld, Sort.grow, Sort.putRow, Sort.mapBlock, Sort.ahead], by simp [Proofs.sortWorld, Sort.grow, Sort.putRow, Sort.mapBlock, Sort.ahead], fun c hc hn => heap_putRow_other (fun e => hn (e ▸ .inr ⟨0, h1⟩)) hc, fun _ _ h => h⟩
        have hrel : ∀ (z : α) (s : SV), t.flat (at' z) = [s] → relSV w (Mof M0 bs) bs [.arr al (t.flats xs)] s (enc z) → relAV W (Mof M0 bs) [] [] (t.av (at' z)) (enc z) := fun z s g1 g2 =>
          one_av (rep_evo hWe _ _ _ (parse_one g1 g2)) t1 t0
        have hcaps : All2 (relAV W (Mof M0 bs) [] []) (caps.map capAV) ps := caps_rel (hps.imp fun c p hp => hp.evo hWe)
        have hc := hpok W (Mof M0 bs) ([t.av (at' x), t.av (at' y)] ++ caps.map capAV) ([enc x, enc y] ++ ps) c1 (fun c hc => by
          rcases hc with hc | ⟨id, hc⟩
          · exact Nat.lt_of_lt_of_le (hr.m0 c hc) hWe.size
          · exact Nat.lt_of_lt_of_le (hr.lt id c hc) hWe.size) (.cons (hrel x sx fx rx) (.cons (hrel y sy fy ry) hcaps))
        rw [hW]
        have harr : ([enc x, enc y] ++ ps).toArray = #[enc x, enc y] ++ ps.toArray := by simp
        rw [harr] at hc
        refine hc.mono ?_
        rintro o w' ⟨u, rfl, hu, hbl, hdr⟩
        rw [c2] at hu
        obtain rfl : u = .int .i64 (cf (at' x) (at' y)) := hu
        exact ⟨rfl, grown_of_below hbl hdr⟩
      have hcall := Proofs.Any.slices_SortFunc L enc (fun i => (henc i).choose_spec.2.1) (fun i j : α => cf (at' i) (at' j)) hO f ps.toArray b 0 cap d w hent hcl hH h8 (by rw [hds]; exact hsz)
      rw [hds] at hcall
      refine hcall.mono ?_
      rintro o w' ⟨rfl, d', m, os, hperm, hsorted, rfl⟩
      obtain ⟨p1, _, p3⟩ := hperm
      have hp' : d'.toList.Perm d.toList := by
        have e1 : d'.extract 0 xs.length = d' := by rw [← hds, ← p1]; simp
        have e2 : d.extract 0 xs.length = d := by rw [← hds]; simp
        rw [e1, e2] at p3; exact p3
      have hdl : d.toList.map at' = xs := by
        apply List.ext_getElem
        · simp [hds]
        · intro i g1 g2
          simp [d, at']
      have hys : (d'.toList.map at').Perm xs := by
        have := hp'.map at'
        rwa [hdl] at this
      have hd's : d'.size = xs.length := by rw [p1, hds]
      have hpw : (d'.toList.map at').Pairwise (fun x y => ¬ cf y x < 0) := by
        rw [List.pairwise_map, List.pairwise_iff_getElem]
        intro i j hi hj hij
        have := hsorted i j (Nat.zero_le _) hij (by simpa [hd's] using hj)
        simp only [Proofs.ltOf, decide_eq_false_iff_not] at this
        rw [getElem!_pos _ _ (by simpa using hj), getElem!_pos _ _ (by simpa using hi)] at this
        simpa using this
      have hylen : (d'.toList.map at').length = xs.length := by simp [hd's]
      obtain ⟨k1, k2⟩ := row_anew (enc := enc) (d := d') (m := m) (os := os) (cs' := t.flats (d'.toList.map at')) hr h1 h4 (by rw [flats_length, flats_length, hylen]) (by rw [flats_length, t1]; omega) (by rw [flats_length, t1]; omega) (fun j x hj => by
        have hjl : j < xs.length := by
          have := (List.getElem?_eq_some_iff.1 hj).1
          rw [flats_length, t1, hylen] at this
          omega
        obtain ⟨s, g1, g2⟩ := flats_get t1 (d'.toList.map at') j (at' d'[j]!) (by
          rw [List.getElem?_map, Array.getElem?_toList, getElem!_pos _ _ (by omega), Array.getElem?_eq_getElem (by omega)]; rfl)
        rw [hj] at g2; cases g2
        obtain ⟨s', q1, q2, q3⟩ := henc d'[j]!
        rw [g1] at q1; cases q1
        exact ⟨q2, q3⟩)
      exact ⟨_, .tup [], [.arr al (t.flats (d'.toList.map at'))], bs, rfl, hK _ hys hpw, ⟨[], rfl, .nil⟩, by simp [Blk.pureB, flats_pure], k1, k2⟩
    · have hx : xs = [] := by
        rcases hal with hal | hal
        · rw [hfal] at hal; cases hal
        · exact hal
      subst hx
      refine (Proofs.AnyF.slices_SortFunc_none { L with } a 0 (.func (.func f) #[] ps.toArray) w).mono ?_
      rintro o w' ⟨rfl, rfl⟩
      exact ⟨_, .tup [], _, bs, rfl, hK [] (.refl _) .nil, ⟨[], rfl, .nil⟩, hpure, hr, Step.refl _ _ _ _⟩
  · rename_i t xs ex fv
    obtain ⟨rfl, hfv, hK⟩ := hpre
    obtain ⟨v, fvv, rfl, hv, hf⟩ : ∃ v fvv, vs = [v, fvv] ∧ relAV w (Mof M0 bs) bs [] (.s (.sl t [] ex)) v ∧ relSV w (Mof M0 bs) bs [] fv fvv := by
      cases hargs with
      | cons h1 h2 => cases h2 with
        | cons h2 h3 => cases h3; exact ⟨_, _, rfl, h1, h2⟩
    obtain ⟨⟨f, caps⟩, hp⟩ := Option.isSome_iff_exists.1 hfv
    obtain ⟨ps, rfl, _⟩ := fvParts_sound hf hp
    obtain ⟨a, c, rfl, _⟩ := hv
    refine (Proofs.AnyF.slices_SortFunc_none { L with } a c (.func (.func f) #[] ps.toArray) w).mono ?_
    rintro o w' ⟨rfl, rfl⟩
    exact ⟨_, .tup [], _, bs, rfl, hK, ⟨[], rfl, .nil⟩, hpure, hr, Step.refl _ _ _ _⟩
  · exact hpre.elim
end
end Go.Am
