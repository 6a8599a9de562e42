/- A slice of the call's own, frozen as soon as it is made. -/
import Derived.Test.YteglanpnmnkkbaaBm7
namespace Go.Am
set_option linter.unusedVariables false
open Go.RowKit

theorem parses_flat (t : Ty) : ∀ (x : t.T) (l : List SV), t.parse (t.flat x ++ l) = some (x, l) := by
  induction t with
  | int k => intro x l; simp [Ty.flat, Ty.parse]
  | bool => intro x l; simp [Ty.flat, Ty.parse]
  | str => intro x l; simp [Ty.flat, Ty.parse]
  | fn => intro x l; simp [Ty.flat, Ty.parse]
  | slice t => intro x l; simp [Ty.flat, Ty.parse]
  | nil => intro x l; simp [Ty.flat, Ty.parse]
  | cons t r iht ihr =>
    intro x l
    simp only [Ty.flat, Ty.parse, List.append_assoc]
    rw [iht, ]
    simp only [ihr]
theorem parses_flats (t : Ty) (xs : List t.T) : t.parses xs.length (t.flats xs) = some xs := by
  induction xs with
  | nil => rfl
  | cons x xs ih => simp only [List.length_cons, Ty.parses, Ty.flats, parses_flat, ih]

/-- A block that abstract memory lets go. -/
theorem kill_blkH {w : World} {M0 : Nat → Prop} {bs : Bs} {hp : List Blk} (hr : HR w M0 bs hp) {id : Nat} (hid : id < hp.length) (hnm : ∀ k u es, Blk.look hp id ≠ .map k u es) :
    HR w M0 (bs.set id none) (hp.set id .dead) ∧ Step false w (Mof M0 bs) bs hp w (Mof M0 (bs.set id none)) (bs.set id none) (hp.set id .dead) ∧
      (∀ j b, Bs.at (bs.set id none) j = some b → j ≠ id ∧ bs.at j = some b) ∧ Evo (Mof M0 bs) (Mof M0 (bs.set id none)) w w := by
  have hid' : id < bs.length := by rw [hr.len]; exact hid
  have hat : ∀ j, Bs.at (bs.set id none) j = if j = id then none else bs.at j := fun j => at_set id _ j hid'
  have hlk : ∀ j, Blk.look (hp.set id .dead) j = if j = id then .dead else Blk.look hp j := fun j => look_set id _ j hid
  have hat' : ∀ j b, Bs.at (bs.set id none) j = some b → j ≠ id ∧ bs.at j = some b := by
    intro j b h
    rw [hat] at h
    split at h
    · cases h
    · exact ⟨by assumption, h⟩
  have hlk' : ∀ j x, Blk.look (hp.set id .dead) j = x → x ≠ .dead → j ≠ id ∧ Blk.look hp j = x := by
    intro j x h hne
    rw [hlk] at h
    split at h
    · exact absurd h.symm hne
    · exact ⟨by assumption, h⟩
  have hmof : ∀ b, Mof M0 (bs.set id none) b → Mof M0 bs b := by
    rintro b (h | ⟨j, h⟩)
    · exact .inl h
    · exact .inr ⟨j, (hat' j b h).2⟩
  have he : Evo (Mof M0 bs) (Mof M0 (bs.set id none)) w w := Evo.more w fun b _ => hmof b
  have hst : Step false w (Mof M0 bs) bs hp w (Mof M0 (bs.set id none)) (bs.set id none) (hp.set id .dead) := by
    refine ⟨he, by simp, ?_, ?_, ?_, fun _ => ⟨fun _ _ _ => rfl, fun b hb hn j h => hn j (hat' j b h).2, fun j l ys i st h => ?_⟩⟩
    · intro j cs h1 h2
      obtain ⟨hne, h2⟩ := hlk' j _ h2 (by simp)
      exact ⟨⟨cs, h2⟩, by rw [hat, if_neg hne]⟩
    · intro j b k u es h1 h2
      have hne : j ≠ id := fun e => by subst e; exact hnm _ _ _ h2
      rw [hat, hlk, if_neg hne, if_neg hne]
      exact ⟨h1, es, h2⟩
    · intro j al' cs' hj h
      obtain ⟨hne, h⟩ := hlk' j _ h (by simp)
      exact ⟨al', cs', h, .inr ⟨rfl, by rw [hat, if_neg hne], fun _ => rfl, fun c hc cap size ho => ho⟩⟩
    · exact (hlk' j _ h (by simp)).2
  refine ⟨⟨by simp [hr.len], hr.m0, fun j b h => hr.lt j b (hat' j b h).2, fun i j b h1 h2 => hr.inj i j b (hat' i b h1).2 (hat' j b h2).2, fun j b h => hr.out j b (hat' j b h).2, ?_, ?_, ?_, ?_⟩, hst, hat', he⟩
  · intro j cs h
    obtain ⟨hne, h⟩ := hlk' j _ h (by simp)
    obtain ⟨b, hb⟩ := hr.al j cs h
    exact ⟨b, by rw [hat, if_neg hne]; exact hb⟩
  · intro j cs h
    obtain ⟨hne, h⟩ := hlk' j _ h (by simp)
    obtain ⟨b, cur, e, h1, h2, h3, h4⟩ := hr.cells j cs h
    refine ⟨b, cur, e, by rw [hat, if_neg hne]; exact h1, h2, h3, fun i x hi => ?_⟩
    obtain ⟨u, k1, k2, k3⟩ := h4 i x hi
    exact ⟨u, k1, k2, relSV_step hst x u k3⟩
  · intro j al' cs b h hb
    obtain ⟨hne, h⟩ := hlk' j _ h (by simp)
    obtain ⟨cur, e, h2, h4⟩ := hr.arr j al' cs b h (hat' j b hb).2
    refine ⟨cur, e, h2, fun i x hi => ?_⟩
    obtain ⟨u, k1, k2, k3⟩ := h4 i x hi
    exact ⟨u, k1, k2, relSV_step hst x u k3⟩
  · intro j k v es h
    obtain ⟨hne, h⟩ := hlk' j _ h (by simp)
    obtain ⟨b, ents, clock, h1, h2, h3⟩ := hr.map j k v es h
    exact ⟨b, ents, clock, by rw [hat, if_neg hne]; exact h1, h2, h3.imp fun x m hm => ⟨rep_evo he _ _ _ hm.1, rep_evo he _ _ _ hm.2⟩⟩

/-- A slice of the call's own that nobody writes any more. -/
theorem freeze_blkH {w : World} {M0 : Nat → Prop} {bs : Bs} {hp : List Blk} (hr : HR w M0 bs hp) {id : Nat} {al : Bool} {t : Ty} {xs : List t.T} (hl : Blk.look hp id = .arr al (t.flats xs)) :
    HR w M0 (bs.set id none) (hp.set id .dead) ∧ Step false w (Mof M0 bs) bs hp w (Mof M0 (bs.set id none)) (bs.set id none) (hp.set id .dead) ∧
      ∀ v, relSV w (Mof M0 bs) bs hp (.own t id xs.length) v → relSV w (Mof M0 (bs.set id none)) (bs.set id none) (hp.set id .dead) (.sl t xs false) v := by
  have hid : id < hp.length := look_lt (by rw [hl]; simp)
  obtain ⟨g1, g3, hat', he⟩ := kill_blkH hr hid (by rw [hl]; intro _ _ _ h; cases h)
  refine ⟨g1, g3, ?_⟩
  · intro v hv
    rcases (hv.2 al _ hl).2 (flats_length t xs) with ⟨b, cap, k1, rfl, k3, k4⟩ | ⟨k1, ys, a, k2, k3, k4, rfl, k6⟩
    · obtain ⟨cur, e, q1, q2⟩ := hr.arr id al _ b hl k1
      obtain ⟨cur', e', q3, q4, q5⟩ := k4
      rw [q1] at q3
      injection q3 with q3; injection q3 with q3 _ _
      subst q3
      refine ⟨some ⟨b, 0, none⟩, cap, rfl, k3, q5, by simp, .inr ⟨b, 0, rfl, ?_, hr.lt id b k1, fun i x hi => ?_⟩⟩
      · rintro (h | ⟨j, h⟩)
        · exact hr.out id b k1 h
        · obtain ⟨hne, h⟩ := hat' j b h
          exact hne (hr.inj j id b h k1)
      · have hus : ∃ us : List Value, All2 (relSV w (Mof M0 bs) bs hp) (t.flats xs) us ∧ ∀ (j : Nat) (v : Value), us[j]? = some v → cur[j]? = some v := by
          refine ⟨cur.toList.take (t.flats xs).length, All2.of_get ?_ (fun i x u hx hu => ?_), fun j v hj => ?_⟩
          · have h1 : cur.toList.length = cap * t.size := by rw [Array.length_toList]; exact q4
            have := Nat.mul_le_mul_right t.size k3
            rw [List.length_take, h1, flats_length]
            omega
          · obtain ⟨u', r1, r2, r3⟩ := q2 i x hx
            have hi := (List.getElem?_eq_some_iff.1 hx).1
            rw [List.getElem?_take_of_lt hi, Array.getElem?_toList, r1] at hu
            cases hu; exact r3
          · have hj' : j < (t.flats xs).length := by
              have := (List.getElem?_eq_some_iff.1 hj).1
              rw [List.length_take] at this
              omega
            rw [List.getElem?_take_of_lt hj', Array.getElem?_toList] at hj
            exact hj
        obtain ⟨us, r1, r2⟩ := hus
        obtain ⟨s1, s2⟩ := parses_rows t xs.length _ xs us (parses_flats t xs) r1
        obtain ⟨cs', t1, t2, t3⟩ := s2 i x hi
        refine ⟨cs', t1, rep_evo he _ _ _ t2, fun j v hj => ?_⟩
        have := r2 _ _ (t3 j v hj)
        simp only [World.cell?, q1, Nat.zero_add]
        exact this
    · have : ys = xs := by
        have h1 := parses_flats t xs
        rw [k4, ← k2, parses_flats] at h1
        injection h1
      subst this
      exact ⟨a, ys.length, rfl, Nat.le_refl _, k3, by simp, k6.evo he⟩


/-- Rows of cells, read back. -/
def Ty.unfl (t : Ty) (n : Nat) (cs : List SV) : Option (List t.T) := t.parses n cs
theorem unfl_flats {t : Ty} {xs : List t.T} {n : Nat} (h : xs.length = n) : t.unfl n (t.flats xs) = some xs := by subst h; exact parses_flats t xs
/-- What an operation has made is frozen at once. -/
def fzEv (r : Prop × RV × List Blk) : Prop × RV × List Blk :=
  match r with
  | (p, .v (.s (.own ty id n)), hp) => match Blk.look hp id with
    | .arr _ cs => match ty.unfl n cs with
      | some xs => (p ∧ cs = ty.flats xs ∧ n = xs.length, .v (.s (.sl ty xs false)), hp.set id .dead)
      | none => nope hp
    | _ => nope hp
  | (_, _, hp) => nope hp
def isFz (g : G) : Operand → Bool
  | .tmp n => g.fz.contains n
  | _ => false
theorem Did.fz {w : World} {M0 : Nat → Prop} {bs : Bs} {hp : List Blk} {res : Result Next} {p : Prop} {rv : RV} {hp' : List Blk} (h : p → Did w M0 bs hp res rv hp') (hk : (fzEv (p, rv, hp')).1) : Did w M0 bs hp res (fzEv (p, rv, hp')).2.1 (fzEv (p, rv, hp')).2.2 := by
  unfold fzEv at hk ⊢
  split at hk
  · rename_i p' ty id n hp'' heq
    injection heq with e1 heq
    injection heq with e2 e3
    subst e1; subst e2; subst e3
    split at hk
    · rename_i al cs hl
      split at hk
      · rename_i xs hpz
        obtain ⟨k1, k2, k3⟩ := hk
        subst k3
        rw [k2] at hl
        obtain ⟨z, w', bs', hres, hrel, hr', hst⟩ := h k1
        obtain ⟨g1, g2, g3⟩ := freeze_blkH hr' hl
        simp only [hl, Ty.unfl, parses_flats]
        exact ⟨z, w', bs'.set id none, hres, g3 z hrel, g1, hst.trans g2⟩
      · simp [nope] at hk
    · simp [nope] at hk
  · simp [nope] at hk

end Go.Am
