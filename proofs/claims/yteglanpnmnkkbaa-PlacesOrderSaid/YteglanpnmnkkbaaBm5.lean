/- Changes of abstract memory. -/
import Derived.Test.YteglanpnmnkkbaaBm4
namespace Go.Am
set_option linter.unusedVariables false
open Go.RowKit

section
variable {w : World} {M0 : Nat → Prop} {bs : Bs} {hp : List Blk}

theorem at_lt {id b : Nat} (h : bs.at id = some b) : id < bs.length := by
  unfold Bs.at at h
  rcases Nat.lt_or_ge id bs.length with h' | h'
  · exact h'
  · rw [List.getElem?_eq_none h'] at h; cases h
theorem look_lt {id : Nat} (h : Blk.look hp id ≠ .dead) : id < hp.length := by
  unfold Blk.look at h
  rcases Nat.lt_or_ge id hp.length with h' | h'
  · exact h'
  · rw [List.getElem?_eq_none h'] at h; exact absurd rfl h
theorem at_push (x : Option Nat) (id : Nat) : Bs.at (bs ++ [x]) id = if id = bs.length then x else bs.at id := by
  unfold Bs.at
  rcases Nat.lt_trichotomy id bs.length with h | h | h
  · rw [List.getElem?_append_left h, if_neg (by omega)]
  · subst h; simp
  · rw [List.getElem?_eq_none (by simp; omega), List.getElem?_eq_none (by omega), if_neg (by omega)]
theorem look_push (x : Blk) (id : Nat) : Blk.look (hp ++ [x]) id = if id = hp.length then x else Blk.look hp id := by
  unfold Blk.look
  rcases Nat.lt_trichotomy id hp.length with h | h | h
  · rw [List.getElem?_append_left h, if_neg (by omega)]
  · subst h; simp
  · rw [List.getElem?_eq_none (by simp; omega), List.getElem?_eq_none (by omega), if_neg (by omega)]
theorem at_set (i : Nat) (x : Option Nat) (id : Nat) (hi : i < bs.length) : Bs.at (bs.set i x) id = if id = i then x else bs.at id := by
  unfold Bs.at
  by_cases h : id = i
  · subst h; simp [hi]
  · rw [List.getElem?_set_ne (Ne.symm h), if_neg h]
theorem look_set (i : Nat) (x : Blk) (id : Nat) (hi : i < hp.length) : Blk.look (hp.set i x) id = if id = i then x else Blk.look hp id := by
  unfold Blk.look
  by_cases h : id = i
  · subst h; simp [hi]
  · rw [List.getElem?_set_ne (Ne.symm h), if_neg h]

/-- The world goes on; abstract memory does not. -/
theorem HR.keep (hr : HR w M0 bs hp) {w' : World} (he : Evo (Mof M0 bs) (Mof M0 bs) w w') (hs : ∀ id b, bs.at id = some b → w'.heap[b]? = w.heap[b]?) (ho : ∀ b, b < w.heap.size → (∀ id, bs.at id ≠ some b) → w'.heap[b]? = w.heap[b]?) :
    HR w' M0 bs hp ∧ Step false w (Mof M0 bs) bs hp w' (Mof M0 bs) bs hp := by
  have hst : Step false w (Mof M0 bs) bs hp w' (Mof M0 bs) bs hp :=
    ⟨he, Nat.le_refl _, fun id cs _ h => ⟨⟨cs, h⟩, rfl⟩, fun id b k u es h1 h2 => ⟨h1, es, h2⟩, fun id al cs _ h => ⟨al, cs, h, .inr ⟨rfl, rfl, fun _ => rfl, fun b hb cap size ho => by
      obtain ⟨cur, e, h1, h2⟩ := ho
      exact ⟨cur, e, by rw [hs id b hb]; exact h1, h2⟩⟩⟩, fun _ => ⟨ho, fun _ _ h => h, fun _ _ _ _ _ h => h⟩⟩
  refine ⟨⟨hr.len, fun b hb => Nat.lt_of_lt_of_le (hr.m0 b hb) he.size, fun id b h => Nat.lt_of_lt_of_le (hr.lt id b h) he.size, hr.inj, hr.out, hr.al, ?_, ?_, ?_⟩, hst⟩
  · intro id cs hl
    obtain ⟨b, cur, e, h1, h2, h3, h4⟩ := hr.cells id cs hl
    refine ⟨b, cur, e, h1, by rw [hs id b h1]; exact h2, h3, fun j x hj => ?_⟩
    obtain ⟨u, k1, k2, k3⟩ := h4 j x hj
    exact ⟨u, k1, k2, relSV_step hst x u k3⟩
  · intro id al cs b hl hb
    obtain ⟨cur, e, h2, h4⟩ := hr.arr id al cs b hl hb
    refine ⟨cur, e, by rw [hs id b hb]; exact h2, fun j x hj => ?_⟩
    obtain ⟨u, k1, k2, k3⟩ := h4 j x hj
    exact ⟨u, k1, k2, relSV_step hst x u k3⟩
  · intro id k v es hl
    obtain ⟨b, ents, clock, h1, h2, h3⟩ := hr.map id k v es hl
    exact ⟨b, ents, clock, h1, by rw [hs id b h1]; exact h2, h3.imp fun x m hm => ⟨rep_evo he _ _ _ hm.1, rep_evo he _ _ _ hm.2⟩⟩

theorem HR.keep_alloc (hr : HR w M0 bs hp) (o : Obj) : HR (w.alloc o) M0 bs hp ∧ Step false w (Mof M0 bs) bs hp (w.alloc o) (Mof M0 bs) bs hp :=
  hr.keep (Evo.alloc _ _ _) (fun id b hb => Below.heap_alloc w o b (hr.lt id b hb)) (fun b hb _ => Below.heap_alloc w o b hb)
theorem HR.keep_drew (hr : HR w M0 bs hp) : HR { w with drawn := w.drawn + 1 } M0 bs hp ∧ Step false w (Mof M0 bs) bs hp { w with drawn := w.drawn + 1 } (Mof M0 bs) bs hp :=
  hr.keep (Evo.drew _ _) (fun _ _ _ => rfl) (fun _ _ _ => rfl)

/-- What a block of memory must be for an abstract one. -/
def IsBlk (w : World) (M : Nat → Prop) (bs : Bs) (hp : List Blk) (o : Obj) : Blk → Prop
  | .dead => False
  | .trace .. => False
  | .cells cs => ∃ cur e, o = .cells cur e (0, 0) ∧ cs.length = cur.size ∧ ∀ (j : Nat) (x : SV), cs[j]? = some x → ∃ u, cur[j]? = some u ∧ u.oneCell' = true ∧ relSV w M bs hp x u
  | .arr _ cs => ∃ cur e, o = .cells cur e (0, 0) ∧ ∀ (j : Nat) (x : SV), cs[j]? = some x → ∃ u, cur[j]? = some u ∧ u.oneCell' = true ∧ relSV w M bs hp x u
  | .map k v es => ∃ ents clock, o = .map ents clock ∧ All2 (fun x (m : MapEntry) => rep w M k x.1 [m.key] ∧ rep w M v x.2 [m.val]) es ents.toList

theorem Mof_push (x : Option Nat) (b : Nat) : Mof M0 (bs ++ [x]) b ↔ Mof M0 bs b ∨ x = some b := by
  unfold Mof
  constructor
  · rintro (h | ⟨id, h⟩)
    · exact .inl (.inl h)
    · rw [at_push] at h
      split at h
      · exact .inr h
      · exact .inl (.inr ⟨id, h⟩)
  · rintro ((h | ⟨id, h⟩) | h)
    · exact .inl h
    · refine .inr ⟨id, ?_⟩
      rw [at_push, if_neg (by have := at_lt h; omega)]; exact h
    · exact .inr ⟨bs.length, by rw [at_push, if_pos rfl]; exact h⟩

/-- A new block of abstract memory. -/
theorem HR.push (hr : HR w M0 bs hp) (o : Obj) (k : Blk) (hk : IsBlk w (Mof M0 bs) bs hp o k) :
    HR (w.alloc o) M0 (bs ++ [some w.heap.size]) (hp ++ [k]) ∧ Step false w (Mof M0 bs) bs hp (w.alloc o) (Mof M0 (bs ++ [some w.heap.size])) (bs ++ [some w.heap.size]) (hp ++ [k]) := by
  have he : Evo (Mof M0 bs) (Mof M0 (bs ++ [some w.heap.size])) w (w.alloc o) :=
    ⟨rfl, rfl, rfl, by simp, Nat.le_refl _, fun b hb _ => Below.heap_alloc w o b hb, fun b hb hn hm => by
      rcases (Mof_push _ _).1 hm with h | h
      · exact hn h
      · injection h with h; omega⟩
  have hat : ∀ id b, bs.at id = some b → Bs.at (bs ++ [some w.heap.size]) id = some b := fun id b h => by rw [at_push, if_neg (by have := at_lt h; omega)]; exact h
  have hlk : ∀ id, id < hp.length → Blk.look (hp ++ [k]) id = Blk.look hp id := fun id h => by rw [look_push, if_neg (by omega)]
  have hlk' : ∀ id, Blk.look hp id ≠ .dead → Blk.look (hp ++ [k]) id = Blk.look hp id := fun id h => hlk id (look_lt h)
  have hst : Step false w (Mof M0 bs) bs hp (w.alloc o) (Mof M0 (bs ++ [some w.heap.size])) (bs ++ [some w.heap.size]) (hp ++ [k]) := by
    refine ⟨he, by simp, fun id cs h1 h2 => ⟨⟨cs, by rw [← hlk id h1]; exact h2⟩, by rw [at_push, if_neg (by have := hr.len; omega)]⟩, fun id b k u es h1 h2 => ⟨hat id b h1, es, by rw [hlk' id (by rw [h2]; simp)]; exact h2⟩, ?_, fun _ => ⟨fun b hb _ => Below.heap_alloc w o b hb, fun b hb hn id h => by
      rw [at_push] at h
      split at h
      · injection h with h; omega
      · exact hn id h, fun id l xs i st h => by
      rw [look_push] at h
      split at h
      · subst h; exact hk.elim
      · exact h⟩⟩
    intro id al cs hid hl
    rw [hlk id hid] at hl
    refine ⟨al, cs, hl, .inr ⟨rfl, by rw [at_push, if_neg (by have := hr.len; omega)], fun _ => rfl, fun b hb cap size ho => ?_⟩⟩
    obtain ⟨cur, e, h1, h2⟩ := ho
    exact ⟨cur, e, by rw [Below.heap_alloc w o b (hr.lt id b hb)]; exact h1, h2⟩
  have hnew : (w.alloc o).heap[w.heap.size]? = some o := by show (w.heap.push o)[w.heap.size]? = some o; simp
  refine ⟨⟨by simp [hr.len], fun b hb => Nat.lt_of_lt_of_le (hr.m0 b hb) he.size, ?_, ?_, ?_, ?_, ?_, ?_, ?_⟩, hst⟩
  · intro id b h
    rw [at_push] at h
    split at h
    · injection h with h; subst h; simp
    · exact Nat.lt_of_lt_of_le (hr.lt id b h) he.size
  · intro i j b h1 h2
    rw [at_push] at h1 h2
    split at h1 <;> split at h2
    · omega
    · injection h1 with h1; have := hr.lt j b h2; omega
    · injection h2 with h2; have := hr.lt i b h1; omega
    · exact hr.inj i j b h1 h2
  · intro id b h hm
    rw [at_push] at h
    split at h
    · injection h with h; have := hr.m0 b hm; omega
    · exact hr.out id b h hm
  · intro id cs h
    rw [look_push] at h
    split at h
    · rename_i e
      exact ⟨w.heap.size, by rw [at_push, if_pos (by have := hr.len; omega)]⟩
    · obtain ⟨b, hb⟩ := hr.al id cs h
      exact ⟨b, hat id b hb⟩
  · intro id cs hl
    rw [look_push] at hl
    split at hl
    · rename_i e
      subst hl
      obtain ⟨cur, e', rfl, h2, h3⟩ := hk
      refine ⟨w.heap.size, cur, e', by rw [at_push, if_pos (by have := hr.len; omega)], hnew, h2, fun j x hj => ?_⟩
      obtain ⟨u, k1, k2, k3⟩ := h3 j x hj
      exact ⟨u, k1, k2, relSV_step hst x u k3⟩
    · obtain ⟨b, cur, e, h1, h2, h3, h4⟩ := hr.cells id cs hl
      refine ⟨b, cur, e, hat id b h1, by rw [Below.heap_alloc w o b (hr.lt id b h1)]; exact h2, h3, fun j x hj => ?_⟩
      obtain ⟨u, k1, k2, k3⟩ := h4 j x hj
      exact ⟨u, k1, k2, relSV_step hst x u k3⟩
  · intro id al cs b hl hb
    rw [look_push] at hl
    rw [at_push] at hb
    split at hl
    · rename_i e
      subst hl
      rw [if_pos (by have := hr.len; omega)] at hb
      injection hb with hb
      subst hb
      obtain ⟨cur, e', rfl, h3⟩ := hk
      refine ⟨cur, e', hnew, fun j x hj => ?_⟩
      obtain ⟨u, k1, k2, k3⟩ := h3 j x hj
      exact ⟨u, k1, k2, relSV_step hst x u k3⟩
    · rw [if_neg (by have := hr.len; omega)] at hb
      obtain ⟨cur, e, h2, h4⟩ := hr.arr id al cs b hl hb
      refine ⟨cur, e, by rw [Below.heap_alloc w o b (hr.lt id b hb)]; exact h2, fun j x hj => ?_⟩
      obtain ⟨u, k1, k2, k3⟩ := h4 j x hj
      exact ⟨u, k1, k2, relSV_step hst x u k3⟩
  · intro id k' v es hl
    rw [look_push] at hl
    split at hl
    · rename_i e
      subst hl
      obtain ⟨ents, clock, rfl, h3⟩ := hk
      exact ⟨w.heap.size, ents, clock, by rw [at_push, if_pos (by have := hr.len; omega)], hnew, h3.imp fun x m hm => ⟨rep_evo he _ _ _ hm.1, rep_evo he _ _ _ hm.2⟩⟩
    · obtain ⟨b, ents, clock, h1, h2, h3⟩ := hr.map id k' v es hl
      exact ⟨b, ents, clock, hat id b h1, by rw [Below.heap_alloc w o b (hr.lt id b h1)]; exact h2, h3.imp fun x m hm => ⟨rep_evo he _ _ _ hm.1, rep_evo he _ _ _ hm.2⟩⟩

/-- A slice of the call's own that has no block yet. -/
theorem HR.virt (hr : HR w M0 bs hp) (cs : List SV) :
    HR w M0 (bs ++ [none]) (hp ++ [.arr false cs]) ∧ Step false w (Mof M0 bs) bs hp w (Mof M0 (bs ++ [none])) (bs ++ [none]) (hp ++ [.arr false cs]) := by
  have he : Evo (Mof M0 bs) (Mof M0 (bs ++ [none])) w w := Evo.more w fun b _ hm => by
    rcases (Mof_push _ _).1 hm with h | h
    · exact h
    · cases h
  have hat : ∀ id b, Bs.at (bs ++ [none]) id = some b ↔ bs.at id = some b := fun id b => by
    rw [at_push]
    split
    · rename_i e; subst e; constructor
      · intro h; cases h
      · intro h; have := at_lt h; omega
    · rfl
  have hlk : ∀ id, id < hp.length → Blk.look (hp ++ [.arr false cs]) id = Blk.look hp id := fun id h => by rw [look_push, if_neg (by omega)]
  have hlk' : ∀ id, Blk.look hp id ≠ .dead → Blk.look (hp ++ [.arr false cs]) id = Blk.look hp id := fun id h => hlk id (look_lt h)
  have hst : Step false w (Mof M0 bs) bs hp w (Mof M0 (bs ++ [none])) (bs ++ [none]) (hp ++ [.arr false cs]) := by
    refine ⟨he, by simp, fun id cs h1 h2 => ⟨⟨cs, by rw [← hlk id h1]; exact h2⟩, by rw [at_push, if_neg (by have := hr.len; omega)]⟩, fun id b k u es h1 h2 => ⟨(hat id b).2 h1, es, by rw [hlk' id (by rw [h2]; simp)]; exact h2⟩, ?_, fun _ => ⟨fun b hb _ => rfl, fun b hb hn id h => hn id ((hat id b).1 h), fun id l xs i st h => by
      rw [look_push] at h
      split at h
      · cases h
      · exact h⟩⟩
    intro id al cs hid hl
    rw [hlk id hid] at hl
    exact ⟨al, cs, hl, .inr ⟨rfl, by rw [at_push, if_neg (by have := hr.len; omega)], fun _ => rfl, fun b hb cap size ho => ho⟩⟩
  refine ⟨⟨by simp [hr.len], hr.m0, fun id b h => hr.lt id b ((hat id b).1 h), fun i j b h1 h2 => hr.inj i j b ((hat i b).1 h1) ((hat j b).1 h2), fun id b h => hr.out id b ((hat id b).1 h), ?_, ?_, ?_, ?_⟩, hst⟩
  · intro id cs' h
    rw [look_push] at h
    split at h
    · cases h
    · obtain ⟨b, hb⟩ := hr.al id cs' h
      exact ⟨b, (hat id b).2 hb⟩
  · intro id cs' hl
    rw [look_push] at hl
    split at hl
    · cases hl
    · obtain ⟨b, cur, e, h1, h2, h3, h4⟩ := hr.cells id cs' hl
      refine ⟨b, cur, e, (hat id b).2 h1, h2, h3, fun j x hj => ?_⟩
      obtain ⟨u, k1, k2, k3⟩ := h4 j x hj
      exact ⟨u, k1, k2, relSV_step hst x u k3⟩
  · intro id al cs' b hl hb
    have hb := (hat id b).1 hb
    rw [look_push, if_neg (by have := at_lt hb; have := hr.len; omega)] at hl
    obtain ⟨cur, e, h2, h4⟩ := hr.arr id al cs' b hl hb
    refine ⟨cur, e, h2, fun j x hj => ?_⟩
    obtain ⟨u, k1, k2, k3⟩ := h4 j x hj
    exact ⟨u, k1, k2, relSV_step hst x u k3⟩
  · intro id k' v es hl
    rw [look_push] at hl
    split at hl
    · cases hl
    · obtain ⟨b, ents, clock, h1, h2, h3⟩ := hr.map id k' v es hl
      exact ⟨b, ents, clock, (hat id b).2 h1, h2, h3.imp fun x m hm => ⟨rep_evo he _ _ _ hm.1, rep_evo he _ _ _ hm.2⟩⟩

/-- How a block may be written. -/
def Goes (w w' : World) (b : Nat) : Blk → Blk → Prop
  | .cells _, .cells _ => True
  | .arr _ cs0, .arr _ cs => cs0.length < cs.length ∨ (cs0.length = cs.length ∧ ∀ cap size, OwnAt w b cap size → OwnAt w' b cap size)
  | .map k v _, .map k' v' _ => k = k' ∧ v = v'
  | _, _ => False

/-- A block of abstract memory is written. -/
theorem HR.rewrite (hr : HR w M0 bs hp) {id b : Nat} (hb : bs.at id = some b) {w' : World} (he : Evo (Mof M0 bs) (Mof M0 bs) w w') (hs : ∀ c, c ≠ b → c < w.heap.size → w'.heap[c]? = w.heap[c]?)
    {o : Obj} (ho : w'.heap[b]? = some o) (k : Blk) (hk : IsBlk w (Mof M0 bs) bs hp o k) (hgo : Goes w w' b (Blk.look hp id) k) :
    HR w' M0 bs (hp.set id k) ∧ Step false w (Mof M0 bs) bs hp w' (Mof M0 bs) bs (hp.set id k) := by
  have hid : id < hp.length := by have := at_lt hb; have := hr.len; omega
  have hlk : ∀ j, Blk.look (hp.set id k) j = if j = id then k else Blk.look hp j := fun j => look_set id k j hid
  have hsame : ∀ j c, j ≠ id → bs.at j = some c → w'.heap[c]? = w.heap[c]? := fun j c hj hc => hs c (fun e => hj (hr.inj j id b (e ▸ hc) hb)) (hr.lt j c hc)
  have hst : Step false w (Mof M0 bs) bs hp w' (Mof M0 bs) bs (hp.set id k) := by
    refine ⟨he, by simp, ?_, ?_, ?_, fun _ => ⟨fun c hc hn => hs c (fun e => hn id (e ▸ hb)) hc, fun c hc hn => hn, fun j l xs i st h => by
      rw [hlk] at h
      split at h
      · subst h; exact hk.elim
      · exact h⟩⟩
    · intro j cs h1 h2
      refine ⟨?_, rfl⟩
      rw [hlk] at h2
      split at h2
      · rename_i e; subst e; subst h2
        cases hold : Blk.look hp j with
        | cells cs0 => exact ⟨cs0, rfl⟩
        | _ => rw [hold] at hgo; exact hgo.elim
      · exact ⟨cs, h2⟩
    · intro j c kt u es h1 h2
      refine ⟨h1, ?_⟩
      rw [hlk]
      split
      · rename_i e; subst e
        rw [h2] at hgo
        cases k <;> first | exact hgo.elim | skip
        obtain ⟨rfl, rfl⟩ := hgo
        exact ⟨_, rfl⟩
      · exact ⟨es, h2⟩
    · intro j al cs hj hl
      rw [hlk] at hl
      split at hl
      · rename_i e; subst e; subst hl
        cases hold : Blk.look hp j with
        | dead => rw [hold] at hgo; exact hgo.elim
        | cells c => rw [hold] at hgo; exact hgo.elim
        | trace l xs i st => rw [hold] at hgo; exact hgo.elim
        | map k' v' es' => rw [hold] at hgo; exact hgo.elim
        | arr al0 cs0 =>
          rw [hold] at hgo
          refine ⟨al0, cs0, rfl, ?_⟩
          rcases hgo with h | ⟨h1, h2⟩
          · exact .inl h
          · exact .inr ⟨h1, rfl, (fun h => by rw [hb] at h; cases h), (fun c hc => by rw [hb] at hc; cases hc; exact h2)⟩
      · rename_i hne
        exact ⟨al, cs, hl, .inr ⟨rfl, rfl, fun _ => rfl, fun c hc cap size ho => by
          obtain ⟨cur, e, h1, h2⟩ := ho
          exact ⟨cur, e, by rw [hsame j c hne hc]; exact h1, h2⟩⟩⟩
  refine ⟨⟨by simp [hr.len], fun b hb => Nat.lt_of_lt_of_le (hr.m0 b hb) he.size, fun j c h => Nat.lt_of_lt_of_le (hr.lt j c h) he.size, hr.inj, hr.out, ?_, ?_, ?_, ?_⟩, hst⟩
  · intro j cs hl
    rw [hlk] at hl
    split at hl
    · rename_i e; subst e; exact ⟨b, hb⟩
    · exact hr.al j cs hl
  · intro j cs hl
    rw [hlk] at hl
    split at hl
    · rename_i e; subst e; subst hl
      obtain ⟨cur, e, rfl, h2, h3⟩ := hk
      refine ⟨b, cur, e, hb, ho, h2, fun i x hi => ?_⟩
      obtain ⟨u, k1, k2, k3⟩ := h3 i x hi
      exact ⟨u, k1, k2, relSV_step hst x u k3⟩
    · rename_i hne
      obtain ⟨c, cur, e, h1, h2, h3, h4⟩ := hr.cells j cs hl
      refine ⟨c, cur, e, h1, by rw [hsame j c hne h1]; exact h2, h3, fun i x hi => ?_⟩
      obtain ⟨u, k1, k2, k3⟩ := h4 i x hi
      exact ⟨u, k1, k2, relSV_step hst x u k3⟩
  · intro j al cs c hl hc
    rw [hlk] at hl
    split at hl
    · rename_i e; subst e; subst hl
      rw [hb] at hc; cases hc
      obtain ⟨cur, e, rfl, h3⟩ := hk
      refine ⟨cur, e, ho, fun i x hi => ?_⟩
      obtain ⟨u, k1, k2, k3⟩ := h3 i x hi
      exact ⟨u, k1, k2, relSV_step hst x u k3⟩
    · rename_i hne
      obtain ⟨cur, e, h2, h4⟩ := hr.arr j al cs c hl hc
      refine ⟨cur, e, by rw [hsame j c hne hc]; exact h2, fun i x hi => ?_⟩
      obtain ⟨u, k1, k2, k3⟩ := h4 i x hi
      exact ⟨u, k1, k2, relSV_step hst x u k3⟩
  · intro j kt v es hl
    rw [hlk] at hl
    split at hl
    · rename_i e; subst e; subst hl
      obtain ⟨ents, clock, rfl, h3⟩ := hk
      exact ⟨b, ents, clock, hb, ho, h3.imp fun x m hm => ⟨rep_evo he _ _ _ hm.1, rep_evo he _ _ _ hm.2⟩⟩
    · rename_i hne
      obtain ⟨c, ents, clock, h1, h2, h3⟩ := hr.map j kt v es hl
      exact ⟨c, ents, clock, h1, by rw [hsame j c hne h1]; exact h2, h3.imp fun x m hm => ⟨rep_evo he _ _ _ hm.1, rep_evo he _ _ _ hm.2⟩⟩

theorem Mof_set {id nb : Nat} (hid : id < bs.length) (b : Nat) (h : Mof M0 (bs.set id (some nb)) b) : Mof M0 bs b ∨ b = nb := by
  rcases h with h | ⟨j, h⟩
  · exact .inl (.inl h)
  · rw [at_set _ _ _ hid] at h
    split at h
    · injection h with h; exact .inr h.symm
    · exact .inl (.inr ⟨j, h⟩)

/-- A slice of the call's own that grows moves to a new block. -/
theorem HR.move (hr : HR w M0 bs hp) {id : Nat} {al0 : Bool} {cs0 : List SV} (hl0 : Blk.look hp id = .arr al0 cs0) (o : Obj) (al : Bool) (cs : List SV) (hlen : cs0.length < cs.length)
    (hk : IsBlk w (Mof M0 bs) bs hp o (.arr al cs)) :
    HR (w.alloc o) M0 (bs.set id (some w.heap.size)) (hp.set id (.arr al cs)) ∧ Step false w (Mof M0 bs) bs hp (w.alloc o) (Mof M0 (bs.set id (some w.heap.size))) (bs.set id (some w.heap.size)) (hp.set id (.arr al cs)) := by
  have hid : id < hp.length := look_lt (by rw [hl0]; simp)
  have hid' : id < bs.length := by have := hr.len; omega
  have hlk : ∀ j, Blk.look (hp.set id (.arr al cs)) j = if j = id then .arr al cs else Blk.look hp j := fun j => look_set id _ j hid
  have hat : ∀ j, Bs.at (bs.set id (some w.heap.size)) j = if j = id then some w.heap.size else bs.at j := fun j => at_set id _ j hid'
  have he : Evo (Mof M0 bs) (Mof M0 (bs.set id (some w.heap.size))) w (w.alloc o) :=
    ⟨rfl, rfl, rfl, by simp, Nat.le_refl _, fun b hb _ => Below.heap_alloc w o b hb, fun b hb hn hm => by
      rcases Mof_set hid' b hm with h | h
      · exact hn h
      · omega⟩
  have hst : Step false w (Mof M0 bs) bs hp (w.alloc o) (Mof M0 (bs.set id (some w.heap.size))) (bs.set id (some w.heap.size)) (hp.set id (.arr al cs)) := by
    refine ⟨he, by simp, ?_, ?_, ?_, fun _ => ⟨fun b hb _ => Below.heap_alloc w o b hb, fun b hb hn j h => by
      rw [hat] at h
      split at h
      · injection h with h; omega
      · exact hn j h, fun j l xs i st h => by
      rw [hlk] at h
      split at h
      · cases h
      · exact h⟩⟩
    · intro j cs' h1 h2
      have hne : j ≠ id := fun e => by subst e; rw [hlk, if_pos rfl] at h2; cases h2
      rw [hlk, if_neg hne] at h2
      rw [hat, if_neg hne]
      exact ⟨⟨cs', h2⟩, rfl⟩
    · intro j c k u es h1 h2
      have hne : j ≠ id := fun e => by subst e; rw [hl0] at h2; cases h2
      rw [hat, hlk, if_neg hne, if_neg hne]
      exact ⟨h1, es, h2⟩
    · intro j al' cs' hj hl
      rw [hlk] at hl
      split at hl
      · rename_i e; subst e; cases hl
        exact ⟨al0, cs0, hl0, .inl hlen⟩
      · rename_i hne
        exact ⟨al', cs', hl, .inr ⟨rfl, by rw [hat, if_neg hne], fun _ => rfl, fun c hc cap size ho => by
          obtain ⟨cur, e, h1, h2⟩ := ho
          exact ⟨cur, e, by rw [Below.heap_alloc w o c (hr.lt j c hc)]; exact h1, h2⟩⟩⟩
  have hnew : (w.alloc o).heap[w.heap.size]? = some o := by show (w.heap.push o)[w.heap.size]? = some o; simp
  refine ⟨⟨by simp [hr.len], fun b hb => Nat.lt_of_lt_of_le (hr.m0 b hb) he.size, ?_, ?_, ?_, ?_, ?_, ?_, ?_⟩, hst⟩
  · intro j b h
    rw [hat] at h
    split at h
    · injection h with h; subst h; simp
    · exact Nat.lt_of_lt_of_le (hr.lt j b h) he.size
  · intro i j b h1 h2
    rw [hat] at h1 h2
    split at h1 <;> split at h2
    · omega
    · injection h1 with h1; have := hr.lt j b h2; omega
    · injection h2 with h2; have := hr.lt i b h1; omega
    · exact hr.inj i j b h1 h2
  · intro j b h hm
    rw [hat] at h
    split at h
    · injection h with h; have := hr.m0 b hm; omega
    · exact hr.out j b h hm
  · intro j cs' h
    rw [hlk] at h
    rw [hat]
    split at h
    · rename_i e; exact ⟨_, by rw [if_pos e]⟩
    · rename_i hne
      obtain ⟨b, hb⟩ := hr.al j cs' h
      exact ⟨b, by rw [if_neg hne]; exact hb⟩
  · intro j cs' hl
    rw [hlk] at hl
    split at hl
    · cases hl
    · rename_i hne
      obtain ⟨b, cur, e, h1, h2, h3, h4⟩ := hr.cells j cs' hl
      refine ⟨b, cur, e, by rw [hat, if_neg hne]; exact h1, by rw [Below.heap_alloc w o b (hr.lt j b h1)]; exact h2, h3, fun i x hi => ?_⟩
      obtain ⟨u, k1, k2, k3⟩ := h4 i x hi
      exact ⟨u, k1, k2, relSV_step hst x u k3⟩
  · intro j al' cs' b hl hb
    rw [hlk] at hl
    rw [hat] at hb
    split at hl
    · rename_i e
      cases hl
      rw [if_pos e] at hb
      injection hb with hb
      subst hb
      obtain ⟨cur, e', rfl, h3⟩ := hk
      refine ⟨cur, e', hnew, fun i x hi => ?_⟩
      obtain ⟨u, k1, k2, k3⟩ := h3 i x hi
      exact ⟨u, k1, k2, relSV_step hst x u k3⟩
    · rename_i hne
      rw [if_neg hne] at hb
      obtain ⟨cur, e, h2, h4⟩ := hr.arr j al' cs' b hl hb
      refine ⟨cur, e, by rw [Below.heap_alloc w o b (hr.lt j b hb)]; exact h2, fun i x hi => ?_⟩
      obtain ⟨u, k1, k2, k3⟩ := h4 i x hi
      exact ⟨u, k1, k2, relSV_step hst x u k3⟩
  · intro j k' v es hl
    rw [hlk] at hl
    split at hl
    · cases hl
    · rename_i hne
      obtain ⟨b, ents, clock, h1, h2, h3⟩ := hr.map j k' v es hl
      exact ⟨b, ents, clock, by rw [hat, if_neg hne]; exact h1, by rw [Below.heap_alloc w o b (hr.lt j b h1)]; exact h2, h3.imp fun x m hm => ⟨rep_evo he _ _ _ hm.1, rep_evo he _ _ _ hm.2⟩⟩

end
end Go.Am
