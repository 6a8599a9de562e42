/- Operations that make or change memory: what they do to abstract memory. -/
import Derived.Test.YteglanpnmnkkbaaBm5
namespace Go.Am
set_option linter.unusedVariables false
open Go.RowKit

/-- cs laid into l at off. -/
def spl {α : Type} (l : List α) (off : Nat) (cs : List α) : List α := l.take off ++ cs ++ l.drop (off + cs.length)

def AV.good (hp : List Blk) : AV → Bool
  | .s .any => false
  | .s (.val v) => v.oneCell'
  | .s (.own t id n) => match Blk.look hp id with
    | .arr _ cs => cs.length == n * t.size
    | _ => false
  | .s (.eown _ _ _ _) => false
  | .s (.box id _) => match Blk.look hp id with
    | .cells _ => true
    | _ => false
  | _ => true

/-- Parts laid into cells. place: offset and size. -/
def fillSV (hp : List Blk) (place : Nat → Option (Nat × Nat)) : List SV → List (Nat × AV) → Option (List SV)
  | l, [] => some l
  | l, (i, v) :: r => match place i with
    | none => none
    | some (off, size) => if v.good hp = true ∧ v.cells.length = size ∧ off + size ≤ l.length then fillSV hp place (spl l off v.cells) r else none

def Ty.parses (t : Ty) : Nat → List SV → Option (List t.T)
  | 0, [] => some []
  | 0, _ :: _ => none
  | n + 1, l => match t.parse l with
    | some (x, r) => match t.parses n r with
      | some xs => some (x :: xs)
      | none => none
    | none => none

abbrev coeA (g : G) (t : TypeId) (x : RV) : AV := (coe g t x).av

def nope (hp : List Blk) : Prop × RV × List Blk := (False, .v (.s .any), hp)

def zsvOf : TD → List SV
  | .sc ty => ty.zsv
  | .slice _ ety _ => [.sl ety [] true]
  | .struct ty => ty.zsv
  | .func => [.fv .nofn]
  | _ => []

def allocEv (g : G) (hp : List Blk) (t : TypeId) : Prop × RV × List Blk :=
  match g.td t with
  | .sc ty => (True, .v (.s (.box hp.length 0)), hp ++ [.cells ty.zsv])
  | .slice _ ety _ => (True, .v (.s (.box hp.length 0)), hp ++ [.cells [.sl ety [] true]])
  | .struct ty => (True, .v (.s (.box hp.length 0)), hp ++ [.cells ty.zsv])
  | .func => (True, .v (.s (.box hp.length 0)), hp ++ [.cells [.fv .nofn]])
  | .arr n _ ety => (True, .v (.s (.box hp.length 0)), hp ++ [.cells (List.replicate n ety.zsv).flatten])
  | _ => nope hp

def boxEv (hp : List Blk) (x : AV) : Prop × RV × List Blk := (x.good hp = true, .v (.s (.box hp.length 0)), hp ++ [.cells x.cells])

def sizeTD : TD → Nat
  | .struct ty => ty.size
  | .arr n _ ety => n * ety.size
  | _ => 1

def storeEv (g : G) (hp : List Blk) (t : TypeId) (a x : AV) : Prop × RV × List Blk :=
  match a with
  | .s (.box id off) => match Blk.look hp id with
    | .cells cs => (x.good hp = true ∧ x.cells.length = sizeTD (g.td t) ∧ off + x.cells.length ≤ cs.length, .v (.s .any), hp.set id (.cells (spl cs off x.cells)))
    | _ => nope hp
  | .s (.eown ty id n off) => match Blk.look hp id with
    | .arr al cs => (x.good hp = true ∧ cs.length = n * ty.size ∧ x.cells.length = sizeTD (g.td t) ∧ off + x.cells.length ≤ cs.length, .v (.s .any), hp.set id (.arr al (spl cs off x.cells)))
    | _ => nope hp
  | _ => nope hp

def buildSliceEv (g : G) (hp : List Blk) (t : TypeId) (len : Nat) (ps : List (Nat × AV)) : Prop × RV × List Blk :=
  match g.td t with
  | .slice _ ety _ => match fillSV hp (fun i => some (i * ety.size, ety.size)) (List.replicate (len * ety.size) .any) (ps.map fun p => (p.1, coeTy ety p.2)) with
    | some cells => match ety.parses len cells with
      | some xs => (len * ety.size ≤ 16777216, .v (.s (.sl ety xs true)), hp)
      | none => nope hp
    | none => nope hp
  | _ => nope hp

def buildEv (g : G) (hp : List Blk) (t : TypeId) (ps : List (Nat × AV)) : Prop × RV × List Blk :=
  match g.td t with
  | .struct ty => match fillSV hp (fun f => if f < ty.nfld then some (ty.off f, (ty.fld f).size) else none) ty.zsv (ps.map fun p => (p.1, coeTy (ty.fld p.1) p.2)) with
    | some cells => (True, .v (.agg cells), hp)
    | none => nope hp
  | _ => nope hp

def appendEv (g : G) (hp : List Blk) (t : TypeId) (s y : AV) : Prop × RV × List Blk :=
  match g.td t, y with
  | .slice _ ety bytes, .s (.sl ty' ys _) => match s with
    | .s (.sl ty xs true) => (ty = ety ∧ ty' = ety ∧ (xs.length + ys.length) * bytes ≤ 140737488355328 ∧ xs.length + ys.length ≤ maxLen, .v (.s (.own ty hp.length (xs.length + ys.length))), hp ++ [.arr (!ys.isEmpty) (ty.flats xs ++ ty'.flats ys)])
    | .s (.own ty id n) => match Blk.look hp id with
      | .arr al cs => (ty = ety ∧ ty' = ety ∧ cs.length = n * ty.size ∧ (n + ys.length) * bytes ≤ 140737488355328 ∧ n + ys.length ≤ maxLen, .v (.s (.own ty id (n + ys.length))), hp.set id (.arr (al || !ys.isEmpty) (cs ++ ty'.flats ys)))
      | _ => nope hp
    | _ => nope hp
  | _, _ => nope hp

/-- make of a slice: its elements, its room. -/
def makeSliceEv (g : G) (hp : List Blk) (t : TypeId) (l c : AV) : Prop × RV × List Blk :=
  match g.td t, l, c with
  | .slice _ ety bytes, .s (.int .i64 n), .s (.int .i64 m) => (0 ≤ n ∧ n ≤ m ∧ m * bytes ≤ 140737488355328 ∧ m ≤ 140737488355328, .v (.s (.own ety hp.length n.toNat)), hp ++ [.arr true (ety.flats (List.replicate n.toNat ety.dflt))])
  | _, _, _ => nope hp

def makeMapEv (g : G) (hp : List Blk) (t : TypeId) : Prop × RV × List Blk :=
  match g.td t with
  | .map _ _ kt vt => (True, .v (.s (.mp hp.length)), hp ++ [.map kt vt []])
  | _ => nope hp

section
variable {w : World} {M : Nat → Prop} {bs : Bs} {hp : List Blk}

theorem foldl_set {α : Type} : ∀ (cs : List α) (k off : Nat) (arr : Array α), off + k + cs.length ≤ arr.size →
    ((cs.zipIdx k).foldl (fun a (c, j) => a.setIfInBounds (off + j) c) arr).toList = spl arr.toList (off + k) cs := by
  intro cs
  induction cs with
  | nil => intro k off arr _; simp [spl]
  | cons c cs ih =>
    intro k off arr h
    simp only [List.zipIdx_cons, List.foldl_cons]
    rw [ih (k + 1) off _ (by simp at h ⊢; omega)]
    simp only [List.length_cons] at h
    simp only [spl, Array.toList_setIfInBounds, List.length_cons]
    rw [show off + (k + 1) = off + k + 1 by omega]
    rw [List.take_set, List.take_succ_eq_append_getElem (by simp; omega), List.set_append_right _ _ (by simp; omega)]
    simp only [List.length_take, Array.length_toList]
    rw [show off + k - min (off + k) arr.size = 0 by omega]
    simp only [List.set_cons_zero, List.append_assoc, List.cons_append, List.nil_append]
    congr 3
    rw [List.drop_set_of_lt (by omega)]
    congr 1
    omega

theorem All2.spl {α β : Type} {R : α → β → Prop} {l : List α} {m : List β} {cs : List α} {ds : List β} (h : All2 R l m) (k : All2 R cs ds) (off : Nat) : All2 R (spl l off cs) (spl m off ds) := by
  have hl := h.length
  have hk := k.length
  have ht : ∀ n, All2 R (l.take n) (m.take n) ∧ All2 R (l.drop n) (m.drop n) := by
    clear hk k
    induction h with
    | nil => intro n; simp only [List.take_nil, List.drop_nil]; exact ⟨.nil, .nil⟩
    | cons r _ ih =>
      intro n
      cases n with
      | zero => simp only [List.take_zero, List.drop_zero]; exact ⟨.nil, .cons r (by assumption)⟩
      | succ n => obtain ⟨h1, h2⟩ := ih (by simpa using hl) n; exact ⟨by simp; exact .cons r h1, by simpa using h2⟩
  unfold Am.spl
  rw [hk]
  exact ((ht off).1.append k).append (ht (off + ds.length)).2

theorem av_cells {x : AV} {v : Value} (hg : x.good hp = true) (h : relAV w M bs hp x v) : All2 (fun x u => relSV w M bs hp x u ∧ u.oneCell' = true) x.cells v.cells.toList := by
  cases x with
  | agg cs => obtain ⟨vs, rfl, h⟩ := h; exact h
  | s x =>
    have h1 : v.oneCell' = true := by
      cases x with
      | any => simp [AV.good] at hg
      | bool b => obtain rfl : v = _ := h; rfl
      | int k n => obtain rfl : v = _ := h; rfl
      | str s => obtain rfl : v = _ := h; rfl
      | val x => obtain rfl : v = _ := h; simpa [AV.good] using hg
      | sl t xs ex => obtain ⟨a, c, rfl, _⟩ := h; rfl
      | eptr t x => obtain ⟨b, off, cs, rfl, _⟩ := h; rfl
      | box id off =>
        simp only [AV.good] at hg
        cases hl : Blk.look hp id with
        | cells cs => obtain ⟨b, _, rfl⟩ := h.2 cs hl; rfl
        | _ => simp [hl] at hg
      | own t id n =>
        simp only [AV.good] at hg
        cases hl : Blk.look hp id with
        | dead => simp [hl] at hg
        | trace l' xs' i' st' => simp [hl] at hg
        | map k u es => simp [hl] at hg
        | cells cs => simp [hl] at hg
        | arr al cs =>
          simp [hl] at hg
          rcases (h.2 al cs hl).2 hg with ⟨b, cap, _, rfl, _⟩ | ⟨_, xs, a, _, _, _, rfl, _⟩ <;> rfl
      | eown t id n off => simp [AV.good] at hg
      | fn f caps => obtain ⟨ps, rfl, _⟩ := h; rfl
      | fnp f caps => obtain ⟨ps, rfl, _⟩ := h; rfl
      | mp id => obtain ⟨b, _, _, _, _, _, rfl⟩ := h; rfl
      | ib p q => obtain ⟨b, rfl, _⟩ := h; rfl
      | fv x =>
        obtain ⟨u, e, h1⟩ := RepD.fn_one (h : RepD w M .fn x [v])
        injection e with e _
        subst e
        exact h1
    have h2 : v.cells.toList = [v] := by cases v <;> first | rfl | simp [Value.oneCell'] at h1
    rw [h2]
    exact .cons ⟨h, h1⟩ .nil
theorem spl_length {α : Type} (l : List α) (off : Nat) (cs : List α) (h : off + cs.length ≤ l.length) : (spl l off cs).length = l.length := by
  simp [spl]; omega

/-- Filling, in both worlds. -/
theorem fill_sound (R : SV → Value → Prop) (hR : ∀ x u, relSV w M bs hp x u ∧ u.oneCell' = true → R x u) (place : Nat → Option (Nat × Nat)) : ∀ (ps : List (Nat × AV)) (vs : List (Nat × Value)) (l out : List SV) (arr : Array Value),
    All2 (fun (p : Nat × AV) (q : Nat × Value) => p.1 = q.1 ∧ relAV w M bs hp p.2 q.2) ps vs → All2 R l arr.toList → fillSV hp place l ps = some out →
    ∃ res : Array Value, Instr.fill place arr vs = some res ∧ All2 R out res.toList := by
  intro ps
  induction ps with
  | nil =>
    intro vs l out arr hv hl h
    cases hv
    simp [fillSV] at h
    subst h
    exact ⟨arr, rfl, hl⟩
  | cons p ps ih =>
    intro vs l out arr hv hl h
    cases hv with
    | cons hp' hv =>
      rename_i q vs
      obtain ⟨i, x⟩ := p
      obtain ⟨j, v⟩ := q
      obtain ⟨rfl, hx⟩ := hp'
      simp only at hx
      simp only [fillSV] at h
      cases hpl : place i with
      | none => simp [hpl] at h
      | some os =>
        obtain ⟨off, size⟩ := os
        simp only [hpl] at h
        split at h
        · rename_i hc
          obtain ⟨h1, h2, h3⟩ := hc
          have hcs := av_cells h1 hx
          have hlen : v.cells.size = size := by have := hcs.length; simp only [Array.length_toList] at this; omega
          have hal : arr.size = l.length := by have := hl.length; simpa using this.symm
          have hspl := hl.spl (hcs.imp hR) off
          have hf := foldl_set v.cells.toList 0 off arr (by simp; omega)
          simp only [Nat.add_zero] at hf
          obtain ⟨res, r1, r2⟩ := ih vs _ out (v.cells.zipIdx.foldl (fun cs (c, j) => cs.setIfInBounds (off + j) c) arr) hv (by
            rw [← Array.foldl_toList, Array.toList_zipIdx, hf]; exact hspl) h
          refine ⟨res, ?_, r2⟩
          simp only [Instr.fill, hpl]
          rw [if_neg (by simp; omega)]
          exact r1
        · cases h

theorem zsv_rel : ∀ (t : Ty), All2 (fun x u => relSV w M bs hp x u ∧ u.oneCell' = true) t.zsv t.zcells
  | .int k => .cons ⟨rfl, rfl⟩ .nil
  | .bool => .cons ⟨rfl, rfl⟩ .nil
  | .str => .cons ⟨rfl, rfl⟩ .nil
  | .slice t => .cons ⟨⟨none, 0, rfl, Nat.le_refl _, by simp [maxLen], fun _ => rfl, .inl rfl⟩, rfl⟩ .nil
  | .nil => .nil
  | .cons t r => (zsv_rel t).append (zsv_rel r)
  | .fn => .cons ⟨.nofn, rfl⟩ .nil

theorem parses_rows (t : Ty) : ∀ (n : Nat) (l : List SV) (xs : List t.T) (us : List Value), t.parses n l = some xs → All2 (relSV w M bs hp) l us →
    xs.length = n ∧ ∀ i x, xs[i]? = some x → ∃ cs, cs.length = t.size ∧ rep w M t x cs ∧ ∀ j v, cs[j]? = some v → us[i * t.size + j]? = some v := by
  intro n
  induction n with
  | zero =>
    intro l xs us h hu
    cases l <;> simp [Ty.parses] at h
    subst h
    exact ⟨rfl, fun i x hx => by simp at hx⟩
  | succ n ih =>
    intro l xs us h hu
    simp only [Ty.parses] at h
    cases h1 : t.parse l with
    | none => simp [h1] at h
    | some p =>
      obtain ⟨x1, l1⟩ := p
      simp only [h1] at h
      cases h2 : t.parses n l1 with
      | none => simp [h2] at h
      | some xs1 =>
        simp [h2] at h
        subst h
        obtain ⟨c1, c2, rfl, k1, k2⟩ := parse_rep t l x1 l1 us h1 hu
        obtain ⟨e1, e2⟩ := ih l1 xs1 c2 h2 k2
        have hl1 := rep_length t x1 c1 k1
        refine ⟨by simp [e1], fun i x hx => ?_⟩
        cases i with
        | zero =>
          simp at hx; subst hx
          refine ⟨c1, hl1, k1, fun j v hj => ?_⟩
          rw [Nat.zero_mul, Nat.zero_add, List.getElem?_append_left]
          · exact hj
          · exact (List.getElem?_eq_some_iff.1 hj).1
        | succ i =>
          obtain ⟨cs, q1, q2, q3⟩ := e2 i x (by simpa using hx)
          refine ⟨cs, q1, q2, fun j v hj => ?_⟩
          rw [List.getElem?_append_right (by rw [hl1, Nat.succ_mul]; omega)]
          rw [← q3 j v hj]
          congr 1
          rw [hl1, Nat.succ_mul]; omega

/-- The cells of a row. -/
theorem row_cells {t : Ty} {xs : List t.T} {b off : Nat} : ∀ (k : Nat), (∀ i x, xs[i]? = some x → ∃ cs, cs.length = t.size ∧ rep w M t x cs ∧ CellsAt w b (off + (k + i) * t.size) cs) →
    ∃ news, news.length = xs.length * t.size ∧ CellsAt w b (off + k * t.size) news ∧ All2 (fun x u => relSV w M bs hp x u ∧ u.oneCell' = true) (t.flats xs) news := by
  induction xs with
  | nil => intro k _; exact ⟨[], by simp, fun j v h => by simp at h, .nil⟩
  | cons x xs ih =>
    intro k h
    obtain ⟨cs, h1, h2, h3⟩ := h 0 x rfl
    obtain ⟨news, k1, k2, k3⟩ := ih (k + 1) (fun i y hy => by
      obtain ⟨cs, q1, q2, q3⟩ := h (i + 1) y (by simpa using hy)
      exact ⟨cs, q1, q2, by rw [show k + 1 + i = k + (i + 1) by omega]; exact q3⟩)
    refine ⟨cs ++ news, by simp [h1, k1, Nat.succ_mul]; omega, ?_, (rep_flat t x cs h2).append k3⟩
    intro j v hj
    rcases Nat.lt_or_ge j cs.length with hlt | hge
    · rw [List.getElem?_append_left hlt] at hj
      exact h3 j v hj
    · rw [List.getElem?_append_right hge] at hj
      have := k2 (j - cs.length) v hj
      rw [← this]
      congr 2
      rw [h1, Nat.succ_mul] at *
      omega

theorem flats_append (t : Ty) (xs ys : List t.T) : t.flats (xs ++ ys) = t.flats xs ++ t.flats ys := by
  induction xs with
  | nil => rfl
  | cons x xs ih => simp [Ty.flats, ih]
theorem flat_length : ∀ (t : Ty) (x : t.T), (t.flat x).length = t.size
  | .int _, _ => rfl
  | .bool, _ => rfl
  | .str, _ => rfl
  | .slice _, _ => rfl
  | .nil, _ => rfl
  | .cons t r, x => by simp [Ty.flat, flat_length t x.1, flat_length r x.2]
  | .fn, _ => rfl
theorem flats_length (t : Ty) (xs : List t.T) : (t.flats xs).length = xs.length * t.size := by
  induction xs with
  | nil => simp [Ty.flats]
  | cons x xs ih => simp [Ty.flats, ih, flat_length, Nat.succ_mul]; omega

end
end Go.Am
