/- Functions: what they hand back; contracts from verification conditions. -/
import Derived.Test.YteglanpnmnkkbaaBm11
namespace Go.Am
set_option linter.unusedVariables false
open Go.RowKit

/-- A value as it is when its function has returned. -/
def frzSV (hp : List Blk) : SV → Option SV
  | .sl t xs _ => some (.sl t xs false)
  | .own t id n => match Blk.look hp id with
    | .arr _ cs => if cs.length = n * t.size then (t.parses n cs).map fun xs => .sl t xs false else none
    | _ => none
  | .fn f [] => some (.fn f [])
  | .fn f ids => (boxCaps hp ids).map fun caps => .fnp f caps
  | .box _ _ => none
  | .eown _ _ _ _ => none
  | .mp _ => none
  | .ib _ _ => none
  | x => some x
def frzL (hp : List Blk) : List SV → Option (List SV)
  | [] => some []
  | x :: r => match frzSV hp x, frzL hp r with
    | some y, some s => some (y :: s)
    | _, _ => none
def frzAV (hp : List Blk) : AV → Option AV
  | .s x => (frzSV hp x).map .s
  | .agg cs => (frzL hp cs).map .agg
def frzAs (hp : List Blk) : List AV → Option (List AV)
  | [] => some []
  | x :: r => match frzAV hp x, frzAs hp r with
    | some y, some s => some (y :: s)
    | _, _ => none

def resEv (g : G) (e : Env) (hp : List Blk) : ResultVar → Prop × AV
  | .tmp t => ((getE e t).ok = true, (getE e t).v.av)
  | .cell a t => ((getE e a).ok = true ∧ (loadEv g hp t (getE e a).v.av).1, (loadEv g hp t (getE e a).v.av).2.av)
def resOk (g : G) (e : Env) (hp : List Blk) : List ResultVar → Prop
  | [] => True
  | x :: r => (resEv g e hp x).1 ∧ resOk g e hp r
def resVs (g : G) (e : Env) (hp : List Blk) (l : List ResultVar) : List AV := l.map fun x => (resEv g e hp x).2
def oneRV : List AV → RV
  | [x] => .v x
  | l => .tup l
/-- What the function hands back. -/
def retOk (g : G) (fn : Func) (s : St) (rv : RV) : Prop := resOk g s.e s.hp fn.results.toList ∧ ∃ vs, frzAs s.hp (resVs g s.e s.hp fn.results.toList) = some vs ∧ oneRV vs = rv
def argEnv : Nat → List AV → Env
  | _, [] => []
  | i, x :: r => (i, ⟨true, .v x⟩) :: argEnv (i + 1) r

section
variable {P : Program} {g : G} {X : XT} {N : Nat} {L : Cfg} {w : World} {M0 : Nat → Prop} {bs : Bs} {hp : List Blk}

theorem Evo.to_m0 (hr : HR w M0 bs hp) : Evo (Mof M0 bs) M0 w w := Evo.more w fun b _ h => .inl h

theorem frzSV_sound (hr : HR w M0 bs hp) {x y : SV} {v : Value} (h : relSV w (Mof M0 bs) bs hp x v) (hf : frzSV hp x = some y) : relSV w M0 [] [] y v := by
  have he := Evo.to_m0 hr
  cases x with
  | any => simp [frzSV] at hf; subst hf; trivial
  | bool b => simp [frzSV] at hf; subst hf; exact h
  | int k n => simp [frzSV] at hf; subst hf; exact h
  | str s => simp [frzSV] at hf; subst hf; exact h
  | val u => simp [frzSV] at hf; subst hf; exact h
  | sl t xs ex =>
    simp [frzSV] at hf; subst hf
    obtain ⟨a, c, h1, h2, h3, h4, h5⟩ := h
    exact ⟨a, c, h1, h2, h3, by simp, h5.evo he⟩
  | eptr t x =>
    simp [frzSV] at hf; subst hf
    obtain ⟨b, off, cs, h1, h2, h3, h4, h5⟩ := h
    exact ⟨b, off, cs, h1, fun h => h2 (.inl h), h3, rep_evo he _ _ _ h4, h5⟩
  | box id off => simp [frzSV] at hf
  | eown t id n off => simp [frzSV] at hf
  | mp id => simp [frzSV] at hf
  | ib p q => simp [frzSV] at hf
  | fv x => simp [frzSV] at hf; subst hf; exact RepD.evo he h
  | fnp f caps =>
    simp [frzSV] at hf; subst hf
    obtain ⟨ps, h1, h2⟩ := h
    exact ⟨ps, h1, h2.imp fun c p hp => hp.evo he⟩
  | fn f ids =>
    cases ids with
    | nil =>
      simp [frzSV] at hf; subst hf
      obtain ⟨ps, h1, h2⟩ := h
      cases h2
      exact ⟨[], h1, .nil⟩
    | cons i ids =>
      simp only [frzSV] at hf
      cases hb : boxCaps hp (i :: ids) with
      | none => simp [hb] at hf
      | some caps =>
        simp [hb] at hf
        subst hf
        obtain ⟨ps, h1, h2⟩ := h
        have h2 := boxCaps_at hb h2
        refine ⟨_, h1, boxCaps_sound hr (fun b hb => .inl hb) hb h2 fun b hb => ?_⟩
        have : ∀ {l : List Nat} {m : List Nat}, All2 (fun id b => bs.at id = some b ∧ ∃ cs, Blk.look hp id = .cells cs) l m → ∀ b ∈ m, ∃ id, bs.at id = some b := by
          intro l m hlm
          induction hlm with
          | nil => intro b hb; cases hb
          | cons r _ ih =>
            intro b hb
            cases hb with
            | head => exact ⟨_, r.1⟩
            | tail _ hb => exact ih b hb
        obtain ⟨id, hid⟩ := this h2 b hb
        exact hr.out id b hid
  | own t id n =>
    simp only [frzSV] at hf
    cases hl : Blk.look hp id with
    | arr al cs =>
      simp only [hl] at hf
      split at hf
      · rename_i hlen
        cases hp' : t.parses n cs with
        | none => simp [hp'] at hf
        | some xs =>
          simp [hp'] at hf
          subst hf
          rcases (h.2 al cs hl).2 hlen with ⟨b, cap, k1, rfl, k3, k4⟩ | ⟨k1, ys, a, k2, k3, rfl, rfl, k6⟩
          · obtain ⟨cur, e, q1, q2⟩ := hr.arr id al cs b hl k1
            obtain ⟨cur', e', q3, q4, q5⟩ := k4
            rw [q1] at q3
            injection q3 with q3; injection q3 with q3 _ _
            subst q3
            -- the cells of the block
            have hus : ∃ us : List Value, All2 (relSV w (Mof M0 bs) bs hp) cs us ∧ ∀ (j : Nat) (v : Value), us[j]? = some v → cur[j]? = some v := by
              refine ⟨cur.toList.take cs.length, All2.of_get ?_ (fun i x u hx hu => ?_), fun j v hj => ?_⟩
              · have h1 : cur.toList.length = cap * t.size := by rw [Array.length_toList]; exact q4
                have := Nat.mul_le_mul_right t.size k3
                rw [List.length_take, h1]
                omega
              · obtain ⟨u', r1, r2, r3⟩ := q2 i x hx
                have hi := (List.getElem?_eq_some_iff.1 hx).1
                rw [List.getElem?_take_of_lt hi, Array.getElem?_toList, r1] at hu
                cases hu; exact r3
              · have hj' : j < cs.length := by
                  have := (List.getElem?_eq_some_iff.1 hj).1
                  rw [List.length_take] at this
                  omega
                rw [List.getElem?_take_of_lt hj', Array.getElem?_toList] at hj
                exact hj
            obtain ⟨us, r1, r2⟩ := hus
            obtain ⟨s1, s2⟩ := parses_rows t n cs xs us hp' r1
            refine ⟨some ⟨b, 0, none⟩, cap, by rw [s1], by omega, q5, by simp, .inr ⟨b, 0, rfl, hr.out id b k1, hr.lt id b k1, fun i x hx => ?_⟩⟩
            obtain ⟨cs', t1, t2, t3⟩ := s2 i x hx
            refine ⟨cs', t1, rep_evo he _ _ _ t2, fun j v hj => ?_⟩
            have := r2 _ _ (t3 j v hj)
            simp only [World.cell?, q1, Nat.zero_add]
            exact this
          · subst k2
            rw [parses_flats] at hp'
            cases hp'
            exact ⟨a, xs.length, rfl, Nat.le_refl _, k3, by simp, k6.evo he⟩
      · cases hf
    | _ => simp [hl] at hf

theorem frzL_sound (hr : HR w M0 bs hp) : ∀ {cs ds : List SV} {vs : List Value}, All2 (fun x u => relSV w (Mof M0 bs) bs hp x u ∧ u.oneCell' = true) cs vs → frzL hp cs = some ds → All2 (fun x u => relSV w M0 [] [] x u ∧ u.oneCell' = true) ds vs
  | [], ds, _, .nil, hf => by simp [frzL] at hf; subst hf; exact .nil
  | x :: r, ds, _, .cons h1 h2, hf => by
    simp only [frzL] at hf
    split at hf
    · rename_i y s e1 e2
      injection hf with hf; subst hf
      exact .cons ⟨frzSV_sound hr h1.1 e1, h1.2⟩ (frzL_sound hr h2 e2)
    · cases hf
theorem frzAV_sound (hr : HR w M0 bs hp) {x y : AV} {v : Value} (h : relAV w (Mof M0 bs) bs hp x v) (hf : frzAV hp x = some y) : relAV w M0 [] [] y v := by
  cases x with
  | s x =>
    simp only [frzAV] at hf
    cases hx : frzSV hp x with
    | none => simp [hx] at hf
    | some z => simp [hx] at hf; subst hf; exact frzSV_sound hr h hx
  | agg cs =>
    simp only [frzAV] at hf
    cases hx : frzL hp cs with
    | none => simp [hx] at hf
    | some z => simp [hx] at hf; subst hf; obtain ⟨vs, rfl, h⟩ := h; exact ⟨vs, rfl, frzL_sound hr h hx⟩
theorem frzAs_sound (hr : HR w M0 bs hp) : ∀ {xs ys : List AV} {vs : List Value}, All2 (relAV w (Mof M0 bs) bs hp) xs vs → frzAs hp xs = some ys → All2 (relAV w M0 [] []) ys vs
  | [], ys, _, .nil, hf => by simp [frzAs] at hf; subst hf; exact .nil
  | x :: r, ys, _, .cons h1 h2, hf => by
    simp only [frzAs] at hf
    split at hf
    · rename_i y s e1 e2
      injection hf with hf; subst hf
      exact .cons (frzAV_sound hr h1 e1) (frzAs_sound hr h2 e2)
    · cases hf

theorem RepD.cells {M : Nat → Prop} {w' : World} (hc : ∀ p v, w.cell? p = some v → w'.cell? p = some v) (hs : w.heap.size ≤ w'.heap.size) {t : Ty} {d : D t} {cs : List Value} (hr : RepD w M t d cs) : RepD w' M t d cs := by
  induction hr with
  | int k n => exact .int _ _
  | bool b => exact .bool _
  | str s => exact .str _
  | slice t xs a c b off css h1 h2 h3 h4 h5 ih =>
    refine .slice t xs a c b off css h1 h2 (fun hn => ?_) (fun i x hx => ⟨(h4 i x hx).1, fun j v hj => hc _ _ ((h4 i x hx).2 j v hj)⟩) ih
    obtain ⟨k1, k2, k3⟩ := h3 hn
    exact ⟨k1, k2, Nat.lt_of_lt_of_le k3 hs⟩
  | nil => exact .nil
  | cons t r x y c1 c2 _ _ ih1 ih2 => exact .cons _ _ _ _ _ _ ih1 ih2
  | nofn => exact .nofn
  | fn f caps ps css bo h1 h2 h3 ih =>
    refine .fn f caps ps css bo h1 (fun i p hp => ?_) ih
    obtain ⟨k1, k2, k3, k4⟩ := h2 i p hp
    exact ⟨k1, k2, Nat.lt_of_lt_of_le k3 hs, fun j v hj => hc _ _ (k4 j v hj)⟩
/-- Reading memory that only more is known of. -/
theorem rep_cells {M : Nat → Prop} {w' : World} (hc : ∀ p v, w.cell? p = some v → w'.cell? p = some v) (hs : w.heap.size ≤ w'.heap.size) : ∀ (t : Ty) (x : t.T) (cs : List Value), rep w M t x cs → rep w' M t x cs
  | .int k, n, cs, hr => by simpa only [rep] using hr
  | .bool, b, cs, hr => by simpa only [rep] using hr
  | .str, s, cs, hr => by simpa only [rep] using hr
  | .slice t, xs, cs, hr => by
    simp only [rep] at hr ⊢
    obtain ⟨a, c, rfl, h1, h2, h3⟩ := hr
    refine ⟨a, c, rfl, h1, h2, ?_⟩
    rcases h3 with h3 | ⟨b, off, ha, hm, hb, he⟩
    · exact .inl h3
    · refine .inr ⟨b, off, ha, hm, Nat.lt_of_lt_of_le hb hs, fun i x hi => ?_⟩
      obtain ⟨cs, hl, hx, hcs⟩ := he i x hi
      exact ⟨cs, hl, rep_cells hc hs t x cs hx, fun j v hj => hc _ _ (hcs j v hj)⟩
  | .nil, _, cs, hr => by simpa only [rep] using hr
  | .cons t r, x, cs, hr => by
    simp only [rep] at hr ⊢
    obtain ⟨c1, c2, rfl, h1, h2⟩ := hr
    exact ⟨c1, c2, rfl, rep_cells hc hs t _ _ h1, rep_cells hc hs r _ _ h2⟩
  | .fn, x, cs, hr => by
    simp only [rep] at hr ⊢
    exact hr.cells hc hs
/-- Other memory has turned that holds no cells. -/
structure Same (w w' : World) (bs : Bs) : Prop where
  cells : ∀ p v, w.cell? p = some v → w'.cell? p = some v
  size : w'.heap.size = w.heap.size
  own : ∀ id b, bs.at id = some b → w'.heap[b]? = w.heap[b]?
theorem relSV_same {M : Nat → Prop} {w' : World} (hs : Same w w' bs) {x : SV} {v : Value} (h : relSV w M bs hp x v) : relSV w' M bs hp x v := by
  have hc := hs.cells
  have hsz : w.heap.size ≤ w'.heap.size := by rw [hs.size]; exact Nat.le_refl _
  have hrow : ∀ (t : Ty) (a : Option Addr) (xs : List t.T), RowAt w M (fun x cs => rep w M t x cs) t.size a xs → RowAt w' M (fun x cs => rep w' M t x cs) t.size a xs := by
    intro t a xs h5
    rcases h5 with h5 | ⟨b, off, ha, hm, hb, he⟩
    · exact .inl h5
    · refine .inr ⟨b, off, ha, hm, Nat.lt_of_lt_of_le hb hsz, fun i x hi => ?_⟩
      obtain ⟨cs, hl, hx, hcs⟩ := he i x hi
      exact ⟨cs, hl, rep_cells hc hsz t x cs hx, fun j v hj => hc _ _ (hcs j v hj)⟩
  have hown : ∀ id b, bs.at id = some b → ∀ cap size, OwnAt w b cap size → OwnAt w' b cap size := by
    intro id b hb cap size ⟨cur, e, h1, h2⟩
    exact ⟨cur, e, by rw [hs.own id b hb]; exact h1, h2⟩
  cases x with
  | sl t xs ex =>
    obtain ⟨a, c, h1, h2, h3, h4, h5⟩ := h
    exact ⟨a, c, h1, h2, h3, h4, hrow _ _ _ h5⟩
  | eptr t x =>
    obtain ⟨b, off, cs, h1, h2, h3, h4, h5⟩ := h
    exact ⟨b, off, cs, h1, h2, Nat.lt_of_lt_of_le h3 hsz, rep_cells hc hsz _ _ _ h4, fun j v hj => hc _ _ (h5 j v hj)⟩
  | fnp f caps =>
    obtain ⟨ps, h1, h2⟩ := h
    refine ⟨ps, h1, h2.imp fun c p hp => ?_⟩
    obtain ⟨b, off, cs, h1, h2, h3, h4, h5⟩ := hp
    exact ⟨b, off, cs, h1, h2, Nat.lt_of_lt_of_le h3 hsz, rep_cells hc hsz _ _ _ h4, fun j v hj => hc _ _ (h5 j v hj)⟩
  | own t id n =>
    obtain ⟨h1, h2⟩ := h
    refine ⟨h1, fun al cs hl => ⟨(h2 al cs hl).1, fun hlen => ?_⟩⟩
    rcases (h2 al cs hl).2 hlen with ⟨b, cap, k1, k2, k3, k4⟩ | ⟨k1, xs, a, k2, k3, k4, k5, k6⟩
    · exact .inl ⟨b, cap, k1, k2, k3, hown id b k1 _ _ k4⟩
    · exact .inr ⟨k1, xs, a, k2, k3, k4, k5, hrow _ _ _ k6⟩
  | fv x => exact RepD.cells hc hsz h
  | _ => exact h
theorem relAV_same {M : Nat → Prop} {w' : World} (hs : Same w w' bs) {x : AV} {v : Value} (h : relAV w M bs hp x v) : relAV w' M bs hp x v := by
  cases x with
  | s x => exact relSV_same hs h
  | agg cs => obtain ⟨vs, rfl, h⟩ := h; exact ⟨vs, rfl, h.imp fun x u hu => ⟨relSV_same hs hu.1, hu.2⟩⟩
theorem relRV_same {M : Nat → Prop} {w' : World} (hs : Same w w' bs) {x : RV} {v : Value} (h : relRV w M bs hp x v) : relRV w' M bs hp x v := by
  cases x with
  | v x => exact relAV_same hs h
  | tup xs => obtain ⟨vs, rfl, h⟩ := h; exact ⟨vs, rfl, h.imp fun x u hu => relAV_same hs hu⟩
theorem HR.same {w' : World} (hr : HR w M0 bs hp) (hs : Same w w' bs) : HR w' M0 bs hp := by
  refine ⟨hr.len, fun b hb => by rw [hs.size]; exact hr.m0 b hb, fun id b h => by rw [hs.size]; exact hr.lt id b h, hr.inj, hr.out, hr.al, ?_, ?_, ?_⟩
  · intro id cs hl
    obtain ⟨b, cur, e, h1, h2, h3, h4⟩ := hr.cells id cs hl
    refine ⟨b, cur, e, h1, by rw [hs.own id b h1]; exact h2, h3, fun j x hj => ?_⟩
    obtain ⟨u, k1, k2, k3⟩ := h4 j x hj
    exact ⟨u, k1, k2, relSV_same hs k3⟩
  · intro id al cs b hl hb
    obtain ⟨cur, e, h2, h4⟩ := hr.arr id al cs b hl hb
    refine ⟨cur, e, by rw [hs.own id b hb]; exact h2, fun j x hj => ?_⟩
    obtain ⟨u, k1, k2, k3⟩ := h4 j x hj
    exact ⟨u, k1, k2, relSV_same hs k3⟩
  · intro id k v es hl
    obtain ⟨b, ents, clock, h1, h2, h3⟩ := hr.map id k v es hl
    exact ⟨b, ents, clock, h1, by rw [hs.own id b h1]; exact h2, h3.imp fun x m hm => ⟨rep_cells hs.cells (by rw [hs.size]; exact Nat.le_refl _) _ _ _ hm.1, rep_cells hs.cells (by rw [hs.size]; exact Nat.le_refl _) _ _ _ hm.2⟩⟩
theorem relEnv_same {M : Nat → Prop} {w' : World} {e : Env} {a : Act} (hs : Same w w' bs) (h : relEnv w M bs hp e a) : relEnv w' M bs hp e a :=
  fun s x hx => ⟨fun ho => relRV_same hs ((h s x hx).1 ho), (h s x hx).2⟩

theorem loadAt_asAddr {t : TypeId} {v u : Value} {w w' : World} (h : (Instr.loadAt t v).run P w = .ok u w') : (do loadVar t (← asAddr v) : Sem Value).run P w = .ok u w' := by
  cases v with
  | pointer p =>
    cases p with
    | none => simp [Instr.loadAt, Instr.sureAddr, stuck, Sem.run_bind] at h
    | some a => simpa [Instr.loadAt, Instr.sureAddr, asAddr] using h
  | _ => simp [Instr.loadAt, Instr.sureAddr, stuck, Sem.run_bind] at h

/-- What the machine hands back. -/
theorem results_run (hg : g.ok P) (hr : HR w M0 bs hp) {e : Env} {a : Act} (he : relEnv w (Mof M0 bs) bs hp e a) (fn : Func) (hok : resOk g e hp fn.results.toList) (tm : Array Value) (htm : tm = a.tmps) :
    ∃ vs : List Value, (results fn tm).run P w = .ok (if h : vs.toArray.size = 1 then vs.toArray[0] else .tuple vs.toArray) w ∧ All2 (relAV w (Mof M0 bs) bs hp) (resVs g e hp fn.results.toList) vs := by
  subst htm
  have key : ∀ (f : ResultVar → Sem Value) (hf1 : ∀ t, f (.tmp t) = pure (a.tmps.getD t undef)) (hf2 : ∀ c t, f (.cell c t) = (do loadVar t (← asAddr (a.tmps.getD c undef)))) (l : List ResultVar), resOk g e hp l →
      ∃ vs : List Value, (l.mapM f).run P w = .ok vs w ∧ All2 (relAV w (Mof M0 bs) bs hp) (resVs g e hp l) vs := by
    intro f hf1 hf2 l
    induction l with
    | nil => intro _; exact ⟨[], rfl, .nil⟩
    | cons x r ih =>
      intro h
      obtain ⟨h1, h2⟩ := h
      obtain ⟨vs, k1, k2⟩ := ih h2
      have hx : ∃ v, (f x).run P w = .ok v w ∧ relAV w (Mof M0 bs) bs hp (resEv g e hp x).2 v := by
        cases x with
        | tmp t => rw [hf1]; exact ⟨_, rfl, relRV_av ((getE_rel he t).1 h1)⟩
        | cell c t =>
          rw [hf2]
          obtain ⟨q1, q2⟩ := h1
          obtain ⟨u, q3, q4⟩ := loadEv_sound hg hr t _ _ (relRV_av ((getE_rel he c).1 q1)) q2
          exact ⟨u, loadAt_asAddr q3, relRV_av q4⟩
      obtain ⟨v, hv1, hv2⟩ := hx
      refine ⟨v :: vs, ?_, .cons hv2 k2⟩
      rw [List.mapM_cons, Sem.run_bind, hv1]
      simp only [Result.andThen_ok]
      rw [Sem.run_bind, k1]
      rfl
  have fin : ∀ (f : ResultVar → Sem Value) (hf1 : ∀ t, f (.tmp t) = pure (a.tmps.getD t undef)) (hf2 : ∀ c t, f (.cell c t) = (do loadVar t (← asAddr (a.tmps.getD c undef)))),
      ∃ vs : List Value, ((List.mapM f fn.results.toList).run P w).andThen (fun a w' => (Sem.run P (pure a.toArray) w').andThen fun a w' => Sem.run P (pure (if h : a.size = 1 then a[0] else .tuple a)) w') =
        .ok (if h : vs.toArray.size = 1 then vs.toArray[0] else .tuple vs.toArray) w ∧ All2 (relAV w (Mof M0 bs) bs hp) (resVs g e hp fn.results.toList) vs := by
    intro f hf1 hf2
    obtain ⟨vs, k1, k2⟩ := key f hf1 hf2 _ hok
    refine ⟨vs, ?_, k2⟩
    rw [k1]
    simp [Result.andThen_ok]
  unfold results
  rw [Array.mapM_eq_mapM_toList]
  simp only [Sem.run_bind, bind_assoc, map_eq_pure_bind]
  exact fin _ (fun _ => rfl) (fun _ _ => rfl)

theorem oneRV_rel {w : World} {M : Nat → Prop} {xs : List AV} {vs : List Value} (h : All2 (relAV w M bs hp) xs vs) : relRV w M bs hp (oneRV xs) (if h : vs.toArray.size = 1 then vs.toArray[0] else .tuple vs.toArray) := by
  cases h with
  | nil => exact ⟨[], rfl, .nil⟩
  | cons r h =>
    cases h with
    | nil => exact r
    | cons r2 h => exact ⟨_, by simp, .cons r (.cons r2 h)⟩

/-- Lengths of slices are bounded. -/
def Ty.lenOk : (t : Ty) → t.T → Prop
  | .slice t, xs => xs.length ≤ maxLen ∧ ∀ x ∈ xs, t.lenOk x
  | .cons t r, x => t.lenOk x.1 ∧ r.lenOk x.2
  | .int _, _ => True
  | .bool, _ => True
  | .str, _ => True
  | .nil, _ => True
  | .fn, _ => True
def SV.lenOk : SV → Prop
  | .sl t xs _ => (Ty.slice t).lenOk xs
  | .eptr t x => t.lenOk x
  | _ => True
def AV.lenOk : AV → Prop
  | .s x => x.lenOk
  | .agg cs => ∀ x ∈ cs, x.lenOk
def allLen : List AV → Prop
  | [] => True
  | x :: r => x.lenOk ∧ allLen r
theorem rep_lenOk {w : World} {M : Nat → Prop} : ∀ (t : Ty) (x : t.T) (cs : List Value), rep w M t x cs → t.lenOk x
  | .int k, n, cs, h => trivial
  | .bool, b, cs, h => trivial
  | .str, s, cs, h => trivial
  | .slice t, xs, cs, h => by
    simp only [rep] at h
    obtain ⟨a, c, rfl, h1, h2, h3⟩ := h
    refine ⟨Nat.le_trans h1 h2, fun x hx => ?_⟩
    rcases h3 with rfl | ⟨b, off, ha, hm, hb, he⟩
    · cases hx
    · obtain ⟨i, hi, rfl⟩ := List.getElem_of_mem hx
      obtain ⟨cs, _, k, _⟩ := he i _ (List.getElem?_eq_getElem hi)
      exact rep_lenOk t _ _ k
  | .nil, _, cs, h => trivial
  | .cons t r, x, cs, h => by
    simp only [rep] at h
    obtain ⟨c1, c2, rfl, h1, h2⟩ := h
    exact ⟨rep_lenOk t _ _ h1, rep_lenOk r _ _ h2⟩
  | .fn, _, cs, h => trivial
theorem relSV_lenOk {w : World} {M : Nat → Prop} {bs : Bs} {hp : List Blk} {x : SV} {v : Value} (h : relSV w M bs hp x v) : x.lenOk := by
  cases x with
  | sl t xs ex =>
    obtain ⟨a, c, h1, h2, h3, h4, h5⟩ := h
    exact rep_lenOk (w := w) (M := M) (.slice t) xs [.slice a xs.length c] (by simp only [rep]; exact ⟨a, c, rfl, h2, h3, h5⟩)
  | eptr t x => obtain ⟨b, off, cs, h1, h2, h3, h4, h5⟩ := h; exact rep_lenOk _ _ _ h4
  | _ => trivial
theorem relAV_lenOk {w : World} {M : Nat → Prop} {bs : Bs} {hp : List Blk} {x : AV} {v : Value} (h : relAV w M bs hp x v) : x.lenOk := by
  cases x with
  | s x => exact relSV_lenOk h
  | agg cs =>
    obtain ⟨vs, rfl, h⟩ := h
    intro x hx
    obtain ⟨i, hi, rfl⟩ := List.getElem_of_mem hx
    obtain ⟨u, _, k, _⟩ := h.get i _ (List.getElem?_eq_getElem hi)
    exact relSV_lenOk k
theorem allLen_rel {w : World} {M : Nat → Prop} {bs : Bs} {hp : List Blk} {xs : List AV} {vs : List Value} (h : All2 (relAV w M bs hp) xs vs) : allLen xs := by
  induction h with
  | nil => trivial
  | cons r _ ih => exact ⟨relAV_lenOk r, ih⟩

theorem argEnv_rel {w : World} {M : Nat → Prop} {bs : Bs} {hp : List Blk} : ∀ {xs : List AV} {vs : List Value} (i : Nat) (a : Act), All2 (relAV w M bs hp) xs vs → (∀ (j : Nat) (v : Value), vs[j]? = some v → a.tmps.getD (i + j) undef = v) → relEnv w M bs hp (argEnv i xs) a
  | [], _, i, a, .nil, h => fun s x hs => by simp [argEnv, look] at hs
  | x :: xs, _, i, a, .cons r hr, h => fun s y hs => by
    simp only [argEnv, look] at hs
    split at hs
    · rename_i e; subst e
      injection hs with hs; subst hs
      have := h 0 _ rfl
      simp only [Nat.add_zero] at this
      rw [this]
      exact ⟨fun _ => r, by simp⟩
    · exact argEnv_rel (i + 1) a hr (fun j v hj => by rw [← h (j + 1) v (by simpa using hj)]; congr 1; omega) s y hs

/-- No rounds. -/
def X0 : XT := fun _ _ _ _ _ _ _ => False
theorem X0_ok : XOk P X0 := ⟨fun h => h.elim, fun h => h.elim⟩

/-- The block of a loop's deferred calls is shut. -/
theorem shut_marks {fn : Func} {tmps : Array Value} {r : Option Nat} {n : Nat} : ∀ (Ds : List Nat) (w : World) (R : Ending → World → Prop), Ds.Nodup → (∀ D ∈ Ds, w.heap[D]? = some (.deferred (some []))) →
    (∀ w', w'.heap.size = w.heap.size → w'.os = w.os → w'.tape = w.tape → w'.output = w.output → w'.drawn = w.drawn → (∀ b, b ∉ Ds → w'.heap[b]? = w.heap[b]?) → ∃ v, (results fn tmps).run P w' = .ok v w' ∧ R (.returned v) w') →
    LeavesInM (FW r) n P fn tmps R (Ds.map markOf) .returning w
  | [], w, R, _, _, h => by
    obtain ⟨v, h1, h2⟩ := h w rfl rfl rfl rfl rfl (fun _ _ => rfl)
    exact ⟨v, h1, h2⟩
  | D :: Ds, w, R, hnd, hd, h => by
    refine ⟨by simp, .inl ⟨D, w.putObj D (.deferred none), rfl, run_takeDeferred (hd D (by simp)), ?_⟩⟩
    refine shut_marks Ds _ R (List.nodup_cons.1 hnd).2 (fun E hE => ?_) (fun w' h1 h2 h3 h4 hdr h5 => ?_)
    · have hne : E ≠ D := fun e => (List.nodup_cons.1 hnd).1 (e ▸ hE)
      rw [World.putObj_heap_other hne]
      exact hd E (by simp [hE])
    · refine h w' (by rw [h1]; simp) h2 h3 h4 hdr (fun b hb => ?_)
      simp only [List.mem_cons, not_or] at hb
      rw [h5 b hb.2, World.putObj_heap_other hb.1]

/-- A contract from the verification condition of the function's body. -/
theorem pureOk_of (hg : g.good P) (hy : g.y = false) (hm : P.follows .mixedOrders = true) {f : FuncId} {fn : Func} {c : Code} (hf : P.funcs[f]? = some fn) (hb : fn.body = some c) (con : Con) (k : Nat) (hk : k ≤ fn.ntmps)
    (hok : codeOk' L g.ye fn.ntmps c = true)
    (h : ∀ args, con.pre args → allLen args → args.length = k ∧ vc P g X0 fn.ntmps L c ⟨argEnv 0 args, []⟩ (fun e s => (e = .normal ∨ e = .ret) ∧ retOk g fn s (con.val args))) : PureOk P f con := by
  intro w M0 args vs hpre hM0 hargs
  obtain ⟨hlen, hvc⟩ := h args hpre (allLen_rel hargs)
  have hwp := vc_sound (X := X0) (L := L) hg X0_ok hm c hok _ _ hvc
  refine (callsIn_wide (n := 0)).1 ?_
  have hF : (FW none) = Fence.wide := rfl
  rw [← hF]
  have hr0 : HR w M0 [] [] := by
    refine ⟨rfl, hM0, ?_, ?_, ?_, ?_, ?_, ?_, ?_⟩ <;> intros <;> simp_all [Bs.at, Blk.look]
  have hN : (vs.toArray ++ Array.replicate (fn.ntmps - vs.toArray.size) undef).size = fn.ntmps := by
    have := hargs.length
    simp; omega
  refine callsIn_of_wp_marks (n := 0) hf hb trivial (wpIn_mono (hwp 0 none (some w.heap.size) M0 [] { tmps := vs.toArray ++ Array.replicate (fn.ntmps - vs.toArray.size) undef, defers := [] } w ⟨fun _ => rfl, by simp [hy]⟩ ⟨hr0, ?_, ?_, hN, ⟨Nat.le_refl _, [], rfl, .nil, by simp⟩⟩) ?_)
  · intro l xs i st ht; simp [Blk.look] at ht
  · refine argEnv_rel 0 _ (hargs.imp fun x v h => relAV_weaken (fun b hb => hb.elim id fun ⟨id, h⟩ => by simp [Bs.at] at h) h) (fun j v hj => ?_)
    have hj2 := (List.getElem?_eq_some_iff.1 hj).1
    simp only [Array.getD_eq_getD_getElem?, Nat.zero_add]
    rw [Array.getElem?_append_left (by simpa using hj2)]
    simp [hj]
  · rintro e a' w' ⟨s', M0', bs', ⟨hke, hk1, vs', hk2, hk3⟩, hr', hn⟩
    obtain rfl : M0' = M0 := hn.eq hy
    obtain ⟨_, Ds, hdf, hnd, hD⟩ := hr'.df
    have hst : Step false w (Mof M0' []) [] [] w' (Mof M0' bs') bs' s'.hp := by have := hn.st; rwa [hy] at this
    have hold := hst.only rfl
    have : LeavesInM (FW none) 0 P fn a'.tmps (fun e w' => ∃ v, e = .returned v ∧ relRV w' M0' [] [] (con.val args) v ∧ Below w.heap.size w w' ∧ w.drawn ≤ w'.drawn) a'.defers .returning w' := by
      rw [hdf]
      refine shut_marks Ds w' _ hnd (fun D h => (hD D h).2.2.2) fun w'' h1 h2 h3 h4 hdr h5 => ?_
      have hsame : Same w' w'' bs' := by
        refine ⟨fun p u hp => ?_, h1, fun id b hb => h5 b fun hm => (hD b hm).2.2.1 (.inr ⟨id, hb⟩)⟩
        have hne : p.block ∉ Ds := fun hm => by
          have := (hD _ hm).2.2.2
          simp [World.cell?, this] at hp
        rw [← hp]
        exact World.cell?_of_block (h5 _ hne)
      obtain ⟨us, q1, q2⟩ := results_run hg.1 (hr'.hr.same hsame) (relEnv_same hsame hr'.env) fn hk1 _ rfl
      have q3 := frzAs_sound (hr'.hr.same hsame) q2 hk2
      refine ⟨_, q1, _, rfl, ?_, ?_⟩
      · rw [← hk3]; exact oneRV_rel q3
      · have e1 := hst.evo
        refine ⟨⟨h2.trans e1.os, h3.trans e1.tape, h4.trans e1.output, by rw [h1]; exact e1.size, fun b hb => by
          rw [h5 b (fun hm => by have := (hD b hm).1; omega)]
          exact hold.old b hb (by simp [Bs.at])⟩, by rw [hdr]; exact e1.drawn⟩
    rcases hke with rfl | rfl <;> exact this
end
end Go.Am
