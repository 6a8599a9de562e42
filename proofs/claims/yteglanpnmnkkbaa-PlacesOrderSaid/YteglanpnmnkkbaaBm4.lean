/- The quiet operations are sound. -/
import Derived.Test.YteglanpnmnkkbaaBm3
namespace Go.Am
set_option linter.unusedVariables false
open Go.RowKit

def G.ok (P : Program) (g : G) : Prop := ∀ t d, look g.τ t = some d → d.ok P t
theorem G.td_ok {P : Program} {g : G} (h : g.ok P) (t : TypeId) : (g.td t).ok P t := by
  unfold G.td
  cases hl : look g.τ t with
  | none => exact trivial
  | some d => exact h t d hl

section
variable {P : Program} {g : G} {w : World} {M : Nat → Prop} {bs : Bs} {hp : List Blk}

theorem relRV_av {x : RV} {v : Value} (h : relRV w M bs hp x v) : relAV w M bs hp x.av v := by
  cases x with
  | v x => exact h
  | tup xs => exact trivial

theorem coe_sound (hg : g.ok P) (t : TypeId) (x : RV) (v : Value) (h : relRV w M bs hp x v) : relRV w M bs hp (coe g t x) v := by
  unfold coe
  split
  · have := G.td_ok hg t
    split
    · obtain rfl : v = .slice none 0 0 := h
      exact ⟨none, 0, rfl, Nat.le_refl _, by simp [maxLen], fun _ => rfl, .inl rfl⟩
    · exact h
  · exact h

theorem relSV_av (t : Ty) (x : t.T) {cs : List Value} (h : rep w M t x cs) (h0 : t.nfld ≠ 0 ∨ t.size = 1) : relAV w M bs hp (t.av x) (match t with | .cons _ _ => .agg cs.toArray | _ => cs.headD undef) := by
  cases t with
  | int k => simp only [rep] at h; subst h; rfl
  | bool => simp only [rep] at h; subst h; rfl
  | str => simp only [rep] at h; subst h; rfl
  | slice t =>
    simp only [rep] at h
    obtain ⟨a, c, rfl, h1, h2, h3⟩ := h
    exact ⟨a, c, rfl, h1, h2, by simp, h3⟩
  | nil => rcases h0 with h0 | h0 <;> simp [Ty.nfld] at h0
  | cons t r => exact ⟨cs, rfl, rep_flat (.cons t r) x cs h⟩
  | fn =>
    simp only [rep] at h
    obtain ⟨v, rfl, h1⟩ := h.fn_one
    exact h

theorem run_isAgg_sc {t : TypeId} {d : TypeDesc} (h : P.underlying t = some d) (hs : ∀ fs, d ≠ .struct fs) (ha : ∀ n e, d ≠ .array n e) : (isAgg t).run P w = .ok false w := by
  unfold isAgg
  simp only [run_underlying h, Sem.run_bind, Result.andThen_ok]
  cases d <;> first | rfl | exact absurd rfl (hs _) | exact absurd rfl (ha _ _)
theorem run_isAgg_struct {t : TypeId} {fs : Array Field} (h : P.underlying t = some (.struct fs)) : (isAgg t).run P w = .ok true w := by
  unfold isAgg
  simp only [run_underlying h, Sem.run_bind, Result.andThen_ok]
  rfl
theorem run_sizeOf {t : TypeId} {n : Nat} (h : (P.info? t).map (fun i => i.size) = some n) : (sizeOf t).run P w = .ok n w := by
  cases hi : P.info? t with
  | none => simp [hi] at h
  | some i => simp [hi] at h; simp [sizeOf, typeInfo, hi, go_sem, h]

theorem run_loadCellsFrom (b off : Nat) : ∀ (n i : Nat) (vs : List Value) (acc : Array Value), vs.length = n → (∀ j v, vs[j]? = some v → w.cell? ⟨b, off + (i + j), none⟩ = some v) →
    (loadCellsFrom ⟨b, off, none⟩ i n acc).run P w = .ok (acc ++ vs.toArray) w := by
  intro n
  induction n with
  | zero => intro i vs acc hl _; have : vs = [] := List.eq_nil_of_length_eq_zero hl; subst this; simp [loadCellsFrom]
  | succ n ih =>
    intro i vs acc hl hc
    cases vs with
    | nil => simp at hl
    | cons v vs =>
      have h0 := hc 0 v rfl
      have hadd : (⟨b, off, none⟩ : Addr).add i = ⟨b, off + i, none⟩ := by unfold Addr.add; split <;> simp_all
      simp only [loadCellsFrom, Sem.run_bind, hadd]
      rw [show (load ⟨b, off + i, none⟩).run P w = .ok v w by simp [load, Sem.run]; simp at h0; rw [h0]]
      simp only [Result.andThen_ok]
      rw [ih (i + 1) vs _ (by simpa using hl) (fun j u hj => by have := hc (j + 1) u (by simpa using hj); rw [← this]; congr 2; omega)]
      simp

theorem run_loadVar_sc {t : TypeId} {b off : Nat} {v : Value} (ha : (isAgg t).run P w = .ok false w) (hc : w.cell? ⟨b, off, none⟩ = some v) :
    (Instr.loadAt t (.pointer (some ⟨b, off, none⟩))).run P w = .ok v w := by
  simp only [Instr.loadAt, Instr.sureAddr, loadVar, Sem.run_bind, ha, Result.andThen_ok, Sem.run_pure, Bool.false_eq_true, if_false]
  simp [load, Sem.run, hc]
theorem run_loadVar_agg {t : TypeId} {b off n : Nat} {cs : List Value} (ha : (isAgg t).run P w = .ok true w) (hn : (P.info? t).map (fun i => i.size) = some n) (hl : cs.length = n) (hc : CellsAt w b off cs) :
    (Instr.loadAt t (.pointer (some ⟨b, off, none⟩))).run P w = .ok (.agg cs.toArray) w := by
  simp only [Instr.loadAt, Instr.sureAddr, loadVar, Sem.run_bind, ha, Result.andThen_ok, Sem.run_pure, if_true, run_sizeOf hn, loadCells]
  rw [run_loadCellsFrom b off n 0 cs #[] hl (fun j v hj => by simpa using hc j v hj)]
  simp

/-- Cells of a block of abstract memory. -/
def CellsOf (w : World) (M : Nat → Prop) (bs : Bs) (hp : List Blk) (b : Nat) (cs : List SV) : Prop :=
  ∃ cur e, w.heap[b]? = some (.cells cur e (0, 0)) ∧ ∀ (j : Nat) (x : SV), cs[j]? = some x → ∃ u, cur[j]? = some u ∧ u.oneCell' = true ∧ relSV w M bs hp x u

theorem look_cells {b : Nat} {cs : List SV} (hr : CellsOf w M bs hp b cs) {j : Nat} {x : SV} (hj : cs[j]? = some x) :
    ∃ u, w.cell? ⟨b, j, none⟩ = some u ∧ u.oneCell' = true ∧ relSV w M bs hp x u := by
  obtain ⟨cur, e, h1, h2⟩ := hr
  obtain ⟨u, h3, h4, h5⟩ := h2 j x hj
  exact ⟨u, by simp [World.cell?, h1, h3], h4, h5⟩

theorem take_cells {b : Nat} {cs : List SV} (hr : CellsOf w M bs hp b cs) : ∀ (n off : Nat), off + n ≤ cs.length →
    ∃ vs, vs.length = n ∧ CellsAt w b off vs ∧ All2 (fun x u => relSV w M bs hp x u ∧ u.oneCell' = true) (takeAt cs off n) vs := by
  intro n
  induction n with
  | zero => intro off _; exact ⟨[], rfl, fun j v h => by simp at h, by simp [takeAt]; exact .nil⟩
  | succ n ih =>
    intro off ho
    have hlt : off < cs.length := by omega
    obtain ⟨u, h1, h2, h3⟩ := look_cells hr (List.getElem?_eq_getElem hlt)
    obtain ⟨vs, k1, k2, k3⟩ := ih (off + 1) (by omega)
    refine ⟨u :: vs, by simp [k1], ?_, ?_⟩
    · intro j v hj
      cases j with
      | zero => simp at hj; subst hj; exact h1
      | succ j => have := k2 j v (by simpa using hj); rw [← this]; congr 2; omega
    · unfold takeAt at k3 ⊢
      rw [List.drop_eq_getElem_cons hlt, List.take_succ_cons]
      exact .cons ⟨h3, h2⟩ k3

theorem scalar_desc {ty : Ty} (h : ty.scalar = true) : (∀ fs, ty.desc ≠ .struct fs) ∧ (∀ n e, ty.desc ≠ .array n e) ∧ ty.size = 1 := by
  cases ty <;> simp_all [Ty.scalar, Ty.desc, Ty.size]

theorem loadCs_sound (hg : g.ok P) (t : TypeId) (b off : Nat) (cs : List SV) (hr : CellsOf w M bs hp b cs) (hs : (loadCs g t cs off).1) :
    ∃ u, (Instr.loadAt t (.pointer (some ⟨b, off, none⟩))).run P w = .ok u w ∧ relRV w M bs hp (loadCs g t cs off).2 u := by
  have ht := G.td_ok hg t
  unfold loadCs at hs ⊢
  cases htd : g.td t with
  | map k e kt vt => simp [htd] at hs
  | other => simp [htd] at hs
  | arr n e ety => simp [loadCs, htd] at hs
  | struct ty =>
    simp only [htd] at hs ht ⊢
    obtain ⟨fs, h1, h2, h3, h4, h5⟩ := ht
    obtain ⟨vs, k1, k2, k3⟩ := take_cells hr ty.size off hs
    refine ⟨_, run_loadVar_agg (run_isAgg_struct h1) ?_ k1 k2, ⟨vs, rfl, k3⟩⟩
    cases hi : P.info? t with
    | none => simp [hi] at h5
    | some i => simp [hi] at h5; simp [h5.1]
  | sc ty =>
    simp only [htd] at hs ht ⊢
    obtain ⟨h1, h2, h3, h4⟩ := ht
    obtain ⟨q1, q2, q3⟩ := scalar_desc h4
    obtain ⟨u, k1, k2, k3⟩ := look_cells hr (List.getElem?_eq_getElem hs)
    refine ⟨u, run_loadVar_sc (run_isAgg_sc h1 q1 q2) k1, ?_⟩
    rw [List.getElem?_eq_getElem hs]
    exact k3
  | slice e ety bytes =>
    simp only [htd] at hs ht ⊢
    obtain ⟨u, k1, k2, k3⟩ := look_cells hr (List.getElem?_eq_getElem hs)
    refine ⟨u, run_loadVar_sc (run_isAgg_sc ht.1 (by simp) (by simp)) k1, ?_⟩
    rw [List.getElem?_eq_getElem hs]
    exact k3
  | func =>
    simp only [htd] at hs ht ⊢
    obtain ⟨⟨ps, rs, vd, h1⟩, h2⟩ := ht
    obtain ⟨u, k1, k2, k3⟩ := look_cells hr (List.getElem?_eq_getElem hs)
    refine ⟨u, run_loadVar_sc (run_isAgg_sc h1 (by simp) (by simp)) k1, ?_⟩
    rw [List.getElem?_eq_getElem hs]
    exact k3

theorem loadEv_sound {M0 : Nat → Prop} (hg : g.ok P) (hr : HR w M0 bs hp) (t : TypeId) (x : AV) (v : Value) (hx : relAV w (Mof M0 bs) bs hp x v) (hs : (loadEv g hp t x).1) :
    ∃ u, (Instr.loadAt t v).run P w = .ok u w ∧ relRV w (Mof M0 bs) bs hp (loadEv g hp t x).2 u := by
  have ht := G.td_ok hg t
  unfold loadEv at hs ⊢
  split at hs
  · rename_i ty x
    obtain ⟨b, off, cs, rfl, hm, hb, hrep, hc⟩ := hx
    have hlen := rep_length ty x cs hrep
    cases htd : g.td t with
    | sc ty' =>
      simp only [htd] at hs ht ⊢
      subst hs
      obtain ⟨h1, h2, h3, h4⟩ := ht
      obtain ⟨q1, q2, q3⟩ := scalar_desc h4
      obtain ⟨u, rfl⟩ : ∃ u, cs = [u] := by
        cases cs with
        | nil => simp at hlen; omega
        | cons u r => cases r with
          | nil => exact ⟨u, rfl⟩
          | cons _ _ => simp at hlen; omega
      refine ⟨u, run_loadVar_sc (run_isAgg_sc h1 q1 q2) (by simpa using hc 0 u rfl), ?_⟩
      have := relSV_av (bs := bs) (hp := hp) ty x hrep (.inr q3)
      cases ty <;> simp_all [Ty.scalar] <;> exact this
    | slice e ety bytes =>
      simp only [htd] at hs ht ⊢
      subst hs
      simp only [rep] at hrep
      obtain ⟨a, c, rfl, r1, r2, r3⟩ := hrep
      exact ⟨_, run_loadVar_sc (run_isAgg_sc ht.1 (by simp) (by simp)) (by simpa using hc 0 _ rfl), ⟨a, c, rfl, r1, r2, by simp, r3⟩⟩
    | func =>
      simp only [htd] at hs ht ⊢
      subst hs
      obtain ⟨⟨ps, rs, vd, h1⟩, h2⟩ := ht
      simp only [rep] at hrep
      obtain ⟨u, rfl, _⟩ := hrep.fn_one
      exact ⟨u, run_loadVar_sc (run_isAgg_sc h1 (by simp) (by simp)) (by simpa using hc 0 u rfl), hrep⟩
    | struct ty' =>
      simp only [htd] at hs ht ⊢
      obtain ⟨rfl, hn⟩ := hs
      obtain ⟨fs, h1, h2, h3, h4, h5⟩ := ht
      refine ⟨_, run_loadVar_agg (run_isAgg_struct h1) ?_ hlen hc, ?_⟩
      · cases hi : P.info? t with
        | none => simp [hi] at h5
        | some i => simp [hi] at h5; simp [h5.1]
      · have := relSV_av (bs := bs) (hp := hp) ty x hrep (.inl hn)
        cases ty <;> first | exact absurd rfl hn | exact this
    | map k e kt vt => simp [htd] at hs
    | other => simp [htd] at hs
    | arr n e ety => simp [htd] at hs
  · rename_i id off
    obtain ⟨hid, hx⟩ := hx
    cases hl : Blk.look hp id with
    | cells cs =>
      obtain ⟨b, hb, rfl⟩ := hx cs hl
      simp only [hl] at hs ⊢
      obtain ⟨b', cur, e, h1, h2, h3, h4⟩ := hr.cells id cs hl
      rw [hb] at h1; cases h1
      exact loadCs_sound hg t b off cs ⟨cur, e, h2, h4⟩ hs
    | _ => simp [hl] at hs
  · rename_i ty id n off
    cases hl : Blk.look hp id with
    | dead => simp [hl] at hs
    | trace l' xs' i' st' => simp [hl] at hs
    | map k v es => simp [hl] at hs
    | cells cs => simp [hl] at hs
    | arr al cs =>
      simp only [hl] at hs ⊢
      obtain ⟨b, hb, rfl⟩ := (hx.2 al cs hl).2 hs.1
      exact loadCs_sound hg t b off cs (hr.arr id al cs b hl hb) hs.2
  · exact hs.elim

theorem arith_sound (k : IntKind) (n : Int) (h : (arith k n).1) : relRV w M bs hp (arith k n).2 (.int k (k.wrap n)) := by
  cases k <;> simp only [arith] at h ⊢ <;> first | exact rfl | skip
  show Value.int _ _ = Value.int _ _
  rw [IntWalk.i64_in n h]

theorem intEv_sound (op : BinOp) (k : IntKind) (a b : Int) (t : TypeId) (h : (intEv op k a b).1) : ∃ u, (binOp op t (.int k a) (.int k b)).run P w = .ok u w ∧ relRV w M bs hp (intEv op k a b).2 u := by
  unfold intEv at h ⊢
  cases op <;> simp only at h ⊢
  case add => exact ⟨_, by simp [binOp, Op.intArith], arith_sound k _ h⟩
  case sub => exact ⟨_, by simp [binOp, Op.intArith], arith_sound k _ h⟩
  case mul => exact ⟨_, by simp [binOp, Op.intArith], arith_sound k _ h⟩
  case quo => exact ⟨_, by simp [binOp, Op.intDiv, h.1], arith_sound k _ h.2⟩
  case rem => exact ⟨_, by simp [binOp, Op.intDiv, h], rfl⟩
  case eql => exact ⟨_, by simp [binOp, Op.intCmp], rfl⟩
  case neq => exact ⟨_, by simp [binOp, Op.intCmp], rfl⟩
  case lss => exact ⟨_, by simp [binOp, Op.intCmp], rfl⟩
  case leq => exact ⟨_, by simp [binOp, Op.intCmp], rfl⟩
  case gtr => exact ⟨_, by simp [binOp, Op.intCmp], rfl⟩
  case geq => exact ⟨_, by simp [binOp, Op.intCmp], rfl⟩
  case shr =>
    have hb : min b.toNat k.bits = b.toNat := by
      have : 8 ≤ k.bits := by cases k <;> decide
      omega
    refine ⟨_, ?_, rfl⟩
    simp [binOp, Op.shift, hb, show ¬ b < 0 by omega]

theorem td_bool (hg : g.ok P) {t : TypeId} (h : (g.td t).isBool = true) : P.underlying t = some .bool := by
  have := G.td_ok hg t
  generalize g.td t = d at *
  cases d with
  | sc ty => cases ty <;> first | exact this.1 | simp [TD.isBool] at h
  | _ => simp [TD.isBool] at h

theorem run_eqGuard_int (op : BinOp) (t : TypeId) (ox oy : Operand) (k k' : IntKind) (a b : Int) : (eqGuard op t ox oy (.int k a) (.int k' b)).run P w = .ok () w := by
  unfold eqGuard
  cases op <;> simp
theorem run_eqGuard_bool (op : BinOp) (t : TypeId) (ox oy : Operand) (a b : Bool) : (eqGuard op t ox oy (.bool a) (.bool b)).run P w = .ok () w := by
  unfold eqGuard
  cases op <;> simp

theorem run_eqGuard_slice (op : BinOp) (t : TypeId) (ox oy : Operand) (a : Option Addr) (n c : Nat) : (eqGuard op t ox oy (.slice a n c) (.slice none 0 0)).run P w = .ok () w := by
  unfold eqGuard
  cases op <;> simp
theorem run_equal_nil {t e : TypeId} (ht : P.underlying t = some (.slice e)) (a : Option Addr) (n c : Nat) : (Op.equal t (.slice a n c) (.slice none 0 0)).run P w = .ok a.isNone w := by
  have key : ∀ d : Nat, (Op.equalIn (d + 1) t (.slice a n c) (.slice none 0 0)).run P w = .ok a.isNone w := fun d => by
    cases a <;> simp [Op.equalIn, Sem.run_bind, run_underlying ht]
  exact key 9999
theorem binEv_sound (hg : g.ok P) (op : BinOp) (x y : AV) (v u : Value) (t : TypeId) (hx : relAV w M bs hp x v) (hy : relAV w M bs hp y u) (h : (binEv g op t x y).1) (ox oy : Operand) :
    ∃ z, (do eqGuard op t ox oy v u; binOp op t v u : Sem Value).run P w = .ok z w ∧ relRV w M bs hp (binEv g op t x y).2 z := by
  unfold binEv at h ⊢
  split at h
  · obtain rfl : v = .int _ _ := hx
    obtain rfl : u = .int _ _ := hy
    obtain ⟨rfl, h⟩ := h
    obtain ⟨z, h1, h2⟩ := intEv_sound (P := P) (w := w) (M := M) (bs := bs) (hp := hp) op _ _ _ t h
    refine ⟨z, ?_, h2⟩
    rw [Sem.run_bind, run_eqGuard_int]
    exact h1
  · obtain rfl : v = .bool _ := hx
    obtain rfl : u = .bool _ := hy
    cases op <;> simp only at h ⊢
    case eql => exact ⟨_, by rw [Sem.run_bind, run_eqGuard_bool]; exact run_eql_bool (P := P) w t _ _ (td_bool hg h), rfl⟩
    case neq =>
      refine ⟨_, ?_, rfl⟩
      rw [Sem.run_bind, run_eqGuard_bool]
      have hq := run_equal_bool (P := P) w t ‹Bool› ‹Bool› (td_bool hg h)
      simp only [Result.andThen_ok, binOp, Sem.run_bind]
      rw [run_equal_bool (P := P) w t _ _ (td_bool hg h)]
      rfl
    all_goals exact h.elim
  · obtain ⟨a, c, rfl, _, _, _, hrow⟩ := hx
    obtain rfl : u = .slice none 0 0 := hy
    have hnil : a.isNone = true → ‹List _› = [] := fun ha => by
      rcases hrow with h1 | ⟨b, off, h1, _⟩
      · exact h1
      · rw [h1] at ha; cases ha
    have ht := G.td_ok hg t
    split at h
    · rename_i htd
      rw [htd] at ht
      refine ⟨.bool a.isNone, ?_, a.isNone, rfl, hnil, fun _ => trivial⟩
      rw [Sem.run_bind, run_eqGuard_slice]
      simp only [Result.andThen_ok, binOp, Sem.run_bind, run_equal_nil ht.1, Sem.run_pure]
    · rename_i htd
      rw [htd] at ht
      refine ⟨.bool (!a.isNone), ?_, !a.isNone, rfl, fun _ => trivial, fun h => hnil (by simpa using h)⟩
      rw [Sem.run_bind, run_eqGuard_slice]
      simp only [Result.andThen_ok, binOp, Sem.run_bind, run_equal_nil ht.1, Sem.run_pure]
    · exact h.elim
  · exact h.elim

theorem convEv_sound (hg : g.ok P) (s d : TypeId) (x : AV) (v : Value) (hx : relAV w M bs hp x v) (h : (convEv g s d x).1) : ∃ z, (convert s d v).run P w = .ok z w ∧ relRV w M bs hp (convEv g s d x).2 z := by
  unfold convEv at h ⊢
  split at h
  · rename_i k0 k k1 n e1 e2
    have h1 := G.td_ok hg s
    have h2 := G.td_ok hg d
    rw [e1] at h1; rw [e2] at h2
    have hv : v = .int k1 n := hx
    subst hv
    exact ⟨.int k (k.wrap n), by simp only [convert, Sem.run_bind, run_underlying h1.1, run_underlying h2.1, Result.andThen_ok, Ty.desc, Conv.intToInt]; rfl, rfl⟩
  · rename_i b e1 e2
    have h1 := G.td_ok hg s
    have h2 := G.td_ok hg d
    rw [e1] at h1; rw [e2] at h2
    have hv : v = .string b := hx
    subst hv
    exact ⟨.string b, by simp only [convert, Sem.run_bind, run_underlying h1.1, run_underlying h2.1, Result.andThen_ok, Ty.desc]; rfl, rfl⟩
  · exact h.elim
theorem xor_i64 (n : Int) (h : -9223372036854775808 ≤ n ∧ n ≤ 9223372036854775807) : IntKind.i64.wrap ((BitVec.ofInt 64 (-1) ^^^ BitVec.ofInt 64 n).toNat : Int) = -n - 1 := by
  have h1 : BitVec.ofInt 64 (-1) = BitVec.allOnes 64 := by decide
  rw [h1, BitVec.allOnes_xor, BitVec.toNat_not, BitVec.toNat_ofInt, IntKind.wrap_i64]
  have h2 : (0:Int) ≤ n % 18446744073709551616 := Int.emod_nonneg _ (by decide)
  have h3 : n % 18446744073709551616 < 18446744073709551616 := Int.emod_lt_of_pos _ (by decide)
  simp only [Nat.reducePow]
  omega
theorem run_xor (n : Int) (h : -9223372036854775808 ≤ n ∧ n ≤ 9223372036854775807) : (Op.unary .xor (.int .i64 n)).run P w = .ok (.int .i64 (-n - 1)) w := by
  have := xor_i64 n h
  simp only [Op.unary, Op.intBits, IntKind.signed, if_true]
  show Result.ok (Value.int IntKind.i64 _) w = _
  rw [← this]
  rfl
theorem unEv_sound (op : UnOp) (x : AV) (v : Value) (hx : relAV w M bs hp x v) (h : (unEv op x).1) : ∃ z, (Op.unary op v).run P w = .ok z w ∧ relRV w M bs hp (unEv op x).2 z := by
  unfold unEv at h ⊢
  split at h
  · obtain rfl : v = .bool _ := hx
    exact ⟨_, by simp [Op.unary], rfl⟩
  · obtain ⟨b, rfl, h1, h2⟩ := hx
    exact ⟨_, by simp [Op.unary], !b, rfl, fun h => h2 (by simpa using h), fun h => h1 (by simpa using h)⟩
  · obtain rfl : v = .int _ _ := hx
    refine ⟨_, by simp [Op.unary, Op.intArith]; rfl, ?_⟩
    show Value.int _ _ = Value.int _ _
    rw [IntWalk.i64_in _ h]
  · obtain rfl : v = .int _ _ := hx
    exact ⟨_, run_xor _ h, rfl⟩
  · exact h.elim

theorem pickEv_sound (c a b : AV) (vc va vb : Value) (hc : relAV w M bs hp c vc) (ha : relAV w M bs hp a va) (hb : relAV w M bs hp b vb) (h : (pickEv c a b).1) :
    ∃ q, vc = .bool q ∧ relRV w M bs hp (pickEv c a b).2 (if q then va else vb) := by
  unfold pickEv at h ⊢
  split at h
  · obtain rfl : vc = .bool _ := hc
    obtain rfl : va = .bool _ := ha
    obtain rfl : vb = .bool _ := hb
    exact ⟨_, rfl, by simp only [relRV, relAV, relSV, Value.ite_bool]⟩
  · obtain rfl : vc = .bool _ := hc
    simp only at h
    exact ⟨_, rfl, by rw [h]; exact hb⟩
  · obtain rfl : vc = .bool _ := hc
    simp only at h
    exact ⟨_, rfl, by rw [h]; exact ha⟩
  · exact h.elim

theorem map_arr (a : Act) (xs : Array Operand) : xs.map a.eval = (xs.toList.map a.eval).toArray := by apply Array.ext'; simp

theorem off_lt : ∀ (t : Ty) (f : Nat), f < t.nfld → t.off f + (t.fld f).size ≤ t.size
  | .cons t r, 0, _ => by simp [Ty.off, Ty.fld, Ty.size]
  | .cons t r, f + 1, h => by
    have := off_lt r f (by simpa [Ty.nfld] using h)
    simp [Ty.off, Ty.fld, Ty.size]; omega
  | .int _, _, h => by simp [Ty.nfld] at h
  | .bool, _, h => by simp [Ty.nfld] at h
  | .str, _, h => by simp [Ty.nfld] at h
  | .slice _, _, h => by simp [Ty.nfld] at h
  | .nil, _, h => by simp [Ty.nfld] at h

theorem rep_fld : ∀ (t : Ty) (f : Nat) (x : t.T) (cs : List Value), f < t.nfld → rep w M t x cs → rep w M (t.fld f) (t.get x f) ((cs.drop (t.off f)).take (t.fld f).size)
  | .cons t r, 0, x, cs, _, h => by
    simp only [rep] at h
    obtain ⟨c1, c2, rfl, h1, h2⟩ := h
    have := rep_length t _ _ h1
    simp [Ty.off, Ty.fld, Ty.get, ← this, h1]
  | .cons t r, f + 1, x, cs, hf, h => by
    simp only [rep] at h
    obtain ⟨c1, c2, rfl, h1, h2⟩ := h
    have h3 := rep_fld r f x.2 c2 (by simpa [Ty.nfld] using hf) h2
    have := rep_length t _ _ h1
    simp only [Ty.off, Ty.fld, Ty.get]
    rw [← this, List.drop_append, List.drop_of_length_le (by omega)]
    simpa using h3
  | .int _, _, _, _, h, _ => by simp [Ty.nfld] at h
  | .bool, _, _, _, h, _ => by simp [Ty.nfld] at h
  | .str, _, _, _, h, _ => by simp [Ty.nfld] at h
  | .slice _, _, _, _, h, _ => by simp [Ty.nfld] at h
  | .nil, _, _, _, h, _ => by simp [Ty.nfld] at h

theorem fields_at {t : TypeId} {ty : Ty} (ht : TD.ok P t (.struct ty)) {f : Nat} (hf : f < ty.nfld) :
    ∃ (fs : Array Field) (fl : Field), P.underlying t = some (.struct fs) ∧ fs[f]? = some fl ∧ fl.offset = ty.off f ∧ (P.info? fl.type).map (fun i => i.size) = ty.sizes[f]? ∧ (∀ n, ty.sizes[f]? = some n → 0 < n) := by
  obtain ⟨fs, h1, h2, h3, h4, h5⟩ := ht
  have hlen : fs.size = ty.nfld := by have := congrArg List.length h2; simpa [Ty.offs] using this
  refine ⟨fs, fs[f]'(by omega), h1, by simp [hlen, hf], ?_, ?_, fun n hn => h4 n (List.mem_of_getElem? hn)⟩
  · have := congrArg (fun l => l[f]?) h2
    simp [Ty.offs, hlen, hf] at this
    exact this
  · have := congrArg (fun l => l[f]?) h3
    simp [hlen, hf] at this
    cases hs : ty.sizes[f]? with
    | none => simp [hs] at this
    | some n => simp [hs] at this; simpa using this

theorem sizes_fld : ∀ (t : Ty) (f : Nat), f < t.nfld → t.sizes[f]? = some (t.fld f).size
  | .cons t r, 0, _ => by simp [Ty.sizes, Ty.fld]
  | .cons t r, f + 1, h => by simpa [Ty.sizes, Ty.fld] using sizes_fld r f (by simpa [Ty.nfld] using h)
  | .int _, _, h => by simp [Ty.nfld] at h
  | .bool, _, h => by simp [Ty.nfld] at h
  | .str, _, h => by simp [Ty.nfld] at h
  | .slice _, _, h => by simp [Ty.nfld] at h
  | .nil, _, h => by simp [Ty.nfld] at h

theorem addr_add (b off n : Nat) : (⟨b, off, none⟩ : Addr).add n = ⟨b, off + n, none⟩ := by unfold Addr.add; split <;> simp_all

theorem run_fieldAt {s : TypeId} {ty : Ty} (ht : TD.ok P s (.struct ty)) {f : Nat} (hf : f < ty.nfld) (b off : Nat) :
    (Instr.fieldAt s (.pointer (some ⟨b, off, none⟩)) f).run P w = .ok (.pointer (some ⟨b, off + ty.off f, none⟩)) w := by
  obtain ⟨fs, fl, h1, h2, h3, h4, h5⟩ := fields_at ht hf
  rw [sizes_fld ty f hf] at h4 h5
  have h0 := h5 _ rfl
  simp only [Instr.fieldAt, Sem.run_bind, run_underlying h1, Result.andThen_ok, h2, Instr.sureAddr, Sem.run_pure, fieldPlace, run_sizeOf h4]
  rw [if_neg (by omega)]
  simp [addr_add, h3]

theorem fieldAddrEv_sound (hg : g.ok P) (s : TypeId) (x : AV) (f : Nat) (v : Value) (hx : relAV w M bs hp x v) (h : (fieldAddrEv g hp s x f).1) :
    ∃ z, (Instr.fieldAt s v f).run P w = .ok z w ∧ relRV w M bs hp (fieldAddrEv g hp s x f).2 z := by
  have ht := G.td_ok hg s
  unfold fieldAddrEv at h ⊢
  split at h
  · rename_i ty ty' y htd
    rw [htd] at ht
    obtain ⟨rfl, hf⟩ := h
    obtain ⟨b, off, cs, rfl, hm, hb, hr, hc⟩ := hx
    refine ⟨_, run_fieldAt ht hf b off, ?_⟩
    dsimp only
    refine ⟨b, _, _, rfl, hm, hb, rep_fld _ f y cs hf hr, ?_⟩
    intro j v hj
    rw [List.getElem?_take] at hj
    split at hj
    · rw [List.getElem?_drop] at hj
      have := hc _ v hj
      rw [← this]; congr 2; omega
    · cases hj
  · rename_i ty id off htd
    rw [htd] at ht
    obtain ⟨hid, hx⟩ := hx
    cases hl : Blk.look hp id with
    | cells cs =>
      simp only [hl] at h ⊢
      obtain ⟨b, hb, rfl⟩ := hx cs hl
      exact ⟨_, run_fieldAt ht h b off, hid, fun _ _ => ⟨b, hb, rfl⟩⟩
    | _ => simp [hl] at h
  · rename_i ty t id n off htd
    rw [htd] at ht
    cases hl : Blk.look hp id with
    | dead => simp [hl] at h
    | trace l' xs' i' st' => simp [hl] at h
    | map k v es => simp [hl] at h
    | cells cs => simp [hl] at h
    | arr al cs =>
      simp only [hl] at h ⊢
      obtain ⟨h1, h2⟩ := h
      obtain ⟨hid, hx⟩ := hx
      obtain ⟨b, k1, rfl⟩ := (hx al cs hl).2 h1
      exact ⟨_, run_fieldAt ht h2 b off, hid, fun al cs hl' => ⟨(hx al cs hl').1, fun _ => ⟨b, k1, rfl⟩⟩⟩
  · exact h.elim

theorem indexAddrEv_sound {M0 : Nat → Prop} (hr : HR w M0 bs hp) (hg : g.ok P) (t : TypeId) (x i : AV) (v u : Value) (hx : relAV w M bs hp x v) (hi : relAV w M bs hp i u) (h : (indexAddrEv g hp t x i).1) :
    ∃ z, (Instr.indexAt t v u).run P w = .ok z w ∧ relRV w M bs hp (indexAddrEv g hp t x i).2 z := by
  have ht := G.td_ok hg t
  unfold indexAddrEv at h ⊢
  split at h
  · rename_i e ety bytes ty id n kk k htd
    rw [htd] at ht
    obtain rfl : u = .int _ _ := hi
    cases hl : Blk.look hp id with
    | dead => simp [hl] at h
    | trace l' xs' i' st' => simp [hl] at h
    | map k v es => simp [hl] at h
    | cells cs => simp [hl] at h
    | arr al cs =>
      simp only [hl] at h ⊢
      obtain ⟨rfl, rfl, h1, h2, h3⟩ := h
      obtain ⟨b, hb⟩ := hr.al id cs hl
      obtain ⟨hid, hx⟩ := hx
      rcases (hx true cs hl).2 h1 with ⟨b', cap, k1, rfl, k3, k4⟩ | ⟨k1, _⟩
      · obtain ⟨hu, hsz, hinfo, _⟩ := ht
        have hs : (P.info? e).map (fun i => i.size) = some ty.size := by
          cases hi : P.info? e with
          | none => simp [hi] at hinfo
          | some i => simp [hi] at hinfo; simp [hinfo.1]
        refine ⟨.pointer (some ⟨b', k.toNat * ty.size, none⟩), ?_, hid, fun al cs hl' => ⟨(hx al cs hl').1, fun _ => ⟨b', k1, rfl⟩⟩⟩
        simp only [Instr.indexAt, asIntOf, Sem.run_bind, Sem.run_pure, Result.andThen_ok, run_underlying hu]
        rw [if_pos ⟨h2, h3⟩]
        simp only [Sem.run_bind, run_sizeOf hs, Result.andThen_ok, Sem.run_pure, addr_add, Nat.zero_add]
      · rw [hb] at k1; cases k1
  · rename_i n e ety id off kk k htd
    rw [htd] at ht
    obtain rfl : u = .int _ _ := hi
    cases hl : Blk.look hp id with
    | dead => simp [hl] at h
    | trace l' xs' i' st' => simp [hl] at h
    | map k v es => simp [hl] at h
    | arr al cs => simp [hl] at h
    | cells cs =>
      simp only [hl] at h ⊢
      obtain ⟨h2, h3⟩ := h
      obtain ⟨hid, hx⟩ := hx
      obtain ⟨b, hb, rfl⟩ := hx cs hl
      obtain ⟨hu, hs, _⟩ := ht
      refine ⟨.pointer (some ⟨b, off + k.toNat * ety.size, none⟩), ?_, hid, fun cs' hl' => ⟨b, hb, rfl⟩⟩
      simp only [Instr.indexAt, asIntOf, Sem.run_bind, Sem.run_pure, Result.andThen_ok, run_underlying hu]
      rw [show (Instr.sureAddr (.pointer (some ⟨b, off, none⟩)) : Sem Addr).run P w = .ok ⟨b, off, none⟩ w by simp [Instr.sureAddr]]
      simp only [Result.andThen_ok]
      rw [if_pos ⟨h2, h3⟩]
      simp only [Sem.run_bind, run_sizeOf hs, Result.andThen_ok, Sem.run_pure, addr_add]
  · rename_i e ety bytes ty xs ex k n htd
    rw [htd] at ht
    obtain ⟨rfl, h0, h1⟩ := h
    obtain rfl : u = .int _ _ := hi
    obtain ⟨a, c, rfl, q1, q2, q3, q4⟩ := hx
    rcases q4 with rfl | ⟨b, off, rfl, hm, hb, he⟩
    · simp at h1; omega
    · have hlt : n.toNat < xs.length := by omega
      obtain ⟨cs, r1, r2, r3⟩ := he n.toNat _ (List.getElem?_eq_getElem hlt)
      obtain ⟨hu, hsz, hinfo, _⟩ := ht
      have hs : (P.info? e).map (fun i => i.size) = some ty.size := by
        cases hi : P.info? e with
        | none => simp [hi] at hinfo
        | some i => simp [hi] at hinfo; simp [hinfo.1]
      refine ⟨.pointer (some ⟨b, off + n.toNat * ty.size, none⟩), ?_, ?_⟩
      · simp only [Instr.indexAt, asIntOf, Sem.run_bind, Sem.run_pure, Result.andThen_ok, run_underlying hu]
        rw [if_pos ⟨h0, h1⟩]
        simp only [Sem.run_bind, run_sizeOf hs, Result.andThen_ok, Sem.run_pure, addr_add]
      · dsimp only
        rw [List.getD_eq_getElem?_getD, List.getElem?_eq_getElem hlt]
        exact ⟨b, _, cs, rfl, hm, hb, r2, r3⟩
  · exact h.elim

theorem run_sliceBound {n : Nat} {k : IntKind} {i : Int} (c : BoundsCode) (h0 : 0 ≤ i) (h1 : i ≤ n) : (Instr.sliceBound (.int k i) n c).run P w = .ok i.toNat w := by
  simp [Instr.sliceBound, asIntOf, h0, h1]

theorem bound_val {d n : Int} {o : Option Operand} {ρ : Operand → RV} {a : Act} (hρ : ∀ x ∈ o.toList, relRV w M bs hp (ρ x) (a.eval x)) (h : bound d (o.map ρ) = some n) :
    (o = none ∧ n = d) ∨ ∃ x k, o = some x ∧ a.eval x = .int k n := by
  cases o with
  | none => simp [bound] at h; exact .inl ⟨rfl, h.symm⟩
  | some x =>
    right
    have h1 := hρ x (by simp)
    simp only [Option.map_some, bound] at h
    split at h
    · rename_i heq; cases heq
    · rename_i k m heq
      injection heq with heq
      rw [heq] at h1
      injection h with h
      subst h
      exact ⟨x, k, rfl, h1⟩
    · cases h

theorem RowAt_cut {t : Ty} {a : Option Addr} {xs : List t.T} (h : RowAt w M (fun x cs => rep w M t x cs) t.size a xs) (l hh : Nat) (a' : Option Addr) (ha : hh ≠ l → a' = a.map (·.add (l * t.size))) (hlh : l ≤ hh) (hl : hh ≤ xs.length) :
    RowAt w M (fun x cs => rep w M t x cs) t.size a' ((xs.take hh).drop l) := by
  by_cases hne : hh = l
  · left; subst hne; simp
  · rcases h with rfl | ⟨b, off, rfl, hm, hb, he⟩
    · simp at hl; omega
    · right
      refine ⟨b, off + l * t.size, by rw [ha hne]; simp [addr_add], hm, hb, fun i x hi => ?_⟩
      rw [List.getElem?_drop, List.getElem?_take] at hi
      split at hi
      · obtain ⟨cs, q1, q2, q3⟩ := he _ x hi
        refine ⟨cs, q1, q2, fun j v hj => ?_⟩
        have := q3 j v hj
        rw [← this]; congr 2; rw [Nat.add_mul]; omega
      · cases hi

theorem sliceEv_sound (hg : g.ok P) (t : TypeId) (x : AV) (v : Value) (hx : relAV w M bs hp x v) (lo hi mx : Option Operand) (ρ : Operand → RV) (a : Act)
    (h1 : ∀ x ∈ lo.toList, relRV w M bs hp (ρ x) (a.eval x)) (h2 : ∀ x ∈ hi.toList, relRV w M bs hp (ρ x) (a.eval x)) (h3 : ∀ x ∈ mx.toList, relRV w M bs hp (ρ x) (a.eval x))
    (h : (sliceEv g t x (lo.map ρ) (hi.map ρ) (mx.map ρ)).1) :
    ∃ z, (Instr.sliceAt t v (lo.map a.eval) (hi.map a.eval) (mx.map a.eval)).run P w = .ok z w ∧ relRV w M bs hp (sliceEv g t x (lo.map ρ) (hi.map ρ) (mx.map ρ)).2 z := by
  have ht := G.td_ok hg t
  unfold sliceEv at h ⊢
  split at h
  · rename_i e ety bytes ty xs ex htd
    rw [htd] at ht
    obtain ⟨ad, c, rfl, q1, q2, q3, q4⟩ := hx
    obtain ⟨hu, hsz, hinfo, _⟩ := ht
    split at h
    · rename_i l hh m e1 e2 e3
      obtain ⟨rfl, k1, k2, k3, k4, hm⟩ := h
      simp only [Option.isSome_map] at hm
      have hs : (P.info? e).map (fun i => i.size) = some ty.size := by
        cases hi : P.info? e with
        | none => simp [hi] at hinfo
        | some i => simp [hi] at hinfo; simp [hinfo.1]
      have b1 := bound_val h1 e1
      have b2 := bound_val h2 e2
      have b3 := bound_val h3 e3
      -- the capacity up to which it goes
      obtain ⟨mc, hmc, hmx⟩ : ∃ mc : Nat, (mx = none ∧ mc = c ∨ mx.isSome = true ∧ (mc : Int) = m) ∧
          (Instr.sliceBounds true xs.length c (lo.map a.eval) (hi.map a.eval) (mx.map a.eval)).run P w = .ok (l.toNat, hh.toNat, mc) w := by
        rcases b3 with ⟨rfl, rfl⟩ | ⟨ox, k, rfl, hv⟩
        · refine ⟨c, .inl ⟨rfl, rfl⟩, ?_⟩
          rcases b2 with ⟨rfl, rfl⟩ | ⟨oh, kh, rfl, hv2⟩ <;> rcases b1 with ⟨rfl, rfl⟩ | ⟨ol, kl, rfl, hv1⟩
          · simp [Instr.sliceBounds]
          · simp [Instr.sliceBounds, hv1, run_sliceBound (P := P) (w := w) (n := xs.length) _ k1 k2]
          · simp [Instr.sliceBounds, hv2, run_sliceBound (P := P) (w := w) (n := c) (i := hh) _ (by omega) (by omega)]
          · simp [Instr.sliceBounds, hv1, hv2, Sem.run_bind, run_sliceBound (P := P) (w := w) (n := c) (i := hh) _ (by omega) (by omega),
              run_sliceBound (P := P) (w := w) (n := hh.toNat) (i := l) _ k1 (by omega)]
        · refine ⟨m.toNat, .inr ⟨rfl, by omega⟩, ?_⟩
          rcases b2 with ⟨rfl, rfl⟩ | ⟨oh, kh, rfl, hv2⟩
          · simp at hm
          · rcases b1 with ⟨rfl, rfl⟩ | ⟨ol, kl, rfl, hv1⟩
            · simp [Instr.sliceBounds, hv, hv2, Sem.run_bind, run_sliceBound (P := P) (w := w) (n := c) (i := m) _ (by omega) (by omega), run_sliceBound (P := P) (w := w) (n := m.toNat) (i := hh) _ (by omega) (by omega)]
            · simp [Instr.sliceBounds, hv, hv1, hv2, Sem.run_bind, run_sliceBound (P := P) (w := w) (n := c) (i := m) _ (by omega) (by omega), run_sliceBound (P := P) (w := w) (n := m.toNat) (i := hh) _ (by omega) (by omega),
                run_sliceBound (P := P) (w := w) (n := hh.toNat) (i := l) _ k1 (by omega)]
      refine ⟨.slice (if mc = l.toNat then ad else ad.map (·.add (l.toNat * ty.size))) (hh.toNat - l.toNat) (mc - l.toNat), ?_, ?_⟩
      · simp only [Instr.sliceAt, Instr.slice, Sem.run_bind, run_underlying hu, Result.andThen_ok, hmx, run_sizeOf hs, Sem.run_pure]
      · have hlen : ((xs.take hh.toNat).drop l.toNat).length = hh.toNat - l.toNat := by simp; omega
        refine ⟨_, mc - l.toNat, by rw [hlen], by rw [hlen]; rcases hmc with ⟨_, rfl⟩ | ⟨_, e⟩ <;> omega, by rcases hmc with ⟨_, rfl⟩ | ⟨_, e⟩ <;> omega, ?_, ?_⟩
        · intro hex
          simp at hex
          rw [hlen]
          rcases hmc with ⟨rfl, rfl⟩ | ⟨_, e⟩
          · simp at hex
          · omega
        · refine RowAt_cut q4 _ _ _ (fun hne => ?_) (by omega) (by omega)
          rw [if_neg]
          rcases hmc with ⟨_, rfl⟩ | ⟨_, e⟩ <;> omega
    · exact h.elim
  · exact h.elim

theorem lenEv_sound (hg : g.ok P) (t : TypeId) (x : AV) (v : Value) (hx : relAV w M bs hp x v) (h : (lenEv g hp t x).1) (o : TypeId) :
    ∃ z, (Builtin.len_ #[t] o #[v]).run P w = .ok z w ∧ relRV w M bs hp (lenEv g hp t x).2 z := by
  have ht := G.td_ok hg t
  unfold lenEv at h ⊢
  split at h
  · rename_i htd; rw [htd] at ht
    obtain ⟨a, c, rfl, _⟩ := hx
    exact ⟨_, by simp [Builtin.len_, run_underlying ht.1, goInt], rfl⟩
  · rename_i htd; rw [htd] at ht
    obtain rfl : v = .string _ := hx
    have h1 : P.underlying t = some .string := ht.1
    exact ⟨_, by simp [Builtin.len_, run_underlying h1, goInt], rfl⟩
  · rename_i htd; rw [htd] at ht
    obtain rfl : v = .slice none 0 0 := hx
    exact ⟨_, by simp [Builtin.len_, run_underlying ht.1, goInt], rfl⟩
  · rename_i t' id n htd; rw [htd] at ht
    cases hl : Blk.look hp id with
    | dead => simp [hl] at h
    | trace l' xs' i' st' => simp [hl] at h
    | map k v es => simp [hl] at h
    | cells cs => simp [hl] at h
    | arr al cs =>
      simp only [hl] at h ⊢
      rcases (hx.2 al cs hl).2 h with ⟨b, cap, _, rfl, _⟩ | ⟨_, xs, a, _, _, _, rfl, _⟩
      · exact ⟨_, by simp [Builtin.len_, run_underlying ht.1, goInt], rfl⟩
      · exact ⟨_, by simp [Builtin.len_, run_underlying ht.1, goInt], rfl⟩
  · exact h.elim

theorem minEv_sound (l : List AV) (vs : List Value) (hx : All2 (relAV w M bs hp) l vs) (mx : Bool) (h : (minEv mx l).1) (ts : Array TypeId) (o : TypeId) :
    ∃ z, (if mx then Builtin.max_ ts o vs.toArray else Builtin.min_ ts o vs.toArray : Sem Value).run P w = .ok z w ∧ relRV w M bs hp (minEv mx l).2 z := by
  unfold minEv at h ⊢
  split at h
  · subst h
    cases hx with
    | cons h1 hx => cases hx with
      | cons h2 hx => cases hx with
        | nil =>
          rename_i k a b v u
          obtain rfl : v = .int _ _ := h1
          obtain rfl : u = .int _ _ := h2
          cases mx
          · exact ⟨_, by simp [Builtin.min_, Builtin.min2], rfl⟩
          · exact ⟨.int k (if a < b then b else a), by simp [Builtin.max_, Builtin.max2], rfl⟩
  · exact h.elim

theorem allBox_sound : ∀ (l : List Operand) (ρ : Operand → RV) (a : Act) (ids : List Nat), (∀ x ∈ l, relRV w M bs hp (ρ x) (a.eval x)) → allBox hp (l.map ρ) = some ids →
    ∃ ps : List Nat, l.map a.eval = ps.map (fun b => Value.pointer (some ⟨b, 0, none⟩)) ∧ All2 (fun id b => id < hp.length ∧ ∀ cs, Blk.look hp id = .cells cs → bs.at id = some b) ids ps
  | [], _, _, ids, _, h => by simp [allBox] at h; subst h; exact ⟨[], rfl, .nil⟩
  | x :: l, ρ, a, ids, hρ, h => by
    simp only [List.map_cons] at h
    unfold allBox at h
    split at h
    · rename_i heq; cases heq
    · rename_i id r heq
      injection heq with e1 e2
      subst e2
      cases hl : Blk.look hp id with
      | cells cs =>
        simp only [hl] at h
        cases hr : allBox hp (l.map ρ) with
        | none => simp [hr] at h
        | some ids' =>
          simp [hr] at h
          subst h
          obtain ⟨ps, h1, h2⟩ := allBox_sound l ρ a ids' (fun y hy => hρ y (by simp [hy])) hr
          have h3 := hρ x (by simp)
          rw [e1] at h3
          obtain ⟨hid, h3⟩ := h3
          obtain ⟨b, hb, hv⟩ := h3 cs hl
          exact ⟨b :: ps, by simp [h1, hv], .cons ⟨hid, fun _ _ => hb⟩ h2⟩
      | _ => simp [hl] at h
    · cases h

theorem allEp_sound : ∀ (l : List Operand) (ρ : Operand → RV) (a : Act) (cps : List (Sigma Ty.T)), (∀ x ∈ l, relRV w M bs hp (ρ x) (a.eval x)) → allEp (l.map ρ) = some cps → All2 (FrozenAt w M) cps (l.map a.eval) := by
  intro l
  induction l with
  | nil => intro ρ a cps _ h; simp [allEp] at h; subst h; exact .nil
  | cons x l ih =>
    intro ρ a cps hρ h
    have hx := hρ x (by simp)
    simp only [List.map_cons] at h ⊢
    unfold allEp at h
    split at h
    · rename_i heq; cases heq
    · rename_i t y r heq
      injection heq with h1 h2
      subst h2
      rw [h1] at hx
      cases hr : allEp (l.map ρ) with
      | none => rw [hr] at h; cases h
      | some ds =>
        rw [hr] at h
        simp at h
        subst h
        exact .cons hx (ih ρ a ds (fun y hy => hρ y (by simp [hy])) hr)
    · cases h

theorem map_rel (l : List Operand) (ρ : Operand → RV) (a : Act) (hρ : ∀ x ∈ l, relRV w M bs hp (ρ x) (a.eval x)) : All2 (relAV w M bs hp) (l.map fun x => (ρ x).av) (l.map a.eval) := by
  induction l with
  | nil => exact .nil
  | cons x l ih => exact .cons (relRV_av (hρ x (by simp))) (ih fun y hy => hρ y (by simp [hy]))

theorem rep_dflt : ∀ (t : Ty), rep w M t t.dflt t.zcells
  | .int k => by simp [rep, Ty.zcells]
  | .bool => by simp [rep, Ty.zcells]
  | .str => by simp [rep, Ty.zcells]
  | .slice t => by simp only [rep, Ty.zcells]; exact ⟨none, 0, rfl, Nat.le_refl _, by simp [maxLen], .inl rfl⟩
  | .nil => by simp [rep, Ty.zcells]
  | .cons t r => by simp only [rep, Ty.zcells]; exact ⟨_, _, rfl, rep_dflt t, rep_dflt r⟩
  | .fn => by simp only [rep, Ty.zcells]; exact .nofn

theorem one_av {t : Ty} {x : t.T} {v : Value} (h : rep w M t x [v]) (h1 : t.size = 1) (h2 : t.nfld = 0) : relAV w M bs hp (t.av x) v := by
  cases t with
  | int k => simp only [rep] at h; cases h; rfl
  | bool => simp only [rep] at h; cases h; rfl
  | str => simp only [rep] at h; cases h; rfl
  | slice t =>
    simp only [rep] at h
    obtain ⟨a, c, h0, h1, h2, h3⟩ := h
    cases h0
    exact ⟨a, c, rfl, h1, h2, by simp, h3⟩
  | nil => simp at h1
  | cons t r => simp [Ty.nfld] at h2
  | fn => simp only [rep] at h; exact h

/-- A key is sought in a map. -/
theorem find_rel {q : IntKind} {vt : Ty} (n : Int) : ∀ (es : List (Int × vt.T)) (ents : List MapEntry) (i : Nat),
    All2 (fun x (m : MapEntry) => rep w M (.int q) x.1 [m.key] ∧ rep w M vt x.2 [m.val]) es ents →
    (Instr.findNow (.int q) (.int q n) ents i = some none ∧ mget (Ty.beq (.int q)) n es = none ∧ ∀ v : vt.T, mput (Ty.beq (.int q)) n v es = es ++ [(n, v)]) ∨
    (∃ (j : Nat) (x : Int × vt.T) (m : MapEntry), es[j]? = some x ∧ ents[j]? = some m ∧ x.1 = n ∧ Instr.findNow (.int q) (.int q n) ents i = some (some (i + j, m.val)) ∧ mget (Ty.beq (.int q)) n es = some x.2 ∧
      ∀ v : vt.T, mput (Ty.beq (.int q)) n v es = es.set j (n, v)) := by
  intro es ents i h
  induction h generalizing i with
  | nil => left; exact ⟨rfl, rfl, fun v => rfl⟩
  | cons r hr ih =>
    rename_i x m es ents
    obtain ⟨a, b⟩ := x
    have hk : m.key = .int q a := by have := r.1; simp only [rep] at this; simpa using this
    by_cases e : n = a
    · right
      subst e
      refine ⟨0, (n, b), m, rfl, rfl, rfl, ?_, ?_, fun v => ?_⟩
      · simp [Instr.findNow, hk, Instr.sameNow]
      · simp [mget, Ty.beq]
      · simp [mput, Ty.beq]
    · have hf : Instr.findNow (.int q) (.int q n) (m :: ents) i = Instr.findNow (.int q) (.int q n) ents (i + 1) := by
        have : (n == a) = false := by simpa using e
        simp [Instr.findNow, hk, Instr.sameNow, this]
      rcases ih (i + 1) with ⟨h1, h2, h3⟩ | ⟨j, x, m', h1, h2, h3, h4, h5, h6⟩
      · left
        refine ⟨by rw [hf]; exact h1, by simp [mget, Ty.beq, e, h2], fun v => by simp [mput, Ty.beq, e, h3]⟩
      · right
        refine ⟨j + 1, x, m', by simpa using h1, by simpa using h2, h3, by rw [hf, h4]; congr 3; omega, by simp [mget, Ty.beq, e, h5], fun v => by simp [mput, Ty.beq, e, h6]⟩

theorem run_checkKey {t : TypeId} {r : IntKind} (h : P.underlying t = some (.int r)) (e : Bool) (fuel : Nat) (q : IntKind) (n : Int) : (Instr.checkKey e (fuel + 1) t (.int q n)).run P w = .ok () w := by
  simp only [Instr.checkKey, Sem.run_bind, run_underlying h, Result.andThen_ok]
  rfl

theorem of_int {q : IntKind} {k : AV} {key : Int} (h : (Ty.int q).of k = some key) {v : Value} (hk : relAV w M bs hp k v) : v = .int q key := by
  unfold Ty.of at h
  split at h
  · rename_i x
    cases x with
    | int q' n =>
      by_cases e : q = q'
      · subst e
        simp [Ty.nfld, Ty.parse] at h
        subst h
        exact hk
      · simp [Ty.nfld, Ty.parse, e] at h
    | _ => simp [Ty.nfld, Ty.parse] at h
  · simp [Ty.nfld] at h

theorem lookupEv_sound {M0 : Nat → Prop} (hg : g.ok P) (hr : HR w M0 bs hp) (t : TypeId) (m k : AV) (vm vk : Value) (hm : relAV w (Mof M0 bs) bs hp m vm) (hk : relAV w (Mof M0 bs) bs hp k vk) (ok : Bool) (h : (lookupEv g hp t m k ok).1) :
    ∃ z, (Instr.lookup t vm vk ok).run P w = .ok z w ∧ relRV w (Mof M0 bs) bs hp (lookupEv g hp t m k ok).2 z := by
  have ht := G.td_ok hg t
  unfold lookupEv at h ⊢
  split at h
  · rename_i kk ee kt vt id htd
    rw [htd] at ht
    obtain ⟨b, k0, u0, es, hb, hl, rfl⟩ := hm
    simp only [hl] at h ⊢
    cases hof : k0.of k with
    | none => simp [hof] at h
    | some key =>
      simp only [hof] at h ⊢
      obtain ⟨rfl, rfl⟩ := h
      obtain ⟨h1, h2, h3, ⟨q, rfl⟩, h5, h6⟩ := ht
      obtain ⟨b', ents, clock, hb', hheap, hes⟩ := hr.map id _ _ _ hl
      rw [hb] at hb'; cases hb'
      obtain rfl := of_int hof hk
      have hget : (getObj b).run P w = .ok (.map ents clock) w := by simp [getObj, Sem.run, hheap]
      have hfk : ∀ r, Instr.findNow (.int q) (.int q key) ents.toList 0 = some r → (Instr.findKey kk (.int q key) ents.toList).run P w = .ok r w := fun r hr => by
        simp [Instr.findKey, Sem.run_bind, run_underlying (show P.underlying kk = some (.int q) from h2), hr]
      have fin : ∀ (v : Value) (y : u0.T) (fnd : Bool), rep w (Mof M0 bs) u0 y [v] → ∀ (r : Option (Nat × Value)), Instr.findNow (.int q) (.int q key) ents.toList 0 = some r → ((r = none ∧ fnd = false ∧ (zeroValue ee).run P w = .ok v w) ∨ (∃ j, r = some (j, v) ∧ fnd = true)) →
          (mget (Ty.beq (.int q)) key es).getD u0.dflt = y → (mget (Ty.beq (.int q)) key es).isSome = fnd →
          ∃ z, (Instr.lookup t (.map (some b)) (.int q key) ok).run P w = .ok z w ∧ relRV w (Mof M0 bs) bs hp (if ok = true then .tup [u0.av ((mget (Ty.beq (.int q)) key es).getD u0.dflt), .s (.bool (mget (Ty.beq (.int q)) key es).isSome)] else .v (u0.av ((mget (Ty.beq (.int q)) key es).getD u0.dflt))) z := by
        intro v y fnd hrep r hr hor e1 e2
        rw [e1, e2]
        have hav := one_av (bs := bs) (hp := hp) hrep h5 h6
        refine ⟨if ok then .tuple #[v, .bool fnd] else v, ?_, ?_⟩
        · simp only [Instr.lookup, Sem.run_bind, run_underlying h1, Result.andThen_ok, hget, Sem.run_pure, run_checkKey h2 _ 9999, hfk r hr]
          rcases hor with ⟨rfl, rfl, hz⟩ | ⟨j, rfl, rfl⟩
          · simp only [Sem.run_bind, hz, Result.andThen_ok, Sem.run_pure]
          · simp only [Sem.run_bind, Result.andThen_ok, Sem.run_pure]
        · cases ok
          · exact hav
          · exact ⟨[v, .bool fnd], rfl, .cons hav (.cons rfl .nil)⟩
      rcases find_rel (w := w) (M := Mof M0 bs) (q := q) key es ents.toList 0 hes with ⟨f1, f2, f3⟩ | ⟨j, x, me, f1, f2, f3, f4, f5, f6⟩
      · have hz : (zeroValue ee).run P w = .ok (cellsV u0.zcells) w := by
          cases hi : P.info? ee with
          | none => simp [hi] at h3
          | some i => simp [hi] at h3; simp [zeroValue, typeInfo, hi, go_sem, h3]
        have hl1 := rep_length u0 _ _ (rep_dflt (w := w) (M := Mof M0 bs) u0)
        refine fin (cellsV u0.zcells) u0.dflt false ?_ none f1 (.inl ⟨rfl, rfl, hz⟩) (by rw [f2]; rfl) (by rw [f2]; rfl)
        have := rep_dflt (w := w) (M := Mof M0 bs) u0
        rw [h5] at hl1
        match hz : u0.zcells, hl1 with
        | [v], _ => rw [hz] at this; exact this
      · obtain ⟨m', hm', hmr⟩ := hes.get j x f1
        rw [f2] at hm'; cases hm'
        exact fin me.val x.2 true hmr.2 _ f4 (.inr ⟨0 + j, rfl, rfl⟩) (by rw [f5]; rfl) (by rw [f5]; rfl)
  · exact h.elim

/-- A quiet operation yields its value, and leaves the world as it is. -/
theorem qEv_sound {M0 : Nat → Prop} (hg : g.ok P) (hr : HR w M0 bs hp) (o : Oper) (ρ : Operand → RV) (a : Act) (hρ : ∀ x ∈ o.op.operands.toList, relRV w (Mof M0 bs) bs hp (ρ x) (a.eval x))
    (h : (qEv g hp ρ o.type o.op).1) : ∃ z, (execOp a.eval o).run P w = .ok (.value z) w ∧ relRV w (Mof M0 bs) bs hp (qEv g hp ρ o.type o.op).2 z := by
  obtain ⟨dst, op, t, pos, after, guard⟩ := o
  simp only at h hρ ⊢
  unfold qEv at h ⊢
  split at h
  · exact ⟨_, by simp [execOp], coe_sound hg _ _ _ (hρ _ (by simp [Op.operands]))⟩
  · exact ⟨_, by simp [execOp], coe_sound hg _ _ _ (hρ _ (by simp [Op.operands]))⟩
  · rename_i c x y
    obtain ⟨q, h1, h2⟩ := pickEv_sound _ _ _ _ _ _ (relRV_av (hρ c (by simp [Op.operands]))) (relRV_av (hρ x (by simp [Op.operands]))) (relRV_av (hρ y (by simp [Op.operands]))) h
    exact ⟨_, by simp [execOp, h1, asBool], h2⟩
  · rename_i u x
    obtain ⟨z, h1, h2⟩ := loadEv_sound hg hr u _ _ (relRV_av (hρ x (by simp [Op.operands]))) h
    exact ⟨z, by simp [execOp, h1], h2⟩
  · rename_i op u x y yt
    obtain ⟨z, h1, h2⟩ := binEv_sound hg op _ _ _ _ u (relRV_av (hρ x (by simp [Op.operands]))) (relRV_av (hρ y (by simp [Op.operands]))) h x y
    exact ⟨z, by simp only [execOp]; rw [Sem.run_bind, h1]; rfl, h2⟩
  · rename_i op u x
    obtain ⟨z, h1, h2⟩ := unEv_sound (P := P) op _ _ (relRV_av (hρ x (by simp [Op.operands]))) h
    exact ⟨z, by simp [execOp, h1], h2⟩
  · rename_i s x f
    obtain ⟨z, h1, h2⟩ := fieldAddrEv_sound hg s _ f _ (relRV_av (hρ x (by simp [Op.operands]))) h
    exact ⟨z, by simp [execOp, h1], h2⟩
  · rename_i s x i
    obtain ⟨z, h1, h2⟩ := indexAddrEv_sound hr hg s _ _ _ _ (relRV_av (hρ x (by simp [Op.operands]))) (relRV_av (hρ i (by simp [Op.operands]))) h
    exact ⟨z, by simp [execOp, h1], h2⟩
  · rename_i s x lo hi mx
    obtain ⟨z, h1, h2⟩ := sliceEv_sound hg s _ _ (relRV_av (hρ x (by simp [Op.operands]))) lo hi mx ρ a (fun y hy => hρ y (by simp [Op.operands]; simp at hy; simp [hy])) (fun y hy => hρ y (by simp [Op.operands]; simp at hy; simp [hy])) (fun y hy => hρ y (by simp [Op.operands]; simp at hy; simp [hy])) h
    exact ⟨z, by simp [execOp, h1], h2⟩
  · rename_i x i
    have hx := hρ x (by simp [Op.operands])
    unfold extractEv at h ⊢
    split at h
    · rename_i xs i heq
      rw [heq] at hx
      obtain ⟨vs, hv, hxs⟩ := hx
      rw [List.getElem?_eq_getElem h]
      obtain ⟨u, k1, k2⟩ := hxs.get _ _ (List.getElem?_eq_getElem h)
      exact ⟨u, by simp [execOp, hv, Instr.extract, k1], k2⟩
    · exact h.elim
  · rename_i s d x
    obtain ⟨z, h1, h2⟩ := convEv_sound (P := P) hg s d _ _ (relRV_av (hρ x (by simp [Op.operands]))) h
    exact ⟨z, by simp [execOp, h1], h2⟩
  · rename_i u m k ok
    obtain ⟨z, h1, h2⟩ := lookupEv_sound hg hr u _ _ _ _ (relRV_av (hρ m (by simp [Op.operands]))) (relRV_av (hρ k (by simp [Op.operands]))) ok h
    exact ⟨z, by simp [execOp, h1], h2⟩
  · rename_i f first caps
    unfold funcEv at h ⊢
    split at h
    · rename_i e1 e2
      obtain ⟨ps, k1, k2⟩ := allBox_sound caps.toList ρ a [] (fun y hy => hρ y (by simp [Op.operands]; simp at hy; simp [hy])) e2
      have hf : first = #[] := by simpa using e1
      subst hf
      cases k2
      refine ⟨.func (.func f) #[] (caps.map a.eval), by simp [execOp, Instr.makeFunc], [], ?_, .nil⟩
      rw [map_arr, k1]
      rfl
    · rename_i ids _ e1 e2
      obtain ⟨ps, k1, k2⟩ := allBox_sound caps.toList ρ a ids (fun y hy => hρ y (by simp [Op.operands]; simp at hy; simp [hy])) e2
      have hf : first = #[] := by simpa using e1
      subst hf
      refine ⟨.func (.func f) #[] (caps.map a.eval), by simp [execOp, Instr.makeFunc], ps, ?_, k2⟩
      rw [← k1, map_arr]
    · rename_i cps e1 _ e2
      have hf : first = #[] := by simpa using e1
      subst hf
      refine ⟨.func (.func f) #[] (caps.map a.eval), by simp [execOp, Instr.makeFunc], caps.toList.map a.eval, by rw [map_arr], ?_⟩
      exact allEp_sound caps.toList ρ a cps (fun y hy => hρ y (by simp [Op.operands]; simp at hy; simp [hy])) e2
    · exact h.elim
  · rename_i xs ts
    unfold lenArgs at h ⊢
    split at h
    · rename_i x u e1 e2
      obtain rfl : xs = #[x] := by cases xs; simpa using e1
      obtain rfl : ts = #[u] := by cases ts; simpa using e2
      obtain ⟨z, h1, h2⟩ := lenEv_sound hg u _ _ (relRV_av (hρ x (by simp [Op.operands, Call.operands]))) h t
      exact ⟨z, by simp [execOp, resolve, invoke, builtin, h1], h2⟩
    · exact h.elim
  · rename_i xs ts
    obtain ⟨z, h1, h2⟩ := minEv_sound (P := P) _ _ (map_rel xs.toList ρ a (fun y hy => hρ y (by simp [Op.operands, Call.operands]; simpa using hy))) false h ts t
    exact ⟨z, by simp at h1; simp [execOp, resolve, invoke, builtin, map_arr, h1], h2⟩
  · rename_i xs ts
    obtain ⟨z, h1, h2⟩ := minEv_sound (P := P) _ _ (map_rel xs.toList ρ a (fun y hy => hρ y (by simp [Op.operands, Call.operands]; simpa using hy))) true h ts t
    exact ⟨z, by simp at h1; simp [execOp, resolve, invoke, builtin, map_arr, h1], h2⟩
  · exact h.elim

end
end Go.Am
