/- Operations that make or change memory are sound. -/
import Derived.Test.YteglanpnmnkkbaaBm6
namespace Go.Am
set_option linter.unusedVariables false
open Go.RowKit

section
variable {P : Program} {g : G} {w : World} {M0 : Nat → Prop} {bs : Bs} {hp : List Blk}

/-- An operation has done what abstract memory says. -/
def Did (w : World) (M0 : Nat → Prop) (bs : Bs) (hp : List Blk) (res : Result Next) (rv : RV) (hp' : List Blk) : Prop :=
  ∃ z w' bs', (res = .ok (.value z) w' ∨ (res = .ok .skip w' ∧ z = undef)) ∧ relRV w' (Mof M0 bs') bs' hp' rv z ∧ HR w' M0 bs' hp' ∧ Step false w (Mof M0 bs) bs hp w' (Mof M0 bs') bs' hp'

/-- An operation has yielded a value, and abstract memory is as it was. -/
def PDid (w : World) (M0 : Nat → Prop) (bs : Bs) (hp : List Blk) (res : Result Next) (rv : RV) : Prop :=
  ∃ z w', res = .ok (.value z) w' ∧ relRV w' (Mof M0 bs) bs hp rv z ∧ HR w' M0 bs hp ∧ Step false w (Mof M0 bs) bs hp w' (Mof M0 bs) bs hp

theorem run_zero {t : TypeId} {n : Nat} {z : Value} (h : (P.info? t).map (fun i => (i.size, i.zero)) = some (n, some z)) : (zeroValue t).run P w = .ok z w := by
  cases hi : P.info? t with
  | none => simp [hi] at h
  | some i => simp [hi] at h; simp [zeroValue, typeInfo, hi, go_sem, h.2]

theorem cellsV_cells {l : List Value} (h : l.length = 1) (h1 : ∀ v ∈ l, v.oneCell' = true) : (cellsV l).cells.toList = l := by
  match l, h with
  | [v], _ =>
    have := h1 v (by simp)
    cases v <;> first | rfl | simp [Value.oneCell'] at this

theorem push_box (hr : HR w M0 bs hp) (t : TypeId) (cells : Array Value) (cs : List SV) (h : All2 (fun x u => relSV w (Mof M0 bs) bs hp x u ∧ u.oneCell' = true) cs cells.toList) :
    Did w M0 bs hp (.ok (.value (.pointer (some ⟨w.heap.size, 0, none⟩))) (w.alloc (.cells cells t))) (.v (.s (.box hp.length 0))) (hp ++ [.cells cs]) := by
  obtain ⟨h1, h2⟩ := hr.push (.cells cells t) (.cells cs) ⟨cells, t, rfl, by have := h.length; simpa using this, fun j x hj => by
    obtain ⟨u, k1, k2⟩ := h.get j x hj
    exact ⟨u, by simpa using k1, k2.2, k2.1⟩⟩
  exact ⟨_, _, _, .inl rfl, ⟨by simp, fun _ _ => ⟨w.heap.size, by rw [at_push, if_pos (by have := hr.len; omega)], rfl⟩⟩, h1, h2⟩

theorem allocEv_sound (hg : g.ok P) (hr : HR w M0 bs hp) (t : TypeId) (h : (allocEv g hp t).1) :
    Did w M0 bs hp ((do pure (Next.value (← Instr.alloc t true (.tuple #[]))) : Sem Next).run P w) (allocEv g hp t).2.1 (allocEv g hp t).2.2 := by
  have ht := G.td_ok hg t
  have key : ∀ (n : Nat) (z : Value) (cs : List SV), (P.info? t).map (fun i => (i.size, i.zero)) = some (n, some z) → All2 (fun x u => relSV w (Mof M0 bs) bs hp x u ∧ u.oneCell' = true) cs z.cells.toList →
      Did w M0 bs hp ((do pure (Next.value (← Instr.alloc t true (.tuple #[]))) : Sem Next).run P w) (.v (.s (.box hp.length 0))) (hp ++ [.cells cs]) := by
    intro n z cs hz hcs
    have := push_box hr t z.cells cs hcs
    simpa [Instr.alloc, Sem.run_bind, run_zero hz, newVar, newRow] using this
  unfold allocEv at h ⊢
  cases htd : g.td t with
  | map k e kt vt => simp [htd, nope] at h
  | other => simp [htd, nope] at h
  | sc ty =>
    simp only [htd] at ht ⊢
    obtain ⟨h1, h2, h3, h4⟩ := ht
    have hz := zsv_rel (w := w) (M := Mof M0 bs) (bs := bs) (hp := hp) ty
    exact key _ _ _ h3 (by rw [cellsV_cells h2 (fun v hv => by
      obtain ⟨i, hi⟩ := List.getElem?_of_mem hv
      have hl := hz.length
      obtain ⟨x, hx⟩ : ∃ x, ty.zsv[i]? = some x := ⟨_, List.getElem?_eq_getElem (by have := (List.getElem?_eq_some_iff.1 hi).1; omega)⟩
      obtain ⟨u, hu, hr⟩ := hz.get i x hx
      rw [hi] at hu; cases hu; exact hr.2)]; exact hz)
  | func =>
    simp only [htd] at ht ⊢
    exact key _ _ _ ht.2 (.cons ⟨.nofn, rfl⟩ .nil)
  | slice e ety bytes =>
    simp only [htd] at ht ⊢
    exact key _ _ _ ht.2.2.2.2 (.cons ⟨⟨none, 0, rfl, Nat.le_refl _, by simp [maxLen], fun _ => rfl, .inl rfl⟩, rfl⟩ .nil)
  | struct ty =>
    simp only [htd] at ht ⊢
    obtain ⟨fs, h1, h2, h3, h4, h5⟩ := ht
    exact key _ _ _ h5 (zsv_rel ty)
  | arr n e ety =>
    simp only [htd] at ht ⊢
    obtain ⟨h1, h2, h3⟩ := ht
    refine key _ _ _ h3 ?_
    simp only [Value.cells]
    clear h1 h2 h3 key htd
    induction n with
    | zero => exact .nil
    | succ n ih => rw [List.replicate_succ, List.flatten_cons, List.replicate_succ, List.flatten_cons]; exact (zsv_rel ety).append ih

theorem boxEv_sound (hr : HR w M0 bs hp) (t : TypeId) (x : AV) (v : Value) (hx : relAV w (Mof M0 bs) bs hp x v) (h : (boxEv hp x).1) :
    Did w M0 bs hp ((do pure (Next.value (← Instr.box t v)) : Sem Next).run P w) (boxEv hp x).2.1 (boxEv hp x).2.2 := by
  have := push_box hr t v.cells x.cells (av_cells h hx)
  simpa [boxEv, Instr.box, Sem.run_bind, newVar, newRow] using this

theorem makeMapEv_sound (hg : g.ok P) (hr : HR w M0 bs hp) (t : TypeId) (h : (makeMapEv g hp t).1) :
    Did w M0 bs hp ((do pure (Next.value (← Instr.makeMap t none)) : Sem Next).run P w) (makeMapEv g hp t).2.1 (makeMapEv g hp t).2.2 := by
  have ht := G.td_ok hg t
  unfold makeMapEv at h ⊢
  cases htd : g.td t with
  | map k e kt vt =>
    simp only [htd] at ht ⊢
    obtain ⟨h1, h2⟩ := hr.push (.map #[] 0) (.map kt vt []) ⟨#[], 0, rfl, .nil⟩
    refine ⟨.map (some w.heap.size), _, _, .inl ?_, ⟨w.heap.size, kt, vt, [], by rw [at_push, if_pos (by have := hr.len; omega)], by rw [look_push, if_pos rfl], rfl⟩, h1, h2⟩
    simp [Instr.makeMap, newObj, Sem.run]
  | _ => simp [htd, nope] at h

theorem flats_rep (t : Ty) (x : t.T) : ∀ (n i : Nat), i < n * t.size → (t.flats (List.replicate n x))[i]? = (t.flat x)[i % t.size]?
  | 0, i, h => by simp at h
  | n + 1, i, h => by
    have hl := flat_length t x
    rw [List.replicate_succ, Ty.flats]
    rcases Nat.lt_or_ge i t.size with hlt | hge
    · rw [List.getElem?_append_left (by omega), Nat.mod_eq_of_lt hlt]
    · rw [List.getElem?_append_right (by omega), hl, flats_rep t x n (i - t.size) (by rw [Nat.succ_mul] at h; omega)]
      congr 1
      rw [Nat.mod_eq_sub_mod hge]
theorem makeSliceEv_sound (hg : g.ok P) (hr : HR w M0 bs hp) (t : TypeId) (x y : AV) (v u : Value) (hx : relAV w (Mof M0 bs) bs hp x v) (hy : relAV w (Mof M0 bs) bs hp y u) (h : (makeSliceEv g hp t x y).1) :
    Did w M0 bs hp ((do pure (Next.value (← Instr.makeSlice t v u)) : Sem Next).run P w) (makeSliceEv g hp t x y).2.1 (makeSliceEv g hp t x y).2.2 := by
  have ht := G.td_ok hg t
  unfold makeSliceEv at h ⊢
  split at h
  · rename_i e ety bytes n m htd
    rw [htd] at ht
    obtain ⟨hu, hsz, hinfo, ⟨z, hz, hzs, hzc⟩, _⟩ := ht
    obtain ⟨i, hi⟩ : ∃ i, P.info? e = some i := by cases hi : P.info? e with
      | none => simp [hi] at hinfo
      | some i => exact ⟨i, rfl⟩
    simp [hi] at hinfo hz
    obtain rfl : v = .int .i64 n := hx
    obtain rfl : u = .int .i64 m := hy
    obtain ⟨h1, h2, h3, h4⟩ := h
    have hwn : IntKind.i64.wrap n = n := IntWalk.i64_in _ (by omega)
    have hwm : IntKind.i64.wrap m = m := IntWalk.i64_in _ (by omega)
    generalize hcur : (Array.range (m.toNat * ety.size)).map (fun k => z.cells[k % z.cells.size]!) = cur
    have hcs : cur.size = m.toNat * ety.size := by rw [← hcur]; simp
    have hget : ∀ k, k < m.toNat * ety.size → cur[k]? = z.cells[k % ety.size]? := by
      intro k hk
      have hk' : k % ety.size < z.cells.size := by rw [hzs]; exact Nat.mod_lt _ hsz
      rw [← hcur]
      simp [hk, hzs]
      rw [getElem!_pos z.cells _ hk', Array.getElem?_eq_getElem hk']
    obtain ⟨k1, k2⟩ := hr.push (.cells cur e) (.arr true (ety.flats (List.replicate n.toNat ety.dflt))) ⟨cur, e, rfl, fun j s hj => by
      have hj2 := (List.getElem?_eq_some_iff.1 hj).1
      rw [flats_length, List.length_replicate] at hj2
      rw [flats_rep _ _ _ _ hj2] at hj
      have hz2 := rep_flat (bs := bs) (hp := hp) ety ety.dflt _ (rep_dflt (w := w) (M := Mof M0 bs) ety)
      obtain ⟨q, q1, q2, q3⟩ := hz2.get _ _ hj
      have : n.toNat * ety.size ≤ m.toNat * ety.size := Nat.mul_le_mul_right _ (by omega)
      refine ⟨q, ?_, q3, q2⟩
      rw [hget j (by omega), hzc]
      simpa using q1⟩
    refine ⟨.slice (some ⟨w.heap.size, 0, none⟩) n.toNat m.toNat, _, _, .inl ?_, ⟨by simp, fun al cs hl => ?_⟩, k1, k2⟩
    · have hb : ¬ (m.toNat * bytes > roomBytes) := by
        have : ((m.toNat * bytes : Nat) : Int) = m * bytes := by rw [Int.natCast_mul, Int.toNat_of_nonneg (by omega)]
        unfold roomBytes
        simp only [Nat.reducePow]
        omega
      have hbl : ¬ ((bytes : Int) * m > 2 ^ 48) := by
        rw [Int.mul_comm]
        omega
      have hzero : ∀ k : Nat, (if k = 0 then (pure #[] : Sem (Array Value)) else do pure (← zeroValue e).cells).run P w = .ok (if k = 0 then #[] else z.cells) w := by
        intro k
        split
        · rfl
        · rw [Sem.run_bind]
          have : (zeroValue e).run P w = .ok z w := by simp [zeroValue, typeInfo, hi, hz]
          rw [this]
          rfl
      have hcur2 : (Array.range (m.toNat * ety.size)).map (fun k => (if m.toNat * ety.size = 0 then (#[] : Array Value) else z.cells)[k % (if m.toNat * ety.size = 0 then (#[] : Array Value) else z.cells).size]!) = cur := by
        by_cases h0 : m.toNat * ety.size = 0
        · rw [← hcur, h0]; simp
        · simp only [h0, if_false]; exact hcur
      have e1 : (Instr.makeSlice t (.int .i64 n) (.int .i64 m)).run P w = .ok (.slice (some ⟨w.heap.size, 0, none⟩) n.toNat m.toNat) (w.alloc (.cells cur e)) := by
        have hs : (sizeOf e).run P w = .ok ety.size w := run_sizeOf (by simp [hi, hinfo.1])
        have ht : (typeInfo e).run P w = .ok i w := by simp [typeInfo, hi]
        have hbl2 : ¬ ((i.bytes : Int) * m > 2 ^ 48) := by rw [hinfo.2]; exact hbl
        have hb2 : ¬ (m.toNat * i.bytes > roomBytes) := by rw [hinfo.2]; exact hb
        have hzr : (zeroValue e).run P w = .ok z w := by simp [zeroValue, typeInfo, hi, hz]
        have hn0 : ¬ n < 0 := by omega
        have hm0 : ¬ m < 0 := by omega
        have hmn : ¬ m < n := by omega
        have hbl3 : ¬ (281474976710656 < (i.bytes : Int) * m) := by rw [hinfo.2, Int.mul_comm]; omega
        unfold Instr.makeSlice
        by_cases h0 : m.toNat * ety.size = 0
        · simp only [h0, if_true] at hcur2
          simp [run_underlying hu, asInt, asIntOf, ht, hwn, hwm, askRoom, hs, hb2, hn0, hm0, hmn, hbl3, newRow, newObj, h0, Result.andThen]
          rw [← hcur2]
          simp [Sem.run]
        · simp only [h0, if_false] at hcur2
          simp [run_underlying hu, asInt, asIntOf, ht, hwn, hwm, askRoom, hs, hb2, hn0, hm0, hmn, hbl3, newRow, newObj, h0, hzr, Result.andThen]
          rw [← hcur2]
          simp [Sem.run]
      rw [Sem.run_bind, e1]
      rfl
    · rw [look_push, if_pos rfl] at hl
      simp only [Blk.arr.injEq] at hl
      obtain ⟨rfl, rfl⟩ := hl
      refine ⟨by simp [flats_length], fun _ => .inl ⟨_, m.toNat, by rw [at_push, if_pos (by have := hr.len; omega)], rfl, by omega, cur, e, heap_alloc_new _ _, hcs, by simp only [maxLen]; omega⟩⟩
  · simp [nope] at h
theorem setRow_evo {M : Nat → Prop} {b : Nat} {cells : Array Value} (hb : M b) : Evo M M w (w.setRow b cells) :=
  ⟨rfl, rfl, rfl, by simp [World.setRow], Nat.le_refl _, fun c hc hm => setRow_other w b c cells (fun e => hm (e ▸ hb)), fun _ _ h => h⟩

theorem storeVar_run {t : TypeId} {n : Nat} (hn : (P.info? t).map (fun i => i.size) = some n) {b off : Nat} {v : Value} {cur : Array Value} {e : TypeId} (hc : w.heap[b]? = some (.cells cur e (0, 0)))
    (hv : v.cells.size = n) (hle : off + n ≤ cur.size) (h1 : ∀ u ∈ v.cells.toList, u.oneCell' = true) :
    (Instr.storeAt t (.pointer (some ⟨b, off, none⟩)) v).run P w = .ok () (w.setRow b (spl cur.toList off v.cells.toList).toArray) := by
  have := run_storeCells_at P b off e v.cells.toList 0 cur w hc (by simpa [hv] using hle) h1
  simp only [Nat.add_zero] at this
  simp only [Instr.storeAt, Instr.sureAddr, storeVar, Sem.run_bind, Sem.run_pure, Result.andThen_ok, run_sizeOf hn]
  rw [if_neg (by omega)]
  exact this

theorem size_td (hg : g.ok P) (t : TypeId) (h : g.td t ≠ .other) (hm : ∀ k e kt vt, g.td t ≠ .map k e kt vt) : (P.info? t).map (fun i => i.size) = some (sizeTD (g.td t)) := by
  have ht := G.td_ok hg t
  have key : ∀ (n : Nat) (z : Value), (P.info? t).map (fun i => (i.size, i.zero)) = some (n, some z) → (P.info? t).map (fun i => i.size) = some n := fun n z h => by
    cases hi : P.info? t with
    | none => simp [hi] at h
    | some i => simp [hi] at h; simp [h.1]
  cases htd : g.td t with
  | other => exact absurd htd h
  | map k e kt vt => exact absurd htd (hm _ _ _ _)
  | sc ty => rw [htd] at ht; exact key _ _ ht.2.2.1
  | slice e ety bytes => rw [htd] at ht; exact key _ _ ht.2.2.2.2
  | func => rw [htd] at ht; exact key _ _ ht.2
  | struct ty => rw [htd] at ht; obtain ⟨fs, _, _, _, _, h5⟩ := ht; exact key _ _ h5
  | arr n e ety => rw [htd] at ht; exact key _ _ ht.2.2

theorem store_block (hg : g.ok P) (hr : HR w M0 bs hp) (t : TypeId) {id b off : Nat} (hb : bs.at id = some b) {x : AV} {v : Value} (hx : relAV w (Mof M0 bs) bs hp x v) (hgood : x.good hp = true)
    {cs : List SV} {cur : Array Value} {e : TypeId} (hc : w.heap[b]? = some (.cells cur e (0, 0))) (hcl : cs.length ≤ cur.size)
    (hcs : ∀ (j : Nat) (x : SV), cs[j]? = some x → ∃ u, cur[j]? = some u ∧ u.oneCell' = true ∧ relSV w (Mof M0 bs) bs hp x u)
    (hlen : x.cells.length = sizeTD (g.td t)) (hle : off + x.cells.length ≤ cs.length) (hk : g.td t ≠ .other) (hm : ∀ k e kt vt, g.td t ≠ .map k e kt vt)
    (k : Blk) (hk1 : k = .cells (spl cs off x.cells) ∧ cs.length = cur.size ∧ (∃ c, Blk.look hp id = .cells c) ∨ (∃ al al0, k = .arr al (spl cs off x.cells) ∧ Blk.look hp id = .arr al0 cs)) :
    Did w M0 bs hp ((do Instr.storeAt t (.pointer (some ⟨b, off, none⟩)) v; pure .skip : Sem Next).run P w) (.v (.s .any)) (hp.set id k) := by
  have hcells := av_cells hgood hx
  have hsz : v.cells.size = sizeTD (g.td t) := by have := hcells.length; simp only [Array.length_toList] at this; omega
  have hrun := storeVar_run (P := P) (w := w) (size_td hg t hk hm) (off := off) hc hsz (by omega) (fun u hu => by
    obtain ⟨i, hi⟩ := List.getElem?_of_mem hu
    have hl := hcells.length
    obtain ⟨y, hy⟩ : ∃ y, x.cells[i]? = some y := ⟨_, List.getElem?_eq_getElem (by have := (List.getElem?_eq_some_iff.1 hi).1; omega)⟩
    obtain ⟨u', h1, h2⟩ := hcells.get i y hy
    rw [hi] at h1; cases h1; exact h2.2)
  have hnew : (w.setRow b (spl cur.toList off v.cells.toList).toArray).heap[b]? = some (.cells (spl cur.toList off v.cells.toList).toArray e (0, 0)) := setRow_heap w b cur _ e (0, 0) hc
  -- the cells in both worlds
  have hrel : ∀ (j : Nat) (y : SV), (spl cs off x.cells)[j]? = some y → ∃ u, (spl cur.toList off v.cells.toList).toArray[j]? = some u ∧ u.oneCell' = true ∧ relSV w (Mof M0 bs) bs hp y u := by
    intro j y hj
    have hl := hcells.length
    simp only [Array.length_toList] at hl
    simp only [spl, List.append_assoc] at hj ⊢
    have ht1 : (cs.take off).length = off := by simp; omega
    have ht2 : (cur.toList.take off).length = off := by simp; omega
    rcases Nat.lt_or_ge j off with h1 | h1
    · rw [List.getElem?_append_left (by omega), List.getElem?_take, if_pos h1] at hj
      obtain ⟨u, q1, q2⟩ := hcs j y hj
      refine ⟨u, ?_, q2⟩
      simp only [List.getElem?_toArray]
      rw [List.getElem?_append_left (by omega), List.getElem?_take, if_pos h1]
      simpa using q1
    · rw [List.getElem?_append_right (by omega)] at hj
      simp only [List.getElem?_toArray]
      rw [List.getElem?_append_right (by omega), ht2]
      rw [ht1] at hj
      rcases Nat.lt_or_ge (j - off) x.cells.length with h2 | h2
      · rw [List.getElem?_append_left h2] at hj
        rw [List.getElem?_append_left (by simp; omega)]
        obtain ⟨u, q1, q2, q3⟩ := hcells.get _ y hj
        exact ⟨u, q1, q3, q2⟩
      · rw [List.getElem?_append_right h2, List.getElem?_drop] at hj
        rw [List.getElem?_append_right (by simp; omega), List.getElem?_drop]
        obtain ⟨u, q1, q2⟩ := hcs _ y hj
        refine ⟨u, ?_, q2⟩
        rw [← q1]
        simp only [Array.length_toList, Array.getElem?_toList]
        congr 1
        omega
  have hslen : (spl cur.toList off v.cells.toList).length = cur.size := by
    have hl := hcells.length
    rw [spl_length _ _ _ (by simp only [Array.length_toList] at hl ⊢; omega)]; simp
  have hMb : Mof M0 bs b := .inr ⟨id, hb⟩
  obtain ⟨h1, h2⟩ := hr.rewrite hb (setRow_evo hMb) (fun c hne hlt => setRow_other w b c _ hne) hnew k (by
    rcases hk1 with ⟨rfl, hl, _⟩ | ⟨al, al0, rfl, _⟩
    · exact ⟨_, e, rfl, by rw [spl_length _ _ _ (by omega)]; simp [hslen, hl], hrel⟩
    · exact ⟨_, e, rfl, hrel⟩) (by
    rcases hk1 with ⟨rfl, hl, c, hlk⟩ | ⟨al, al0, rfl, hlk⟩
    · rw [hlk]; trivial
    · rw [hlk]
      refine .inr ⟨by rw [spl_length _ _ _ (by omega)], fun cap size ho => ?_⟩
      obtain ⟨cur', e', q1, q2, q3⟩ := ho
      rw [hc] at q1; cases q1
      exact ⟨_, _, hnew, by simp [hslen, q2], q3⟩)
  exact ⟨undef, _, bs, .inr ⟨by rw [Sem.run_bind, hrun]; rfl, rfl⟩, trivial, h1, h2⟩

theorem storeEv_sound (hg : g.ok P) (hr : HR w M0 bs hp) (t : TypeId) (a x : AV) (va v : Value) (ha : relAV w (Mof M0 bs) bs hp a va) (hx : relAV w (Mof M0 bs) bs hp x v)
    (hk : g.td t ≠ .other) (hm : ∀ k e kt vt, g.td t ≠ .map k e kt vt) (h : (storeEv g hp t a x).1) :
    Did w M0 bs hp ((do Instr.storeAt t va v; pure .skip : Sem Next).run P w) (storeEv g hp t a x).2.1 (storeEv g hp t a x).2.2 := by
  unfold storeEv at h ⊢
  split at h
  · rename_i id off
    obtain ⟨hid, ha⟩ := ha
    cases hl0 : Blk.look hp id with
    | cells cs0 =>
      obtain ⟨b, hb, rfl⟩ := ha cs0 hl0
      simp only [hl0] at h ⊢
      obtain ⟨h1, h2, h3⟩ := h
      obtain ⟨b', cur, e, q1, q2, q3, q4⟩ := hr.cells id cs0 hl0
      rw [hb] at q1; cases q1
      exact store_block hg hr t hb hx h1 q2 (by omega) q4 h2 h3 hk hm _ (.inl ⟨rfl, q3, cs0, hl0⟩)
    | _ => simp [hl0, nope] at h
  · rename_i ty id n off
    cases hl : Blk.look hp id with
    | dead => simp [hl, nope] at h
    | trace l' xs' i' st' => simp [hl, nope] at h
    | map k v es => simp [hl, nope] at h
    | cells cs => simp [hl, nope] at h
    | arr al cs =>
      simp only [hl] at h ⊢
      obtain ⟨h1, h2, h3, h4⟩ := h
      obtain ⟨b, hb, rfl⟩ := (ha.2 al cs hl).2 h2
      obtain ⟨cur, e, q2, q4⟩ := hr.arr id al cs b hl hb
      have hcl : cs.length ≤ cur.size := by
        rcases Nat.lt_or_ge cur.size cs.length with hlt | hge
        · obtain ⟨u, hu, _⟩ := q4 cur.size _ (List.getElem?_eq_getElem hlt)
          simp at hu
        · exact hge
      exact store_block hg hr t hb hx h1 q2 hcl q4 h3 h4 hk hm _ (.inr ⟨al, al, rfl, hl⟩)
  · simp [nope] at h

theorem coeTy_sound (t : Ty) (x : AV) (v : Value) (h : relAV w (Mof M0 bs) bs hp x v) : relAV w (Mof M0 bs) bs hp (coeTy t x) v := by
  unfold coeTy
  split
  · obtain rfl : v = .slice none 0 0 := h
    exact ⟨none, 0, rfl, Nat.le_refl _, by simp [maxLen], fun _ => rfl, .inl rfl⟩
  · exact h
/-- Parts with their values. -/
def PartsRel (w : World) (M : Nat → Prop) (bs : Bs) (hp : List Blk) (ps : List (Nat × AV)) (vs : List (Nat × Value)) : Prop :=
  All2 (fun (p : Nat × AV) (q : Nat × Value) => p.1 = q.1 ∧ relAV w M bs hp p.2 q.2) ps vs

theorem PartsRel.coe {ps : List (Nat × AV)} {vs : List (Nat × Value)} (f : Nat → Ty) (h : PartsRel w (Mof M0 bs) bs hp ps vs) : PartsRel w (Mof M0 bs) bs hp (ps.map fun p => (p.1, coeTy (f p.1) p.2)) vs := by
  unfold PartsRel at *
  induction h with
  | nil => exact .nil
  | cons r _ ih => exact .cons ⟨r.1, coeTy_sound _ _ _ r.2⟩ ih

theorem buildSliceEv_sound (hg : g.ok P) (hr : HR w M0 bs hp) (t : TypeId) (len : Nat) (ps : List (Nat × AV)) (vs : Array (Nat × Value)) (hps : PartsRel w (Mof M0 bs) bs hp ps vs.toList) (h : (buildSliceEv g hp t len ps).1) :
    PDid w M0 bs hp ((do pure (Next.value (← Instr.buildSlice t len vs)) : Sem Next).run P w) (buildSliceEv g hp t len ps).2.1 := by
  have ht := G.td_ok hg t
  unfold buildSliceEv at h ⊢
  cases htd : g.td t with
  | slice e ety bytes =>
    simp only [htd] at ht h ⊢
    obtain ⟨hu, hsz, hinfo, ⟨z, hz, hzs, hzc⟩, _⟩ := ht
    have hps := hps.coe (fun _ => ety)
    generalize (ps.map fun p => (p.1, coeTy ety p.2)) = ps at *
    cases hf : fillSV hp (fun i => some (i * ety.size, ety.size)) (List.replicate (len * ety.size) .any) ps with
    | none => simp [hf, nope] at h
    | some cells =>
      simp only [hf] at h ⊢
      cases hpz : ety.parses len cells with
      | none => simp [hpz, nope] at h
      | some xs =>
        simp only [hpz] at h ⊢
        have hs : (P.info? e).map (fun i => i.size) = some ety.size := by
          cases hi : P.info? e with
          | none => simp [hi] at hinfo
          | some i => simp [hi] at hinfo; simp [hinfo.1]
        have hzr : (zeroValue e).run P w = .ok z w := by
          cases hi : P.info? e with
          | none => simp [hi] at hz
          | some i => simp [hi] at hz; simp [zeroValue, typeInfo, hi, go_sem, hz]
        -- the cells before the parts are laid in
        obtain ⟨zero, arr, hz0, hz1, harr, hasz⟩ : ∃ (zero arr : Array Value), (len * ety.size = 0 → zero = #[]) ∧ (¬ len * ety.size = 0 → zero = z.cells) ∧
            arr = (Array.range (len * ety.size)).map (zero[· % zero.size]!) ∧ arr.size = len * ety.size := by
          by_cases h0 : len * ety.size = 0
          · exact ⟨#[], _, fun _ => rfl, fun h => absurd h0 h, rfl, by simp⟩
          · exact ⟨z.cells, _, fun h => absurd h h0, fun _ => rfl, rfl, by simp⟩
        obtain ⟨res, r1, r2⟩ := fill_sound (w := w) (M := Mof M0 bs) (bs := bs) (hp := hp) (relSV w (Mof M0 bs) bs hp) (fun x u h => h.1) _ ps vs.toList _ cells arr hps
          (All2.of_get (by simp [hasz]) (fun i x u hx _ => by
            rw [List.getElem?_replicate] at hx
            split at hx
            · injection hx with hx; subst hx; trivial
            · cases hx)) hf
        obtain ⟨k1, k2⟩ := parses_rows ety len cells xs res.toList hpz r2
        obtain ⟨e1, e2⟩ := hr.keep_alloc (.cells res e)
        refine ⟨.slice (some ⟨w.heap.size, 0, none⟩) len len, w.alloc (.cells res e), ?_, ?_, e1, e2⟩
        · have hnot : ¬ (len * ety.size > 2 ^ 24) := by omega
          simp only [Instr.buildSlice, Sem.run_bind, run_underlying hu, Result.andThen_ok, run_sizeOf hs]
          rw [if_neg hnot]
          by_cases h0 : len * ety.size = 0
          · rw [if_pos h0]
            have := hz0 h0
            subst this
            simp only [Sem.run_bind, Sem.run_pure, Result.andThen_ok, ← harr, r1, newRow, run_newObj]
            rfl
          · rw [if_neg h0]
            have := hz1 h0
            subst this
            simp only [Sem.run_bind, hzr, Sem.run_pure, Result.andThen_ok, ← harr, r1, newRow, run_newObj]
            rfl
        · have hlt : w.heap.size < (w.alloc (.cells res e)).heap.size := by simp
          have hn : ¬ Mof M0 bs w.heap.size := by
            rintro (h | ⟨id, h⟩)
            · have := hr.m0 _ h; omega
            · have := hr.lt _ _ h; omega
          by_cases hlen : len = 0
          · subst hlen
            have hxs : xs = [] := List.eq_nil_of_length_eq_zero k1
            subst hxs
            exact ⟨_, 0, rfl, Nat.le_refl _, by simp [maxLen], fun _ => rfl, .inl rfl⟩
          · refine ⟨some ⟨w.heap.size, 0, none⟩, len, by rw [k1], by omega, ?_, fun _ => k1.symm, .inr ⟨w.heap.size, 0, rfl, hn, hlt, fun i x hx => ?_⟩⟩
            · have : len * 1 ≤ len * ety.size := Nat.mul_le_mul_left _ hsz
              simp only [maxLen]; omega
            · obtain ⟨cs, q1, q2, q3⟩ := k2 i x hx
              refine ⟨cs, q1, rep_evo e2.evo _ _ _ q2, fun j v hj => ?_⟩
              have := q3 j v hj
              simp only [World.cell?]
              rw [show (w.alloc (.cells res e)).heap[w.heap.size]? = some (.cells res e) by show (w.heap.push _)[w.heap.size]? = _; simp]
              simpa using this
  | _ => simp [htd, nope] at h

theorem mapM_zip {α : Type} (f : α → Nat) (k : α → Option Nat) : ∀ (l : List α) (A B : List Nat), l.map f = A → l.map k = B.map some → l.mapM (fun x => (k x).map fun i => (f x, i)) = some (A.zip B)
  | [], A, B, h1, h2 => by simp at h1 h2; subst h1; simp [h2]
  | x :: l, A, B, h1, h2 => by
    subst h1
    cases B with
    | nil => simp at h2
    | cons b B =>
      simp at h2
      have := mapM_zip f k l _ B rfl h2.2
      simp [h2.1, this]

theorem buildEv_sound (hg : g.ok P) (hr : HR w M0 bs hp) (t : TypeId) (ps : List (Nat × AV)) (vs : Array (Nat × Value)) (hps : PartsRel w (Mof M0 bs) bs hp ps vs.toList) (h : (buildEv g hp t ps).1) :
    PDid w M0 bs hp ((do pure (Next.value (← Instr.build t vs)) : Sem Next).run P w) (buildEv g hp t ps).2.1 := by
  have ht := G.td_ok hg t
  unfold buildEv at h ⊢
  cases htd : g.td t with
  | struct ty =>
    simp only [htd] at ht h ⊢
    have hps := hps.coe (fun i => ty.fld i)
    generalize (ps.map fun p => (p.1, coeTy (ty.fld p.1) p.2)) = ps at *
    cases hf : fillSV hp (fun f => if f < ty.nfld then some (ty.off f, (ty.fld f).size) else none) ty.zsv ps with
    | none => simp [hf, nope] at h
    | some cells =>
      simp only [hf] at h ⊢
      obtain ⟨fs, h1, h2, h3, h4, h5⟩ := ht
      have hm := mapM_zip (fun f : Field => f.offset) (fun f => (P.info? f.type).map fun i => i.size) fs.toList _ _ h2 h3
      have hplace : (fun i => (ty.offs.zip ty.sizes).toArray[i]?) = (fun f => if f < ty.nfld then some (ty.off f, (ty.fld f).size) else none) := by
        funext f
        simp only [List.getElem?_toArray]
        by_cases hlt : f < ty.nfld
        · rw [if_pos hlt]
          exact List.getElem?_zip_eq_some.2 ⟨by simp [Ty.offs, hlt], sizes_fld ty f hlt⟩
        · rw [if_neg hlt]
          rw [List.getElem?_eq_none]
          simp [Ty.offs]; omega
      obtain ⟨res, r1, r2⟩ := fill_sound (w := w) (M := Mof M0 bs) (bs := bs) (hp := hp) (fun x u => relSV w (Mof M0 bs) bs hp x u ∧ u.oneCell' = true) (fun x u h => h) _ ps vs.toList _ cells ty.zcells.toArray hps (zsv_rel ty) hf
      have hb : P.built t vs.toList = some res := by
        unfold Program.built
        cases hit : P.info? t with
        | none => simp [hit] at h5
        | some it =>
          simp [hit] at h5
          have hm' : fs.toList.mapM (fun f => (P.info? f.type).map fun i => (f.offset, i.size)) = some (ty.offs.zip ty.sizes) := by
            rw [← hm]; congr 1; funext f; cases P.info? f.type <;> rfl
          simp only [h1, h5.2, hm', hplace]
          exact r1
      exact ⟨.agg res, w, (by rw [Sem.run_bind, run_build w t vs res hb]; rfl), ⟨res.toList, by simp, r2⟩, hr, Step.refl _ _ _ _⟩
  | _ => simp [htd, nope] at h

theorem app_zero {t e : TypeId} {n : Nat} (ht : P.underlying t = some (.slice e)) (hs : (P.info? e).map (fun i => i.size) = some n) (o : TypeId) (base a2 : Option Addr) (len cap c2 : Nat) (hle : len ≤ cap) :
    (Builtin.append_ #[t, t] o #[.slice base len cap, .slice a2 0 c2]).run P w = .ok (.slice base len cap) w := by
  cases base <;> cases a2 <;> simp [Builtin.append_, run_underlying ht, run_sizeOf hs, Builtin.lenOf, hle, Builtin.firstCells, loadCells, loadCellsFrom, storeCells]

/-- An append that needs a new block. -/
theorem app_grow {t e : TypeId} {i : TypeInfo} {z : Value} (ht : P.underlying t = some (.slice e)) (hi : P.info? e = some i) (hz : i.zero = some z) (o : TypeId) (base : Option Addr) (len cap : Nat) (olds : List Value)
    (hlo : olds.length = len * i.size) (holds : ∀ ad, base = some ad → ∀ j v, olds[j]? = some v → w.cell? (ad.add j) = some v) (hbase : base = none → len = 0 ∧ cap = 0)
    (a2 : Addr) (m c2 : Nat) (news : List Value) (hl : news.length = m * i.size) (hnews : ∀ j v, news[j]? = some v → w.cell? (a2.add j) = some v) (hm : 0 < m)
    (hg : cap < len + m) (h63 : len + m ≤ maxLen) (hb : (len + m) * i.bytes ≤ 140737488355328) :
    ∃ cap' rest, len + m ≤ cap' ∧ cap' ≤ maxLen ∧ rest = Builtin.zeroCells z.cells (cap' - (len + m)) ∧
    (Builtin.append_ #[t, t] o #[.slice base len cap, .slice (some a2) m c2]).run P w =
      .ok (.slice (some ⟨w.heap.size, 0, none⟩) (len + m) cap') (w.drew.alloc (.cells (olds.toArray ++ news.toArray ++ rest) e)) := by
  refine ⟨grownCap w (len + m) cap e, _, grownCap_ge _ _ _ _, grownCap_le_maxLen _ _ _ _ h63, rfl, ?_⟩
  have h63' : len + m ≤ 9223372036854775807 := by simpa [maxLen] using h63
  cases base with
  | none =>
    obtain ⟨rfl, rfl⟩ := hbase rfl
    have : olds = [] := List.eq_nil_of_length_eq_zero (by simpa using hlo)
    subst this
    have := run_append_nil (P := P) w t o e i z ht hi hz a2 m c2 news hl hnews hm (by omega) (by simp only [Nat.zero_add] at hb; omega)
    simpa using this
  | some ad =>
    exact run_append_grow (P := P) w t o e i z ht hi hz ad len cap olds hlo (holds ad rfl) a2 m c2 news hl hnews hg (by omega) (growslice_fits hg hb)

theorem app_room {t e e' : TypeId} {i : TypeInfo} (ht : P.underlying t = some (.slice e)) (hi : P.info? e = some i) (o : TypeId) (b len cap : Nat) (cur : Array Value) (hc : w.heap[b]? = some (.cells cur e' (0, 0)))
    (a2 : Addr) (m c2 : Nat) (news : List Value) (hl : news.length = m * i.size) (hnews : ∀ j v, news[j]? = some v → w.cell? (a2.add j) = some v) (h1 : ∀ u ∈ news, u.oneCell' = true)
    (hroom : len + m ≤ cap) (hfit : len * i.size + news.length ≤ cur.size) :
    (Builtin.append_ #[t, t] o #[.slice (some ⟨b, 0, none⟩) len cap, .slice (some a2) m c2]).run P w =
      .ok (.slice (some ⟨b, 0, none⟩) (len + m) cap) (w.setRow b (spl cur.toList (len * i.size) news).toArray) := by
  have hf := run_firstCells_some (P := P) w i.size m a2 m c2 news hl hnews
  have hst := run_storeCells_at P b (len * i.size) e' news 0 cur w hc (by simpa using hfit) h1
  simp only [Nat.add_zero] at hst
  simp [Builtin.append_, run_underlying ht, sizeOf, typeInfo, hi, Builtin.lenOf, hroom, hf, Addr.add_lit, hst, spl]

/-- The cells of an immutable slice, for an append. -/
theorem slice_cells {t : Ty} {xs : List t.T} {a : Option Addr} (h : RowAt w (Mof M0 bs) (fun x cs => rep w (Mof M0 bs) t x cs) t.size a xs) :
    ∃ news, news.length = xs.length * t.size ∧ (∀ ad, a = some ad → ∀ j v, news[j]? = some v → w.cell? (ad.add j) = some v) ∧ (0 < xs.length → ∃ ad, a = some ad) ∧
      All2 (fun x u => relSV w (Mof M0 bs) bs hp x u ∧ u.oneCell' = true) (t.flats xs) news := by
  rcases h with rfl | ⟨b, off, rfl, hm, hb, he⟩
  · exact ⟨[], by simp, fun ad _ j v h => by simp at h, by simp, .nil⟩
  · obtain ⟨news, k1, k2, k3⟩ := row_cells (w := w) (M := Mof M0 bs) (bs := bs) (hp := hp) (t := t) (xs := xs) (b := b) (off := off) 0 (fun i x hx => by simpa using he i x hx)
    refine ⟨news, k1, fun ad had j v hj => ?_, fun _ => ⟨_, rfl⟩, k3⟩
    injection had with had
    subst had
    have := k2 j v hj
    rw [addr_add, ← this]
    congr 2
    omega

theorem all2_cells {l : List SV} {m : List Value} {R : SV → Value → Prop} (h : All2 R l m) (rest : List Value) : ∀ (j : Nat) (x : SV), l[j]? = some x → ∃ u, (m ++ rest).toArray[j]? = some u ∧ R x u := by
  intro j x hj
  obtain ⟨u, h1, h2⟩ := h.get j x hj
  exact ⟨u, by simp only [List.getElem?_toArray]; rw [List.getElem?_append_left (List.getElem?_eq_some_iff.1 h1).1]; exact h1, h2⟩

/-- The new block of an append, for abstract memory. -/
theorem grown_blk (hr : HR w M0 bs hp) {olds news : List Value} {l m : List SV} {z : Value} {n size : Nat} (e : TypeId) (al : Bool) (h1 : All2 (fun x u => relSV w (Mof M0 bs) bs hp x u ∧ u.oneCell' = true) l olds) (h2 : All2 (fun x u => relSV w (Mof M0 bs) bs hp x u ∧ u.oneCell' = true) m news) :
    IsBlk w.drew (Mof M0 bs) bs hp (.cells (olds.toArray ++ news.toArray ++ Builtin.zeroCells z.cells n) e) (.arr al (l ++ m)) := by
  refine ⟨_, e, rfl, fun j x hj => ?_⟩
  obtain ⟨u, k1, k2, k3⟩ := all2_cells (h1.append h2) (Builtin.zeroCells z.cells n).toList j x hj
  exact ⟨u, by rw [← k1]; congr 1; apply Array.ext'; simp, k3, relSV_step hr.keep_drew.2 x u k2⟩

theorem appendEv_sound (hg : g.ok P) (hr : HR w M0 bs hp) (t o : TypeId) (s y : AV) (vs vy : Value) (hs : relAV w (Mof M0 bs) bs hp s vs) (hy : relAV w (Mof M0 bs) bs hp y vy) (h : (appendEv g hp t s y).1) :
    Did w M0 bs hp ((do pure (Next.value (← Builtin.append_ #[t, t] o #[vs, vy])) : Sem Next).run P w) (appendEv g hp t s y).2.1 (appendEv g hp t s y).2.2 := by
  have ht := G.td_ok hg t
  unfold appendEv at h ⊢
  split at h
  · rename_i e ety bytes ty' ys ex htd
    rw [htd] at ht
    obtain ⟨hu, hsz, hinfo, ⟨z, hz, hzs, hzc⟩, _⟩ := ht
    obtain ⟨i, hi⟩ : ∃ i, P.info? e = some i := by cases hi : P.info? e with
      | none => simp [hi] at hinfo
      | some i => exact ⟨i, rfl⟩
    simp [hi] at hinfo hz
    obtain ⟨a2, c2, rfl, y1, y2, _, y3⟩ := hy
    have hsi : (P.info? e).map (fun i => i.size) = some ety.size := by simp [hi, hinfo.1]
    split at h
    · -- an immutable slice without room
      rename_i ty xs
      obtain ⟨rfl, rfl, h3, h4⟩ := h
      obtain ⟨a, c, rfl, x1, x2, x3, x4⟩ := hs
      have hc := x3 rfl
      subst hc
      cases ys with
      | nil =>
        obtain ⟨k1, k2⟩ := hr.virt (ty'.flats xs)
        refine ⟨_, w, _, .inl (by rw [Sem.run_bind, show ([] : List ty'.T).length = 0 from rfl, app_zero hu hsi o a a2 xs.length xs.length c2 (Nat.le_refl _)]; rfl), ⟨by simp, fun al cs hl => ?_⟩, by simpa [Ty.flats] using k1, by simpa [Ty.flats] using k2⟩
        rw [look_push, if_pos rfl] at hl
        simp [Ty.flats] at hl
        obtain ⟨rfl, rfl⟩ := hl
        refine ⟨by simp [flats_length], fun _ => .inr ⟨by rw [at_push, if_pos (by have := hr.len; omega)], xs, a, by simp, by simpa using x2, rfl, by simp, x4.evo k2.evo⟩⟩
      | cons y ys =>
        obtain ⟨olds, o1, o2, o3, o4⟩ := slice_cells (hp := hp) x4
        obtain ⟨news, n1, n2, n3, n4⟩ := slice_cells (hp := hp) y3
        obtain ⟨ad2, rfl⟩ := n3 (by simp)
        obtain ⟨cap', rest, g1, g2, rfl, g4⟩ := app_grow (P := P) hu hi hz o a xs.length xs.length olds (by rw [o1, hinfo.1]) o2 (fun hn => by
          cases xs with
          | nil => exact ⟨rfl, rfl⟩
          | cons x xs => obtain ⟨ad, had⟩ := o3 (by simp); rw [hn] at had; cases had) ad2 (y :: ys).length c2 news (by rw [n1, hinfo.1]) (n2 ad2 rfl) (by simp) (by simp) h4 (by rw [hinfo.2]; exact h3)
        obtain ⟨d1, d2⟩ := hr.keep_drew
        obtain ⟨k1, k2⟩ := d1.push _ (.arr true (ty'.flats xs ++ ty'.flats (y :: ys))) (grown_blk hr (z := z) (n := cap' - (xs.length + (y :: ys).length)) (size := 0) e true o4 n4)
        refine ⟨_, _, _, .inl (by rw [Sem.run_bind, g4]; rfl), ⟨by simp, fun al cs hl => ?_⟩, k1, d2.trans k2⟩
        rw [look_push, if_pos rfl] at hl
        simp only [Blk.arr.injEq] at hl
        obtain ⟨rfl, rfl⟩ := hl
        refine ⟨by simp [flats_length, Nat.add_mul], fun _ => .inl ⟨_, cap', by rw [at_push, if_pos (by have := hr.len; omega)], rfl, g1, ?_⟩⟩
        refine ⟨_, e, heap_alloc_new _ _, ?_, g2⟩
        simp only [Array.size_append, List.size_toArray, size_zeroCells, hzs, o1, n1, ← Nat.add_mul]
        congr 1
        omega
    · -- a slice of the call's own
      rename_i ty id n
      cases hl : Blk.look hp id with
      | dead => simp [hl, nope] at h
      | trace l' xs' i' st' => simp [hl, nope] at h
      | map k v es => simp [hl, nope] at h
      | cells cs => simp [hl, nope] at h
      | arr al cs =>
        simp only [hl] at h ⊢
        obtain ⟨rfl, rfl, h2, h3, h4⟩ := h
        obtain ⟨hid, hs⟩ := hs
        have hs0 := hs
        have hs := (hs al cs hl).2 h2
        cases ys with
        | nil =>
          have hset : hp.set id (.arr (al || !([] : List ty'.T).isEmpty) (cs ++ ty'.flats [])) = hp := by
            have : hp[id]? = some (.arr al cs) := by
              unfold Blk.look at hl
              rw [List.getElem?_eq_getElem hid] at hl ⊢
              simpa using hl
            simp [Ty.flats]
            apply List.ext_getElem?
            intro j
            rw [List.getElem?_set]
            split
            · rename_i e; subst e; exact this.symm
            · rfl
          rw [hset]
          have hrun : ∃ base cap, vs = .slice base n cap ∧ n ≤ cap := by
            rcases hs with ⟨b, cap, _, rfl, hn, _⟩ | ⟨_, xs, a, _, _, _, rfl, _⟩
            · exact ⟨_, cap, rfl, hn⟩
            · exact ⟨_, n, rfl, Nat.le_refl _⟩
          obtain ⟨base, cap, rfl, hn⟩ := hrun
          exact ⟨_, w, bs, .inl (by rw [Sem.run_bind, show ([] : List ty'.T).length = 0 from rfl, app_zero hu hsi o base a2 n cap c2 hn]; rfl), ⟨hid, by simpa using hs0⟩, hr, Step.refl _ _ _ _⟩
        | cons y ys =>
          obtain ⟨news, n1, n2, n3, n4⟩ := slice_cells (hp := hp) y3
          obtain ⟨ad2, rfl⟩ := n3 (by simp)
          have hlong : cs.length < (cs ++ ty'.flats (y :: ys)).length := by
            have h5 : 1 * 1 ≤ (y :: ys).length * ty'.size := Nat.mul_le_mul (by simp) hsz
            simp only [List.length_append, flats_length]; omega
          have hlen2 : (cs ++ ty'.flats (y :: ys)).length = (n + (y :: ys).length) * ty'.size := by simp only [List.length_append, flats_length, h2, Nat.add_mul]
          have hal : (al || !(y :: ys).isEmpty) = true := by simp
          rw [hal]
          obtain ⟨d1, d2⟩ := hr.keep_drew
          -- what an append leaves that moves to a new block
          have moved : ∀ (base : Option Addr) (cap : Nat) (olds : List Value), vs = .slice base n cap → olds.length = n * ty'.size → (∀ ad, base = some ad → ∀ j v, olds[j]? = some v → w.cell? (ad.add j) = some v) →
              (base = none → n = 0 ∧ cap = 0) → cap < n + (y :: ys).length → All2 (fun x u => relSV w (Mof M0 bs) bs hp x u ∧ u.oneCell' = true) cs olds →
              Did w M0 bs hp ((do pure (Next.value (← Builtin.append_ #[t, t] o #[vs, .slice (some ad2) (y :: ys).length c2])) : Sem Next).run P w) (.v (.s (.own ty' id (n + (y :: ys).length)))) (hp.set id (.arr true (cs ++ ty'.flats (y :: ys)))) := by
            rintro base cap olds rfl o1 o2 hbase hcap o4
            obtain ⟨cap', rest, g1, g2, rfl, g4⟩ := app_grow (P := P) hu hi hz o base n cap olds (by rw [o1, hinfo.1]) o2 hbase ad2 (y :: ys).length c2 news (by rw [n1, hinfo.1]) (n2 ad2 rfl) (by simp) hcap h4 (by rw [hinfo.2]; exact h3)
            obtain ⟨k1, k2⟩ := d1.move hl _ true (cs ++ ty'.flats (y :: ys)) hlong (grown_blk hr (z := z) (n := cap' - (n + (y :: ys).length)) (size := 0) e true o4 n4)
            refine ⟨_, _, _, .inl (by rw [Sem.run_bind, g4]; rfl), ⟨by simpa using hid, fun al' cs' hl' => ?_⟩, k1, d2.trans k2⟩
            rw [look_set _ _ _ hid, if_pos rfl] at hl'
            simp only [Blk.arr.injEq] at hl'
            obtain ⟨rfl, rfl⟩ := hl'
            refine ⟨by rw [hlen2]; exact Nat.le_refl _, fun _ => .inl ⟨_, cap', by rw [at_set _ _ _ (by have := hr.len; omega), if_pos rfl], rfl, g1, ?_⟩⟩
            refine ⟨_, e, heap_alloc_new _ _, ?_, g2⟩
            simp only [Array.size_append, List.size_toArray, size_zeroCells, hzs, o1, n1, ← Nat.add_mul]
            congr 1
            omega
          rcases hs with ⟨b, cap, hb, hv, hn, ⟨cur, e', q1, q2, q3⟩⟩ | ⟨hb, xs, a, x1, x2, x3, hv, x4⟩
          · obtain ⟨cur', e'', r1, r2⟩ := hr.arr id al cs b hl hb
            rw [q1] at r1
            simp only [Option.some.injEq, Obj.cells.injEq, and_true] at r1
            obtain ⟨rfl, rfl⟩ := r1
            have hncur : n * ty'.size ≤ cur.size := by rw [q2]; exact Nat.mul_le_mul_right _ hn
            by_cases hroom : n + (y :: ys).length ≤ cap
            · have hfit : n * ty'.size + news.length ≤ cur.size := by rw [q2, n1, ← Nat.add_mul]; exact Nat.mul_le_mul_right _ hroom
              have hnone : ∀ u ∈ news, u.oneCell' = true := fun u hu => by
                obtain ⟨j, hj⟩ := List.getElem?_of_mem hu
                have hl4 := n4.length
                obtain ⟨x, hx⟩ : ∃ x, (ty'.flats (y :: ys))[j]? = some x := ⟨_, List.getElem?_eq_getElem (by have := (List.getElem?_eq_some_iff.1 hj).1; omega)⟩
                obtain ⟨u', h1, h2⟩ := n4.get j x hx
                rw [hj] at h1; cases h1; exact h2.2
              subst hv
              have hrun := app_room (P := P) hu hi o b n cap cur q1 ad2 (y :: ys).length c2 news (by rw [n1, hinfo.1]) (n2 ad2 rfl) hnone hroom (by rw [hinfo.1]; exact hfit)
              rw [hinfo.1] at hrun
              have hnew : (w.setRow b (spl cur.toList (n * ty'.size) news).toArray).heap[b]? = some (.cells (spl cur.toList (n * ty'.size) news).toArray e' (0, 0)) := setRow_heap w b cur _ e' (0, 0) q1
              obtain ⟨k1, k2⟩ := hr.rewrite hb (setRow_evo (.inr ⟨id, hb⟩)) (fun c hne hlt => setRow_other w b c _ hne) hnew (.arr true (cs ++ ty'.flats (y :: ys))) ⟨_, e', rfl, fun j x hj => by
                simp only [List.getElem?_toArray, spl, List.append_assoc]
                rcases Nat.lt_or_ge j cs.length with hlt | hge
                · rw [List.getElem?_append_left hlt] at hj
                  obtain ⟨u, k1, k2⟩ := r2 j x hj
                  exact ⟨u, by rw [List.getElem?_append_left (by simp; omega), List.getElem?_take, if_pos (by omega)]; simpa using k1, k2⟩
                · rw [List.getElem?_append_right hge] at hj
                  obtain ⟨u, k1, k2, k3⟩ := n4.get _ x hj
                  have hlt2 := (List.getElem?_eq_some_iff.1 k1).1
                  refine ⟨u, ?_, k3, k2⟩
                  rw [List.getElem?_append_right (by simp; omega), List.getElem?_append_left (by simp; omega)]
                  rw [← k1]; congr 1; simp; omega⟩ (by rw [hl]; exact .inl hlong)
              refine ⟨_, _, bs, .inl (by rw [Sem.run_bind, hrun]; rfl), ⟨by simpa using hid, fun al' cs' hl' => ?_⟩, k1, k2⟩
              rw [look_set _ _ _ hid, if_pos rfl] at hl'
              simp only [Blk.arr.injEq] at hl'
              obtain ⟨rfl, rfl⟩ := hl'
              refine ⟨by rw [hlen2]; exact Nat.le_refl _, fun _ => .inl ⟨b, cap, hb, rfl, hroom, _, e', hnew, ?_, q3⟩⟩
              simp only [List.size_toArray]
              rw [spl_length _ _ _ (by simpa using hfit)]
              simpa using q2
            · refine moved _ cap (cur.toList.take (n * ty'.size)) hv (by simp; omega) (fun ad had j v hj => ?_) (by simp) (by omega) (All2.of_get (by simp; omega) fun j x u hx hu => ?_)
              · injection had with had
                subst had
                rw [List.getElem?_take] at hj
                split at hj
                · rw [addr_add]; simp [World.cell?, q1]; simpa using hj
                · cases hj
              · obtain ⟨u', k1, k2, k3⟩ := r2 j x hx
                rw [List.getElem?_take] at hu
                split at hu
                · simp at hu; rw [k1] at hu; cases hu; exact ⟨k3, k2⟩
                · cases hu
          · obtain ⟨olds, o1, o2, o3, o4⟩ := slice_cells (hp := hp) x4
            refine moved a n olds hv (by rw [o1, x1]) o2 (fun hn => ?_) (by simp) (by rw [x3]; exact o4)
            cases xs with
            | nil => simp at x1; omega
            | cons x xs => obtain ⟨ad, had⟩ := o3 (by simp); rw [hn] at had; cases had
    · simp [nope] at h
  · simp [nope] at h

end
end Go.Am
