/- Part 11 of the proof's base. -/
import Derived.Test.YtnekjoocbfbmaaaGreatK10
set_option linter.all false
namespace Go.Am
set_option maxHeartbeats 4000000
def rkE {α : Type} (c : α → α → Int) (d : α) (es : List α) : Nat → Int
 | 0 => 1
 | t + 1 => if c (es[t]?.getD d) (es[t + 1]?.getD d) ≠ 0 then (t : Int) + 2 else rkE c d es t
section
variable {α : Type} {D : α → Prop} {c : α → α → Int} {d : α} {es : List α}
theorem rkE_bound (c : α → α → Int) (d : α) (es : List α) : ∀ t, 1 ≤ rkE c d es t ∧ rkE c d es t ≤ (t : Int) + 1
 | 0 => by simp [rkE]
 | t + 1 => by
  have ih := rkE_bound c d es t
  simp only [rkE]
  split <;> omega
theorem getD_mem {a : Nat} (h : a < es.length) : es[a]?.getD d ∈ es := by
 rw [List.getElem?_eq_getElem h]; exact List.getElem_mem h
theorem sorted_le (hs : es.Pairwise (fun x y => c x y ≤ 0)) {a b : Nat} (hab : a < b) (hb : b < es.length) : c (es[a]?.getD d) (es[b]?.getD d) ≤ 0 := by
 have ha : a < es.length := by omega
 rw [List.getElem?_eq_getElem ha, List.getElem?_eq_getElem hb]
 exact List.pairwise_iff_getElem.1 hs a b ha hb hab
theorem rkE_eq (ho : Ordr D c) (hd : ∀ x ∈ es, D x) (hs : es.Pairwise (fun x y => c x y ≤ 0)) {a : Nat} : ∀ b, a ≤ b → b < es.length → (rkE c d es a = rkE c d es b ↔ c (es[a]?.getD d) (es[b]?.getD d) = 0) ∧ rkE c d es a ≤ rkE c d es b
 | b, hab, hb => by
  rcases Nat.lt_or_ge a b with hlt | hge
  ·
   obtain ⟨b, rfl⟩ : ∃ k, b = k + 1 := ⟨b - 1, by omega⟩
   have ih := rkE_eq ho hd hs (a := a) b (by omega) (by omega)
   have da := hd _ (getD_mem (d := d) (show a < es.length by omega))
   have db := hd _ (getD_mem (d := d) (show b < es.length by omega))
   have dc := hd _ (getD_mem (d := d) hb)
   have h1 : c (es[a]?.getD d) (es[b]?.getD d) ≤ 0 := by
    rcases Nat.lt_or_ge a b with h | h
    ·
     exact sorted_le hs h (by omega)
    ·
     obtain rfl : a = b := by omega
     rw [ho.self da]; exact Int.le_refl _
   have h2 := sorted_le (d := d) hs (show b < b + 1 by omega) hb
   have hba := rkE_bound c d es a
   have hbb := rkE_bound c d es b
   have hr : rkE c d es (b + 1) = if c (es[b]?.getD d) (es[b + 1]?.getD d) ≠ 0 then (b : Int) + 2 else rkE c d es b := rfl
   by_cases hz : c (es[b]?.getD d) (es[b + 1]?.getD d) = 0
   ·
    rw [if_neg (fun q => q hz)] at hr
    rw [hr]
    refine ⟨ih.1.trans ⟨fun h => ho.eqv da db dc h hz, fun h => ?_⟩, ih.2⟩
    have := ho.anti _ _ db dc
    exact ho.eqv da dc db h (by omega)
   ·
    rw [if_pos hz] at hr
    rw [hr]
    have := ho.strict da db dc h1 h2 (.inr (by omega))
    exact ⟨⟨fun h => by omega, fun h => by omega⟩, by omega⟩
  ·
   obtain rfl : a = b := by omega
   exact ⟨⟨fun _ => ho.self (hd _ (getD_mem hb)), fun _ => rfl⟩, Int.le_refl _⟩
theorem rkE_same (ho : Ordr D c) (hd : ∀ x ∈ es, D x) (hs : es.Pairwise (fun x y => c x y ≤ 0)) {a b : Nat} (ha : a < es.length) (hb : b < es.length) : rkE c d es a = rkE c d es b ↔ c (es[a]?.getD d) (es[b]?.getD d) = 0 := by
 rcases Nat.le_or_ge a b with h | h
 ·
  exact (rkE_eq ho hd hs b h hb).1
 ·
  have := (rkE_eq (d := d) ho hd hs a h ha).1
  have hn := ho.anti _ _ (hd _ (getD_mem (d := d) ha)) (hd _ (getD_mem (d := d) hb))
  constructor
  ·
   intro e; have := this.1 e.symm; omega
  ·
   intro e; exact (this.2 (by omega)).symm
theorem rkE_lt (ho : Ordr D c) (hd : ∀ x ∈ es, D x) (hs : es.Pairwise (fun x y => c x y ≤ 0)) {a b : Nat} (ha : a < es.length) (hb : b < es.length) : rkE c d es a < rkE c d es b ↔ c (es[a]?.getD d) (es[b]?.getD d) < 0 := by
 have hsm := rkE_same (d := d) ho hd hs ha hb
 rcases Nat.le_or_ge a b with h | h
 ·
  have h1 := (rkE_eq (d := d) ho hd hs b h hb).2
  have h2 : c (es[a]?.getD d) (es[b]?.getD d) ≤ 0 := by
   rcases Nat.lt_or_ge a b with h | h
   ·
    exact sorted_le hs h hb
   ·
    obtain rfl : a = b := by omega
    rw [ho.self (hd _ (getD_mem ha))]; exact Int.le_refl _
  omega
 ·
  have h1 := (rkE_eq (d := d) ho hd hs a h ha).2
  have h2 : c (es[b]?.getD d) (es[a]?.getD d) ≤ 0 := by
   rcases Nat.lt_or_ge b a with h | h
   ·
    exact sorted_le hs h ha
   ·
    obtain rfl : a = b := by omega
    rw [ho.self (hd _ (getD_mem ha))]; exact Int.le_refl _
  have hn := ho.anti _ _ (hd _ (getD_mem (d := d) ha)) (hd _ (getD_mem (d := d) hb))
  omega
end
theorem rankT_rkE (m : Bool) (v : tLst.T) (o : List Int) : ∀ t, rankT m v o t = rkE (firC m v) 0 o t
 | 0 => rfl
 | t + 1 => by
  show (if firC m v (o[t]?.getD 0) (o[t + 1]?.getD 0) ≠ 0 then (t : Int) + 2 else rankT m v o t) = (if firC m v (o[t]?.getD 0) (o[t + 1]?.getD 0) ≠ 0 then (t : Int) + 2 else rkE (firC m v) 0 o t)
  rw [rankT_rkE m v o t]
theorem cmpAt_by (a b : tKd.T) : ∀ (l : List (D .fn)) (i : Nat), (cmpAt a b l i).1 ≠ 0 → (0 : Int) ≤ (cmpAt a b l i).2
 | [], _, h => absurd rfl h
 | f :: r, i, h => by
  simp only [cmpAt] at h ⊢
  split at h
  ·
   rename_i hz; rw [if_pos hz]; exact cmpAt_by a b r (i + 1) h
  ·
   rename_i hz; rw [if_neg hz]; exact Int.natCast_nonneg _
theorem tB_pos {ks : List tKey.T} {a b : tKd.T} (h : tC ks a b ≠ 0) : 0 ≤ tB ks a b := by
 unfold tC at h
 unfold tB
 split at h
 ·
  rename_i ht; rw [if_pos ht]; exact cmpAt_by _ _ _ _ h
 ·
  exact absurd rfl h
theorem firB_pos {m : Bool} {v : tLst.T} {i k : Int} (h : firC m v i k ≠ 0) : 0 ≤ firB m v i k := by
 unfold firC at h
 unfold firB
 split at h
 ·
  rename_i hm
  rw [if_pos hm]
  split at h
  ·
   rename_i hc; rw [if_pos hc]; exact Int.le_refl _
  ·
   rename_i hc; rw [if_neg hc]; exact tB_pos h
 ·
  rename_i hm; rw [if_neg hm]; exact tB_pos h
theorem befR_eq (m : Bool) (v : tLst.T) (i k : Int) : befR m v i k = if firC m v i k = 0 then cmpZ (enAt v.1 i).1 (enAt v.1 k).1 else firC m v i k := orI_two _ _
structure OrdV (m : Bool) (v : tLst.T) : Prop where
 fir : Ordr (inLn v.1) (firC m v)
 nd : (ens v.1).Nodup
 en : ∀ x ∈ v.1, 0 ≤ x.1
 good : goodV m v
theorem ord_score {ks : List tKey.T} {l : List tKd.T} {ord : List (List Int)} (hk : ks.length ≤ 10000) (h : chkS ks l = 0) : OrdV false (l, ks, ord, ()) := by
 obtain ⟨h1, h2⟩ := chkS_0.1 h
 obtain ⟨h3, h4⟩ := sortErr_0.1 h1
 obtain ⟨h5, h6⟩ := entErr_0.1 h2
 refine ⟨((ordr_tC h3).pull (enAt l) (fun i hi => h4 _ (enAt_mem hi))).congr fun i k _ _ => if_neg (by decide), h5, fun x hx => (h6 x hx).1, good_chk hk h⟩
theorem firC_places {ks : List tKey.T} {l : List tKd.T} {ord : List (List Int)} (hp : plainB ks = true) (hr : ∀ x ∈ l, wrongV (hasLs ks) x = false) (h1 : Pl.checkErr ord = 0) (h2 : ord ≠ []) (h3 : (ord[0]?.getD []).length = l.length) {i k : Int} (hi : inLn l i) (hk : inLn l k) :
  firC true (l, ks, ord, ()) i k = if Pl.dec (Pl.standL ord i) (Pl.standL ord k) = 0 then keyC ks (enAt l i) (enAt l k) else Pl.dec (Pl.standL ord i) (Pl.standL ord k) := by
 have e0 : firC true (l, ks, ord, ()) i k = if Pl.cmpV ord i k ≠ 0 then Pl.cmpV ord i k else tC ks (withSc (enAt l i) (enAt l k)) (enAt l k) := if_pos rfl
 rw [e0, cmpV_dec h1 h2 h3 hi hk, tC_with hp (hr _ (enAt_mem hi)) (hr _ (enAt_mem hk))]
 by_cases hz : Pl.dec (Pl.standL ord i) (Pl.standL ord k) = 0
 ·
  rw [if_neg (fun q => q hz), if_pos hz]
 ·
  rw [if_pos hz, if_neg hz]
theorem rows_first {ord : List (List Int)} {l : List tKd.T} (h2 : ¬ rowsE ord l) (hl : l ≠ []) : ord ≠ [] ∧ (ord[0]?.getD []).length = l.length := by
 have hne : ord ≠ [] := fun e => h2 (.inl ⟨e, List.length_pos_iff.2 hl⟩)
 refine ⟨hne, ?_⟩
 obtain ⟨row, rs, rfl⟩ := List.exists_cons_of_ne_nil hne
 exact Classical.byContradiction fun q => h2 (.inr ⟨row, by simp, q⟩)
theorem ord_places {ks : List tKey.T} {l : List tKd.T} {ord : List (List Int)} (hk : ks.length ≤ 10000) (h : chkS ks l = 0) (h1 : Pl.checkErr ord = 0) (h2 : ¬ rowsE ord l) : OrdV true (l, ks, ord, ()) := by
 obtain ⟨q1, q2⟩ := chkS_0.1 h
 obtain ⟨q3, q4⟩ := sortErr_0.1 q1
 obtain ⟨q5, q6⟩ := entErr_0.1 q2
 refine ⟨?_, q5, fun x hx => (q6 x hx).1, good_pchk hk h h1 h2⟩
 by_cases hl : l = []
 ·
  subst hl
  have hno : ∀ i, ¬ inLn ([] : List tKd.T) i := fun i h => by have := h.1; have := h.2; simp only [List.length_nil] at this; omega
  exact ⟨fun x y hx _ => absurd hx (hno x), fun x y z hx _ _ _ _ => absurd hx (hno x)⟩
 ·
  obtain ⟨h3, h4⟩ := rows_first h2 hl
  exact ((ordr_dec (inLn l)).lex (ordr_keyC.pull (enAt l) (fun i hi => q4 _ (enAt_mem hi)))).congr fun i k hi hk => firC_places q3 q4 h1 h3 h4 hi hk
section
variable {m : Bool} {v : tLst.T}
theorem OrdV.perm (h : OrdV m v) : (ordO m v).Perm (idsT (List.length v.1)) ∧ (ordO m v).Pairwise (fun x y => befR m v x y ≤ 0) := sortR_perm h.good fun x hx => idsT_mem hx
theorem OrdV.len (h : OrdV m v) : (ordO m v).length = List.length v.1 := by rw [h.perm.1.length_eq, idsT_len]
theorem OrdV.inl (h : OrdV m v) : ∀ x ∈ ordO m v, inLn v.1 x := fun x hx => idsT_mem (h.perm.1.mem_iff.1 hx)
theorem OrdV.sort (h : OrdV m v) : (ordO m v).Pairwise (fun x y => firC m v x y ≤ 0) := h.perm.2.imp fun {a b} hab => by
 rw [befR_eq] at hab
 split at hab
 ·
  omega
 ·
  exact hab
theorem OrdV.at (h : OrdV m v) {t : Nat} (ht : t < List.length v.1) : inLn v.1 ((ordO m v)[t]?.getD 0) := h.inl _ (getD_mem (by rw [h.len]; exact ht))
theorem OrdV.same (h : OrdV m v) {a b : Nat} (ha : a < List.length v.1) (hb : b < List.length v.1) : rankT m v (ordO m v) a = rankT m v (ordO m v) b ↔ firC m v ((ordO m v)[a]?.getD 0) ((ordO m v)[b]?.getD 0) = 0 := by
 rw [rankT_rkE, rankT_rkE]
 exact rkE_same h.fir h.inl h.sort (by rw [h.len]; exact ha) (by rw [h.len]; exact hb)
theorem OrdV.lt (h : OrdV m v) {a b : Nat} (ha : a < List.length v.1) (hb : b < List.length v.1) : rankT m v (ordO m v) a < rankT m v (ordO m v) b ↔ firC m v ((ordO m v)[a]?.getD 0) ((ordO m v)[b]?.getD 0) < 0 := by
 rw [rankT_rkE, rankT_rkE]
 exact rkE_lt h.fir h.inl h.sort (by rw [h.len]; exact ha) (by rw [h.len]; exact hb)
theorem standL_len (m : Bool) (v : tLst.T) : (standL m v).length = List.length v.1 := plcL_len _ _ _ _
theorem standL_get {t : Nat} (ht : t < List.length v.1) : (standL m v)[t]? = some (plcT m v (ordO m v) t) := by
 unfold standL plcL
 rw [List.getElem?_map, List.getElem?_range ht]; rfl
theorem plc_stand {t : Nat} (ht : t < List.length v.1) : plc (standL m v) t = plcT m v (ordO m v) t := by
 unfold plc; rw [standL_get ht]; rfl
theorem rkAt_stand {t : Nat} (ht : t < List.length v.1) : rkAt (standL m v) t = rankT m v (ordO m v) t := by
 unfold rkAt; rw [plc_stand ht]; rfl
theorem byT_succ (m : Bool) (v : tLst.T) (o : List Int) (t : Nat) : byT m v o (t + 1) = if firC m v (o[t]?.getD 0) (o[t + 1]?.getD 0) ≠ 0 then firB m v (o[t]?.getD 0) (o[t + 1]?.getD 0) else -1 := rfl
theorem rankT_succ (m : Bool) (v : tLst.T) (o : List Int) (t : Nat) : rankT m v o (t + 1) = if firC m v (o[t]?.getD 0) (o[t + 1]?.getD 0) ≠ 0 then (t : Int) + 2 else rankT m v o t := rfl
theorem OrdV.nodup (h : OrdV m v) : (ordO m v).Nodup := by
 rw [h.perm.1.nodup_iff]
 unfold idsT
 exact List.Pairwise.map (fun k : Nat => (k : Int)) (fun a b hab he => hab (by omega)) List.nodup_range
theorem OrdV.inj (h : OrdV m v) {a b : Nat} (ha : a < List.length v.1) (hb : b < List.length v.1) (he : (enAt v.1 ((ordO m v)[a]?.getD 0)).1 = (enAt v.1 ((ordO m v)[b]?.getD 0)).1) : a = b := by
 have h1 := en_inj h.nd (h.at ha) (h.at hb) he
 have la : a < (ordO m v).length := by rw [h.len]; exact ha
 have lb : b < (ordO m v).length := by rw [h.len]; exact hb
 rw [List.getElem?_eq_getElem la, List.getElem?_eq_getElem lb] at h1
 exact (List.getElem_inj h.nodup).1 h1
theorem OrdV.ok (h : OrdV m v) {t : Nat} (ht : t < List.length v.1) : okP (standL m v) t := by
 have hp := plc_stand (m := m) ht
 have hbt := rkE_bound (firC m v) 0 (ordO m v)
 have hsh : shr (standL m v) t = true ↔ 0 < t ∧ firC m v ((ordO m v)[t - 1]?.getD 0) ((ordO m v)[t]?.getD 0) = 0 := by
  rw [shr_rk]
  constructor
  ·
   rintro ⟨h0, he⟩
   rw [rkAt_stand ht, rkAt_stand (by omega)] at he
   exact ⟨h0, (h.same (by omega) ht).1 he.symm⟩
  ·
   rintro ⟨h0, he⟩
   rw [rkAt_stand ht, rkAt_stand (by omega)]
   exact ⟨h0, ((h.same (by omega) ht).2 he).symm⟩
 unfold okP
 rw [hp]
 refine ⟨h.en _ (enAt_mem (h.at ht)), ?_, ?_, ?_, ?_, ?_⟩
 ·
  intro hm
  unfold enp at hm
  obtain ⟨x, hx, he⟩ := List.mem_map.1 hm
  obtain ⟨j, hj, rfl⟩ := List.mem_take_iff_getElem.1 hx
  have hj' : j < List.length v.1 := by have := standL_len m v; omega
  have e1 : (standL m v)[j]'(by rw [standL_len]; exact hj') = plcT m v (ordO m v) j := by
   have := standL_get (m := m) hj'
   rw [List.getElem?_eq_getElem (by rw [standL_len]; exact hj')] at this
   injection this
  rw [e1] at he
  have := h.inj hj' ht he
  omega
 ·
  show -1 ≤ byT m v (ordO m v) t
  cases t with
  | zero => exact Int.le_refl _
  | succ t =>
   rw [byT_succ]
   split
   ·
    rename_i hc; have := firB_pos hc; omega
   ·
    exact Int.le_refl _
 ·
  show byT m v (ordO m v) t = -1 ↔ _
  rw [hsh]
  cases t with
  | zero => exact ⟨fun _ => .inr rfl, fun _ => rfl⟩
  | succ t =>
   rw [byT_succ, Nat.add_sub_cancel]
   by_cases hc : firC m v ((ordO m v)[t]?.getD 0) ((ordO m v)[t + 1]?.getD 0) = 0
   ·
    rw [if_neg (fun q => q hc)]; exact ⟨fun _ => .inl ⟨by omega, hc⟩, fun _ => rfl⟩
   ·
    rw [if_pos hc]
    have := firB_pos hc
    constructor
    ·
     intro; omega
    ·
     rintro (⟨_, q⟩ | q)
     ·
      exact absurd q hc
     ·
      omega
 ·
  intro hs
  obtain ⟨h0, hc⟩ := hsh.1 hs
  rw [plc_stand (by omega)]
  have hle := sorted_le (d := (0 : Int)) h.perm.2 (show t - 1 < t by omega) (by rw [h.len]; exact ht)
  rw [befR_eq, if_pos hc] at hle
  have hle := cmpZ_le.1 hle
  show (enAt v.1 ((ordO m v)[t - 1]?.getD 0)).1 < (enAt v.1 ((ordO m v)[t]?.getD 0)).1
  rcases Int.lt_or_eq_of_le hle with q | q
  ·
   exact q
  ·
   have := h.inj (by omega) ht q
   omega
 ·
  intro hs
  show rankT m v (ordO m v) t = _
  cases t with
  | zero => rfl
  | succ t =>
   rw [rankT_succ, if_pos]
   ·
    omega
   ·
    intro hc
    have : shr (standL m v) (t + 1) = true := hsh.2 ⟨by omega, by rw [Nat.add_sub_cancel]; exact hc⟩
    rw [hs] at this; cases this
theorem OrdV.chk (h : OrdV m v) (hl : List.length v.1 ≤ 4096) : chkErr (standL m v) = 0 := by
 rw [chkErr_0, standL_len]
 exact ⟨hl, fun i hi => h.ok hi⟩
end
noncomputable def befE (ks : List tKey.T) (x y : tKd.T) : Int := if tC ks x y = 0 then cmpZ x.1 y.1 else tC ks x y
noncomputable def byE (ks : List tKey.T) (es : List tKd.T) : Nat → Int
 | 0 => -1
 | t + 1 => if tC ks (es[t]?.getD dK) (es[t + 1]?.getD dK) ≠ 0 then tB ks (es[t]?.getD dK) (es[t + 1]?.getD dK) else -1
noncomputable def plE (ks : List tKey.T) (es : List tKd.T) : List tPlc.T := (List.range es.length).map fun t => ((es[t]?.getD dK).1, rkE (tC ks) dK es t, byE ks es t, ())
structure SrtE (ks : List tKey.T) (l es : List tKd.T) : Prop where
 perm : es.Perm l
 sort : es.Pairwise (fun x y => befE ks x y ≤ 0)
theorem enAt_ids (l : List tKd.T) : (idsT l.length).map (enAt l) = l := by
 apply List.ext_getElem?
 intro i
 unfold idsT
 rw [List.map_map, List.getElem?_map]
 rcases Nat.lt_or_ge i l.length with h | h
 ·
  rw [List.getElem?_range h, List.getElem?_eq_getElem h]
  show some (enAt l (i : Int)) = _
  unfold enAt
  rw [Int.toNat_natCast, List.getElem?_eq_getElem h]; rfl
 ·
  rw [List.getElem?_eq_none h, List.getElem?_eq_none (by simpa using h)]; rfl
theorem firC_scE (ks : List tKey.T) (l : List tKd.T) (ord : List (List Int)) (i k : Int) : firC false (l, ks, ord, ()) i k = tC ks (enAt l i) (enAt l k) := if_neg (by decide)
theorem firB_scE (ks : List tKey.T) (l : List tKd.T) (ord : List (List Int)) (i k : Int) : firB false (l, ks, ord, ()) i k = tB ks (enAt l i) (enAt l k) := if_neg (by decide)
theorem map_getD {l : List tKd.T} {o : List Int} {t : Nat} (h : t < o.length) : (o.map (enAt l))[t]?.getD dK = enAt l (o[t]?.getD 0) := by
 rw [List.getElem?_map, List.getElem?_eq_getElem h]; rfl
theorem rk_map (ks : List tKey.T) (l : List tKd.T) (ord : List (List Int)) (o : List Int) : ∀ t, t < o.length → rankT false (l, ks, ord, ()) o t = rkE (tC ks) dK (o.map (enAt l)) t
 | 0, _ => rfl
 | t + 1, h => by
  rw [rankT_succ, rk_map ks l ord o t (by omega), firC_scE]
  show _ = (if tC ks ((o.map (enAt l))[t]?.getD dK) ((o.map (enAt l))[t + 1]?.getD dK) ≠ 0 then (t : Int) + 2 else rkE (tC ks) dK (o.map (enAt l)) t)
  rw [map_getD h, map_getD (by omega)]
theorem by_map (ks : List tKey.T) (l : List tKd.T) (ord : List (List Int)) (o : List Int) : ∀ t, t < o.length → byT false (l, ks, ord, ()) o t = byE ks (o.map (enAt l)) t
 | 0, _ => rfl
 | t + 1, h => by
  rw [byT_succ, firC_scE, firB_scE]
  show _ = (if tC ks ((o.map (enAt l))[t]?.getD dK) ((o.map (enAt l))[t + 1]?.getD dK) ≠ 0 then tB ks ((o.map (enAt l))[t]?.getD dK) ((o.map (enAt l))[t + 1]?.getD dK) else -1)
  rw [map_getD h, map_getD (by omega)]
theorem stand_plE {ks : List tKey.T} {l : List tKd.T} {ord : List (List Int)} (h : OrdV false (l, ks, ord, ())) : standL false (l, ks, ord, ()) = plE ks ((ordO false (l, ks, ord, ())).map (enAt l)) ∧ SrtE ks l ((ordO false (l, ks, ord, ())).map (enAt l)) := by
 have hl : (ordO false (l, ks, ord, ())).length = l.length := h.len
 refine ⟨?_, ?_, ?_⟩
 ·
  unfold standL plcL plE
  rw [List.length_map, hl]
  refine List.map_congr_left fun t ht => ?_
  have ht : t < (ordO false (l, ks, ord, ())).length := by rw [hl]; exact List.mem_range.1 ht
  unfold plcT
  rw [rk_map ks l ord _ t ht, by_map ks l ord _ t ht, map_getD ht]
 ·
  have := h.perm.1.map (enAt l)
  rwa [show List.map (enAt l) (idsT (List.length (l, ks, ord, ()).1)) = l from enAt_ids l] at this
 ·
  rw [List.pairwise_map]
  refine h.perm.2.imp fun {a b} hab => ?_
  rw [befR_eq, firC_scE] at hab
  exact hab
section
variable {ks : List tKey.T} {l l' es es' : List tKd.T}
theorem ens_perm (h : l.Perm l') : (ens l).Perm (ens l') := h.map _
theorem chk_ordr (h : chkS ks l = 0) : Ordr (fun x => x ∈ l) (tC ks) ∧ (ens l).Nodup := by
 obtain ⟨h1, h2⟩ := chkS_0.1 h
 obtain ⟨h3, h4⟩ := sortErr_0.1 h1
 exact ⟨(ordr_tC h3).mono h4, (entErr_0.1 h2).1⟩
theorem en_eq (hn : (ens l).Nodup) {x y : tKd.T} (hx : x ∈ l) (hy : y ∈ l) (he : x.1 = y.1) : x = y := by
 obtain ⟨i, hi, rfl⟩ := List.mem_iff_getElem.1 hx
 obtain ⟨j, hj, rfl⟩ := List.mem_iff_getElem.1 hy
 have : i = j := by
  have h1 : (ens l)[i]'(by simpa [ens] using hi) = (ens l)[j]'(by simpa [ens] using hj) := by simpa [ens] using he
  exact (List.getElem_inj hn).1 h1
 subst this; rfl
theorem befE_inj (ho : Ordr (fun x => x ∈ l) (tC ks)) (hn : (ens l).Nodup) {x y : tKd.T} (hx : x ∈ l) (hy : y ∈ l) (h1 : befE ks x y ≤ 0) (h2 : befE ks y x ≤ 0) : x = y := by
 have ha := ho.anti x y hx hy
 unfold befE at h1 h2
 split at h1
 ·
  rename_i hz
  rw [if_pos (by omega)] at h2
  exact en_eq hn hx hy (Int.le_antisymm (cmpZ_le.1 h1) (cmpZ_le.1 h2))
 ·
  rename_i hz
  rw [if_neg (by omega)] at h2
  omega
theorem srt_unique (h : chkS ks l = 0) (h1 : SrtE ks l es) (h2 : SrtE ks l es') : es = es' := by
 obtain ⟨ho, hn⟩ := chk_ordr h
 exact List.Perm.eq_of_pairwise (fun a b ha hb q1 q2 => befE_inj ho hn (h1.perm.mem_iff.1 ha) (h2.perm.mem_iff.1 hb) q1 q2) h1.sort h2.sort (h1.perm.trans h2.perm.symm)
theorem any_perm (p : tKd.T → Bool) (h : l.Perm l') : l.any p = l'.any p := by
 rw [Bool.eq_iff_iff, List.any_eq_true, List.any_eq_true]
 constructor
 ·
  rintro ⟨x, hx, q⟩; exact ⟨x, h.mem_iff.1 hx, q⟩
 ·
  rintro ⟨x, hx, q⟩; exact ⟨x, h.mem_iff.2 hx, q⟩
theorem sortErr_perm (h : l.Perm l') : sortErr ks l = sortErr ks l' := by
 unfold sortErr
 rw [any_perm _ h]
theorem entErr_perm (h : l.Perm l') : entErr l = entErr l' := by
 have h1 := (ens_perm h).nodup_iff
 have h2 : (∀ x ∈ l, 0 ≤ x.1 ∧ x.1 < 4096) ↔ ∀ x ∈ l', 0 ≤ x.1 ∧ x.1 < 4096 := ⟨fun q x hx => q x (h.mem_iff.2 hx), fun q x hx => q x (h.mem_iff.1 hx)⟩
 unfold entErr
 by_cases a : (ens l).Nodup
 ·
  rw [if_pos a, if_pos (h1.1 a)]
  by_cases b : ∀ x ∈ l, 0 ≤ x.1 ∧ x.1 < 4096
  ·
   rw [if_pos b, if_pos (h2.1 b)]
  ·
   rw [if_neg b, if_neg (fun q => b (h2.2 q))]
 ·
  rw [if_neg a, if_neg (fun q => a (h1.2 q))]
theorem chkS_perm (h : l.Perm l') : chkS ks l = chkS ks l' := by
 unfold chkS
 rw [sortErr_perm h, entErr_perm h]
theorem score_srt (hk : ks.length ≤ 10000) (h : chkS ks l = 0) : ∃ es, SrtE ks l es ∧ scoreL ks l = plE ks es := by
 obtain ⟨h1, h2⟩ := stand_plE (ord_score (ord := []) hk h)
 exact ⟨_, h2, by unfold scoreL; rw [if_pos h]; exact h1⟩
theorem score_perm (hk : ks.length ≤ 10000) (h : l.Perm l') : scoreL ks l = scoreL ks l' := by
 by_cases hc : chkS ks l = 0
 ·
  obtain ⟨es, e1, e2⟩ := score_srt hk hc
  obtain ⟨es', f1, f2⟩ := score_srt (l := l') hk (by rw [← chkS_perm h]; exact hc)
  rw [e2, f2, srt_unique hc e1 ⟨f1.perm.trans h.symm, f1.sort⟩]
 ·
  unfold scoreL
  rw [if_neg hc, if_neg (by rw [← chkS_perm h]; exact hc)]
theorem SrtE.tsort (h : SrtE ks l es) : es.Pairwise (fun x y => tC ks x y ≤ 0) := h.sort.imp fun {a b} hab => by
 unfold befE at hab
 split at hab
 ·
  omega
 ·
  exact hab
theorem plE_len (ks : List tKey.T) (es : List tKd.T) : (plE ks es).length = es.length := by simp [plE]
theorem plE_get {t : Nat} (h : t < es.length) : (plE ks es)[t]? = some ((es[t]?.getD dK).1, rkE (tC ks) dK es t, byE ks es t, ()) := by
 unfold plE
 rw [List.getElem?_map, List.getElem?_range h]; rfl
theorem SrtE.lt (h : chkS ks l = 0) (hs : SrtE ks l es) {a b : Nat} (ha : a < es.length) (hb : b < es.length) : rkE (tC ks) dK es a < rkE (tC ks) dK es b ↔ tC ks (es[a]?.getD dK) (es[b]?.getD dK) < 0 :=
 rkE_lt (chk_ordr h).1 (fun x hx => hs.perm.mem_iff.1 hx) hs.tsort ha hb
theorem SrtE.same (h : chkS ks l = 0) (hs : SrtE ks l es) {a b : Nat} (ha : a < es.length) (hb : b < es.length) : rkE (tC ks) dK es a = rkE (tC ks) dK es b ↔ tC ks (es[a]?.getD dK) (es[b]?.getD dK) = 0 :=
 rkE_same (chk_ordr h).1 (fun x hx => hs.perm.mem_iff.1 hx) hs.tsort ha hb
def rankOf (p : List tPlc.T) (e : Int) : Int := match p.find? (fun x => x.1 == e) with
 | some x => x.2.1
 | none => 0
theorem rankOf_plE (hn : (ens es).Nodup) {t : Nat} (h : t < es.length) : rankOf (plE ks es) (es[t]?.getD dK).1 = rkE (tC ks) dK es t := by
 have hf : (plE ks es).find? (fun x => x.1 == (es[t]?.getD dK).1) = some ((es[t]?.getD dK).1, rkE (tC ks) dK es t, byE ks es t, ()) := by
  rw [List.find?_eq_some_iff_getElem]
  refine ⟨by simp, t, by rw [plE_len]; exact h, ?_, fun j hj => ?_⟩
  ·
   have := plE_get (ks := ks) h
   rw [List.getElem?_eq_getElem (by rw [plE_len]; exact h)] at this
   injection this
  ·
   have hj' : j < es.length := by omega
   have := plE_get (ks := ks) hj'
   rw [List.getElem?_eq_getElem (by rw [plE_len]; exact hj')] at this
   injection this with this
   rw [this]
   simp only [Bool.not_eq_true', beq_eq_false_iff_ne]
   rw [List.getElem?_eq_getElem hj', List.getElem?_eq_getElem h]
   intro e
   have h1 : (ens es)[j]'(by simpa [ens] using hj') = (ens es)[t]'(by simpa [ens] using h) := by simpa [ens] using e
   have := (List.getElem_inj hn).1 h1
   omega
 unfold rankOf
 rw [hf]
end
end Go.Am
namespace Go.Am
set_option maxHeartbeats 4000000
section
variable {ks : List tKey.T} {l l' es es' : List tKd.T}
theorem chkS_sub (h : chkS ks l = 0) (hs : l'.Sublist l) : chkS ks l' = 0 := by
 obtain ⟨h1, h2⟩ := chkS_0.1 h
 obtain ⟨h3, h4⟩ := sortErr_0.1 h1
 obtain ⟨h5, h6⟩ := entErr_0.1 h2
 exact chkS_0.2 ⟨sortErr_0.2 ⟨h3, fun x hx => h4 x (hs.subset hx)⟩, entErr_0.2 ⟨h5.sublist (hs.map _), fun x hx => h6 x (hs.subset hx)⟩⟩
def outAt (l : List tKd.T) (k : Nat) : List tKd.T := l.take k ++ l.drop (k + 1)
theorem outAt_sub (l : List tKd.T) (k : Nat) : (outAt l k).Sublist l := by
 have h : l = l.take k ++ l.drop k := (List.take_append_drop k l).symm
 conv => rhs; rw [h]
 refine (List.Sublist.refl _).append ?_
 rw [show k + 1 = k + 1 from rfl, ← List.drop_drop]
 exact List.drop_sublist _ _
theorem outAt_len {l : List tKd.T} {k : Nat} (h : k < l.length) : (outAt l k).length = l.length - 1 := by
 unfold outAt
 rw [List.length_append, List.length_take, List.length_drop]; omega
theorem outAt_perm {l : List tKd.T} {k : Nat} (h : k < l.length) : l.Perm (l[k] :: outAt l k) := by
 have : l = l.take k ++ l[k] :: l.drop (k + 1) := by rw [← List.drop_eq_getElem_cons h, List.take_append_drop]
 conv => lhs; rw [this]
 exact List.perm_middle
theorem outAt_get {l : List tKd.T} {k : Nat} (h : k < l.length) (j : Nat) : (outAt l k)[j]? = if j < k then l[j]? else l[j + 1]? := by
 unfold outAt
 split
 ·
  rename_i hj
  rw [List.getElem?_append_left (by rw [List.length_take]; omega), List.getElem?_take_of_lt hj]
 ·
  rename_i hj
  rw [List.getElem?_append_right (by rw [List.length_take]; omega), List.length_take, List.getElem?_drop]
  congr 1
  omega
theorem srt_out {k : Nat} (h : chkS ks l = 0) (hk : k < l.length) (h1 : SrtE ks l es) (h2 : SrtE ks (outAt l k) es') : ∃ c, ∃ hc : c < es.length, es[c] = l[k] ∧ es' = outAt es c := by
 have hm : l[k] ∈ es := h1.perm.mem_iff.2 (List.getElem_mem hk)
 obtain ⟨c, hc, he⟩ := List.mem_iff_getElem.1 hm
 refine ⟨c, hc, he, ?_⟩
 have hp := outAt_perm hc
 rw [he] at hp
 have hp2 : (outAt es c).Perm (outAt l k) := List.Perm.cons_inv (hp.symm.trans (h1.perm.trans (outAt_perm hk)))
 exact srt_unique (chkS_sub h (outAt_sub l k)) h2 ⟨hp2, h1.sort.sublist (outAt_sub es c)⟩
theorem chk_right (h : chkS ks l = 0) : plainB ks = true ∧ ∀ x ∈ l, rightE ks x := sortErr_0.1 (chkS_0.1 h).1
end
end Go.Am
namespace Go.Am
set_option maxHeartbeats 4000000
set_option maxRecDepth 20000
open Go.RowKit Go.Proofs
attribute [local simp] thenKD_normal thenKD_exit thenKD_goto thenKD_ret inBlockKD_normal inBlockKD_exit inBlockKD_goto inBlockKD_ret noGotoKD_normal noGotoKD_exit noGotoKD_goto noGotoKD_ret roundKD_normal roundKD_exit roundKD_goto roundKD_ret frzSlotsD_nil frzSlotsD_cons frzSlotD_eq yieldVCD_trace opVCD_eq vcOpsD_nil vcOpsD_cons vcAllD_zero vcAllD_succ allAtD_nil allAtD_cons readyAux edgA vcD_skip vcD_label vcD_exit vcD_goto vcD_ret vcD_region vcD_seq vcD_seqC vcD_cond vcCondD_bool vcD_block vcD_scope vcD_loop vcD_rangeFunc yieldOf isMem isMem0 keepE envLe St.le psE yieldAV round_td round_y round_Γ vI vB vS aI aB aS look getE oper opRV putE allOk okOps Op.operands Call.operands pEv qEv mEv constRV coe RV.av loadEv loadCs takeAt indexAddrEv fieldAddrEv binEv intEv arith unEv gcond pickEv argsEv callVal callEv capAV_mk lenArgs lenEv minEv extractEv convEv funcEv allBox bound sliceEv lookupEv TD.isBool allocEv boxEv storeEv spl plainTD appendEv appendArgs makeMapEv mapUpdateEv buildEv buildSliceEv fillSV zsvOf sizeTD Ty.parses parses_flats' coeA flats_length AV.good AV.cells AV.pure SV.pure av_int av_bool av_str av_slice av_cons av_fld0 av_fld1 av_fld2 av_fld3 av_fld4 Ty.of Ty.dflt Ty.parse Ty.flat Ty.zsv Ty.fld Ty.get Ty.off Ty.nfld Ty.size coeTy junk Blk.look argEnv resEv resOk resVs oneRV retOk frzAs frzAV frzL frzSV boxCaps boxCap SV.sig sigs RV.scalar AV.scalar SV.scalar nope effVCD_eq effOf SV.ids AV.ids dedup SV.ren AV.ren RV.ren idx outId mergeB Blk.pureB flats_pure flat_pure epsSlotsD_nil epsSlotsD_cons epsSlotD_eq allEp D.parts_fnOf fvParts retEff round_E av_fn G.ye isCutD_nil isCutD_cons firstReg_region firstReg_seq firstReg_skip firstReg_ret firstReg_label firstReg_exit firstReg_goto firstReg_cond firstReg_block firstReg_scope firstReg_loop firstReg_rf eptrOf_mk flOfD_nil flOfD_cons vcFlD_cons vcFlD_nil flPairs_nil flPairs_cons vcFrD_nil vcFrD_cons makeSliceEv vcCondD_ib fzEv unfl_flats isFz round_fz panVCD_eq panOf isShift strIdxEv ifaceEv nilChkEv sliceAnyEv sliceOwnEv sliceSufEv appendEv0 appendEv1 Ty.beq Ty.isAgg round_Pn vcDefD_seqR vcDefD_seqS vcDefD_seqC vcDefD_seqB vcDefD_seqL vcDefD_seqF vcDefD_seqSc vcDefD_region vcDefD_ret vcDefD_cond vcDefD_block vcDefD_loop thenKD_panic inBlockKD_panic noGotoKD_panic exitOk_normal exitOk_ret exitOk_panic exitOk_exit runDefs_none runDefs_some runDefs_cons defRegD isDefer defOf caughtCon unfl_cons D.bpart_bndOf D.parts_bndOf AV.sig
attribute [local simp ←] flats_append
def fewRR (r : tRat.T) : Bool := fewB r.1.2.1 4 && fewB r.2.1.2.1 4
def fewX (x : tKd.T) : Bool := decide (x.2.2.1.length ≤ 10 ∧ x.2.2.2.1.length ≤ 10) && (fewRR x.2.1 && (x.2.2.1.all fewRR && x.2.2.2.1.all fewRR))
def few21 (ks : List tKey.T) (l : List tKd.T) : Bool := decide (ks.length ≤ 40 ∧ l.length ≤ 12) && l.all fewX
theorem all_take {α : Type} (p : α → Bool) {l : List α} {i : Nat} (h : i < l.length) : (l.take (i + 1)).all p = ((l.take i).all p && p l[i]) := by
 rw [List.take_add_one, List.all_append, List.getElem?_eq_getElem h]
 simp
theorem all_not {α : Type} (p : α → Bool) {l : List α} {i : Nat} (h : i < l.length) (hp : p l[i] = false) : l.all p = false := by
 rw [List.all_eq_false]
 exact ⟨l[i], List.getElem_mem h, by rw [hp]; decide⟩
noncomputable def lwfΓ : List (FuncId × Con) := (28, conFewR) :: (11, conSane23) :: lw1Γ
theorem lwfΓ_ok : ∀ p ∈ lwfΓ, (∀ (args : Array Value) (w : World), (callFunc p.1 args).run Tryz.prog w = .ok (.enter p.1 args) w) ∧ PureOk Tryz.prog p.1 p.2 := by
 simp only [lwfΓ, List.forall_mem_cons]
 exact ⟨⟨enters_of Tryz.func28 (by kernel_rfl) rfl, fewr_ok⟩, ⟨enters_of Tryz.func11 (by kernel_rfl) rfl, sane23_ok⟩, lw1Γ_ok⟩
noncomputable def lwfE : List (FuncId × ECon) := lw1E
theorem lwfE_ok : ∀ p ∈ lwfE, (∀ (args : Array Value) (w : World), (callFunc p.1 args).run Tryz.prog w = .ok (.enter p.1 args) w) ∧ EffOk Tryz.prog p.1 p.2 := by
 simp only [lwfE]
 exact lw1E_ok
noncomputable def lwfP : List (FuncId × PCon) := lw1P
theorem lwfP_ok : ∀ p ∈ lwfP, (∀ (args : Array Value) (w : World), (callFunc p.1 args).run Tryz.prog w = .ok (.enter p.1 args) w) ∧ PanOk Tryz.prog p.1 p.2 := by
 simp only [lwfP]
 exact lw1P_ok
noncomputable def lwf : G := { τ := lwT, Γ := lwfΓ, E := lwfE, Pn := lwfP }
theorem lwf_good : lwf.good Tryz.prog := good_of_all (lwT_ok _ rfl) lwfΓ_ok lwfE_ok lwfP_ok
theorem lwf_all : (∀ t, lwf.td t = (look lwT t).getD .other) ∧ lwf.y = false ∧ lwf.Γ = lwfΓ ∧ lwf.E = lwfE ∧ lwf.Pn = lwfP ∧ lwf.fz = [] := ⟨fun _ => rfl, rfl, rfl, rfl, rfl, rfl⟩
noncomputable def conFew21 : Con := ⟨fun args => (match args with
 | [.s (.sl (.cons (.int .i64) (.cons .str (.cons (.int .i64) .nil))) ks _), .s (.sl (.cons (.int .i64) (.cons (.cons (.cons .bool (.cons (.slice (.int .i64)) .nil)) (.cons (.cons .bool (.cons (.slice (.int .i64)) .nil)) .nil)) (.cons (.slice (.cons (.cons .bool (.cons (.slice (.int .i64)) .nil)) (.cons (.cons .bool (.cons (.slice (.int .i64)) .nil)) .nil))) (.cons (.slice (.cons (.cons .bool (.cons (.slice (.int .i64)) .nil)) (.cons (.cons .bool (.cons (.slice (.int .i64)) .nil)) .nil))) (.cons (.int .i64) (.cons (.int .i64) (.cons (.int .i64) .nil))))))) l _)] => True
 | _ => False), fun args => match args with
 | [.s (.sl (.cons (.int .i64) (.cons .str (.cons (.int .i64) .nil))) ks _), .s (.sl (.cons (.int .i64) (.cons (.cons (.cons .bool (.cons (.slice (.int .i64)) .nil)) (.cons (.cons .bool (.cons (.slice (.int .i64)) .nil)) .nil)) (.cons (.slice (.cons (.cons .bool (.cons (.slice (.int .i64)) .nil)) (.cons (.cons .bool (.cons (.slice (.int .i64)) .nil)) .nil))) (.cons (.slice (.cons (.cons .bool (.cons (.slice (.int .i64)) .nil)) (.cons (.cons .bool (.cons (.slice (.int .i64)) .nil)) .nil))) (.cons (.int .i64) (.cons (.int .i64) (.cons (.int .i64) .nil))))))) l _)] => .v (aB (few21 ks l))
 | _ => .v (.s .any)⟩
theorem conFew21_eq (ks : List (Ty.T tKey)) (exks : Bool) (l : List (Ty.T tKd)) (exl : Bool) : conFew21.pre [.s (.sl tKey ks exks), .s (.sl tKd l exl)] = (True) ∧ conFew21.val [.s (.sl tKey ks exks), .s (.sl tKd l exl)] = .v (aB (few21 ks l)) := ⟨rfl, rfl⟩
theorem few21_ok : PureOk Tryz.prog 12 conFew21 := by
 refine pureOkD (L := { live := [0, 1, 4, 5, 6, 7, 8, 16, 20, 42, 47, 56, 61, 70] }) lwf_good rfl nr_mixed Tryz.func12 rfl conFew21 2 (by decide) (by kernel_rfl) ?_
 intro args hpre hlens
 simp only [conFew21] at hpre
 split at hpre
 case h_2 => exact hpre.elim
 rename_i ks ek l el
 simp only [allLen, AV.lenOk, SV.lenOk, Ty.lenOk, maxLen, and_true, implies_true, true_and, List.forall_mem_cons, List.not_mem_nil, false_implies] at hlens
 refine ⟨rfl, ?_⟩
 simp -dsimp -implicitDefEqProofs [Tryz.f12, conFew21_eq, lwf_all, lwT, lwfΓ, lwfE, lwfP, lw1Γ, lw1E, lw1P, lw0Γ, lw0E, lw0P, conFewR_eq, conSane23_pre, conSane23_val, conScored_eq, conSameP_eq, conRInt_eq, conByScore_eq, conByPlaces_eq, conCheck_eq, inI64]
 refine ⟨fun h => ?_, fun h1 h2 => ?_⟩
 ·
  unfold few21
  rw [decide_eq_false (by rintro ⟨a, b⟩; omega)]; rfl
 have hno : ∀ {i : Nat} (h : i < l.length), fewX l[i] = false → few21 ks l = false := fun h hx => by unfold few21; rw [all_not fewX h hx, Bool.and_false]
 refine WpD.loop (L := { live := [0, 1, 4, 5, 6, 7, 8, 16, 20, 42, 47, 56, 61, 70] }) lwf_good X0_ok nr_mixed (by kernel_rfl)
  (fun i : Nat => ⟨[(0, vS tKey ks ek), (1, vS tKd l el), (4, vB false), (5, vI i)], []⟩)
  (fun i => i ≤ l.length ∧ (l.take i).all fewX = true) (fun i => l.length - i) 0 ⟨Nat.zero_le _, rfl⟩ (Turn.le (by simp -dsimp -implicitDefEqProofs)) ?_
 rintro i ⟨hi, hall⟩
 rcases Nat.lt_or_ge i l.length with hil | hge
 ·
  have e0 : fewX l[i] = (decide (l[i].2.2.1.length ≤ 10 ∧ l[i].2.2.2.1.length ≤ 10) && (fewRR l[i].2.1 && (l[i].2.2.1.all fewRR && l[i].2.2.2.1.all fewRR))) := rfl
  have e1 := all_take fewX hil
  rw [hall, Bool.true_and] at e1
  simp -dsimp -implicitDefEqProofs [conFew21_eq, hil, -Prod.forall, -Bool.forall_bool, -Prod.exists, -Bool.exists_bool, lwf_all, lwT, lwfΓ, lwfE, lwfP, lw1Γ, lw1E, lw1P, lw0Γ, lw0E, lw0P, conFewR_eq, conSane23_pre, conSane23_val, conScored_eq, conSameP_eq, conRInt_eq, conByScore_eq, conByPlaces_eq, conCheck_eq, inI64]
  refine ⟨fun h => hno hil ?_, fun a1 a2 a3 a4 => ?_⟩
  ·
   rw [e0]
   rcases h with h | h
   ·
    rw [decide_eq_false (by rintro ⟨q1, q2⟩; omega)]; rfl
   ·
    have : fewRR l[i].2.1 = false := by
     unfold fewRR
     rcases h with h | h
     ·
      rw [h]; rfl
     ·
      rw [h, Bool.and_false]
    rw [this, Bool.false_and, Bool.and_false]
  have e2 : fewX l[i] = (l[i].2.2.1.all fewRR && l[i].2.2.2.1.all fewRR) := by
   rw [e0, decide_eq_true ⟨by omega, by omega⟩]
   have : fewRR l[i].2.1 = true := by unfold fewRR; rw [a3, a4]; rfl
   rw [this, Bool.true_and, Bool.true_and]
  obtain ⟨tot, ht⟩ : ∃ tot : List tRat.T, tot = l[i].2.2.1 := ⟨_, rfl⟩
  obtain ⟨prv, hp⟩ : ∃ prv : List tRat.T, prv = l[i].2.2.2.1 := ⟨_, rfl⟩
  have t10 : tot.length ≤ 10 := by rw [ht]; omega
  have p10 : prv.length ≤ 10 := by rw [hp]; omega
  rw [← ht, ← hp]
  have e2 : fewX l[i] = (tot.all fewRR && prv.all fewRR) := by rw [ht, hp]; exact e2
  refine WpD.loop (L := { live := [0, 1, 4, 5, 6, 7, 8, 16, 20, 42, 47, 56, 61, 70] }) lwf_good X0_ok nr_mixed (by kernel_rfl)
   (fun k : Nat => ⟨[(0, vS tKey ks ek), (1, vS tKd l el), (4, vB false), (5, vI i), (6, ⟨true, .v (.s (.box 0 0))⟩), (7, vI k)], [.cells [.int .i64 l[i].1, .bool l[i].2.1.1.1, .sl tI l[i].2.1.1.2.1 false, .bool l[i].2.1.2.1.1, .sl tI l[i].2.1.2.1.2.1 false, .sl tRat tot false, .sl tRat prv false, .int .i64 l[i].2.2.2.2.1, .int .i64 l[i].2.2.2.2.2.1, .int .i64 l[i].2.2.2.2.2.2.1]]⟩)
   (fun k => k ≤ tot.length ∧ (tot.take k).all fewRR = true) (fun k => tot.length - k) 0 ⟨Nat.zero_le _, rfl⟩ (Turn.le (by simp -dsimp -implicitDefEqProofs)) ?_
  rintro k ⟨hk, hka⟩
  rcases Nat.lt_or_ge k tot.length with hkl | hkg
  ·
   have f1 := all_take fewRR hkl
   rw [hka, Bool.true_and] at f1
   have f2 : fewRR tot[k] = (fewB tot[k].1.2.1 4 && fewB tot[k].2.1.2.1 4) := rfl
   simp -dsimp -implicitDefEqProofs [conFew21_eq, hkl, -Prod.forall, -Bool.forall_bool, -Prod.exists, -Bool.exists_bool, lwf_all, lwT, lwfΓ, lwfE, lwfP, lw1Γ, lw1E, lw1P, lw0Γ, lw0E, lw0P, conFewR_eq, conSane23_pre, conSane23_val, conScored_eq, conSameP_eq, conRInt_eq, conByScore_eq, conByPlaces_eq, conCheck_eq, inI64]
   refine ⟨fun h => hno hil ?_, fun b1 b2 => ⟨⟨by omega, by omega⟩, k + 1, ⟨by omega, ?_⟩, by omega, TurnT.le (by simp -dsimp -implicitDefEqProofs)⟩⟩
   ·
    rw [e2, all_not fewRR hkl, Bool.false_and]
    rw [f2]
    rcases h with h | h
    ·
     rw [h]; rfl
    ·
     rw [h, Bool.and_false]
   ·
    exact List.all_eq_true.1 (by rw [f1, f2, b1, b2]; rfl)
  have hnk : ¬ k < tot.length := by omega
  rw [List.take_of_length_le hkg] at hka
  simp -dsimp -implicitDefEqProofs [hnk, -Prod.forall, -Bool.forall_bool, -Prod.exists, -Bool.exists_bool, lwf_all, lwT, lwfΓ, lwfE, lwfP, lw1Γ, lw1E, lw1P, lw0Γ, lw0E, lw0P, conFewR_eq, conSane23_pre, conSane23_val, conScored_eq, conSameP_eq, conRInt_eq, conByScore_eq, conByPlaces_eq, conCheck_eq, inI64]
  refine WpD.loop (L := { live := [0, 1, 4, 5, 6, 7, 8, 16, 20, 42, 47, 56, 61, 70] }) lwf_good X0_ok nr_mixed (by kernel_rfl)
   (fun k : Nat => ⟨[(0, vS tKey ks ek), (1, vS tKd l el), (4, vB false), (5, vI i), (6, ⟨true, .v (.s (.box 0 0))⟩), (8, vI k)], [.cells [.int .i64 l[i].1, .bool l[i].2.1.1.1, .sl tI l[i].2.1.1.2.1 false, .bool l[i].2.1.2.1.1, .sl tI l[i].2.1.2.1.2.1 false, .sl tRat tot false, .sl tRat prv false, .int .i64 l[i].2.2.2.2.1, .int .i64 l[i].2.2.2.2.2.1, .int .i64 l[i].2.2.2.2.2.2.1]]⟩)
   (fun k => k ≤ prv.length ∧ (prv.take k).all fewRR = true) (fun k => prv.length - k) 0 ⟨Nat.zero_le _, rfl⟩ (Turn.le (by simp -dsimp -implicitDefEqProofs)) ?_
  rintro q ⟨hq, hqa⟩
  rcases Nat.lt_or_ge q prv.length with hql | hqg
  ·
   have f1 := all_take fewRR hql
   rw [hqa, Bool.true_and] at f1
   have f2 : fewRR prv[q] = (fewB prv[q].1.2.1 4 && fewB prv[q].2.1.2.1 4) := rfl
   simp -dsimp -implicitDefEqProofs [conFew21_eq, hql, -Prod.forall, -Bool.forall_bool, -Prod.exists, -Bool.exists_bool, lwf_all, lwT, lwfΓ, lwfE, lwfP, lw1Γ, lw1E, lw1P, lw0Γ, lw0E, lw0P, conFewR_eq, conSane23_pre, conSane23_val, conScored_eq, conSameP_eq, conRInt_eq, conByScore_eq, conByPlaces_eq, conCheck_eq, inI64]
   refine ⟨fun h => hno hil ?_, fun b1 b2 => ⟨⟨by omega, by omega⟩, q + 1, ⟨by omega, ?_⟩, by omega, TurnT.le (by simp -dsimp -implicitDefEqProofs)⟩⟩
   ·
    rw [e2, all_not fewRR hql, Bool.and_false]
    rw [f2]
    rcases h with h | h
    ·
     rw [h]; rfl
    ·
     rw [h, Bool.and_false]
   ·
    exact List.all_eq_true.1 (by rw [f1, f2, b1, b2]; rfl)
  ·
   have hnq : ¬ q < prv.length := by omega
   rw [List.take_of_length_le hqg] at hqa
   simp -dsimp -implicitDefEqProofs [hnq, -Prod.forall, -Bool.forall_bool, -Prod.exists, -Bool.exists_bool, lwf_all, lwT, lwfΓ, lwfE, lwfP, lw1Γ, lw1E, lw1P, lw0Γ, lw0E, lw0P, conFewR_eq, conSane23_pre, conSane23_val, conScored_eq, conSameP_eq, conRInt_eq, conByScore_eq, conByPlaces_eq, conCheck_eq, inI64]
   refine ⟨⟨by omega, by omega⟩, i + 1, ⟨by omega, List.all_eq_true.1 (by rw [e1, e2, hka, hqa]; rfl)⟩, by omega, ?_⟩
   exact TurnT.trunc X0_ok (hp := []) (junk := [_]) (by simp) (by simp only [List.length_cons, List.length_nil, List.all_cons, List.all_nil, arr_below, Bool.and_true] <;> simp [Blk.below, SV.below]) (by simp -dsimp -implicitDefEqProofs []) (by simp [envBelow, RV.below, AV.below, SV.below])
 ·
  have hn : ¬ i < l.length := by omega
  simp -dsimp -implicitDefEqProofs [conFew21_eq, hn, -Prod.forall, -Bool.forall_bool, -Prod.exists, -Bool.exists_bool, lwf_all, lwT, lwfΓ, lwfE, lwfP, lw1Γ, lw1E, lw1P, lw0Γ, lw0E, lw0P, conFewR_eq, conSane23_pre, conSane23_val, conScored_eq, conSameP_eq, conRInt_eq, conByScore_eq, conByPlaces_eq, conCheck_eq, inI64]
  rw [List.take_of_length_le hge] at hall
  unfold few21
  rw [hall, decide_eq_true (by omega)]; rfl
def fewO (ord : List (List Int)) : Bool := decide (ord.length ≤ 10 ∧ ∀ row ∈ ord, row.length ≤ 10)
noncomputable def conFewO : Con := ⟨fun args => (match args with
 | [.s (.sl (.slice (.int .i64)) ord _)] => True
 | _ => False), fun args => match args with
 | [.s (.sl (.slice (.int .i64)) ord _)] => .v (aB (fewO ord))
 | _ => .v (.s .any)⟩
theorem conFewO_eq (ord : List (Ty.T (.slice tI))) (exord : Bool) : conFewO.pre [.s (.sl (.slice tI) ord exord)] = (True) ∧ conFewO.val [.s (.sl (.slice tI) ord exord)] = .v (aB (fewO ord)) := ⟨rfl, rfl⟩
theorem fewo_ok : PureOk Tryz.prog 16 conFewO := by
 refine pureOkD (L := { live := [0, 2, 3, 11, 19] }) lwf_good rfl nr_mixed Tryz.func16 rfl conFewO 1 (by decide) (by kernel_rfl) ?_
 intro args hpre hlens
 simp only [conFewO] at hpre
 split at hpre
 case h_2 => exact hpre.elim
 rename_i ord eo
 simp only [allLen, AV.lenOk, SV.lenOk, Ty.lenOk, maxLen, and_true, implies_true, true_and, List.forall_mem_cons, List.not_mem_nil, false_implies] at hlens
 refine ⟨rfl, ?_⟩
 simp -dsimp -implicitDefEqProofs [Tryz.f16, conFewO_eq, lwf_all, lwT, lwfΓ, lwfE, lwfP, lw1Γ, lw1E, lw1P, lw0Γ, lw0E, lw0P, conFewR_eq, conSane23_pre, conSane23_val, conScored_eq, conSameP_eq, conRInt_eq, conByScore_eq, conByPlaces_eq, conCheck_eq, inI64]
 refine WpD.loop (L := { live := [0, 2, 3, 11, 19] }) lwf_good X0_ok nr_mixed (by kernel_rfl)
  (fun i : Nat => ⟨[(0, vS (.slice tI) ord eo), (2, vB false), (3, vI i)], []⟩)
  (fun i => i ≤ ord.length ∧ i ≤ 12 ∧ ∀ j (h : j < ord.length), j < i → ord[j].length ≤ 10) (fun i => ord.length - i) 0 ⟨Nat.zero_le _, Nat.zero_le _, fun j h hj => absurd hj (by omega)⟩ (Turn.le (by simp -dsimp -implicitDefEqProofs)) ?_
 rintro i ⟨hi, hi2, hj⟩
 rcases Nat.lt_or_ge i ord.length with hil | hge
 ·
  rcases Nat.lt_or_ge i 12 with h12 | h12
  ·
   simp -dsimp -implicitDefEqProofs [conFewO_eq, hil, h12, -Prod.forall, -Bool.forall_bool, -Prod.exists, -Bool.exists_bool, lwf_all, lwT, lwfΓ, lwfE, lwfP, lw1Γ, lw1E, lw1P, lw0Γ, lw0E, lw0P, conFewR_eq, conSane23_pre, conSane23_val, conScored_eq, conSameP_eq, conRInt_eq, conByScore_eq, conByPlaces_eq, conCheck_eq, inI64]
   refine ⟨fun _ => ⟨fun h => ?_, fun h => ⟨⟨by omega, by omega⟩, i + 1, ⟨by omega, by omega, fun j q1 q2 => ?_⟩, by omega, TurnT.le (by simp -dsimp -implicitDefEqProofs)⟩⟩, fun h => absurd h (by omega)⟩
   ·
    unfold fewO
    rw [decide_eq_false]
    rintro ⟨_, q⟩
    have := q ord[i] (List.getElem_mem hil)
    omega
   ·
    rcases Nat.lt_succ_iff_lt_or_eq.1 q2 with h' | rfl
    ·
     exact hj j q1 h'
    ·
     omega
  ·
   have h12' : ¬ i < 12 := by omega
   simp -dsimp -implicitDefEqProofs [conFewO_eq, hil, h12', -Prod.forall, -Bool.forall_bool, -Prod.exists, -Bool.exists_bool, lwf_all, lwT, lwfΓ, lwfE, lwfP, lw1Γ, lw1E, lw1P, lw0Γ, lw0E, lw0P, conFewR_eq, conSane23_pre, conSane23_val, conScored_eq, conSameP_eq, conRInt_eq, conByScore_eq, conByPlaces_eq, conCheck_eq, inI64]
   refine ⟨fun h => absurd h (by omega), fun _ => ?_⟩
   unfold fewO
   rw [decide_eq_false (by omega), decide_eq_false (by rintro ⟨q, _⟩; omega)]
 ·
  have hn : ¬ i < ord.length := by omega
  simp -dsimp -implicitDefEqProofs [conFewO_eq, hn, -Prod.forall, -Bool.forall_bool, -Prod.exists, -Bool.exists_bool, lwf_all, lwT, lwfΓ, lwfE, lwfP, lw1Γ, lw1E, lw1P, lw0Γ, lw0E, lw0P, conFewR_eq, conSane23_pre, conSane23_val, conScored_eq, conSameP_eq, conRInt_eq, conByScore_eq, conByPlaces_eq, conCheck_eq, inI64]
  have : (∀ row ∈ ord, row.length ≤ 10) := fun row hr => by
   obtain ⟨j, hjl, rfl⟩ := List.mem_iff_getElem.1 hr
   exact hj j hjl (by omega)
  have e : decide ((ord.length : Int) ≤ 10) = fewO ord := decide_eq_decide.2 ⟨fun h => ⟨by omega, this⟩, fun h => by have := h.1; omega⟩
  rw [e]
noncomputable def conRank : Con := ⟨fun args => (match args with
 | [.s (.sl (.cons (.int .i64) (.cons (.int .i64) (.cons (.int .i64) .nil))) p _), .s (.int .i64 e)] => True
 | _ => False), fun args => match args with
 | [.s (.sl (.cons (.int .i64) (.cons (.int .i64) (.cons (.int .i64) .nil))) p _), .s (.int _ e)] => .v (aI (rankOf p e))
 | _ => .v (.s .any)⟩
theorem conRank_eq (p : List (Ty.T tPlc)) (exp : Bool) (e : Int) : conRank.pre [.s (.sl tPlc p exp), .s (.int .i64 e)] = (True) ∧ conRank.val [.s (.sl tPlc p exp), .s (.int .i64 e)] = .v (aI (rankOf p e)) := ⟨rfl, rfl⟩
theorem rank_ok : PureOk Tryz.prog 26 conRank := by
 refine pureOkD (L := { live := [0, 1, 4, 5, 9, 18] }) lwf_good rfl nr_mixed Tryz.func26 rfl conRank 2 (by decide) (by kernel_rfl) ?_
 intro args hpre hlens
 simp only [conRank] at hpre
 split at hpre
 case h_2 => exact hpre.elim
 rename_i p ep e
 simp only [allLen, AV.lenOk, SV.lenOk, Ty.lenOk, maxLen, and_true, implies_true, true_and, List.forall_mem_cons, List.not_mem_nil, false_implies] at hlens
 refine ⟨rfl, ?_⟩
 simp -dsimp -implicitDefEqProofs [Tryz.f26, conRank_eq, lwf_all, lwT, lwfΓ, lwfE, lwfP, lw1Γ, lw1E, lw1P, lw0Γ, lw0E, lw0P, conFewR_eq, conSane23_pre, conSane23_val, conScored_eq, conSameP_eq, conRInt_eq, conByScore_eq, conByPlaces_eq, conCheck_eq, inI64]
 refine WpD.loop (L := { live := [0, 1, 4, 5, 9, 18] }) lwf_good X0_ok nr_mixed (by kernel_rfl)
  (fun i : Nat => ⟨[(0, vS tPlc p ep), (1, vI e), (4, vI 0), (5, vI i)], []⟩)
  (fun i => i ≤ p.length ∧ ∀ j (h : j < p.length), j < i → p[j].1 ≠ e) (fun i => p.length - i) 0 ⟨Nat.zero_le _, fun j h hj => absurd hj (by omega)⟩ (Turn.le (by simp -dsimp -implicitDefEqProofs)) ?_
 rintro i ⟨hi, hj⟩
 rcases Nat.lt_or_ge i p.length with hil | hge
 ·
  simp -dsimp -implicitDefEqProofs [conRank_eq, hil, -Prod.forall, -Bool.forall_bool, -Prod.exists, -Bool.exists_bool, lwf_all, lwT, lwfΓ, lwfE, lwfP, lw1Γ, lw1E, lw1P, lw0Γ, lw0E, lw0P, conFewR_eq, conSane23_pre, conSane23_val, conScored_eq, conSameP_eq, conRInt_eq, conByScore_eq, conByPlaces_eq, conCheck_eq, inI64]
  refine ⟨fun h => ?_, fun h => ⟨⟨by omega, by omega⟩, i + 1, ⟨by omega, fun j h1 h2 => ?_⟩, by omega, TurnT.le (by simp -dsimp -implicitDefEqProofs)⟩⟩
  ·
   have hf : p.find? (fun x => x.1 == e) = some p[i] := by
    rw [List.find?_eq_some_iff_getElem]
    exact ⟨by simpa using h, i, hil, rfl, fun j hji => by simpa using hj j (by omega) hji⟩
   unfold rankOf
   rw [hf]
  ·
   rcases Nat.lt_succ_iff_lt_or_eq.1 h2 with h' | rfl
   ·
    exact hj j h1 h'
   ·
    exact h
 ·
  have hn : ¬ i < p.length := by omega
  simp -dsimp -implicitDefEqProofs [conRank_eq, hn, -Prod.forall, -Bool.forall_bool, -Prod.exists, -Bool.exists_bool, lwf_all, lwT, lwfΓ, lwfE, lwfP, lw1Γ, lw1E, lw1P, lw0Γ, lw0E, lw0P, conFewR_eq, conSane23_pre, conSane23_val, conScored_eq, conSameP_eq, conRInt_eq, conByScore_eq, conByPlaces_eq, conCheck_eq, inI64]
  have hf : p.find? (fun x => x.1 == e) = none := by
   rw [List.find?_eq_none]
   intro x hx
   obtain ⟨j, hjl, rfl⟩ := List.mem_iff_getElem.1 hx
   simpa using hj j hjl (by omega)
  unfold rankOf
  rw [hf]
theorem tE_zero {ks : List tKey.T} {a b : tKd.T} (hp : plainB ks = true) (ha : rightE ks a) (hb : rightE ks b) : tE ks a b = 0 := by
 unfold rightE at ha hb
 unfold tE
 rw [if_pos]
 simp only [tieOk, hp, ha, hb, Bool.not_false, Bool.and_self]
theorem right_with {ks : List tKey.T} {a b : tKd.T} (ha : rightE ks a) (hb : rightE ks b) : rightE ks (withSc a b) := by
 unfold rightE wrongV at ha hb ⊢
 rw [Bool.or_eq_false_iff, Bool.or_eq_false_iff] at ha hb ⊢
 exact ⟨ha.1, hb.2.1, ha.2.2⟩
theorem cmpErr_in {ord : List (List Int)} {l : List tKd.T} (h1 : Pl.checkErr ord = 0) (h2 : ¬ rowsE ord l) {i k : Int} (hi : inLn l i) (hk : inLn l k) : Pl.cmpErr ord i k = 0 := by
 have hl : l ≠ [] := fun e => by subst e; have := hi.1; have := hi.2; simp only [List.length_nil] at this; omega
 obtain ⟨h3, h4⟩ := rows_first h2 hl
 obtain ⟨i1, i2⟩ := hi
 obtain ⟨k1, k2⟩ := hk
 exact Pl.cmpErr_3 h1 (by
  rintro ((q | q) | q)
  ·
   exact h3 q
  ·
   split at q <;> omega
  ·
   split at q <;> omega)
structure RightF (m : Bool) (v : tLst.T) (p : List tPlc.T) : Prop where
 len : p.length = List.length v.1
 chk : chkErr p = 0
 olen : (ordO m v).length = List.length v.1
 inl : ∀ t, t < List.length v.1 → inLn v.1 ((ordO m v)[t]?.getD 0)
 en : ∀ t (ht : t < p.length) j (hj : j < List.length v.1), v.1[j].1 = p[t].1 ↔ (j : Int) = (ordO m v)[t]?.getD 0
 lt : ∀ a (ha : a < p.length) b (hb : b < p.length), firC m v ((ordO m v)[a]?.getD 0) ((ordO m v)[b]?.getD 0) < 0 ↔ p[a].2.1 < p[b].2.1
 sm : ∀ a (ha : a < p.length) b (hb : b < p.length), firC m v ((ordO m v)[a]?.getD 0) ((ordO m v)[b]?.getD 0) = 0 ↔ p[a].2.1 = p[b].2.1
 by' : ∀ a (ha : a + 1 < p.length), ¬ p[a + 1].2.1 = p[a].2.1 → firB m v ((ordO m v)[a]?.getD 0) ((ordO m v)[a + 1]?.getD 0) = p[a + 1].2.2.1
theorem stand_at {m : Bool} {v : tLst.T} {t : Nat} (ht : t < (standL m v).length) : (standL m v)[t] = plcT m v (ordO m v) t := by
 have := standL_get (m := m) (v := v) (t := t) (by rw [standL_len] at ht; exact ht)
 rw [List.getElem?_eq_getElem ht] at this
 injection this
theorem OrdV.right {m : Bool} {v : tLst.T} (h : OrdV m v) (hl : List.length v.1 ≤ 4096) : RightF m v (standL m v) := by
 have hn := standL_len m v
 refine ⟨hn, h.chk hl, h.len, fun t ht => h.at ht, fun t ht j hj => ?_, fun a ha b hb => ?_, fun a ha b hb => ?_, fun a ha hne => ?_⟩
 ·
  rw [stand_at ht]
  have hi := h.at (t := t) (by omega)
  have hj' : inLn v.1 (j : Int) := ⟨Int.natCast_nonneg _, by omega⟩
  have e : v.1[j] = enAt v.1 (j : Int) := by unfold enAt; rw [Int.toNat_natCast, List.getElem?_eq_getElem hj]; rfl
  rw [e]
  exact ⟨fun q => en_inj h.nd hj' hi q, fun q => by rw [q]; rfl⟩
 ·
  rw [stand_at ha, stand_at hb]
  exact (h.lt (by omega) (by omega)).symm
 ·
  rw [stand_at ha, stand_at hb]
  exact (h.same (by omega) (by omega)).symm
 ·
  rw [stand_at ha, stand_at (by omega)] at hne
  rw [stand_at ha]
  have hz : firC m v ((ordO m v)[a]?.getD 0) ((ordO m v)[a + 1]?.getD 0) ≠ 0 := fun hz => hne ((h.same (by omega) (by omega)).2 hz).symm
  show _ = byT m v (ordO m v) (a + 1)
  rw [byT_succ, if_pos hz]
noncomputable def lwsΓ : List (FuncId × Con) := (23, conTCmp) :: (25, Pl.conCompare) :: (12, conFew21) :: (16, conFewO) :: (26, conRank) :: lwfΓ
theorem lwsΓ_ok : ∀ p ∈ lwsΓ, (∀ (args : Array Value) (w : World), (callFunc p.1 args).run Tryz.prog w = .ok (.enter p.1 args) w) ∧ PureOk Tryz.prog p.1 p.2 := by
 simp only [lwsΓ, List.forall_mem_cons]
 exact ⟨⟨enters_of Tryz.func23 (by kernel_rfl) rfl, tcmp_ok⟩, ⟨enters_of Tryz.func25 (by kernel_rfl) rfl, Pl.compare_ok⟩, ⟨enters_of Tryz.func12 (by kernel_rfl) rfl, few21_ok⟩, ⟨enters_of Tryz.func16 (by kernel_rfl) rfl, fewo_ok⟩, ⟨enters_of Tryz.func26 (by kernel_rfl) rfl, rank_ok⟩, lwfΓ_ok⟩
noncomputable def lwsE : List (FuncId × ECon) := lwfE
theorem lwsE_ok : ∀ p ∈ lwsE, (∀ (args : Array Value) (w : World), (callFunc p.1 args).run Tryz.prog w = .ok (.enter p.1 args) w) ∧ EffOk Tryz.prog p.1 p.2 := by
 simp only [lwsE]
 exact lwfE_ok
noncomputable def lwsP : List (FuncId × PCon) := lwfP
theorem lwsP_ok : ∀ p ∈ lwsP, (∀ (args : Array Value) (w : World), (callFunc p.1 args).run Tryz.prog w = .ok (.enter p.1 args) w) ∧ PanOk Tryz.prog p.1 p.2 := by
 simp only [lwsP]
 exact lwfP_ok
noncomputable def lws : G := { τ := lwT, Γ := lwsΓ, E := lwsE, Pn := lwsP }
theorem lws_good : lws.good Tryz.prog := good_of_all (lwT_ok _ rfl) lwsΓ_ok lwsE_ok lwsP_ok
theorem lws_all : (∀ t, lws.td t = (look lwT t).getD .other) ∧ lws.y = false ∧ lws.Γ = lwsΓ ∧ lws.E = lwsE ∧ lws.Pn = lwsP ∧ lws.fz = [] := ⟨fun _ => rfl, rfl, rfl, rfl, rfl, rfl⟩
noncomputable def conS1 : Con := ⟨fun args => (match args with
 | [.s (.int .i64 i), .s (.int .i64 k), .s (.eptr (.slice (.cons (.int .i64) (.cons .str (.cons (.int .i64) .nil)))) ks), .s (.eptr (.slice (.cons (.int .i64) (.cons (.cons (.cons .bool (.cons (.slice (.int .i64)) .nil)) (.cons (.cons .bool (.cons (.slice (.int .i64)) .nil)) .nil)) (.cons (.slice (.cons (.cons .bool (.cons (.slice (.int .i64)) .nil)) (.cons (.cons .bool (.cons (.slice (.int .i64)) .nil)) .nil))) (.cons (.slice (.cons (.cons .bool (.cons (.slice (.int .i64)) .nil)) (.cons (.cons .bool (.cons (.slice (.int .i64)) .nil)) .nil))) (.cons (.int .i64) (.cons (.int .i64) (.cons (.int .i64) .nil)))))))) l)] => (inLn l i ∧ inLn l k) ∧ ks.length ≤ 10000 ∧ chkS ks l = 0
 | _ => False), fun args => match args with
 | [.s (.int _ i), .s (.int _ k), .s (.eptr (.slice (.cons (.int .i64) (.cons .str (.cons (.int .i64) .nil)))) ks), .s (.eptr (.slice (.cons (.int .i64) (.cons (.cons (.cons .bool (.cons (.slice (.int .i64)) .nil)) (.cons (.cons .bool (.cons (.slice (.int .i64)) .nil)) .nil)) (.cons (.slice (.cons (.cons .bool (.cons (.slice (.int .i64)) .nil)) (.cons (.cons .bool (.cons (.slice (.int .i64)) .nil)) .nil))) (.cons (.slice (.cons (.cons .bool (.cons (.slice (.int .i64)) .nil)) (.cons (.cons .bool (.cons (.slice (.int .i64)) .nil)) .nil))) (.cons (.int .i64) (.cons (.int .i64) (.cons (.int .i64) .nil)))))))) l)] => .tup [aI (firC false (l, ks, [], ()) i k), aI (firB false (l, ks, [], ()) i k), aB true]
 | _ => .v (.s .any)⟩
theorem conS1_eq (i : Int) (k : Int) (ks : Ty.T (.slice tKey)) (l : Ty.T (.slice tKd)) : conS1.pre [.s (.int .i64 i), .s (.int .i64 k), .s (.eptr (.slice tKey) ks), .s (.eptr (.slice tKd) l)] = ((inLn l i ∧ inLn l k) ∧ ks.length ≤ 10000 ∧ chkS ks l = 0) ∧ conS1.val [.s (.int .i64 i), .s (.int .i64 k), .s (.eptr (.slice tKey) ks), .s (.eptr (.slice tKd) l)] = .tup [aI (firC false (l, ks, [], ()) i k), aI (firB false (l, ks, [], ()) i k), aB true] := ⟨rfl, rfl⟩
theorem s1_ok : PureOk Tryz.prog 22 conS1 := by
 refine pureOkD (L := { live := [0, 1, 2, 3, 6, 7, 8, 9, 10, 11] }) lws_good rfl nr_mixed Tryz.func22 rfl conS1 4 (by decide) (by kernel_rfl) ?_
 intro args hpre hlens
 simp only [conS1] at hpre
 split at hpre
 case h_2 => exact hpre.elim
 rename_i i k ks l
 simp only [allLen, AV.lenOk, SV.lenOk, Ty.lenOk, maxLen, and_true, implies_true, true_and, List.forall_mem_cons, List.not_mem_nil, false_implies] at hlens
 obtain ⟨⟨hi, hk⟩, hkl, hc⟩ := hpre
 refine ⟨rfl, ?_⟩
 simp -dsimp -implicitDefEqProofs [Tryz.f22, conS1_eq, -Prod.forall, -Bool.forall_bool, lws_all, lwT, lwsΓ, lwsE, lwsP, lwfΓ, lwfE, lwfP, lw1Γ, lw1E, lw1P, lw0Γ, lw0E, lw0P, conTCmp_eq, Pl.conCompare_eq, conFew21_eq, conFewO_eq, conRank_eq, conFewR_eq, conSane23_pre, conSane23_val, conScored_eq, conSameP_eq, conRInt_eq, conByScore_eq, conByPlaces_eq, conCheck_eq, inI64]
 obtain ⟨p1, p2⟩ := chk_right hc
 have hz := tE_zero p1 (p2 _ (enAt_mem hi)) (p2 _ (enAt_mem hk))
 rw [firC_scE, firB_scE]
 exact ⟨hi, hk, hkl, rfl, rfl, hz⟩
noncomputable def conM1 : Con := ⟨fun args => (match args with
 | [.s (.int .i64 i), .s (.int .i64 k), .s (.eptr (.slice (.slice (.int .i64))) ord), .s (.eptr (.slice (.cons (.int .i64) (.cons (.cons (.cons .bool (.cons (.slice (.int .i64)) .nil)) (.cons (.cons .bool (.cons (.slice (.int .i64)) .nil)) .nil)) (.cons (.slice (.cons (.cons .bool (.cons (.slice (.int .i64)) .nil)) (.cons (.cons .bool (.cons (.slice (.int .i64)) .nil)) .nil))) (.cons (.slice (.cons (.cons .bool (.cons (.slice (.int .i64)) .nil)) (.cons (.cons .bool (.cons (.slice (.int .i64)) .nil)) .nil))) (.cons (.int .i64) (.cons (.int .i64) (.cons (.int .i64) .nil)))))))) l), .s (.eptr (.slice (.cons (.int .i64) (.cons .str (.cons (.int .i64) .nil)))) ks)] => (inLn l i ∧ inLn l k) ∧ ks.length ≤ 10000 ∧ chkS ks l = 0 ∧ Pl.checkErr ord = 0 ∧ ¬ rowsE ord l
 | _ => False), fun args => match args with
 | [.s (.int _ i), .s (.int _ k), .s (.eptr (.slice (.slice (.int .i64))) ord), .s (.eptr (.slice (.cons (.int .i64) (.cons (.cons (.cons .bool (.cons (.slice (.int .i64)) .nil)) (.cons (.cons .bool (.cons (.slice (.int .i64)) .nil)) .nil)) (.cons (.slice (.cons (.cons .bool (.cons (.slice (.int .i64)) .nil)) (.cons (.cons .bool (.cons (.slice (.int .i64)) .nil)) .nil))) (.cons (.slice (.cons (.cons .bool (.cons (.slice (.int .i64)) .nil)) (.cons (.cons .bool (.cons (.slice (.int .i64)) .nil)) .nil))) (.cons (.int .i64) (.cons (.int .i64) (.cons (.int .i64) .nil)))))))) l), .s (.eptr (.slice (.cons (.int .i64) (.cons .str (.cons (.int .i64) .nil)))) ks)] => .tup [aI (firC true (l, ks, ord, ()) i k), aI (firB true (l, ks, ord, ()) i k), aB true]
 | _ => .v (.s .any)⟩
theorem conM1_eq (i : Int) (k : Int) (ord : Ty.T (.slice (.slice tI))) (l : Ty.T (.slice tKd)) (ks : Ty.T (.slice tKey)) : conM1.pre [.s (.int .i64 i), .s (.int .i64 k), .s (.eptr (.slice (.slice tI)) ord), .s (.eptr (.slice tKd) l), .s (.eptr (.slice tKey) ks)] = ((inLn l i ∧ inLn l k) ∧ ks.length ≤ 10000 ∧ chkS ks l = 0 ∧ Pl.checkErr ord = 0 ∧ ¬ rowsE ord l) ∧ conM1.val [.s (.int .i64 i), .s (.int .i64 k), .s (.eptr (.slice (.slice tI)) ord), .s (.eptr (.slice tKd) l), .s (.eptr (.slice tKey) ks)] = .tup [aI (firC true (l, ks, ord, ()) i k), aI (firB true (l, ks, ord, ()) i k), aB true] := ⟨rfl, rfl⟩
theorem m1_ok : PureOk Tryz.prog 24 conM1 := by
 refine pureOkD (L := { live := [0, 1, 2, 3, 4, 7, 8, 9, 10, 11, 12, 13, 14, 27] }) lws_good rfl nr_mixed Tryz.func24 rfl conM1 5 (by decide) (by kernel_rfl) ?_
 intro args hpre hlens
 simp only [conM1] at hpre
 split at hpre
 case h_2 => exact hpre.elim
 rename_i i k ord l ks
 simp only [allLen, AV.lenOk, SV.lenOk, Ty.lenOk, maxLen, and_true, implies_true, true_and, List.forall_mem_cons, List.not_mem_nil, false_implies] at hlens
 obtain ⟨⟨hi, hk⟩, hkl, hc, ho, hr⟩ := hpre
 refine ⟨rfl, ?_⟩
 simp -dsimp -implicitDefEqProofs [Tryz.f24, conM1_eq, -Prod.forall, -Bool.forall_bool, lws_all, lwT, lwsΓ, lwsE, lwsP, lwfΓ, lwfE, lwfP, lw1Γ, lw1E, lw1P, lw0Γ, lw0E, lw0P, conTCmp_eq, Pl.conCompare_eq, conFew21_eq, conFewO_eq, conRank_eq, conFewR_eq, conSane23_pre, conSane23_val, conScored_eq, conSameP_eq, conRInt_eq, conByScore_eq, conByPlaces_eq, conCheck_eq, inI64]
 have he := cmpErr_in ho hr hi hk
 obtain ⟨p1, p2⟩ := chk_right hc
 have hz := tE_zero p1 (right_with (p2 _ (enAt_mem hi)) (p2 _ (enAt_mem hk))) (p2 _ (enAt_mem hk))
 have e1 : firC true (l, ks, ord, ()) i k = if Pl.cmpV ord i k ≠ 0 then Pl.cmpV ord i k else tC ks (withSc (enAt l i) (enAt l k)) (enAt l k) := if_pos rfl
 have e2 : firB true (l, ks, ord, ()) i k = if Pl.cmpV ord i k ≠ 0 then 0 else tB ks (withSc (enAt l i) (enAt l k)) (enAt l k) := if_pos rfl
 rw [e1, e2]
 refine ⟨fun h => ?_, fun _ h => ⟨hi, hk, hkl, ?_, ?_, hz⟩⟩
 ·
  have hne : Pl.cmpV ord i k ≠ 0 := by
   rcases h with h | h
   ·
    exact absurd he h
   ·
    exact h
  exact ⟨(if_pos hne).symm, (if_pos hne).symm, he⟩
 ·
  rw [if_neg (fun q => q h)]; rfl
 ·
  rw [if_neg (fun q => q h)]; rfl
def atL (o : List Int) (n i : Nat) : List Int := o.take i ++ List.replicate (n - i) 0
theorem atL_len {o : List Int} {n i : Nat} (hi : i ≤ n) (ho : n ≤ o.length) : (atL o n i).length = n := by
 unfold atL
 rw [List.length_append, List.length_take, List.length_replicate]; omega
theorem atL_succ {o : List Int} {n i : Nat} (hi : i < n) (ho : n ≤ o.length) : (atL o n i).set i (o[i]?.getD 0) = atL o n (i + 1) := by
 unfold atL
 have h1 : (o.take i).length = i := by rw [List.length_take]; omega
 rw [List.set_append_right _ _ (by omega), h1, Nat.sub_self, show n - i = (n - (i + 1)) + 1 by omega, List.replicate_succ, List.set_cons_zero]
 have hi' : i < o.length := by omega
 rw [List.take_add_one, List.getElem?_eq_getElem hi', List.append_assoc]
 rfl
theorem atL_all {o : List Int} {n : Nat} (ho : o.length = n) : atL o n n = o := by
 unfold atL
 rw [List.take_of_length_le (by omega), Nat.sub_self]; simp
theorem fl_atI {xs : List Int} {j : Nat} (h : j < xs.length) : (tI.flats xs)[j]'(by rw [flats_length]; simpa using h) = .int .i64 xs[j] := by
 have := flats_int_get (k := .i64) xs j
 rw [List.getElem?_eq_getElem (by rw [flats_length]; simpa using h), List.getElem?_eq_getElem h] at this
 injection this
theorem few_len {ks : List tKey.T} {l : List tKd.T} (h : few21 ks l = true) : ks.length ≤ 40 ∧ l.length ≤ 12 := by
 unfold few21 at h
 rw [Bool.and_eq_true, decide_eq_true_eq] at h
 exact h.1
theorem score_ne {ks : List tKey.T} {l : List tKd.T} (h : ¬ chkS ks l = 0) : scoreL ks l = [] := if_neg h
theorem score_eq {ks : List tKey.T} {l : List tKd.T} (h : chkS ks l = 0) : scoreL ks l = standL false (l, ks, [], ()) := if_pos h
theorem place_0 {ord : List (List Int)} {ks : List tKey.T} {l : List tKd.T} (h : placeE ord ks l = 0) : Pl.checkErr ord = 0 ∧ chkS ks l = 0 ∧ ¬ rowsE ord l := by
 by_cases h1 : Pl.checkErr ord = 0
 ·
  by_cases h2 : chkS ks l = 0
  ·
   refine ⟨h1, h2, fun h3 => ?_⟩
   rw [pE3 h1 h2 h3] at h; cases h
  ·
   rw [pE2 h1 h2] at h; exact absurd h h2
 ·
  rw [pE1 h1] at h; exact absurd h h1
theorem plE_at {ks : List tKey.T} {es : List tKd.T} {i : Nat} (h : i < (plE ks es).length) : (plE ks es)[i] = ((es[i]?.getD dK).1, rkE (tC ks) dK es i, byE ks es i, ()) := by
 have := plE_get (ks := ks) (t := i) (by rw [plE_len] at h; exact h)
 rw [List.getElem?_eq_getElem h] at this
 injection this
theorem scoreL_len {ks : List tKey.T} {l : List tKd.T} (h : chkS ks l = 0) : (scoreL ks l).length = l.length := by rw [score_eq h, standL_len]
theorem wrap_u8s {a : Int} (h1 : 0 ≤ a) (h2 : a ≤ 255) : IntKind.i64.wrap a = a := by rw [IntKind.wrap_i64]; omega
noncomputable def lwRΓ : List (FuncId × Con) := (22, conS1) :: (24, conM1) :: lwsΓ
theorem lwRΓ_ok : ∀ p ∈ lwRΓ, (∀ (args : Array Value) (w : World), (callFunc p.1 args).run Tryz.prog w = .ok (.enter p.1 args) w) ∧ PureOk Tryz.prog p.1 p.2 := by
 simp only [lwRΓ, List.forall_mem_cons]
 exact ⟨⟨enters_of Tryz.func22 (by kernel_rfl) rfl, s1_ok⟩, ⟨enters_of Tryz.func24 (by kernel_rfl) rfl, m1_ok⟩, lwsΓ_ok⟩
noncomputable def lwRE : List (FuncId × ECon) := lwsE
theorem lwRE_ok : ∀ p ∈ lwRE, (∀ (args : Array Value) (w : World), (callFunc p.1 args).run Tryz.prog w = .ok (.enter p.1 args) w) ∧ EffOk Tryz.prog p.1 p.2 := by
 simp only [lwRE]
 exact lwsE_ok
noncomputable def lwRP : List (FuncId × PCon) := lwsP
theorem lwRP_ok : ∀ p ∈ lwRP, (∀ (args : Array Value) (w : World), (callFunc p.1 args).run Tryz.prog w = .ok (.enter p.1 args) w) ∧ PanOk Tryz.prog p.1 p.2 := by
 simp only [lwRP]
 exact lwsP_ok
noncomputable def lwR : G := { τ := lwT, Γ := lwRΓ, E := lwRE, Pn := lwRP }
theorem lwR_good : lwR.good Tryz.prog := good_of_all (lwT_ok _ rfl) lwRΓ_ok lwRE_ok lwRP_ok
theorem lwR_all : (∀ t, lwR.td t = (look lwT t).getD .other) ∧ lwR.y = false ∧ lwR.Γ = lwRΓ ∧ lwR.E = lwRE ∧ lwR.Pn = lwRP ∧ lwR.fz = [] := ⟨fun _ => rfl, rfl, rfl, rfl, rfl, rfl⟩
end Go.Am
