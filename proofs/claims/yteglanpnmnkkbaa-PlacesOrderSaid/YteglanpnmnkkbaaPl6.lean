/- The program of chapter 22: comparing, ranks. -/
import Derived.Test.YteglanpnmnkkbaaPl5
namespace Go.Am
set_option linter.unusedVariables false
set_option linter.unusedSimpArgs false
set_option maxHeartbeats 4000000
set_option maxRecDepth 20000
open Go.RowKit Go.Proofs
attribute [local simp] thenKD_normal thenKD_exit thenKD_goto thenKD_ret inBlockKD_normal inBlockKD_exit inBlockKD_goto inBlockKD_ret noGotoKD_normal noGotoKD_exit noGotoKD_goto noGotoKD_ret roundKD_normal roundKD_exit roundKD_goto roundKD_ret frzSlotsD_nil frzSlotsD_cons frzSlotD_eq yieldVCD_trace opVCD_eq vcOpsD_nil vcOpsD_cons vcAllD_zero vcAllD_succ allAtD_nil allAtD_cons readyAux edgA vcD_skip vcD_label vcD_exit vcD_goto vcD_ret vcD_region vcD_seq vcD_seqC vcD_cond vcCondD_bool vcD_block vcD_scope vcD_loop vcD_rangeFunc yieldOf isMem isMem0 keepE envLe St.le psE yieldAV round_td round_y round_Γ vI vB vS aI aB aS look getE oper opRV putE allOk okOps Op.operands Call.operands pEv qEv mEv constRV coe RV.av loadEv loadCs takeAt indexAddrEv fieldAddrEv binEv intEv arith unEv gcond pickEv argsEv callVal callEv capAV_mk lenArgs lenEv minEv extractEv convEv funcEv allBox bound sliceEv lookupEv TD.isBool allocEv boxEv storeEv spl plainTD appendEv appendArgs makeMapEv mapUpdateEv buildEv buildSliceEv fillSV zsvOf sizeTD Ty.parses parses_flats' coeA flats_length AV.good AV.cells AV.pure SV.pure av_int av_bool av_str av_slice av_cons av_fld0 av_fld1 av_fld2 av_fld3 av_fld4 Ty.of Ty.dflt Ty.parse Ty.flat Ty.zsv Ty.fld Ty.get Ty.off Ty.nfld Ty.size coeTy junk Blk.look argEnv resEv resOk resVs oneRV retOk frzAs frzAV frzL frzSV boxCaps boxCap SV.sig sigs RV.scalar AV.scalar SV.scalar nope effVCD_eq effOf SV.ids AV.ids dedup SV.ren AV.ren RV.ren idx outId mergeB Blk.pureB flats_pure flat_pure epsSlotsD_nil epsSlotsD_cons epsSlotD_eq allEp D.parts_fnOf fvParts retEff round_E av_fn G.ye isCutD_nil isCutD_cons firstReg_region firstReg_seq firstReg_skip firstReg_ret firstReg_label firstReg_exit firstReg_goto firstReg_cond firstReg_block firstReg_scope firstReg_loop firstReg_rf eptrOf_mk flOfD_nil flOfD_cons vcFlD_cons vcFlD_nil flPairs_nil flPairs_cons vcFrD_nil vcFrD_cons makeSliceEv vcCondD_ib fzEv unfl_flats isFz round_fz
attribute [local simp ←] flats_append

def itS : List (FuncId × ItCon) := [(48, itStands)]
theorem itS_known : KnownIt Try.prog itS := .cons stands1_ok .nil
theorem seq_stands (l : List (List Int)) (e : Int) (h : standOk l e) : seqOf itS 48 [⟨.slice tRow, l⟩, ⟨tI, e⟩] tStand (standL l e) := ⟨itStands, rfl, h, rfl⟩
noncomputable def pl11Γ : List (FuncId × Con) := (28, conDecide) :: (30, conStands) :: pl10Γ
theorem pl11Γ_ok : ∀ p ∈ pl11Γ, (∀ (args : Array Value) (w : World), (callFunc p.1 args).run Try.prog w = .ok (.enter p.1 args) w) ∧ PureOk Try.prog p.1 p.2 := by
  simp only [pl11Γ, List.forall_mem_cons]
  exact ⟨⟨enters_of Try.func28 (by kernel_rfl) rfl, decide_ok⟩, ⟨enters_of Try.func30 (by kernel_rfl) rfl, stands_ok⟩, pl10Γ_ok⟩
noncomputable def pl11E : List (FuncId × ECon) := (29, (conColS itS)) :: pl10E
theorem pl11E_ok : ∀ p ∈ pl11E, (∀ (args : Array Value) (w : World), (callFunc p.1 args).run Try.prog w = .ok (.enter p.1 args) w) ∧ EffOk Try.prog p.1 p.2 := by
  simp only [pl11E, List.forall_mem_cons]
  exact ⟨⟨enters_of Try.func29 (by kernel_rfl) rfl, (conColS_known itS itS_known)⟩, pl10E_ok⟩
noncomputable def pl11 : G := { τ := plT, Γ := pl11Γ, E := pl11E }
theorem pl11_good : pl11.good Try.prog := good_of_all (plT_ok _ rfl) pl11Γ_ok pl11E_ok
theorem pl11_td (t : TypeId) : pl11.td t = (look plT t).getD .other := rfl
theorem pl11_y : pl11.y = false := rfl
theorem pl11_Γ : pl11.Γ = pl11Γ := rfl
theorem pl11_E : pl11.E = pl11E := rfl
theorem pl11_fz : pl11.fz = [] := rfl
noncomputable def pl11y : G := { τ := plT, Γ := pl11Γ, E := pl11E, y := true }
theorem pl11y_good : pl11y.good Try.prog := good_of_all (plT_ok _ rfl) pl11Γ_ok pl11E_ok
theorem pl11y_td (t : TypeId) : pl11y.td t = (look plT t).getD .other := rfl
theorem pl11y_y : pl11y.y = true := rfl
theorem pl11y_Γ : pl11y.Γ = pl11Γ := rfl
theorem pl11y_E : pl11y.E = pl11E := rfl
theorem pl11y_fz : pl11y.fz = [] := rfl

/-- Ordinals are not less than 1. -/
theorem ord_range {row : List Int} (h : row = ordRow row) {n : Int} (hn : n ∈ row) : 1 ≤ n ∧ n ≤ row.length := by
  have hm : n ∈ ordRow row := h ▸ hn
  unfold ordRow at hm
  obtain ⟨x, hx, rfl⟩ := List.mem_map.1 hm
  have h1 : below x row < row.length := by
    unfold below
    rw [← List.countP_eq_length_filter]
    have h2 : row.countP (fun y => decide (y < x)) ≠ row.length := fun he => by
      have := List.countP_eq_length.1 he x hx
      simp at this
    have := List.countP_le_length (p := fun y => decide (y < x)) (l := row)
    omega
  omega
theorem standOk_of {l : List (List Int)} (h : checkErr l = 0) (h0 : 0 < l.length) {e : Int} (h1 : 0 ≤ e) (h2 : e < (l[0]?.getD []).length) : standOk l e := by
  obtain ⟨t, ho⟩ := checkErr_ok h
  obtain ⟨t1, t2, t3⟩ := tableErr_ok t
  have hm : l[0]?.getD [] ∈ l := by rw [getD_lt h0]; exact List.getElem_mem h0
  refine ⟨h0, t1, t2 _ hm, h1, fun row hr => ⟨by rw [t3 row hr]; exact h2, fun n hn => ?_⟩⟩
  have := ord_range (ho row hr) hn
  have := t2 row hr
  omega
theorem standL_small {l : List (List Int)} {e : Int} (h : standOk l e) : small (standL l e) := by
  obtain ⟨h1, h2, h3, h4, h5⟩ := h
  intro x hx
  unfold standL at hx
  obtain ⟨p, _, rfl⟩ := List.mem_map.1 hx
  have hc : ∀ n ∈ col l e, 1 ≤ n ∧ n ≤ 10000 := fun n hn => by
    rw [col, List.mem_map] at hn
    obtain ⟨row, hr, rfl⟩ := hn
    obtain ⟨q1, q2⟩ := h5 row hr
    rw [getD_lt (show e.toNat < row.length by omega)]
    exact q2 _ (List.getElem_mem _)
  have hl : (col l e).length = l.length := by simp [col]
  have hf := List.length_filter_le (fun x => decide (x ≤ (p : Int) + 1)) (col l e)
  have hs := sum_le ((col l e).filter fun x => decide (x ≤ (p : Int) + 1)) (fun n hn => hc n (List.mem_filter.1 hn).1)
  unfold stP
  split
  · exact ⟨⟨by decide, by decide⟩, ⟨by decide, by decide⟩⟩
  · have q1 : -1000000000000 ≤ ((((col l e).filter fun x => decide (x ≤ (p : Int) + 1)).length : Nat) : Int) ∧ ((((col l e).filter fun x => decide (x ≤ (p : Int) + 1)).length : Nat) : Int) ≤ 1000000000000 := by omega
    have q2 : -1000000000000 ≤ ((col l e).filter fun x => decide (x ≤ (p : Int) + 1)).sum ∧ ((col l e).filter fun x => decide (x ≤ (p : Int) + 1)).sum ≤ 1000000000000 := by omega
    exact ⟨q1, q2⟩

/-- Compare. -/
def cmpErr (l : List (List Int)) (a b : Int) : Int := if checkErr l ≠ 0 then checkErr l else if (l = [] ∨ (if b < a then b else a) < 0) ∨ ((l[0]?.getD []).length : Int) ≤ (if a < b then b else a) then 1 else 0
def cmpV (l : List (List Int)) (a b : Int) : Int := if cmpErr l a b = 0 then dec (standL l a) (standL l b) else 0
theorem cmpErr_1 {l : List (List Int)} {a b : Int} (h : ¬ checkErr l = 0) : cmpErr l a b = checkErr l := if_pos h
theorem cmpErr_2 {l : List (List Int)} {a b : Int} (h : checkErr l = 0) (h' : (l = [] ∨ (if b < a then b else a) < 0) ∨ ((l[0]?.getD []).length : Int) ≤ (if a < b then b else a)) : cmpErr l a b = 1 := by
  rw [cmpErr, if_neg (by simp [h]), if_pos h']
theorem cmpErr_3 {l : List (List Int)} {a b : Int} (h : checkErr l = 0) (h' : ¬ ((l = [] ∨ (if b < a then b else a) < 0) ∨ ((l[0]?.getD []).length : Int) ≤ (if a < b then b else a))) : cmpErr l a b = 0 := by
  rw [cmpErr, if_neg (by simp [h]), if_neg h']
theorem cmpErr_ok {l : List (List Int)} {a b : Int} (h : cmpErr l a b = 0) : checkErr l = 0 ∧ 0 < l.length ∧ (0 ≤ a ∧ a < (l[0]?.getD []).length) ∧ (0 ≤ b ∧ b < (l[0]?.getD []).length) := by
  by_cases h1 : checkErr l = 0
  · by_cases h2 : (l = [] ∨ (if b < a then b else a) < 0) ∨ ((l[0]?.getD []).length : Int) ≤ (if a < b then b else a)
    · rw [cmpErr_2 h1 h2] at h; cases h
    · simp only [not_or] at h2
      obtain ⟨⟨h2, h3⟩, h4⟩ := h2
      refine ⟨h1, List.length_pos_iff.2 h2, ?_, ?_⟩
      · constructor <;> split at h3 <;> split at h4 <;> omega
      · constructor <;> split at h3 <;> split at h4 <;> omega
  · rw [cmpErr_1 h1] at h; exact absurd h h1
noncomputable def conCompare : Con := ⟨fun args => (match args with
  | [.s (.sl (.slice (.int .i64)) l _), .s (.int .i64 a), .s (.int .i64 b)] => True
  | _ => False), fun args => match args with
  | [.s (.sl (.slice (.int .i64)) l _), .s (.int _ a), .s (.int _ b)] => .tup [aI (cmpV l a b), aI (cmpErr l a b)]
  | _ => .v (.s .any)⟩
theorem conCompare_pre (l : List (Ty.T (.slice (.int .i64)))) (exl : Bool) (a : Int) (b : Int) : conCompare.pre [.s (.sl (.slice (.int .i64)) l exl), .s (.int .i64 a), .s (.int .i64 b)] = (True) := rfl
theorem conCompare_val (l : List (Ty.T (.slice (.int .i64)))) (exl : Bool) (a : Int) (b : Int) : conCompare.val [.s (.sl (.slice (.int .i64)) l exl), .s (.int .i64 a), .s (.int .i64 b)] = .tup [aI (cmpV l a b), aI (cmpErr l a b)] := rfl
theorem compare_ok : PureOk Try.prog 13 conCompare := by
  refine pureOkD (L := { live := [0, 1, 2, 6, 7, 8, 12, 32], fin := [(6, [(4, [36]), (8, [40])])] }) pl11_good rfl pl_mixed Try.func13 rfl conCompare 3 (by decide) (by kernel_rfl) ?_
  intro args hpre hlens
  simp only [conCompare] at hpre
  split at hpre
  case h_2 => exact hpre.elim
  rename_i l ex a b
  simp only [allLen, AV.lenOk, SV.lenOk, Ty.lenOk, maxLen, and_true, implies_true, true_and] at hlens
  refine ⟨rfl, ?_⟩
  simp -dsimp -implicitDefEqProofs [Try.f13, conCompare_val, pl11_td, pl11_y, pl11_Γ, pl11_E, pl11_fz, plT, pl11Γ, pl11E, pl10Γ, pl10E, pl9Γ, pl9E, pl8Γ, pl8E, pl7Γ, pl7E, pl6Γ, pl6E, pl5Γ, pl5E, pl4Γ, pl4E, pl3Γ, pl3E, pl2Γ, pl2E, pl1Γ, pl1E, pl0Γ, pl0E, conDecide_pre, conDecide_val, conStands_pre, conStands_val, conColS, conOrdinals_pre, conOrdinals_val, conMapRI, conCheck_pre, conCheck_val, conMapRR_pre, conMapRR_val, conCont_pre, conCont_val, conTable_pre, conTable_val, conEqual_pre, conEqual_val, conPlaced_pre, conPlaced_val, conMapII_pre, conMapII_val, conSorted, conBin_pre, conBin_val, conValues_pre, conValues_val, conColI, conSort, conLess_pre, conLess_val, conNaN_pre, conNaN_val, inI64]
  refine ⟨fun h => ?_, fun h => ⟨fun h1 h2 => ⟨⟨h1, h2⟩, List.length_pos_iff.2 h1⟩, fun h1 => ?_, fun h1 h2 h3 => ?_⟩⟩
  · have := cmpErr_1 (a := a) (b := b) h
    exact ⟨by rw [cmpV, if_neg (by rw [this]; exact h)], this.symm⟩
  · have := cmpErr_2 h h1
    exact ⟨by rw [cmpV, if_neg (by rw [this]; decide)], this.symm⟩
  · have he : cmpErr l a b = 0 := cmpErr_3 h (by rintro ((q | q) | q); exact h1 q; omega; omega)
    obtain ⟨_, k0, ⟨k1, k2⟩, ⟨k3, k4⟩⟩ := cmpErr_ok he
    have oa := standOk_of h k0 k1 k2
    have ob := standOk_of h k0 k3 k4
    have la := standL_len l a
    have lb := standL_len l b
    have hb := oa.2.2.1
    exact ⟨standL l a, seq_stands l a oa, by omega, _, rfl, rfl, standL l b, seq_stands l b ob, by omega, _, rfl, rfl, ⟨by omega, by omega, standL_small oa, standL_small ob⟩, by rw [cmpV, if_pos he], he.symm⟩

/-- slices.Clone. -/
def conClone : ECon := { wp := fun args hp K => match args, hp with
  | [.s (.sl (.slice (.cons (.int .i64) (.cons (.int .i64) .nil))) xs _)], [] => xs.length ≤ 1000000 ∧ (xs = [] → K (.v (.s (.sl (.slice tStand) [] true))) []) ∧ K (.v (.s (.own (.slice tStand) 0 xs.length))) [.arr (decide (0 < xs.length)) ((Ty.slice tStand).flats xs)]
  | _, _ => False }
theorem clone_ok : EffOk Try.prog 33 conClone := by
  refine effOkD (L := { live := [0, 2, 4] }) pl0_good rfl pl_mixed Try.func33 rfl conClone 1 (by decide) (by kernel_rfl) ?_
  intro args hp K hpre hlens
  simp only [conClone] at hpre
  split at hpre
  case h_2 => exact hpre.elim
  rename_i xs ex
  skip
  refine ⟨rfl, ?_⟩
  simp -dsimp -implicitDefEqProofs [Try.f33, pl0_td, pl0_y, pl0_Γ, pl0_E, pl0_fz, plT, pl0Γ, pl0E, inI64]
  obtain ⟨hl, h1, h2⟩ := hpre
  refine ⟨h1, ⟨by omega, by simp only [maxLen]; omega⟩, ?_⟩
  cases xs with
  | nil => exact h2
  | cons x xs => simpa using h2

/-- What holds of the first ones alone. -/
def cntP {α : Type} (p : α → Bool) (xs : List α) : Nat := (xs.filter p).length
theorem cntP_le {α : Type} (p : α → Bool) (xs : List α) : cntP p xs ≤ xs.length := List.length_filter_le ..
theorem cntP_at {α : Type} {p : α → Bool} {xs : List α} (hs : xs.Pairwise (fun a b => p b = true → p a = true)) {i : Nat} (hi : i < xs.length) (d : α) : p (xs[i]?.getD d) = true ↔ i < cntP p xs := by
  rw [getD_lt hi]
  have hm : ∀ j k, (hjk : j ≤ k) → (hk : k < xs.length) → p xs[k] = true → p (xs[j]'(by omega)) = true := fun j k hjk hk => by
    rcases Nat.lt_or_eq_of_le hjk with h | rfl
    · exact List.pairwise_iff_getElem.1 hs j k (by omega) hk h
    · exact id
  have hsp : ∀ n, cntP p xs = cntP p (xs.take n) + cntP p (xs.drop n) := fun n => by
    unfold cntP; rw [← List.length_append, ← List.filter_append, List.take_append_drop]
  constructor
  · intro h
    have h1 : cntP p (xs.take (i + 1)) = i + 1 := by
      unfold cntP
      rw [List.filter_eq_self.2, List.length_take]
      · omega
      · intro x hx
        obtain ⟨j, hj, rfl⟩ := List.mem_iff_getElem.1 hx
        rw [List.length_take] at hj
        rw [List.getElem_take]
        exact hm j i (by omega) hi h
    have := hsp (i + 1)
    omega
  · intro h
    apply Classical.byContradiction
    intro hne
    have h1 : cntP p (xs.drop i) = 0 := by
      unfold cntP
      rw [List.length_eq_zero_iff, List.filter_eq_nil_iff]
      intro x hx hp
      obtain ⟨j, hj, rfl⟩ := List.mem_iff_getElem.1 hx
      rw [List.length_drop] at hj
      rw [List.getElem_drop] at hp
      exact hne (hm i (i + j) (by omega) (by omega) hp)
    have h3 := cntP_le p (xs.take i)
    rw [List.length_take] at h3
    have := hsp i
    omega
/-- slices.BinarySearchFunc by decide, in what is sorted. -/
def decN (xs : List (List Sd)) (t : List Sd) : Nat := (xs.filter fun x => decide (dec x t < 0)).length
noncomputable def conBinF : Con := ⟨fun args => (match args with
  | [.s (.sl (.slice (.cons (.int .i64) (.cons (.int .i64) .nil))) xs _), .s (.sl (.cons (.int .i64) (.cons (.int .i64) .nil)) t _), .s (.fnp f caps)] => f = 28 ∧ caps = [] ∧ xs.length ≤ 1000000 ∧ xs.Pairwise (fun x y => dec y t < 0 → dec x t < 0) ∧ t.length ≤ 1000000 ∧ small t ∧ ∀ x ∈ xs, x.length = t.length ∧ small x
  | _ => False), fun args => match args with
  | [.s (.sl (.slice (.cons (.int .i64) (.cons (.int .i64) .nil))) xs _), .s (.sl (.cons (.int .i64) (.cons (.int .i64) .nil)) t _), .s (.fnp f caps)] => .tup [aI (decN xs t), aB (decide (decN xs t < xs.length) && decide (dec (xs[decN xs t]?.getD []) t = 0))]
  | _ => .v (.s .any)⟩
theorem conBinF_pre (xs : List (Ty.T (.slice (.cons (.int .i64) (.cons (.int .i64) .nil))))) (exxs : Bool) (t : List (Ty.T (.cons (.int .i64) (.cons (.int .i64) .nil)))) (ext : Bool) (f : FuncId) (caps : List (Sigma Ty.T)) : conBinF.pre [.s (.sl (.slice (.cons (.int .i64) (.cons (.int .i64) .nil))) xs exxs), .s (.sl (.cons (.int .i64) (.cons (.int .i64) .nil)) t ext), .s (.fnp f caps)] = (f = 28 ∧ caps = [] ∧ xs.length ≤ 1000000 ∧ xs.Pairwise (fun x y => dec y t < 0 → dec x t < 0) ∧ t.length ≤ 1000000 ∧ small t ∧ ∀ x ∈ xs, x.length = t.length ∧ small x) := rfl
theorem conBinF_val (xs : List (Ty.T (.slice (.cons (.int .i64) (.cons (.int .i64) .nil))))) (exxs : Bool) (t : List (Ty.T (.cons (.int .i64) (.cons (.int .i64) .nil)))) (ext : Bool) (f : FuncId) (caps : List (Sigma Ty.T)) : conBinF.val [.s (.sl (.slice (.cons (.int .i64) (.cons (.int .i64) .nil))) xs exxs), .s (.sl (.cons (.int .i64) (.cons (.int .i64) .nil)) t ext), .s (.fnp f caps)] = .tup [aI (decN xs t), aB (decide (decN xs t < xs.length) && decide (dec (xs[decN xs t]?.getD []) t = 0))] := rfl
theorem binF_ok : PureOk Try.prog 37 conBinF := by
  refine pureOkD (L := { live := [0, 1, 2, 6, 7, 8, 9, 10, 11, 17, 31] }) pl11_good rfl pl_mixed Try.func37 rfl conBinF 3 (by decide) (by kernel_rfl) ?_
  intro args hpre hlens
  simp only [conBinF] at hpre
  split at hpre
  case h_2 => exact hpre.elim
  rename_i xs ex t ex' f caps
  simp only [allLen, AV.lenOk, SV.lenOk, Ty.lenOk, maxLen, and_true, implies_true, true_and] at hlens
  obtain ⟨rfl, rfl, hl, hpw, ht1, ht2, hx⟩ := hpre
  refine ⟨rfl, ?_⟩
  simp -dsimp -implicitDefEqProofs [Try.f37, conBinF_val, pl11_td, pl11_y, pl11_Γ, pl11_E, pl11_fz, plT, pl11Γ, pl11E, pl10Γ, pl10E, pl9Γ, pl9E, pl8Γ, pl8E, pl7Γ, pl7E, pl6Γ, pl6E, pl5Γ, pl5E, pl4Γ, pl4E, pl3Γ, pl3E, pl2Γ, pl2E, pl1Γ, pl1E, pl0Γ, pl0E, conDecide_pre, conDecide_val, conStands_pre, conStands_val, conColS, conOrdinals_pre, conOrdinals_val, conMapRI, conCheck_pre, conCheck_val, conMapRR_pre, conMapRR_val, conCont_pre, conCont_val, conTable_pre, conTable_val, conEqual_pre, conEqual_val, conPlaced_pre, conPlaced_val, conMapII_pre, conMapII_val, conSorted, conBin_pre, conBin_val, conValues_pre, conValues_val, conColI, conSort, conLess_pre, conLess_val, conNaN_pre, conNaN_val, inI64]
  have hle : decN xs t ≤ xs.length := List.length_filter_le ..
  have hat := fun (i : Nat) (hi : i < xs.length) => cntP_at (p := fun x => decide (dec x t < 0)) (xs := xs) (hpw.imp fun h => by simpa using h) hi []
  simp only [decide_eq_true_eq] at hat
  change ∀ i, i < xs.length → (dec (xs[i]?.getD []) t < 0 ↔ i < decN xs t) at hat
  have hxi : ∀ i, i < xs.length → (xs[i]?.getD []).length = t.length ∧ small (xs[i]?.getD []) := fun i hi => by rw [getD_lt hi]; exact hx _ (List.getElem_mem hi)
  refine WpD.loop (L := { live := [0, 1, 2, 6, 7, 8, 9, 10, 11, 17, 31] }) pl11_good X0_ok pl_mixed (by kernel_rfl)
    (fun p : Nat × Nat => ⟨[(0, vS (.slice tStand) xs ex), (1, vS tStand t ex'), (2, ⟨true, .v (.s (.fnp 28 []))⟩), (8, vI xs.length), (9, vI p.1), (10, vI p.2)], []⟩)
    (fun p => p.1 ≤ decN xs t ∧ decN xs t ≤ p.2 ∧ p.2 ≤ xs.length) (fun p => p.2 - p.1) (0, xs.length) ⟨Nat.zero_le _, hle, Nat.le_refl _⟩ (Turn.le (by simp -dsimp -implicitDefEqProofs)) ?_
  rintro ⟨i, j⟩ ⟨h1, h2, h3⟩
  simp only at h1 h2 h3
  have hh := half_u64 (a := i) (b := j) (by omega)
  obtain ⟨m, hm⟩ : ∃ m : Nat, m = (i + j) / 2 := ⟨_, rfl⟩
  rw [← hm] at hh
  simp -dsimp -implicitDefEqProofs [hh, conBinF_val, pl11_td, pl11_y, pl11_Γ, pl11_E, pl11_fz, plT, pl11Γ, pl11E, pl10Γ, pl10E, pl9Γ, pl9E, pl8Γ, pl8E, pl7Γ, pl7E, pl6Γ, pl6E, pl5Γ, pl5E, pl4Γ, pl4E, pl3Γ, pl3E, pl2Γ, pl2E, pl1Γ, pl1E, pl0Γ, pl0E, conDecide_pre, conDecide_val, conStands_pre, conStands_val, conColS, conOrdinals_pre, conOrdinals_val, conMapRI, conCheck_pre, conCheck_val, conMapRR_pre, conMapRR_val, conCont_pre, conCont_val, conTable_pre, conTable_val, conEqual_pre, conEqual_val, conPlaced_pre, conPlaced_val, conMapII_pre, conMapII_val, conSorted, conBin_pre, conBin_val, conValues_pre, conValues_val, conColI, conSort, conLess_pre, conLess_val, conNaN_pre, conNaN_val, inI64]
  refine ⟨fun hij => ?_, fun hji => ?_⟩
  · have hml : m < xs.length := by omega
    obtain ⟨x1, x2⟩ := hxi m hml
    refine ⟨⟨by omega, by omega⟩, hml, ⟨Nat.le_of_eq x1, by omega, x2, ht2⟩, fun hlt => ⟨⟨by omega, by omega⟩, m + 1, j, ⟨?_, h2, h3⟩, by omega, TurnT.le (by simp -dsimp -implicitDefEqProofs)⟩, fun hge => ⟨i, m, ⟨h1, ?_, by omega⟩, by omega, TurnT.le (by simp -dsimp -implicitDefEqProofs)⟩⟩
    · exact (hat m hml).1 hlt
    · have := mt (hat m hml).2 (Int.not_lt.2 hge); omega
  · have hi : i = decN xs t := by omega
    subst hi
    refine ⟨fun hlt => ⟨hlt, ?_⟩, rfl, ?_⟩
    · obtain ⟨x1, x2⟩ := hxi _ hlt
      exact ⟨Nat.le_of_eq x1, by omega, x2, ht2⟩
    · rw [Bool.eq_iff_iff]; simp

/-- decide orders. -/
theorem sgn_cases (c : Int) : (c < 0 ∧ sgn c = -1) ∨ (c = 0 ∧ sgn c = 0) ∨ (0 < c ∧ sgn c = 1) := by
  unfold sgn
  by_cases h1 : -1 < c
  · rw [if_pos h1]
    by_cases h2 : c < 1
    · rw [if_pos h2]; omega
    · rw [if_neg h2]; omega
  · rw [if_neg h1, if_pos (by decide)]; omega
theorem sgn_neg (c : Int) : sgn c < 0 ↔ c < 0 := by have := sgn_cases c; omega
theorem sgn_le (c : Int) : sgn c ≤ 0 ↔ c ≤ 0 := by have := sgn_cases c; omega
theorem sgn_odd {c d : Int} (h : d = -c) : sgn d = - sgn c := by have := sgn_cases c; have := sgn_cases d; omega
theorem dec_neg_cons (x y : Sd) (a b : List Sd) : dec (x :: a) (y :: b) < 0 ↔ (y.1 < x.1) ∨ (x.1 = y.1 ∧ (x.2.1 < y.2.1 ∨ (x.2.1 = y.2.1 ∧ dec a b < 0))) := by
  simp only [dec]
  split
  · rw [sgn_neg]; omega
  · split
    · rw [sgn_neg]; omega
    · omega
theorem dec_le_cons (x y : Sd) (a b : List Sd) : dec (x :: a) (y :: b) ≤ 0 ↔ (y.1 < x.1) ∨ (x.1 = y.1 ∧ (x.2.1 < y.2.1 ∨ (x.2.1 = y.2.1 ∧ dec a b ≤ 0))) := by
  simp only [dec]
  split
  · rw [sgn_le]; omega
  · split
    · rw [sgn_le]; omega
    · omega
theorem dec_self : ∀ a : List Sd, dec a a = 0
  | [] => rfl
  | x :: a => by simp [dec, dec_self a]
theorem dec_anti : ∀ a b : List Sd, dec b a = - dec a b
  | [], [] => rfl
  | [], _ :: _ => rfl
  | _ :: _, [] => rfl
  | x :: a, y :: b => by
    have ih := dec_anti a b
    simp only [dec]
    by_cases h1 : x.1 = y.1
    · by_cases h2 : x.2.1 = y.2.1
      · rw [if_neg (by simp [h1]), if_neg (by simp [h2]), if_neg (by simp [h1]), if_neg (by simp [h2])]; exact ih
      · rw [if_neg (by simp [h1]), if_pos (Ne.symm h2), if_neg (by simp [h1]), if_pos h2]; exact sgn_odd (by omega)
    · rw [if_pos (Ne.symm h1), if_pos h1]; exact sgn_odd (by omega)
theorem dec_trans : ∀ a b c : List Sd, a.length = b.length → b.length = c.length → dec a b ≤ 0 → dec b c ≤ 0 → dec a c ≤ 0 ∧ (dec a b < 0 ∨ dec b c < 0 → dec a c < 0)
  | [], [], [], _, _, _, _ => ⟨by simp [dec], by simp [dec]⟩
  | [], [], _ :: _, _, h, _, _ => by simp at h
  | [], _ :: _, _, h, _, _, _ => by simp at h
  | _ :: _, [], _, h, _, _, _ => by simp at h
  | _ :: _, _ :: _, [], _, h, _, _ => by simp at h
  | x :: a, y :: b, z :: c, h1, h2, h3, h4 => by
    have ih := dec_trans a b c (by simpa using h1) (by simpa using h2)
    rw [dec_le_cons] at h3 h4
    rw [dec_le_cons, dec_neg_cons, dec_neg_cons, dec_neg_cons]
    omega

/-- The ranks. -/
def majOk (s : List (List Sd)) (x : List Sd) : Prop := s.length ≤ 1000000 ∧ s.Pairwise (fun a b => dec b x < 0 → dec a x < 0) ∧ x.length ≤ 1000000 ∧ small x ∧ ∀ y ∈ s, y.length = x.length ∧ small y
noncomputable def pl12Γ : List (FuncId × Con) := (37, conBinF) :: (13, conCompare) :: pl11Γ
theorem pl12Γ_ok : ∀ p ∈ pl12Γ, (∀ (args : Array Value) (w : World), (callFunc p.1 args).run Try.prog w = .ok (.enter p.1 args) w) ∧ PureOk Try.prog p.1 p.2 := by
  simp only [pl12Γ, List.forall_mem_cons]
  exact ⟨⟨enters_of Try.func37 (by kernel_rfl) rfl, binF_ok⟩, ⟨enters_of Try.func13 (by kernel_rfl) rfl, compare_ok⟩, pl11Γ_ok⟩
noncomputable def pl12E : List (FuncId × ECon) := (33, conClone) :: pl11E
theorem pl12E_ok : ∀ p ∈ pl12E, (∀ (args : Array Value) (w : World), (callFunc p.1 args).run Try.prog w = .ok (.enter p.1 args) w) ∧ EffOk Try.prog p.1 p.2 := by
  simp only [pl12E, List.forall_mem_cons]
  exact ⟨⟨enters_of Try.func33 (by kernel_rfl) rfl, clone_ok⟩, pl11E_ok⟩
noncomputable def pl12 : G := { τ := plT, Γ := pl12Γ, E := pl12E }
theorem pl12_good : pl12.good Try.prog := good_of_all (plT_ok _ rfl) pl12Γ_ok pl12E_ok
theorem pl12_td (t : TypeId) : pl12.td t = (look plT t).getD .other := rfl
theorem pl12_y : pl12.y = false := rfl
theorem pl12_Γ : pl12.Γ = pl12Γ := rfl
theorem pl12_E : pl12.E = pl12E := rfl
theorem pl12_fz : pl12.fz = [] := rfl
noncomputable def pl12y : G := { τ := plT, Γ := pl12Γ, E := pl12E, y := true }
theorem pl12y_good : pl12y.good Try.prog := good_of_all (plT_ok _ rfl) pl12Γ_ok pl12E_ok
theorem pl12y_td (t : TypeId) : pl12y.td t = (look plT t).getD .other := rfl
theorem pl12y_y : pl12y.y = true := rfl
theorem pl12y_Γ : pl12y.Γ = pl12Γ := rfl
theorem pl12y_E : pl12y.E = pl12E := rfl
theorem pl12y_fz : pl12y.fz = [] := rfl
noncomputable def conMaj1 : Con := ⟨fun args => (match args with
  | [.s (.sl (.cons (.int .i64) (.cons (.int .i64) .nil)) x _), .s (.eptr (.slice (.slice (.cons (.int .i64) (.cons (.int .i64) .nil)))) s)] => majOk s x
  | _ => False), fun args => match args with
  | [.s (.sl (.cons (.int .i64) (.cons (.int .i64) .nil)) x _), .s (.eptr (.slice (.slice (.cons (.int .i64) (.cons (.int .i64) .nil)))) s)] => .v (aI (decN s x + 1))
  | _ => .v (.s .any)⟩
theorem conMaj1_pre (x : List (Ty.T (.cons (.int .i64) (.cons (.int .i64) .nil)))) (exx : Bool) (s : Ty.T (.slice (.slice (.cons (.int .i64) (.cons (.int .i64) .nil))))) : conMaj1.pre [.s (.sl (.cons (.int .i64) (.cons (.int .i64) .nil)) x exx), .s (.eptr (.slice (.slice (.cons (.int .i64) (.cons (.int .i64) .nil)))) s)] = (majOk s x) := rfl
theorem conMaj1_val (x : List (Ty.T (.cons (.int .i64) (.cons (.int .i64) .nil)))) (exx : Bool) (s : Ty.T (.slice (.slice (.cons (.int .i64) (.cons (.int .i64) .nil))))) : conMaj1.val [.s (.sl (.cons (.int .i64) (.cons (.int .i64) .nil)) x exx), .s (.eptr (.slice (.slice (.cons (.int .i64) (.cons (.int .i64) .nil)))) s)] = .v (aI (decN s x + 1)) := rfl
theorem maj1_ok : PureOk Try.prog 36 conMaj1 := by
  refine pureOkD (L := { live := [0, 1, 3, 4] }) pl12_good rfl pl_mixed Try.func36 rfl conMaj1 2 (by decide) (by kernel_rfl) ?_
  intro args hpre hlens
  simp only [conMaj1] at hpre
  split at hpre
  case h_2 => exact hpre.elim
  rename_i x ex s
  simp only [allLen, AV.lenOk, SV.lenOk, Ty.lenOk, maxLen, and_true, implies_true, true_and] at hlens
  refine ⟨rfl, ?_⟩
  simp -dsimp -implicitDefEqProofs [Try.f36, conMaj1_val, pl12_td, pl12_y, pl12_Γ, pl12_E, pl12_fz, plT, pl12Γ, pl12E, pl11Γ, pl11E, pl10Γ, pl10E, pl9Γ, pl9E, pl8Γ, pl8E, pl7Γ, pl7E, pl6Γ, pl6E, pl5Γ, pl5E, pl4Γ, pl4E, pl3Γ, pl3E, pl2Γ, pl2E, pl1Γ, pl1E, pl0Γ, pl0E, conBinF_pre, conBinF_val, conCompare_pre, conCompare_val, conClone, conDecide_pre, conDecide_val, conStands_pre, conStands_val, conColS, conOrdinals_pre, conOrdinals_val, conMapRI, conCheck_pre, conCheck_val, conMapRR_pre, conMapRR_val, conCont_pre, conCont_val, conTable_pre, conTable_val, conEqual_pre, conEqual_val, conPlaced_pre, conPlaced_val, conMapII_pre, conMapII_val, conSorted, conBin_pre, conBin_val, conValues_pre, conValues_val, conColI, conSort, conLess_pre, conLess_val, conNaN_pre, conNaN_val, inI64]
  obtain ⟨h1, h2, h3, h4, h5⟩ := hpre
  have : decN s x ≤ s.length := List.length_filter_le ..
  exact ⟨⟨h1, h2, h3, h4, h5⟩, by omega, by omega⟩
noncomputable def gSI : List (FuncId × Con) := [(36, conMaj1)]
theorem gSI_known : Known Try.prog gSI := .cons (enters_of Try.func36 (by kernel_rfl) rfl) maj1_ok .nil
theorem fn_maj1 (s : List (List Sd)) : fnTo gSI (.slice tStand) tI 36 [⟨.slice (.slice tStand), s⟩] (fun x => (decN s x : Int) + 1) (majOk s) := ⟨conMaj1, rfl, fun _ => rfl, fun _ h => h⟩
theorem map_maj1 (s xs : List (List Sd)) : mapV gSI (.slice tStand) tI 36 [⟨.slice (.slice tStand), s⟩] xs = xs.map fun x => (decN s x : Int) + 1 := mapV_eq (by decide) (fn_maj1 s) xs
noncomputable def gDec : List (FuncId × Con) := [(28, conDecide)]
theorem gDec_known : Known Try.prog gDec := .cons (enters_of Try.func28 (by kernel_rfl) rfl) decide_ok .nil
noncomputable def pl13Γ : List (FuncId × Con) := (35, (conMapSI gSI)) :: pl12Γ
theorem pl13Γ_ok : ∀ p ∈ pl13Γ, (∀ (args : Array Value) (w : World), (callFunc p.1 args).run Try.prog w = .ok (.enter p.1 args) w) ∧ PureOk Try.prog p.1 p.2 := by
  simp only [pl13Γ, List.forall_mem_cons]
  exact ⟨⟨enters_of Try.func35 (by kernel_rfl) rfl, (conMapSI_known gSI gSI_known)⟩, pl12Γ_ok⟩
noncomputable def pl13E : List (FuncId × ECon) := (34, (conSortF gDec)) :: pl12E
theorem pl13E_ok : ∀ p ∈ pl13E, (∀ (args : Array Value) (w : World), (callFunc p.1 args).run Try.prog w = .ok (.enter p.1 args) w) ∧ EffOk Try.prog p.1 p.2 := by
  simp only [pl13E, List.forall_mem_cons]
  exact ⟨⟨enters_of Try.func34 (by kernel_rfl) rfl, (sortF_eff Try.laySortF gDec gDec_known)⟩, pl12E_ok⟩
noncomputable def pl13 : G := { τ := plT, Γ := pl13Γ, E := pl13E }
theorem pl13_good : pl13.good Try.prog := good_of_all (plT_ok _ rfl) pl13Γ_ok pl13E_ok
theorem pl13_td (t : TypeId) : pl13.td t = (look plT t).getD .other := rfl
theorem pl13_y : pl13.y = false := rfl
theorem pl13_Γ : pl13.Γ = pl13Γ := rfl
theorem pl13_E : pl13.E = pl13E := rfl
theorem pl13_fz : pl13.fz = [] := rfl
noncomputable def pl13y : G := { τ := plT, Γ := pl13Γ, E := pl13E, y := true }
theorem pl13y_good : pl13y.good Try.prog := good_of_all (plT_ok _ rfl) pl13Γ_ok pl13E_ok
theorem pl13y_td (t : TypeId) : pl13y.td t = (look plT t).getD .other := rfl
theorem pl13y_y : pl13y.y = true := rfl
theorem pl13y_Γ : pl13y.Γ = pl13Γ := rfl
theorem pl13y_E : pl13y.E = pl13E := rfl
theorem pl13y_fz : pl13y.fz = [] := rfl
def allTo (l : List (List Int)) (i : Nat) : List (List Sd) := (List.range i).map fun k : Nat => standL l (k : Int)
theorem allTo_succ (l : List (List Int)) (i : Nat) : allTo l (i + 1) = allTo l i ++ [standL l (i : Int)] := by simp [allTo, List.range_succ]
theorem allTo_len (l : List (List Int)) (i : Nat) : (allTo l i).length = i := by simp [allTo]
def majL (l : List (List Int)) : List Int := if checkErr l = 0 ∧ l ≠ [] then (allTo l (l[0]?.getD []).length).map fun x => (decN (allTo l (l[0]?.getD []).length) x : Int) + 1 else []
theorem allTo_mem {l : List (List Int)} (hs : ∀ e : Int, 0 ≤ e → e < (l[0]?.getD []).length → standOk l e) {x : List Sd} (hx : x ∈ allTo l (l[0]?.getD []).length) : x.length = (l[0]?.getD []).length ∧ small x := by
  unfold allTo at hx
  obtain ⟨k, hk, rfl⟩ := List.mem_map.1 hx
  have := List.mem_range.1 hk
  exact ⟨standL_len l k, standL_small (hs k (by omega) (by omega))⟩
theorem decN_perm {xs ys : List (List Sd)} (h : ys.Perm xs) (t : List Sd) : decN ys t = decN xs t := (h.filter _).length_eq
theorem majOk_of {all ys : List (List Sd)} {n : Nat} (hn : n ≤ 4096) (hl : all.length ≤ 4096) (hall : ∀ x ∈ all, x.length = n ∧ small x) (hp : ys.Perm all) (hpw : ys.Pairwise fun x y => 0 ≤ dec y x) {x : List Sd} (hx : x ∈ all) : majOk ys x := by
  obtain ⟨x1, x2⟩ := hall x hx
  refine ⟨by rw [hp.length_eq]; omega, ?_, by omega, x2, fun y hy => ?_⟩
  · refine List.Pairwise.imp_of_mem ?_ hpw
    intro a b ha hb h0 hlt
    have ha' := hall a (hp.mem_iff.1 ha)
    have hb' := hall b (hp.mem_iff.1 hb)
    have := dec_anti a b
    exact (dec_trans a b x (by omega) (by omega) (by omega) (by omega)).2 (.inr hlt)
  · obtain ⟨y1, y2⟩ := hall y (hp.mem_iff.1 hy)
    exact ⟨by omega, y2⟩
noncomputable def conMajority : Con := ⟨fun args => (match args with
  | [.s (.sl (.slice (.int .i64)) l _)] => True
  | _ => False), fun args => match args with
  | [.s (.sl (.slice (.int .i64)) l _)] => .tup [aS tI (majL l) false, aI (checkErr l)]
  | _ => .v (.s .any)⟩
theorem conMajority_pre (l : List (Ty.T (.slice (.int .i64)))) (exl : Bool) : conMajority.pre [.s (.sl (.slice (.int .i64)) l exl)] = (True) := rfl
theorem conMajority_val (l : List (Ty.T (.slice (.int .i64)))) (exl : Bool) : conMajority.val [.s (.sl (.slice (.int .i64)) l exl)] = .tup [aS tI (majL l) false, aI (checkErr l)] := rfl
theorem majority_ok : PureOk Try.prog 15 conMajority := by
  refine pureOkD (L := { live := [0, 2, 3, 4, 5, 6, 7, 16, 21, 22, 23], fin := [(8, [(5, [29])])], frz := [(10, [5]), (12, [7])], eps := [(12, [7])] }) pl13_good rfl pl_mixed Try.func15 rfl conMajority 1 (by decide) (by kernel_rfl) ?_
  intro args hpre hlens
  simp only [conMajority] at hpre
  split at hpre
  case h_2 => exact hpre.elim
  rename_i l ex
  simp only [allLen, AV.lenOk, SV.lenOk, Ty.lenOk, maxLen, and_true, implies_true, true_and] at hlens
  refine ⟨rfl, ?_⟩
  simp -dsimp -implicitDefEqProofs [Try.f15, conMajority_val, pl13_td, pl13_y, pl13_Γ, pl13_E, pl13_fz, plT, pl13Γ, pl13E, pl12Γ, pl12E, pl11Γ, pl11E, pl10Γ, pl10E, pl9Γ, pl9E, pl8Γ, pl8E, pl7Γ, pl7E, pl6Γ, pl6E, pl5Γ, pl5E, pl4Γ, pl4E, pl3Γ, pl3E, pl2Γ, pl2E, pl1Γ, pl1E, pl0Γ, pl0E, conMapSI_pre, conMapSI_val, conSortF, conBinF_pre, conBinF_val, conCompare_pre, conCompare_val, conClone, conDecide_pre, conDecide_val, conStands_pre, conStands_val, conColS, conOrdinals_pre, conOrdinals_val, conMapRI, conCheck_pre, conCheck_val, conMapRR_pre, conMapRR_val, conCont_pre, conCont_val, conTable_pre, conTable_val, conEqual_pre, conEqual_val, conPlaced_pre, conPlaced_val, conMapII_pre, conMapII_val, conSorted, conBin_pre, conBin_val, conValues_pre, conValues_val, conColI, conSort, conLess_pre, conLess_val, conNaN_pre, conNaN_val, inI64]
  refine ⟨fun h => if_neg (by rcases h with h | h <;> simp [h]), fun hc hne => ⟨List.length_pos_iff.2 hne, ?_⟩⟩
  have h0 := List.length_pos_iff.2 hne
  have hso := fun (e : Int) (h1 : 0 ≤ e) (h2 : e < (l[0]?.getD []).length) => standOk_of hc h0 h1 h2
  have hm : (l[0]?.getD []).length ≤ 4096 := by
    rw [getD_lt h0]; exact (tableErr_ok (checkErr_ok hc).1).2.1 _ (List.getElem_mem h0)
  have hmj : majL l = (allTo l (l[0]?.getD []).length).map fun x => (decN (allTo l (l[0]?.getD []).length) x : Int) + 1 := if_pos ⟨hc, hne⟩
  refine WpD.turn _ (Turn.virt (k := 5) (t := .slice tStand) (xs := []) (by simp [look])) ?_
  refine WpD.loop (L := { live := [0, 2, 3, 4, 5, 6, 7, 16, 21, 22, 23], fin := [(8, [(5, [29])])], frz := [(10, [5]), (12, [7])], eps := [(12, [7])] }) pl13_good X0_ok pl_mixed (by kernel_rfl)
    (fun i : Nat => ⟨[(0, vS tRow l ex), (2, vS tI [] true), (3, vI 0), (4, vI (checkErr l)), (5, ⟨true, .v (.s (.own (.slice tStand) 0 i))⟩), (21, vI (l[0]?.getD []).length), (22, vI i)], [.arr (decide (0 < i)) ((Ty.slice tStand).flats (allTo l i))]⟩)
    (fun i => i ≤ (l[0]?.getD []).length) (fun i => (l[0]?.getD []).length - i) 0 (by simp) (Turn.le (by simp -dsimp -implicitDefEqProofs [allTo])) ?_
  intro i hi
  have hal := allTo_len l i
  simp -dsimp -implicitDefEqProofs [hal, conMajority_val, map_maj1, pl13_td, pl13_y, pl13_Γ, pl13_E, pl13_fz, plT, pl13Γ, pl13E, pl12Γ, pl12E, pl11Γ, pl11E, pl10Γ, pl10E, pl9Γ, pl9E, pl8Γ, pl8E, pl7Γ, pl7E, pl6Γ, pl6E, pl5Γ, pl5E, pl4Γ, pl4E, pl3Γ, pl3E, pl2Γ, pl2E, pl1Γ, pl1E, pl0Γ, pl0E, conMapSI_pre, conMapSI_val, conSortF, conBinF_pre, conBinF_val, conCompare_pre, conCompare_val, conClone, conDecide_pre, conDecide_val, conStands_pre, conStands_val, conColS, conOrdinals_pre, conOrdinals_val, conMapRI, conCheck_pre, conCheck_val, conMapRR_pre, conMapRR_val, conCont_pre, conCont_val, conTable_pre, conTable_val, conEqual_pre, conEqual_val, conPlaced_pre, conPlaced_val, conMapII_pre, conMapII_val, conSorted, conBin_pre, conBin_val, conValues_pre, conValues_val, conColI, conSort, conLess_pre, conLess_val, conNaN_pre, conNaN_val, inI64]
  refine ⟨fun hlt => ?_, fun hge => ?_⟩
  · have hst := hso i (by omega) (by omega)
    have hsl := standL_len l i
    refine ⟨standL l i, seq_stands l i hst, by omega, _, rfl, rfl, ⟨by omega, by simp only [maxLen]; omega⟩, ⟨by omega, by omega⟩, i + 1, by omega, by omega, ?_⟩
    rw [allTo_succ, show decide (0 < i + 1) = true by simp]
    exact TurnT.trunc X0_ok (hp := [_]) (junk := [_]) (by simp) (by simp only [List.length_cons, List.length_nil, List.all_cons, List.all_nil, arr_below, Bool.and_true] <;> simp [Blk.below, SV.below]) (by simp -dsimp -implicitDefEqProofs []) (by simp [envBelow, RV.below, AV.below, SV.below])
  · obtain rfl : i = (l[0]?.getD []).length := by omega
    have hall := fun x hx => allTo_mem hso (x := x) hx
    generalize hA : allTo l (l[0]?.getD []).length = all at *
    generalize hN : (l[0]?.getD []).length = n at *
    refine ⟨all, rfl, hal.symm, by omega, fun hnil => ⟨⟨by omega, _, (fn_maj1 []).mono fun x hx => by rw [hnil] at hx; cases hx⟩, by rw [hmj, hnil], hc.symm⟩, all, rfl, rfl, by omega, ?_, dec, _, _, ⟨rfl, rfl⟩, conDecide, rfl, fun a ha b hb => ⟨?_, rfl⟩, fun a ha => by rw [dec_self]; decide, fun a ha b hb c hc h1 h2 => ?_, fun a ha b hb c hc h1 h2 => ?_, fun ys hp hpw => ⟨ys, rfl, hp.length_eq.symm, ⟨by omega, _, (fn_maj1 ys).mono fun x hx => majOk_of hm (by omega) hall hp hpw hx⟩, ?_, hc.symm⟩⟩
    · cases all with
      | nil => exact .inr rfl
      | cons a b => exact .inl (by simp)
    · obtain ⟨a1, a2⟩ := hall a ha
      obtain ⟨b1, b2⟩ := hall b hb
      exact ⟨by omega, by omega, a2, b2⟩
    · have ha' := (hall a ha).1
      have hb' := (hall b hb).1
      have hc' := (hall c hc).1
      exact (dec_trans a b c (by omega) (by omega) (by omega) (by omega)).2 (.inl h1)
    · have ha' := (hall a ha).1
      have hb' := (hall b hb).1
      have hc' := (hall c hc).1
      have e1 := dec_anti a b
      have e2 := dec_anti b c
      have e3 := dec_anti a c
      have := (dec_trans c b a (by omega) (by omega) (by omega) (by omega)).1
      omega
    · rw [hmj]
      refine List.map_congr_left fun x _ => ?_
      rw [decN_perm hp]
end Go.Am
