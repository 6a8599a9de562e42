/- The program of chapter 22: the library's little functions. -/
import Derived.Test.YteglanpnmnkkbaaPl2
namespace Go.Am
set_option linter.unusedVariables false
set_option linter.unusedSimpArgs false
set_option maxHeartbeats 4000000
set_option maxRecDepth 20000
open Go.RowKit Go.Proofs
attribute [local simp] thenKD_normal thenKD_exit thenKD_goto thenKD_ret inBlockKD_normal inBlockKD_exit inBlockKD_goto inBlockKD_ret noGotoKD_normal noGotoKD_exit noGotoKD_goto noGotoKD_ret roundKD_normal roundKD_exit roundKD_goto roundKD_ret frzSlotsD_nil frzSlotsD_cons frzSlotD_eq yieldVCD_trace opVCD_eq vcOpsD_nil vcOpsD_cons vcAllD_zero vcAllD_succ allAtD_nil allAtD_cons readyAux edgA vcD_skip vcD_label vcD_exit vcD_goto vcD_ret vcD_region vcD_seq vcD_seqC vcD_cond vcCondD_bool vcD_block vcD_scope vcD_loop vcD_rangeFunc yieldOf isMem isMem0 keepE envLe St.le psE yieldAV round_td round_y round_Γ vI vB vS aI aB aS look getE oper opRV putE allOk okOps Op.operands Call.operands pEv qEv mEv constRV coe RV.av loadEv loadCs takeAt indexAddrEv fieldAddrEv binEv intEv arith unEv gcond pickEv argsEv callVal callEv capAV_mk lenArgs lenEv minEv extractEv convEv funcEv allBox bound sliceEv lookupEv TD.isBool allocEv boxEv storeEv spl plainTD appendEv appendArgs makeMapEv mapUpdateEv buildEv buildSliceEv fillSV zsvOf sizeTD Ty.parses parses_flats' coeA flats_length AV.good AV.cells AV.pure SV.pure av_int av_bool av_str av_slice av_cons av_fld0 av_fld1 av_fld2 av_fld3 av_fld4 Ty.of Ty.dflt Ty.parse Ty.flat Ty.zsv Ty.fld Ty.get Ty.off Ty.nfld Ty.size coeTy junk Blk.look argEnv resEv resOk resVs oneRV retOk frzAs frzAV frzL frzSV boxCaps boxCap SV.sig sigs RV.scalar AV.scalar SV.scalar nope effVCD_eq effOf SV.ids AV.ids dedup SV.ren AV.ren RV.ren idx outId mergeB Blk.pureB flats_pure flat_pure epsSlotsD_nil epsSlotsD_cons epsSlotD_eq allEp D.parts_fnOf fvParts retEff round_E av_fn G.ye isCutD_nil isCutD_cons firstReg_region firstReg_seq firstReg_skip firstReg_ret firstReg_label firstReg_exit firstReg_goto firstReg_cond firstReg_block firstReg_scope firstReg_loop firstReg_rf eptrOf_mk flOfD_nil flOfD_cons vcFlD_cons vcFlD_nil flPairs_nil flPairs_cons vcFrD_nil vcFrD_cons makeSliceEv vcCondD_ib fzEv unfl_flats isFz round_fz
attribute [local simp ←] flats_append

noncomputable def conNaN : Con := ⟨fun args => (match args with
  | [.s (.int .i64 a)] => True
  | _ => False), fun args => match args with
  | [.s (.int _ a)] => .v (aB false)
  | _ => .v (.s .any)⟩
theorem conNaN_pre (a : Int) : conNaN.pre [.s (.int .i64 a)] = (True) := rfl
theorem conNaN_val (a : Int) : conNaN.val [.s (.int .i64 a)] = .v (aB false) := rfl
theorem nan_ok : PureOk Try.prog 59 conNaN := by
  refine pureOkD (L := { live := [0, 2] }) pl0_good rfl pl_mixed Try.func59 rfl conNaN 1 (by decide) (by kernel_rfl) ?_
  intro args hpre hlens
  simp only [conNaN] at hpre
  split at hpre
  case h_2 => exact hpre.elim
  rename_i a
  simp only [allLen, AV.lenOk, SV.lenOk, Ty.lenOk, maxLen, and_true, implies_true, true_and] at hlens
  refine ⟨rfl, ?_⟩
  simp -dsimp -implicitDefEqProofs [Try.f59, conNaN_val, pl0_td, pl0_y, pl0_Γ, pl0_E, pl0_fz, plT, pl0Γ, pl0E, inI64]
theorem nan2_ok : PureOk Try.prog 72 conNaN := by
  refine pureOkD (L := { live := [0, 2] }) pl0_good rfl pl_mixed Try.func72 rfl conNaN 1 (by decide) (by kernel_rfl) ?_
  intro args hpre hlens
  simp only [conNaN] at hpre
  split at hpre
  case h_2 => exact hpre.elim
  refine ⟨rfl, ?_⟩
  simp -dsimp -implicitDefEqProofs [Try.f72, conNaN_val, pl0_td, pl0_y, pl0_Γ, pl0_E, pl0_fz, plT, pl0Γ, pl0E, inI64]
noncomputable def pl1Γ : List (FuncId × Con) := (59, conNaN) :: (72, conNaN) :: pl0Γ
theorem pl1Γ_ok : ∀ p ∈ pl1Γ, (∀ (args : Array Value) (w : World), (callFunc p.1 args).run Try.prog w = .ok (.enter p.1 args) w) ∧ PureOk Try.prog p.1 p.2 := by
  simp only [pl1Γ, List.forall_mem_cons]
  exact ⟨⟨enters_of Try.func59 (by kernel_rfl) rfl, nan_ok⟩, ⟨enters_of Try.func72 (by kernel_rfl) rfl, nan2_ok⟩, pl0Γ_ok⟩
noncomputable def pl1E : List (FuncId × ECon) := pl0E
theorem pl1E_ok : ∀ p ∈ pl1E, (∀ (args : Array Value) (w : World), (callFunc p.1 args).run Try.prog w = .ok (.enter p.1 args) w) ∧ EffOk Try.prog p.1 p.2 := by
  simp only [pl1E]
  exact pl0E_ok
noncomputable def pl1 : G := { τ := plT, Γ := pl1Γ, E := pl1E }
theorem pl1_good : pl1.good Try.prog := good_of_all (plT_ok _ rfl) pl1Γ_ok pl1E_ok
theorem pl1_td (t : TypeId) : pl1.td t = (look plT t).getD .other := rfl
theorem pl1_y : pl1.y = false := rfl
theorem pl1_Γ : pl1.Γ = pl1Γ := rfl
theorem pl1_E : pl1.E = pl1E := rfl
theorem pl1_fz : pl1.fz = [] := rfl
noncomputable def pl1y : G := { τ := plT, Γ := pl1Γ, E := pl1E, y := true }
theorem pl1y_good : pl1y.good Try.prog := good_of_all (plT_ok _ rfl) pl1Γ_ok pl1E_ok
theorem pl1y_td (t : TypeId) : pl1y.td t = (look plT t).getD .other := rfl
theorem pl1y_y : pl1y.y = true := rfl
theorem pl1y_Γ : pl1y.Γ = pl1Γ := rfl
theorem pl1y_E : pl1y.E = pl1E := rfl
theorem pl1y_fz : pl1y.fz = [] := rfl
noncomputable def conLess : Con := ⟨fun args => (match args with
  | [.s (.int .i64 a), .s (.int .i64 b)] => True
  | _ => False), fun args => match args with
  | [.s (.int _ a), .s (.int _ b)] => .v (aB (decide (a < b)))
  | _ => .v (.s .any)⟩
theorem conLess_pre (a : Int) (b : Int) : conLess.pre [.s (.int .i64 a), .s (.int .i64 b)] = (True) := rfl
theorem conLess_val (a : Int) (b : Int) : conLess.val [.s (.int .i64 a), .s (.int .i64 b)] = .v (aB (decide (a < b))) := rfl
theorem less_ok : PureOk Try.prog 58 conLess := by
  refine pureOkD (L := { live := [0, 1, 4] }) pl1_good rfl pl_mixed Try.func58 rfl conLess 2 (by decide) (by kernel_rfl) ?_
  intro args hpre hlens
  simp only [conLess] at hpre
  split at hpre
  case h_2 => exact hpre.elim
  rename_i a b
  simp only [allLen, AV.lenOk, SV.lenOk, Ty.lenOk, maxLen, and_true, implies_true, true_and] at hlens
  refine ⟨rfl, ?_⟩
  simp -dsimp -implicitDefEqProofs [Try.f58, conLess_val, pl1_td, pl1_y, pl1_Γ, pl1_E, pl1_fz, plT, pl1Γ, pl1E, pl0Γ, pl0E, conNaN_pre, conNaN_val, inI64]
noncomputable def pl2Γ : List (FuncId × Con) := (58, conLess) :: pl1Γ
theorem pl2Γ_ok : ∀ p ∈ pl2Γ, (∀ (args : Array Value) (w : World), (callFunc p.1 args).run Try.prog w = .ok (.enter p.1 args) w) ∧ PureOk Try.prog p.1 p.2 := by
  simp only [pl2Γ, List.forall_mem_cons]
  exact ⟨⟨enters_of Try.func58 (by kernel_rfl) rfl, less_ok⟩, pl1Γ_ok⟩
noncomputable def pl2E : List (FuncId × ECon) := pl1E
theorem pl2E_ok : ∀ p ∈ pl2E, (∀ (args : Array Value) (w : World), (callFunc p.1 args).run Try.prog w = .ok (.enter p.1 args) w) ∧ EffOk Try.prog p.1 p.2 := by
  simp only [pl2E]
  exact pl1E_ok
noncomputable def pl2 : G := { τ := plT, Γ := pl2Γ, E := pl2E }
theorem pl2_good : pl2.good Try.prog := good_of_all (plT_ok _ rfl) pl2Γ_ok pl2E_ok
theorem pl2_td (t : TypeId) : pl2.td t = (look plT t).getD .other := rfl
theorem pl2_y : pl2.y = false := rfl
theorem pl2_Γ : pl2.Γ = pl2Γ := rfl
theorem pl2_E : pl2.E = pl2E := rfl
theorem pl2_fz : pl2.fz = [] := rfl
noncomputable def pl2y : G := { τ := plT, Γ := pl2Γ, E := pl2E, y := true }
theorem pl2y_good : pl2y.good Try.prog := good_of_all (plT_ok _ rfl) pl2Γ_ok pl2E_ok
theorem pl2y_td (t : TypeId) : pl2y.td t = (look plT t).getD .other := rfl
theorem pl2y_y : pl2y.y = true := rfl
theorem pl2y_Γ : pl2y.Γ = pl2Γ := rfl
theorem pl2y_E : pl2y.E = pl2E := rfl
theorem pl2y_fz : pl2y.fz = [] := rfl

/-- slices.BinarySearch, in what is sorted. -/
def below (n : Int) (xs : List Int) : Nat := (xs.filter fun x => decide (x < n)).length
theorem below_le (n : Int) (xs : List Int) : below n xs ≤ xs.length := List.length_filter_le ..
theorem below_perm (n : Int) {xs ys : List Int} (h : xs.Perm ys) : below n xs = below n ys := (h.filter _).length_eq
theorem below_at {n : Int} {xs : List Int} (hs : xs.Pairwise (fun a b => a ≤ b)) {i : Nat} (hi : i < xs.length) : xs[i]?.getD 0 < n ↔ i < below n xs := by
  rw [getD_lt hi]
  have hm : ∀ j k, (hjk : j ≤ k) → (hk : k < xs.length) → (xs[j]'(by omega)) ≤ xs[k] := fun j k hjk hk => by
    rcases Nat.lt_or_eq_of_le hjk with h | rfl
    · exact List.pairwise_iff_getElem.1 hs j k (by omega) hk h
    · exact Int.le_refl _
  have hsplit : below n xs = below n (xs.take i) + below n (xs.drop i) := by
    unfold below
    rw [← List.length_append, ← List.filter_append, List.take_append_drop]
  constructor
  · intro h
    have h1 : below n (xs.take (i + 1)) = i + 1 := by
      unfold below
      rw [List.filter_eq_self.2, List.length_take]
      · omega
      · intro x hx
        obtain ⟨j, hj, rfl⟩ := List.mem_iff_getElem.1 hx
        rw [List.length_take] at hj
        have := hm j i (by omega) hi
        simp only [List.getElem_take, decide_eq_true_eq]
        omega
    have h2 : below n xs = below n (xs.take (i + 1)) + below n (xs.drop (i + 1)) := by
      unfold below
      rw [← List.length_append, ← List.filter_append, List.take_append_drop]
    omega
  · intro h
    apply Int.not_le.1
    intro hge
    have h1 : below n (xs.drop i) = 0 := by
      unfold below
      rw [List.filter_eq_nil_iff.2]
      · rfl
      · intro x hx
        obtain ⟨j, hj, rfl⟩ := List.mem_iff_getElem.1 hx
        rw [List.length_drop] at hj
        have := hm i (i + j) (by omega) (by omega)
        simp only [List.getElem_drop, decide_eq_true_eq]
        omega
    have h3 := below_le n (xs.take i)
    rw [List.length_take] at h3
    omega
theorem below_hi {n : Int} {xs : List Int} (hs : xs.Pairwise (fun a b => a ≤ b)) {m : Nat} (hm : m < xs.length) (h : n ≤ xs[m]?.getD 0) : below n xs ≤ m := by
  have := mt (below_at (n := n) hs hm).2 (by omega)
  omega
theorem below_mem {n : Int} {xs : List Int} (hs : xs.Pairwise (fun a b => a ≤ b)) {i : Nat} (hi : i = below n xs) : (decide (i < xs.length) && decide (xs[i]?.getD 0 = n)) = decide (n ∈ xs) := by
  rw [Bool.eq_iff_iff]
  simp only [Bool.and_eq_true, decide_eq_true_eq]
  constructor
  · rintro ⟨q1, q2⟩
    rw [← q2, getD_lt q1]
    exact List.getElem_mem q1
  · intro hmem
    obtain ⟨k, hk, hkn⟩ := List.mem_iff_getElem.1 hmem
    have q1 := mt (below_at (n := n) hs hk).2 (by rw [getD_lt hk]; omega)
    have hik : i ≤ k := by omega
    refine ⟨by omega, ?_⟩
    have q2 := mt (below_at (n := n) hs (show i < xs.length by omega)).1 (by omega)
    have q3 : xs[i]?.getD 0 ≤ xs[k] := by
      rw [getD_lt (show i < xs.length by omega)]
      rcases Nat.lt_or_eq_of_le hik with h | h
      · exact List.pairwise_iff_getElem.1 hs i k (by omega) hk h
      · subst h; exact Int.le_refl _
    omega
noncomputable def conBin : Con := ⟨fun args => (match args with
  | [.s (.sl (.int .i64) xs _), .s (.int .i64 n)] => xs.Pairwise (fun a b => a ≤ b) ∧ xs.length ≤ 1000000
  | _ => False), fun args => match args with
  | [.s (.sl (.int .i64) xs _), .s (.int _ n)] => .tup [aI (below n xs), aB (decide (n ∈ xs))]
  | _ => .v (.s .any)⟩
theorem conBin_pre (xs : List (Ty.T (.int .i64))) (exxs : Bool) (n : Int) : conBin.pre [.s (.sl (.int .i64) xs exxs), .s (.int .i64 n)] = (xs.Pairwise (fun a b => a ≤ b) ∧ xs.length ≤ 1000000) := rfl
theorem conBin_val (xs : List (Ty.T (.int .i64))) (exxs : Bool) (n : Int) : conBin.val [.s (.sl (.int .i64) xs exxs), .s (.int .i64 n)] = .tup [aI (below n xs), aB (decide (n ∈ xs))] := rfl
theorem half_u64 {a b : Nat} (h : a + b ≤ 10000000) : IntKind.wrap .i64 (Int.fdiv (IntKind.wrap .u64 ((a : Int) + b)) 2) = (((a + b) / 2 : Nat) : Int) := by
  rw [IntWalk.u64_in _ (by omega), IntWalk.i64_in]
  · rw [Int.fdiv_eq_ediv_of_nonneg _ (by omega)]; omega
  · rw [Int.fdiv_eq_ediv_of_nonneg _ (by omega)]; omega
theorem bin_ok : PureOk Try.prog 44 conBin := by
  refine pureOkD (L := { live := [0, 1, 4, 5, 6, 7, 8, 9, 15, 27] }) pl2_good rfl pl_mixed Try.func44 rfl conBin 2 (by decide) (by kernel_rfl) ?_
  intro args hpre hlens
  simp only [conBin] at hpre
  split at hpre
  case h_2 => exact hpre.elim
  rename_i xs ex n
  simp only [allLen, AV.lenOk, SV.lenOk, Ty.lenOk, maxLen, and_true, implies_true, true_and] at hlens
  refine ⟨rfl, ?_⟩
  simp -dsimp -implicitDefEqProofs [Try.f44, conBin_val, pl2_td, pl2_y, pl2_Γ, pl2_E, pl2_fz, plT, pl2Γ, pl2E, pl1Γ, pl1E, pl0Γ, pl0E, conLess_pre, conLess_val, conNaN_pre, conNaN_val, inI64]
  obtain ⟨hsort, hlen⟩ := hpre
  refine WpD.loop (L := { live := [0, 1, 4, 5, 6, 7, 8, 9, 15, 27] }) pl2_good X0_ok pl_mixed (by kernel_rfl)
    (fun p : Nat × Nat => ⟨[(0, vS tI xs ex), (1, vI n), (6, vI xs.length), (7, vI p.1), (8, vI p.2)], []⟩)
    (fun p => p.1 ≤ below n xs ∧ below n xs ≤ p.2 ∧ p.2 ≤ xs.length) (fun p => p.2 - p.1) (0, xs.length) ⟨Nat.zero_le _, below_le n xs, Nat.le_refl _⟩ (Turn.le (by simp -dsimp -implicitDefEqProofs)) ?_
  rintro ⟨i, j⟩ ⟨h1, h2, h3⟩
  simp only at h1 h2 h3
  have hh := half_u64 (a := i) (b := j) (by omega)
  obtain ⟨m, hm⟩ : ∃ m : Nat, m = (i + j) / 2 := ⟨_, rfl⟩
  rw [← hm] at hh
  simp -dsimp -implicitDefEqProofs [hh, conBin_val, pl2_td, pl2_y, pl2_Γ, pl2_E, pl2_fz, plT, pl2Γ, pl2E, pl1Γ, pl1E, pl0Γ, pl0E, conLess_pre, conLess_val, conNaN_pre, conNaN_val, inI64]
  refine ⟨fun hij => ⟨⟨by omega, by omega⟩, by omega, fun hlt => ⟨⟨by omega, by omega⟩, m + 1, j, ⟨?_, h2, h3⟩, by omega, TurnT.le (by simp -dsimp -implicitDefEqProofs)⟩, fun hge => ⟨i, m, ⟨h1, ?_, by omega⟩, by omega, TurnT.le (by simp -dsimp -implicitDefEqProofs)⟩⟩, fun hji => ⟨fun a b => ⟨⟨a, b⟩, a⟩, fun a => ⟨a, fun b => ⟨a, b⟩⟩, by omega, ?_⟩⟩
  · exact (below_at hsort (show m < xs.length by omega)).1 hlt
  · exact below_hi hsort (by omega) hge
  · exact below_mem hsort (by omega)
end Go.Am
