/- The program of chapter 22: what is collected from iterators. -/
import Derived.Test.YteglanpnmnkkbaaPl1
namespace Go.Am
set_option linter.unusedVariables false
set_option linter.unusedSimpArgs false
set_option maxHeartbeats 4000000
set_option maxRecDepth 20000
open Go.RowKit Go.Proofs
attribute [local simp] thenKD_normal thenKD_exit thenKD_goto thenKD_ret inBlockKD_normal inBlockKD_exit inBlockKD_goto inBlockKD_ret noGotoKD_normal noGotoKD_exit noGotoKD_goto noGotoKD_ret roundKD_normal roundKD_exit roundKD_goto roundKD_ret frzSlotsD_nil frzSlotsD_cons frzSlotD_eq yieldVCD_trace opVCD_eq vcOpsD_nil vcOpsD_cons vcAllD_zero vcAllD_succ allAtD_nil allAtD_cons readyAux edgA vcD_skip vcD_label vcD_exit vcD_goto vcD_ret vcD_region vcD_seq vcD_seqC vcD_cond vcCondD_bool vcD_block vcD_scope vcD_loop vcD_rangeFunc yieldOf isMem isMem0 keepE envLe St.le psE yieldAV round_td round_y round_Γ vI vB vS aI aB aS look getE oper opRV putE allOk okOps Op.operands Call.operands pEv qEv mEv constRV coe RV.av loadEv loadCs takeAt indexAddrEv fieldAddrEv binEv intEv arith unEv gcond pickEv argsEv callVal callEv capAV_mk lenArgs lenEv minEv extractEv convEv funcEv allBox bound sliceEv lookupEv TD.isBool allocEv boxEv storeEv spl plainTD appendEv appendArgs makeMapEv mapUpdateEv buildEv buildSliceEv fillSV zsvOf sizeTD Ty.parses parses_flats' coeA flats_length AV.good AV.cells AV.pure SV.pure av_int av_bool av_str av_slice av_cons av_fld0 av_fld1 av_fld2 av_fld3 av_fld4 Ty.of Ty.dflt Ty.parse Ty.flat Ty.zsv Ty.fld Ty.get Ty.off Ty.nfld Ty.size coeTy junk Blk.look argEnv resEv resOk resVs oneRV retOk frzAs frzAV frzL frzSV boxCaps boxCap SV.sig sigs RV.scalar AV.scalar SV.scalar nope effVCD_eq effOf SV.ids AV.ids dedup SV.ren AV.ren RV.ren idx outId mergeB Blk.pureB flats_pure flat_pure epsSlotsD_nil epsSlotsD_cons epsSlotD_eq allEp D.parts_fnOf fvParts retEff round_E av_fn G.ye isCutD_nil isCutD_cons firstReg_region firstReg_seq firstReg_skip firstReg_ret firstReg_label firstReg_exit firstReg_goto firstReg_cond firstReg_block firstReg_scope firstReg_loop firstReg_rf eptrOf_mk flOfD_nil flOfD_cons vcFlD_cons vcFlD_nil flPairs_nil flPairs_cons vcFrD_nil vcFrD_cons makeSliceEv vcCondD_ib fzEv unfl_flats isFz round_fz
attribute [local simp ←] flats_append

/-- slices.AppendSeq, behind nothing; slices.Collect. -/
def conColIQ (It : List (FuncId × ItCon)) : ECon := { wp := fun args hp K => match args, hp with
  | [.s (.sl (.int .i64) [] true), .s (.fnp f caps)], [] => ∃ xs : List (Ty.T (.int .i64)), seqOf It f caps (.int .i64) xs ∧ xs.length ≤ 1000000000 ∧ K (.v (.s (.own (.int .i64) 0 xs.length))) [.arr (decide (0 < xs.length)) (Ty.flats (.int .i64) xs)]
  | _, _ => False }
def conColI (It : List (FuncId × ItCon)) : ECon := { wp := fun args hp K => match args, hp with
  | [.s (.fnp f caps)], [] => ∃ xs : List (Ty.T (.int .i64)), seqOf It f caps (.int .i64) xs ∧ xs.length ≤ 1000000000 ∧ K (.v (.s (.own (.int .i64) 0 xs.length))) [.arr (decide (0 < xs.length)) (Ty.flats (.int .i64) xs)]
  | _, _ => False }
theorem conColIQ_known (It : List (FuncId × ItCon)) (hIt : KnownIt Try.prog It) : EffOk Try.prog 71 (conColIQ It) := by
  refine effOkD (L := { live := [0, 1, 2, 4, 5, 6, 7] }) pl0_good rfl pl_mixed Try.func71 rfl _ 2 (by decide) (by kernel_rfl) ?_
  intro args hp K hpre hlens
  simp only [conColIQ] at hpre
  split at hpre
  · rename_i f caps
    obtain ⟨xs, ⟨ic, hic, hip, hix⟩, hlen, hK⟩ := hpre
    refine ⟨rfl, ?_⟩
    simp -dsimp -implicitDefEqProofs [Try.f71, pl0_td, pl0_y, pl0_Γ, pl0_E, pl0_fz, plT, pl0Γ, pl0E, inI64]
    refine Wp.turn (Turn.virtBox (b := 0) (off := 0) (bc := [.sl (.int .i64) [] true]) (t := (.int .i64)) (xs := []) (by simp -dsimp -implicitDefEqProofs) (by simp)) ?_
    refine WpD.rangeFunc (L := { live := [0, 1, 2, 4, 5, 6, 7] }) (d := ⟨⟩) pl0_good pl_mixed rfl rfl f caps (by simp -dsimp -implicitDefEqProofs) ic (hIt f ic hic) hip (by decide) (by kernel_rfl) (by kernel_rfl) (by intro a b c d; simp -dsimp -implicitDefEqProofs)
      (fun t hp => hp = [.cells [.own (.int .i64) 1 t], .arr (decide (0 < t)) (Ty.flats (.int .i64) (xs.take t))]) (by simp) ?_ ?_
    · intro t args hp hx hR
      subst hR
      rw [hix] at hx
      obtain ⟨hlt, rfl⟩ := take_map_av xs t hx
      have hmin : min t xs.length = t := by omega
      have htk := take_succ_get xs hlt (Ty.dflt (.int .i64))
      rw [getD_lt hlt] at htk
      simp -dsimp -implicitDefEqProofs [hmin, pl0_td, pl0_y, pl0_Γ, pl0_E, pl0_fz, plT, pl0Γ, pl0E, inI64]
      have hmin' : min (t + 1) xs.length = t + 1 := by omega
      refine ⟨⟨by omega, by simp only [maxLen]; omega⟩, ?_⟩
      first
        | exact ⟨hmin', TrT.refl _ _⟩
        | exact TrT.refl _ _
        | (rw [htk]; exact TrT.drop (hp := [_, _]) (junk := [_]) (by simp) (by simp only [List.length_cons, List.length_nil, List.all_cons, List.all_nil, arr_below, Bool.and_true]; simp [Blk.below, SV.below]))
    · intro hp hR
      subst hR
      rw [hix, List.length_map]
      simp -dsimp -implicitDefEqProofs [pl0_td, pl0_y, pl0_Γ, pl0_E, pl0_fz, plT, pl0Γ, pl0E, inI64]
      exact hK
  · exact hpre.elim
theorem conColI_known (It : List (FuncId × ItCon)) (hIt : KnownIt Try.prog It) : EffOk Try.prog 56 (conColI It) := by
  have hg : G.good Try.prog { τ := plT, Γ := [], E := [(71, conColIQ It)] } := good_of_all (plT_ok _ rfl) (fun p hp => by cases hp) (fun p hp => by simp only [List.mem_singleton] at hp; subst hp; exact ⟨enters_of Try.func71 (by kernel_rfl) rfl, conColIQ_known It hIt⟩)
  refine effOkD (L := { live := [0, 2] }) hg rfl pl_mixed Try.func56 rfl _ 1 (by decide) (by kernel_rfl) ?_
  intro args hp K hpre hlens
  simp only [conColI] at hpre
  split at hpre
  · rename_i f caps
    refine ⟨rfl, ?_⟩
    simp -dsimp -implicitDefEqProofs [Try.f56, conColIQ, plT, G.td, inI64]
    exact hpre
  · exact hpre.elim

/-- slices.AppendSeq, behind nothing; slices.Collect. -/
def conColSQ (It : List (FuncId × ItCon)) : ECon := { wp := fun args hp K => match args, hp with
  | [.s (.sl (.cons (.int .i64) (.cons (.int .i64) .nil)) [] true), .s (.fnp f caps)], [] => ∃ xs : List (Ty.T (.cons (.int .i64) (.cons (.int .i64) .nil))), seqOf It f caps (.cons (.int .i64) (.cons (.int .i64) .nil)) xs ∧ xs.length ≤ 1000000000 ∧ K (.v (.s (.own (.cons (.int .i64) (.cons (.int .i64) .nil)) 0 xs.length))) [.arr (decide (0 < xs.length)) (Ty.flats (.cons (.int .i64) (.cons (.int .i64) .nil)) xs)]
  | _, _ => False }
def conColS (It : List (FuncId × ItCon)) : ECon := { wp := fun args hp K => match args, hp with
  | [.s (.fnp f caps)], [] => ∃ xs : List (Ty.T (.cons (.int .i64) (.cons (.int .i64) .nil))), seqOf It f caps (.cons (.int .i64) (.cons (.int .i64) .nil)) xs ∧ xs.length ≤ 1000000000 ∧ K (.v (.s (.own (.cons (.int .i64) (.cons (.int .i64) .nil)) 0 xs.length))) [.arr (decide (0 < xs.length)) (Ty.flats (.cons (.int .i64) (.cons (.int .i64) .nil)) xs)]
  | _, _ => False }
theorem conColSQ_known (It : List (FuncId × ItCon)) (hIt : KnownIt Try.prog It) : EffOk Try.prog 47 (conColSQ It) := by
  refine effOkD (L := { live := [0, 1, 2, 4, 5, 6, 7] }) pl0_good rfl pl_mixed Try.func47 rfl _ 2 (by decide) (by kernel_rfl) ?_
  intro args hp K hpre hlens
  simp only [conColSQ] at hpre
  split at hpre
  · rename_i f caps
    obtain ⟨xs, ⟨ic, hic, hip, hix⟩, hlen, hK⟩ := hpre
    refine ⟨rfl, ?_⟩
    simp -dsimp -implicitDefEqProofs [Try.f47, pl0_td, pl0_y, pl0_Γ, pl0_E, pl0_fz, plT, pl0Γ, pl0E, inI64]
    refine Wp.turn (Turn.virtBox (b := 0) (off := 0) (bc := [.sl (.cons (.int .i64) (.cons (.int .i64) .nil)) [] true]) (t := (.cons (.int .i64) (.cons (.int .i64) .nil))) (xs := []) (by simp -dsimp -implicitDefEqProofs) (by simp)) ?_
    refine WpD.rangeFunc (L := { live := [0, 1, 2, 4, 5, 6, 7] }) (d := ⟨⟩) pl0_good pl_mixed rfl rfl f caps (by simp -dsimp -implicitDefEqProofs) ic (hIt f ic hic) hip (by decide) (by kernel_rfl) (by kernel_rfl) (by intro a b c d; simp -dsimp -implicitDefEqProofs)
      (fun t hp => hp = [.cells [.own (.cons (.int .i64) (.cons (.int .i64) .nil)) 1 t], .arr (decide (0 < t)) (Ty.flats (.cons (.int .i64) (.cons (.int .i64) .nil)) (xs.take t))]) (by simp) ?_ ?_
    · intro t args hp hx hR
      subst hR
      rw [hix] at hx
      obtain ⟨hlt, rfl⟩ := take_map_av xs t hx
      have hmin : min t xs.length = t := by omega
      have htk := take_succ_get xs hlt (Ty.dflt (.cons (.int .i64) (.cons (.int .i64) .nil)))
      rw [getD_lt hlt] at htk
      simp -dsimp -implicitDefEqProofs [hmin, pl0_td, pl0_y, pl0_Γ, pl0_E, pl0_fz, plT, pl0Γ, pl0E, inI64]
      have hmin' : min (t + 1) xs.length = t + 1 := by omega
      refine ⟨⟨by omega, by simp only [maxLen]; omega⟩, ?_⟩
      first
        | exact ⟨hmin', TrT.refl _ _⟩
        | exact TrT.refl _ _
        | (rw [htk]; exact TrT.drop (hp := [_, _]) (junk := [_]) (by simp) (by simp only [List.length_cons, List.length_nil, List.all_cons, List.all_nil, arr_below, Bool.and_true]; simp [Blk.below, SV.below]))
    · intro hp hR
      subst hR
      rw [hix, List.length_map]
      simp -dsimp -implicitDefEqProofs [pl0_td, pl0_y, pl0_Γ, pl0_E, pl0_fz, plT, pl0Γ, pl0E, inI64]
      exact hK
  · exact hpre.elim
theorem conColS_known (It : List (FuncId × ItCon)) (hIt : KnownIt Try.prog It) : EffOk Try.prog 29 (conColS It) := by
  have hg : G.good Try.prog { τ := plT, Γ := [], E := [(47, conColSQ It)] } := good_of_all (plT_ok _ rfl) (fun p hp => by cases hp) (fun p hp => by simp only [List.mem_singleton] at hp; subst hp; exact ⟨enters_of Try.func47 (by kernel_rfl) rfl, conColSQ_known It hIt⟩)
  refine effOkD (L := { live := [0, 2] }) hg rfl pl_mixed Try.func29 rfl _ 1 (by decide) (by kernel_rfl) ?_
  intro args hp K hpre hlens
  simp only [conColS] at hpre
  split at hpre
  · rename_i f caps
    refine ⟨rfl, ?_⟩
    simp -dsimp -implicitDefEqProofs [Try.f29, conColSQ, plT, G.td, inI64]
    exact hpre
  · exact hpre.elim

end Go.Am
