/- The program of chapter 22: its types; what a function makes of the elements of a list. -/
import Derived.Test.YteglanpnmnkkbaaBf1
import Derived.Test.YteglanpnmnkkbaaLay
namespace Go.Am
set_option linter.unusedVariables false
set_option linter.unusedSimpArgs false
set_option maxHeartbeats 4000000
set_option maxRecDepth 20000
open Go.RowKit Go.Proofs
attribute [local simp] thenKD_normal thenKD_exit thenKD_goto thenKD_ret inBlockKD_normal inBlockKD_exit inBlockKD_goto inBlockKD_ret noGotoKD_normal noGotoKD_exit noGotoKD_goto noGotoKD_ret roundKD_normal roundKD_exit roundKD_goto roundKD_ret frzSlotsD_nil frzSlotsD_cons frzSlotD_eq yieldVCD_trace opVCD_eq vcOpsD_nil vcOpsD_cons vcAllD_zero vcAllD_succ allAtD_nil allAtD_cons readyAux edgA vcD_skip vcD_label vcD_exit vcD_goto vcD_ret vcD_region vcD_seq vcD_seqC vcD_cond vcCondD_bool vcD_block vcD_scope vcD_loop vcD_rangeFunc yieldOf isMem isMem0 keepE envLe St.le psE yieldAV round_td round_y round_Γ vI vB vS aI aB aS look getE oper opRV putE allOk okOps Op.operands Call.operands pEv qEv mEv constRV coe RV.av loadEv loadCs takeAt indexAddrEv fieldAddrEv binEv intEv arith unEv gcond pickEv argsEv callVal callEv capAV_mk lenArgs lenEv minEv extractEv convEv funcEv allBox bound sliceEv lookupEv TD.isBool allocEv boxEv storeEv spl plainTD appendEv appendArgs makeMapEv mapUpdateEv buildEv buildSliceEv fillSV zsvOf sizeTD Ty.parses parses_flats' coeA flats_length AV.good AV.cells AV.pure SV.pure av_int av_bool av_str av_slice av_cons av_fld0 av_fld1 av_fld2 av_fld3 av_fld4 Ty.of Ty.dflt Ty.parse Ty.flat Ty.zsv Ty.fld Ty.get Ty.off Ty.nfld Ty.size coeTy junk Blk.look argEnv resEv resOk resVs oneRV retOk frzAs frzAV frzL frzSV boxCaps boxCap SV.sig sigs RV.scalar AV.scalar SV.scalar nope effVCD_eq effOf SV.ids AV.ids dedup SV.ren AV.ren RV.ren idx outId mergeB Blk.pureB flats_pure flat_pure epsSlotsD_nil epsSlotsD_cons epsSlotD_eq allEp D.parts_fnOf fvParts retEff round_E av_fn G.ye isCutD_nil isCutD_cons firstReg_region firstReg_seq firstReg_skip firstReg_ret firstReg_label firstReg_exit firstReg_goto firstReg_cond firstReg_block firstReg_scope firstReg_loop firstReg_rf eptrOf_mk flOfD_nil flOfD_cons vcFlD_cons vcFlD_nil flPairs_nil flPairs_cons vcFrD_nil vcFrD_cons makeSliceEv vcCondD_ib fzEv unfl_flats isFz round_fz
attribute [local simp ←] flats_append

abbrev tRow : Ty := .slice tI
abbrev tStand : Ty := .cons (.int .i64) (.cons (.int .i64) .nil)
def plT : List (TypeId × TD) := [(1, .func), (2, .sc (.int .i64)), (3, .sc (.int .i64)), (4, .sc .bool), (5, .sc (.int .u8)), (22, .slice 30 (.slice (.int .i64)) 24), (25, .sc (.int .i64)), (30, .slice 3 (.int .i64) 8), (38, .arr 10 3 (.int .i64)), (39, .arr 10 38 (.cons (.int .i64) (.cons (.int .i64) (.cons (.int .i64) (.cons (.int .i64) (.cons (.int .i64) (.cons (.int .i64) (.cons (.int .i64) (.cons (.int .i64) (.cons (.int .i64) (.cons (.int .i64) .nil))))))))))), (40, .func), (43, .func), (44, .func), (46, .func), (47, .func), (48, .slice 51 (.cons (.int .i64) (.cons (.int .i64) .nil)) 16), (50, .struct (.cons (.int .i64) (.cons (.int .i64) .nil))), (51, .struct (.cons (.int .i64) (.cons (.int .i64) .nil))), (52, .func), (53, .func), (56, .slice 48 (.slice (.cons (.int .i64) (.cons (.int .i64) .nil))) 24), (57, .func), (62, .func), (63, .func), (66, .func), (67, .func), (71, .func), (73, .func), (79, .sc (.int .u64)), (81, .func)]
theorem plT_ok (g : G) (hg : g.τ = plT) : G.ok Try.prog g := by
  refine ok_of_all ?_
  rw [hg]
  simp only [plT, List.forall_mem_cons]
  refine ⟨?_, ?_, ?_, ?_, ?_, ?_, ?_, ?_, ?_, ?_, ?_, ?_, ?_, ?_, ?_, ?_, ?_, ?_, ?_, ?_, ?_, ?_, ?_, ?_, ?_, ?_, ?_, ?_, ?_, ?_, by simp⟩
  · exact ⟨⟨_, _, _, Try.underlying1⟩, by kernel_rfl⟩
  · exact ⟨by kernel_rfl, rfl, by kernel_rfl, rfl⟩
  · exact ⟨by kernel_rfl, rfl, by kernel_rfl, rfl⟩
  · exact ⟨by kernel_rfl, rfl, by kernel_rfl, rfl⟩
  · exact ⟨by kernel_rfl, rfl, by kernel_rfl, rfl⟩
  · exact ⟨by kernel_rfl, by decide, by kernel_rfl, ⟨cellsV (Ty.zcells (.slice (.int .i64))), by kernel_rfl, by kernel_rfl, by kernel_rfl⟩, by kernel_rfl⟩
  · exact ⟨by kernel_rfl, rfl, by kernel_rfl, rfl⟩
  · exact ⟨by kernel_rfl, by decide, by kernel_rfl, ⟨cellsV (Ty.zcells (.int .i64)), by kernel_rfl, by kernel_rfl, by kernel_rfl⟩, by kernel_rfl⟩
  · exact ⟨by kernel_rfl, by kernel_rfl, by kernel_rfl⟩
  · exact ⟨by kernel_rfl, by kernel_rfl, by kernel_rfl⟩
  · exact ⟨⟨_, _, _, Try.underlying40⟩, by kernel_rfl⟩
  · exact ⟨⟨_, _, _, Try.underlying43⟩, by kernel_rfl⟩
  · exact ⟨⟨_, _, _, Try.underlying44⟩, by kernel_rfl⟩
  · exact ⟨⟨_, _, _, Try.underlying46⟩, by kernel_rfl⟩
  · exact ⟨⟨_, _, _, Try.underlying47⟩, by kernel_rfl⟩
  · exact ⟨by kernel_rfl, by decide, by kernel_rfl, ⟨cellsV (Ty.zcells (.cons (.int .i64) (.cons (.int .i64) .nil))), by kernel_rfl, by kernel_rfl, by kernel_rfl⟩, by kernel_rfl⟩
  · exact ⟨fieldsOf Try.prog 50, by kernel_rfl, by kernel_rfl, by kernel_rfl, by decide, by kernel_rfl⟩
  · exact ⟨fieldsOf Try.prog 51, by kernel_rfl, by kernel_rfl, by kernel_rfl, by decide, by kernel_rfl⟩
  · exact ⟨⟨_, _, _, Try.underlying52⟩, by kernel_rfl⟩
  · exact ⟨⟨_, _, _, Try.underlying53⟩, by kernel_rfl⟩
  · exact ⟨by kernel_rfl, by decide, by kernel_rfl, ⟨cellsV (Ty.zcells (.slice (.cons (.int .i64) (.cons (.int .i64) .nil)))), by kernel_rfl, by kernel_rfl, by kernel_rfl⟩, by kernel_rfl⟩
  · exact ⟨⟨_, _, _, Try.underlying57⟩, by kernel_rfl⟩
  · exact ⟨⟨_, _, _, Try.underlying62⟩, by kernel_rfl⟩
  · exact ⟨⟨_, _, _, Try.underlying63⟩, by kernel_rfl⟩
  · exact ⟨⟨_, _, _, Try.underlying66⟩, by kernel_rfl⟩
  · exact ⟨⟨_, _, _, Try.underlying67⟩, by kernel_rfl⟩
  · exact ⟨⟨_, _, _, Try.underlying71⟩, by kernel_rfl⟩
  · exact ⟨⟨_, _, _, Try.underlying73⟩, by kernel_rfl⟩
  · exact ⟨by kernel_rfl, rfl, by kernel_rfl, rfl⟩
  · exact ⟨⟨_, _, _, Try.underlying81⟩, by kernel_rfl⟩
theorem pl_mixed : Try.prog.follows .mixedOrders = true := by kernel_rfl

noncomputable def pl0Γ : List (FuncId × Con) := []
theorem pl0Γ_ok : ∀ p ∈ pl0Γ, (∀ (args : Array Value) (w : World), (callFunc p.1 args).run Try.prog w = .ok (.enter p.1 args) w) ∧ PureOk Try.prog p.1 p.2 := by simp [pl0Γ]
noncomputable def pl0E : List (FuncId × ECon) := []
theorem pl0E_ok : ∀ p ∈ pl0E, (∀ (args : Array Value) (w : World), (callFunc p.1 args).run Try.prog w = .ok (.enter p.1 args) w) ∧ EffOk Try.prog p.1 p.2 := by simp [pl0E]
noncomputable def pl0 : G := { τ := plT, Γ := pl0Γ, E := pl0E }
theorem pl0_good : pl0.good Try.prog := good_of_all (plT_ok _ rfl) pl0Γ_ok pl0E_ok
theorem pl0_td (t : TypeId) : pl0.td t = (look plT t).getD .other := rfl
theorem pl0_y : pl0.y = false := rfl
theorem pl0_Γ : pl0.Γ = pl0Γ := rfl
theorem pl0_E : pl0.E = pl0E := rfl
theorem pl0_fz : pl0.fz = [] := rfl
noncomputable def pl0y : G := { τ := plT, Γ := pl0Γ, E := pl0E, y := true }
theorem pl0y_good : pl0y.good Try.prog := good_of_all (plT_ok _ rfl) pl0Γ_ok pl0E_ok
theorem pl0y_td (t : TypeId) : pl0y.td t = (look plT t).getD .other := rfl
theorem pl0y_y : pl0y.y = true := rfl
theorem pl0y_Γ : pl0y.Γ = pl0Γ := rfl
theorem pl0y_E : pl0y.E = pl0E := rfl
theorem pl0y_fz : pl0y.fz = [] := rfl

noncomputable def conMapII (Γ : List (FuncId × Con)) : Con := ⟨fun args => (match args with
  | [.s (.sl (.int .i64) xs _), .s (.fnp f caps)] => xs.length ≤ 1000000 ∧ ∃ h, fnTo Γ (.int .i64) (.int .i64) f caps h (· ∈ xs)
  | _ => False), fun args => match args with
  | [.s (.sl (.int .i64) xs _), .s (.fnp f caps)] => .v (.s (.sl (.int .i64) (mapV Γ (.int .i64) (.int .i64) f caps xs) false))
  | _ => .v (.s .any)⟩
theorem conMapII_one (f : FuncId) (caps : List (Sigma Ty.T)) (c : Con) (he : ∀ (args : Array Value) (w : World), (callFunc f args).run Try.prog w = .ok (.enter f args) w) (hc : PureOk Try.prog f c) (h : Ty.T (.int .i64) → Ty.T (.int .i64))
    (hv : ∀ x, c.val (Ty.av (.int .i64) x :: caps.map capAV) = .v (Ty.av (.int .i64) (h x))) :
    PureOk Try.prog 24 ⟨fun args => ∃ xs ex, args = [.s (.sl (.int .i64) xs ex), .s (.fnp f caps)] ∧ xs.length ≤ 1000000 ∧ ∀ x ∈ xs, c.pre (Ty.av (.int .i64) x :: caps.map capAV), fun args => match args with
      | [.s (.sl (.int .i64) xs _), _] => .v (.s (.sl (.int .i64) (xs.map h) false))
      | _ => .v (.s .any)⟩ := by
  refine pureOkD (L := { live := [0, 1, 4, 6, 7, 8, 9, 10] }) (g1_good plT_ok he hc) rfl pl_mixed Try.func24 rfl _ 2 (by decide) (by kernel_rfl) ?_
  rintro _ ⟨xs, ex, rfl, hl, hp⟩ _
  refine ⟨rfl, ?_⟩
  simp only [av_int, av_slice, av_bool] at hv hp
  simp -dsimp -implicitDefEqProofs [Try.f24, g1_td, g1_y, g1_Γ, g1_E, g1_fz, plT, inI64]
  refine WpD.turn _ (Turn.virt (k := 4) (t := (.int .i64)) (xs := []) (by simp [look])) ?_
  refine WpD.loop (L := { live := [0, 1, 4, 6, 7, 8, 9, 10] }) (g1_good plT_ok he hc) X0_ok pl_mixed (by kernel_rfl) (ι := Nat)
    (fun i => ⟨[(1, ⟨true, .v (.s (.fnp f caps))⟩), (4, ⟨true, .v (.s (.own (.int .i64) 0 i))⟩), (7, vS (.int .i64) xs ex), (8, vI xs.length), (9, vI i)], [.arr (decide (0 < i)) (Ty.flats (.int .i64) ((xs.map h).take i))]⟩)
    (fun i => i ≤ xs.length) (fun i => xs.length - i) 0 (by simp) (Turn.le (by simp -dsimp -implicitDefEqProofs)) ?_
  intro i hi
  have hml : min i xs.length = i := by omega
  simp -dsimp -implicitDefEqProofs [hv, hml, caps_all, caps_all', g1_td, g1_y, g1_Γ, g1_E, g1_fz, plT, inI64]
  refine ⟨fun hlt => ⟨hlt, hp _ (by rw [getD_lt hlt]; exact List.getElem_mem hlt), ⟨by omega, by simp only [maxLen]; omega⟩, ⟨by omega, by omega⟩, i + 1, by omega, by omega, TurnT.le ?_⟩, fun hge => ?_⟩
  · have := map_take_succ h xs hlt (Ty.dflt (.int .i64))
    simp only [Ty.dflt] at this
    rw [this]
    simp -dsimp -implicitDefEqProofs
  · obtain rfl : i = xs.length := by omega
    have h1 := map_take_all h xs (Nat.le_refl _)
    have h2 : Ty.parses (.int .i64) xs.length (Ty.flats (.int .i64) (xs.map h)) = some (xs.map h) := parses_flats' (by simp)
    simp -dsimp -implicitDefEqProofs [h1, h2]
theorem conMapII_known (Γ : List (FuncId × Con)) (hΓ : Known Try.prog Γ) : PureOk Try.prog 24 (conMapII Γ) := by
  refine PureOk.of fun args hpre => ?_
  simp only [conMapII] at hpre
  split at hpre
  · rename_i xs ex f caps
    obtain ⟨hl, h, hf⟩ := hpre
    have hm := mapV_eq (by decide) hf xs
    obtain ⟨c, h1, h2, h3⟩ := hf
    refine ⟨_, conMapII_one f caps c (hΓ f c h1).1 (hΓ f c h1).2 h h2, ⟨xs, ex, rfl, hl, h3⟩, ?_⟩
    simp only [conMapII, hm]
  · exact hpre.elim
theorem conMapII_at {Γ : List (FuncId × Con)} {f : FuncId} {caps : List (Sigma Ty.T)} {h : Ty.T (.int .i64) → Ty.T (.int .i64)} {D : Ty.T (.int .i64) → Prop} (hf : fnTo Γ (.int .i64) (.int .i64) f caps h D) (xs : List (Ty.T (.int .i64))) (ex : Bool) :
    (conMapII Γ).val [.s (.sl (.int .i64) xs ex), .s (.fnp f caps)] = .v (.s (.sl (.int .i64) (xs.map h) false)) := by
  simp only [conMapII, mapV_eq (by decide) hf xs]
theorem conMapII_pre {Γ : List (FuncId × Con)} {f : FuncId} {caps : List (Sigma Ty.T)} (xs : List (Ty.T (.int .i64))) (ex : Bool) :
    (conMapII Γ).pre [.s (.sl (.int .i64) xs ex), .s (.fnp f caps)] = (xs.length ≤ 1000000 ∧ ∃ h, fnTo Γ (.int .i64) (.int .i64) f caps h (· ∈ xs)) := rfl
theorem conMapII_val {Γ : List (FuncId × Con)} {f : FuncId} {caps : List (Sigma Ty.T)} (xs : List (Ty.T (.int .i64))) (ex : Bool) :
    (conMapII Γ).val [.s (.sl (.int .i64) xs ex), .s (.fnp f caps)] = .v (.s (.sl (.int .i64) (mapV Γ (.int .i64) (.int .i64) f caps xs) false)) := rfl

noncomputable def conMapRR (Γ : List (FuncId × Con)) : Con := ⟨fun args => (match args with
  | [.s (.sl (.slice (.int .i64)) xs _), .s (.fnp f caps)] => xs.length ≤ 1000000 ∧ ∃ h, fnTo Γ (.slice (.int .i64)) (.slice (.int .i64)) f caps h (· ∈ xs)
  | _ => False), fun args => match args with
  | [.s (.sl (.slice (.int .i64)) xs _), .s (.fnp f caps)] => .v (.s (.sl (.slice (.int .i64)) (mapV Γ (.slice (.int .i64)) (.slice (.int .i64)) f caps xs) false))
  | _ => .v (.s .any)⟩
theorem conMapRR_one (f : FuncId) (caps : List (Sigma Ty.T)) (c : Con) (he : ∀ (args : Array Value) (w : World), (callFunc f args).run Try.prog w = .ok (.enter f args) w) (hc : PureOk Try.prog f c) (h : Ty.T (.slice (.int .i64)) → Ty.T (.slice (.int .i64)))
    (hv : ∀ x, c.val (Ty.av (.slice (.int .i64)) x :: caps.map capAV) = .v (Ty.av (.slice (.int .i64)) (h x))) :
    PureOk Try.prog 21 ⟨fun args => ∃ xs ex, args = [.s (.sl (.slice (.int .i64)) xs ex), .s (.fnp f caps)] ∧ xs.length ≤ 1000000 ∧ ∀ x ∈ xs, c.pre (Ty.av (.slice (.int .i64)) x :: caps.map capAV), fun args => match args with
      | [.s (.sl (.slice (.int .i64)) xs _), _] => .v (.s (.sl (.slice (.int .i64)) (xs.map h) false))
      | _ => .v (.s .any)⟩ := by
  refine pureOkD (L := { live := [0, 1, 4, 6, 7, 8, 9, 10] }) (g1_good plT_ok he hc) rfl pl_mixed Try.func21 rfl _ 2 (by decide) (by kernel_rfl) ?_
  rintro _ ⟨xs, ex, rfl, hl, hp⟩ _
  refine ⟨rfl, ?_⟩
  simp only [av_int, av_slice, av_bool] at hv hp
  simp -dsimp -implicitDefEqProofs [Try.f21, g1_td, g1_y, g1_Γ, g1_E, g1_fz, plT, inI64]
  refine WpD.turn _ (Turn.virt (k := 4) (t := (.slice (.int .i64))) (xs := []) (by simp [look])) ?_
  refine WpD.loop (L := { live := [0, 1, 4, 6, 7, 8, 9, 10] }) (g1_good plT_ok he hc) X0_ok pl_mixed (by kernel_rfl) (ι := Nat)
    (fun i => ⟨[(1, ⟨true, .v (.s (.fnp f caps))⟩), (4, ⟨true, .v (.s (.own (.slice (.int .i64)) 0 i))⟩), (7, vS (.slice (.int .i64)) xs ex), (8, vI xs.length), (9, vI i)], [.arr (decide (0 < i)) (Ty.flats (.slice (.int .i64)) ((xs.map h).take i))]⟩)
    (fun i => i ≤ xs.length) (fun i => xs.length - i) 0 (by simp) (Turn.le (by simp -dsimp -implicitDefEqProofs)) ?_
  intro i hi
  have hml : min i xs.length = i := by omega
  simp -dsimp -implicitDefEqProofs [hv, hml, caps_all, caps_all', g1_td, g1_y, g1_Γ, g1_E, g1_fz, plT, inI64]
  refine ⟨fun hlt => ⟨hlt, hp _ (by rw [getD_lt hlt]; exact List.getElem_mem hlt), ⟨by omega, by simp only [maxLen]; omega⟩, ⟨by omega, by omega⟩, i + 1, by omega, by omega, TurnT.le ?_⟩, fun hge => ?_⟩
  · have := map_take_succ h xs hlt (Ty.dflt (.slice (.int .i64)))
    simp only [Ty.dflt] at this
    rw [this]
    simp -dsimp -implicitDefEqProofs
  · obtain rfl : i = xs.length := by omega
    have h1 := map_take_all h xs (Nat.le_refl _)
    have h2 : Ty.parses (.slice (.int .i64)) xs.length (Ty.flats (.slice (.int .i64)) (xs.map h)) = some (xs.map h) := parses_flats' (by simp)
    simp -dsimp -implicitDefEqProofs [h1, h2]
theorem conMapRR_known (Γ : List (FuncId × Con)) (hΓ : Known Try.prog Γ) : PureOk Try.prog 21 (conMapRR Γ) := by
  refine PureOk.of fun args hpre => ?_
  simp only [conMapRR] at hpre
  split at hpre
  · rename_i xs ex f caps
    obtain ⟨hl, h, hf⟩ := hpre
    have hm := mapV_eq (by decide) hf xs
    obtain ⟨c, h1, h2, h3⟩ := hf
    refine ⟨_, conMapRR_one f caps c (hΓ f c h1).1 (hΓ f c h1).2 h h2, ⟨xs, ex, rfl, hl, h3⟩, ?_⟩
    simp only [conMapRR, hm]
  · exact hpre.elim
theorem conMapRR_at {Γ : List (FuncId × Con)} {f : FuncId} {caps : List (Sigma Ty.T)} {h : Ty.T (.slice (.int .i64)) → Ty.T (.slice (.int .i64))} {D : Ty.T (.slice (.int .i64)) → Prop} (hf : fnTo Γ (.slice (.int .i64)) (.slice (.int .i64)) f caps h D) (xs : List (Ty.T (.slice (.int .i64)))) (ex : Bool) :
    (conMapRR Γ).val [.s (.sl (.slice (.int .i64)) xs ex), .s (.fnp f caps)] = .v (.s (.sl (.slice (.int .i64)) (xs.map h) false)) := by
  simp only [conMapRR, mapV_eq (by decide) hf xs]
theorem conMapRR_pre {Γ : List (FuncId × Con)} {f : FuncId} {caps : List (Sigma Ty.T)} (xs : List (Ty.T (.slice (.int .i64)))) (ex : Bool) :
    (conMapRR Γ).pre [.s (.sl (.slice (.int .i64)) xs ex), .s (.fnp f caps)] = (xs.length ≤ 1000000 ∧ ∃ h, fnTo Γ (.slice (.int .i64)) (.slice (.int .i64)) f caps h (· ∈ xs)) := rfl
theorem conMapRR_val {Γ : List (FuncId × Con)} {f : FuncId} {caps : List (Sigma Ty.T)} (xs : List (Ty.T (.slice (.int .i64)))) (ex : Bool) :
    (conMapRR Γ).val [.s (.sl (.slice (.int .i64)) xs ex), .s (.fnp f caps)] = .v (.s (.sl (.slice (.int .i64)) (mapV Γ (.slice (.int .i64)) (.slice (.int .i64)) f caps xs) false)) := rfl

noncomputable def conMapSI (Γ : List (FuncId × Con)) : Con := ⟨fun args => (match args with
  | [.s (.sl (.slice (.cons (.int .i64) (.cons (.int .i64) .nil))) xs _), .s (.fnp f caps)] => xs.length ≤ 1000000 ∧ ∃ h, fnTo Γ (.slice (.cons (.int .i64) (.cons (.int .i64) .nil))) (.int .i64) f caps h (· ∈ xs)
  | _ => False), fun args => match args with
  | [.s (.sl (.slice (.cons (.int .i64) (.cons (.int .i64) .nil))) xs _), .s (.fnp f caps)] => .v (.s (.sl (.int .i64) (mapV Γ (.slice (.cons (.int .i64) (.cons (.int .i64) .nil))) (.int .i64) f caps xs) false))
  | _ => .v (.s .any)⟩
theorem conMapSI_one (f : FuncId) (caps : List (Sigma Ty.T)) (c : Con) (he : ∀ (args : Array Value) (w : World), (callFunc f args).run Try.prog w = .ok (.enter f args) w) (hc : PureOk Try.prog f c) (h : Ty.T (.slice (.cons (.int .i64) (.cons (.int .i64) .nil))) → Ty.T (.int .i64))
    (hv : ∀ x, c.val (Ty.av (.slice (.cons (.int .i64) (.cons (.int .i64) .nil))) x :: caps.map capAV) = .v (Ty.av (.int .i64) (h x))) :
    PureOk Try.prog 35 ⟨fun args => ∃ xs ex, args = [.s (.sl (.slice (.cons (.int .i64) (.cons (.int .i64) .nil))) xs ex), .s (.fnp f caps)] ∧ xs.length ≤ 1000000 ∧ ∀ x ∈ xs, c.pre (Ty.av (.slice (.cons (.int .i64) (.cons (.int .i64) .nil))) x :: caps.map capAV), fun args => match args with
      | [.s (.sl (.slice (.cons (.int .i64) (.cons (.int .i64) .nil))) xs _), _] => .v (.s (.sl (.int .i64) (xs.map h) false))
      | _ => .v (.s .any)⟩ := by
  refine pureOkD (L := { live := [0, 1, 4, 6, 7, 8, 9, 10] }) (g1_good plT_ok he hc) rfl pl_mixed Try.func35 rfl _ 2 (by decide) (by kernel_rfl) ?_
  rintro _ ⟨xs, ex, rfl, hl, hp⟩ _
  refine ⟨rfl, ?_⟩
  simp only [av_int, av_slice, av_bool] at hv hp
  simp -dsimp -implicitDefEqProofs [Try.f35, g1_td, g1_y, g1_Γ, g1_E, g1_fz, plT, inI64]
  refine WpD.turn _ (Turn.virt (k := 4) (t := (.int .i64)) (xs := []) (by simp [look])) ?_
  refine WpD.loop (L := { live := [0, 1, 4, 6, 7, 8, 9, 10] }) (g1_good plT_ok he hc) X0_ok pl_mixed (by kernel_rfl) (ι := Nat)
    (fun i => ⟨[(1, ⟨true, .v (.s (.fnp f caps))⟩), (4, ⟨true, .v (.s (.own (.int .i64) 0 i))⟩), (7, vS (.slice (.cons (.int .i64) (.cons (.int .i64) .nil))) xs ex), (8, vI xs.length), (9, vI i)], [.arr (decide (0 < i)) (Ty.flats (.int .i64) ((xs.map h).take i))]⟩)
    (fun i => i ≤ xs.length) (fun i => xs.length - i) 0 (by simp) (Turn.le (by simp -dsimp -implicitDefEqProofs)) ?_
  intro i hi
  have hml : min i xs.length = i := by omega
  simp -dsimp -implicitDefEqProofs [hv, hml, caps_all, caps_all', g1_td, g1_y, g1_Γ, g1_E, g1_fz, plT, inI64]
  refine ⟨fun hlt => ⟨hlt, hp _ (by rw [getD_lt hlt]; exact List.getElem_mem hlt), ⟨by omega, by simp only [maxLen]; omega⟩, ⟨by omega, by omega⟩, i + 1, by omega, by omega, TurnT.le ?_⟩, fun hge => ?_⟩
  · have := map_take_succ h xs hlt (Ty.dflt (.slice (.cons (.int .i64) (.cons (.int .i64) .nil))))
    simp only [Ty.dflt] at this
    rw [this]
    simp -dsimp -implicitDefEqProofs
  · obtain rfl : i = xs.length := by omega
    have h1 := map_take_all h xs (Nat.le_refl _)
    have h2 : Ty.parses (.int .i64) xs.length (Ty.flats (.int .i64) (xs.map h)) = some (xs.map h) := parses_flats' (by simp)
    simp -dsimp -implicitDefEqProofs [h1, h2]
theorem conMapSI_known (Γ : List (FuncId × Con)) (hΓ : Known Try.prog Γ) : PureOk Try.prog 35 (conMapSI Γ) := by
  refine PureOk.of fun args hpre => ?_
  simp only [conMapSI] at hpre
  split at hpre
  · rename_i xs ex f caps
    obtain ⟨hl, h, hf⟩ := hpre
    have hm := mapV_eq (by decide) hf xs
    obtain ⟨c, h1, h2, h3⟩ := hf
    refine ⟨_, conMapSI_one f caps c (hΓ f c h1).1 (hΓ f c h1).2 h h2, ⟨xs, ex, rfl, hl, h3⟩, ?_⟩
    simp only [conMapSI, hm]
  · exact hpre.elim
theorem conMapSI_at {Γ : List (FuncId × Con)} {f : FuncId} {caps : List (Sigma Ty.T)} {h : Ty.T (.slice (.cons (.int .i64) (.cons (.int .i64) .nil))) → Ty.T (.int .i64)} {D : Ty.T (.slice (.cons (.int .i64) (.cons (.int .i64) .nil))) → Prop} (hf : fnTo Γ (.slice (.cons (.int .i64) (.cons (.int .i64) .nil))) (.int .i64) f caps h D) (xs : List (Ty.T (.slice (.cons (.int .i64) (.cons (.int .i64) .nil))))) (ex : Bool) :
    (conMapSI Γ).val [.s (.sl (.slice (.cons (.int .i64) (.cons (.int .i64) .nil))) xs ex), .s (.fnp f caps)] = .v (.s (.sl (.int .i64) (xs.map h) false)) := by
  simp only [conMapSI, mapV_eq (by decide) hf xs]
theorem conMapSI_pre {Γ : List (FuncId × Con)} {f : FuncId} {caps : List (Sigma Ty.T)} (xs : List (Ty.T (.slice (.cons (.int .i64) (.cons (.int .i64) .nil))))) (ex : Bool) :
    (conMapSI Γ).pre [.s (.sl (.slice (.cons (.int .i64) (.cons (.int .i64) .nil))) xs ex), .s (.fnp f caps)] = (xs.length ≤ 1000000 ∧ ∃ h, fnTo Γ (.slice (.cons (.int .i64) (.cons (.int .i64) .nil))) (.int .i64) f caps h (· ∈ xs)) := rfl
theorem conMapSI_val {Γ : List (FuncId × Con)} {f : FuncId} {caps : List (Sigma Ty.T)} (xs : List (Ty.T (.slice (.cons (.int .i64) (.cons (.int .i64) .nil))))) (ex : Bool) :
    (conMapSI Γ).val [.s (.sl (.slice (.cons (.int .i64) (.cons (.int .i64) .nil))) xs ex), .s (.fnp f caps)] = .v (.s (.sl (.int .i64) (mapV Γ (.slice (.cons (.int .i64) (.cons (.int .i64) .nil))) (.int .i64) f caps xs) false)) := rfl

noncomputable def conContI (Γ : List (FuncId × Con)) : Con := ⟨fun args => (match args with
  | [.s (.sl (.slice (.int .i64)) xs _), .s (.fnp f caps)] => ∃ h, fnTo Γ (.slice (.int .i64)) .bool f caps h (· ∈ xs)
  | _ => False), fun args => match args with
  | [.s (.sl (.slice (.int .i64)) xs _), .s (.fnp f caps)] => .v (.s (.int .i64 (idxOf (apB Γ (.slice (.int .i64)) f caps) xs)))
  | _ => .v (.s .any)⟩
theorem conContI_one (f : FuncId) (caps : List (Sigma Ty.T)) (c : Con) (he : ∀ (args : Array Value) (w : World), (callFunc f args).run Try.prog w = .ok (.enter f args) w) (hc : PureOk Try.prog f c) (h : Ty.T (.slice (.int .i64)) → Bool)
    (hv : ∀ x, c.val (Ty.av (.slice (.int .i64)) x :: caps.map capAV) = .v (.s (.bool (h x)))) :
    PureOk Try.prog 55 ⟨fun args => ∃ xs ex, args = [.s (.sl (.slice (.int .i64)) xs ex), .s (.fnp f caps)] ∧ ∀ x ∈ xs, c.pre (Ty.av (.slice (.int .i64)) x :: caps.map capAV), fun args => match args with
      | [.s (.sl (.slice (.int .i64)) xs _), _] => .v (.s (.int .i64 (idxOf h xs)))
      | _ => .v (.s .any)⟩ := by
  refine pureOkD (L := { live := [0, 1, 4, 5, 7, 8, 9, 16] }) (g1_good plT_ok he hc) rfl pl_mixed Try.func55 rfl _ 2 (by decide) (by kernel_rfl) ?_
  rintro _ ⟨xs, ex, rfl, hp⟩ hlens
  obtain ⟨⟨hl, _⟩, _⟩ := hlens
  simp only [maxLen] at hl
  refine ⟨rfl, ?_⟩
  simp only [av_int, av_slice, av_bool] at hv hp
  simp -dsimp -implicitDefEqProofs [Try.f55, g1_td, g1_y, g1_Γ, g1_E, g1_fz, plT, inI64]
  refine WpD.loop (L := { live := [0, 1, 4, 5, 7, 8, 9, 16] }) (g1_good plT_ok he hc) X0_ok pl_mixed (by kernel_rfl) (ι := Nat)
    (fun i => ⟨[(0, vS (.slice (.int .i64)) xs ex), (1, ⟨true, .v (.s (.fnp f caps))⟩), (7, vI xs.length), (8, vI i)], []⟩)
    (fun i => i ≤ xs.length ∧ ∀ j, j < i → h (xs[j]?.getD (Ty.dflt (.slice (.int .i64)))) = false) (fun i => xs.length - i) 0 (by simp) (Turn.le (by simp -dsimp -implicitDefEqProofs)) ?_
  rintro i ⟨hi, hno⟩
  simp only [Ty.dflt] at hno
  simp -dsimp -implicitDefEqProofs [hv, caps_all, caps_all', g1_td, g1_y, g1_Γ, g1_E, g1_fz, plT, inI64]
  refine ⟨fun hlt => ⟨hlt, hp _ (by rw [getD_lt hlt]; exact List.getElem_mem hlt), fun he => ?_, fun hne => ⟨⟨by omega, by omega⟩, i + 1, ⟨by omega, fun j hj => ?_⟩, by omega, TurnT.le (by simp -dsimp -implicitDefEqProofs)⟩⟩, fun hge => ?_⟩
  · exact (idxOf_at hlt _ he hno).symm
  · rcases Nat.lt_succ_iff_lt_or_eq.1 hj with h' | rfl
    · exact hno j h'
    · exact hne
  · exact (idxOf_none _ fun j hj => hno j (by omega)).symm
theorem conContI_known (Γ : List (FuncId × Con)) (hΓ : Known Try.prog Γ) : PureOk Try.prog 55 (conContI Γ) := by
  refine PureOk.of fun args hpre => ?_
  simp only [conContI] at hpre
  split at hpre
  · rename_i xs ex f caps
    obtain ⟨h, hf⟩ := hpre
    have hm : apB Γ (.slice (.int .i64)) f caps = h := funext (apB_eq hf)
    obtain ⟨c, h1, h2, h3⟩ := hf
    refine ⟨_, conContI_one f caps c (hΓ f c h1).1 (hΓ f c h1).2 h h2, ⟨xs, ex, rfl, h3⟩, ?_⟩
    simp only [conContI, hm]
  · exact hpre.elim
theorem conContI_pre {Γ : List (FuncId × Con)} {f : FuncId} {caps : List (Sigma Ty.T)} (xs : List (Ty.T (.slice (.int .i64)))) (ex : Bool) : (conContI Γ).pre [.s (.sl (.slice (.int .i64)) xs ex), .s (.fnp f caps)] = ∃ h, fnTo Γ (.slice (.int .i64)) .bool f caps h (· ∈ xs) := rfl
theorem conContI_val {Γ : List (FuncId × Con)} {f : FuncId} {caps : List (Sigma Ty.T)} (xs : List (Ty.T (.slice (.int .i64)))) (ex : Bool) : (conContI Γ).val [.s (.sl (.slice (.int .i64)) xs ex), .s (.fnp f caps)] = .v (.s (.int .i64 (idxOf (apB Γ (.slice (.int .i64)) f caps) xs))) := rfl

noncomputable def conCont (Γ : List (FuncId × Con)) : Con := ⟨fun args => (match args with
  | [.s (.sl (.slice (.int .i64)) xs _), .s (.fnp f caps)] => ∃ h, fnTo Γ (.slice (.int .i64)) .bool f caps h (· ∈ xs)
  | _ => False), fun args => match args with
  | [.s (.sl (.slice (.int .i64)) xs _), .s (.fnp f caps)] => .v (.s (.bool (xs.any (apB Γ (.slice (.int .i64)) f caps))))
  | _ => .v (.s .any)⟩
theorem conCont_pre {Γ : List (FuncId × Con)} {f : FuncId} {caps : List (Sigma Ty.T)} (xs : List (Ty.T (.slice (.int .i64)))) (ex : Bool) : (conCont Γ).pre [.s (.sl (.slice (.int .i64)) xs ex), .s (.fnp f caps)] = ∃ h, fnTo Γ (.slice (.int .i64)) .bool f caps h (· ∈ xs) := rfl
theorem conCont_val {Γ : List (FuncId × Con)} {f : FuncId} {caps : List (Sigma Ty.T)} (xs : List (Ty.T (.slice (.int .i64)))) (ex : Bool) : (conCont Γ).val [.s (.sl (.slice (.int .i64)) xs ex), .s (.fnp f caps)] = .v (.s (.bool (xs.any (apB Γ (.slice (.int .i64)) f caps)))) := rfl
theorem conCont_known (Γ : List (FuncId × Con)) (hΓ : Known Try.prog Γ) : PureOk Try.prog 39 (conCont Γ) := by
  have hg := g1_good plT_ok (enters_of Try.func55 (by kernel_rfl) rfl) (conContI_known Γ hΓ)
  refine pureOkD (L := { live := [0, 1, 4] }) hg rfl pl_mixed Try.func39 rfl _ 2 (by decide) (by kernel_rfl) ?_
  intro args hpre hlens
  simp only [conCont] at hpre
  split at hpre
  · rename_i xs ex f caps
    refine ⟨rfl, ?_⟩
    simp -dsimp -implicitDefEqProofs [Try.f39, conContI_pre, conContI_val, conCont_val, idxOf_any, g1_td, g1_y, g1_Γ, g1_E, g1_fz, plT, inI64]
    exact hpre
  · exact hpre.elim
theorem conCont_at {Γ : List (FuncId × Con)} {f : FuncId} {caps : List (Sigma Ty.T)} {h : Ty.T (.slice (.int .i64)) → Bool} {D : Ty.T (.slice (.int .i64)) → Prop} (hf : fnTo Γ (.slice (.int .i64)) .bool f caps h D) (xs : List (Ty.T (.slice (.int .i64)))) (ex : Bool) :
    (conCont Γ).val [.s (.sl (.slice (.int .i64)) xs ex), .s (.fnp f caps)] = .v (.s (.bool (xs.any h))) := by
  rw [conCont_val, funext (apB_eq hf)]

end Go.Am
