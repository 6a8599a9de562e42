/- The program of chapter 22: how an entry stands. -/
import Derived.Test.YteglanpnmnkkbaaPl4
namespace Go.Am
set_option linter.unusedVariables false
set_option linter.unusedSimpArgs false
set_option maxHeartbeats 4000000
set_option maxRecDepth 20000
open Go.RowKit Go.Proofs
attribute [local simp] thenKD_normal thenKD_exit thenKD_goto thenKD_ret inBlockKD_normal inBlockKD_exit inBlockKD_goto inBlockKD_ret noGotoKD_normal noGotoKD_exit noGotoKD_goto noGotoKD_ret roundKD_normal roundKD_exit roundKD_goto roundKD_ret frzSlotsD_nil frzSlotsD_cons frzSlotD_eq yieldVCD_trace opVCD_eq vcOpsD_nil vcOpsD_cons vcAllD_zero vcAllD_succ allAtD_nil allAtD_cons readyAux edgA vcD_skip vcD_label vcD_exit vcD_goto vcD_ret vcD_region vcD_seq vcD_seqC vcD_cond vcCondD_bool vcD_block vcD_scope vcD_loop vcD_rangeFunc yieldOf isMem isMem0 keepE envLe St.le psE yieldAV round_td round_y round_Γ vI vB vS aI aB aS look getE oper opRV putE allOk okOps Op.operands Call.operands pEv qEv mEv constRV coe RV.av loadEv loadCs takeAt indexAddrEv fieldAddrEv binEv intEv arith unEv gcond pickEv argsEv callVal callEv capAV_mk lenArgs lenEv minEv extractEv convEv funcEv allBox bound sliceEv lookupEv TD.isBool allocEv boxEv storeEv spl plainTD appendEv appendArgs makeMapEv mapUpdateEv buildEv buildSliceEv fillSV zsvOf sizeTD Ty.parses parses_flats' coeA flats_length AV.good AV.cells AV.pure SV.pure av_int av_bool av_str av_slice av_cons av_fld0 av_fld1 av_fld2 av_fld3 av_fld4 Ty.of Ty.dflt Ty.parse Ty.flat Ty.zsv Ty.fld Ty.get Ty.off Ty.nfld Ty.size coeTy junk Blk.look argEnv resEv resOk resVs oneRV retOk frzAs frzAV frzL frzSV boxCaps boxCap SV.sig sigs RV.scalar AV.scalar SV.scalar nope effVCD_eq effOf SV.ids AV.ids dedup SV.ren AV.ren RV.ren idx outId mergeB Blk.pureB flats_pure flat_pure epsSlotsD_nil epsSlotsD_cons epsSlotD_eq allEp D.parts_fnOf fvParts retEff round_E av_fn G.ye isCutD_nil isCutD_cons firstReg_region firstReg_seq firstReg_skip firstReg_ret firstReg_label firstReg_exit firstReg_goto firstReg_cond firstReg_block firstReg_scope firstReg_loop firstReg_rf eptrOf_mk flOfD_nil flOfD_cons vcFlD_cons vcFlD_nil flPairs_nil flPairs_cons vcFrD_nil vcFrD_cons makeSliceEv vcCondD_ib fzEv unfl_flats isFz round_fz
attribute [local simp ←] flats_append

def conMapRI (Γ : List (FuncId × Con)) : ECon := { wp := fun args hp K => match args, hp with
  | [.s (.sl (.slice (.int .i64)) xs _), .s (.fnp f caps)], [] => xs.length ≤ 1000000 ∧ ∃ h, fnTo Γ (.slice (.int .i64)) (.int .i64) f caps h (· ∈ xs) ∧ K (.v (.s (.own (.int .i64) 0 xs.length))) [.arr (decide (0 < xs.length)) (Ty.flats (.int .i64) (xs.map h))]
  | _, _ => False }
theorem conMapRI_one (f : FuncId) (caps : List (Sigma Ty.T)) (c : Con) (he : ∀ (args : Array Value) (w : World), (callFunc f args).run Try.prog w = .ok (.enter f args) w) (hc : PureOk Try.prog f c) (h : Ty.T (.slice (.int .i64)) → Ty.T (.int .i64))
    (hv : ∀ x, c.val (Ty.av (.slice (.int .i64)) x :: caps.map capAV) = .v (Ty.av (.int .i64) (h x))) :
    EffOk Try.prog 49 { wp := fun args hp K => ∃ xs ex, args = [.s (.sl (.slice (.int .i64)) xs ex), .s (.fnp f caps)] ∧ hp = [] ∧ xs.length ≤ 1000000 ∧ (∀ x ∈ xs, c.pre (Ty.av (.slice (.int .i64)) x :: caps.map capAV)) ∧ K (.v (.s (.own (.int .i64) 0 xs.length))) [.arr (decide (0 < xs.length)) (Ty.flats (.int .i64) (xs.map h))] } := by
  refine effOkD (L := { live := [0, 1, 4, 6, 7, 8, 9, 10] }) (g1_good plT_ok he hc) rfl pl_mixed Try.func49 rfl _ 2 (by decide) (by kernel_rfl) ?_
  rintro _ _ K ⟨xs, ex, rfl, rfl, hl, hp, hK⟩ _
  refine ⟨rfl, ?_⟩
  simp only [av_int, av_slice, av_bool] at hv hp
  simp -dsimp -implicitDefEqProofs [Try.f49, g1_td, g1_y, g1_Γ, g1_E, g1_fz, plT, inI64]
  refine WpD.turn _ (Turn.virt (k := 4) (t := (.int .i64)) (xs := []) (by simp [look])) ?_
  refine WpD.loop (L := { live := [0, 1, 4, 6, 7, 8, 9, 10] }) (g1_good plT_ok he hc) X0_ok pl_mixed (by kernel_rfl) (ι := Nat)
    (fun i => ⟨[(1, ⟨true, .v (.s (.fnp f caps))⟩), (4, ⟨true, .v (.s (.own (.int .i64) 0 i))⟩), (7, vS (.slice (.int .i64)) xs ex), (8, vI xs.length), (9, vI i)], [.arr (decide (0 < i)) (Ty.flats (.int .i64) ((xs.map h).take i))]⟩)
    (fun i => i ≤ xs.length) (fun i => xs.length - i) 0 (by simp) (Turn.le (by simp -dsimp -implicitDefEqProofs)) ?_
  intro i hi
  have hml : min i xs.length = i := by omega
  simp -dsimp -implicitDefEqProofs [hv, hml, caps_all, caps_all', g1_td, g1_y, g1_Γ, g1_E, g1_fz, plT, inI64]
  refine ⟨fun hlt => ⟨hlt, hp _ (by rw [getD_lt hlt]; exact List.getElem_mem hlt), ⟨by omega, by simp only [maxLen]; omega⟩, ⟨by omega, by omega⟩, i + 1, by omega, by omega, TurnT.le ?_⟩, fun hge => ?_⟩
  · have := map_take_succ h xs hlt (Ty.dflt (.slice (.int .i64)))
    simp only [Ty.dflt] at this
    rw [this]
    simp -dsimp -implicitDefEqProofs
  · obtain rfl : i = xs.length := by omega
    have h1 := map_take_all h xs (Nat.le_refl _)
    simp -dsimp -implicitDefEqProofs [h1]
    exact hK
theorem conMapRI_known (Γ : List (FuncId × Con)) (hΓ : Known Try.prog Γ) : EffOk Try.prog 49 (conMapRI Γ) := by
  refine EffOk.of fun args hp K hpre => ?_
  simp only [conMapRI] at hpre
  split at hpre
  · rename_i xs ex f caps
    obtain ⟨hl, h, ⟨c, h1, h2, h3⟩, hK⟩ := hpre
    exact ⟨_, conMapRI_one f caps c (hΓ f c h1).1 (hΓ f c h1).2 h h2, xs, ex, rfl, rfl, hl, h3, hK⟩
  · exact hpre.elim

noncomputable def conOwn1 : Con := ⟨fun args => (match args with
  | [.s (.sl (.int .i64) row _), .s (.eptr (.int .i64) e)] => 0 ≤ e ∧ e < row.length
  | _ => False), fun args => match args with
  | [.s (.sl (.int .i64) row _), .s (.eptr (.int .i64) e)] => .v (aI (row[e.toNat]?.getD 0))
  | _ => .v (.s .any)⟩
theorem conOwn1_pre (row : List (Ty.T (.int .i64))) (exrow : Bool) (e : Ty.T (.int .i64)) : conOwn1.pre [.s (.sl (.int .i64) row exrow), .s (.eptr (.int .i64) e)] = (0 ≤ e ∧ e < row.length) := rfl
theorem conOwn1_val (row : List (Ty.T (.int .i64))) (exrow : Bool) (e : Ty.T (.int .i64)) : conOwn1.val [.s (.sl (.int .i64) row exrow), .s (.eptr (.int .i64) e)] = .v (aI (row[e.toNat]?.getD 0)) := rfl
theorem own1_ok : PureOk Try.prog 50 conOwn1 := by
  refine pureOkD (L := { live := [0, 1, 3] }) pl0_good rfl pl_mixed Try.func50 rfl conOwn1 2 (by decide) (by kernel_rfl) ?_
  intro args hpre hlens
  simp only [conOwn1] at hpre
  split at hpre
  case h_2 => exact hpre.elim
  rename_i row ex e
  simp only [allLen, AV.lenOk, SV.lenOk, Ty.lenOk, maxLen, and_true, implies_true, true_and] at hlens
  refine ⟨rfl, ?_⟩
  simp -dsimp -implicitDefEqProofs [Try.f50, conOwn1_val, pl0_td, pl0_y, pl0_Γ, pl0_E, pl0_fz, plT, pl0Γ, pl0E, inI64]
  exact hpre
noncomputable def gRI : List (FuncId × Con) := [(50, conOwn1)]
theorem gRI_known : Known Try.prog gRI := .cons (enters_of Try.func50 (by kernel_rfl) rfl) own1_ok .nil
theorem fn_own1 (e : Int) : fnTo gRI tRow tI 50 [⟨tI, e⟩] (fun row : List Int => row[e.toNat]?.getD 0) (fun row : List Int => 0 ≤ e ∧ e < row.length) := ⟨conOwn1, rfl, fun _ => rfl, fun _ h => h⟩
noncomputable def pl10Γ : List (FuncId × Con) := (11, conOrdinals) :: pl9Γ
theorem pl10Γ_ok : ∀ p ∈ pl10Γ, (∀ (args : Array Value) (w : World), (callFunc p.1 args).run Try.prog w = .ok (.enter p.1 args) w) ∧ PureOk Try.prog p.1 p.2 := by
  simp only [pl10Γ, List.forall_mem_cons]
  exact ⟨⟨enters_of Try.func11 (by kernel_rfl) rfl, ordinals_ok⟩, pl9Γ_ok⟩
noncomputable def pl10E : List (FuncId × ECon) := (49, (conMapRI gRI)) :: pl9E
theorem pl10E_ok : ∀ p ∈ pl10E, (∀ (args : Array Value) (w : World), (callFunc p.1 args).run Try.prog w = .ok (.enter p.1 args) w) ∧ EffOk Try.prog p.1 p.2 := by
  simp only [pl10E, List.forall_mem_cons]
  exact ⟨⟨enters_of Try.func49 (by kernel_rfl) rfl, (conMapRI_known gRI gRI_known)⟩, pl9E_ok⟩
noncomputable def pl10 : G := { τ := plT, Γ := pl10Γ, E := pl10E }
theorem pl10_good : pl10.good Try.prog := good_of_all (plT_ok _ rfl) pl10Γ_ok pl10E_ok
theorem pl10_td (t : TypeId) : pl10.td t = (look plT t).getD .other := rfl
theorem pl10_y : pl10.y = false := rfl
theorem pl10_Γ : pl10.Γ = pl10Γ := rfl
theorem pl10_E : pl10.E = pl10E := rfl
theorem pl10_fz : pl10.fz = [] := rfl
noncomputable def pl10y : G := { τ := plT, Γ := pl10Γ, E := pl10E, y := true }
theorem pl10y_good : pl10y.good Try.prog := good_of_all (plT_ok _ rfl) pl10Γ_ok pl10E_ok
theorem pl10y_td (t : TypeId) : pl10y.td t = (look plT t).getD .other := rfl
theorem pl10y_y : pl10y.y = true := rfl
theorem pl10y_Γ : pl10y.Γ = pl10Γ := rfl
theorem pl10y_E : pl10y.E = pl10E := rfl
theorem pl10y_fz : pl10y.fz = [] := rfl

/-- decide. -/
abbrev Sd := Int × Int × Unit
def sgn (c : Int) : Int := if (if -1 < c then c else -1) < 1 then (if -1 < c then c else -1) else 1
def dec : List Sd → List Sd → Int
  | x :: a, y :: b => if x.1 ≠ y.1 then sgn (y.1 - x.1) else if x.2.1 ≠ y.2.1 then sgn (x.2.1 - y.2.1) else dec a b
  | _, _ => 0
def small (a : List Sd) : Prop := ∀ x ∈ a, (-1000000000000 ≤ x.1 ∧ x.1 ≤ 1000000000000) ∧ (-1000000000000 ≤ x.2.1 ∧ x.2.1 ≤ 1000000000000)
theorem drop_get {α : Type} (xs : List α) {i : Nat} (hi : i < xs.length) (d : α) : xs.drop i = xs[i]?.getD d :: xs.drop (i + 1) := by
  rw [getD_lt hi]; exact List.drop_eq_getElem_cons hi
theorem dec_1 {a b : List Sd} {i : Nat} (ha : i < a.length) (hb : i < b.length) (h : ¬ (a[i]?.getD (0, 0, ())).1 = (b[i]?.getD (0, 0, ())).1) : dec (a.drop i) (b.drop i) = sgn ((b[i]?.getD (0, 0, ())).1 - (a[i]?.getD (0, 0, ())).1) := by
  rw [drop_get a ha (0, 0, ()), drop_get b hb (0, 0, ()), dec, if_pos h]
theorem dec_2 {a b : List Sd} {i : Nat} (ha : i < a.length) (hb : i < b.length) (h : (a[i]?.getD (0, 0, ())).1 = (b[i]?.getD (0, 0, ())).1) (h' : ¬ (a[i]?.getD (0, 0, ())).2.1 = (b[i]?.getD (0, 0, ())).2.1) : dec (a.drop i) (b.drop i) = sgn ((a[i]?.getD (0, 0, ())).2.1 - (b[i]?.getD (0, 0, ())).2.1) := by
  rw [drop_get a ha (0, 0, ()), drop_get b hb (0, 0, ()), dec, if_neg (by rw [h]; simp), if_pos h']
theorem dec_3 {a b : List Sd} {i : Nat} (ha : i < a.length) (hb : i < b.length) (h : (a[i]?.getD (0, 0, ())).1 = (b[i]?.getD (0, 0, ())).1) (h' : (a[i]?.getD (0, 0, ())).2.1 = (b[i]?.getD (0, 0, ())).2.1) : dec (a.drop i) (b.drop i) = dec (a.drop (i + 1)) (b.drop (i + 1)) := by
  rw [drop_get a ha (0, 0, ()), drop_get b hb (0, 0, ()), dec, if_neg (by rw [h]; simp), if_neg (by rw [h']; simp)]
theorem bd {x y : Int} (hx : -1000000000000 ≤ x ∧ x ≤ 1000000000000) (hy : -1000000000000 ≤ y ∧ y ≤ 1000000000000) : -9223372036854775808 ≤ x - y ∧ x - y ≤ 9223372036854775807 := by omega
theorem small_get {a : List Sd} (h : small a) {i : Nat} (hi : i < a.length) : (-1000000000000 ≤ (a[i]?.getD (0, 0, ())).1 ∧ (a[i]?.getD (0, 0, ())).1 ≤ 1000000000000) ∧ (-1000000000000 ≤ (a[i]?.getD (0, 0, ())).2.1 ∧ (a[i]?.getD (0, 0, ())).2.1 ≤ 1000000000000) := by
  rw [getD_lt hi]; exact h _ (List.getElem_mem hi)
noncomputable def conDecide : Con := ⟨fun args => (match args with
  | [.s (.sl (.cons (.int .i64) (.cons (.int .i64) .nil)) a _), .s (.sl (.cons (.int .i64) (.cons (.int .i64) .nil)) b _)] => a.length ≤ b.length ∧ a.length ≤ 1000000 ∧ small a ∧ small b
  | _ => False), fun args => match args with
  | [.s (.sl (.cons (.int .i64) (.cons (.int .i64) .nil)) a _), .s (.sl (.cons (.int .i64) (.cons (.int .i64) .nil)) b _)] => .v (aI (dec a b))
  | _ => .v (.s .any)⟩
theorem conDecide_pre (a : List (Ty.T (.cons (.int .i64) (.cons (.int .i64) .nil)))) (exa : Bool) (b : List (Ty.T (.cons (.int .i64) (.cons (.int .i64) .nil)))) (exb : Bool) : conDecide.pre [.s (.sl (.cons (.int .i64) (.cons (.int .i64) .nil)) a exa), .s (.sl (.cons (.int .i64) (.cons (.int .i64) .nil)) b exb)] = (a.length ≤ b.length ∧ a.length ≤ 1000000 ∧ small a ∧ small b) := rfl
theorem conDecide_val (a : List (Ty.T (.cons (.int .i64) (.cons (.int .i64) .nil)))) (exa : Bool) (b : List (Ty.T (.cons (.int .i64) (.cons (.int .i64) .nil)))) (exb : Bool) : conDecide.val [.s (.sl (.cons (.int .i64) (.cons (.int .i64) .nil)) a exa), .s (.sl (.cons (.int .i64) (.cons (.int .i64) .nil)) b exb)] = .v (aI (dec a b)) := rfl
theorem decide_ok : PureOk Try.prog 28 conDecide := by
  refine pureOkD (L := { live := [0, 1, 4, 5, 6, 8, 9, 10, 12, 35] }) pl0_good rfl pl_mixed Try.func28 rfl conDecide 2 (by decide) (by kernel_rfl) ?_
  intro args hpre hlens
  simp only [conDecide] at hpre
  split at hpre
  case h_2 => exact hpre.elim
  rename_i a ex b ex'
  simp only [allLen, AV.lenOk, SV.lenOk, Ty.lenOk, maxLen, and_true, implies_true, true_and] at hlens
  refine ⟨rfl, ?_⟩
  simp -dsimp -implicitDefEqProofs [Try.f28, conDecide_val, pl0_td, pl0_y, pl0_Γ, pl0_E, pl0_fz, plT, pl0Γ, pl0E, inI64]
  obtain ⟨hl, hl', ha, hb⟩ := hpre
  refine WpD.loop (L := { live := [0, 1, 4, 5, 6, 8, 9, 10, 12, 35] }) pl0_good X0_ok pl_mixed (by kernel_rfl)
    (fun i : Nat => ⟨[(0, vS tStand a ex), (1, vS tStand b ex'), (5, vI 0), (8, vI a.length), (9, vI i)], []⟩)
    (fun i => i ≤ a.length ∧ dec a b = dec (a.drop i) (b.drop i)) (fun i => a.length - i) 0 (by simp) (Turn.le (by simp -dsimp -implicitDefEqProofs)) ?_
  rintro i ⟨hi, he⟩
  simp -dsimp -implicitDefEqProofs [conDecide_val, pl0_td, pl0_y, pl0_Γ, pl0_E, pl0_fz, plT, pl0Γ, pl0E, inI64]
  refine ⟨fun hlt => ?_, fun hge => by rw [he, List.drop_of_length_le hge]; rfl⟩
  have hlb : i < b.length := by omega
  obtain ⟨a1, a2⟩ := small_get ha hlt
  obtain ⟨b1, b2⟩ := small_get hb hlb
  exact ⟨hlt, hlb, fun hne => ⟨hlb, hlt, bd b1 a1, by rw [he, dec_1 hlt hlb hne]; rfl⟩, fun heq => ⟨hlt, hlb, fun hne => ⟨hlt, hlb, bd a2 b2, by rw [he, dec_2 hlt hlb heq hne]; rfl⟩, fun heq2 => ⟨⟨by omega, by omega⟩, i + 1, ⟨by omega, by rw [he, dec_3 hlt hlb heq heq2]⟩, by omega, TurnT.le (by simp -dsimp -implicitDefEqProofs)⟩⟩⟩

/-- stands. -/
def stP (c : List Int) (p : Int) : Sd := if 2 * (c.filter fun x => decide (x ≤ p)).length ≤ c.length then (0, 0, ()) else (((c.filter fun x => decide (x ≤ p)).length : Nat), (c.filter fun x => decide (x ≤ p)).sum, ())
def col (l : List (List Int)) (e : Int) : List Int := l.map fun row => row[e.toNat]?.getD 0
def standL (l : List (List Int)) (e : Int) : List Sd := (List.range (l[0]?.getD []).length).map fun p : Nat => stP (col l e) ((p : Int) + 1)
def standOk (l : List (List Int)) (e : Int) : Prop := 0 < l.length ∧ l.length ≤ 256 ∧ (l[0]?.getD []).length ≤ 4096 ∧ 0 ≤ e ∧ ∀ row ∈ l, e < row.length ∧ ∀ n ∈ row, 1 ≤ n ∧ n ≤ 10000
noncomputable def conStands : Con := ⟨fun args => (match args with
  | [.s (.sl (.slice (.int .i64)) l _), .s (.int .i64 e)] => True
  | _ => False), fun args => match args with
  | [.s (.sl (.slice (.int .i64)) l _), .s (.int _ e)] => .v (.s (.fnp 48 [⟨.slice (.slice (.int .i64)), l⟩, ⟨.int .i64, e⟩]))
  | _ => .v (.s .any)⟩
theorem conStands_pre (l : List (Ty.T (.slice (.int .i64)))) (exl : Bool) (e : Int) : conStands.pre [.s (.sl (.slice (.int .i64)) l exl), .s (.int .i64 e)] = (True) := rfl
theorem conStands_val (l : List (Ty.T (.slice (.int .i64)))) (exl : Bool) (e : Int) : conStands.val [.s (.sl (.slice (.int .i64)) l exl), .s (.int .i64 e)] = .v (.s (.fnp 48 [⟨.slice (.slice (.int .i64)), l⟩, ⟨.int .i64, e⟩])) := rfl
theorem stands_ok : PureOk Try.prog 30 conStands := by
  refine pureOkD (L := { live := [0, 1, 2, 3, 4] }) pl0_good rfl pl_mixed Try.func30 rfl conStands 2 (by decide) (by kernel_rfl) ?_
  intro args hpre hlens
  simp only [conStands] at hpre
  split at hpre
  case h_2 => exact hpre.elim
  rename_i l ex e
  simp only [allLen, AV.lenOk, SV.lenOk, Ty.lenOk, maxLen, and_true, implies_true, true_and] at hlens
  refine ⟨rfl, ?_⟩
  simp -dsimp -implicitDefEqProofs [Try.f30, conStands_val, pl0_td, pl0_y, pl0_Γ, pl0_E, pl0_fz, plT, pl0Γ, pl0E, inI64]
def itStands : ItCon := ⟨fun caps => (match caps with
  | [.s (.eptr (.slice (.slice (.int .i64))) l), .s (.eptr (.int .i64) e)] => standOk l e
  | _ => False), fun caps => match caps with
  | [.s (.eptr (.slice (.slice (.int .i64))) l), .s (.eptr (.int .i64) e)] => (standL l e).map fun x => [Ty.av tStand x]
  | _ => []⟩
theorem itStands_xs (l : List (List Int)) (e : Int) : itStands.xs [.s (.eptr (.slice (.slice tI)) l), .s (.eptr tI e)] = (standL l e).map fun x => [Ty.av tStand x] := rfl
/-- What is at most p, in what is sorted. -/
def leN (c : List Int) (p : Int) : Nat := (c.filter fun x => decide (x ≤ p)).length
theorem leN_le (c : List Int) (p : Int) : leN c p ≤ c.length := List.length_filter_le ..
theorem leN_below (c : List Int) (p : Int) : leN c p = below (p + 1) c := by
  unfold leN below
  congr 1
  exact List.filter_congr fun x _ => decide_eq_decide.2 (by omega)
theorem leN_mono (c : List Int) {p q : Int} (h : p ≤ q) : leN c p ≤ leN c q := filter_le _ _ (fun x hx => by simp at hx ⊢; omega) _
theorem leN_at {c : List Int} (hs : c.Pairwise (fun a b => a ≤ b)) {p : Int} {i : Nat} (hi : i < c.length) : c[i]?.getD 0 ≤ p ↔ i < leN c p := by
  rw [leN_below, ← below_at hs hi]; omega
theorem le_take {c : List Int} (hs : c.Pairwise (fun a b => a ≤ b)) (p : Int) : (c.filter fun x => decide (x ≤ p)) = c.take (leN c p) := by
  have h1 : c = c.take (leN c p) ++ c.drop (leN c p) := (List.take_append_drop ..).symm
  have h2 : (c.take (leN c p)).filter (fun x => decide (x ≤ p)) = c.take (leN c p) := by
    rw [List.filter_eq_self]
    intro x hx
    obtain ⟨j, hj, rfl⟩ := List.mem_iff_getElem.1 hx
    rw [List.length_take] at hj
    have := (leN_at hs (p := p) (show j < c.length by omega)).2 (by omega)
    rw [getD_lt (by omega)] at this
    simpa using this
  have h3 : (c.drop (leN c p)).filter (fun x => decide (x ≤ p)) = [] := by
    rw [List.filter_eq_nil_iff]
    intro x hx
    obtain ⟨j, hj, rfl⟩ := List.mem_iff_getElem.1 hx
    rw [List.length_drop] at hj
    have := mt (leN_at hs (p := p) (show leN c p + j < c.length by omega)).1 (by omega)
    rw [getD_lt (by omega)] at this
    simpa using this
  conv => lhs; rw [h1, List.filter_append, h2, h3, List.append_nil]
theorem perm_sum {c d : List Int} (h : c.Perm d) : c.sum = d.sum := by
  induction h with
  | nil => rfl
  | cons x _ ih => simp [ih]
  | swap x y l => simp only [List.sum_cons]; omega
  | trans _ _ h1 h2 => exact h1.trans h2
theorem stP_perm {c d : List Int} (h : c.Perm d) (p : Int) : stP c p = stP d p := by
  unfold stP
  have hf := h.filter fun x => decide (x ≤ p)
  rw [hf.length_eq, h.length_eq, perm_sum hf]
theorem stP_sorted {c : List Int} (hs : c.Pairwise (fun a b => a ≤ b)) (p : Int) : stP c p = if 2 * leN c p ≤ c.length then (0, 0, ()) else (((leN c p : Nat) : Int), (c.take (leN c p)).sum, ()) := by
  unfold stP
  rw [← le_take hs p]
  rfl
theorem sum_le (c : List Int) (h : ∀ n ∈ c, 1 ≤ n ∧ n ≤ 10000) : 0 ≤ c.sum ∧ c.sum ≤ 10000 * c.length := by
  induction c with
  | nil => simp
  | cons x c ih =>
    have h1 := ih fun n hn => h n (List.mem_cons_of_mem _ hn)
    have h2 := h x (List.mem_cons_self ..)
    simp only [List.sum_cons, List.length_cons]
    omega
theorem flats_at {xs : List Int} {j : Nat} (h : j < xs.length) : (tI.flats xs)[j]? = some (.int .i64 (xs[j]?.getD 0)) := by
  rw [flats_int_get, List.getElem?_eq_getElem h]; rfl
theorem flats_out {xs : List Int} {j : Nat} (h : xs.length ≤ j) : (tI.flats xs)[j]? = none := by
  rw [flats_int_get, List.getElem?_eq_none h]; rfl
theorem standL_get {l : List (List Int)} {e : Int} {p : Nat} (h : p < (l[0]?.getD []).length) : (standL l e)[p]? = some (stP (isort (col l e)) ((p : Int) + 1)) := by
  unfold standL
  rw [List.getElem?_map, List.getElem?_range h, stP_perm (isort_perm (col l e))]
  rfl
theorem standL_len (l : List (List Int)) (e : Int) : (standL l e).length = (l[0]?.getD []).length := by simp [standL]
theorem stands1_ok : ItOk Try.prog 48 itStands := by
  refine itOkD (L := { live := [0, 1, 2, 4, 5, 6, 7, 8, 19, 33, 49, 54] }) pl10y_good rfl pl_mixed Try.func48 (enters_of Try.func48 (by kernel_rfl) rfl) rfl rfl itStands 2 (by decide) (by kernel_rfl) ?_
  intro caps y hpre hlens
  simp only [itStands] at hpre
  split at hpre
  · rename_i l e
    obtain ⟨h1, h2, h3, h4, h5⟩ := hpre
    refine ⟨rfl, fun X hX => ?_⟩
    rw [itStands_xs]
    simp -dsimp -implicitDefEqProofs [Try.f48, pl10y_td, pl10y_y, pl10y_Γ, pl10y_E, pl10y_fz, plT, pl10Γ, pl10E, pl9Γ, pl9E, pl8Γ, pl8E, pl7Γ, pl7E, pl6Γ, pl6E, pl5Γ, pl5E, pl4Γ, pl4E, pl3Γ, pl3E, pl2Γ, pl2E, pl1Γ, pl1E, pl0Γ, pl0E, conOrdinals_pre, conOrdinals_val, conMapRI, conCheck_pre, conCheck_val, conMapRR_pre, conMapRR_val, conCont_pre, conCont_val, conTable_pre, conTable_val, conEqual_pre, conEqual_val, conPlaced_pre, conPlaced_val, conMapII_pre, conMapII_val, conSorted, conBin_pre, conBin_val, conValues_pre, conValues_val, conColI, conSort, conLess_pre, conLess_val, conNaN_pre, conNaN_val, inI64]
    refine ⟨by omega, _, (fn_own1 e).mono (fun row hr => ⟨h4, (h5 row hr).1⟩), col l e, rfl, by simp [col], by simp [col]; omega, .inl h1, ?_⟩
    have hsl : (isort (col l e)).length = List.length l := by rw [isort_length]; simp [col]
    have hss := isort_sorted (col l e)
    have hsr : ∀ n ∈ isort (col l e), 1 ≤ n ∧ n ≤ 10000 := fun n hn => by
      rw [(isort_perm _).mem_iff, col, List.mem_map] at hn
      obtain ⟨row, hr, rfl⟩ := hn
      obtain ⟨q1, q2⟩ := h5 row hr
      rw [getD_lt (show e.toNat < row.length by omega)]
      exact q2 _ (List.getElem_mem _)
    have hget := fun p => standL_get (l := l) (e := e) (p := p)
    have hslen := standL_len l e
    generalize hown : isort (col l e) = own at *
    generalize hst : standL l e = sts at *
    refine WpD.loop (L := { live := [0, 1, 2, 4, 5, 6, 7, 8, 19, 33, 49, 54] }) pl10y_good hX pl_mixed (by kernel_rfl)
      (fun p : Nat => ⟨[(0, ⟨true, .v (.s (.val (.func (.yield y) #[] #[])))⟩), (1, ⟨true, .v (.s (.eptr (.slice tRow) l))⟩), (4, ⟨true, .v (.s (.own tI 1 (List.length l)))⟩), (5, vI (leN own p)), (6, vI (own.take (leN own p)).sum), (7, vI (p + 1))],
        [.trace y (sts.map fun x => [.agg [.int .i64 x.1, .int .i64 x.2.1]]) p false, .arr (decide (0 < List.length l)) (tI.flats own)]⟩)
      (fun p => p ≤ (l[0]?.getD []).length) (fun p => (l[0]?.getD []).length - p) 0 (by simp) (Turn.le ?_) ?_
    · have h0 : leN own 0 = 0 := by
        unfold leN
        rw [List.length_eq_zero_iff, List.filter_eq_nil_iff]
        intro x hx
        have := hsr x hx
        simp; omega
      simp -dsimp -implicitDefEqProofs [h0]
    · intro p hp
      simp -dsimp -implicitDefEqProofs [pl10y_td, pl10y_y, pl10y_Γ, pl10y_E, pl10y_fz, plT, pl10Γ, pl10E, pl9Γ, pl9E, pl8Γ, pl8E, pl7Γ, pl7E, pl6Γ, pl6E, pl5Γ, pl5E, pl4Γ, pl4E, pl3Γ, pl3E, pl2Γ, pl2E, pl1Γ, pl1E, pl0Γ, pl0E, conOrdinals_pre, conOrdinals_val, conMapRI, conCheck_pre, conCheck_val, conMapRR_pre, conMapRR_val, conCont_pre, conCont_val, conTable_pre, conTable_val, conEqual_pre, conEqual_val, conPlaced_pre, conPlaced_val, conMapII_pre, conMapII_val, conSorted, conBin_pre, conBin_val, conValues_pre, conValues_val, conColI, conSort, conLess_pre, conLess_val, conNaN_pre, conNaN_val, inI64]
      refine ⟨h1, fun hlt => ?_, fun hge => by omega⟩
      have hm1 := leN_mono own (p := (p : Int)) (q := (p : Int) + 1) (by omega)
      have hm2 := leN_le own ((p : Int) + 1)
      refine WpD.loop (L := { live := [0, 1, 2, 4, 5, 6, 7, 8, 19, 33, 49, 54] }) pl10y_good hX pl_mixed (by kernel_rfl)
        (fun j : Nat => ⟨[(0, ⟨true, .v (.s (.val (.func (.yield y) #[] #[])))⟩), (1, ⟨true, .v (.s (.eptr (.slice tRow) l))⟩), (4, ⟨true, .v (.s (.own tI 1 (List.length l)))⟩), (5, vI j), (6, vI (own.take j).sum), (7, vI (p + 1))],
          [.trace y (sts.map fun x => [.agg [.int .i64 x.1, .int .i64 x.2.1]]) p false, .arr (decide (0 < List.length l)) (tI.flats own)]⟩)
        (fun j => j ≤ leN own (p + 1)) (fun j => leN own (p + 1) - j) (leN own p) hm1 (Turn.le (by simp -dsimp -implicitDefEqProofs)) ?_
      intro j hj
      have hsum := sum_le (own.take j) (fun n hn => hsr n (List.mem_of_mem_take hn))
      have htl : (own.take j).length ≤ 256 := by rw [List.length_take]; omega
      have hg := hget p (by omega)
      rw [stP_sorted hss] at hg
      rcases Nat.lt_or_ge j own.length with hjl | hjl
      · have hf := flats_at hjl
        have hat := leN_at hss (p := (p : Int) + 1) hjl
        simp -dsimp -implicitDefEqProofs [hsl, hf, pl10y_td, pl10y_y, pl10y_Γ, pl10y_E, pl10y_fz, plT, pl10Γ, pl10E, pl9Γ, pl9E, pl8Γ, pl8E, pl7Γ, pl7E, pl6Γ, pl6E, pl5Γ, pl5E, pl4Γ, pl4E, pl3Γ, pl3E, pl2Γ, pl2E, pl1Γ, pl1E, pl0Γ, pl0E, conOrdinals_pre, conOrdinals_val, conMapRI, conCheck_pre, conCheck_val, conMapRR_pre, conMapRR_val, conCont_pre, conCont_val, conTable_pre, conTable_val, conEqual_pre, conEqual_val, conPlaced_pre, conPlaced_val, conMapII_pre, conMapII_val, conSorted, conBin_pre, conBin_val, conValues_pre, conValues_val, conColI, conSort, conLess_pre, conLess_val, conNaN_pre, conNaN_val, inI64]
        rw [hsl] at hjl
        refine ⟨fun _ => ⟨hjl, h1, hjl⟩, fun _ hle => ?_, fun hgt => ?_⟩
        · have := hat.1 hle
          have hnj := hsr (own[j]'(by omega)) (List.getElem_mem _)
          have hsu : (own.take (j + 1)).sum = (own.take j).sum + own[j]?.getD 0 := by rw [take_succ_get own (by omega) 0, List.sum_append]; simp
          rw [getD_lt (show j < own.length by omega)] at hsu ⊢
          refine ⟨⟨h1, hjl⟩, hjl, ⟨by omega, by omega⟩, ⟨by omega, by omega⟩, j + 1, by omega, by omega, TurnT.le (by simp -dsimp -implicitDefEqProofs [hsu])⟩
        · have hje : j = leN own ((p : Int) + 1) := by
            have := mt hat.2 (by have := hgt hjl; omega)
            omega
          subst hje
          refine ⟨⟨by omega, by omega⟩, fun hle => ⟨⟨(), by rw [hg, if_pos (by omega)]⟩, ⟨by omega, by omega⟩, p + 1, by omega, by omega, TurnT.trunc hX (hp := [_, _]) (junk := [_]) (by simp) (by simp only [List.length_cons, List.length_nil, List.all_cons, List.all_nil, arr_below, Bool.and_true] <;> simp [Blk.below, SV.below]) (by simp -dsimp -implicitDefEqProofs) (by simp [envBelow, RV.below, AV.below, SV.below])⟩, fun hgt => ⟨⟨(), by rw [hg, if_neg (by omega)]⟩, ⟨by omega, by omega⟩, p + 1, by omega, by omega, TurnT.trunc hX (hp := [_, _]) (junk := [_]) (by simp) (by simp only [List.length_cons, List.length_nil, List.all_cons, List.all_nil, arr_below, Bool.and_true] <;> simp [Blk.below, SV.below]) (by simp -dsimp -implicitDefEqProofs) (by simp [envBelow, RV.below, AV.below, SV.below])⟩⟩
      · have hf := flats_out hjl
        simp -dsimp -implicitDefEqProofs [hsl, hf, pl10y_td, pl10y_y, pl10y_Γ, pl10y_E, pl10y_fz, plT, pl10Γ, pl10E, pl9Γ, pl9E, pl8Γ, pl8E, pl7Γ, pl7E, pl6Γ, pl6E, pl5Γ, pl5E, pl4Γ, pl4E, pl3Γ, pl3E, pl2Γ, pl2E, pl1Γ, pl1E, pl0Γ, pl0E, conOrdinals_pre, conOrdinals_val, conMapRI, conCheck_pre, conCheck_val, conMapRR_pre, conMapRR_val, conCont_pre, conCont_val, conTable_pre, conTable_val, conEqual_pre, conEqual_val, conPlaced_pre, conPlaced_val, conMapII_pre, conMapII_val, conSorted, conBin_pre, conBin_val, conValues_pre, conValues_val, conColI, conSort, conLess_pre, conLess_val, conNaN_pre, conNaN_val, inI64]
        have hje : j = leN own ((p : Int) + 1) := by omega
        have hll : List.length l ≤ j := by omega
        clear hjl
        subst hje
        refine ⟨fun hq => by omega, hll, ⟨by omega, by omega⟩, fun hle => ⟨⟨(), by rw [hg, if_pos (by omega)]⟩, ⟨by omega, by omega⟩, p + 1, by omega, by omega, TurnT.trunc hX (hp := [_, _]) (junk := [_]) (by simp) (by simp only [List.length_cons, List.length_nil, List.all_cons, List.all_nil, arr_below, Bool.and_true] <;> simp [Blk.below, SV.below]) (by simp -dsimp -implicitDefEqProofs) (by simp [envBelow, RV.below, AV.below, SV.below])⟩, fun hgt => ⟨⟨(), by rw [hg, if_neg (by omega)]⟩, ⟨by omega, by omega⟩, p + 1, by omega, by omega, TurnT.trunc hX (hp := [_, _]) (junk := [_]) (by simp) (by simp only [List.length_cons, List.length_nil, List.all_cons, List.all_nil, arr_below, Bool.and_true] <;> simp [Blk.below, SV.below]) (by simp -dsimp -implicitDefEqProofs) (by simp [envBelow, RV.below, AV.below, SV.below])⟩⟩
  · exact hpre.elim
end Go.Am
