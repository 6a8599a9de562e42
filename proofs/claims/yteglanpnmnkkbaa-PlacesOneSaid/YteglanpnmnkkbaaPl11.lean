/- The program of chapter 22: the law on rankings. -/
import Derived.Test.YteglanpnmnkkbaaPl10
namespace Go.Am
set_option linter.unusedVariables false
set_option linter.unusedSimpArgs false
set_option maxHeartbeats 4000000
set_option maxRecDepth 20000
open Go.RowKit Go.Proofs
attribute [local simp] thenKD_normal thenKD_exit thenKD_goto thenKD_ret inBlockKD_normal inBlockKD_exit inBlockKD_goto inBlockKD_ret noGotoKD_normal noGotoKD_exit noGotoKD_goto noGotoKD_ret roundKD_normal roundKD_exit roundKD_goto roundKD_ret frzSlotsD_nil frzSlotsD_cons frzSlotD_eq yieldVCD_trace opVCD_eq vcOpsD_nil vcOpsD_cons vcAllD_zero vcAllD_succ allAtD_nil allAtD_cons readyAux edgA vcD_skip vcD_label vcD_exit vcD_goto vcD_ret vcD_region vcD_seq vcD_seqC vcD_cond vcCondD_bool vcD_block vcD_scope vcD_loop vcD_rangeFunc yieldOf isMem isMem0 keepE envLe St.le psE yieldAV round_td round_y round_Γ vI vB vS aI aB aS look getE oper opRV putE allOk okOps Op.operands Call.operands pEv qEv mEv constRV coe RV.av loadEv loadCs takeAt indexAddrEv fieldAddrEv binEv intEv arith unEv gcond pickEv argsEv callVal callEv capAV_mk lenArgs lenEv minEv extractEv convEv funcEv allBox bound sliceEv lookupEv TD.isBool allocEv boxEv storeEv spl plainTD appendEv appendArgs makeMapEv mapUpdateEv buildEv buildSliceEv fillSV zsvOf sizeTD Ty.parses parses_flats' coeA flats_length AV.good AV.cells AV.pure SV.pure av_int av_bool av_str av_slice av_cons av_fld0 av_fld1 av_fld2 av_fld3 av_fld4 Ty.of Ty.dflt Ty.parse Ty.flat Ty.zsv Ty.fld Ty.get Ty.off Ty.nfld Ty.size coeTy junk Blk.look argEnv resEv resOk resVs oneRV retOk frzAs frzAV frzL frzSV boxCaps boxCap SV.sig sigs RV.scalar AV.scalar SV.scalar nope effVCD_eq effOf SV.ids AV.ids dedup SV.ren AV.ren RV.ren idx outId mergeB Blk.pureB flats_pure flat_pure epsSlotsD_nil epsSlotsD_cons epsSlotD_eq allEp D.parts_fnOf fvParts retEff round_E av_fn G.ye isCutD_nil isCutD_cons firstReg_region firstReg_seq firstReg_skip firstReg_ret firstReg_label firstReg_exit firstReg_goto firstReg_cond firstReg_block firstReg_scope firstReg_loop firstReg_rf eptrOf_mk flOfD_nil flOfD_cons vcFlD_cons vcFlD_nil flPairs_nil flPairs_cons vcFrD_nil vcFrD_cons makeSliceEv vcCondD_ib
attribute [local simp ←] flats_append

/-- A square of numbers. -/
def tab (f : Nat → Int) : List SV := (List.range 100).map fun j => .int .i64 (f j)
theorem tab_len (f : Nat → Int) : (tab f).length = 100 := by simp [tab]
theorem tab_get (f : Nat → Int) {j : Nat} (h : j < 100) : (tab f)[j]? = some (.int .i64 (f j)) := by
  unfold tab
  rw [List.getElem?_map, List.getElem?_range h]; rfl
theorem spl_one {α : Type} (l : List α) (j : Nat) (x : α) (h : j < l.length) : spl l j [x] = l.set j x := by
  unfold spl
  rw [List.set_eq_take_append_cons_drop, if_pos h]
  simp
theorem tab_set (f g : Nat → Int) {j : Nat} (hj : j < 100) {x : Int} (h : ∀ k, k < 100 → g k = if k = j then x else f k) : (tab f).set j (.int .i64 x) = tab g := by
  apply List.ext_getElem?
  intro k
  rw [List.getElem?_set]
  rcases Nat.lt_or_ge k 100 with hk | hk
  · rw [tab_get g hk, tab_get f hk, h k hk]
    by_cases e : j = k
    · subst e; simp [tab_len, hk]
    · rw [if_neg e, if_neg (Ne.symm e)]
  · rw [List.getElem?_eq_none (by rw [tab_len]; exact hk), List.getElem?_eq_none (by rw [tab_len]; exact hk), if_neg (by omega)]
theorem tab_congr {f g : Nat → Int} (h : ∀ k, k < 100 → f k = g k) : tab f = tab g := by
  unfold tab
  refine List.map_congr_left fun k hk => ?_
  rw [h k (List.mem_range.1 hk)]
/-- What is filled in before row a, column b. -/
def fil (D : Nat → Nat → Int) (n a b : Nat) (j : Nat) : Int := if (j / 10 < a ∧ j % 10 < n) ∨ (j / 10 = a ∧ j % 10 < b) then D (j / 10) (j % 10) else 0
theorem fil_next (D : Nat → Nat → Int) {n a b : Nat} (hn : n ≤ 10) (hb : b < n) (k : Nat) : fil D n a (b + 1) k = if k = a * 10 + b then D a b else fil D n a b k := by
  unfold fil
  by_cases hk : k = a * 10 + b
  · have h1 : k / 10 = a := by omega
    have h2 : k % 10 = b := by omega
    rw [if_pos hk, if_pos (by omega), h1, h2]
  · rw [if_neg hk]
    congr 1
    rw [eq_iff_iff]
    omega
theorem fil_set (D : Nat → Nat → Int) {n a b : Nat} (hn : n ≤ 10) (ha : a < n) (hb : b < n) {x : Int} (hx : x = D a b) : List.take (a * 10 + b) (tab (fil D n a b)) ++ SV.int .i64 x :: List.drop (a * 10 + b + 1) (tab (fil D n a b)) = tab (fil D n a (b + 1)) := by
  subst hx
  rw [← tab_set (fil D n a b) (fil D n a (b + 1)) (j := a * 10 + b) (by omega) (fun k _ => fil_next D hn hb k), List.set_eq_take_append_cons_drop, if_pos (by rw [tab_len]; omega)]
theorem fil_row (D : Nat → Nat → Int) (n a : Nat) (k : Nat) : fil D n (a + 1) 0 k = fil D n a n k := by
  unfold fil
  congr 1
  rw [eq_iff_iff]
  omega
theorem fil_at (D : Nat → Nat → Int) {n a b : Nat} (hn : n ≤ 10) (ha : a < n) (hb : b < n) : fil D n n 0 (a * 10 + b) = D a b := by
  unfold fil
  have h1 : (a * 10 + b) / 10 = a := by omega
  have h2 : (a * 10 + b) % 10 = b := by omega
  rw [h1, h2, if_pos (by omega)]

def conRank : Con := { pre := fun args => ∃ (t : List (List Int)), rngT t ∧ args = [aS tRow t false], val := fun _ => .v (aB true) }
theorem rank_ok : PureOk Try.prog 4 conRank := by
  refine pureOkD (L := { live := [0, 2, 3, 4, 5, 6, 7, 8, 9, 10, 11, 12, 13, 14, 15, 16, 17, 19, 32, 46, 47, 48, 49, 51, 52, 53, 71, 78, 88, 90, 91, 92, 94, 95, 96, 127, 128, 129, 130, 177] }) pl20_good rfl pl_mixed Try.func4 rfl conRank 1 (by decide) (by kernel_rfl) ?_
  rintro _ ⟨t, hr, rfl⟩ _
  refine ⟨rfl, ?_⟩
  simp -dsimp -implicitDefEqProofs [Try.f4, conRank, conSane, pl20_td, pl20_y, pl20_Γ, pl20_E, plT, pl20Γ, pl20E, pl19Γ, pl19E, pl18Γ, pl18E, pl17Γ, pl17E, pl16Γ, pl16E, pl15Γ, pl15E, pl14Γ, pl14E, pl13Γ, pl13E, pl12Γ, pl12E, pl11Γ, pl11E, pl10Γ, pl10E, pl9Γ, pl9E, pl8Γ, pl8E, pl7Γ, pl7E, pl6Γ, pl6E, pl5Γ, pl5E, pl4Γ, pl4E, pl3Γ, pl3E, pl2Γ, pl2E, pl1Γ, pl1E, pl0Γ, pl0E, conOrds_pre, conOrds_val, conRCompare_pre, conRCompare_val, conRMaj_pre, conRMaj_val, conRCmp_pre, conRCmp_val, conRCheck_pre, conRCheck_val, conAt_pre, conAt_val, conROrd_pre, conROrd_val, conRTable_pre, conRTable_val, conSameT_pre, conSameT_val, conFew_pre, conFew_val, conSame_pre, conSame_val, conMajority_pre, conMajority_val, conMapSI_pre, conMapSI_val, conSortF, conBinF_pre, conBinF_val, conCompare_pre, conCompare_val, conClone, conDecide_pre, conDecide_val, conStands_pre, conStands_val, conColS, conOrdinals_pre, conOrdinals_val, conMapRI, conCheck_pre, conCheck_val, conMapRR_pre, conMapRR_val, conCont_pre, conCont_val, conTable_pre, conTable_val, conEqual_pre, conEqual_val, conPlaced_pre, conPlaced_val, conMapII_pre, conMapII_val, conSorted, conBin_pre, conBin_val, conValues_pre, conValues_val, conColI, conSort, conLess_pre, conLess_val, conNaN_pre, conNaN_val, inI64]
  refine ⟨hr, fun hu => ?_⟩
  have hO : OrdT (oL t) (oN t) := by
    obtain ⟨e1, e2, _⟩ := o_yes hu
    rw [e1, e2]; exact OrdT.of hu
  have hn10 : oN t ≤ 10 := by
    rw [(o_yes hu).2.1]; exact hu.1.2 _ (get_mem [] (List.length_pos_iff.2 hu.2.1))
  generalize oL t = l at *
  generalize oN t = n at *
  obtain ⟨hml, hmg⟩ := hO.maj
  refine ⟨⟨hO.err, by omega⟩, fun _ _ => ?_⟩
  generalize hD : (fun a b : Nat => dec (standL l a) (standL l b)) = D
  have hDe : ∀ a b : Nat, D a b = dec (standL l a) (standL l b) := fun a b => by rw [← hD]
  refine WpD.loop (L := { live := [0, 2, 3, 4, 5, 6, 7, 8, 9, 10, 11, 12, 13, 14, 15, 16, 17, 19, 32, 46, 47, 48, 49, 51, 52, 53, 71, 78, 88, 90, 91, 92, 94, 95, 96, 127, 128, 129, 130, 177] }) pl20_good X0_ok pl_mixed (by kernel_rfl)
    (fun a : Nat => ⟨[(3, vS tRow l false), (4, vI n), (7, vS tI (majL l) false), (9, ⟨true, .v (.s (.box 0 0))⟩), (47, vI n), (48, vI a)], [.cells (tab (fil D n a 0))]⟩)
    (fun a => a ≤ n) (fun a => n - a) 0 (by simp) (Turn.le ?_) ?_
  · have h0 : tab (fil D n 0 0) = tab fun _ => 0 := tab_congr fun k hk => by unfold fil; rw [if_neg (by omega)]
    rw [h0]
    simp -dsimp -implicitDefEqProofs
    rfl
  intro a ha
  have htl := tab_len (fil D n a 0)
  simp -dsimp -implicitDefEqProofs [conRank, pl20_td, pl20_y, pl20_Γ, pl20_E, plT, pl20Γ, pl20E, pl19Γ, pl19E, pl18Γ, pl18E, pl17Γ, pl17E, pl16Γ, pl16E, pl15Γ, pl15E, pl14Γ, pl14E, pl13Γ, pl13E, pl12Γ, pl12E, pl11Γ, pl11E, pl10Γ, pl10E, pl9Γ, pl9E, pl8Γ, pl8E, pl7Γ, pl7E, pl6Γ, pl6E, pl5Γ, pl5E, pl4Γ, pl4E, pl3Γ, pl3E, pl2Γ, pl2E, pl1Γ, pl1E, pl0Γ, pl0E, conOrds_pre, conOrds_val, conRCompare_pre, conRCompare_val, conRMaj_pre, conRMaj_val, conRCmp_pre, conRCmp_val, conRCheck_pre, conRCheck_val, conAt_pre, conAt_val, conROrd_pre, conROrd_val, conRTable_pre, conRTable_val, conSameT_pre, conSameT_val, conFew_pre, conFew_val, conSame_pre, conSame_val, conMajority_pre, conMajority_val, conMapSI_pre, conMapSI_val, conSortF, conBinF_pre, conBinF_val, conCompare_pre, conCompare_val, conClone, conDecide_pre, conDecide_val, conStands_pre, conStands_val, conColS, conOrdinals_pre, conOrdinals_val, conMapRI, conCheck_pre, conCheck_val, conMapRR_pre, conMapRR_val, conCont_pre, conCont_val, conTable_pre, conTable_val, conEqual_pre, conEqual_val, conPlaced_pre, conPlaced_val, conMapII_pre, conMapII_val, conSorted, conBin_pre, conBin_val, conValues_pre, conValues_val, conColI, conSort, conLess_pre, conLess_val, conNaN_pre, conNaN_val, inI64]
  refine ⟨fun hlt => ?_, fun hge => ?_⟩
  · refine WpD.loop (L := { live := [0, 2, 3, 4, 5, 6, 7, 8, 9, 10, 11, 12, 13, 14, 15, 16, 17, 19, 32, 46, 47, 48, 49, 51, 52, 53, 71, 78, 88, 90, 91, 92, 94, 95, 96, 127, 128, 129, 130, 177] }) pl20_good X0_ok pl_mixed (by kernel_rfl)
      (fun b : Nat => ⟨[(3, vS tRow l false), (4, vI n), (7, vS tI (majL l) false), (9, ⟨true, .v (.s (.box 0 0))⟩), (10, vI a), (11, vI (decN (allTo l b) (standL l a))), (47, vI n), (48, vI a), (51, vI n), (52, vI b)], [.cells (tab (fil D n a b))]⟩)
      (fun b => b ≤ n) (fun b => n - b) 0 (by simp) (Turn.le (by simp -dsimp -implicitDefEqProofs [decN, allTo])) ?_
    intro b hb
    have htl := tab_len (fil D n a b)
    have hle := decN_le l b (standL l a)
    simp -dsimp -implicitDefEqProofs [conRank, htl, pl20_td, pl20_y, pl20_Γ, pl20_E, plT, pl20Γ, pl20E, pl19Γ, pl19E, pl18Γ, pl18E, pl17Γ, pl17E, pl16Γ, pl16E, pl15Γ, pl15E, pl14Γ, pl14E, pl13Γ, pl13E, pl12Γ, pl12E, pl11Γ, pl11E, pl10Γ, pl10E, pl9Γ, pl9E, pl8Γ, pl8E, pl7Γ, pl7E, pl6Γ, pl6E, pl5Γ, pl5E, pl4Γ, pl4E, pl3Γ, pl3E, pl2Γ, pl2E, pl1Γ, pl1E, pl0Γ, pl0E, conOrds_pre, conOrds_val, conRCompare_pre, conRCompare_val, conRMaj_pre, conRMaj_val, conRCmp_pre, conRCmp_val, conRCheck_pre, conRCheck_val, conAt_pre, conAt_val, conROrd_pre, conROrd_val, conRTable_pre, conRTable_val, conSameT_pre, conSameT_val, conFew_pre, conFew_val, conSame_pre, conSame_val, conMajority_pre, conMajority_val, conMapSI_pre, conMapSI_val, conSortF, conBinF_pre, conBinF_val, conCompare_pre, conCompare_val, conClone, conDecide_pre, conDecide_val, conStands_pre, conStands_val, conColS, conOrdinals_pre, conOrdinals_val, conMapRI, conCheck_pre, conCheck_val, conMapRR_pre, conMapRR_val, conCont_pre, conCont_val, conTable_pre, conTable_val, conEqual_pre, conEqual_val, conPlaced_pre, conPlaced_val, conMapII_pre, conMapII_val, conSorted, conBin_pre, conBin_val, conValues_pre, conValues_val, conColI, conSort, conLess_pre, conLess_val, conNaN_pre, conNaN_val, inI64]
    refine ⟨fun hbl => ?_, fun hbg => ?_⟩
    · obtain ⟨c1, c2⟩ := hO.cmp hlt hbl
      have hcv : cmpV l a b = D a b := by rw [c2, hDe]
      have hset := fil_set D hn10 hlt hbl hcv
      have hra := dec_range (standL l a) (standL l b)
      have han := hO.anti a b
      rw [hset]
      rw [c2]
      refine ⟨⟨⟨c1, by omega⟩, by omega⟩, fun _ _ _ => ⟨by omega, by omega, by omega, fun hp => ⟨⟨by omega, by omega⟩, ⟨by omega, by omega⟩, b + 1, by omega, by omega, TurnT.le ?_⟩, fun hp => ⟨⟨by omega, by omega⟩, b + 1, by omega, by omega, TurnT.le ?_⟩⟩⟩
      · simp -dsimp -implicitDefEqProofs [decN_succ, show dec (standL l b) (standL l a) < 0 by omega]
      · simp -dsimp -implicitDefEqProofs [decN_succ, show ¬ dec (standL l b) (standL l a) < 0 by omega]
    · obtain rfl : b = n := by omega
      have hm := hmg a hlt
      refine ⟨by omega, ⟨by omega, by omega⟩, hm, fun _ => ⟨⟨by omega, by omega⟩, a + 1, by omega, by omega, TurnT.le ?_⟩⟩
      rw [tab_congr (f := fil D b (a + 1) 0) (g := fil D b a b) (fun k _ => fil_row D b a k)]
      simp -dsimp -implicitDefEqProofs
  obtain rfl : a = n := by omega
  generalize hT : tab (fil D a a 0) = T at *
  have hTg : ∀ x y : Nat, x < a → y < a → T[x * 10 + y]? = some (.int .i64 (D x y)) := fun x y hx hy => by
    rw [← hT, tab_get _ (by omega), fil_at D hn10 hx hy]
  refine WpD.loop (L := { live := [0, 2, 3, 4, 5, 6, 7, 8, 9, 10, 11, 12, 13, 14, 15, 16, 17, 19, 32, 46, 47, 48, 49, 51, 52, 53, 71, 78, 88, 90, 91, 92, 94, 95, 96, 127, 128, 129, 130, 177] }) pl20_good X0_ok pl_mixed (by kernel_rfl)
    (fun x : Nat => ⟨[(4, vI a), (7, vS tI (majL l) false), (9, ⟨true, .v (.s (.box 0 0))⟩), (90, vI a), (91, vI x)], [.cells T]⟩)
    (fun x => x ≤ a) (fun x => a - x) 0 (by simp) (Turn.le (by simp -dsimp -implicitDefEqProofs)) ?_
  intro x hx
  simp -dsimp -implicitDefEqProofs [conRank, pl20_td, pl20_y, pl20_Γ, pl20_E, plT, pl20Γ, pl20E, pl19Γ, pl19E, pl18Γ, pl18E, pl17Γ, pl17E, pl16Γ, pl16E, pl15Γ, pl15E, pl14Γ, pl14E, pl13Γ, pl13E, pl12Γ, pl12E, pl11Γ, pl11E, pl10Γ, pl10E, pl9Γ, pl9E, pl8Γ, pl8E, pl7Γ, pl7E, pl6Γ, pl6E, pl5Γ, pl5E, pl4Γ, pl4E, pl3Γ, pl3E, pl2Γ, pl2E, pl1Γ, pl1E, pl0Γ, pl0E, conOrds_pre, conOrds_val, conRCompare_pre, conRCompare_val, conRMaj_pre, conRMaj_val, conRCmp_pre, conRCmp_val, conRCheck_pre, conRCheck_val, conAt_pre, conAt_val, conROrd_pre, conROrd_val, conRTable_pre, conRTable_val, conSameT_pre, conSameT_val, conFew_pre, conFew_val, conSame_pre, conSame_val, conMajority_pre, conMajority_val, conMapSI_pre, conMapSI_val, conSortF, conBinF_pre, conBinF_val, conCompare_pre, conCompare_val, conClone, conDecide_pre, conDecide_val, conStands_pre, conStands_val, conColS, conOrdinals_pre, conOrdinals_val, conMapRI, conCheck_pre, conCheck_val, conMapRR_pre, conMapRR_val, conCont_pre, conCont_val, conTable_pre, conTable_val, conEqual_pre, conEqual_val, conPlaced_pre, conPlaced_val, conMapII_pre, conMapII_val, conSorted, conBin_pre, conBin_val, conValues_pre, conValues_val, conColI, conSort, conLess_pre, conLess_val, conNaN_pre, conNaN_val, inI64]
  refine fun hxl => ?_
  refine WpD.loop (L := { live := [0, 2, 3, 4, 5, 6, 7, 8, 9, 10, 11, 12, 13, 14, 15, 16, 17, 19, 32, 46, 47, 48, 49, 51, 52, 53, 71, 78, 88, 90, 91, 92, 94, 95, 96, 127, 128, 129, 130, 177] }) pl20_good X0_ok pl_mixed (by kernel_rfl)
    (fun y : Nat => ⟨[(4, vI a), (7, vS tI (majL l) false), (9, ⟨true, .v (.s (.box 0 0))⟩), (15, vI x), (90, vI a), (91, vI x), (94, vI a), (95, vI y)], [.cells T]⟩)
    (fun y => y ≤ a) (fun y => a - y) 0 (by simp) (Turn.le (by simp -dsimp -implicitDefEqProofs)) ?_
  intro y hy
  rcases Nat.lt_or_ge y a with hyl | hyg
  · have t1 := hTg x y hxl hyl
    have t2 := hTg y x hyl hxl
    simp -dsimp -implicitDefEqProofs [conRank, htl, t1, t2, pl20_td, pl20_y, pl20_Γ, pl20_E, plT, pl20Γ, pl20E, pl19Γ, pl19E, pl18Γ, pl18E, pl17Γ, pl17E, pl16Γ, pl16E, pl15Γ, pl15E, pl14Γ, pl14E, pl13Γ, pl13E, pl12Γ, pl12E, pl11Γ, pl11E, pl10Γ, pl10E, pl9Γ, pl9E, pl8Γ, pl8E, pl7Γ, pl7E, pl6Γ, pl6E, pl5Γ, pl5E, pl4Γ, pl4E, pl3Γ, pl3E, pl2Γ, pl2E, pl1Γ, pl1E, pl0Γ, pl0E, conOrds_pre, conOrds_val, conRCompare_pre, conRCompare_val, conRMaj_pre, conRMaj_val, conRCmp_pre, conRCmp_val, conRCheck_pre, conRCheck_val, conAt_pre, conAt_val, conROrd_pre, conROrd_val, conRTable_pre, conRTable_val, conSameT_pre, conSameT_val, conFew_pre, conFew_val, conSame_pre, conSame_val, conMajority_pre, conMajority_val, conMapSI_pre, conMapSI_val, conSortF, conBinF_pre, conBinF_val, conCompare_pre, conCompare_val, conClone, conDecide_pre, conDecide_val, conStands_pre, conStands_val, conColS, conOrdinals_pre, conOrdinals_val, conMapRI, conCheck_pre, conCheck_val, conMapRR_pre, conMapRR_val, conCont_pre, conCont_val, conTable_pre, conTable_val, conEqual_pre, conEqual_val, conPlaced_pre, conPlaced_val, conMapII_pre, conMapII_val, conSorted, conBin_pre, conBin_val, conValues_pre, conValues_val, conColI, conSort, conLess_pre, conLess_val, conNaN_pre, conNaN_val, inI64]
    have hxy : D y x = - D x y := by rw [hDe, hDe]; exact hO.anti x y
    have hra := dec_range (standL l x) (standL l y)
    rw [← hDe] at hra
    have hrk : D x y < 0 ↔ (majL l)[x]?.getD 0 < (majL l)[y]?.getD 0 := by
      rw [hmg x hxl, hmg y hyl, hDe, hO.rank hxl hyl]; omega
    have hneg : D x y = - D y x := by omega
    refine ⟨fun _ => ⟨by omega, by omega, by omega, by omega, by omega, by omega, ⟨by omega, by omega⟩, fun h => ⟨h, by omega⟩, fun h => ⟨h, by omega⟩, fun h => ⟨h, by omega⟩, fun h => ⟨h, by omega⟩, fun h => ⟨h, by omega⟩, ⟨hneg, hrk⟩, fun _ _ => ?_⟩, fun hq => by omega⟩
    refine WpD.loop (L := { live := [0, 2, 3, 4, 5, 6, 7, 8, 9, 10, 11, 12, 13, 14, 15, 16, 17, 19, 32, 46, 47, 48, 49, 51, 52, 53, 71, 78, 88, 90, 91, 92, 94, 95, 96, 127, 128, 129, 130, 177] }) pl20_good X0_ok pl_mixed (by kernel_rfl)
      (fun z : Nat => ⟨[(4, vI a), (7, vS tI (majL l) false), (9, ⟨true, .v (.s (.box 0 0))⟩), (15, vI x), (16, vI y), (90, vI a), (91, vI x), (94, vI a), (95, vI y), (128, vI a), (129, vI z)], [.cells T]⟩)
      (fun z => z ≤ a) (fun z => a - z) 0 (by simp) (Turn.le (by simp -dsimp -implicitDefEqProofs)) ?_
    intro z hz
    rcases Nat.lt_or_ge z a with hzl | hzg
    · have t3 := hTg y z hyl hzl
      have t4 := hTg x z hxl hzl
      have htr := hO.trans x y z
      rw [← hDe, ← hDe, ← hDe] at htr
      simp -dsimp -implicitDefEqProofs [conRank, htl, t1, t3, t4, pl20_td, pl20_y, pl20_Γ, pl20_E, plT, pl20Γ, pl20E, pl19Γ, pl19E, pl18Γ, pl18E, pl17Γ, pl17E, pl16Γ, pl16E, pl15Γ, pl15E, pl14Γ, pl14E, pl13Γ, pl13E, pl12Γ, pl12E, pl11Γ, pl11E, pl10Γ, pl10E, pl9Γ, pl9E, pl8Γ, pl8E, pl7Γ, pl7E, pl6Γ, pl6E, pl5Γ, pl5E, pl4Γ, pl4E, pl3Γ, pl3E, pl2Γ, pl2E, pl1Γ, pl1E, pl0Γ, pl0E, conOrds_pre, conOrds_val, conRCompare_pre, conRCompare_val, conRMaj_pre, conRMaj_val, conRCmp_pre, conRCmp_val, conRCheck_pre, conRCheck_val, conAt_pre, conAt_val, conROrd_pre, conROrd_val, conRTable_pre, conRTable_val, conSameT_pre, conSameT_val, conFew_pre, conFew_val, conSame_pre, conSame_val, conMajority_pre, conMajority_val, conMapSI_pre, conMapSI_val, conSortF, conBinF_pre, conBinF_val, conCompare_pre, conCompare_val, conClone, conDecide_pre, conDecide_val, conStands_pre, conStands_val, conColS, conOrdinals_pre, conOrdinals_val, conMapRI, conCheck_pre, conCheck_val, conMapRR_pre, conMapRR_val, conCont_pre, conCont_val, conTable_pre, conTable_val, conEqual_pre, conEqual_val, conPlaced_pre, conPlaced_val, conMapII_pre, conMapII_val, conSorted, conBin_pre, conBin_val, conValues_pre, conValues_val, conColI, conSort, conLess_pre, conLess_val, conNaN_pre, conNaN_val, inI64]
      refine ⟨fun _ => ⟨by omega, by omega, by omega, by omega, by omega, by omega, by omega, by omega, by omega, by omega, by omega, by omega, by omega, by omega, by omega, by omega, by omega, by omega, by omega, by omega, fun hp => by omega, ⟨fun p q => (htr p q).1, fun p q => (htr (by omega) q).2 (.inl p)⟩, fun _ _ => ⟨⟨by omega, by omega⟩, z + 1, by omega, by omega, TurnT.le (by simp -dsimp -implicitDefEqProofs)⟩⟩, fun hq => by omega⟩
    · obtain rfl : z = a := by omega
      simp -dsimp -implicitDefEqProofs [conRank, pl20_td, pl20_y, pl20_Γ, pl20_E, plT, pl20Γ, pl20E, pl19Γ, pl19E, pl18Γ, pl18E, pl17Γ, pl17E, pl16Γ, pl16E, pl15Γ, pl15E, pl14Γ, pl14E, pl13Γ, pl13E, pl12Γ, pl12E, pl11Γ, pl11E, pl10Γ, pl10E, pl9Γ, pl9E, pl8Γ, pl8E, pl7Γ, pl7E, pl6Γ, pl6E, pl5Γ, pl5E, pl4Γ, pl4E, pl3Γ, pl3E, pl2Γ, pl2E, pl1Γ, pl1E, pl0Γ, pl0E, conOrds_pre, conOrds_val, conRCompare_pre, conRCompare_val, conRMaj_pre, conRMaj_val, conRCmp_pre, conRCmp_val, conRCheck_pre, conRCheck_val, conAt_pre, conAt_val, conROrd_pre, conROrd_val, conRTable_pre, conRTable_val, conSameT_pre, conSameT_val, conFew_pre, conFew_val, conSame_pre, conSame_val, conMajority_pre, conMajority_val, conMapSI_pre, conMapSI_val, conSortF, conBinF_pre, conBinF_val, conCompare_pre, conCompare_val, conClone, conDecide_pre, conDecide_val, conStands_pre, conStands_val, conColS, conOrdinals_pre, conOrdinals_val, conMapRI, conCheck_pre, conCheck_val, conMapRR_pre, conMapRR_val, conCont_pre, conCont_val, conTable_pre, conTable_val, conEqual_pre, conEqual_val, conPlaced_pre, conPlaced_val, conMapII_pre, conMapII_val, conSorted, conBin_pre, conBin_val, conValues_pre, conValues_val, conColI, conSort, conLess_pre, conLess_val, conNaN_pre, conNaN_val, inI64]
      exact ⟨⟨by omega, by omega⟩, y + 1, by omega, by omega, TurnT.le (by simp -dsimp -implicitDefEqProofs)⟩
  · obtain rfl : y = a := by omega
    simp -dsimp -implicitDefEqProofs [conRank, pl20_td, pl20_y, pl20_Γ, pl20_E, plT, pl20Γ, pl20E, pl19Γ, pl19E, pl18Γ, pl18E, pl17Γ, pl17E, pl16Γ, pl16E, pl15Γ, pl15E, pl14Γ, pl14E, pl13Γ, pl13E, pl12Γ, pl12E, pl11Γ, pl11E, pl10Γ, pl10E, pl9Γ, pl9E, pl8Γ, pl8E, pl7Γ, pl7E, pl6Γ, pl6E, pl5Γ, pl5E, pl4Γ, pl4E, pl3Γ, pl3E, pl2Γ, pl2E, pl1Γ, pl1E, pl0Γ, pl0E, conOrds_pre, conOrds_val, conRCompare_pre, conRCompare_val, conRMaj_pre, conRMaj_val, conRCmp_pre, conRCmp_val, conRCheck_pre, conRCheck_val, conAt_pre, conAt_val, conROrd_pre, conROrd_val, conRTable_pre, conRTable_val, conSameT_pre, conSameT_val, conFew_pre, conFew_val, conSame_pre, conSame_val, conMajority_pre, conMajority_val, conMapSI_pre, conMapSI_val, conSortF, conBinF_pre, conBinF_val, conCompare_pre, conCompare_val, conClone, conDecide_pre, conDecide_val, conStands_pre, conStands_val, conColS, conOrdinals_pre, conOrdinals_val, conMapRI, conCheck_pre, conCheck_val, conMapRR_pre, conMapRR_val, conCont_pre, conCont_val, conTable_pre, conTable_val, conEqual_pre, conEqual_val, conPlaced_pre, conPlaced_val, conMapII_pre, conMapII_val, conSorted, conBin_pre, conBin_val, conValues_pre, conValues_val, conColI, conSort, conLess_pre, conLess_val, conNaN_pre, conNaN_val, inI64]
    exact ⟨⟨by omega, by omega⟩, x + 1, by omega, by omega, TurnT.le (by simp -dsimp -implicitDefEqProofs)⟩
end Go.Am
