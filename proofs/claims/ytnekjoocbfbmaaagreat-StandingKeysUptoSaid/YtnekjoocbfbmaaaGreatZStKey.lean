/- 'StandingKeys' answers true, and leaves its arguments as they were, at every input of bulk at most 1048576 (the law's second form). No other condition. -/
import Derived.Test.YtnekjoocbfbmaaaGreatZtStKey
import Derived.ProofKit
import Derived.JoinedCond
namespace Go.Proofs.YtnekjoocbfbmaaaGreat
open Go.Am Go.ChangeShapes Go.WideShapes Go.RowKit

theorem own : ownKnob Tryz.prog.godebug = none := by kernel_rfl
theorem laidOut : laidOutB Tryz.prog = true := by kernel_rfl
theorem tyY : TyOf Tryz.prog (.slice tKey) 22 := tyOf_of_B _ _ (by kernel_rfl)
theorem tyK : TyOf Tryz.prog (.slice tKd) 23 := tyOf_of_B _ _ (by kernel_rfl)
theorem readable2 : ∀ T ∈ ([22, 22, 23] : List TypeId), Tryz.prog.readableRec T = true ∧ T < Tryz.prog.types.size := by
  simp only [List.forall_mem_cons]
  exact ⟨⟨by kernel_rfl, of_decide_eq_true (by kernel_rfl)⟩, ⟨by kernel_rfl, of_decide_eq_true (by kernel_rfl)⟩, ⟨by kernel_rfl, of_decide_eq_true (by kernel_rfl)⟩, by simp⟩
theorem pre2 : ∀ xs : List (Sigma Ty.T), xs.map (·.1) = [.slice tKey, .slice tKey, .slice tKd] → (∀ x ∈ xs, argIn x ∧ argLen x ≤ 1048576) → conSKeysW.pre (xs.map argOf) := by
  intro xs h hin
  match xs, h with
  | [⟨_, x0⟩, ⟨_, x1⟩, ⟨_, x2⟩], h =>
    simp only [List.map_cons, List.map_nil, List.cons.injEq, and_true] at h
    obtain ⟨rfl, rfl, rfl⟩ := h
    have h0 : List.length x0 ≤ 1048576 := (hin ⟨.slice tKey, x0⟩ (by simp)).2
    have h1 : List.length x1 ≤ 1048576 := (hin ⟨.slice tKey, x1⟩ (by simp)).2
    exact ⟨x0, x1, x2, ⟨Nat.le_trans h0 (by decide), Nat.le_trans h1 (by decide)⟩, rfl⟩

set_option maxRecDepth 100000 in
theorem keys_lifted (os : Os) (started : os.Started) (H : Type) (enc : TypeId × Value → H) (F : Stop.Interp) :
    ReturnsInHanded {} Tryz.checked os 9 .any ((Rows.OpenSpec.upto Rows.standingKeysSpec).pre6 enc Tryz.prog Tryz.f9 Rows.standingKeysUptoRow.domain false) (((Rows.OpenSpec.upto Rows.standingKeysSpec).at F).post enc Tryz.prog Tryz.f9 false true false false) := by
  refine returnsInHanded_of_cond (C := Tryz.checked) (s := Rows.OpenSpec.upto Rows.standingKeysSpec) (k := Rows.uptoSmall) rfl own started (by kernel_rfl) Tryz.func9
    (OpenSpec.witness (enc := enc) (C := Tryz.checked) (s := Rows.OpenSpec.upto Rows.standingKeysSpec) (k := Rows.uptoSmall) rfl false ⟨#[], #[.slice none 0 0, .slice none 0 0, .slice none 0 0], []⟩ 8 (by kernel_rfl) (by kernel_rfl) (by kernel_rfl)
      (x := ([.nil, .nil, .nil], [], [])) (by kernel_rfl) rfl (by kernel_rfl)) ?_
  intro W base args ds gs before hval hW _ hk _
  refine law_contractU (con := conSKeysW) (tys := [.slice tKey, .slice tKey, .slice tKd]) (T := 4) false skeys_okW pre2 (fun _ => rfl) (.cons tyY (.cons tyY (.cons tyK (.nil)))) readable2 laidOut rfl (by kernel_rfl) rfl enc ?_ W base args ds gs before hk hval hW
  intro ds h
  match ds, h with
  | [d0, d1, d2], _ => exact ⟨rfl, rfl, rfl⟩

theorem keys_holds : Rows.StandingKeysUptoSaid :=
  OpenClaim.holds_of_cond 9 Tryz.f9 rfl rfl rfl rfl rfl rfl rfl ⟨rfl, rfl, rfl, rfl, rfl⟩ rfl rfl rfl rfl rfl (by kernel_rfl) Tryz.func9 (by kernel_rfl)
    (of_decide_eq_true (by kernel_rfl)) (by unfold Func.isWrapper; first | (rw [if_pos (by decide +kernel)]; kernel_rfl) | (rw [if_neg (by decide +kernel)]; exact ⟨rfl, rfl⟩))
    (fun os started H enc _ F => keys_lifted os started H enc F)
#print axioms keys_holds
end Go.Proofs.YtnekjoocbfbmaaaGreat
