/- 'StandingRight' answers true at every input and leaves its arguments as they were. No condition. -/
import Derived.Test.YtnekjoocbfbmaaaGreatKtStRgt
import Derived.JoinedOf
import Derived.Handed
namespace Go.Proofs.YtnekjoocbfbmaaaGreat
open Go.Am Go.ChangeShapes Go.WideShapes Go.RowKit

theorem own : ownKnob Tryz.prog.godebug = none := by kernel_rfl
theorem laidOut : laidOutB Tryz.prog = true := by kernel_rfl
theorem tyY : TyOf Tryz.prog (.slice tKey) 22 := tyOf_of_B _ _ (by kernel_rfl)
theorem tyK : TyOf Tryz.prog (.slice tKd) 23 := tyOf_of_B _ _ (by kernel_rfl)
theorem readable2 : ∀ T ∈ ([22, 23] : List TypeId), Tryz.prog.readableRec T = true ∧ T < Tryz.prog.types.size := by
  simp only [List.forall_mem_cons]
  exact ⟨⟨by kernel_rfl, of_decide_eq_true (by kernel_rfl)⟩, ⟨by kernel_rfl, of_decide_eq_true (by kernel_rfl)⟩, by simp⟩
theorem u8s_in {l : List Int} (h : argIn ⟨.slice (.int .u8), l⟩) : ∀ x ∈ l, 0 ≤ x ∧ x ≤ 255 := h
theorem pre2 : ∀ xs : List (Sigma Ty.T), xs.map (·.1) = [.slice tKey, .slice tKd] → (∀ x ∈ xs, argIn x) → conSRightW.pre (xs.map argOf) := by
  intro xs h hin
  match xs, h with
  | [⟨_, x0⟩, ⟨_, x1⟩], h =>
    simp only [List.map_cons, List.map_nil, List.cons.injEq, and_true] at h
    obtain ⟨rfl, rfl⟩ := h
    exact ⟨x0, x1, rfl⟩

set_option maxRecDepth 100000 in
theorem right_lifted (os : Os) (started : os.Started) (H : Type) (enc : TypeId × Value → H) :
    ReturnsInHanded {} Tryz.checked os 5 .any (Rows.standingRightSpec.pre6 enc Tryz.prog Tryz.f5 Rows.standingRightRow.domain false) (Rows.standingRightSpec.post enc Tryz.prog Tryz.f5 false true false false) := by
  refine returnsInHanded_of_change (C := Tryz.checked) own started (by kernel_rfl) Tryz.func5
    (ChangeSpec.witness6 (enc := enc) (C := Tryz.checked) false ⟨#[], #[.slice none 0 0, .slice none 0 0], []⟩ 8 (by kernel_rfl) (by kernel_rfl) (by kernel_rfl) (by kernel_rfl)) ?_
  intro W base args ds gs before hval hW _ _
  refine law_contract (con := conSRightW) (tys := [.slice tKey, .slice tKd]) (T := 4) false sright_okW pre2 (fun _ => rfl) (.cons tyY (.cons tyK (.nil))) readable2 laidOut rfl (by kernel_rfl) rfl enc ?_ W base args ds gs before hval hW
  intro ds h
  match ds, h with
  | [d0, d1], _ => exact ⟨rfl, rfl, rfl⟩

theorem right_holds : Rows.StandingRightSaid :=
  OpenClaim.holds_of_wide 5 Tryz.f5 rfl rfl rfl rfl rfl rfl rfl ⟨rfl, rfl, rfl, rfl, rfl⟩ rfl rfl rfl rfl rfl (by kernel_rfl) Tryz.func5 (by kernel_rfl)
    (of_decide_eq_true (by kernel_rfl)) (by unfold Func.isWrapper; first | (rw [if_pos (by decide +kernel)]; kernel_rfl) | (rw [if_neg (by decide +kernel)]; exact ⟨rfl, rfl⟩))
    (fun os started H enc _ => right_lifted os started H enc)
#print axioms right_holds
end Go.Proofs.YtnekjoocbfbmaaaGreat
