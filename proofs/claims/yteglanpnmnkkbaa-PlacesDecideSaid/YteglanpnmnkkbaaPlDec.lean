/- 'PlacesDecide' answers true at every input and leaves its arguments as they were. No condition. -/
import Derived.Test.YteglanpnmnkkbaaPl13
import Derived.Test.YteglanpnmnkkbaaBm16
import Derived.JoinedOf
import Derived.Handed
namespace Go.Proofs.Yteglanpnmnkkbaa
open Go.Am Go.ChangeShapes Go.WideShapes Go.RowKit

theorem own : ownKnob Try.prog.godebug = none := by kernel_rfl
theorem laidOut : laidOutB Try.prog = true := by kernel_rfl
theorem tyR : TyOf Try.prog (.slice (.slice tI)) 22 := tyOf_of_B _ _ (by kernel_rfl)
theorem readable2 : ∀ T ∈ ([22] : List TypeId), Try.prog.readableRec T = true ∧ T < Try.prog.types.size := by
  simp only [List.forall_mem_cons]
  exact ⟨⟨by kernel_rfl, of_decide_eq_true (by kernel_rfl)⟩, by simp⟩
theorem rngT_in {t : List (List Int)} (h : argIn ⟨.slice (.slice tI), t⟩) : rngT t := h
theorem pre2 : ∀ xs : List (Sigma Ty.T), xs.map (·.1) = [.slice (.slice tI)] → (∀ x ∈ xs, argIn x) → conDecL.pre (xs.map argOf) := by
  intro xs h hin
  match xs, h with
  | [⟨_, x0⟩], h =>
    simp only [List.map_cons, List.map_nil, List.cons.injEq, and_true] at h
    obtain ⟨rfl⟩ := h
    exact ⟨x0, rngT_in (hin ⟨.slice (.slice tI), x0⟩ (by simp)), rfl⟩

set_option maxRecDepth 100000 in
theorem decide_lifted (os : Os) (started : os.Started) (H : Type) (enc : TypeId × Value → H) :
    ReturnsInHanded {} Try.checked os 5 .any (Rows.placesDecideSpec.pre6 enc Try.prog Try.f5 Rows.placesDecideRow.domain false) (Rows.placesDecideSpec.post enc Try.prog Try.f5 false true false false) := by
  refine returnsInHanded_of_change (C := Try.checked) own started (by kernel_rfl) Try.func5
    (ChangeSpec.witness6 (enc := enc) (C := Try.checked) false ⟨#[], #[.slice none 0 0], []⟩ 8 (by kernel_rfl) (by kernel_rfl) (by kernel_rfl) (by kernel_rfl)) ?_
  intro W base args ds gs before hval hW _ _
  refine law_contract (con := conDecL) (tys := [.slice (.slice tI)]) (T := 4) false decl_ok pre2 (fun _ => rfl) (.cons tyR (.nil)) readable2 laidOut rfl (by kernel_rfl) rfl enc ?_ W base args ds gs before hval hW
  intro ds h
  match ds, h with
  | [d0], _ => exact ⟨rfl, rfl, rfl⟩

theorem decide_holds : Rows.PlacesDecideSaid :=
  OpenClaim.holds_of_wide 5 Try.f5 rfl rfl rfl rfl rfl rfl rfl ⟨rfl, rfl, rfl, rfl, rfl⟩ rfl rfl rfl rfl rfl (by kernel_rfl) Try.func5 (by kernel_rfl)
    (of_decide_eq_true (by kernel_rfl)) (by unfold Func.isWrapper; first | (rw [if_pos (by decide +kernel)]; kernel_rfl) | (rw [if_neg (by decide +kernel)]; exact ⟨rfl, rfl⟩))
    (fun os started H enc _ => decide_lifted os started H enc)
#print axioms decide_holds
end Go.Proofs.Yteglanpnmnkkbaa
