/- 'PlacesSpec' answers true at every input and leaves its arguments as they were. No condition. -/
import Derived.Test.YteglanpnmnkkbaaPl9
import Derived.Test.YteglanpnmnkkbaaBm16
import Derived.JoinedOf
import Derived.Handed
namespace Go.Proofs.Yteglanpnmnkkbaa
open Go.Am Go.ChangeShapes Go.WideShapes Go.RowKit

theorem own : ownKnob Try.prog.godebug = none := by kernel_rfl
theorem laidOut : laidOutB Try.prog = true := by kernel_rfl
theorem tyR : TyOf Try.prog (.slice (.slice tI)) 22 := tyOf_of_B _ _ (by kernel_rfl)
theorem tyInt : TyOf Try.prog (.int .i64) 3 := tyOf_of_B _ _ (by kernel_rfl)
theorem readable2 : ∀ T ∈ ([22, 22, 3, 3] : List TypeId), Try.prog.readableRec T = true ∧ T < Try.prog.types.size := by
  simp only [List.forall_mem_cons]
  exact ⟨⟨by kernel_rfl, of_decide_eq_true (by kernel_rfl)⟩, ⟨by kernel_rfl, of_decide_eq_true (by kernel_rfl)⟩, ⟨by kernel_rfl, of_decide_eq_true (by kernel_rfl)⟩, ⟨by kernel_rfl, of_decide_eq_true (by kernel_rfl)⟩, by simp⟩
theorem rngT_in {t : List (List Int)} (h : argIn ⟨.slice (.slice tI), t⟩) : rngT t := h
theorem pre2 : ∀ xs : List (Sigma Ty.T), xs.map (·.1) = [.slice (.slice tI), .slice (.slice tI), .int .i64, .int .i64] → (∀ x ∈ xs, argIn x) → conSpec.pre (xs.map argOf) := by
  intro xs h hin
  match xs, h with
  | [⟨_, x0⟩, ⟨_, x1⟩, ⟨_, x2⟩, ⟨_, x3⟩], h =>
    simp only [List.map_cons, List.map_nil, List.cons.injEq, and_true] at h
    obtain ⟨rfl, rfl, rfl, rfl⟩ := h
    exact ⟨x0, x1, x2, x3, rngT_in (hin ⟨.slice (.slice tI), x0⟩ (by simp)), rngT_in (hin ⟨.slice (.slice tI), x1⟩ (by simp)), rfl⟩

set_option maxRecDepth 100000 in
theorem spec_lifted (os : Os) (started : os.Started) (H : Type) (enc : TypeId × Value → H) :
    ReturnsInHanded {} Try.checked os 3 .any (Rows.placesSpecSpec.pre6 enc Try.prog Try.f3 Rows.placesSpecRow.domain false) (Rows.placesSpecSpec.post enc Try.prog Try.f3 false true false false) := by
  refine returnsInHanded_of_change (C := Try.checked) own started (by kernel_rfl) Try.func3
    (ChangeSpec.witness6 (enc := enc) (C := Try.checked) false ⟨#[], #[.slice none 0 0, .slice none 0 0, .int .i64 0, .int .i64 0], []⟩ 8 (by kernel_rfl) (by kernel_rfl) (by kernel_rfl) (by kernel_rfl)) ?_
  intro W base args ds gs before hval hW _ _
  refine law_contract (con := conSpec) (tys := [.slice (.slice tI), .slice (.slice tI), .int .i64, .int .i64]) (T := 4) false spec_ok pre2 (fun _ => rfl) (.cons tyR (.cons tyR (.cons tyInt (.cons tyInt (.nil))))) readable2 laidOut rfl (by kernel_rfl) rfl enc ?_ W base args ds gs before hval hW
  intro ds h
  match ds, h with
  | [d0, d1, d2, d3], _ => exact ⟨rfl, rfl, rfl⟩

theorem spec_holds : Rows.PlacesSpecSaid :=
  OpenClaim.holds_of_wide 3 Try.f3 rfl rfl rfl rfl rfl rfl rfl ⟨rfl, rfl, rfl, rfl, rfl⟩ rfl rfl rfl rfl rfl (by kernel_rfl) Try.func3 (by kernel_rfl)
    (of_decide_eq_true (by kernel_rfl)) (by unfold Func.isWrapper; first | (rw [if_pos (by decide +kernel)]; kernel_rfl) | (rw [if_neg (by decide +kernel)]; exact ⟨rfl, rfl⟩))
    (fun os started H enc _ => spec_lifted os started H enc)
#print axioms spec_holds
end Go.Proofs.Yteglanpnmnkkbaa
