/- 'PlacesOrder' answers true at every input and leaves its arguments as they were. No condition. -/
import Derived.Test.YteglanpnmnkkbaaPl19
import Derived.Test.YteglanpnmnkkbaaBm16
import Derived.JoinedOf
import Derived.Handed
namespace Go.Proofs.Yteglanpnmnkkbaa
open Go.Am Go.ChangeShapes Go.WideShapes Go.RowKit

theorem own : ownKnob Try.prog.godebug = none := by kernel_rfl
theorem laidOut : laidOutB Try.prog = true := by kernel_rfl
theorem tyR : TyOf Try.prog (.slice (.slice tI)) 22 := tyOf_of_B _ _ (by kernel_rfl)
theorem tyU : TyOf Try.prog (.int .u8) 5 := tyOf_of_B _ _ (by kernel_rfl)
theorem readable2 : ∀ T ∈ ([22, 5, 5] : List TypeId), Try.prog.readableRec T = true ∧ T < Try.prog.types.size := by
  simp only [List.forall_mem_cons]
  exact ⟨⟨by kernel_rfl, of_decide_eq_true (by kernel_rfl)⟩, ⟨by kernel_rfl, of_decide_eq_true (by kernel_rfl)⟩, ⟨by kernel_rfl, of_decide_eq_true (by kernel_rfl)⟩, by simp⟩
theorem u8_in {n : Int} (h : argIn ⟨.int .u8, n⟩) : 0 ≤ n ∧ n ≤ 255 := h
theorem rngT_in {t : List (List Int)} (h : argIn ⟨.slice (.slice tI), t⟩) : rngT t := h
theorem pre2 : ∀ xs : List (Sigma Ty.T), xs.map (·.1) = [.slice (.slice tI), .int .u8, .int .u8] → (∀ x ∈ xs, argIn x) → conOrdL.pre (xs.map argOf) := by
  intro xs h hin
  match xs, h with
  | [⟨_, x0⟩, ⟨_, x1⟩, ⟨_, x2⟩], h =>
    simp only [List.map_cons, List.map_nil, List.cons.injEq, and_true] at h
    obtain ⟨rfl, rfl, rfl⟩ := h
    exact ⟨x0, x1, x2, rngT_in (hin ⟨.slice (.slice tI), x0⟩ (by simp)), u8_in (hin ⟨.int .u8, x1⟩ (by simp)), u8_in (hin ⟨.int .u8, x2⟩ (by simp)), rfl⟩

set_option maxRecDepth 100000 in
theorem order_lifted (os : Os) (started : os.Started) (H : Type) (enc : TypeId × Value → H) :
    ReturnsInHanded {} Try.checked os 6 .any (Rows.placesOrderSpec.pre6 enc Try.prog Try.f6 Rows.placesOrderRow.domain false) (Rows.placesOrderSpec.post enc Try.prog Try.f6 false true false false) := by
  refine returnsInHanded_of_change (C := Try.checked) own started (by kernel_rfl) Try.func6
    (ChangeSpec.witness6 (enc := enc) (C := Try.checked) false ⟨#[], #[.slice none 0 0, .int .u8 0, .int .u8 0], []⟩ 8 (by kernel_rfl) (by kernel_rfl) (by kernel_rfl) (by kernel_rfl)) ?_
  intro W base args ds gs before hval hW _ _
  refine law_contract (con := conOrdL) (tys := [.slice (.slice tI), .int .u8, .int .u8]) (T := 4) false ordl_ok pre2 (fun _ => rfl) (.cons tyR (.cons tyU (.cons tyU (.nil)))) readable2 laidOut rfl (by kernel_rfl) rfl enc ?_ W base args ds gs before hval hW
  intro ds h
  match ds, h with
  | [d0, d1, d2], _ => exact ⟨rfl, rfl, rfl⟩

theorem order_holds : Rows.PlacesOrderSaid :=
  OpenClaim.holds_of_wide 6 Try.f6 rfl rfl rfl rfl rfl rfl rfl ⟨rfl, rfl, rfl, rfl, rfl⟩ rfl rfl rfl rfl rfl (by kernel_rfl) Try.func6 (by kernel_rfl)
    (of_decide_eq_true (by kernel_rfl)) (by unfold Func.isWrapper; first | (rw [if_pos (by decide +kernel)]; kernel_rfl) | (rw [if_neg (by decide +kernel)]; exact ⟨rfl, rfl⟩))
    (fun os started H enc _ => order_lifted os started H enc)
#print axioms order_holds
end Go.Proofs.Yteglanpnmnkkbaa
