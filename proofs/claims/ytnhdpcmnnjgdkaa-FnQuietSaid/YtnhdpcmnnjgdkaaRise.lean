/- Users of a valid external system rise. No condition. -/
import Derived.Test.YtnhdpcmnnjgdkaaFarA
set_option linter.unusedVariables false
set_option linter.unusedSimpArgs false
namespace Go.Proofs.Ytnhdpcmnnjgdkaa
open Go.RowKit
theorem farRise_rises {us : List User} (h : farRise us us.length = true) : Rises (us.map (·.name)) := by
  intro i hi
  simp only [List.length_map] at hi
  rw [farRise, List.all_eq_true] at h
  have h1 := h (i + 1) (by simpa using hi)
  rw [farStep, List.getElem?_eq_getElem hi, Nat.add_sub_cancel, List.getElem?_eq_getElem (by omega : i < us.length)] at h1
  simp [gtS_not] at h1
  simpa using h1.2
theorem farOk_rises {us : List User} {fail made : Int} (h : farOk us fail made = true) : Rises (us.map (·.name)) := by
  rw [farOk] at h
  simp only [Bool.and_eq_true] at h
  exact farRise_rises h.2.2.2
end Go.Proofs.Ytnhdpcmnnjgdkaa
