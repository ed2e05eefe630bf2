/- Stores: small facts on sums and paths. No condition. -/
import Derived.Test.YtklmcbabpncfmaaDoorStoreL
import Derived.Test.YtklmcbabpncfmaaDoorStoreP
namespace Go.Proofs.YtklmcbabpncfmaaDoor
open Go.RowKit
theorem path_pl {us vs : List Entry} (h : vs.map plE = us.map plE) (hf : ∀ u ∈ us, u.path.size ≤ maxLen) : ∀ v ∈ vs, v.path.size ≤ maxLen := by
  intro v hv
  have : plE v ∈ us.map plE := by rw [← h]; exact List.mem_map_of_mem hv
  obtain ⟨u, hu, he⟩ := List.mem_map.1 this
  have hk : u.path = v.path := by
    have h9 : (plE u).path = (plE v).path := by rw [he]
    exact h9
  rw [← hk]; exact hf u hu
theorem sumEntry_mem {us : List Entry} {u : Entry} (h : u ∈ us) : szEntry u ≤ sumEntry us := by
  induction us with
  | nil => cases h
  | cons a l ih =>
    have e : sumEntry (a :: l) = szEntry a + sumEntry l := by simp [sumEntry]
    rcases List.mem_cons.1 h with rfl | h
    · omega
    · have := ih h; omega
theorem sumVer_mem {us : List Ver} {u : Ver} (h : u ∈ us) : szVer u ≤ sumVer us := by
  induction us with
  | nil => cases h
  | cons a l ih =>
    have e : sumVer (a :: l) = szVer a + sumVer l := by simp [sumVer]
    rcases List.mem_cons.1 h with rfl | h
    · omega
    · have := ih h; omega
end Go.Proofs.YtklmcbabpncfmaaDoor
