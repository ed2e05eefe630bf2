/- Piles: what a pruning and a revocation leave, in plain words. No condition. -/
import Derived.Test.YtlblkpcjknjijaaGreatDoorCertP
set_option linter.unusedVariables false
set_option linter.unusedSimpArgs false
namespace Go.Proofs.YtlblkpcjknjijaaGreatDoor
open Go.RowKit
set_option linter.unusedVariables false
def oldC (now : Int) (c : Cert) : Bool := decide (c.to_ < now)
def goneC (now : Int) (cs : List Cert) : List Int := (cs.filter (oldC now)).map (·.ser)
def keepC (now : Int) (cs : List Cert) : List Cert := cs.filter fun c => !oldC now c
def keepK (now : Int) (cs : List Cert) (ks : List CertKey) : List CertKey := ((cs.zip ks).filter fun x => !oldC now x.1).map (·.2)
def keepD (gone ds : List Int) : List Int := ds.filter fun d => !hasI gone d
section
variable {now : Int} {cs : List Cert} {ks : List CertKey} {k : Nat} {gone ds : List Int}
theorem goneC_hit (hk : k < cs.length) (h : oldC now cs[k] = true) : goneC now (cs.take (k + 1)) = goneC now (cs.take k) ++ [cs[k].ser] := by
  rw [goneC, List.take_succ_eq_append_getElem hk, List.filter_append, List.filter_cons_of_pos h, List.map_append]; rfl
theorem goneC_miss (hk : k < cs.length) (h : oldC now cs[k] = false) : goneC now (cs.take (k + 1)) = goneC now (cs.take k) := by
  rw [goneC, List.take_succ_eq_append_getElem hk, List.filter_append, List.filter_cons_of_neg (by rw [h]; decide), List.map_append]; simp [goneC]
theorem keepC_hit (hk : k < cs.length) (h : oldC now cs[k] = true) : keepC now (cs.take (k + 1)) = keepC now (cs.take k) := by
  rw [keepC, List.take_succ_eq_append_getElem hk, List.filter_append, List.filter_cons_of_neg (by rw [h]; decide)]; simp [keepC]
theorem keepC_miss (hk : k < cs.length) (h : oldC now cs[k] = false) : keepC now (cs.take (k + 1)) = keepC now (cs.take k) ++ [cs[k]] := by
  rw [keepC, List.take_succ_eq_append_getElem hk, List.filter_append, List.filter_cons_of_pos (by rw [h]; rfl)]; rfl
theorem zip_take (hk : k < cs.length) (hl : ks.length = cs.length) : (cs.take (k + 1)).zip (ks.take (k + 1)) = (cs.take k).zip (ks.take k) ++ [(cs[k], ks[k]'(by omega))] := by
  rw [List.take_succ_eq_append_getElem hk, List.take_succ_eq_append_getElem (by omega : k < ks.length), List.zip_append (by simp; omega)]; rfl
theorem keepK_hit (hk : k < cs.length) (hl : ks.length = cs.length) (h : oldC now cs[k] = true) : keepK now (cs.take (k + 1)) (ks.take (k + 1)) = keepK now (cs.take k) (ks.take k) := by
  rw [keepK, zip_take hk hl, List.filter_append, List.filter_cons_of_neg (by simp [h]), List.map_append]; simp [keepK]
theorem keepK_miss (hk : k < cs.length) (hl : ks.length = cs.length) (h : oldC now cs[k] = false) : keepK now (cs.take (k + 1)) (ks.take (k + 1)) = keepK now (cs.take k) (ks.take k) ++ [ks[k]'(by omega)] := by
  rw [keepK, zip_take hk hl, List.filter_append, List.filter_cons_of_pos (by simp [h]), List.map_append]; rfl
theorem keepD_hit (hk : k < ds.length) (h : hasI gone ds[k] = true) : keepD gone (ds.take (k + 1)) = keepD gone (ds.take k) := by
  rw [keepD, List.take_succ_eq_append_getElem hk, List.filter_append, List.filter_cons_of_neg (by rw [h]; decide)]; simp [keepD]
theorem keepD_miss (hk : k < ds.length) (h : hasI gone ds[k] = false) : keepD gone (ds.take (k + 1)) = keepD gone (ds.take k) ++ [ds[k]] := by
  rw [keepD, List.take_succ_eq_append_getElem hk, List.filter_append, List.filter_cons_of_pos (by rw [h]; rfl)]; rfl
theorem goneC_len : (goneC now cs).length ≤ cs.length := by rw [goneC, List.length_map]; exact List.length_filter_le _ _
theorem keepC_len : (keepC now cs).length ≤ cs.length := List.length_filter_le _ _
theorem keepK_len : (keepK now cs ks).length ≤ cs.length := by
  rw [keepK, List.length_map]
  refine Nat.le_trans (List.length_filter_le _ _) ?_
  rw [List.length_zip]; omega
theorem keepD_len : (keepD gone ds).length ≤ ds.length := List.length_filter_le _ _
end
/-- What PruneDead answers. -/
structure PruneR where
  cs : List Cert
  ks : List CertKey
  ds : List Int
  n : Int
def pruneU (cs : List Cert) (ks : List CertKey) (ds : List Int) (now : Int) : PruneR :=
  if pileOk cs ks ds = true then ⟨keepC now cs, keepK now cs ks, keepD (goneC now cs) ds, (goneC now cs).length⟩ else ⟨cs, ks, ds, -1⟩
theorem pruneU_len (cs : List Cert) (ks : List CertKey) (ds : List Int) (now : Int) (h1 : cs.length ≤ 1048576) (h2 : ks.length ≤ 1048576) (h3 : ds.length ≤ 1048576) : (pruneU cs ks ds now).cs.length ≤ 1048576 ∧ (pruneU cs ks ds now).ks.length ≤ 1048576 ∧ (pruneU cs ks ds now).ds.length ≤ 1048576 := by
  unfold pruneU
  split
  · exact ⟨Nat.le_trans keepC_len h1, Nat.le_trans keepK_len h1, Nat.le_trans keepD_len h3⟩
  · exact ⟨h1, h2, h3⟩
end Go.Proofs.YtlblkpcjknjijaaGreatDoor
