/- The text of a store, in plain words. No condition. -/
import Derived.Test.YtklmcbabpncfmaaDoorStoreP
import Derived.Lib.ItoaNum
namespace Go.Proofs.YtklmcbabpncfmaaDoor
open Go.RowKit
/-- What stands ahead of an entry's versions. -/
def headF (e : Entry) : List UInt8 := e.path.data.toList ++ (32 :: (Go.Lib.decDigits e.first.toNat ++ (32 :: (Go.Lib.decDigits e.vs.length ++ [32]))))
def verC (v : Ver) : UInt8 := if v.dead then 100 else if v.gone then 103 else 118
def entL (e : Entry) : List UInt8 := headF e ++ e.vs.map verC ++ [10]
def kvL (es : List Entry) : List UInt8 := es.flatMap entL
def kvS (es : List Entry) : ByteArray := if storeOk es = true then ⟨(kvL es).toArray⟩ else ⟨#[]⟩
theorem kvL_snoc {es : List Entry} {k : Nat} (hk : k < es.length) : kvL (es.take (k + 1)) = kvL (es.take k) ++ entL es[k] := by
  rw [kvL, kvL, List.take_succ_eq_append_getElem hk, List.flatMap_append, List.flatMap_cons, List.flatMap_nil, List.append_nil]
theorem verC_snoc {vs : List Ver} {k : Nat} (hk : k < vs.length) : (vs.take (k + 1)).map verC = (vs.take k).map verC ++ [verC vs[k]] := by
  rw [List.take_succ_eq_append_getElem hk, List.map_append]; rfl
theorem ok_entry {es : List Entry} (h : storeOk es = true) : es.length ≤ 60 ∧ ∀ e ∈ es, e.path.size ≤ 120 ∧ (1 ≤ e.first ∧ e.first ≤ 1000000) ∧ 1 ≤ e.vs.length ∧ e.vs.length ≤ 8 ∧ e.vs.all verOk = true := by
  simp only [storeOk, Bool.and_eq_true, decide_eq_true_eq] at h
  refine ⟨h.1, fun e he => ?_⟩
  obtain ⟨k, hk, rfl⟩ := List.getElem_of_mem he
  have h1 := List.all_eq_true.1 h.2 k (by simpa using hk)
  unfold entStep at h1
  rw [List.getElem?_eq_getElem hk] at h1
  simp only [entOk, pathF, globF, Bool.and_eq_true, decide_eq_true_eq] at h1
  obtain ⟨⟨⟨⟨hp, -⟩, -⟩, h2, h3, h4⟩, -⟩ := h1
  have h5 := inR_true.1 h2
  have h6 := inR_true.1 h3
  exact ⟨hp, h5, by omega, by omega, h4⟩
theorem verC_pl (vs : List Ver) : (vs.map plV).map verC = vs.map verC := by
  induction vs with
  | nil => rfl
  | cons a l ih => rw [List.map_cons, List.map_cons, List.map_cons, ih]; rfl
theorem entL_pl (e : Entry) : entL (plE e) = entL e := by
  unfold entL headF plE
  rw [verC_pl, List.length_map]
theorem kvL_pl (es : List Entry) : kvL (es.map plE) = kvL es := by
  induction es with
  | nil => rfl
  | cons a l ih =>
    unfold kvL at ih ⊢
    rw [List.map_cons, List.flatMap_cons, List.flatMap_cons, ih, entL_pl]
theorem kvS_pl {us vs : List Entry} (h : vs.map plE = us.map plE) : kvS vs = kvS us := by
  unfold kvS
  rw [storeOk_pl h, ← kvL_pl vs, h, kvL_pl]
end Go.Proofs.YtklmcbabpncfmaaDoor
