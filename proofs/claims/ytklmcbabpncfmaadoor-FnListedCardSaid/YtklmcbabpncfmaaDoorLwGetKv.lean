/- FnExactGetKv: the walk. No condition. -/
import Derived.Test.YtklmcbabpncfmaaDoorM7
import Derived.Test.YtklmcbabpncfmaaDoorStoreQ
import Derived.Test.YtklmcbabpncfmaaDoorKvH
import Derived.Test.YtklmcbabpncfmaaDoorEnByte
import Derived.Deep.RegionWith
import Derived.Deep.RegionHeld3
namespace Go.Proofs.YtklmcbabpncfmaaDoor
open Go.RowKit
set_option linter.unusedVariables false
set_option linter.unusedSimpArgs false
theorem plV_idem (v : Ver) : plV (plV v) = plV v := rfl
theorem plE_idem (e : Entry) : plE (plE e) = plE e := by
  simp only [plE, List.map_map]
  congr 1
theorem mapE_idem (us : List Entry) : (us.map plE).map plE = us.map plE := by
  rw [List.map_map]
  exact List.map_congr_left fun e _ => plE_idem e
theorem ixP_plE (s : ByteArray) : ∀ (us : List Entry) (k : Nat), ixP (hasP s) (us.map plE) k = ixP (hasP s) us k
  | [], _ => rfl
  | u :: us, k => by
    rw [List.map_cons, ixP, ixP, ixP_plE s us]
    rfl
theorem getE_pl (e : Entry) (ver : Int) : getE (plE e) ver = getE e ver := by
  simp only [getE, plE, List.length_map, List.getElem?_map]
  cases e.vs[((if ver = 0 then e.first + (e.vs.length : Int) - 1 else ver) - e.first).toNat]? with
  | none => rfl
  | some v => rfl
theorem getF_map (us : List Entry) (s : ByteArray) (ver : Int) : getF (us.map plE) s ver = getF us s ver := by
  rw [getF, getF, storeOk_pl (mapE_idem us), ixP_plE, List.getElem?_map]
  cases us[(ixP (hasP s) us 0).toNat]? with
  | none => rfl
  | some e =>
    show (if _ then (if _ then getE (plE e) ver else _) else _) = _
    rw [getE_pl]; rfl
theorem getF_pl {us vs : List Entry} (s : ByteArray) (ver : Int) (h : vs.map plE = us.map plE) : getF vs s ver = getF us s ver := by
  rw [← getF_map vs, h, getF_map]
theorem getE_len {e : Entry} {ver : Int} (h : e.vs.all verOk = true) : (getE e ver).data.length ≤ 300 := by
  unfold getE
  generalize (if ver = 0 then e.first + (e.vs.length : Int) - 1 else ver) = nn
  cases inR nn e.first (e.first + (e.vs.length : Int) - 1) with
  | false => simp
  | true =>
    rw [if_pos rfl]
    cases hv : e.vs[(nn - e.first).toNat]? with
    | none => simp
    | some v =>
      have h1 := List.all_eq_true.1 h v (List.mem_of_getElem? hv)
      simp only [verOk, Bool.and_eq_true, decide_eq_true_eq] at h1
      show (if v.dead = true then (⟨[], 4, 0⟩ : GetR) else if v.gone = true then ⟨[], 3, 0⟩ else ⟨v.data, 0, nn⟩).data.length ≤ 300
      cases v.dead <;> cases v.gone <;> simp [h1.1]
theorem getF_len (es : List Entry) (s : ByteArray) (ver : Int) : (getF es s ver).data.length ≤ 300 := by
  unfold getF
  split
  · next h =>
    split
    · cases he : es[(ixP (hasP s) es 0).toNat]? with
      | none => exact getE_len rfl
      | some e => exact getE_len ((ok_entry h).2 e (List.mem_of_getElem? he)).2.2.2.2
    · simp
  · simp
theorem cntV_le (vs : List Ver) : cntV vs ≤ 3 * (vs.length + sumVer vs) := by
  induction vs with
  | nil => simp [cntV]
  | cons v vs ih =>
    have e : sumVer (v :: vs) = szVer v + sumVer vs := by simp [sumVer]
    have e2 : szVer v = v.data.length := rfl
    rw [cntV, List.length_cons]; omega
theorem cntE_le (es : List Entry) : cntE es ≤ 2 * es.length + 3 * sumEntry es := by
  induction es with
  | nil => simp [cntE]
  | cons a es ih =>
    have e : sumEntry (a :: es) = szEntry a + sumEntry es := by simp [sumEntry]
    have e2 : szEntry a = a.path.size + (a.vs.length + sumVer a.vs) := rfl
    have h1 := cntV_le a.vs
    rw [cntE, List.length_cons]; omega
theorem cntV_pl (vs : List Ver) : cntV (vs.map plV) = cntV vs := by
  induction vs with
  | nil => rfl
  | cons v vs ih => rw [List.map_cons, cntV, cntV, ih]; rfl
theorem cntE_map (es : List Entry) : cntE (es.map plE) = cntE es := by
  induction es with
  | nil => rfl
  | cons a es ih =>
    rw [List.map_cons, cntE, cntE, ih]
    show 2 + cntV (a.vs.map plV) + _ = _
    rw [cntV_pl]
theorem cntE_pl {us vs : List Entry} (h : vs.map plE = us.map plE) : cntE vs = cntE us := by rw [← cntE_map vs, h, cntE_map]
end Go.Proofs.YtklmcbabpncfmaaDoor
