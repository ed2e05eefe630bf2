/- Versions of a store turned in place: the plain functions, and what the footprint says. No condition. -/
import Derived.Test.YtklmcbabpncfmaaDoorKvC
import Derived.Test.YtklmcbabpncfmaaDoorKvG
namespace Go.Proofs.YtklmcbabpncfmaaDoor
open Go.RowKit
set_option linter.unusedVariables false
set_option linter.unusedSimpArgs false
def killV (v : Ver) : Ver := ⟨[], none, 0, v.made, false, true⟩
def goneV (b : Bool) (v : Ver) : Ver := { v with gone := b }
/-- What each of the three does to a version: 0 take, 1 bring, 2 kill. -/
def actV (what : Int) (v : Ver) : Ver := if what = 2 then killV v else if v.dead = true then v else goneV (decide (what = 0)) v
def chV (p : Nat → Bool) (f : Ver → Ver) (vs : List Ver) : List Ver := vs.mapIdx fun j v => if p j then f v else v
def chE (ls : List Int) (what : Int) (e : Entry) : Entry := { e with vs := chV (fun j => hasI ls (e.first + (j : Int))) (actV what) e.vs }
/-- What is left, and the code. -/
def eachK (us : List Entry) (s : ByteArray) (ls : List Int) (what : Int) : List Entry × Int :=
  if storeOk us = true then (if ls.length ≤ 200 then (if 0 ≤ ixP (hasP s) us 0 then (us.modify (ixP (hasP s) us 0).toNat (chE ls what), 0) else (us, 2)) else (us, 1)) else (us, 1)
theorem actV_twice (what : Int) (v : Ver) : actV what (actV what v) = actV what v := by
  unfold actV
  by_cases h : what = 2
  · rw [if_pos h, if_pos h]; rfl
  · rw [if_neg h, if_neg h]
    cases hd : v.dead with
    | true => rw [if_pos rfl, hd, if_pos rfl]
    | false => simp [goneV, hd]
theorem chV_len {p : Nat → Bool} {f : Ver → Ver} {vs : List Ver} : (chV p f vs).length = vs.length := by simp [chV]
theorem chV_get {p : Nat → Bool} {f : Ver → Ver} {vs : List Ver} {i : Nat} (h : i < vs.length) : (chV p f vs)[i]'(by rw [chV_len]; exact h) = if p i then f vs[i] else vs[i] := by simp [chV]
theorem chV_set {p q : Nat → Bool} {f : Ver → Ver} {vs : List Ver} {i : Nat} (hf : ∀ v, f (f v) = f v) (hi : i < vs.length) (hq : ∀ j, q j = (p j || decide (j = i))) : (chV p f vs).set i (f ((chV p f vs)[i]'(by rw [chV_len]; exact hi))) = chV q f vs := by
  refine List.ext_getElem (by simp [chV]) fun j h1 h2 => ?_
  have hj : j < vs.length := by simpa [chV] using h2
  rw [List.getElem_set, chV_get (p := q) hj, hq j]
  by_cases e : i = j
  · subst e
    rw [if_pos rfl, chV_get hi]
    cases p i <;> simp [hf]
  · rw [if_neg e, chV_get (p := p) hj]
    have e2 : decide (j = i) = false := decide_eq_false fun h => e h.symm
    rw [e2, Bool.or_false]
theorem chV_congr {p q : Nat → Bool} {f : Ver → Ver} {vs : List Ver} (hq : ∀ j, j < vs.length → q j = p j) : chV p f vs = chV q f vs := by
  refine List.ext_getElem (by simp [chV]) fun j h1 h2 => ?_
  have hj : j < vs.length := by simpa [chV] using h2
  rw [chV_get hj, chV_get hj, hq j hj]
theorem chV_none {p : Nat → Bool} {f : Ver → Ver} {vs : List Ver} (hq : ∀ j, j < vs.length → p j = false) : chV p f vs = vs := by
  refine List.ext_getElem (by simp [chV]) fun j h1 h2 => ?_
  have hj : j < vs.length := h2
  rw [chV_get hj, hq j hj]; rfl
theorem actV_pl (what : Int) (v : Ver) : plV (actV what v) = actV what (plV v) := by
  unfold actV
  split
  · rfl
  · show plV (if v.dead = true then v else _) = if v.dead = true then _ else _
    split <;> rfl
theorem chV_pl (p : Nat → Bool) (what : Int) (vs : List Ver) : (chV p (actV what) vs).map plV = chV p (actV what) (vs.map plV) := by
  refine List.ext_getElem (by simp [chV]) fun j h1 h2 => ?_
  have hj : j < vs.length := by simpa [chV] using h1
  rw [List.getElem_map, chV_get hj, chV_get (by simpa using hj), List.getElem_map]
  split
  · rw [actV_pl]
  · rfl
theorem chE_pl (ls : List Int) (what : Int) (e : Entry) : plE (chE ls what e) = chE ls what (plE e) := by
  simp only [plE, chE, chV_pl]
theorem modify_map {α β : Type} (g : α → β) (f : α → α) (f' : β → β) (h : ∀ x, g (f x) = f' (g x)) (l : List α) (i : Nat) : (l.modify i f).map g = (l.map g).modify i f' := by
  refine List.ext_getElem (by simp) fun j h1 h2 => ?_
  simp only [List.getElem_map, List.getElem_modify]
  split
  · exact h _
  · rfl
theorem eachK_map (us : List Entry) (s : ByteArray) (ls : List Int) (what : Int) (hix : ixP (hasP s) (us.map plE) 0 = ixP (hasP s) us 0) (hok : storeOk (us.map plE) = storeOk us) : (eachK (us.map plE) s ls what).1 = (eachK us s ls what).1.map plE ∧ (eachK (us.map plE) s ls what).2 = (eachK us s ls what).2 := by
  unfold eachK
  rw [hix, hok]
  split
  · split
    · split
      · exact ⟨(modify_map plE (chE ls what) (chE ls what) (chE_pl ls what) us _).symm, rfl⟩
      · exact ⟨rfl, rfl⟩
    · exact ⟨rfl, rfl⟩
  · exact ⟨rfl, rfl⟩
theorem modify_set {α : Type} {f : α → α} {l : List α} {i : Nat} (h : i < l.length) : l.modify i f = l.set i (f l[i]) := by
  refine List.ext_getElem (by simp) fun j h1 h2 => ?_
  rw [List.getElem_modify, List.getElem_set]
  split
  · next e => subst e; rfl
  · rfl
/-! ### the footprint -/
theorem flat_set1 {α : Type} {enc : α → List Value} {m : Nat} (he : ∀ x, (enc x).length = m) {us : List α} {k j t : Nat} (hk : k < us.length) (hj : j = k * m + t) (ht : t < m) {x : Value} {v : α} (hx : (enc us[k]).set t x = enc v) : (us.flatMap enc).set j x = (us.set k v).flatMap enc := by
  subst hj
  have h0 : us = us.take k ++ us[k] :: us.drop (k + 1) := by rw [← List.drop_eq_getElem_cons hk, List.take_append_drop]
  have hl : ((us.take k).flatMap enc).length = k * m := by rw [flat_len enc m he, List.length_take]; congr 1; omega
  have h1 : us.flatMap enc = (us.take k).flatMap enc ++ (enc us[k] ++ (us.drop (k + 1)).flatMap enc) := by
    conv => lhs; rw [h0]
    rw [List.flatMap_append, List.flatMap_cons]
  have h2 : (us.set k v).flatMap enc = (us.take k).flatMap enc ++ (enc v ++ (us.drop (k + 1)).flatMap enc) := by
    rw [List.set_eq_take_append_cons_drop, if_pos hk, List.flatMap_append, List.flatMap_cons]
  rw [h1, h2, set_off hl, List.set_append_left _ _ (by rw [he]; exact ht), hx]
theorem Hp.verSet {w0 w : World} {P N : List Ent} {ds : List Ver} {k : Nat} {v' : Ver} (hk : k < ds.length) (hv : verF v' = verF ds[k] ∨ verF v' = [rByte none 0 []]) (H : Hp w0 w (P ++ (ds.flatMap verF ++ N))) : Hp w0 w (P ++ ((ds.set k v').flatMap verF ++ N)) := by
  have h1 : ds.flatMap verF = (ds.take k).flatMap verF ++ (verF ds[k] ++ (ds.drop (k + 1)).flatMap verF) := by
    rw [← List.flatMap_cons, ← List.flatMap_append, ← List.drop_eq_getElem_cons hk, List.take_append_drop]
  have h2 : (ds.set k v').flatMap verF = (ds.take k).flatMap verF ++ (verF v' ++ (ds.drop (k + 1)).flatMap verF) := by
    rw [List.set_eq_take_append_cons_drop, if_pos hk, List.flatMap_append, List.flatMap_cons]
  rcases hv with e | e
  · rw [h2, e, ← h1]; exact H
  · rw [h2, e]
    rw [h1] at H
    have H2 : Hp w0 w (rByte none 0 [] :: (P ++ ((ds.take k).flatMap verF ++ ((ds.drop (k + 1)).flatMap verF ++ N)))) := by
      refine Hp.cons_nilRow (H.sel ⟨verF ds[k], ?_⟩) 5 1
      simp only [List.append_assoc]
      refine List.Perm.append_left P (List.Perm.append_left _ ?_)
      rw [← List.append_assoc]
      exact List.perm_append_comm
    refine H2.perm ?_
    rw [List.append_assoc, ← List.append_assoc P, ← List.append_assoc P]
    exact List.perm_middle
/-- One entry of a store laid open, to be shut again with other versions. -/
theorem stoE_open {w0 w : World} {D : List Ent} {A va : Option Addr} {c n vc i : Nat} {es : List Entry} {path : ByteArray} {first : Int} {vs : List Ver} (H : Hp w0 w (stoE A c n es :: D)) (hi : i < es.length) (he : es[i] = ⟨path, first, vs, va, vc⟩) :
    ∃ N, Hp w0 w (row 71 4 (.slice va vs.length vc) vs.length (vs.flatMap encVer) :: row 62 3 (.slice A n c) n (es.flatMap encEntry) :: (D ++ (vs.flatMap verF ++ N))) ∧
      ∀ (ds : List Ver) (D' : List Ent) (w' : World), ds.length = vs.length → Hp w0 w' (row 71 4 (.slice va vs.length vc) vs.length (ds.flatMap encVer) :: row 62 3 (.slice A n c) n (es.flatMap encEntry) :: (D' ++ (ds.flatMap verF ++ N))) → Hp w0 w' (stoE A c n (es.set i ⟨path, first, ds, va, vc⟩) :: D') := by
  have hp0 : ∀ (ds : List Ver), (es.set i ⟨path, first, ds, va, vc⟩).flatMap entF = (es.take i).flatMap entF ++ (entF ⟨path, first, ds, va, vc⟩ ++ (es.drop (i + 1)).flatMap entF) := by
    intro ds
    rw [List.set_eq_take_append_cons_drop, if_pos hi, List.flatMap_append, List.flatMap_cons]
  have hself : es.set i ⟨path, first, vs, va, vc⟩ = es := by rw [← he, List.set_getElem_self]
  have hen : ∀ (ds : List Ver), ds.length = vs.length → (es.set i ⟨path, first, ds, va, vc⟩).flatMap encEntry = es.flatMap encEntry := by
    intro ds hl
    have h2 : ∀ v : Entry, (es.set i v).flatMap encEntry = (es.take i).flatMap encEntry ++ (encEntry v ++ (es.drop (i + 1)).flatMap encEntry) := by
      intro v; rw [List.set_eq_take_append_cons_drop, if_pos hi, List.flatMap_append, List.flatMap_cons]
    conv => rhs; rw [← hself]
    rw [h2, h2]
    simp [encEntry, hl]
  have key : ∀ (ds : List Ver) (D' : List Ent), List.Perm (row 71 4 (.slice va ds.length vc) ds.length (ds.flatMap encVer) :: row 62 3 (.slice A n c) n (es.flatMap encEntry) :: (D' ++ (ds.flatMap verF ++ ((es.take i).flatMap entF ++ (es.drop (i + 1)).flatMap entF)))) (D' ++ (row 62 3 (.slice A n c) n (es.flatMap encEntry) :: ((es.take i).flatMap entF ++ (entF ⟨path, first, ds, va, vc⟩ ++ (es.drop (i + 1)).flatMap entF)))) := by
    intro ds D'
    show List.Perm _ (D' ++ (_ :: (_ ++ ((row 71 4 (.slice va ds.length vc) ds.length (ds.flatMap encVer) :: ds.flatMap verF) ++ _))))
    generalize row 71 4 (.slice va ds.length vc) ds.length (ds.flatMap encVer) = a
    generalize row 62 3 (.slice A n c) n (es.flatMap encEntry) = b
    generalize ds.flatMap verF = X
    generalize (es.take i).flatMap entF = T
    generalize (es.drop (i + 1)).flatMap entF = U
    letI : DecidableEq Ent := fun a b => Classical.propDecidable (a = b)
    rw [List.perm_iff_count]
    intro e
    simp only [List.count_cons, List.count_append]
    omega
  refine ⟨(es.take i).flatMap entF ++ (es.drop (i + 1)).flatMap entF, ?_, fun ds D' w' hl H' => ?_⟩
  · have H2 := Hp.unpack D (stoR A c n es) (H.perm (List.perm_append_singleton _ _))
    refine H2.perm ?_
    have := key vs D
    rw [← hp0 vs, hself] at this
    exact this
  · rw [← hl] at H'
    have H2 := H'.perm (key ds D').symm
    rw [← hp0 ds, ← hen ds hl] at H2
    exact (Hp.pack D' (stoR A c n (es.set i ⟨path, first, ds, va, vc⟩)) H2).perm (List.perm_append_singleton _ _).symm
end Go.Proofs.YtklmcbabpncfmaaDoor
