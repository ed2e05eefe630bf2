/- Users: what a drop answers, in plain words. No condition. -/
import Derived.Test.YtnhdpcmnnjgdkaaBsUser
import Derived.Test.YtnhdpcmnnjgdkaaRise
import Derived.Lib.Bytealg
set_option linter.unusedVariables false
set_option linter.unusedSimpArgs false
namespace Go.Proofs.Ytnhdpcmnnjgdkaa
open Go.RowKit
set_option linter.unusedVariables false

def cmpS (a b : ByteArray) : Int := Lib.compareBytes a.data.toList b.data.toList
theorem compareBytes_iff : ∀ a b : List UInt8, (Lib.compareBytes a b < 0 ↔ a < b) ∧ (Lib.compareBytes a b = 0 ↔ a = b)
  | [], [] => by simp [Lib.compareBytes]
  | [], _ :: _ => by simp [Lib.compareBytes]
  | _ :: _, [] => by simp [Lib.compareBytes]
  | x :: a, y :: b => by
    have ih := compareBytes_iff a b
    rw [Lib.compareBytes, List.cons_lt_cons_iff, List.cons.injEq]
    by_cases h1 : x < y
    · have hne : x ≠ y := fun e => by subst e; exact absurd h1 (UInt8.lt_irrefl x)
      simp [h1, hne]
    · by_cases h2 : y < x
      · have hne : x ≠ y := fun e => by subst e; exact absurd h2 (UInt8.lt_irrefl x)
        simp [h1, h2, hne]
      · have he : x = y := UInt8.le_antisymm (UInt8.not_lt.1 h2) (UInt8.not_lt.1 h1)
        simp [he, ih.1, ih.2]
theorem cmpS_lt {a b : ByteArray} : cmpS a b < 0 ↔ ltS a b = true := by
  rw [ltS_lt, cmpS, (compareBytes_iff _ _).1, ByteArray.toList_eq, ByteArray.toList_eq]
theorem cmpS_eq {a b : ByteArray} : cmpS a b = 0 ↔ a = b := by
  rw [cmpS, (compareBytes_iff _ _).2]
  exact ⟨fun h => ByteArray.ext (Array.toList_inj.1 h), fun h => by rw [h]⟩

def cfU (s : ByteArray) (u : User) : Int := cmpS u.name s
theorem cfU_mono {us : List User} (hr : Rises (us.map (·.name))) (s : ByteArray) : ∀ a b (hb : b < us.length) (hab : a ≤ b), cfU s us[b] < 0 → cfU s (us[a]'(by omega)) < 0 := by
  intro a b hb hab h
  by_cases e : a = b
  · subst e; exact h
  · have := hr.lt (i := a) (j := b) (by simpa using hb) (by omega)
    simp only [List.getElem_map] at this
    exact cmpS_lt.2 (ltS_trans this (cmpS_lt.1 h))
theorem bs_of_at {us : List User} (hr : Rises (us.map (·.name))) {s : ByteArray} {j : Nat} (hj : j < us.length) (he : us[j].name = s) : bsAt (cfU s) us = j := by
  refine countP_edge _ us j (by omega) (fun t h ht => decide_eq_true ?_) (fun t h ht => decide_eq_false ?_)
  · have := hr.lt (i := t) (j := j) (by simpa using hj) ht
    simp only [List.getElem_map] at this
    exact cmpS_lt.2 (by rw [← he]; exact this)
  · intro hlt
    have h1 : ltS us[t].name s = true := cmpS_lt.1 hlt
    by_cases e : t = j
    · subst e; rw [he, ltS_irrefl] at h1; cases h1
    · have h2 := hr.lt (i := j) (j := t) (by simpa using h) (by omega)
      simp only [List.getElem_map] at h2
      rw [he] at h2
      rw [ltS_asymm h2] at h1
      cases h1
def keepU (s : ByteArray) (us : List User) : List User := us.filter (fun u => !(eqB u.name s))
theorem keep_miss {us : List User} (hr : Rises (us.map (·.name))) {s : ByteArray} (h : bsHit (cfU s) us = false) : keepU s us = us := by
  rw [keepU, List.filter_eq_self]
  intro u hu
  cases he : eqB u.name s with
  | false => rfl
  | true =>
    obtain ⟨j, hj, rfl⟩ := List.getElem_of_mem hu
    have e := eqB_iff.1 he
    rw [bsHit, bs_of_at hr hj e, List.getElem?_eq_getElem hj] at h
    simp [cfU, cmpS_eq.2 e] at h
theorem bsHit_at {us : List User} {s : ByteArray} (h : bsHit (cfU s) us = true) : ∃ hj : bsAt (cfU s) us < us.length, us[bsAt (cfU s) us].name = s := by
  rw [bsHit] at h
  by_cases hj : bsAt (cfU s) us < us.length
  · rw [List.getElem?_eq_getElem hj] at h
    exact ⟨hj, cmpS_eq.1 (@of_decide_eq_true _ _ h)⟩
  · rw [List.getElem?_eq_none (by omega)] at h; cases h
theorem keep_hit {us : List User} (hr : Rises (us.map (·.name))) {s : ByteArray} (h : bsHit (cfU s) us = true) : keepU s us = us.eraseIdx (bsAt (cfU s) us) := by
  obtain ⟨hj, he⟩ := bsHit_at h
  generalize bsAt (cfU s) us = i at hj he
  have h0 : us = us.take i ++ us[i] :: us.drop (i + 1) := by rw [← List.drop_eq_getElem_cons hj, List.take_append_drop]
  have hne : ∀ j (hj' : j < us.length), j ≠ i → eqB us[j].name s = false := by
    intro j hj' hn
    cases hq : eqB us[j].name s with
    | false => rfl
    | true =>
      refine absurd (hr.inj (i := j) (j := i) (by simpa using hj') (by simpa using hj) ?_) hn
      simp only [List.getElem_map]
      rw [eqB_iff.1 hq, he]
  have h1 : (us.take i).filter (fun u => !(eqB u.name s)) = us.take i := by
    rw [List.filter_eq_self]
    intro u hu
    obtain ⟨j, hj', rfl⟩ := List.mem_take_iff_getElem.1 hu
    rw [hne j (by omega) (by omega)]; rfl
  have h2 : (us.drop (i + 1)).filter (fun u => !(eqB u.name s)) = us.drop (i + 1) := by
    rw [List.filter_eq_self]
    intro u hu
    obtain ⟨j, hj', rfl⟩ := List.getElem_of_mem hu
    rw [List.getElem_drop, hne _ (by simp at hj'; omega) (by omega)]; rfl
  rw [keepU, List.eraseIdx_eq_take_drop_succ]
  conv => lhs; rw [h0]
  rw [List.filter_append, h1, List.filter_cons_of_neg (by rw [eqB_iff.2 he]; simp), h2]

/-- What a drop leaves, and its code. -/
structure DropR where
  us : List User
  fail : Int
  code : Int
def dropU (us : List User) (fail made : Int) (s : ByteArray) : DropR :=
  if farOk us fail made then (if 0 < fail then ⟨us, fail - 1, 2⟩ else ⟨keepU s us, fail, 0⟩) else ⟨us, fail, 1⟩
theorem keepU_len (s : ByteArray) (us : List User) : (keepU s us).length ≤ us.length := List.length_filter_le _ _
theorem dropU_len (us : List User) (fail made : Int) (s : ByteArray) : (dropU us fail made s).us.length ≤ us.length := by
  rw [dropU]
  split
  · split
    · exact Nat.le_refl _
    · exact keepU_len s us
  · exact Nat.le_refl _
end Go.Proofs.Ytnhdpcmnnjgdkaa
