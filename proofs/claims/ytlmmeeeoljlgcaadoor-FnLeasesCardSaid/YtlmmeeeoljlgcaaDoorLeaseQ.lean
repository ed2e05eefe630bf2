/- Leases: what the drops and the renewal answer, in plain words. No condition. -/
import Derived.Test.YtlmmeeeoljlgcaaDoorLeaseP
import Derived.Test.YtlmmeeeoljlgcaaDoorM2
import Derived.Test.YtlmmeeeoljlgcaaDoorM4
set_option linter.unusedVariables false
set_option linter.unusedSimpArgs false
namespace Go.Proofs.YtlmmeeeoljlgcaaDoor
open Go.RowKit
set_option linter.unusedVariables false
theorem ids_pair {ls : List Lease} (h : bookOk ls = true) : ls.Pairwise fun a b => a.id ≠ b.id := by
  rw [List.pairwise_iff_getElem]
  intro i j hi hj hij he
  have := ids_inj h hi hj he
  omega
theorem erase_left {x : Int} : ∀ (ls : List Lease) (k : Nat) (hk : k < ls.length), (ls.Pairwise fun a b => a.id ≠ b.id) → ls[k].id = x → ls.eraseIdx k = leftL (hasId x) ls
  | [], k, hk, _, _ => absurd hk (Nat.not_lt_zero _)
  | a :: ls, 0, _, hp, he => by
    have he : a.id = x := he
    have h1 := (List.pairwise_cons.1 hp).1
    have h2 : leftL (hasId x) ls = ls := by
      rw [leftL, List.filter_eq_self]
      intro b hb
      have h3 := h1 b hb
      rw [he] at h3
      simp [hasId, Ne.symm h3]
    rw [List.eraseIdx_zero, List.tail_cons]
    show ls = leftL (hasId x) (a :: ls)
    rw [leftL, List.filter_cons_of_neg (by simp [hasId, he])]
    exact h2.symm
  | a :: ls, k + 1, hk, hp, he => by
    have hk' : k < ls.length := by simpa using hk
    have he' : ls[k].id = x := by simpa using he
    have h1 := (List.pairwise_cons.1 hp).1 _ (List.getElem_mem hk')
    rw [he'] at h1
    rw [List.eraseIdx_cons_succ, erase_left ls k hk' (List.pairwise_cons.1 hp).2 he']
    rw [leftL, leftL, List.filter_cons_of_pos (by simp [hasId, h1])]
def dropIdU (ls : List Lease) (x : Int) : List Lease × Bool := if bookOk ls = true then (if anyP (hasId x) ls = true then (leftL (hasId x) ls, true) else (ls, false)) else (ls, false)
theorem dropIdU_len (ls : List Lease) (x : Int) : (dropIdU ls x).1.length ≤ ls.length := by
  unfold dropIdU
  split
  · split
    · exact leftL_len _ _
    · exact Nat.le_refl _
  · exact Nat.le_refl _
/-- A lease with other ends. -/
def withEnds (e : Int) (l : Lease) : Lease := { l with ends := e }
def renL (x e : Int) (ls : List Lease) : List Lease := ls.map fun l => if l.id = x then withEnds e l else l
def findL (x : Int) (ls : List Lease) : Option Lease := ls.find? (hasId x)
def renU (ls : List Lease) (x now by_ : Int) : List Lease × Int :=
  if bookOk ls = true then
    match findL x ls with
    | some l => if (inR by_ 1 1000000000 && inR now l.made (l.ends - 1)) = true then (renL x (min (now + by_) l.limit) ls, min (now + by_) l.limit) else (ls, 0)
    | none => (ls, 0)
  else (ls, 0)
theorem renL_len (x e : Int) (ls : List Lease) : (renL x e ls).length = ls.length := by simp [renL]
theorem renU_len (ls : List Lease) (x now by_ : Int) : (renU ls x now by_).1.length = ls.length := by
  unfold renU
  split
  · split
    · split
      · exact renL_len _ _ _
      · rfl
    · rfl
  · rfl
theorem findL_at {x : Int} {ls : List Lease} (h : bookOk ls = true) {k : Nat} (hk : k < ls.length) (he : ls[k].id = x) : findL x ls = some ls[k] := by
  rw [findL, List.find?_eq_some_iff_getElem]
  refine ⟨by simp [hasId, he], k, hk, rfl, fun j hj => ?_⟩
  have hne : ¬ ls[j].id = x := fun e => by have := ids_inj h (by omega : j < ls.length) hk (e.trans he.symm); omega
  simp [hasId, hne]
theorem findL_none {x : Int} {ls : List Lease} (h : ∀ u ∈ ls, hasId x u = false) : findL x ls = none := by
  rw [findL, List.find?_eq_none]
  intro u hu
  simp [h u hu]
/-- Turned up to k. -/
def renT (x e : Int) (ls : List Lease) (k : Nat) : List Lease := renL x e (ls.take k) ++ ls.drop k
theorem renT_zero (x e : Int) (ls : List Lease) : renT x e ls 0 = ls := by simp [renT, renL]
theorem renT_end (x e : Int) (ls : List Lease) : renT x e ls ls.length = renL x e ls := by simp [renT]
theorem renT_len (x e : Int) (ls : List Lease) (k : Nat) : (renT x e ls k).length = ls.length := by
  rw [renT, List.length_append, renL_len, List.length_take, List.length_drop]; omega
theorem renT_get {x e : Int} {ls : List Lease} {k : Nat} (hk : k < ls.length) : (renT x e ls k)[k]? = some ls[k] := by
  rw [renT, List.getElem?_append_right (by rw [renL_len, List.length_take]; omega), renL_len, List.length_take, List.getElem?_drop, Nat.min_eq_left (by omega), Nat.sub_self, Nat.add_zero, List.getElem?_eq_getElem hk]
theorem renT_skip {x e : Int} {ls : List Lease} {k : Nat} (hk : k < ls.length) (h : ¬ ls[k].id = x) : renT x e ls (k + 1) = renT x e ls k := by
  rw [renT, renT, List.take_succ_eq_append_getElem hk, List.drop_eq_getElem_cons hk, renL, List.map_append]
  simp [renL, h]
theorem renT_hit {x e : Int} {ls : List Lease} {k : Nat} (hk : k < ls.length) (h : ls[k].id = x) : renT x e ls (k + 1) = (renT x e ls k).set k (withEnds e ls[k]) := by
  have e1 : renT x e ls (k + 1) = renL x e (ls.take k) ++ withEnds e ls[k] :: ls.drop (k + 1) := by
    rw [renT, List.take_succ_eq_append_getElem hk, renL, List.map_append]
    simp [renL, h]
  have e2 : renT x e ls k = renL x e (ls.take k) ++ ls[k] :: ls.drop (k + 1) := by rw [renT, List.drop_eq_getElem_cons hk]
  have hl : (renL x e (ls.take k)).length = k := by rw [renL_len, List.length_take]; omega
  rw [e1, e2, List.set_append_right _ _ (by omega), hl, Nat.sub_self, List.set_cons_zero]
/-- One hit alone: the rest stays. -/
theorem renL_one {x e : Int} {ls : List Lease} (h : bookOk ls = true) {k : Nat} (hk : k < ls.length) (he : ls[k].id = x) : renL x e ls = ls.set k (withEnds e ls[k]) := by
  refine List.ext_getElem (by simp [renL_len]) fun j h1 h2 => ?_
  have hj : j < ls.length := by simpa [renL_len] using h1
  rw [List.getElem_set]
  simp only [renL, List.getElem_map]
  by_cases hjk : k = j
  · subst hjk; rw [if_pos he, if_pos rfl]
  · rw [if_neg hjk, if_neg (fun e' => hjk (ids_inj h hk hj (he.trans e'.symm)))]
theorem flat_set_ends {ls : List Lease} {k : Nat} {e : Int} (hk : k < ls.length) : (ls.flatMap encLease).set (k * 6 + 4) (.int .i64 e) = (ls.set k (withEnds e ls[k])).flatMap encLease := by
  induction ls generalizing k with
  | nil => exact absurd hk (Nat.not_lt_zero _)
  | cons a ls ih =>
    cases k with
    | zero => simp [encLease, withEnds]
    | succ k =>
      have hk' : k < ls.length := by simpa using hk
      have e1 : (k + 1) * 6 + 4 = (encLease a).length + (k * 6 + 4) := by show _ = 6 + _; omega
      rw [List.flatMap_cons, e1, List.set_append_right _ _ (by omega), Nat.add_sub_cancel_left, ih hk']
      simp
/-- Below a prefix; of one of the tokens; ended. -/

def isUnder (p : ByteArray) (l : Lease) : Bool := underF p l.path
def isOf (ts : List Int) (l : Lease) : Bool := hasI ts l.token
def isOver (now : Int) (l : Lease) : Bool := decide (l.ends ≤ now)
def dropByU (b : Bool) (p : Lease → Bool) (ls : List Lease) : List Lease × List Lease := if (bookOk ls && b) = true then (leftL p ls, goneL p ls) else (ls, [])
theorem dropByU_len (b : Bool) (p : Lease → Bool) (ls : List Lease) : (dropByU b p ls).1.length ≤ ls.length ∧ (dropByU b p ls).2.length ≤ ls.length := by
  unfold dropByU
  split
  · exact ⟨leftL_len _ _, goneL_len _ _⟩
  · exact ⟨Nat.le_refl _, Nat.zero_le _⟩
end Go.Proofs.YtlmmeeeoljlgcaaDoor
