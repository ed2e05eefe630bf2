/- Stores: which are valid, in plain words; whether a version is (the program's). No condition. -/
import Derived.Test.YtklmcbabpncfmaaDoorElEntry
import Derived.Test.YtklmcbabpncfmaaDoorM6
import Derived.Test.YtklmcbabpncfmaaDoorM5
namespace Go.Proofs.YtklmcbabpncfmaaDoor
open Go.RowKit
set_option linter.unusedVariables false
set_option linter.unusedSimpArgs false
def verOk (v : Ver) : Bool := decide (v.data.length ≤ 300) && (inR v.made 0 1000000000 && (!v.dead || (decide (v.data.length = 0) && !v.gone)))
/-- Whether an entry is valid by itself. -/
def entOk (e : Entry) : Bool := pathF e.path && (inR e.first 1 1000000 && (inR e.vs.length 1 8 && e.vs.all verOk))
def entStep (es : List Entry) (i : Nat) : Bool := match es[i]? with
  | some e => entOk e && (decide (i = 0) || ltS ((es[i - 1]?.map (·.path)).getD ByteArray.empty) e.path)
  | none => false
def entRise (es : List Entry) (n : Nat) : Bool := (List.range n).all (entStep es)
def storeOk (es : List Entry) : Bool := decide (es.length ≤ 60) && entRise es es.length
theorem entRise_snoc {es : List Entry} {k : Nat} (h : entRise es k = true) (hs : entStep es k = true) : entRise es (k + 1) = true := by
  simp [entRise, List.range_succ, List.all_append] at h ⊢; exact ⟨h, hs⟩
theorem entRise_no {es : List Entry} {k n : Nat} (hk : k < n) (hs : entStep es k = false) : entRise es n = false := by
  rw [entRise, List.all_eq_false]; exact ⟨k, by simpa using hk, by simp [hs]⟩
theorem verOk_pl (v : Ver) : verOk (plV v) = verOk v := rfl
theorem entOk_pl (e : Entry) : entOk (plE e) = entOk e := by
  have h : (e.vs.map plV).all verOk = e.vs.all verOk := by
    induction e.vs with
    | nil => rfl
    | cons a l ih => rw [List.map_cons, List.all_cons, List.all_cons, ih, verOk_pl]
  unfold entOk plE
  rw [h, List.length_map]
theorem entStep_pl (es : List Entry) (i : Nat) : entStep (es.map plE) i = entStep es i := by
  unfold entStep
  rw [List.getElem?_map, List.getElem?_map, Option.map_map]
  cases es[i]? with
  | none => rfl
  | some e =>
    show (entOk (plE e) && _) = _
    rw [entOk_pl]; rfl
theorem storeOk_pl {us vs : List Entry} (h : vs.map plE = us.map plE) : storeOk vs = storeOk us := by
  have hl : vs.length = us.length := plE_len h
  have e : ∀ i, entStep vs i = entStep us i := fun i => by rw [← entStep_pl vs, h, entStep_pl]
  unfold storeOk entRise
  rw [hl, funext e]
end Go.Proofs.YtklmcbabpncfmaaDoor
