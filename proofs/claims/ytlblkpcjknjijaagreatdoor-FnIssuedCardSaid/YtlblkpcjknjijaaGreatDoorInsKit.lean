/- Rows into which an element is laid: copy at an element size, a row taken longer within its capacity, lists of cells in pieces. No condition. -/
import Derived.Test.YtlblkpcjknjijaaGreatDoorDelKit
import Derived.Lib.Overlaps
import Derived.Lib.AppendZerosOnto
import Derived.Laws.Externs
set_option linter.unusedVariables false
set_option linter.unusedSimpArgs false
namespace Go.Proofs.YtlblkpcjknjijaaGreatDoor
open Go.RowKit
set_option linter.unusedVariables false
theorem run_copyK {P : Program} (w : World) (dT sT ty elem : TypeId) (k : Nat) (b o dLen dCap : Nat) (a : Addr) (sLen sCap m : Nat) (cs : List Value)
    (hu : P.underlying dT = some (.slice elem)) (hs : (P.info? elem).map (·.size) = some k) (hm : Nat.min sLen dLen = m) (hn : cs.length = m * k)
    (hsrc : ∀ j v, cs[j]? = some v → w.cell? (a.add j) = some v) (hc : ∀ j, j < cs.length → (w.cell? ⟨b, o + j, none⟩).isSome = true) (hf : ∀ j, j < cs.length → w.frozen? ⟨b, o + j, none⟩ = false) (h1 : ∀ v ∈ cs, v.oneCell' = true) :
    (Builtin.copy_ #[dT, sT] ty #[.slice (some ⟨b, o, none⟩) dLen dCap, .slice (some a) sLen sCap]).run P w = .ok (goInt m) (w.setCells b o cs) := by
  have hl := run_firstCells_some (P := P) (w := w) k m a sLen sCap cs hn hsrc
  have hst := run_storeCells_cells (P := P) b o cs 0 w (by simpa using hc) (by simpa using hf) h1
  cases hq : P.info? elem with
  | none => simp [hq] at hs
  | some i =>
    have hi : i.size = k := by simpa [hq] using hs
    simp [Builtin.copy_, run_underlying hu, Builtin.lenOf, sizeOf, typeInfo, hq, hi, hm, hl, hst]
theorem Own.ext {w : World} {lo hi k n m c g : Nat} {e : TypeId} {xs : List Value} (h : Own w lo hi e k (.slice (some ⟨g, 0, none⟩) n c) n xs) (hn : n ≤ m) (hm : m ≤ c) : ∃ ys, ys.length = (m - n) * k ∧ Own w lo hi e k (.slice (some ⟨g, 0, none⟩) m c) m (xs ++ ys) := by
  have hnm : n * k ≤ m * k := Nat.mul_le_mul_right _ hn
  have hxl := h.1.1
  rcases h.1.2 with ⟨e1, _⟩ | ⟨g', cap, cur, e1, hb, hgg, hnc, hcm, hcs, ht⟩
  · cases e1
  · injection e1 with e2 _ e3
    injection e2 with e4
    injection e4 with e5
    subst e5 e3
    have hmc : m * k ≤ c * k := Nat.mul_le_mul_right _ hm
    refine ⟨(cur.toList.take (m * k)).drop (n * k), ?_, ⟨?_, .inr ⟨g, c, cur, rfl, hb, hgg, hm, hcm, hcs, ?_⟩⟩, h.2.1, h.2.2⟩
    · rw [List.length_drop, List.length_take, Array.length_toList, hcs, Nat.min_eq_left hmc, Nat.sub_mul]
    · rw [List.length_append, hxl, List.length_drop, List.length_take, Array.length_toList, hcs, Nat.min_eq_left hmc]; omega
    · have h2 : (cur.toList.take (m * k)).take (n * k) = cur.toList.take (n * k) := by rw [List.take_take, Nat.min_eq_left hnm]
      rw [← ht, ← h2, List.take_append_drop]
theorem setL_mid (b' : List Value) : ∀ (a b c : List Value), b'.length = b.length → setL (a ++ b ++ c) a.length b' = a ++ b' ++ c := by
  induction b' with
  | nil => intro a b c h; have : b = [] := List.length_eq_zero_iff.1 h.symm; subst this; rfl
  | cons v r ih =>
    intro a b c h
    cases b with
    | nil => simp at h
    | cons x y =>
      have h2 := ih (a ++ [v]) y c (by simpa using h)
      simp only [setL]
      have e1 : (a ++ (x :: y) ++ c).set a.length v = (a ++ [v]) ++ y ++ c := by simp
      rw [e1]
      simp only [List.length_append, List.length_cons, List.length_nil, Nat.zero_add] at h2
      rw [h2]
      simp
theorem setL_mid' {a b b' c : List Value} {p : Nat} (hp : a.length = p) (h : b'.length = b.length) : setL (a ++ b ++ c) p b' = a ++ b' ++ c := by subst hp; exact setL_mid b' a b c h
/-- The cells shifted and the new ones laid: in place. -/
theorem ins_shift {k p q : Nat} {P D ys news : List Value} (hP : P.length = p) (hq : q = p + k) (hk : news.length = k) (hy : ys.length = k) :
    setL (setL ((P ++ D) ++ ys) q D) p news = P ++ news ++ D := by
  have h1 : (P ++ D) ++ ys = (P ++ (D ++ ys).take k) ++ (D ++ ys).drop k ++ [] := by
    rw [List.append_nil, List.append_assoc, List.append_assoc, List.take_append_drop]
  rw [h1, setL_mid' (by rw [List.length_append, List.length_take, List.length_append, hP, hq, hy]; omega) (by rw [List.length_drop, List.length_append, hy]; omega)]
  rw [List.append_nil, setL_mid' hP (by rw [hk, List.length_take, List.length_append, hy]; omega)]
/-- .. and in a new row. -/
theorem ins_grow {k p q : Nat} {P D zs news : List Value} (hP : P.length = p) (hq : q = p + k) (hk : news.length = k) (hz : zs.length = k + D.length) (tl : List Value) :
    setL (setL (P ++ zs ++ tl) p news) q D = P ++ news ++ D ++ tl := by
  have h1 : P ++ zs ++ tl = P ++ zs.take k ++ (zs.drop k ++ tl) := by
    rw [List.append_assoc, List.append_assoc, ← List.append_assoc (zs.take k), List.take_append_drop]
  rw [h1, setL_mid' hP (by rw [hk, List.length_take, hz]; omega)]
  rw [← List.append_assoc (P ++ news), setL_mid' (by rw [List.length_append, hP, hk, hq]) (by rw [List.length_drop, hz]; omega)]
theorem ins_flat {α : Type} (enc : α → List Value) (us : List α) (i : Nat) (u : α) : (us.take i).flatMap enc ++ enc u ++ (us.drop i).flatMap enc = (us.take i ++ u :: us.drop i).flatMap enc := by simp
theorem Own.fresh (w : World) (k n c : Nat) (e : TypeId) (cs : List Value) (hl : cs.length = c * k) (hn : n ≤ c) (hc : c ≤ maxLen) : Own (w.alloc (.cells cs.toArray e)) w.heap.size (w.heap.size + 1) e k (.slice (some ⟨w.heap.size, 0, none⟩) n c) n (cs.take (n * k)) := by
  have hnk : n * k ≤ c * k := Nat.mul_le_mul_right _ hn
  refine ⟨⟨by rw [List.length_take, hl]; omega, .inr ⟨w.heap.size, c, cs.toArray, rfl, Nat.le_refl _, heap_alloc_new w _, hn, hc, by rw [List.size_toArray]; exact hl, rfl⟩⟩, fun g hg => ?_, Nat.le_of_eq (by show _ = (w.heap.push _).size; rw [Array.size_push])⟩
  simp [Value.ownBlock] at hg
  omega
end Go.Proofs.YtlblkpcjknjijaaGreatDoor
