/- Rows in which cells are laid, and from which an element is taken. No condition. -/
import Derived.Test.YtaaloiloklnbiaaGreatDoorMem
import Derived.Laws.IdiomCopy
import Derived.Lib.SliceRun
import Derived.Lib.Overlaps
import Derived.Lib.AppendZerosOnto
import Derived.Laws.Externs
import Derived.Test.YtaaloiloklnbiaaGreatDoorAppend
import Derived.Deep.RegionLaw
import Derived.Laws.LoneSync
namespace Go.Proofs.YtaaloiloklnbiaaGreatDoor
open Go.RowKit
set_option linter.unusedVariables false

theorem Own.setCells {lo hi k n c g : Nat} {e : TypeId} : ∀ (vs : List Value) (j : Nat) (w : World) (xs : List Value), Own w lo hi e k (.slice (some ⟨g, 0, none⟩) n c) n xs → Own (w.setCells g j vs) lo hi e k (.slice (some ⟨g, 0, none⟩) n c) n (setL xs j vs)
  | [], _, _, _, h => h
  | v :: vs, j, w, xs, h => Own.setCells vs (j + 1) _ _ (h.set_in v)
theorem Chg.setCells {lo hi g : Nat} (hg : lo ≤ g ∧ g < hi) : ∀ (vs : List Value) (j : Nat) (a w : World), Chg a w lo hi → Chg a (w.setCells g j vs) lo hi
  | [], _, _, _, h => h
  | v :: vs, j, a, w, h => Chg.setCells hg vs (j + 1) a _ (h.set (.inl hg) v)
theorem Own.cut {w : World} {lo hi k n m c g : Nat} {e : TypeId} {xs : List Value} (h : Own w lo hi e k (.slice (some ⟨g, 0, none⟩) n c) n xs) (hm : m ≤ n) : Own w lo hi e k (.slice (some ⟨g, 0, none⟩) m c) m (xs.take (m * k)) := by
  have hmk : m * k ≤ n * k := Nat.mul_le_mul_right _ hm
  refine ⟨⟨by rw [List.length_take, h.1.1]; omega, ?_⟩, h.2.1, h.2.2⟩
  rcases h.1.2 with ⟨e1, _⟩ | ⟨g', cap, cur, e1, hb, hgg, hnc, hcm, hcs, ht⟩
  · cases e1
  · injection e1 with e2 _ e3
    injection e2 with e4
    injection e4 with e5
    subst e5 e3
    exact .inr ⟨g, c, cur, rfl, hb, hgg, by omega, hcm, hcs, by rw [← ht, List.take_take, Nat.min_eq_left hmk]⟩
theorem Own.cellAt {w : World} {lo hi k n c g : Nat} {e : TypeId} {xs : List Value} (h : Own w lo hi e k (.slice (some ⟨g, 0, none⟩) n c) n xs) {j : Nat} {u : Value} (hu : xs[j]? = some u) : w.cell? ⟨g, j, none⟩ = some u := by
  rcases h.1.2 with ⟨e1, _⟩ | ⟨g', cap, cur, e1, hb, hgg, hnc, hcm, hcs, ht⟩
  · cases e1
  · injection e1 with e2 _ e3
    injection e2 with e4
    injection e4 with e5
    subst e5 e3
    rw [cell_of_row _ _ _ _ _ _ hgg, ← Array.getElem?_toList]
    have hl := (List.getElem?_eq_some_iff.1 hu).1
    rw [h.1.1] at hl
    rw [← ht, List.getElem?_take, if_pos hl] at hu
    exact hu
theorem Own.lenCap {w : World} {lo hi k n c g : Nat} {e : TypeId} {xs : List Value} (h : Own w lo hi e k (.slice (some ⟨g, 0, none⟩) n c) n xs) : n ≤ c ∧ c ≤ maxLen := ⟨h.rd.2.1, h.rd.2.2.1⟩

theorem run_clear_one {P : Program} (w : World) (t e ty : TypeId) (z : Value) (zs : List Value) (ht : P.underlying t = some (.slice e)) (hv : ∀ w, (zeroValue e).run P w = .ok z w) (hz : z.cells = zs.toArray) (h1 : ∀ u ∈ zs, u.oneCell' = true) (b o c : Nat)
    (hc : ∀ j, j < zs.length → (w.cell? ⟨b, o + j, none⟩).isSome = true) (hf : ∀ j, j < zs.length → w.frozen? ⟨b, o + j, none⟩ = false) :
    (Builtin.clear_ #[t] ty #[.slice (some ⟨b, o, none⟩) 1 c]).run P w = .ok (.tuple #[]) (w.setCells b o zs) := by
  have hzc : (Builtin.zeroCells z.cells 1).toList = zs := by
    rw [hz]
    simp only [Builtin.zeroCells, Nat.one_mul]
    apply List.ext_getElem
    · simp
    · intro i h1 h2
      have h3 : i < zs.length := by simpa using h1
      simp [Nat.mod_eq_of_lt h3, h3]
  have hst := run_storeCells_cells (P := P) b o zs 0 w (by simpa using hc) (by simpa using hf) h1
  simp only [Nat.add_zero] at hst
  simp [Builtin.clear_, run_underlying ht, hv, hzc, hst]

theorem setL_take0 (cs vs : List Value) (p : Nat) (h : p + vs.length ≤ cs.length) : (setL cs p vs).take p = cs.take p := by
  have h1 := setL_take vs cs p h
  have h2 := congrArg (List.take p) h1
  rw [List.take_take, Nat.min_eq_left (by omega)] at h2
  rw [h2, List.take_append_of_le_length (by rw [List.length_take]; omega), List.take_take, Nat.min_self]
theorem del_flat {α : Type} {enc : α → List Value} {k : Nat} (hk : ∀ x, (enc x).length = k) {us : List α} {n i : Nat} (hn : us.length = n) (hi : i < n) (zs : List Value) (hz : zs.length = k) :
    (setL (setL (us.flatMap enc) (i * k) ((us.drop (i + 1)).flatMap enc)) ((n - 1) * k) zs).take ((n - 1) * k) = (us.eraseIdx i).flatMap enc := by
  have l1 : (us.flatMap enc).length = n * k := by rw [flat_len enc k hk, hn]
  have l2 : ((us.drop (i + 1)).flatMap enc).length = (n - 1 - i) * k := by rw [flat_len enc k hk, List.length_drop, hn]; congr 1; omega
  have l3 : (n - 1) * k + k = n * k := by rw [← Nat.succ_mul]; congr 1; omega
  have l4 : i * k + (n - 1 - i) * k = (n - 1) * k := by rw [← Nat.add_mul]; congr 1; omega
  rw [setL_take0 _ _ _ (by rw [setL_len, l1, hz]; omega)]
  have h1 := setL_take ((us.drop (i + 1)).flatMap enc) (us.flatMap enc) (i * k) (by rw [l1, l2]; omega)
  rw [l2, l4] at h1
  rw [h1]
  have h2 : us.flatMap enc = (us.take i).flatMap enc ++ (us.drop i).flatMap enc := by rw [← List.flatMap_append, List.take_append_drop]
  have l5 : ((us.take i).flatMap enc).length = i * k := by rw [flat_len enc k hk, List.length_take, hn]; congr 1; omega
  rw [h2, List.take_append_of_le_length (by omega), List.take_of_length_le (by omega), ← List.flatMap_append, List.eraseIdx_eq_take_drop_succ]
end Go.Proofs.YtaaloiloklnbiaaGreatDoor
namespace Go.Proofs.YtaaloiloklnbiaaGreatDoor
open Go.RowKit
set_option linter.unusedVariables false
theorem run_copyK {P : Program} (w : World) (dT sT ty elem : TypeId) (k : Nat) (b o dLen dCap : Nat) (a : Addr) (sLen sCap m : Nat) (cs : List Value)
    (hu : P.underlying dT = some (.slice elem)) (hs : (P.info? elem).map (·.size) = some k) (hm : Nat.min sLen dLen = m) (hn : cs.length = m * k)
    (hsrc : ∀ j v, cs[j]? = some v → w.cell? (a.add j) = some v) (hc : ∀ j, j < cs.length → (w.cell? ⟨b, o + j, none⟩).isSome = true) (hf : ∀ j, j < cs.length → w.frozen? ⟨b, o + j, none⟩ = false) (h1 : ∀ v ∈ cs, v.oneCell' = true) :
    (Builtin.copy_ #[dT, sT] ty #[.slice (some ⟨b, o, none⟩) dLen dCap, .slice (some a) sLen sCap]).run P w = .ok (goInt m) (w.setCells b o cs) := by
  have hl := run_firstCells_some (P := P) (w := w) k m a sLen sCap cs hn hsrc
  have hst := run_storeCells_cells (P := P) b o cs 0 w (by simpa using hc) (by simpa using hf) h1
  cases hq : P.info? elem with
  | none => simp [hq] at hs
  | some i =>
    have hi : i.size = k := by simpa [hq] using hs
    simp [Builtin.copy_, run_underlying hu, Builtin.lenOf, sizeOf, typeInfo, hq, hi, hm, hl, hst]
theorem Own.ext {w : World} {lo hi k n m c g : Nat} {e : TypeId} {xs : List Value} (h : Own w lo hi e k (.slice (some ⟨g, 0, none⟩) n c) n xs) (hn : n ≤ m) (hm : m ≤ c) : ∃ ys, ys.length = (m - n) * k ∧ Own w lo hi e k (.slice (some ⟨g, 0, none⟩) m c) m (xs ++ ys) := by
  have hnm : n * k ≤ m * k := Nat.mul_le_mul_right _ hn
  have hxl := h.1.1
  rcases h.1.2 with ⟨e1, _⟩ | ⟨g', cap, cur, e1, hb, hgg, hnc, hcm, hcs, ht⟩
  · cases e1
  · injection e1 with e2 _ e3
    injection e2 with e4
    injection e4 with e5
    subst e5 e3
    have hmc : m * k ≤ c * k := Nat.mul_le_mul_right _ hm
    refine ⟨(cur.toList.take (m * k)).drop (n * k), ?_, ⟨?_, .inr ⟨g, c, cur, rfl, hb, hgg, hm, hcm, hcs, ?_⟩⟩, h.2.1, h.2.2⟩
    · rw [List.length_drop, List.length_take, Array.length_toList, hcs, Nat.min_eq_left hmc, Nat.sub_mul]
    · rw [List.length_append, hxl, List.length_drop, List.length_take, Array.length_toList, hcs, Nat.min_eq_left hmc]; omega
    · have h2 : (cur.toList.take (m * k)).take (n * k) = cur.toList.take (n * k) := by rw [List.take_take, Nat.min_eq_left hnm]
      rw [← ht, ← h2, List.take_append_drop]
theorem setL_mid (b' : List Value) : ∀ (a b c : List Value), b'.length = b.length → setL (a ++ b ++ c) a.length b' = a ++ b' ++ c := by
  induction b' with
  | nil => intro a b c h; have : b = [] := List.length_eq_zero_iff.1 h.symm; subst this; rfl
  | cons v r ih =>
    intro a b c h
    cases b with
    | nil => simp at h
    | cons x y =>
      have h2 := ih (a ++ [v]) y c (by simpa using h)
      simp only [setL]
      have e1 : (a ++ (x :: y) ++ c).set a.length v = (a ++ [v]) ++ y ++ c := by simp
      rw [e1]
      simp only [List.length_append, List.length_cons, List.length_nil, Nat.zero_add] at h2
      rw [h2]
      simp
theorem setL_mid' {a b b' c : List Value} {p : Nat} (hp : a.length = p) (h : b'.length = b.length) : setL (a ++ b ++ c) p b' = a ++ b' ++ c := by subst hp; exact setL_mid b' a b c h
/-- The cells shifted and the new ones laid: in place. -/
theorem ins_shift {k p q : Nat} {P D ys news : List Value} (hP : P.length = p) (hq : q = p + k) (hk : news.length = k) (hy : ys.length = k) :
    setL (setL ((P ++ D) ++ ys) q D) p news = P ++ news ++ D := by
  have h1 : (P ++ D) ++ ys = (P ++ (D ++ ys).take k) ++ (D ++ ys).drop k ++ [] := by
    rw [List.append_nil, List.append_assoc, List.append_assoc, List.take_append_drop]
  rw [h1, setL_mid' (by rw [List.length_append, List.length_take, List.length_append, hP, hq, hy]; omega) (by rw [List.length_drop, List.length_append, hy]; omega)]
  rw [List.append_nil, setL_mid' hP (by rw [hk, List.length_take, List.length_append, hy]; omega)]
/-- .. and in a new row. -/
theorem ins_grow {k p q : Nat} {P D zs news : List Value} (hP : P.length = p) (hq : q = p + k) (hk : news.length = k) (hz : zs.length = k + D.length) (tl : List Value) :
    setL (setL (P ++ zs ++ tl) p news) q D = P ++ news ++ D ++ tl := by
  have h1 : P ++ zs ++ tl = P ++ zs.take k ++ (zs.drop k ++ tl) := by
    rw [List.append_assoc, List.append_assoc, ← List.append_assoc (zs.take k), List.take_append_drop]
  rw [h1, setL_mid' hP (by rw [hk, List.length_take, hz]; omega)]
  rw [← List.append_assoc (P ++ news), setL_mid' (by rw [List.length_append, hP, hk, hq]) (by rw [List.length_drop, hz]; omega)]
theorem ins_flat {α : Type} (enc : α → List Value) (us : List α) (i : Nat) (u : α) : (us.take i).flatMap enc ++ enc u ++ (us.drop i).flatMap enc = (us.take i ++ u :: us.drop i).flatMap enc := by simp
theorem Own.fresh (w : World) (k n c : Nat) (e : TypeId) (cs : List Value) (hl : cs.length = c * k) (hn : n ≤ c) (hc : c ≤ maxLen) : Own (w.alloc (.cells cs.toArray e)) w.heap.size (w.heap.size + 1) e k (.slice (some ⟨w.heap.size, 0, none⟩) n c) n (cs.take (n * k)) := by
  have hnk : n * k ≤ c * k := Nat.mul_le_mul_right _ hn
  refine ⟨⟨by rw [List.length_take, hl]; omega, .inr ⟨w.heap.size, c, cs.toArray, rfl, Nat.le_refl _, heap_alloc_new w _, hn, hc, by rw [List.size_toArray]; exact hl, rfl⟩⟩, fun g hg => ?_, Nat.le_of_eq (by show _ = (w.heap.push _).size; rw [Array.size_push])⟩
  simp [Value.ownBlock] at hg
  omega
end Go.Proofs.YtaaloiloklnbiaaGreatDoor
namespace Go.Proofs.YtaaloiloklnbiaaGreatDoor
open Go.RowKit
set_option linter.unusedVariables false
theorem wpList_copy_runK {P : Program} (w : World) {ops : Array Oper} {rest : List Oper} {o : Oper} {a : Act} {Q : Exit → Act → World → Prop} (hgd : o.guard = none) (d s : Operand) (t t' : TypeId)
    (ho : o.op = .call { callee := .builtin .copy, args := #[d, s], argTypes := #[t, t'] }) (v u : Value) (hd : a.eval d = v) (hs : a.eval s = u) {v' : Value} {w' : World}
    (hr : (Builtin.copy_ #[t, t'] o.type #[v, u]).run P w = .ok v' w') (h : wpList P ops Q rest (a.put o.dst v') w') : wpList P ops Q (o :: rest) a w :=
  wpList_plain hgd fun _ hK => by
    have h2 := hK _ _ h
    unfold Oper.wp execOp
    simp only [ho, resolve, invoke, builtin, Sem.run_bind, Sem.run_pure, Result.andThen_ok, List.map_toArray, List.map_cons, List.map_nil, hd, hs, hr]
    exact h2
theorem step_copy_runK {P : Program} {ops : Array Oper} {o : Oper} {a : Act} {w : World} {K : Act → World → Prop} {Q : Exit → Act → World → Prop} {E : Prop}
    (hg : o.guard = none) (d x : Operand) (dT sT : TypeId) (hop : o.op = Op.call { callee := Callee.builtin Builtin.copy, args := #[d, x], argTypes := #[dT, sT] })
    (v u : Value) (hd : a.eval d = v) (hx : a.eval x = u) {v' : Value} {w' : World} (hr : (Builtin.copy_ #[dT, sT] o.type #[v, u]).run P w = .ok v' w') (hK : K (a.put o.dst v') w') :
    if Region.wanted o (yielded ops a.tmps) = true then Oper.wp P o a w K Q else E := by
  have hw : Region.wanted o (yielded ops a.tmps) = true := by simp [Region.wanted, hg]
  rw [if_pos hw]
  unfold Oper.wp
  simp [execOp, hop, resolve, invoke, builtin, hd, hx, hr, Result.andThen]
  exact hK
theorem Chg.setNew {a : World} {lo hi b : Nat} (hb : a.heap.size ≤ b) : ∀ (vs : List Value) (j : Nat) (w : World), Chg a w lo hi → Chg a (w.setCells b j vs) lo hi
  | [], _, _, h => h
  | v :: vs, j, w, h => Chg.setNew hb vs (j + 1) _ (h.set (.inr hb) v)
end Go.Proofs.YtaaloiloklnbiaaGreatDoor
