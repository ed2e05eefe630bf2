/- Rows in which cells are laid, and from which an element is taken. No condition. -/
import Derived.Test.YtklmcbabpncfmaaDoorMem
import Derived.Laws.IdiomCopy
import Derived.Lib.SliceRun
import Derived.Test.YtklmcbabpncfmaaDoorKvC
import Derived.Deep.RegionLaw
import Derived.Lib.Overlaps
import Derived.Lib.AppendZerosOnto
import Derived.Laws.Externs
import Derived.Test.YtklmcbabpncfmaaDoorAppend
import Derived.Laws.LoneSync
namespace Go.Proofs.YtklmcbabpncfmaaDoor
open Go.RowKit
set_option linter.unusedVariables false

theorem Own.setCells {lo hi k n c g : Nat} {e : TypeId} : ∀ (vs : List Value) (j : Nat) (w : World) (xs : List Value), Own w lo hi e k (.slice (some ⟨g, 0, none⟩) n c) n xs → Own (w.setCells g j vs) lo hi e k (.slice (some ⟨g, 0, none⟩) n c) n (setL xs j vs)
  | [], _, _, _, h => h
  | v :: vs, j, w, xs, h => Own.setCells vs (j + 1) _ _ (h.set_in v)
theorem Chg.setCells {lo hi g : Nat} (hg : lo ≤ g ∧ g < hi) : ∀ (vs : List Value) (j : Nat) (a w : World), Chg a w lo hi → Chg a (w.setCells g j vs) lo hi
  | [], _, _, _, h => h
  | v :: vs, j, a, w, h => Chg.setCells hg vs (j + 1) a _ (h.set (.inl hg) v)
theorem Own.cut {w : World} {lo hi k n m c g : Nat} {e : TypeId} {xs : List Value} (h : Own w lo hi e k (.slice (some ⟨g, 0, none⟩) n c) n xs) (hm : m ≤ n) : Own w lo hi e k (.slice (some ⟨g, 0, none⟩) m c) m (xs.take (m * k)) := by
  have hmk : m * k ≤ n * k := Nat.mul_le_mul_right _ hm
  refine ⟨⟨by rw [List.length_take, h.1.1]; omega, ?_⟩, h.2.1, h.2.2⟩
  rcases h.1.2 with ⟨e1, _⟩ | ⟨g', cap, cur, e1, hb, hgg, hnc, hcm, hcs, ht⟩
  · cases e1
  · injection e1 with e2 _ e3
    injection e2 with e4
    injection e4 with e5
    subst e5 e3
    exact .inr ⟨g, c, cur, rfl, hb, hgg, by omega, hcm, hcs, by rw [← ht, List.take_take, Nat.min_eq_left hmk]⟩
theorem Own.cellAt {w : World} {lo hi k n c g : Nat} {e : TypeId} {xs : List Value} (h : Own w lo hi e k (.slice (some ⟨g, 0, none⟩) n c) n xs) {j : Nat} {u : Value} (hu : xs[j]? = some u) : w.cell? ⟨g, j, none⟩ = some u := by
  rcases h.1.2 with ⟨e1, _⟩ | ⟨g', cap, cur, e1, hb, hgg, hnc, hcm, hcs, ht⟩
  · cases e1
  · injection e1 with e2 _ e3
    injection e2 with e4
    injection e4 with e5
    subst e5 e3
    rw [cell_of_row _ _ _ _ _ _ hgg, ← Array.getElem?_toList]
    have hl := (List.getElem?_eq_some_iff.1 hu).1
    rw [h.1.1] at hl
    rw [← ht, List.getElem?_take, if_pos hl] at hu
    exact hu
theorem Own.lenCap {w : World} {lo hi k n c g : Nat} {e : TypeId} {xs : List Value} (h : Own w lo hi e k (.slice (some ⟨g, 0, none⟩) n c) n xs) : n ≤ c ∧ c ≤ maxLen := ⟨h.rd.2.1, h.rd.2.2.1⟩

theorem run_clear_one {P : Program} (w : World) (t e ty : TypeId) (z : Value) (zs : List Value) (ht : P.underlying t = some (.slice e)) (hv : ∀ w, (zeroValue e).run P w = .ok z w) (hz : z.cells = zs.toArray) (h1 : ∀ u ∈ zs, u.oneCell' = true) (b o c : Nat)
    (hc : ∀ j, j < zs.length → (w.cell? ⟨b, o + j, none⟩).isSome = true) (hf : ∀ j, j < zs.length → w.frozen? ⟨b, o + j, none⟩ = false) :
    (Builtin.clear_ #[t] ty #[.slice (some ⟨b, o, none⟩) 1 c]).run P w = .ok (.tuple #[]) (w.setCells b o zs) := by
  have hzc : (Builtin.zeroCells z.cells 1).toList = zs := by
    rw [hz]
    simp only [Builtin.zeroCells, Nat.one_mul]
    apply List.ext_getElem
    · simp
    · intro i h1 h2
      have h3 : i < zs.length := by simpa using h1
      simp [Nat.mod_eq_of_lt h3, h3]
  have hst := run_storeCells_cells (P := P) b o zs 0 w (by simpa using hc) (by simpa using hf) h1
  simp only [Nat.add_zero] at hst
  simp [Builtin.clear_, run_underlying ht, hv, hzc, hst]

theorem setL_take0 (cs vs : List Value) (p : Nat) (h : p + vs.length ≤ cs.length) : (setL cs p vs).take p = cs.take p := by
  have h1 := setL_take vs cs p h
  have h2 := congrArg (List.take p) h1
  rw [List.take_take, Nat.min_eq_left (by omega)] at h2
  rw [h2, List.take_append_of_le_length (by rw [List.length_take]; omega), List.take_take, Nat.min_self]
theorem del_flat {α : Type} {enc : α → List Value} {k : Nat} (hk : ∀ x, (enc x).length = k) {us : List α} {n i : Nat} (hn : us.length = n) (hi : i < n) (zs : List Value) (hz : zs.length = k) :
    (setL (setL (us.flatMap enc) (i * k) ((us.drop (i + 1)).flatMap enc)) ((n - 1) * k) zs).take ((n - 1) * k) = (us.eraseIdx i).flatMap enc := by
  have l1 : (us.flatMap enc).length = n * k := by rw [flat_len enc k hk, hn]
  have l2 : ((us.drop (i + 1)).flatMap enc).length = (n - 1 - i) * k := by rw [flat_len enc k hk, List.length_drop, hn]; congr 1; omega
  have l3 : (n - 1) * k + k = n * k := by rw [← Nat.succ_mul]; congr 1; omega
  have l4 : i * k + (n - 1 - i) * k = (n - 1) * k := by rw [← Nat.add_mul]; congr 1; omega
  rw [setL_take0 _ _ _ (by rw [setL_len, l1, hz]; omega)]
  have h1 := setL_take ((us.drop (i + 1)).flatMap enc) (us.flatMap enc) (i * k) (by rw [l1, l2]; omega)
  rw [l2, l4] at h1
  rw [h1]
  have h2 : us.flatMap enc = (us.take i).flatMap enc ++ (us.drop i).flatMap enc := by rw [← List.flatMap_append, List.take_append_drop]
  have l5 : ((us.take i).flatMap enc).length = i * k := by rw [flat_len enc k hk, List.length_take, hn]; congr 1; omega
  rw [h2, List.take_append_of_le_length (by omega), List.take_of_length_le (by omega), ← List.flatMap_append, List.eraseIdx_eq_take_drop_succ]
end Go.Proofs.YtklmcbabpncfmaaDoor
namespace Go.Proofs.YtklmcbabpncfmaaDoor
open Go.RowKit
set_option linter.unusedVariables false
theorem encEntry_one : ∀ us : List Entry, ∀ u ∈ us.flatMap encEntry, u.oneCell' = true := by
  intro us u hu
  obtain ⟨x, _, hx⟩ := List.mem_flatMap.1 hu
  exact oneEntry x u hx

end Go.Proofs.YtklmcbabpncfmaaDoor
namespace Go.Proofs.YtklmcbabpncfmaaDoor
open Go.RowKit
set_option linter.unusedVariables false
theorem run_copyK {P : Program} (w : World) (dT sT ty elem : TypeId) (k : Nat) (b o dLen dCap : Nat) (a : Addr) (sLen sCap m : Nat) (cs : List Value)
    (hu : P.underlying dT = some (.slice elem)) (hs : (P.info? elem).map (·.size) = some k) (hm : Nat.min sLen dLen = m) (hn : cs.length = m * k)
    (hsrc : ∀ j v, cs[j]? = some v → w.cell? (a.add j) = some v) (hc : ∀ j, j < cs.length → (w.cell? ⟨b, o + j, none⟩).isSome = true) (hf : ∀ j, j < cs.length → w.frozen? ⟨b, o + j, none⟩ = false) (h1 : ∀ v ∈ cs, v.oneCell' = true) :
    (Builtin.copy_ #[dT, sT] ty #[.slice (some ⟨b, o, none⟩) dLen dCap, .slice (some a) sLen sCap]).run P w = .ok (goInt m) (w.setCells b o cs) := by
  have hl := run_firstCells_some (P := P) (w := w) k m a sLen sCap cs hn hsrc
  have hst := run_storeCells_cells (P := P) b o cs 0 w (by simpa using hc) (by simpa using hf) h1
  cases hq : P.info? elem with
  | none => simp [hq] at hs
  | some i =>
    have hi : i.size = k := by simpa [hq] using hs
    simp [Builtin.copy_, run_underlying hu, Builtin.lenOf, sizeOf, typeInfo, hq, hi, hm, hl, hst]
theorem Own.ext {w : World} {lo hi k n m c g : Nat} {e : TypeId} {xs : List Value} (h : Own w lo hi e k (.slice (some ⟨g, 0, none⟩) n c) n xs) (hn : n ≤ m) (hm : m ≤ c) : ∃ ys, ys.length = (m - n) * k ∧ Own w lo hi e k (.slice (some ⟨g, 0, none⟩) m c) m (xs ++ ys) := by
  have hnm : n * k ≤ m * k := Nat.mul_le_mul_right _ hn
  have hxl := h.1.1
  rcases h.1.2 with ⟨e1, _⟩ | ⟨g', cap, cur, e1, hb, hgg, hnc, hcm, hcs, ht⟩
  · cases e1
  · injection e1 with e2 _ e3
    injection e2 with e4
    injection e4 with e5
    subst e5 e3
    have hmc : m * k ≤ c * k := Nat.mul_le_mul_right _ hm
    refine ⟨(cur.toList.take (m * k)).drop (n * k), ?_, ⟨?_, .inr ⟨g, c, cur, rfl, hb, hgg, hm, hcm, hcs, ?_⟩⟩, h.2.1, h.2.2⟩
    · rw [List.length_drop, List.length_take, Array.length_toList, hcs, Nat.min_eq_left hmc, Nat.sub_mul]
    · rw [List.length_append, hxl, List.length_drop, List.length_take, Array.length_toList, hcs, Nat.min_eq_left hmc]; omega
    · have h2 : (cur.toList.take (m * k)).take (n * k) = cur.toList.take (n * k) := by rw [List.take_take, Nat.min_eq_left hnm]
      rw [← ht, ← h2, List.take_append_drop]
theorem setL_mid (b' : List Value) : ∀ (a b c : List Value), b'.length = b.length → setL (a ++ b ++ c) a.length b' = a ++ b' ++ c := by
  induction b' with
  | nil => intro a b c h; have : b = [] := List.length_eq_zero_iff.1 h.symm; subst this; rfl
  | cons v r ih =>
    intro a b c h
    cases b with
    | nil => simp at h
    | cons x y =>
      have h2 := ih (a ++ [v]) y c (by simpa using h)
      simp only [setL]
      have e1 : (a ++ (x :: y) ++ c).set a.length v = (a ++ [v]) ++ y ++ c := by simp
      rw [e1]
      simp only [List.length_append, List.length_cons, List.length_nil, Nat.zero_add] at h2
      rw [h2]
      simp
theorem setL_mid' {a b b' c : List Value} {p : Nat} (hp : a.length = p) (h : b'.length = b.length) : setL (a ++ b ++ c) p b' = a ++ b' ++ c := by subst hp; exact setL_mid b' a b c h
/-- The cells shifted and the new ones laid: in place. -/
theorem ins_shift {k p q : Nat} {P D ys news : List Value} (hP : P.length = p) (hq : q = p + k) (hk : news.length = k) (hy : ys.length = k) :
    setL (setL ((P ++ D) ++ ys) q D) p news = P ++ news ++ D := by
  have h1 : (P ++ D) ++ ys = (P ++ (D ++ ys).take k) ++ (D ++ ys).drop k ++ [] := by
    rw [List.append_nil, List.append_assoc, List.append_assoc, List.take_append_drop]
  rw [h1, setL_mid' (by rw [List.length_append, List.length_take, List.length_append, hP, hq, hy]; omega) (by rw [List.length_drop, List.length_append, hy]; omega)]
  rw [List.append_nil, setL_mid' hP (by rw [hk, List.length_take, List.length_append, hy]; omega)]
/-- .. and in a new row. -/
theorem ins_grow {k p q : Nat} {P D zs news : List Value} (hP : P.length = p) (hq : q = p + k) (hk : news.length = k) (hz : zs.length = k + D.length) (tl : List Value) :
    setL (setL (P ++ zs ++ tl) p news) q D = P ++ news ++ D ++ tl := by
  have h1 : P ++ zs ++ tl = P ++ zs.take k ++ (zs.drop k ++ tl) := by
    rw [List.append_assoc, List.append_assoc, ← List.append_assoc (zs.take k), List.take_append_drop]
  rw [h1, setL_mid' hP (by rw [hk, List.length_take, hz]; omega)]
  rw [← List.append_assoc (P ++ news), setL_mid' (by rw [List.length_append, hP, hk, hq]) (by rw [List.length_drop, hz]; omega)]
theorem ins_flat {α : Type} (enc : α → List Value) (us : List α) (i : Nat) (u : α) : (us.take i).flatMap enc ++ enc u ++ (us.drop i).flatMap enc = (us.take i ++ u :: us.drop i).flatMap enc := by simp
theorem Own.fresh (w : World) (k n c : Nat) (e : TypeId) (cs : List Value) (hl : cs.length = c * k) (hn : n ≤ c) (hc : c ≤ maxLen) : Own (w.alloc (.cells cs.toArray e)) w.heap.size (w.heap.size + 1) e k (.slice (some ⟨w.heap.size, 0, none⟩) n c) n (cs.take (n * k)) := by
  have hnk : n * k ≤ c * k := Nat.mul_le_mul_right _ hn
  refine ⟨⟨by rw [List.length_take, hl]; omega, .inr ⟨w.heap.size, c, cs.toArray, rfl, Nat.le_refl _, heap_alloc_new w _, hn, hc, by rw [List.size_toArray]; exact hl, rfl⟩⟩, fun g hg => ?_, Nat.le_of_eq (by show _ = (w.heap.push _).size; rw [Array.size_push])⟩
  simp [Value.ownBlock] at hg
  omega
end Go.Proofs.YtklmcbabpncfmaaDoor
namespace Go.Proofs.YtklmcbabpncfmaaDoor
open Go.RowKit
set_option linter.unusedVariables false
theorem wpList_copy_runK {P : Program} (w : World) {ops : Array Oper} {rest : List Oper} {o : Oper} {a : Act} {Q : Exit → Act → World → Prop} (hgd : o.guard = none) (d s : Operand) (t t' : TypeId)
    (ho : o.op = .call { callee := .builtin .copy, args := #[d, s], argTypes := #[t, t'] }) (v u : Value) (hd : a.eval d = v) (hs : a.eval s = u) {v' : Value} {w' : World}
    (hr : (Builtin.copy_ #[t, t'] o.type #[v, u]).run P w = .ok v' w') (h : wpList P ops Q rest (a.put o.dst v') w') : wpList P ops Q (o :: rest) a w :=
  wpList_plain hgd fun _ hK => by
    have h2 := hK _ _ h
    unfold Oper.wp execOp
    simp only [ho, resolve, invoke, builtin, Sem.run_bind, Sem.run_pure, Result.andThen_ok, List.map_toArray, List.map_cons, List.map_nil, hd, hs, hr]
    exact h2
theorem step_copy_runK {P : Program} {ops : Array Oper} {o : Oper} {a : Act} {w : World} {K : Act → World → Prop} {Q : Exit → Act → World → Prop} {E : Prop}
    (hg : o.guard = none) (d x : Operand) (dT sT : TypeId) (hop : o.op = Op.call { callee := Callee.builtin Builtin.copy, args := #[d, x], argTypes := #[dT, sT] })
    (v u : Value) (hd : a.eval d = v) (hx : a.eval x = u) {v' : Value} {w' : World} (hr : (Builtin.copy_ #[dT, sT] o.type #[v, u]).run P w = .ok v' w') (hK : K (a.put o.dst v') w') :
    if Region.wanted o (yielded ops a.tmps) = true then Oper.wp P o a w K Q else E := by
  have hw : Region.wanted o (yielded ops a.tmps) = true := by simp [Region.wanted, hg]
  rw [if_pos hw]
  unfold Oper.wp
  simp [execOp, hop, resolve, invoke, builtin, hd, hx, hr, Result.andThen]
  exact hK
theorem Chg.setNew {a : World} {lo hi b : Nat} (hb : a.heap.size ≤ b) : ∀ (vs : List Value) (j : Nat) (w : World), Chg a w lo hi → Chg a (w.setCells b j vs) lo hi
  | [], _, _, h => h
  | v :: vs, j, w, h => Chg.setNew hb vs (j + 1) _ (h.set (.inr hb) v)
end Go.Proofs.YtklmcbabpncfmaaDoor
namespace Go.Proofs.YtklmcbabpncfmaaDoor
open Go.RowKit
set_option linter.unusedVariables false
def rEntry (A : Option Addr) (c : Nat) (us : List Entry) : Ent := row 62 3 (.slice A us.length c) us.length (us.flatMap encEntry)
def InsPostEntry (w : World) (lo hi n i : Nat) (us : List Entry) (u : Entry) (e : Ending) (w' : World) : Prop :=
  ∃ A' c' lo' hi', e = .returned (.slice A' (n + 1) c') ∧ Own w' lo' hi' 62 3 (.slice A' (n + 1) c') (n + 1) ((us.take i ++ u :: us.drop i).flatMap encEntry) ∧ Chg w w' lo hi ∧ ((lo ≤ lo' ∧ hi' ≤ hi) ∨ w.heap.size ≤ lo')
set_option maxHeartbeats 4000000 in
set_option maxRecDepth 10000 in
theorem insEntry_end (A : Option Addr) (n c lo hi vb : Nat) (us : List Entry) (u : Entry) (w : World) (ho : Own w lo hi 62 3 (.slice A n c) n (us.flatMap encEntry)) (hn : us.length = n) (h20 : n ≤ 1048576) (hlo : lo ≤ w.heap.size)
    (hv : Bx w vb 62 (encEntry u).toArray) :
    Calls Tryd.prog 73 #[.slice A n c, .int .i64 n, .slice (some ⟨vb, 0, none⟩) 1 1] w (InsPostEntry w lo hi n n us u) := by
  obtain ⟨i0, hi0, hz0, hz1, hz2⟩ := info_parts Tryd.infoEntry
  have hnc := ho.rd.2.1
  have hcm := ho.rd.2.2.1
  unfold maxLen at hcm
  have hfl : us.flatMap encEntry ++ encEntry u = (us.take n ++ u :: us.drop n).flatMap encEntry := by rw [List.take_of_length_le (by omega), List.drop_of_length_le (by omega)]; simp
  have hnews : ∀ j x, (encEntry u)[j]? = some x → w.cell? ((⟨vb, 0, none⟩ : Addr).add j) = some x := fun j x hx => by rw [Addr.add_lit, Nat.zero_add, hv.cell]; simpa using hx
  go_enter Tryd.func73, Tryd.ntmps73
  go_wp2_with (at_builtin; refine wpList_append_lies _ (by rfl) _ _ 24 (by rfl) lo 62 i0 _ 3 _ Tryd.underlying24 hi0 hz0 hz1 hz2 (by rfl) (by decide) (.slice A n c) n _ (by rfl) ho.1 ⟨vb, 0, none⟩ 1 1 (encEntry u) (by rfl) (by rfl) hnews (oneEntry u) (by decide) (by unfold maxLen; omega) (by omega) hlo w.heap.size rfl ?_; intro g cap wa hown hgrow hat hlt1)
  all_goals
    obtain ⟨own2, hg2⟩ := own_at_ hown (by omega) hlt1
    rw [hfl] at own2
    go_ret
    refine ⟨_, _, _, _, rfl, own2, Chg.of_grown hgrow ho.lt, ?_⟩
    rcases hat with hat | hat
    · have := ho.lt g (by exact hat); exact .inl (by omega)
    · exact .inr (by omega)
set_option maxHeartbeats 4000000 in
set_option maxRecDepth 10000 in
theorem insEntry_shift (g n c i lo hi vb : Nat) (us : List Entry) (u : Entry) (w : World) (h : Own w lo hi 62 3 (.slice (some ⟨g, 0, none⟩) n c) n (us.flatMap encEntry)) (hn : us.length = n) (h20 : n ≤ 1048576) (hin : i < n) (hroom : n + 1 ≤ c)
    (hv : Bx w vb 62 (encEntry u).toArray) (hvb : vb ≠ g) :
    Calls Tryd.prog 73 #[.slice (some ⟨g, 0, none⟩) n c, .int .i64 i, .slice (some ⟨vb, 0, none⟩) 1 1] w (InsPostEntry w lo hi n i us u) := by
  obtain ⟨i0, hi0, hz0, hz1, hz2⟩ := info_parts Tryd.infoEntry
  obtain ⟨hnc, hcm⟩ := h.lenCap
  unfold maxLen at hcm
  have hg := h.lt g rfl
  have hsz : (Tryd.prog.info? 62).map (·.size) = some 3 := by rw [hi0]; simp [hz1]
  have hzs : ∀ w, (Go.sizeOf 62).run Tryd.prog w = .ok 3 w := fun w => by simp [sizeOf, typeInfo, hi0, hz1]
  obtain ⟨ys, hyl, own0⟩ := h.ext (m := n + 1) (by omega) hroom
  have hy2 : ys.length = 3 := by rw [hyl]; omega
  obtain ⟨P, hP⟩ : ∃ P, P = (us.take i).flatMap encEntry := ⟨_, rfl⟩
  obtain ⟨D, hD⟩ : ∃ D, D = (us.drop i).flatMap encEntry := ⟨_, rfl⟩
  have hPl : P.length = i * 3 := by rw [hP, flat_len encEntry 3 encEntry_len, List.length_take, hn, Nat.min_eq_left (by omega)]
  have hDl : D.length = (n - i) * 3 := by rw [hD, flat_len encEntry 3 encEntry_len, List.length_drop, hn]
  have hPD : us.flatMap encEntry = P ++ D := by rw [hP, hD, ← List.flatMap_append, List.take_append_drop]
  have h1D : ∀ x ∈ D, x.oneCell' = true := by rw [hD]; exact encEntry_one _
  rw [hPD] at own0
  have hxl : ((P ++ D) ++ ys).length = (n + 1) * 3 := own0.1.1
  obtain ⟨tB, kB, hsb, hkB⟩ : ∃ t k, w.shape? g = some (t, k) ∧ k ≠ 0 := by
    obtain ⟨t, k, h1, h2, _⟩ := World.shape?_of_cell? (own0.cellAt (List.getElem?_eq_getElem (by omega : 0 < ((P ++ D) ++ ys).length)))
    exact ⟨t, k, h1, by have : 0 < k := h2; omega⟩
  have hsa : w.shape? vb = some (62, 3) := by
    have h1 : w.heap[vb]? = some (.cells (encEntry u).toArray 62 (0, 0)) := hv
    simp [World.shape?, h1, encEntry]
  have hfv : ∀ o, w.frozen? ⟨vb, o, none⟩ = false := fun o => by
    have h1 : w.heap[vb]? = some (.cells (encEntry u).toArray 62 (0, 0)) := hv
    simp [World.frozen?, h1]
  have hov : ∀ o lb cb, (callFunc 91 #[.slice (some ⟨vb, 0, none⟩) 1 1, .slice (some ⟨g, o, none⟩) lb cb]).run Tryd.prog w = .ok (.value (.bool false)) w := fun o lb cb => by
    rw [run_callFunc_extern Tryd.func91 (by kernel_rfl) (by kernel_rfl) (by kernel_rfl) (e := Extern.SlicesOverlaps.overlaps #[24, 24] #[4]) (by kernel_rfl),
      Lib.run_overlaps_apart w 24 4 62 Tryd.underlying24 3 hzs ⟨vb, 0, none⟩ ⟨g, o, none⟩ 1 1 lb cb hvb _ tB _ kB hsa hsb hkB (hfv _) (hfv _)]
    rfl
  have hall : ∀ t, t < (n + 1) * 3 → (w.cell? ⟨g, t, none⟩).isSome = true ∧ w.frozen? ⟨g, t, none⟩ = false := by
    intro t ht
    exact ⟨by rw [own0.cellAt (List.getElem?_eq_getElem (by omega : t < ((P ++ D) ++ ys).length))]; rfl, h.1.frozenAt t⟩
  have hvs : ∀ j x, (encEntry u)[j]? = some x → w.cell? ⟨vb, j, none⟩ = some x := fun j x hx => by rw [hv.cell]; simpa using hx
  have hDs : ∀ j x, D[j]? = some x → w.cell? ⟨g, i * 3 + j, none⟩ = some x := fun j x hx => h.cellAt (by rw [hPD, List.getElem?_append_right (by omega)]; rw [← hx]; congr 1; omega)
  obtain ⟨W1, hW1⟩ : ∃ W1, W1 = w.drew.setCells g ((i + 1) * 3) D := ⟨_, rfl⟩
  have own1 : Own W1 lo hi 62 3 (.slice (some ⟨g, 0, none⟩) (n + 1) c) (n + 1) (setL ((P ++ D) ++ ys) ((i + 1) * 3) D) := by rw [hW1]; exact Own.setCells D _ _ _ own0.drew
  have chg1 : Chg w W1 lo hi := by rw [hW1]; exact Chg.setCells hg D _ _ _ (Chg.of_below (Below.refl _ _).drew)
  have own2 := Own.setCells (encEntry u) (i * 3) _ _ own1
  have chg2 := Chg.setCells hg (encEntry u) (i * 3) _ _ chg1
  rw [ins_shift (k := 3) hPl (by omega) rfl hy2, hP, hD, ins_flat] at own2
  have R2 := Lib.hid own2
  have C2 := Lib.hid chg2
  have hcp1 : ∀ ty dc sc, (Builtin.copy_ #[24, 24] ty #[.slice (some ⟨g, (i + 1) * 3, none⟩) (n - i) dc, .slice (some ⟨g, i * 3, none⟩) (n + 1 - i) sc]).run Tryd.prog w.drew = .ok (goInt (n - i : Nat)) W1 := fun ty dc sc => by
    rw [hW1]
    exact run_copyK w.drew _ _ ty 62 3 g _ _ dc ⟨g, i * 3, none⟩ _ sc (n - i) D Tryd.underlying24 hsz (by simp only [Nat.min_def]; split <;> omega) hDl (fun j x hx => by rw [Addr.add_lit]; exact hDs j x hx) (fun j hj => (hall _ (by omega)).1) (fun j hj => (hall _ (by omega)).2) h1D
  have hcp2 : ∀ (W : World), (∀ x, W.cell? x = W1.cell? x) → (∀ x, W.frozen? x = W1.frozen? x) → ∀ ty dc, (Builtin.copy_ #[24, 24] ty #[.slice (some ⟨g, i * 3, none⟩) (n + 1 - i) dc, .slice (some ⟨vb, 0, none⟩) 1 1]).run Tryd.prog W = .ok (goInt (1 : Nat)) (W.setCells g (i * 3) (encEntry u)) := fun W hWc hWf ty dc => by
    exact run_copyK W _ _ ty 62 3 g _ _ dc ⟨vb, 0, none⟩ 1 1 1 (encEntry u) Tryd.underlying24 hsz (by simp only [Nat.min_def]; split <;> omega) rfl
      (fun j x hx => by rw [Addr.add_lit, Nat.zero_add, hWc, hW1, World.cell?_setCells_out g _ _ _ _ (fun e _ => absurd e hvb)]; exact hvs j x hx)
      (fun j hj => by
        have hj2 : j < 3 := hj
        rw [hWc, own1.cellAt (List.getElem?_eq_getElem (by rw [setL_len]; omega : i * 3 + j < (setL ((P ++ D) ++ ys) ((i + 1) * 3) D).length))]; rfl)
      (fun j hj => by rw [hWf]; exact own1.1.frozenAt _) (oneEntry u)
  have z1 : ¬ ((i : Int) = (n : Int)) := by omega
  have z2 : ¬ ((c : Int) < (n : Int) + 1) := by omega
  have z3 : (i : Int) ≤ (n : Int) := by omega
  have z4 : (i : Int) + 1 ≤ (n : Int) + 1 := by omega
  have z5 : (0 : Int) ≤ (i : Int) + 1 := by omega
  have z6 : (n : Int) + 1 ≤ (c : Int) := by omega
  have z7 : (i : Int) ≤ (n : Int) + 1 := by omega
  have z8 : IntKind.i64.wrap ((i : Int) + 1) = (i : Int) + 1 := by rw [IntKind.wrap_i64]; omega
  have z9 : ((i : Int) + 1).toNat = i + 1 := by omega
  have z10 : ¬ (c = i + 1) := by omega
  have z11 : ¬ (c = i) := by omega
  clear hW1
  clear hall hDs hvs own0 own1 own2 chg1 chg2 hxl hPl hDl h1D hyl hy2 h hPD
  go_enter Tryd.func73, Tryd.ntmps73
  go_wp2_with (simp only [hov])
  go_region_law (refine step_copy_runK rfl _ _ 24 24 rfl (.slice (some ⟨g, (i + 1) * 3, none⟩) (n - i) (c - (i + 1))) (.slice (some ⟨g, i * 3, none⟩) (n + 1 - i) (c - i)) (by simp [Act.eval, Act.put]) (by simp [Act.eval, Act.put]) (hcp1 _ _ _) ?_)
  go_wp2_with (at_builtin; refine wpList_copy_runK _ rfl _ _ 24 24 rfl _ _ rfl rfl (hcp2 _ (fun _ => rfl) (fun _ => rfl) _ _) ?_)
  go_ret
  exact ⟨_, _, _, _, rfl, R2.out, C2.out, .inl ⟨Nat.le_refl _, Nat.le_refl _⟩⟩
set_option maxHeartbeats 4000000 in
set_option maxRecDepth 10000 in
theorem insEntry_grow (g n c i lo hi vb : Nat) (us : List Entry) (u : Entry) (w : World) (h : Own w lo hi 62 3 (.slice (some ⟨g, 0, none⟩) n c) n (us.flatMap encEntry)) (hn : us.length = n) (h20 : n ≤ 1048576) (hin : i < n) (hroom : c < n + 1)
    (hv : Bx w vb 62 (encEntry u).toArray) :
    Calls Tryd.prog 73 #[.slice (some ⟨g, 0, none⟩) n c, .int .i64 i, .slice (some ⟨vb, 0, none⟩) 1 1] w (InsPostEntry w lo hi n i us u) := by
  obtain ⟨i0, hi0, hz0, hz1, hz2⟩ := info_parts Tryd.infoEntry
  obtain ⟨hnc, hcm⟩ := h.lenCap
  obtain rfl : c = n := by omega
  unfold maxLen at hcm
  have hg := h.lt g rfl
  have hgw : g < w.heap.size := Nat.lt_of_lt_of_le hg.2 h.2.2
  have hvw : vb < w.heap.size := hv.lt
  have hsz : (Tryd.prog.info? 62).map (·.size) = some 3 := by rw [hi0]; simp [hz1]
  obtain ⟨P, hP⟩ : ∃ P, P = (us.take i).flatMap encEntry := ⟨_, rfl⟩
  obtain ⟨D, hD⟩ : ∃ D, D = (us.drop i).flatMap encEntry := ⟨_, rfl⟩
  have hPl : P.length = i * 3 := by rw [hP, flat_len encEntry 3 encEntry_len, List.length_take, hn, Nat.min_eq_left (by omega)]
  have hDl : D.length = (c - i) * 3 := by rw [hD, flat_len encEntry 3 encEntry_len, List.length_drop, hn]
  have hPD : us.flatMap encEntry = P ++ D := by rw [hP, hD, ← List.flatMap_append, List.take_append_drop]
  have h1D : ∀ x ∈ D, x.oneCell' = true := by rw [hD]; exact encEntry_one _
  have hvs : ∀ j x, (encEntry u)[j]? = some x → w.cell? ⟨vb, j, none⟩ = some x := fun j x hx => by rw [hv.cell]; simpa using hx
  have hPs : ∀ j x, P[j]? = some x → w.cell? ⟨g, j, none⟩ = some x := fun j x hx => h.cellAt (by rw [hPD, List.getElem?_append_left (List.getElem?_eq_some_iff.1 hx).1]; exact hx)
  have hDs : ∀ j x, D[j]? = some x → w.cell? ⟨g, i * 3 + j, none⟩ = some x := fun j x hx => h.cellAt (by rw [hPD, List.getElem?_append_right (by omega)]; rw [← hx]; congr 1; omega)
  obtain ⟨G, hG⟩ : ∃ G, G = grownCap w (c + 1) c 62 := ⟨_, rfl⟩
  have hGn : c + 1 ≤ G := by rw [hG]; exact grownCap_ge w _ _ _
  have hG63 : G ≤ maxLen := by rw [hG]; exact grownCap_le_maxLen w (c + 1) c _ (by unfold maxLen; omega)
  have hold : (Builtin.firstCells i0.size i (.slice (some ⟨g, 0, none⟩) i c)).run Tryd.prog w.drew = .ok P.toArray w.drew := by
    rw [hz1]
    exact run_firstCells_some (w := w.drew) 3 i ⟨g, 0, none⟩ i c P hPl (fun j x hx => by rw [Addr.add_lit, Nat.zero_add]; exact hPs j x hx)
  obtain ⟨Z, hZ⟩ : ∃ Z, Z = (Builtin.zeroCells (Value.agg #[Value.string ByteArray.empty, Value.int .i64 0, Value.slice none 0 0]).cells (c + 1 - i)).toList := ⟨_, rfl⟩
  obtain ⟨T, hT⟩ : ∃ T, T = (Builtin.zeroCells (Value.agg #[Value.string ByteArray.empty, Value.int .i64 0, Value.slice none 0 0]).cells (G - (c + 1))).toList := ⟨_, rfl⟩
  have hZl : Z.length = (c + 1 - i) * 3 := by rw [hZ]; simp [Builtin.zeroCells, Value.cells]
  have hTl : T.length = (G - (c + 1)) * 3 := by rw [hT]; simp [Builtin.zeroCells, Value.cells]
  have hrz : ∀ ty, (Builtin.append_ #[24, 3] ty #[.slice (some ⟨g, 0, none⟩) i c, .int .i64 ((c : Int) + 1 - (i : Int))]).run Tryd.prog w =
      .ok (.slice (some ⟨w.heap.size, 0, none⟩) (c + 1) G) (w.drew.alloc (.cells (P ++ Z ++ T).toArray 62)) := fun ty => by
    have h3 := Lib.run_append_grow_zeros w 24 3 ty 62 i0 _ .i64 .i64 Tryd.underlying24 Tryd.underlying3 hi0 hz0 (some ⟨g, 0, none⟩) i c P hold (c + 1 - i) (by omega) (by omega) (by omega) (by omega) (by rw [hz2]; omega) (by
      rw [hz2, show i + (c + 1 - i) = c + 1 by omega]
      exact growslice_fits (by omega) (by omega))
    rw [show i + (c + 1 - i) = c + 1 by omega, ← hG] at h3
    rw [show ((c : Int) + 1 - (i : Int)) = ((c + 1 - i : Nat) : Int) by omega, h3]
    congr 3
    rw [hZ, hT]
    simp
  obtain ⟨W1, hW1⟩ : ∃ W1, W1 = w.drew.alloc (.cells (P ++ Z ++ T).toArray 62) := ⟨_, rfl⟩
  have hRl : (P ++ Z ++ T).length = G * 3 := by rw [List.length_append, List.length_append, hPl, hZl, hTl]; omega
  have own1 : Own W1 w.heap.size (w.heap.size + 1) 62 3 (.slice (some ⟨w.heap.size, 0, none⟩) G G) G (P ++ Z ++ T) := by
    have h4 := Own.fresh w.drew 3 G G 62 (P ++ Z ++ T) hRl (Nat.le_refl _) hG63
    rw [List.take_of_length_le (by omega)] at h4
    rw [hW1]
    exact h4
  have old1 : ∀ b o, b < w.heap.size → W1.cell? ⟨b, o, none⟩ = w.cell? ⟨b, o, none⟩ := fun b o hb => by rw [hW1, World.cell?_alloc_past (w := w.drew) _ b o hb]; rfl
  have chg1 : Chg w W1 w.heap.size w.heap.size := by rw [hW1]; exact Chg.of_below ((Below.refl _ _).drew.alloc (Nat.le_refl _) _)
  obtain ⟨W2, hW2⟩ : ∃ W2, W2 = W1.setCells w.heap.size (i * 3) (encEntry u) := ⟨_, rfl⟩
  have own2 := Own.setCells (encEntry u) (i * 3) _ _ own1
  rw [← hW2] at own2
  obtain ⟨W3, hW3⟩ : ∃ W3, W3 = W2.drew.setCells w.heap.size ((i + 1) * 3) D := ⟨_, rfl⟩
  have own3 := Own.setCells D ((i + 1) * 3) _ _ own2.drew
  rw [← hW3] at own3
  have chg2 : Chg w W2 w.heap.size w.heap.size := by rw [hW2]; exact Chg.setNew (Nat.le_refl _) _ _ _ chg1
  have chg3 : Chg w W3 w.heap.size w.heap.size := by rw [hW3]; exact Chg.setNew (Nat.le_refl _) _ _ _ (chg2.grow (Below.refl _ _).drew)
  rw [ins_grow (k := 3) hPl (by omega) rfl (by rw [hZl, hDl]; omega) T] at own3
  have own4 := own3.cut (m := c + 1) (by omega)
  rw [List.take_append_of_le_length (by rw [List.length_append, List.length_append, hPl, hDl]; simp [encEntry]; omega), List.take_of_length_le (by rw [List.length_append, List.length_append, hPl, hDl]; simp [encEntry]; omega), hP, hD, ins_flat] at own4
  have R4 := Lib.hid own4
  have C3 := Lib.hid chg3
  have hcpA : ∀ ty dc, (Builtin.copy_ #[24, 24] ty #[.slice (some ⟨w.heap.size, i * 3, none⟩) (c + 1 - i) dc, .slice (some ⟨vb, 0, none⟩) 1 1]).run Tryd.prog W1 = .ok (goInt (1 : Nat)) W2 := fun ty dc => by
    rw [hW2]
    exact run_copyK W1 _ _ ty 62 3 _ _ _ dc ⟨vb, 0, none⟩ 1 1 1 (encEntry u) Tryd.underlying24 hsz (by simp only [Nat.min_def]; split <;> omega) rfl
      (fun j x hx => by rw [Addr.add_lit, Nat.zero_add, old1 _ _ hvw]; exact hvs j x hx)
      (fun j hj => by
        have hj2 : j < 3 := hj
        rw [own1.cellAt (List.getElem?_eq_getElem (by rw [hRl]; omega : i * 3 + j < (P ++ Z ++ T).length))]; rfl)
      (fun j hj => own1.1.frozenAt _) (oneEntry u)
  have hcpB : ∀ ty dc sc, (Builtin.copy_ #[24, 24] ty #[.slice (some ⟨w.heap.size, (i + 1) * 3, none⟩) (c - i) dc, .slice (some ⟨g, i * 3, none⟩) (c - i) sc]).run Tryd.prog W2.drew = .ok (goInt (c - i : Nat)) W3 := fun ty dc sc => by
    rw [hW3]
    exact run_copyK W2.drew _ _ ty 62 3 _ _ _ dc ⟨g, i * 3, none⟩ _ sc (c - i) D Tryd.underlying24 hsz (Nat.min_self _) hDl
      (fun j x hx => by
        rw [Addr.add_lit]
        show W2.cell? _ = _
        rw [hW2, World.cell?_setCells_out _ _ _ _ _ (fun e _ => absurd e (by show g ≠ w.heap.size; omega)), old1 _ _ hgw]
        exact hDs j x hx)
      (fun j hj => by
        show (W2.cell? _).isSome = true
        rw [own2.cellAt (List.getElem?_eq_getElem (by rw [setL_len, hRl]; omega : (i + 1) * 3 + j < (setL (P ++ Z ++ T) (i * 3) (encEntry u)).length))]; rfl)
      (fun j hj => own2.1.frozenAt _) h1D
  rw [← hW1] at hrz
  have z1 : ¬ ((i : Int) = (c : Int)) := by omega
  have z2 : (c : Int) < (c : Int) + 1 := by omega
  have z3 : (i : Int) ≤ (c : Int) := by omega
  have z8 : IntKind.i64.wrap ((i : Int) + 1) = (i : Int) + 1 := by rw [IntKind.wrap_i64]; omega
  have z9 : ((i : Int) + 1).toNat = i + 1 := by omega
  have z5 : (0 : Int) ≤ (i : Int) + 1 := by omega
  have z4 : (i : Int) + 1 ≤ (c : Int) + 1 := by omega
  have z10 : ¬ (G = i + 1) := by omega
  have z11 : ¬ (G = i) := by omega
  have z12 : ¬ (c = i) := by omega
  have z13 : (i : Int) ≤ (c : Int) + 1 := by omega
  unfold maxLen at hG63
  clear hG hZ hT hW1 hW2 hW3 own1 own2 own3 own4 chg1 chg2 chg3 old1 hvs hPs hDs hP hD hPl hDl hPD h1D hold hZl hTl hRl h hv
  go_enter Tryd.func73, Tryd.ntmps73
  go_wp2_with (first
    | (at_builtin; refine Lib.wpList_append_run _ rfl _ _ _ _ rfl _ _ rfl rfl _ _ (hrz _) ?_)
    | (at_builtin; refine wpList_copy_runK _ rfl _ _ 24 24 rfl _ _ rfl rfl (hcpA _ _) ?_))
  go_region_law (refine step_copy_runK rfl _ _ 24 24 rfl (.slice (some ⟨w.heap.size, (i + 1) * 3, none⟩) (c - i) (G - (i + 1))) (.slice (some ⟨g, i * 3, none⟩) (c - i) (c - i)) (by simp [Act.eval, Act.put]) (by simp [Act.eval, Act.put]) (hcpB _ _ _) ?_)
  go_wp2
  go_ret
  exact ⟨_, _, _, _, rfl, R4.out, ⟨C3.out.os, C3.out.tape, C3.out.output, C3.out.size, fun k hk _ => C3.out.block k hk (.inl hk)⟩, .inr (Nat.le_refl _)⟩
theorem insEntry_any (A : Option Addr) (n c i lo hi vb : Nat) (us : List Entry) (u : Entry) (w : World) (h : Own w lo hi 62 3 (.slice A n c) n (us.flatMap encEntry)) (hn : us.length = n) (h20 : n ≤ 1048576) (hlo : lo ≤ w.heap.size) (hin : i ≤ n)
    (hv : Bx w vb 62 (encEntry u).toArray) (hvb : vb < lo ∨ hi ≤ vb) :
    Calls Tryd.prog 73 #[.slice A n c, .int .i64 i, .slice (some ⟨vb, 0, none⟩) 1 1] w (InsPostEntry w lo hi n i us u) := by
  by_cases hi' : i = n
  · subst hi'
    exact insEntry_end A i c lo hi vb us u w h hn h20 hlo hv
  · obtain ⟨g, rfl, h1, h2⟩ := h.at_ (by omega)
    by_cases hroom : n + 1 ≤ c
    · exact insEntry_shift g n c i lo hi vb us u w h hn h20 (by omega) hroom hv (by omega)
    · exact insEntry_grow g n c i lo hi vb us u w h hn h20 (by omega) (by omega) hv
theorem insEntry_hp {w0 w : World} {L : List Ent} (A : Option Addr) (c i vb : Nat) (us : List Entry) (u : Entry) (H : Hp w0 w L) (hm : rEntry A c us ∈ L) (hb : box vb 62 (encEntry u) ∈ L) (h20 : us.length ≤ 1048576) (hin : i ≤ us.length) (hne : ∀ a, A = some a → vb ≠ a.block) :
    Calls Tryd.prog 73 #[.slice A us.length c, .int .i64 i, .slice (some ⟨vb, 0, none⟩) 1 1] w fun e w' => ∃ A' c', e = .returned (.slice A' (us.length + 1) c') ∧ ∀ L', Rep L (rEntry A c us) (rEntry A' c' (us.take i ++ u :: us.drop i)) L' → Hp w0 w' L' := by
  obtain ⟨ho, hlo⟩ := H.ownM hm
  have hv : Bx w vb 62 (encEntry u).toArray := (H.ok _ hb).p
  have hvl := hv.lt
  have hls : loA A w.heap.size ≤ w.heap.size := by
    cases A with
    | none => exact Nat.le_refl _
    | some a => have h1 := ho.2.1 a.block; have h2 := ho.2.2; have h3 : (Value.slice (some a) us.length c).ownBlock = some a.block := rfl; have := (ho.1.lt a.block h3).2; show a.block ≤ _; omega
  have hap : vb < loA A w.heap.size ∨ hiA A w.heap.size ≤ vb := by
    cases A with
    | none => exact .inl hvl
    | some a => have := hne a rfl; show vb < a.block ∨ a.block + 1 ≤ vb; omega
  refine (insEntry_any A us.length c i _ _ vb us u w ho rfl h20 hls hin hv hap).mono ?_
  rintro e w' ⟨A', c', lo', hi', rfl, own2, hc, hwh⟩
  refine ⟨A', c', rfl, ?_⟩
  rintro L' ⟨k, hk, rfl⟩
  have hlen : (us.take i ++ u :: us.drop i).length = us.length + 1 := by rw [List.length_append, List.length_cons, List.length_take, List.length_drop]; omega
  rw [← hlen] at own2
  refine H.mod k _ _ hk (fun x hx => ?_) (by exact own_base own2.1 (Nat.zero_le _)) (fun x hx => (own2.1.lt x hx).2) hc.os hc.tape hc.output hc.size (fun x hx hx' => hc.block x hx ?_)
  · have h1 := own2.lt x hx
    rcases hwh with ⟨h2, h3⟩ | h2
    · left
      cases A with
      | none => have e1 : loA none w.heap.size = w.heap.size := rfl; have e2 : hiA none w.heap.size = w.heap.size := rfl; omega
      | some a =>
        have e1 : loA (some a) w.heap.size = a.block := rfl
        have e2 : hiA (some a) w.heap.size = a.block + 1 := rfl
        have e3 : a.block = x := by omega
        subst e3
        rfl
    · right; omega
  · cases A with
    | none => exact .inl hx
    | some a =>
      have hx2 : ¬ (some a.block = some x) := hx'
      simp at hx2
      show x < a.block ∨ a.block + 1 ≤ x
      omega
end Go.Proofs.YtklmcbabpncfmaaDoor
