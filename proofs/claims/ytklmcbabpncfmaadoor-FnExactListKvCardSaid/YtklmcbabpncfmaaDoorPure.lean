/- Plain definitions and lemmas: what the program's functions compute, and words for memory. No condition. -/
import Derived.Below
import Derived.Laws.OwnMore
import Derived.Deep.Draws
import Derived.OwnWalk
import Derived.Deep.QuietTactic
namespace Go.Proofs.YtklmcbabpncfmaaDoor
open Go.RowKit

/-! ### plain functions -/
def inR (x lo hi : Int) : Bool := decide (lo ≤ x) && decide (x ≤ hi)
theorem inR_true {x lo hi : Int} : inR x lo hi = true ↔ lo ≤ x ∧ x ≤ hi := by simp [inR]
theorem inR_false {x lo hi : Int} : inR x lo hi = false ↔ x < lo ∨ hi < x := by simp [inR]; omega

def nameCh (b : UInt8) : Bool := (decide (97 ≤ b.toNat) && decide (b.toNat ≤ 122)) || (decide (48 ≤ b.toNat) && decide (b.toNat ≤ 57))

/-- Every byte has p. -/
def allB (p : UInt8 → Bool) (s : ByteArray) : Bool := s.data.toList.all p
theorem take_snoc_bytes (s : ByteArray) (k : Nat) (h : k < s.size) : s.data.toList.take (k + 1) = s.data.toList.take k ++ [s[k]] := by
  rw [List.take_succ_eq_append_getElem (by simpa using h)]; rfl
theorem take_all_bytes (s : ByteArray) : s.data.toList.take s.size = s.data.toList := List.take_of_length_le (by simp)

theorem allB_snoc {s : ByteArray} {k : Nat} (p : UInt8 → Bool) (h : k < s.size) (ha : (s.data.toList.take k).all p = true) (hb : p s[k] = true) : (s.data.toList.take (k + 1)).all p = true := by
  rw [take_snoc_bytes s k h, List.all_append, ha]; simp [hb]
theorem allB_at {s : ByteArray} {k : Nat} (p : UInt8 → Bool) (h : k < s.size) (hb : p s[k] = false) : allB p s = false := by
  unfold allB
  rw [List.all_eq_false]
  exact ⟨s[k], by rw [← Array.mem_def]; exact Array.getElem_mem (xs := s.data) (by simpa using h), by simp [hb]⟩
theorem allB_end {s : ByteArray} {k : Nat} (p : UInt8 → Bool) (hk : k ≤ s.size) (h : ¬ k < s.size) (ha : (s.data.toList.take k).all p = true) : allB p s = true := by
  rw [show k = s.size by omega, take_all_bytes] at ha; exact ha
theorem allB_congr {p q : UInt8 → Bool} (h : ∀ b, p b = q b) (s : ByteArray) : allB p s = allB q s := by rw [show p = q from funext h]
def isNm (s : ByteArray) : Bool := inR s.size 1 12 && allB nameCh s

/-- What is left of a budget; -1 where it is spent. -/
def leftOf (left : Int) (n : Nat) : Int := if (n : Int) ≤ left then left - n else -1
theorem leftOf_neg {left : Int} {n : Nat} (h : leftOf left n < 0) : left < n := by unfold leftOf at h; split at h <;> omega
theorem leftOf_nn {left : Int} {n : Nat} (h : 0 ≤ leftOf left n) : (n : Int) ≤ left ∧ leftOf left n = left - n := by
  by_cases hc : (n : Int) ≤ left
  · rw [leftOf, if_pos hc] at h ⊢; exact ⟨hc, rfl⟩
  · rw [leftOf, if_neg hc] at h; omega

theorem leftOf_leftOf {left : Int} {a b : Nat} (h : 0 ≤ leftOf left a) : leftOf (leftOf left a) b = leftOf left (a + b) := by
  obtain ⟨h1, h2⟩ := leftOf_nn h
  rw [h2]
  unfold leftOf
  by_cases hc : (b : Int) ≤ left - a
  · rw [if_pos hc, if_pos (by omega)]; omega
  · rw [if_neg hc, if_neg (by omega)]

/-! ### words for memory -/
/-- The slice '.slice A n c' of elements of k cells reads as the cells xs; it lies below block B. -/
def Rd (w : World) (B k : Nat) (A : Option Addr) (n c : Nat) (xs : List Value) : Prop :=
  xs.length = n * k ∧ n ≤ c ∧ c ≤ maxLen ∧ (0 < n → ∃ b off, A = some ⟨b, off, none⟩ ∧ b < B ∧ ∀ j u, xs[j]? = some u → w.cell? ⟨b, off + j, none⟩ = some u)

section
variable {w w' : World} {B B' k n c : Nat} {A : Option Addr} {xs : List Value}
theorem Rd.at_ (h : Rd w B k A n c xs) {i : Nat} (hi : i < n) : ∃ b off, A = some ⟨b, off, none⟩ ∧ b < B ∧ ∀ j, j < k → ∃ u, xs[i * k + j]? = some u ∧ w.cell? ⟨b, off + i * k + j, none⟩ = some u := by
  obtain ⟨b, off, e, hb, hc⟩ := h.2.2.2 (by omega)
  refine ⟨b, off, e, hb, fun j hj => ?_⟩
  have hl : i * k + j < xs.length := by
    rw [h.1]
    have h1 : i * k + k ≤ n * k := by rw [← Nat.succ_mul]; exact Nat.mul_le_mul_right _ hi
    omega
  refine ⟨_, List.getElem?_eq_getElem hl, ?_⟩
  rw [Nat.add_assoc]
  exact hc _ _ (List.getElem?_eq_getElem hl)
theorem Rd.keep (h : Rd w B k A n c xs) (hk : ∀ p : Addr, p.block < B → w'.cell? p = w.cell? p) : Rd w' B k A n c xs :=
  ⟨h.1, h.2.1, h.2.2.1, fun hn => by
    obtain ⟨b, off, e, hb, hc⟩ := h.2.2.2 hn
    exact ⟨b, off, e, hb, fun j u hu => (hk _ hb).trans (hc j u hu)⟩⟩
theorem Rd.more (h : Rd w B k A n c xs) (hB : B ≤ B') : Rd w B' k A n c xs :=
  ⟨h.1, h.2.1, h.2.2.1, fun hn => by
    obtain ⟨b, off, e, hb, hc⟩ := h.2.2.2 hn
    exact ⟨b, off, e, by omega, hc⟩⟩
theorem Rd.below {D : Nat} (h : Rd w B k A n c xs) (hb : Below D w w') (hD : B ≤ D) : Rd w' B k A n c xs := h.keep fun _ hp => hb.cell (by omega)
end

/-- The cells of element i in a flat row. -/
theorem flat_get {α : Type} (enc : α → List Value) (k : Nat) (hk : ∀ x, (enc x).length = k) : ∀ (us : List α) (i j : Nat), j < k → (us.flatMap enc)[i * k + j]? = us[i]?.bind fun u => (enc u)[j]?
  | [], i, j, _ => by simp
  | u :: us, 0, j, h => by simp [List.flatMap_cons, List.getElem?_append, hk, h]
  | u :: us, i + 1, j, h => by
    rw [List.flatMap_cons, List.getElem?_append_right (by rw [hk, Nat.succ_mul]; omega), hk]
    rw [show (i + 1) * k + j - k = i * k + j by rw [Nat.succ_mul]; omega]
    simpa using flat_get enc k hk us i j h
theorem flat_len {α : Type} (enc : α → List Value) (k : Nat) (hk : ∀ x, (enc x).length = k) (us : List α) : (us.flatMap enc).length = us.length * k := by
  induction us with
  | nil => simp
  | cons u us ih => rw [List.flatMap_cons, List.length_append, hk, ih, List.length_cons, Nat.succ_mul]; omega

/-- What a struct slice's element reads as. -/
theorem Rd.elem {α : Type} {w : World} {B k n c : Nat} {A : Option Addr} {us : List α} {enc : α → List Value} (h : Rd w B k A n c (us.flatMap enc)) (hk : ∀ x, (enc x).length = k) (hn : us.length = n) {i : Nat} (hi : i < n) :
    ∃ b off, A = some ⟨b, off, none⟩ ∧ b < B ∧ ∀ j u, (enc (us[i]'(by omega)))[j]? = some u → w.cell? ⟨b, off + i * k + j, none⟩ = some u := by
  obtain ⟨b, off, e, hb, hc⟩ := h.at_ hi
  refine ⟨b, off, e, hb, fun j u hu => ?_⟩
  have hj : j < k := by rw [← hk (us[i]'(by omega))]; exact (List.getElem?_eq_some_iff.1 hu).1
  obtain ⟨u', h1, h2⟩ := hc j hj
  rw [flat_get enc k hk us i j hj, List.getElem?_eq_getElem (by omega : i < us.length)] at h1
  rw [h2, ← h1]
  simpa using hu

theorem bcell {W w1 : World} {B : Nat} (hb : Below B W w1) : (∀ b o, b < B → w1.cell? ⟨b, o, none⟩ = W.cell? ⟨b, o, none⟩) ∧ (∀ b o, b < B → w1.frozen? ⟨b, o, none⟩ = W.frozen? ⟨b, o, none⟩) :=
  ⟨fun b o h => hb.cell (p := ⟨b, o, none⟩) h, fun b o h => hb.frozen (p := ⟨b, o, none⟩) h⟩
theorem below_drewN {B : Nat} {a w : World} (h : Below B a w) (n : Nat) : Below B a (w.drewN n) := ⟨h.os, h.tape, h.output, h.size, h.block⟩
theorem blift {a w w' : World} {B : Nat} (h : Below B a w) (h' : Below w.heap.size w w') (hB : B ≤ w.heap.size) : Below B a w' := h.trans (h'.mono hB)
/-- A row of the call's own, read. -/
theorem own_rd {w : World} {base : Nat} {e : TypeId} {k n : Nat} {v : Value} {xs : List Value} (h : w.ownsRow base e k v n xs) :
    ∃ A c, v = .slice A n c ∧ Rd w w.heap.size k A n c xs ∧ (∀ b off, A = some ⟨b, off, none⟩ → base ≤ b ∧ off = 0) := by
  obtain ⟨hl, h2⟩ := h
  rcases h2 with ⟨rfl, rfl⟩ | ⟨g, cap, cur, rfl, hb, hg, hn, hc, hs, ht⟩
  · exact ⟨none, 0, rfl, ⟨hl, Nat.le_refl _, by unfold maxLen; omega, fun h => absurd h (by omega)⟩, fun _ _ h => by cases h⟩
  · refine ⟨some ⟨g, 0, none⟩, cap, rfl, ⟨hl, hn, hc, fun _ => ⟨g, 0, rfl, (Array.getElem?_eq_some_iff.1 hg).1, fun j u hu => ?_⟩⟩, fun b off h => by injection h with h; injection h with h1 h2; exact ⟨by omega, by omega⟩⟩
    rw [Nat.zero_add, cell_of_row w g j cur e (0, 0) hg]
    rw [← ht, List.getElem?_take] at hu
    split at hu
    · simpa using hu
    · cases hu
theorem own_rd' {w : World} {base : Nat} {e : TypeId} {k n n' c : Nat} {A : Option Addr} {xs : List Value} (h : w.ownsRow base e k (.slice A n' c) n xs) : n' = n ∧ Rd w w.heap.size k A n c xs := by
  obtain ⟨A', c', e, rd, _⟩ := own_rd h
  injection e with e1 e2 e3
  subst e1 e2 e3
  exact ⟨rfl, rd⟩
theorem own_rdn {w : World} {base : Nat} {e : TypeId} {k n c : Nat} {A : Option Addr} {xs : List Value} (h : w.ownsRow base e k (.slice A n c) n xs) : Rd w w.heap.size k A n c xs := (own_rd' h).2
theorem own_below {w w' : World} {base : Nat} {e : TypeId} {k n : Nat} {v : Value} {xs : List Value} (h : w.ownsRow base e k v n xs) {B : Nat} (hb : Below B w w') (hB : ∀ g, v.ownBlock = some g → g < B) : w'.ownsRow base e k v n xs := by
  refine ⟨h.1, ?_⟩
  rcases h.2 with hn | ⟨g, cap, cur, rfl, hbb, hgg, rest⟩
  · exact .inl hn
  · exact .inr ⟨g, cap, cur, rfl, hbb, by rw [hb.block g (hB g rfl)]; exact hgg, rest⟩
theorem own_grow {w w' : World} {base : Nat} {e : TypeId} {k n : Nat} {v : Value} {xs : List Value} (h : w.ownsRow base e k v n xs) (hb : Below w.heap.size w w') : w'.ownsRow base e k v n xs :=
  own_below h hb fun g hg => (h.lt g hg).2
theorem own_base {w : World} {base base' : Nat} {e : TypeId} {k n : Nat} {v : Value} {xs : List Value} (h : w.ownsRow base e k v n xs) (hb : base' ≤ base) : w.ownsRow base' e k v n xs := by
  refine ⟨h.1, ?_⟩
  rcases h.2 with hn | ⟨g, cap, cur, rfl, hbb, rest⟩
  · exact .inl hn
  · exact .inr ⟨g, cap, cur, rfl, by omega, rest⟩
theorem own_cell {w : World} {base : Nat} {e : TypeId} {k n g cap : Nat} {xs : List Value} (h : w.ownsRow base e k (.slice (some ⟨g, 0, none⟩) n cap) n xs) {j : Nat} (hj : j < n * k) : ∃ u, xs[j]? = some u ∧ w.cell? ⟨g, j, none⟩ = some u := by
  have hl : j < xs.length := by rw [h.1]; exact hj
  exact ⟨xs[j], List.getElem?_eq_getElem hl, by rw [h.cellAt j hj, List.getElem?_eq_getElem hl]⟩
theorem own_set {w : World} {base : Nat} {e : TypeId} {k n : Nat} {v : Value} {xs : List Value} (h : w.ownsRow base e k v n xs) {b o : Nat} (hb : b < base) (u : Value) : (w.setCell ⟨b, o, none⟩ u).ownsRow base e k v n xs := ownsRow_setCell_below h hb u
theorem below_set {B : Nat} {a w : World} (h : Below B a w) {b o : Nat} (hb : B ≤ b) (u : Value) : Below B a (w.setCell ⟨b, o, none⟩ u) := h.setCell hb u
/-- Values laid into a list from a place on. -/
def setL (cs : List Value) (p : Nat) : List Value → List Value
  | [] => cs
  | v :: vs => setL (cs.set p v) (p + 1) vs
theorem setL_len (vs : List Value) : ∀ (cs : List Value) (p : Nat), (setL cs p vs).length = cs.length := by
  induction vs with
  | nil => intro cs p; rfl
  | cons v vs ih => intro cs p; rw [setL, ih, List.length_set]
theorem setL_take (vs : List Value) : ∀ (cs : List Value) (p : Nat), p + vs.length ≤ cs.length → (setL cs p vs).take (p + vs.length) = cs.take p ++ vs := by
  induction vs with
  | nil => intro cs p _; simp [setL]
  | cons v vs ih =>
    intro cs p h
    simp only [List.length_cons] at h
    rw [setL, List.length_cons, show p + (vs.length + 1) = p + 1 + vs.length by omega, ih _ _ (by rw [List.length_set]; omega)]
    rw [List.take_succ_eq_append_getElem (by rw [List.length_set]; omega)]
    have ht : List.take p (cs.set p v) = List.take p cs := by
      refine List.ext_getElem? fun i => ?_
      rw [List.getElem?_take, List.getElem?_take]
      split
      · rw [List.getElem?_set_ne (by omega)]
      · rfl
    rw [ht]
    simp
theorem setL_drop (vs : List Value) : ∀ (cs : List Value) (p q : Nat), p + vs.length ≤ q → (setL cs p vs).drop q = cs.drop q := by
  induction vs with
  | nil => intro cs p q _; rfl
  | cons v vs ih =>
    intro cs p q h
    simp only [List.length_cons] at h
    rw [setL, ih _ _ _ (by omega), List.drop_set, if_pos (by omega)]
theorem take_flat {α : Type} {enc : α → List Value} {k : Nat} (hk : ∀ x, (enc x).length = k) {us : List α} {i : Nat} (hi : i < us.length) {cs : List Value} (hc : cs.take (i * k) = (us.take i).flatMap enc) (hl : cs.length = us.length * k) :
    (setL cs (i * k) (enc us[i])).take ((i + 1) * k) = (us.take (i + 1)).flatMap enc := by
  have h1 : i * k + (enc us[i]).length ≤ cs.length := by
    rw [hl, hk, ← Nat.succ_mul]; exact Nat.mul_le_mul_right _ hi
  have h2 := setL_take (enc us[i]) cs (i * k) h1
  rw [hk] at h2
  rw [Nat.succ_mul, h2, hc, List.take_succ_eq_append_getElem hi, List.flatMap_append]
  simp
theorem take_flat_end {α : Type} {enc : α → List Value} {k n : Nat} {us : List α} (hn : us.length = n) {cs : List Value} (hc : cs.take (n * k) = (us.take n).flatMap enc) (hl : cs.length = n * k) : cs = us.flatMap enc := by
  rw [List.take_of_length_le (by omega), List.take_of_length_le (by omega)] at hc
  exact hc
theorem own_len {w : World} {base : Nat} {e : TypeId} {k n : Nat} {v : Value} {xs : List Value} (h : w.ownsRow base e k v n xs) : xs.length = n * k := h.1
/-- A contract that leaves the world alone, in a quiet region. -/
theorem quietL {P : Program} {f : FuncId} {args : Array Value} {w : World} {n : Nat} {v : Value} (h : Calls P f args (w.drewN n) fun e w' => e = .returned v ∧ w.drewN n = w') :
    Calls P f args (w.drewN n) fun e w'' => e = .returned v ∧ ∃ m, w'' = w.drewN m := h.mono fun _ _ ⟨he, hm⟩ => ⟨he, n, hm.symm⟩
theorem quietL2 {P : Program} {f : FuncId} {args : Array Value} {w : World} {a n : Nat} {v : Value} (h : Calls P f args (w.drewN (a + n)) fun e w' => e = .returned v ∧ w.drewN (a + n) = w') :
    Calls P f args (w.drewN (a + n)) fun e w'' => e = .returned v ∧ ∃ m, w'' = w.drewN (a + m) := h.mono fun _ _ ⟨he, hm⟩ => ⟨he, n, hm.symm⟩
theorem mem_size {α : Type} {us : List α} {f : α → ByteArray} (h : ∀ u ∈ us, (f u).size ≤ maxLen) {i : Nat} (hi : i < us.length) : (f us[i]).size ≤ maxLen := h _ (List.getElem_mem hi)
end Go.Proofs.YtklmcbabpncfmaaDoor
