/- Plain definitions and lemmas: what the program's functions compute, and words for memory. No condition. -/
import Derived.Below
import Derived.Laws.OwnMore
import Derived.Deep.Draws
import Derived.OwnWalk
import Derived.Deep.QuietTactic
import Derived.Deep.AppendLies
set_option linter.unusedVariables false
set_option linter.unusedSimpArgs false
namespace Go.Proofs.YtlmmeeeoljlgcaaDoor
open Go.RowKit

/-! ### plain functions -/
def inR (x lo hi : Int) : Bool := decide (lo ≤ x) && decide (x ≤ hi)
theorem inR_true {x lo hi : Int} : inR x lo hi = true ↔ lo ≤ x ∧ x ≤ hi := by simp [inR]
theorem inR_false {x lo hi : Int} : inR x lo hi = false ↔ x < lo ∨ hi < x := by simp [inR]; omega

def nameCh (b : UInt8) : Bool := (decide (97 ≤ b.toNat) && decide (b.toNat ≤ 122)) || (decide (48 ≤ b.toNat) && decide (b.toNat ≤ 57))

/-- Every byte has p. -/
def allB (p : UInt8 → Bool) (s : ByteArray) : Bool := s.data.toList.all p
theorem take_snoc_bytes (s : ByteArray) (k : Nat) (h : k < s.size) : s.data.toList.take (k + 1) = s.data.toList.take k ++ [s[k]] := by
  rw [List.take_succ_eq_append_getElem (by simpa using h)]; rfl
theorem take_all_bytes (s : ByteArray) : s.data.toList.take s.size = s.data.toList := List.take_of_length_le (by simp)

theorem allB_snoc {s : ByteArray} {k : Nat} (p : UInt8 → Bool) (h : k < s.size) (ha : (s.data.toList.take k).all p = true) (hb : p s[k] = true) : (s.data.toList.take (k + 1)).all p = true := by
  rw [take_snoc_bytes s k h, List.all_append, ha]; simp [hb]
theorem allB_at {s : ByteArray} {k : Nat} (p : UInt8 → Bool) (h : k < s.size) (hb : p s[k] = false) : allB p s = false := by
  unfold allB
  rw [List.all_eq_false]
  exact ⟨s[k], by rw [← Array.mem_def]; exact Array.getElem_mem (xs := s.data) (by simpa using h), by simp [hb]⟩
theorem allB_end {s : ByteArray} {k : Nat} (p : UInt8 → Bool) (hk : k ≤ s.size) (h : ¬ k < s.size) (ha : (s.data.toList.take k).all p = true) : allB p s = true := by
  rw [show k = s.size by omega, take_all_bytes] at ha; exact ha
theorem allB_congr {p q : UInt8 → Bool} (h : ∀ b, p b = q b) (s : ByteArray) : allB p s = allB q s := by rw [show p = q from funext h]
def isNm (s : ByteArray) : Bool := inR s.size 1 12 && allB nameCh s

/-- What is left of a budget; -1 where it is spent. -/
def leftOf (left : Int) (n : Nat) : Int := if (n : Int) ≤ left then left - n else -1
theorem leftOf_neg {left : Int} {n : Nat} (h : leftOf left n < 0) : left < n := by unfold leftOf at h; split at h <;> omega
theorem leftOf_nn {left : Int} {n : Nat} (h : 0 ≤ leftOf left n) : (n : Int) ≤ left ∧ leftOf left n = left - n := by
  by_cases hc : (n : Int) ≤ left
  · rw [leftOf, if_pos hc] at h ⊢; exact ⟨hc, rfl⟩
  · rw [leftOf, if_neg hc] at h; omega

theorem leftOf_leftOf {left : Int} {a b : Nat} (h : 0 ≤ leftOf left a) : leftOf (leftOf left a) b = leftOf left (a + b) := by
  obtain ⟨h1, h2⟩ := leftOf_nn h
  rw [h2]
  unfold leftOf
  by_cases hc : (b : Int) ≤ left - a
  · rw [if_pos hc, if_pos (by omega)]; omega
  · rw [if_neg hc, if_neg (by omega)]

/-! ### words for memory -/
/-- The slice '.slice A n c' of elements of k cells reads as the cells xs; it lies below block B. -/
def Rd (w : World) (B k : Nat) (A : Option Addr) (n c : Nat) (xs : List Value) : Prop :=
  xs.length = n * k ∧ n ≤ c ∧ c ≤ maxLen ∧ (0 < n → ∃ b off, A = some ⟨b, off, none⟩ ∧ b < B ∧ ∀ j u, xs[j]? = some u → w.cell? ⟨b, off + j, none⟩ = some u)

section
variable {w w' : World} {B B' k n c : Nat} {A : Option Addr} {xs : List Value}
theorem Rd.at_ (h : Rd w B k A n c xs) {i : Nat} (hi : i < n) : ∃ b off, A = some ⟨b, off, none⟩ ∧ b < B ∧ ∀ j, j < k → ∃ u, xs[i * k + j]? = some u ∧ w.cell? ⟨b, off + i * k + j, none⟩ = some u := by
  obtain ⟨b, off, e, hb, hc⟩ := h.2.2.2 (by omega)
  refine ⟨b, off, e, hb, fun j hj => ?_⟩
  have hl : i * k + j < xs.length := by
    rw [h.1]
    have h1 : i * k + k ≤ n * k := by rw [← Nat.succ_mul]; exact Nat.mul_le_mul_right _ hi
    omega
  refine ⟨_, List.getElem?_eq_getElem hl, ?_⟩
  rw [Nat.add_assoc]
  exact hc _ _ (List.getElem?_eq_getElem hl)
theorem Rd.keep (h : Rd w B k A n c xs) (hk : ∀ p : Addr, p.block < B → w'.cell? p = w.cell? p) : Rd w' B k A n c xs :=
  ⟨h.1, h.2.1, h.2.2.1, fun hn => by
    obtain ⟨b, off, e, hb, hc⟩ := h.2.2.2 hn
    exact ⟨b, off, e, hb, fun j u hu => (hk _ hb).trans (hc j u hu)⟩⟩
theorem Rd.more (h : Rd w B k A n c xs) (hB : B ≤ B') : Rd w B' k A n c xs :=
  ⟨h.1, h.2.1, h.2.2.1, fun hn => by
    obtain ⟨b, off, e, hb, hc⟩ := h.2.2.2 hn
    exact ⟨b, off, e, by omega, hc⟩⟩
theorem Rd.below {D : Nat} (h : Rd w B k A n c xs) (hb : Below D w w') (hD : B ≤ D) : Rd w' B k A n c xs := h.keep fun _ hp => hb.cell (by omega)
end

/-- The cells of element i in a flat row. -/
theorem flat_get {α : Type} (enc : α → List Value) (k : Nat) (hk : ∀ x, (enc x).length = k) : ∀ (us : List α) (i j : Nat), j < k → (us.flatMap enc)[i * k + j]? = us[i]?.bind fun u => (enc u)[j]?
  | [], i, j, _ => by simp
  | u :: us, 0, j, h => by simp [List.flatMap_cons, List.getElem?_append, hk, h]
  | u :: us, i + 1, j, h => by
    rw [List.flatMap_cons, List.getElem?_append_right (by rw [hk, Nat.succ_mul]; omega), hk]
    rw [show (i + 1) * k + j - k = i * k + j by rw [Nat.succ_mul]; omega]
    simpa using flat_get enc k hk us i j h
theorem flat_len {α : Type} (enc : α → List Value) (k : Nat) (hk : ∀ x, (enc x).length = k) (us : List α) : (us.flatMap enc).length = us.length * k := by
  induction us with
  | nil => simp
  | cons u us ih => rw [List.flatMap_cons, List.length_append, hk, ih, List.length_cons, Nat.succ_mul]; omega

/-- What a struct slice's element reads as. -/
theorem Rd.elem {α : Type} {w : World} {B k n c : Nat} {A : Option Addr} {us : List α} {enc : α → List Value} (h : Rd w B k A n c (us.flatMap enc)) (hk : ∀ x, (enc x).length = k) (hn : us.length = n) {i : Nat} (hi : i < n) :
    ∃ b off, A = some ⟨b, off, none⟩ ∧ b < B ∧ ∀ j u, (enc (us[i]'(by omega)))[j]? = some u → w.cell? ⟨b, off + i * k + j, none⟩ = some u := by
  obtain ⟨b, off, e, hb, hc⟩ := h.at_ hi
  refine ⟨b, off, e, hb, fun j u hu => ?_⟩
  have hj : j < k := by rw [← hk (us[i]'(by omega))]; exact (List.getElem?_eq_some_iff.1 hu).1
  obtain ⟨u', h1, h2⟩ := hc j hj
  rw [flat_get enc k hk us i j hj, List.getElem?_eq_getElem (by omega : i < us.length)] at h1
  rw [h2, ← h1]
  simpa using hu

theorem bcell {W w1 : World} {B : Nat} (hb : Below B W w1) : (∀ b o, b < B → w1.cell? ⟨b, o, none⟩ = W.cell? ⟨b, o, none⟩) ∧ (∀ b o, b < B → w1.frozen? ⟨b, o, none⟩ = W.frozen? ⟨b, o, none⟩) :=
  ⟨fun b o h => hb.cell (p := ⟨b, o, none⟩) h, fun b o h => hb.frozen (p := ⟨b, o, none⟩) h⟩
theorem below_drewN {B : Nat} {a w : World} (h : Below B a w) (n : Nat) : Below B a (w.drewN n) := ⟨h.os, h.tape, h.output, h.size, h.block⟩
theorem blift {a w w' : World} {B : Nat} (h : Below B a w) (h' : Below w.heap.size w w') (hB : B ≤ w.heap.size) : Below B a w' := h.trans (h'.mono hB)
/-- A row of the call's own, read. -/
theorem own_rd {w : World} {base : Nat} {e : TypeId} {k n : Nat} {v : Value} {xs : List Value} (h : w.ownsRow base e k v n xs) :
    ∃ A c, v = .slice A n c ∧ Rd w w.heap.size k A n c xs ∧ (∀ b off, A = some ⟨b, off, none⟩ → base ≤ b ∧ off = 0) := by
  obtain ⟨hl, h2⟩ := h
  rcases h2 with ⟨rfl, rfl⟩ | ⟨g, cap, cur, rfl, hb, hg, hn, hc, hs, ht⟩
  · exact ⟨none, 0, rfl, ⟨hl, Nat.le_refl _, by unfold maxLen; omega, fun h => absurd h (by omega)⟩, fun _ _ h => by cases h⟩
  · refine ⟨some ⟨g, 0, none⟩, cap, rfl, ⟨hl, hn, hc, fun _ => ⟨g, 0, rfl, (Array.getElem?_eq_some_iff.1 hg).1, fun j u hu => ?_⟩⟩, fun b off h => by injection h with h; injection h with h1 h2; exact ⟨by omega, by omega⟩⟩
    rw [Nat.zero_add, cell_of_row w g j cur e (0, 0) hg]
    rw [← ht, List.getElem?_take] at hu
    split at hu
    · simpa using hu
    · cases hu
theorem own_rd' {w : World} {base : Nat} {e : TypeId} {k n n' c : Nat} {A : Option Addr} {xs : List Value} (h : w.ownsRow base e k (.slice A n' c) n xs) : n' = n ∧ Rd w w.heap.size k A n c xs := by
  obtain ⟨A', c', e, rd, _⟩ := own_rd h
  injection e with e1 e2 e3
  subst e1 e2 e3
  exact ⟨rfl, rd⟩
theorem own_rdn {w : World} {base : Nat} {e : TypeId} {k n c : Nat} {A : Option Addr} {xs : List Value} (h : w.ownsRow base e k (.slice A n c) n xs) : Rd w w.heap.size k A n c xs := (own_rd' h).2
theorem own_below {w w' : World} {base : Nat} {e : TypeId} {k n : Nat} {v : Value} {xs : List Value} (h : w.ownsRow base e k v n xs) {B : Nat} (hb : Below B w w') (hB : ∀ g, v.ownBlock = some g → g < B) : w'.ownsRow base e k v n xs := by
  refine ⟨h.1, ?_⟩
  rcases h.2 with hn | ⟨g, cap, cur, rfl, hbb, hgg, rest⟩
  · exact .inl hn
  · exact .inr ⟨g, cap, cur, rfl, hbb, by rw [hb.block g (hB g rfl)]; exact hgg, rest⟩
theorem own_grow {w w' : World} {base : Nat} {e : TypeId} {k n : Nat} {v : Value} {xs : List Value} (h : w.ownsRow base e k v n xs) (hb : Below w.heap.size w w') : w'.ownsRow base e k v n xs :=
  own_below h hb fun g hg => (h.lt g hg).2
theorem own_base {w : World} {base base' : Nat} {e : TypeId} {k n : Nat} {v : Value} {xs : List Value} (h : w.ownsRow base e k v n xs) (hb : base' ≤ base) : w.ownsRow base' e k v n xs := by
  refine ⟨h.1, ?_⟩
  rcases h.2 with hn | ⟨g, cap, cur, rfl, hbb, rest⟩
  · exact .inl hn
  · exact .inr ⟨g, cap, cur, rfl, by omega, rest⟩
theorem own_cell {w : World} {base : Nat} {e : TypeId} {k n g cap : Nat} {xs : List Value} (h : w.ownsRow base e k (.slice (some ⟨g, 0, none⟩) n cap) n xs) {j : Nat} (hj : j < n * k) : ∃ u, xs[j]? = some u ∧ w.cell? ⟨g, j, none⟩ = some u := by
  have hl : j < xs.length := by rw [h.1]; exact hj
  exact ⟨xs[j], List.getElem?_eq_getElem hl, by rw [h.cellAt j hj, List.getElem?_eq_getElem hl]⟩
theorem own_set {w : World} {base : Nat} {e : TypeId} {k n : Nat} {v : Value} {xs : List Value} (h : w.ownsRow base e k v n xs) {b o : Nat} (hb : b < base) (u : Value) : (w.setCell ⟨b, o, none⟩ u).ownsRow base e k v n xs := ownsRow_setCell_below h hb u
theorem below_set {B : Nat} {a w : World} (h : Below B a w) {b o : Nat} (hb : B ≤ b) (u : Value) : Below B a (w.setCell ⟨b, o, none⟩ u) := h.setCell hb u
/-- Values laid into a list from a place on. -/
def setL (cs : List Value) (p : Nat) : List Value → List Value
  | [] => cs
  | v :: vs => setL (cs.set p v) (p + 1) vs
theorem setL_len (vs : List Value) : ∀ (cs : List Value) (p : Nat), (setL cs p vs).length = cs.length := by
  induction vs with
  | nil => intro cs p; rfl
  | cons v vs ih => intro cs p; rw [setL, ih, List.length_set]
theorem setL_take (vs : List Value) : ∀ (cs : List Value) (p : Nat), p + vs.length ≤ cs.length → (setL cs p vs).take (p + vs.length) = cs.take p ++ vs := by
  induction vs with
  | nil => intro cs p _; simp [setL]
  | cons v vs ih =>
    intro cs p h
    simp only [List.length_cons] at h
    rw [setL, List.length_cons, show p + (vs.length + 1) = p + 1 + vs.length by omega, ih _ _ (by rw [List.length_set]; omega)]
    rw [List.take_succ_eq_append_getElem (by rw [List.length_set]; omega)]
    have ht : List.take p (cs.set p v) = List.take p cs := by
      refine List.ext_getElem? fun i => ?_
      rw [List.getElem?_take, List.getElem?_take]
      split
      · rw [List.getElem?_set_ne (by omega)]
      · rfl
    rw [ht]
    simp
theorem setL_drop (vs : List Value) : ∀ (cs : List Value) (p q : Nat), p + vs.length ≤ q → (setL cs p vs).drop q = cs.drop q := by
  induction vs with
  | nil => intro cs p q _; rfl
  | cons v vs ih =>
    intro cs p q h
    simp only [List.length_cons] at h
    rw [setL, ih _ _ _ (by omega), List.drop_set, if_pos (by omega)]
theorem take_flat {α : Type} {enc : α → List Value} {k : Nat} (hk : ∀ x, (enc x).length = k) {us : List α} {i : Nat} (hi : i < us.length) {cs : List Value} (hc : cs.take (i * k) = (us.take i).flatMap enc) (hl : cs.length = us.length * k) :
    (setL cs (i * k) (enc us[i])).take ((i + 1) * k) = (us.take (i + 1)).flatMap enc := by
  have h1 : i * k + (enc us[i]).length ≤ cs.length := by
    rw [hl, hk, ← Nat.succ_mul]; exact Nat.mul_le_mul_right _ hi
  have h2 := setL_take (enc us[i]) cs (i * k) h1
  rw [hk] at h2
  rw [Nat.succ_mul, h2, hc, List.take_succ_eq_append_getElem hi, List.flatMap_append]
  simp
theorem take_flat_end {α : Type} {enc : α → List Value} {k n : Nat} {us : List α} (hn : us.length = n) {cs : List Value} (hc : cs.take (n * k) = (us.take n).flatMap enc) (hl : cs.length = n * k) : cs = us.flatMap enc := by
  rw [List.take_of_length_le (by omega), List.take_of_length_le (by omega)] at hc
  exact hc
theorem own_len {w : World} {base : Nat} {e : TypeId} {k n : Nat} {v : Value} {xs : List Value} (h : w.ownsRow base e k v n xs) : xs.length = n * k := h.1
/-- A contract that leaves the world alone, in a quiet region. -/
theorem quietL {P : Program} {f : FuncId} {args : Array Value} {w : World} {n : Nat} {v : Value} (h : Calls P f args (w.drewN n) fun e w' => e = .returned v ∧ w.drewN n = w') :
    Calls P f args (w.drewN n) fun e w'' => e = .returned v ∧ ∃ m, w'' = w.drewN m := h.mono fun _ _ ⟨he, hm⟩ => ⟨he, n, hm.symm⟩
theorem quietL2 {P : Program} {f : FuncId} {args : Array Value} {w : World} {a n : Nat} {v : Value} (h : Calls P f args (w.drewN (a + n)) fun e w' => e = .returned v ∧ w.drewN (a + n) = w') :
    Calls P f args (w.drewN (a + n)) fun e w'' => e = .returned v ∧ ∃ m, w'' = w.drewN (a + m) := h.mono fun _ _ ⟨he, hm⟩ => ⟨he, n, hm.symm⟩
theorem mem_size {α : Type} {us : List α} {f : α → ByteArray} (h : ∀ u ∈ us, (f u).size ≤ maxLen) {i : Nat} (hi : i < us.length) : (f us[i]).size ≤ maxLen := h _ (List.getElem_mem hi)
end Go.Proofs.YtlmmeeeoljlgcaaDoor
namespace Go.Proofs.YtlmmeeeoljlgcaaDoor
open Go.RowKit

/-- Only the blocks from lo to hi, and new ones, have turned. -/
structure Chg (w w' : World) (lo hi : Nat) : Prop where
  os : w'.os = w.os
  tape : w'.tape = w.tape
  output : w'.output = w.output
  size : w.heap.size ≤ w'.heap.size
  block : ∀ k, k < w.heap.size → (k < lo ∨ hi ≤ k) → w'.heap[k]? = w.heap[k]?
section
variable {w w' a : World} {lo hi lo' hi' B : Nat}
theorem Chg.of_below (h : Below w.heap.size w w') : Chg w w' lo hi := ⟨h.os, h.tape, h.output, h.size, fun k hk _ => h.block k hk⟩
theorem Chg.below (h : Chg w w' lo hi) (hb : Below B a w) (h1 : B ≤ lo) (h2 : B ≤ w.heap.size) : Below B a w' :=
  ⟨h.os.trans hb.os, h.tape.trans hb.tape, h.output.trans hb.output, Nat.le_trans hb.size h.size, fun k hk => (h.block k (by omega) (.inl (by omega))).trans (hb.block k hk)⟩
theorem Chg.of_grown {row : Option Nat} (h : w.grownBy w' row) (hr : ∀ g, row = some g → lo ≤ g ∧ g < hi) : Chg w w' lo hi :=
  ⟨h.os, h.tape, h.output, h.size, fun k hk hd => h.block k hk (fun e => by have := hr k e.symm; omega)⟩
theorem Chg.refl (w : World) (lo hi : Nat) : Chg w w lo hi := ⟨rfl, rfl, rfl, Nat.le_refl _, fun _ _ _ => rfl⟩
theorem Chg.trans {c : World} (h : Chg w w' lo hi) (h' : Chg w' c lo hi) : Chg w c lo hi :=
  ⟨h'.os.trans h.os, h'.tape.trans h.tape, h'.output.trans h.output, Nat.le_trans h.size h'.size, fun k hk hd => (h'.block k (Nat.lt_of_lt_of_le hk h.size) hd).trans (h.block k hk hd)⟩
theorem Chg.mono (h : Chg w w' lo hi) (h1 : lo' ≤ lo) (h2 : hi ≤ hi') : Chg w w' lo' hi' := ⟨h.os, h.tape, h.output, h.size, fun k hk hd => h.block k hk (by omega)⟩
theorem Chg.set (h : Chg a w lo hi) {b o : Nat} (hb : (lo ≤ b ∧ b < hi) ∨ a.heap.size ≤ b) (u : Value) : Chg a (w.setCell ⟨b, o, none⟩ u) lo hi :=
  ⟨h.os, h.tape, h.output, by simpa [World.setCell] using h.size, fun k hk hd => (Below.heap_setCell w ⟨b, o, none⟩ u k (by show k ≠ b; omega)).trans (h.block k hk hd)⟩
theorem Chg.grow (h : Chg a w lo hi) (hb : Below w.heap.size w w') : Chg a w' lo hi :=
  ⟨hb.os.trans h.os, hb.tape.trans h.tape, hb.output.trans h.output, Nat.le_trans h.size hb.size, fun k hk hd => (hb.block k (Nat.lt_of_lt_of_le hk h.size)).trans (h.block k hk hd)⟩
end

/-- v owns a row of the blocks from lo to hi. -/
def Own (w : World) (lo hi : Nat) (e : TypeId) (k : Nat) (v : Value) (n : Nat) (xs : List Value) : Prop :=
  w.ownsRow lo e k v n xs ∧ (∀ g, v.ownBlock = some g → g < hi) ∧ hi ≤ w.heap.size
section
variable {w w' : World} {lo hi lo' hi' k n : Nat} {e : TypeId} {v : Value} {xs : List Value}
theorem Own.of (h : w.ownsRow lo e k v n xs) : Own w lo w.heap.size e k v n xs := ⟨h, fun g hg => (h.lt g hg).2, Nat.le_refl _⟩
theorem Own.grow (h : Own w lo hi e k v n xs) (hb : Below hi w w') : Own w' lo hi e k v n xs := ⟨own_below h.1 hb h.2.1, h.2.1, Nat.le_trans h.2.2 hb.size⟩
theorem Own.grow' (h : Own w lo hi e k v n xs) (hb : Below w.heap.size w w') : Own w' lo hi e k v n xs := h.grow (hb.mono h.2.2)
theorem Own.chg (h : Own w lo hi e k v n xs) (hc : Chg w w' lo' hi') (hd : hi ≤ lo' ∨ hi' ≤ lo) : Own w' lo hi e k v n xs := by
  refine ⟨⟨h.1.1, ?_⟩, h.2.1, Nat.le_trans h.2.2 hc.size⟩
  rcases h.1.2 with hn | ⟨g, cap, cur, rfl, hbb, hgg, rest⟩
  · exact .inl hn
  · have h2 := h.2.1 g rfl
    have h3 := h.2.2
    exact .inr ⟨g, cap, cur, rfl, hbb, by rw [hc.block g (by omega) (by omega)]; exact hgg, rest⟩
theorem Own.mono (h : Own w lo hi e k v n xs) (h1 : lo' ≤ lo) (h2 : hi ≤ hi') (h3 : hi' ≤ w.heap.size) : Own w lo' hi' e k v n xs := ⟨own_base h.1 h1, fun g hg => by have := h.2.1 g hg; omega, h3⟩
theorem Own.rd {A : Option Addr} {c : Nat} (h : Own w lo hi e k (.slice A n c) n xs) : Rd w w.heap.size k A n c xs := own_rdn h.1
theorem Own.lt (h : Own w lo hi e k v n xs) : ∀ g, v.ownBlock = some g → lo ≤ g ∧ g < hi := fun g hg => ⟨(h.1.lt g hg).1, h.2.1 g hg⟩
end

theorem Own.nil_ (w : World) (e : TypeId) (k : Nat) : Own w w.heap.size w.heap.size e k (.slice none 0 0) 0 [] :=
  ⟨World.ownsRow_nil _ _ _ _, (fun g h => by cases h), Nat.le_refl _⟩
theorem Own.at_ {w : World} {lo hi k n c : Nat} {e : TypeId} {A : Option Addr} {xs : List Value} (h : Own w lo hi e k (.slice A n c) n xs) (hn : 0 < n) : ∃ g, A = some ⟨g, 0, none⟩ ∧ lo ≤ g ∧ g < hi := by
  rcases h.1.2 with ⟨e1, rfl⟩ | ⟨g, cap, cur, e1, hb, _⟩
  · omega
  · injection e1 with e2
    subst e2
    exact ⟨g, rfl, hb, h.2.1 g rfl⟩
theorem Own.set_in {w : World} {lo hi k n c g : Nat} {e : TypeId} {xs : List Value} (h : Own w lo hi e k (.slice (some ⟨g, 0, none⟩) n c) n xs) {j : Nat} (u : Value) : Own (w.setCell ⟨g, j, none⟩ u) lo hi e k (.slice (some ⟨g, 0, none⟩) n c) n (xs.set j u) :=
  ⟨(h.1.stored j u).1, h.2.1, by simpa [World.setCell] using h.2.2⟩

theorem Own.set_far {w : World} {lo hi k n b o : Nat} {e : TypeId} {v : Value} {xs : List Value} (h : Own w lo hi e k v n xs) (hb : b < lo ∨ hi ≤ b) (u : Value) : Own (w.setCell ⟨b, o, none⟩ u) lo hi e k v n xs := by
  refine ⟨⟨h.1.1, ?_⟩, h.2.1, by simpa [World.setCell] using h.2.2⟩
  rcases h.1.2 with hn | ⟨g, cap, cur, rfl, hbb, hgg, rest⟩
  · exact .inl hn
  · have h2 := h.2.1 g rfl
    exact .inr ⟨g, cap, cur, rfl, hbb, by rw [Below.heap_setCell _ _ _ _ (by show g ≠ b; omega)]; exact hgg, rest⟩
theorem Chg.of_alloc {w w' : World} {lo hi : Nat} {o : Obj} (h : Chg (w.alloc o) w' lo hi) : Chg w w' lo hi :=
  ⟨h.os, h.tape, h.output, Nat.le_trans (by simp) h.size, fun k hk hd => (h.block k (by simp; omega) hd).trans (Below.heap_alloc w o k hk)⟩

/-- Block b is known whole. -/
def Bx (w : World) (b : Nat) (t : TypeId) (cs : Array Value) : Prop := w.heap[b]? = some (.cells cs t (0, 0))
section
variable {w w' : World} {b B lo hi : Nat} {t : TypeId} {cs : Array Value}
theorem Bx.lt (h : Bx w b t cs) : b < w.heap.size := (Array.getElem?_eq_some_iff.1 h).1
theorem Bx.cell (h : Bx w b t cs) (i : Nat) : w.cell? ⟨b, i, none⟩ = cs[i]? := cell_of_row w b i cs t (0, 0) h
theorem Bx.frozen (h : Bx w b t cs) (i : Nat) : w.frozen? ⟨b, i, none⟩ = false := by
  unfold Bx at h
  simp [World.frozen?, h]
theorem Bx.new (w : World) (t : TypeId) (cs : Array Value) : Bx (w.alloc (.cells cs t)) w.heap.size t cs := heap_alloc_new w _
theorem Bx.grow (h : Bx w b t cs) (hb : Below B w w') (h1 : b < B) : Bx w' b t cs := (hb.block b h1).trans h
theorem Bx.grow' (h : Bx w b t cs) (hb : Below w.heap.size w w') : Bx w' b t cs := h.grow hb h.lt
theorem Bx.chg (h : Bx w b t cs) (hc : Chg w w' lo hi) (hd : b < lo ∨ hi ≤ b) : Bx w' b t cs := (hc.block b h.lt hd).trans h
theorem Bx.alloc (h : Bx w b t cs) (o : Obj) : Bx (w.alloc o) b t cs := (Below.heap_alloc w o b h.lt).trans h
theorem Bx.set (h : Bx w b t cs) {i : Nat} (u : Value) : Bx (w.setCell ⟨b, i, none⟩ u) b t (cs.setIfInBounds i u) := by
  unfold Bx at h ⊢
  simp [World.setCell, Array.getElem?_modify, h]
theorem Bx.far (h : Bx w b t cs) {b' i : Nat} (hne : b ≠ b') (u : Value) : Bx (w.setCell ⟨b', i, none⟩ u) b t cs := (Below.heap_setCell w ⟨b', i, none⟩ u b hne).trans h
/-- A call behind one new block. -/
theorem step_alloc {o : Obj} (h : Below (w.alloc o).heap.size (w.alloc o) w') : Below w.heap.size w w' ∧ w.heap.size < w'.heap.size ∧ w'.heap[w.heap.size]? = some o := by
  have hs : (w.alloc o).heap.size = w.heap.size + 1 := by simp
  refine ⟨((Below.refl _ _).alloc (Nat.le_refl _) _).trans (h.mono (by omega)), by have := h.size; omega, ?_⟩
  rw [h.block _ (by omega)]
  exact heap_alloc_new w o
theorem below_alloc (w : World) (o : Obj) : Below w.heap.size w (w.alloc o) := (Below.refl _ _).alloc (Nat.le_refl _) _
end
theorem Rd.alloc {w : World} {k n c : Nat} {A : Option Addr} {xs : List Value} (h : Rd w w.heap.size k A n c xs) (o : Obj) : Rd (w.alloc o) (w.alloc o).heap.size k A n c xs := (h.below (below_alloc w o) (Nat.le_refl _)).more (by simp)
theorem Rd.grow {w w' : World} {k n c : Nat} {A : Option Addr} {xs : List Value} (h : Rd w w.heap.size k A n c xs) (hb : Below w.heap.size w w') : Rd w' w'.heap.size k A n c xs := (h.below hb (Nat.le_refl _)).more hb.size
theorem Own.drew {w : World} {lo hi k n : Nat} {e : TypeId} {v : Value} {xs : List Value} (h : Own w lo hi e k v n xs) : Own w.drew lo hi e k v n xs := h
theorem Own.alloc {w : World} {lo hi k n : Nat} {e : TypeId} {v : Value} {xs : List Value} (h : Own w lo hi e k v n xs) (o : Obj) : Own (w.alloc o) lo hi e k v n xs := h.grow' (below_alloc w o)
end Go.Proofs.YtlmmeeeoljlgcaaDoor
namespace Go.Proofs.YtlmmeeeoljlgcaaDoor
open Go.RowKit
set_option linter.unusedVariables false
theorem below_app {w w1 : World} {B n k : Nat} {e : TypeId} {v : Value} {xs : List Value} {o : Obj} (ho : w.ownsRow B e k v n xs) (hB : B ≤ w.heap.size) (hg : (w.alloc o).grownBy w1 v.ownBlock) : Below B w w1 :=
  ((Below.refl _ w).alloc hB _).grown hg (by simp; omega) (fun k hk => (ho.lt k hk).1)
theorem own_alloc {w : World} {B n k : Nat} {e : TypeId} {v : Value} {xs : List Value} {o : Obj} (ho : w.ownsRow B e k v n xs) : (w.alloc o).ownsRow B e k v n xs := own_below ho (below_alloc w o) (fun g hg => (ho.lt g hg).2)
theorem news_alloc {w : World} {cs : Array Value} {t : TypeId} (xs : List Value) (h : cs.toList = xs) : ∀ (j : Nat) (u : Value), xs[j]? = some u → (w.alloc (.cells cs t)).cell? ((⟨w.heap.size, 0, none⟩ : Addr).add j) = some u := by
  intro j u hu
  rw [Addr.add_lit, Nat.zero_add]
  rw [cell_of_row _ _ j cs t (0, 0) (heap_alloc_new w _)]
  subst h
  simpa using hu
theorem Bx.new' (w : World) (t : TypeId) (cs : Array Value) {b : Nat} (h : w.heap.size = b) : Bx (w.alloc (.cells cs t)) b t cs := by subst h; exact Bx.new w t cs
theorem own_at_ {w : World} {B k g n m cap : Nat} {e : TypeId} {xs : List Value} (h : w.ownsRow B e k (.slice (some ⟨g, 0, none⟩) m cap) n xs) (hn : 0 < n) (hlt : g < w.heap.size) : Own w g (g + 1) e k (.slice (some ⟨g, 0, none⟩) m cap) n xs ∧ B ≤ g := by
  rcases h.2 with ⟨_, h0⟩ | ⟨g', cap', cur, hv, hb, rest⟩
  · omega
  · have hg : g' = g := by injection hv with h1; injection h1 with h2; injection h2 with h3; exact h3.symm
    subst hg
    exact ⟨⟨⟨h.1, .inr ⟨g', cap', cur, hv, Nat.le_refl _, rest⟩⟩, fun g2 hg2 => by simp [Value.ownBlock] at hg2; omega, hlt⟩, hb⟩
theorem chg_app {w w1 : World} {B n k lo hi : Nat} {e : TypeId} {v : Value} {xs : List Value} {o : Obj} (ho : Own w lo hi e k v n xs) (hg : (w.alloc o).grownBy w1 v.ownBlock) : Chg w w1 lo hi :=
  (Chg.of_grown hg (fun g' hg' => ho.lt g' hg')).of_alloc
end Go.Proofs.YtlmmeeeoljlgcaaDoor
namespace Go.Proofs.YtlmmeeeoljlgcaaDoor
open Go.RowKit
set_option linter.unusedVariables false

/-- An entry: its blocks, what they hold, and what a walk may want to know of it. -/
structure Ent where
  S : Nat → Prop
  P : World → Prop
  loc : ∀ w w' : World, (∀ b, S b → w'.heap[b]? = w.heap[b]?) → P w → P w'
  K : Option Nat
  F : World → Prop
  fp : ∀ w, P w → F w
  kk : ∀ b, K = some b → S b

def cellsF (w : World) (b : Nat) : Nat → List Value → Prop
  | _, [] => True
  | i, v :: vs => w.cell? ⟨b, i, none⟩ = some v ∧ w.frozen? ⟨b, i, none⟩ = false ∧ cellsF w b (i + 1) vs
theorem cellsF_of {w : World} {b : Nat} {t : TypeId} {all : List Value} (h : w.heap[b]? = some (.cells all.toArray t (0, 0))) : ∀ (cs : List Value) (i : Nat), all.drop i = cs → cellsF w b i cs
  | [], _, _ => trivial
  | v :: vs, i, hd => by
    have hi : all[i]? = some v := by
      have := congrArg (·[0]?) hd
      simpa using this
    refine ⟨?_, ?_, cellsF_of h vs (i + 1) ?_⟩
    · rw [cell_of_row w b i _ t (0, 0) h]; simpa using hi
    · simp [World.frozen?, h]
    · have := congrArg List.tail hd
      rw [List.tail_drop] at this
      simpa using this
/-- A block that is known whole. -/
def box (b : Nat) (t : TypeId) (cs : List Value) : Ent :=
  ⟨fun x => x = b, fun w => w.heap[b]? = some (.cells cs.toArray t (0, 0)), fun w w' h hp => (h b rfl).trans hp, some b, fun w => b < w.heap.size ∧ cellsF w b 0 cs,
   fun w h => ⟨(Array.getElem?_eq_some_iff.1 h).1, cellsF_of h cs 0 rfl⟩, fun x h => by injection h with h; exact h.symm⟩
theorem row_loc {e : TypeId} {k n : Nat} {v : Value} {xs : List Value} (w w' : World) (h : ∀ b, v.ownBlock = some b → w'.heap[b]? = w.heap[b]?) (hp : w.ownsRow 0 e k v n xs) : w'.ownsRow 0 e k v n xs := by
  refine ⟨hp.1, ?_⟩
  rcases hp.2 with hn | ⟨g, cap, cur, rfl, hbb, hgg, rest⟩
  · exact .inl hn
  · exact .inr ⟨g, cap, cur, rfl, hbb, (h g rfl).trans hgg, rest⟩
/-- A slice of the call's own. -/
def row (e : TypeId) (k : Nat) (v : Value) (n : Nat) (xs : List Value) : Ent :=
  ⟨fun g => v.ownBlock = some g, fun w => w.ownsRow 0 e k v n xs, row_loc, none, fun _ => True, fun _ _ => trivial, fun _ h => by cases h⟩
/-- Any other thing. -/
def reg (S : Nat → Prop) (P : World → Prop) (loc : ∀ w w' : World, (∀ b, S b → w'.heap[b]? = w.heap[b]?) → P w → P w') : Ent := ⟨S, P, loc, none, fun _ => True, fun _ _ => trivial, fun _ h => by cases h⟩

structure Ent.Ok (e : Ent) (B : Nat) (w : World) : Prop where
  p : e.P w
  lt : ∀ b, e.S b → B ≤ b ∧ b < w.heap.size
def apart (e e' : Ent) : Prop := ∀ b, e.S b → ¬ e'.S b
theorem apart.symm {e e' : Ent} (h : apart e e') : apart e' e := fun b h1 h2 => h b h2 h1

/-- From w0 on the call has made L (and has left what was there). -/
structure Hp (w0 w : World) (L : List Ent) : Prop where
  b : Below w0.heap.size w0 w
  ok : ∀ e ∈ L, e.Ok w0.heap.size w
  ap : L.Pairwise apart

def Sz (w : World) (n : Nat) : Prop := w.heap.size = n
theorem Sz.base (w : World) : Sz w w.heap.size := rfl
theorem Sz.alloc {w : World} {o : Obj} {n : Nat} (h : Sz w n) : Sz (w.alloc o) (n + 1) := by unfold Sz at h ⊢; rw [World.size_alloc, h]
theorem Sz.set {w : World} {a : Addr} {v : Value} {n : Nat} (h : Sz w n) : Sz (w.setCell a v) n := by unfold Sz at h ⊢; simpa [World.setCell] using h
theorem Sz.drew {w : World} {n : Nat} (h : Sz w n) : Sz w.drew n := h
theorem Sz.drewN {w : World} {n m : Nat} (h : Sz w n) : Sz (w.drewN m) n := h

section
variable {w0 w w' : World} {L L' R : List Ent} {e e' : Ent} {i b j n k c m g cap : Nat} {t : TypeId} {v : Value} {xs ys cs : List Value} {A : Option Addr}

theorem Hp.nil (w : World) : Hp w w [] := ⟨Below.refl _ _, fun _ h => (by cases h), List.Pairwise.nil⟩
theorem Ent.Ok.keep {B : Nat} (h : e.Ok B w) (hs : w.heap.size ≤ w'.heap.size) (hb : ∀ b, e.S b → w'.heap[b]? = w.heap[b]?) : e.Ok B w' := ⟨e.loc w w' hb h.p, fun b hb' => ⟨(h.lt b hb').1, Nat.lt_of_lt_of_le (h.lt b hb').2 hs⟩⟩
theorem Hp.step (H : Hp w0 w L) (hb : Below w.heap.size w w') : Hp w0 w' L :=
  ⟨blift H.b hb H.b.size, fun e he => (H.ok e he).keep hb.size (fun b hb' => hb.block b ((H.ok e he).lt b hb').2), H.ap⟩
theorem Hp.drew (H : Hp w0 w L) : Hp w0 w.drew L := H.step (Below.refl _ w).drew
theorem Hp.drewN {a : Nat} (H : Hp w0 w L) : Hp w0 (w.drewN a) L := H.step (below_drewN (Below.refl _ w) a)
theorem Hp.allocO (H : Hp w0 w L) (o : Obj) : Hp w0 (w.alloc o) L := H.step (below_alloc w o)
theorem Hp.alloc (H : Hp w0 w L) (hs : Sz w n) : Hp w0 (w.alloc (.cells cs.toArray t)) (box n t cs :: L) := by
  have H1 := H.allocO (.cells cs.toArray t)
  unfold Sz at hs
  refine ⟨H1.b, fun e he => ?_, List.Pairwise.cons (fun e he x hx hx' => ?_) H1.ap⟩
  · rcases List.mem_cons.1 he with rfl | he
    · refine ⟨?_, fun x hx => ?_⟩
      · subst hs; exact heap_alloc_new w _
      · have hx : x = n := hx
        have := H.b.size
        rw [World.size_alloc]; omega
    · exact H1.ok e he
  · have hx : x = n := hx
    have := ((H.ok e he).lt x hx').2
    omega
theorem Hp.call (H : Hp w0 w L) (h : Hp w w' R) : Hp w0 w' (R ++ L) := by
  have H1 := H.step h.b
  refine ⟨H1.b, fun e he => ?_, ?_⟩
  · rcases List.mem_append.1 he with he | he
    · exact ⟨(h.ok e he).p, fun x hx => ⟨Nat.le_trans H.b.size ((h.ok e he).lt x hx).1, ((h.ok e he).lt x hx).2⟩⟩
    · exact H1.ok e he
  · rw [List.pairwise_append]
    refine ⟨h.ap, H.ap, fun a ha b' hb' x hx hx' => ?_⟩
    have h1 := ((h.ok a ha).lt x hx).1
    have h2 := ((H.ok b' hb').lt x hx').2
    omega
theorem set_pairwise (h : L.Pairwise apart) (hi : L[i]? = some e) (hp : ∀ e2 ∈ L, apart e e2 → apart e' e2) : (L.set i e').Pairwise apart := by
  rw [List.pairwise_iff_getElem] at h ⊢
  obtain ⟨hil, hie⟩ := List.getElem?_eq_some_iff.1 hi
  intro a b ha hb hab
  simp only [List.length_set] at ha hb
  rw [List.getElem_set, List.getElem_set]
  by_cases h1 : i = a
  · subst h1
    rw [if_pos rfl, if_neg (by omega)]
    refine hp _ (List.getElem_mem hb) ?_
    have := h i b ha hb hab
    rwa [hie] at this
  · rw [if_neg h1]
    by_cases h2 : i = b
    · subst h2
      rw [if_pos rfl]
      refine (hp _ (List.getElem_mem ha) ?_).symm
      have := h a i ha hb hab
      rw [hie] at this
      exact this.symm
    · rw [if_neg h2]; exact h a b ha hb hab
theorem Hp.mod (H : Hp w0 w L) (i : Nat) (e e' : Ent) (hi : L[i]? = some e) (hs : ∀ b, e'.S b → e.S b ∨ w.heap.size ≤ b) (hok : e'.P w') (hlt : ∀ b, e'.S b → b < w'.heap.size)
    (os : w'.os = w.os) (tape : w'.tape = w.tape) (output : w'.output = w.output) (size : w.heap.size ≤ w'.heap.size) (hch : ∀ b, b < w.heap.size → ¬ e.S b → w'.heap[b]? = w.heap[b]?) : Hp w0 w' (L.set i e') := by
  have hm : e ∈ L := List.mem_of_getElem? hi
  have hsz := H.b.size
  have hap : ∀ e2 ∈ L, apart e e2 → apart e' e2 := by
    intro e2 h2 ha x hx hx2
    rcases hs x hx with h3 | h3
    · exact ha x h3 hx2
    · have := ((H.ok e2 h2).lt x hx2).2; omega
  refine ⟨⟨os.trans H.b.os, tape.trans H.b.tape, output.trans H.b.output, Nat.le_trans hsz size, fun x hx => ?_⟩, fun e2 h2 => ?_, set_pairwise H.ap hi hap⟩
  · refine (hch x (by omega) (fun hx' => ?_)).trans (H.b.block x hx)
    have := ((H.ok e hm).lt x hx').1; omega
  · obtain ⟨a, ha, he2⟩ := List.getElem_of_mem h2
    simp only [List.length_set] at ha
    rw [List.getElem_set] at he2
    by_cases h1 : i = a
    · rw [if_pos h1] at he2
      subst he2
      refine ⟨hok, fun x hx => ⟨?_, hlt x hx⟩⟩
      rcases hs x hx with h3 | h3
      · exact ((H.ok e hm).lt x h3).1
      · omega
    · rw [if_neg h1] at he2
      subst he2
      refine (H.ok _ (List.getElem_mem ha)).keep size fun x hx => hch x ((H.ok _ (List.getElem_mem ha)).lt x hx).2 (fun hx' => ?_)
      have hp := H.ap
      rw [List.pairwise_iff_getElem] at hp
      obtain ⟨hil, hie⟩ := List.getElem?_eq_some_iff.1 hi
      rcases Nat.lt_or_gt_of_ne h1 with h3 | h3
      · have := hp i a hil ha h3 x (by rw [hie]; exact hx')
        exact this hx
      · have := hp a i ha hil h3 x hx
        rw [hie] at this
        exact this hx'
/-- What a store into block b makes of a list of entries. -/
def Upd (L : List Ent) (b j : Nat) (v : Value) (L' : List Ent) : Prop := ∃ i e e', L[i]? = some e ∧ L' = L.set i e' ∧ e.S b ∧ (∀ x, e'.S x → e.S x) ∧ ∀ w : World, e.P w → e'.P (w.setCell ⟨b, j, none⟩ v)
theorem Upd.here : Upd (box b t cs :: L) b j v (box b t (cs.set j v) :: L) := by
  refine ⟨0, box b t cs, box b t (cs.set j v), rfl, rfl, rfl, fun x h => h, fun w h => ?_⟩
  have h : Bx w b t cs.toArray := h
  have h2 := h.set (i := j) v
  show (w.setCell _ v).heap[b]? = some (.cells (cs.set j v).toArray t (0, 0))
  have h3 : (cs.set j v).toArray = cs.toArray.setIfInBounds j v := by simp
  rw [h3]; exact h2
theorem Upd.hereR : Upd (row t k (.slice (some ⟨b, 0, none⟩) n c) n xs :: L) b j v (row t k (.slice (some ⟨b, 0, none⟩) n c) n (xs.set j v) :: L) := by
  refine ⟨0, _, _, rfl, rfl, rfl, fun x h => h, fun w h => ?_⟩
  exact (World.ownsRow.stored h j v).1
theorem Upd.there (h : Upd L b j v L') : Upd (e :: L) b j v (e :: L') := by
  obtain ⟨i, e1, e2, h1, h2, h3⟩ := h
  exact ⟨i + 1, e1, e2, by simpa using h1, by rw [h2]; rfl, h3⟩
theorem Hp.set (H : Hp w0 w L) (hu : Upd L b j v L') : Hp w0 (w.setCell ⟨b, j, none⟩ v) L' := by
  obtain ⟨i, e1, e2, h1, rfl, h3, h4, h5⟩ := hu
  have hm : e1 ∈ L := List.mem_of_getElem? h1
  have hz : (w.setCell ⟨b, j, none⟩ v).heap.size = w.heap.size := by simp [World.setCell]
  refine H.mod i e1 e2 h1 (fun x hx => .inl (h4 x hx)) (h5 w (H.ok e1 hm).p) (fun x hx => ?_) rfl rfl rfl (by omega) (fun x hx hx' => Below.heap_setCell w ⟨b, j, none⟩ v x (fun e => hx' (by rw [e]; exact h3)))
  have := ((H.ok e1 hm).lt x (h4 x hx)).2
  omega

/-- Each box's facts. -/
def NeF (K : Option Nat) : List Ent → Prop
  | [] => True
  | e :: L => (match K, e.K with | some a, some b => a ≠ b ∧ b ≠ a | _, _ => True) ∧ NeF K L
def Facts (w0 w : World) : List Ent → Prop
  | [] => w0.heap.size ≤ w.heap.size
  | e :: L => e.F w ∧ (match e.K with | some a => w0.heap.size ≤ a | none => True) ∧ NeF e.K L ∧ Facts w0 w L
end
theorem Hp.rowAt {w0 w : World} {L : List Ent} {e : TypeId} {k n : Nat} {v : Value} {xs : List Value} (H : Hp w0 w L) (i : Nat) (hi : L[i]? = some (row e k v n xs)) : w.ownsRow w0.heap.size e k v n xs := by
  have h := H.ok _ (List.mem_of_getElem? hi)
  refine ⟨h.p.1, ?_⟩
  rcases h.p.2 with hn | ⟨g, cap, cur, rfl, hbb, hgg, rest⟩
  · exact .inl hn
  · exact .inr ⟨g, cap, cur, rfl, (h.lt g rfl).1, hgg, rest⟩
theorem Hp.rd {w0 w : World} {L : List Ent} {e : TypeId} {k n c : Nat} {A : Option Addr} {xs : List Value} (H : Hp w0 w L) (i : Nat) (hi : L[i]? = some (row e k (.slice A n c) n xs)) : Rd w w.heap.size k A n c xs := own_rdn (H.rowAt i hi)
theorem Hp.bx {w0 w : World} {L : List Ent} {t : TypeId} {b : Nat} {cs : List Value} (H : Hp w0 w L) (i : Nat) (hi : L[i]? = some (box b t cs)) : Bx w b t cs.toArray := (H.ok _ (List.mem_of_getElem? hi)).p
theorem Hp.news {w0 w : World} {L : List Ent} {t : TypeId} {b : Nat} {cs : List Value} (H : Hp w0 w L) (i : Nat) (hi : L[i]? = some (box b t cs)) : ∀ (j : Nat) (u : Value), cs[j]? = some u → w.cell? ((⟨b, 0, none⟩ : Addr).add j) = some u := by
  intro j u hu
  rw [Addr.add_lit, Nat.zero_add, (H.bx i hi).cell j]
  simpa using hu
def loA : Option Addr → Nat → Nat
  | none, s => s
  | some a, _ => a.block
def hiA : Option Addr → Nat → Nat
  | none, s => s
  | some a, _ => a.block + 1
theorem Hp.own {w0 w : World} {L : List Ent} {e : TypeId} {k n c : Nat} {A : Option Addr} {xs : List Value} (H : Hp w0 w L) (i : Nat) (hi : L[i]? = some (row e k (.slice A n c) n xs)) : Own w (loA A w.heap.size) (hiA A w.heap.size) e k (.slice A n c) n xs ∧ w0.heap.size ≤ loA A w.heap.size := by
  have h := H.rowAt i hi
  have hz := H.b.size
  rcases h.2 with ⟨hn, h0⟩ | ⟨g, cap, cur, hv, hbb, hgg, rest⟩
  · injection hn with h1 h2 h3
    subst h1
    exact ⟨⟨⟨h.1, .inl ⟨by rw [← h2, ← h3] at *, h0⟩⟩, (fun g hg => by cases hg), Nat.le_refl _⟩, hz⟩
  · injection hv with h1 h2 h3
    subst h1 h3
    have := (Array.getElem?_eq_some_iff.1 hgg).1
    exact ⟨⟨⟨h.1, .inr ⟨g, c, cur, rfl, Nat.le_refl _, hgg, rest⟩⟩, (fun g' hg' => by simp [Value.ownBlock] at hg'; subst hg'; exact Nat.lt_succ_self _), this⟩, hbb⟩
theorem Hp.ofOwn {w w' : World} {lo hi : Nat} {e : TypeId} {k n : Nat} {v : Value} {xs : List Value} (hb : Below w.heap.size w w') (h : Own w' lo hi e k v n xs) (hl : w.heap.size ≤ lo) : Hp w w' [row e k v n xs] := by
  refine ⟨hb, fun e' he => ?_, List.pairwise_singleton _ _⟩
  rw [List.mem_singleton.1 he]
  refine ⟨own_base h.1 (Nat.zero_le _), fun g hg => ?_⟩
  have h1 := h.1.lt g hg
  exact ⟨by omega, h1.2⟩
theorem Hp.ofBelow {w w' : World} (hb : Below w.heap.size w w') : Hp w w' [] := ⟨hb, fun _ h => (by cases h), List.Pairwise.nil⟩
/-- Behind a call that turns one row. -/
theorem Hp.chg {w0 w w' : World} {L : List Ent} {e e' : TypeId} {k n k' n' c c' g : Nat} {xs ys : List Value} (H : Hp w0 w L) (i : Nat) (hi : L[i]? = some (row e k (.slice (some ⟨g, 0, none⟩) n c) n xs))
    (h : Own w' g (g + 1) e' k' (.slice (some ⟨g, 0, none⟩) n' c') n' ys) (hc : Chg w w' g (g + 1)) : Hp w0 w' (L.set i (row e' k' (.slice (some ⟨g, 0, none⟩) n' c') n' ys)) := by
  have hg := (H.ok _ (List.mem_of_getElem? hi)).lt g rfl
  have hsz := hc.size
  refine H.mod i _ _ hi (fun x hx => .inl ?_) (own_base h.1 (Nat.zero_le _)) (fun x hx => ?_) hc.os hc.tape hc.output hc.size (fun x hx hx' => hc.block x hx ?_)
  · have hx : (Value.slice (some ⟨g, 0, none⟩) n' c').ownBlock = some x := hx
    simp [Value.ownBlock] at hx
    subst hx; rfl
  · have hx : (Value.slice (some ⟨g, 0, none⟩) n' c').ownBlock = some x := hx
    simp [Value.ownBlock] at hx
    omega
  · have hx' : ¬ (Value.slice (some ⟨g, 0, none⟩) n c).ownBlock = some x := hx'
    simp [Value.ownBlock] at hx'
    omega
/-- Behind an append. -/
theorem Hp.app {w0 w w' : World} {L : List Ent} {e : TypeId} {k n m cap g B H0 : Nat} {v : Value} {xs ys : List Value} (H : Hp w0 w L) (i : Nat) (hi : L[i]? = some (row e k v n xs))
    (hown : w'.ownsRow B e k (.slice (some ⟨g, 0, none⟩) m cap) m ys) (hg : w.grownBy w' v.ownBlock) (hat : v.ownBlock = some g ∨ g = H0) (hH : w.heap.size = H0) (hlt : g < w'.heap.size) : Hp w0 w' (L.set i (row e k (.slice (some ⟨g, 0, none⟩) m cap) m ys)) := by
  refine H.mod i _ _ hi (fun x hx => ?_) (own_base hown (Nat.zero_le _)) (fun x hx => ?_) hg.os hg.tape hg.output hg.size (fun x hx hx' => hg.block x hx (fun h => hx' h.symm))
  · have hx : (Value.slice (some ⟨g, 0, none⟩) m cap).ownBlock = some x := hx
    simp [Value.ownBlock] at hx
    subst hx
    rcases hat with h | h
    · exact .inl h
    · exact .inr (by omega)
  · have hx : (Value.slice (some ⟨g, 0, none⟩) m cap).ownBlock = some x := hx
    simp [Value.ownBlock] at hx
    omega
/-- An entry seen otherwise. -/
theorem Hp.as {w0 w : World} {L : List Ent} {e : Ent} (H : Hp w0 w L) (i : Nat) (e' : Ent) (hi : L[i]? = some e) (hs : ∀ b, e'.S b → e.S b) (hok : e.P w → e'.P w) : Hp w0 w (L.set i e') := by
  have hm := H.ok _ (List.mem_of_getElem? hi)
  exact H.mod i _ _ hi (fun x hx => .inl (hs x hx)) (hok hm.p) (fun x hx => (hm.lt x (hs x hx)).2) rfl rfl rfl (Nat.le_refl _) (fun _ _ _ => rfl)
theorem Hp.boxRow {w0 w : World} {L : List Ent} {t : TypeId} {b : Nat} {cs : List Value} (H : Hp w0 w L) (i k n c : Nat) (hi : L[i]? = some (box b t cs)) (hl : cs.length = c * k) (hn : n ≤ c) (hc : c ≤ maxLen) : Hp w0 w (L.set i (row t k (.slice (some ⟨b, 0, none⟩) n c) n (cs.take (n * k)))) := by
  refine H.as i _ hi (fun x hx => ?_) (fun hp => ?_)
  · have hx : (Value.slice (some ⟨b, 0, none⟩) n c).ownBlock = some x := hx
    simp [Value.ownBlock] at hx
    exact hx.symm
  · have hk : n * k ≤ c * k := Nat.mul_le_mul_right _ hn
    exact ⟨by rw [List.length_take, hl]; omega, .inr ⟨b, c, cs.toArray, rfl, Nat.zero_le _, hp, hn, hc, by simpa using hl, rfl⟩⟩
theorem Hp.cons_nilRow {w0 w : World} {L : List Ent} (H : Hp w0 w L) (e : TypeId) (k : Nat) : Hp w0 w (row e k (.slice none 0 0) 0 [] :: L) := by
  refine ⟨H.b, fun e' he => ?_, List.Pairwise.cons (fun e' _ x hx _ => ?_) H.ap⟩
  · rcases List.mem_cons.1 he with rfl | he
    · exact ⟨World.ownsRow_nil _ _ _ _, fun x hx => by cases hx⟩
    · exact H.ok e' he
  · cases hx
/-- Some of the entries, in some order. -/
theorem Hp.pick {w0 w : World} {L : List Ent} (H : Hp w0 w L) (is : List Nat) (hn : is.Nodup) : Hp w0 w (is.filterMap fun i => L[i]?) := by
  refine ⟨H.b, fun e he => ?_, ?_⟩
  · obtain ⟨i, _, hi⟩ := List.mem_filterMap.1 he
    exact H.ok e (List.mem_of_getElem? hi)
  · rw [List.pairwise_filterMap]
    refine List.Pairwise.imp ?_ hn
    intro a b hab e1 h1 e2 h2
    have hp := H.ap
    rw [List.pairwise_iff_getElem] at hp
    obtain ⟨ha, rfl⟩ := List.getElem?_eq_some_iff.1 h1
    obtain ⟨hb, rfl⟩ := List.getElem?_eq_some_iff.1 h2
    rcases Nat.lt_or_gt_of_ne hab with h3 | h3
    · exact hp a b ha hb h3
    · exact (hp b a hb ha h3).symm
theorem Hp.give {w0 w : World} {L R : List Ent} (H : Hp w0 w L) (is : List Nat) (hn : is.Nodup) (hR : (is.filterMap fun i => L[i]?) = R) : Hp w0 w R := hR ▸ H.pick is hn
theorem neF_of {e : Ent} {L : List Ent} (ha : ∀ e' ∈ L, apart e e') : NeF e.K L := by
  induction L with
  | nil => trivial
  | cons e' L ih =>
    refine ⟨?_, ih (fun x hx => ha x (List.mem_cons_of_mem _ hx))⟩
    split
    · rename_i a b h1 h2
      have h3 : a ≠ b := fun h => ha e' List.mem_cons_self a (e.kk a h1) (by rw [h]; exact e'.kk b h2)
      exact ⟨h3, h3.symm⟩
    · trivial
theorem Hp.facts {w0 w : World} {L : List Ent} (H : Hp w0 w L) : Facts w0 w L := by
  obtain ⟨hb, hok, hap⟩ := H
  induction L with
  | nil => exact hb.size
  | cons e L ih =>
    have h1 := hok e List.mem_cons_self
    refine ⟨e.fp w h1.p, ?_, neF_of (List.pairwise_cons.1 hap).1, ih (fun x hx => hok x (List.mem_cons_of_mem _ hx)) (List.pairwise_cons.1 hap).2⟩
    split
    · rename_i a h2; exact (h1.lt a (e.kk a h2)).1
    · trivial

/-! ### by what they are, not by their places -/
section
variable {w0 w w' : World} {L L' R : List Ent} {e e' x : Ent} {t : TypeId} {k n m c c' cap g B H0 : Nat} {v : Value} {A : Option Addr} {xs ys : List Value}
theorem Hp.rowM (H : Hp w0 w L) (h : row t k v n xs ∈ L) : w.ownsRow w0.heap.size t k v n xs := by
  obtain ⟨i, hi, he⟩ := List.getElem_of_mem h
  exact H.rowAt i (by rw [List.getElem?_eq_getElem hi, he])
theorem Hp.rdM (H : Hp w0 w L) (h : row t k (.slice A n c) n xs ∈ L) : Rd w w.heap.size k A n c xs := own_rdn (H.rowM h)
def Del (L : List Ent) (e : Ent) (L' : List Ent) : Prop := List.Perm (e :: L') L
theorem Del.here : Del (e :: L) e L := List.Perm.refl _
theorem Del.there (h : Del L e L') : Del (x :: L) e (x :: L') := (List.Perm.swap x e L').trans (List.Perm.cons x h)
def Sel (L R : List Ent) : Prop := ∃ X, List.Perm (R ++ X) L
theorem Sel.nil : Sel L [] := ⟨L, List.Perm.refl _⟩
theorem Sel.cons (h : Del L e L') (h' : Sel L' R) : Sel L (e :: R) := by
  obtain ⟨X, hX⟩ := h'
  exact ⟨X, (List.Perm.cons e hX).trans h⟩
theorem Hp.sel (H : Hp w0 w L) (h : Sel L R) : Hp w0 w R := by
  obtain ⟨X, hX⟩ := h
  refine ⟨H.b, fun e he => H.ok e (hX.subset (List.mem_append_left _ he)), ?_⟩
  have := (List.Perm.pairwise_iff (R := apart) (fun h => h.symm) hX).2 H.ap
  exact (List.pairwise_append.1 this).1
def Rep (L : List Ent) (e e' : Ent) (L' : List Ent) : Prop := ∃ i : Nat, L[i]? = some e ∧ L' = L.set i e'
theorem Rep.here : Rep (e :: L) e e' (e' :: L) := ⟨0, rfl, rfl⟩
theorem Rep.there (h : Rep L e e' L') : Rep (x :: L) e e' (x :: L') := by
  obtain ⟨i, h1, h2⟩ := h
  exact ⟨i + 1, by simpa using h1, by rw [h2]; rfl⟩
theorem Rep.mem (h : Rep L e e' L') : e ∈ L := by
  obtain ⟨i, h1, _⟩ := h
  exact List.mem_of_getElem? h1
theorem Hp.appM (H : Hp w0 w L) (hr : Rep L (row t k v n xs) (row t k (.slice (some ⟨g, 0, none⟩) m cap) m ys) L')
    (hown : w'.ownsRow B t k (.slice (some ⟨g, 0, none⟩) m cap) m ys) (hg : w.grownBy w' v.ownBlock) (hat : v.ownBlock = some g ∨ g = H0) (hH : w.heap.size = H0) (hlt : g < w'.heap.size) : Hp w0 w' L' := by
  obtain ⟨i, h1, rfl⟩ := hr
  exact H.app i h1 hown hg hat hH hlt
theorem Hp.ownM (H : Hp w0 w L) (h : row t k (.slice A n c) n xs ∈ L) : Own w (loA A w.heap.size) (hiA A w.heap.size) t k (.slice A n c) n xs ∧ w0.heap.size ≤ loA A w.heap.size := by
  obtain ⟨i, hi, he⟩ := List.getElem_of_mem h
  exact H.own i (by rw [List.getElem?_eq_getElem hi, he])
/-- Behind a call that turns one row, nil or not. -/
theorem Hp.chgM (H : Hp w0 w L) (hr : Rep L (row t k (.slice A n c) n xs) (row t k (.slice A m c') m ys) L')
    (h : Own w' (loA A w.heap.size) (hiA A w.heap.size) t k (.slice A m c') m ys) (hc : Chg w w' (loA A w.heap.size) (hiA A w.heap.size)) : Hp w0 w' L' := by
  obtain ⟨i, hi, rfl⟩ := hr
  have hm := H.ok _ (List.mem_of_getElem? hi)
  refine H.mod i _ _ hi (fun x hx => .inl ?_) (own_base h.1 (Nat.zero_le _)) (fun x hx => (h.1.lt x hx).2) hc.os hc.tape hc.output hc.size (fun x hx hx' => hc.block x hx ?_)
  · cases A with
    | none => cases hx
    | some a => exact hx
  · cases A with
    | none => show x < w.heap.size ∨ w.heap.size ≤ x; exact .inl hx
    | some a =>
      have hx' : ¬ (some a.block = some x) := hx'
      simp at hx'
      show x < a.block ∨ a.block + 1 ≤ x
      omega
theorem Hp.consOwn {lo hi : Nat} (H : Hp w w' R) (h : Own w' lo hi t k v n xs) (hl : w.heap.size ≤ lo) (hd : ∀ e ∈ R, ∀ b, e.S b → b < lo ∨ hi ≤ b) : Hp w w' (row t k v n xs :: R) := by
  refine ⟨H.b, fun e' he => ?_, List.Pairwise.cons (fun e' he x hx hx' => ?_) H.ap⟩
  · rcases List.mem_cons.1 he with rfl | he
    · refine ⟨own_base h.1 (Nat.zero_le _), fun g hg => ?_⟩
      have h1 := h.1.lt g hg
      exact ⟨by omega, h1.2⟩
    · exact H.ok e' he
  · have h1 := h.lt x hx
    have := hd e' he x hx'
    omega
end
theorem Hp.newsM {w0 w : World} {L : List Ent} {t : TypeId} {b : Nat} {cs : List Value} (H : Hp w0 w L) (h : box b t cs ∈ L) : ∀ (j : Nat) (u : Value), cs[j]? = some u → w.cell? ((⟨b, 0, none⟩ : Addr).add j) = some u := by
  obtain ⟨i, hi, he⟩ := List.getElem_of_mem h
  exact H.news i (by rw [List.getElem?_eq_getElem hi, he])
theorem Hp.rdL {w0 w : World} {L : List Ent} {t : TypeId} {k n m c : Nat} {A : Option Addr} {xs : List Value} (H : Hp w0 w L) (h : row t k (.slice A n c) n xs ∈ L) (hn : n = m) : Rd w w.heap.size k A m c xs := by subst hn; exact H.rdM h
theorem leftOf_le {left : Int} (n : Nat) (h : 0 ≤ left) : leftOf left n ≤ left := by
  unfold leftOf
  split <;> omega
end Go.Proofs.YtlmmeeeoljlgcaaDoor
namespace Go.Proofs.YtlmmeeeoljlgcaaDoor
open Go.RowKit
set_option linter.unusedVariables false
/-- Many entries as one. -/
def bund (R : List Ent) : Ent :=
  reg (fun b => ∃ e ∈ R, e.S b) (fun w => (∀ e ∈ R, e.P w) ∧ R.Pairwise apart) (fun w w' h hp => ⟨fun e he => e.loc w w' (fun b hb => h b ⟨e, he, hb⟩) (hp.1 e he), hp.2⟩)
theorem Hp.pack {w0 w : World} (L R : List Ent) (H : Hp w0 w (L ++ R)) : Hp w0 w (L ++ [bund R]) := by
  obtain ⟨h1, h2, h3⟩ := List.pairwise_append.1 H.ap
  refine ⟨H.b, fun e he => ?_, List.pairwise_append.2 ⟨h1, List.pairwise_singleton _ _, fun a ha b' hb' x hx hx' => ?_⟩⟩
  · rcases List.mem_append.1 he with he | he
    · exact H.ok e (List.mem_append_left _ he)
    · rw [List.mem_singleton.1 he]
      exact ⟨⟨fun e he => (H.ok e (List.mem_append_right _ he)).p, h2⟩, fun b hb => by obtain ⟨e, he, hs⟩ := hb; exact (H.ok e (List.mem_append_right _ he)).lt b hs⟩
  · rw [List.mem_singleton.1 hb'] at hx'
    obtain ⟨e, he, hs⟩ := hx'
    exact h3 a ha e he x hx hs
theorem Hp.unpack {w0 w : World} (L R : List Ent) (H : Hp w0 w (L ++ [bund R])) : Hp w0 w (L ++ R) := by
  obtain ⟨h1, -, h3⟩ := List.pairwise_append.1 H.ap
  have hb : (bund R).Ok w0.heap.size w := H.ok _ (List.mem_append_right _ List.mem_cons_self)
  have hp : (∀ e ∈ R, e.P w) ∧ R.Pairwise apart := hb.p
  refine ⟨H.b, fun e he => ?_, List.pairwise_append.2 ⟨h1, hp.2, fun a ha b' hb' x hx hx' => ?_⟩⟩
  · rcases List.mem_append.1 he with he | he
    · exact H.ok e (List.mem_append_left _ he)
    · exact ⟨hp.1 e he, fun b hs => hb.lt b ⟨e, he, hs⟩⟩
  · exact h3 a ha _ List.mem_cons_self x hx ⟨b', hb', hx'⟩
inductive Unb : List Ent → List Ent → Prop
  | last {R : List Ent} : Unb [bund R] R
  | cons {e : Ent} {L L' : List Ent} : Unb L L' → Unb (e :: L) (e :: L')
theorem Unb.form {L L' : List Ent} (h : Unb L L') : ∃ M R, L = M ++ [bund R] ∧ L' = M ++ R := by
  induction h with
  | last => exact ⟨[], _, rfl, rfl⟩
  | cons h ih => obtain ⟨M, R, rfl, rfl⟩ := ih; exact ⟨_ :: M, R, rfl, rfl⟩
theorem Hp.unb {w0 w : World} {L L' : List Ent} (H : Hp w0 w L) (h : Unb L L') : Hp w0 w L' := by
  obtain ⟨M, R, rfl, rfl⟩ := h.form
  exact H.unpack M R
end Go.Proofs.YtlmmeeeoljlgcaaDoor
