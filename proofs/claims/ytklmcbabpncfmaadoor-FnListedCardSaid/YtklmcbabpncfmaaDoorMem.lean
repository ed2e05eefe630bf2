/- Words for memory: what one step may turn, rows and boxes of the call's own. No condition. -/
import Derived.Test.YtklmcbabpncfmaaDoorPure
namespace Go.Proofs.YtklmcbabpncfmaaDoor
open Go.RowKit

/-- Only the blocks from lo to hi, and new ones, have turned. -/
structure Chg (w w' : World) (lo hi : Nat) : Prop where
  os : w'.os = w.os
  tape : w'.tape = w.tape
  output : w'.output = w.output
  size : w.heap.size ≤ w'.heap.size
  block : ∀ k, k < w.heap.size → (k < lo ∨ hi ≤ k) → w'.heap[k]? = w.heap[k]?
section
variable {w w' a : World} {lo hi lo' hi' B : Nat}
theorem Chg.of_below (h : Below w.heap.size w w') : Chg w w' lo hi := ⟨h.os, h.tape, h.output, h.size, fun k hk _ => h.block k hk⟩
theorem Chg.below (h : Chg w w' lo hi) (hb : Below B a w) (h1 : B ≤ lo) (h2 : B ≤ w.heap.size) : Below B a w' :=
  ⟨h.os.trans hb.os, h.tape.trans hb.tape, h.output.trans hb.output, Nat.le_trans hb.size h.size, fun k hk => (h.block k (by omega) (.inl (by omega))).trans (hb.block k hk)⟩
theorem Chg.of_grown {row : Option Nat} (h : w.grownBy w' row) (hr : ∀ g, row = some g → lo ≤ g ∧ g < hi) : Chg w w' lo hi :=
  ⟨h.os, h.tape, h.output, h.size, fun k hk hd => h.block k hk (fun e => by have := hr k e.symm; omega)⟩
theorem Chg.refl (w : World) (lo hi : Nat) : Chg w w lo hi := ⟨rfl, rfl, rfl, Nat.le_refl _, fun _ _ _ => rfl⟩
theorem Chg.trans {c : World} (h : Chg w w' lo hi) (h' : Chg w' c lo hi) : Chg w c lo hi :=
  ⟨h'.os.trans h.os, h'.tape.trans h.tape, h'.output.trans h.output, Nat.le_trans h.size h'.size, fun k hk hd => (h'.block k (Nat.lt_of_lt_of_le hk h.size) hd).trans (h.block k hk hd)⟩
theorem Chg.mono (h : Chg w w' lo hi) (h1 : lo' ≤ lo) (h2 : hi ≤ hi') : Chg w w' lo' hi' := ⟨h.os, h.tape, h.output, h.size, fun k hk hd => h.block k hk (by omega)⟩
theorem Chg.set (h : Chg a w lo hi) {b o : Nat} (hb : (lo ≤ b ∧ b < hi) ∨ a.heap.size ≤ b) (u : Value) : Chg a (w.setCell ⟨b, o, none⟩ u) lo hi :=
  ⟨h.os, h.tape, h.output, by simpa [World.setCell] using h.size, fun k hk hd => (Below.heap_setCell w ⟨b, o, none⟩ u k (by show k ≠ b; omega)).trans (h.block k hk hd)⟩
theorem Chg.grow (h : Chg a w lo hi) (hb : Below w.heap.size w w') : Chg a w' lo hi :=
  ⟨hb.os.trans h.os, hb.tape.trans h.tape, hb.output.trans h.output, Nat.le_trans h.size hb.size, fun k hk hd => (hb.block k (Nat.lt_of_lt_of_le hk h.size)).trans (h.block k hk hd)⟩
end

/-- v owns a row of the blocks from lo to hi. -/
def Own (w : World) (lo hi : Nat) (e : TypeId) (k : Nat) (v : Value) (n : Nat) (xs : List Value) : Prop :=
  w.ownsRow lo e k v n xs ∧ (∀ g, v.ownBlock = some g → g < hi) ∧ hi ≤ w.heap.size
section
variable {w w' : World} {lo hi lo' hi' k n : Nat} {e : TypeId} {v : Value} {xs : List Value}
theorem Own.of (h : w.ownsRow lo e k v n xs) : Own w lo w.heap.size e k v n xs := ⟨h, fun g hg => (h.lt g hg).2, Nat.le_refl _⟩
theorem Own.grow (h : Own w lo hi e k v n xs) (hb : Below hi w w') : Own w' lo hi e k v n xs := ⟨own_below h.1 hb h.2.1, h.2.1, Nat.le_trans h.2.2 hb.size⟩
theorem Own.grow' (h : Own w lo hi e k v n xs) (hb : Below w.heap.size w w') : Own w' lo hi e k v n xs := h.grow (hb.mono h.2.2)
theorem Own.chg (h : Own w lo hi e k v n xs) (hc : Chg w w' lo' hi') (hd : hi ≤ lo' ∨ hi' ≤ lo) : Own w' lo hi e k v n xs := by
  refine ⟨⟨h.1.1, ?_⟩, h.2.1, Nat.le_trans h.2.2 hc.size⟩
  rcases h.1.2 with hn | ⟨g, cap, cur, rfl, hbb, hgg, rest⟩
  · exact .inl hn
  · have h2 := h.2.1 g rfl
    have h3 := h.2.2
    exact .inr ⟨g, cap, cur, rfl, hbb, by rw [hc.block g (by omega) (by omega)]; exact hgg, rest⟩
theorem Own.mono (h : Own w lo hi e k v n xs) (h1 : lo' ≤ lo) (h2 : hi ≤ hi') (h3 : hi' ≤ w.heap.size) : Own w lo' hi' e k v n xs := ⟨own_base h.1 h1, fun g hg => by have := h.2.1 g hg; omega, h3⟩
theorem Own.rd {A : Option Addr} {c : Nat} (h : Own w lo hi e k (.slice A n c) n xs) : Rd w w.heap.size k A n c xs := own_rdn h.1
theorem Own.lt (h : Own w lo hi e k v n xs) : ∀ g, v.ownBlock = some g → lo ≤ g ∧ g < hi := fun g hg => ⟨(h.1.lt g hg).1, h.2.1 g hg⟩
end

theorem Own.nil_ (w : World) (e : TypeId) (k : Nat) : Own w w.heap.size w.heap.size e k (.slice none 0 0) 0 [] :=
  ⟨World.ownsRow_nil _ _ _ _, (fun g h => by cases h), Nat.le_refl _⟩
theorem Own.at_ {w : World} {lo hi k n c : Nat} {e : TypeId} {A : Option Addr} {xs : List Value} (h : Own w lo hi e k (.slice A n c) n xs) (hn : 0 < n) : ∃ g, A = some ⟨g, 0, none⟩ ∧ lo ≤ g ∧ g < hi := by
  rcases h.1.2 with ⟨e1, rfl⟩ | ⟨g, cap, cur, e1, hb, _⟩
  · omega
  · injection e1 with e2
    subst e2
    exact ⟨g, rfl, hb, h.2.1 g rfl⟩
theorem Own.set_in {w : World} {lo hi k n c g : Nat} {e : TypeId} {xs : List Value} (h : Own w lo hi e k (.slice (some ⟨g, 0, none⟩) n c) n xs) {j : Nat} (u : Value) : Own (w.setCell ⟨g, j, none⟩ u) lo hi e k (.slice (some ⟨g, 0, none⟩) n c) n (xs.set j u) :=
  ⟨(h.1.stored j u).1, h.2.1, by simpa [World.setCell] using h.2.2⟩

theorem Own.set_far {w : World} {lo hi k n b o : Nat} {e : TypeId} {v : Value} {xs : List Value} (h : Own w lo hi e k v n xs) (hb : b < lo ∨ hi ≤ b) (u : Value) : Own (w.setCell ⟨b, o, none⟩ u) lo hi e k v n xs := by
  refine ⟨⟨h.1.1, ?_⟩, h.2.1, by simpa [World.setCell] using h.2.2⟩
  rcases h.1.2 with hn | ⟨g, cap, cur, rfl, hbb, hgg, rest⟩
  · exact .inl hn
  · have h2 := h.2.1 g rfl
    exact .inr ⟨g, cap, cur, rfl, hbb, by rw [Below.heap_setCell _ _ _ _ (by show g ≠ b; omega)]; exact hgg, rest⟩
theorem Chg.of_alloc {w w' : World} {lo hi : Nat} {o : Obj} (h : Chg (w.alloc o) w' lo hi) : Chg w w' lo hi :=
  ⟨h.os, h.tape, h.output, Nat.le_trans (by simp) h.size, fun k hk hd => (h.block k (by simp; omega) hd).trans (Below.heap_alloc w o k hk)⟩

/-- Block b is known whole. -/
def Bx (w : World) (b : Nat) (t : TypeId) (cs : Array Value) : Prop := w.heap[b]? = some (.cells cs t (0, 0))
section
variable {w w' : World} {b B lo hi : Nat} {t : TypeId} {cs : Array Value}
theorem Bx.lt (h : Bx w b t cs) : b < w.heap.size := (Array.getElem?_eq_some_iff.1 h).1
theorem Bx.cell (h : Bx w b t cs) (i : Nat) : w.cell? ⟨b, i, none⟩ = cs[i]? := cell_of_row w b i cs t (0, 0) h
theorem Bx.frozen (h : Bx w b t cs) (i : Nat) : w.frozen? ⟨b, i, none⟩ = false := by
  unfold Bx at h
  simp [World.frozen?, h]
theorem Bx.new (w : World) (t : TypeId) (cs : Array Value) : Bx (w.alloc (.cells cs t)) w.heap.size t cs := heap_alloc_new w _
theorem Bx.grow (h : Bx w b t cs) (hb : Below B w w') (h1 : b < B) : Bx w' b t cs := (hb.block b h1).trans h
theorem Bx.grow' (h : Bx w b t cs) (hb : Below w.heap.size w w') : Bx w' b t cs := h.grow hb h.lt
theorem Bx.chg (h : Bx w b t cs) (hc : Chg w w' lo hi) (hd : b < lo ∨ hi ≤ b) : Bx w' b t cs := (hc.block b h.lt hd).trans h
theorem Bx.alloc (h : Bx w b t cs) (o : Obj) : Bx (w.alloc o) b t cs := (Below.heap_alloc w o b h.lt).trans h
theorem Bx.set (h : Bx w b t cs) {i : Nat} (u : Value) : Bx (w.setCell ⟨b, i, none⟩ u) b t (cs.setIfInBounds i u) := by
  unfold Bx at h ⊢
  simp [World.setCell, Array.getElem?_modify, h]
theorem Bx.far (h : Bx w b t cs) {b' i : Nat} (hne : b ≠ b') (u : Value) : Bx (w.setCell ⟨b', i, none⟩ u) b t cs := (Below.heap_setCell w ⟨b', i, none⟩ u b hne).trans h
/-- A call behind one new block. -/
theorem step_alloc {o : Obj} (h : Below (w.alloc o).heap.size (w.alloc o) w') : Below w.heap.size w w' ∧ w.heap.size < w'.heap.size ∧ w'.heap[w.heap.size]? = some o := by
  have hs : (w.alloc o).heap.size = w.heap.size + 1 := by simp
  refine ⟨((Below.refl _ _).alloc (Nat.le_refl _) _).trans (h.mono (by omega)), by have := h.size; omega, ?_⟩
  rw [h.block _ (by omega)]
  exact heap_alloc_new w o
theorem below_alloc (w : World) (o : Obj) : Below w.heap.size w (w.alloc o) := (Below.refl _ _).alloc (Nat.le_refl _) _
end
theorem Rd.alloc {w : World} {k n c : Nat} {A : Option Addr} {xs : List Value} (h : Rd w w.heap.size k A n c xs) (o : Obj) : Rd (w.alloc o) (w.alloc o).heap.size k A n c xs := (h.below (below_alloc w o) (Nat.le_refl _)).more (by simp)
theorem Rd.grow {w w' : World} {k n c : Nat} {A : Option Addr} {xs : List Value} (h : Rd w w.heap.size k A n c xs) (hb : Below w.heap.size w w') : Rd w' w'.heap.size k A n c xs := (h.below hb (Nat.le_refl _)).more hb.size
theorem Own.drew {w : World} {lo hi k n : Nat} {e : TypeId} {v : Value} {xs : List Value} (h : Own w lo hi e k v n xs) : Own w.drew lo hi e k v n xs := h
theorem Own.alloc {w : World} {lo hi k n : Nat} {e : TypeId} {v : Value} {xs : List Value} (h : Own w lo hi e k v n xs) (o : Obj) : Own (w.alloc o) lo hi e k v n xs := h.grow' (below_alloc w o)
end Go.Proofs.YtklmcbabpncfmaaDoor
