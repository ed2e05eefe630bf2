/- A footprint: a list of what a call has made, each apart from the others; what each step leaves of it. No condition. -/
import Derived.Test.YtklmcbabpncfmaaDoorAppend
namespace Go.Proofs.YtklmcbabpncfmaaDoor
open Go.RowKit
set_option linter.unusedVariables false

/-- An entry: its blocks, what they hold, and what a walk may want to know of it. -/
structure Ent where
  S : Nat → Prop
  P : World → Prop
  loc : ∀ w w' : World, (∀ b, S b → w'.heap[b]? = w.heap[b]?) → P w → P w'
  K : Option Nat
  F : World → Prop
  fp : ∀ w, P w → F w
  kk : ∀ b, K = some b → S b

def cellsF (w : World) (b : Nat) : Nat → List Value → Prop
  | _, [] => True
  | i, v :: vs => w.cell? ⟨b, i, none⟩ = some v ∧ w.frozen? ⟨b, i, none⟩ = false ∧ cellsF w b (i + 1) vs
theorem cellsF_of {w : World} {b : Nat} {t : TypeId} {all : List Value} (h : w.heap[b]? = some (.cells all.toArray t (0, 0))) : ∀ (cs : List Value) (i : Nat), all.drop i = cs → cellsF w b i cs
  | [], _, _ => trivial
  | v :: vs, i, hd => by
    have hi : all[i]? = some v := by
      have := congrArg (·[0]?) hd
      simpa using this
    refine ⟨?_, ?_, cellsF_of h vs (i + 1) ?_⟩
    · rw [cell_of_row w b i _ t (0, 0) h]; simpa using hi
    · simp [World.frozen?, h]
    · have := congrArg List.tail hd
      rw [List.tail_drop] at this
      simpa using this
/-- A block that is known whole. -/
def box (b : Nat) (t : TypeId) (cs : List Value) : Ent :=
  ⟨fun x => x = b, fun w => w.heap[b]? = some (.cells cs.toArray t (0, 0)), fun w w' h hp => (h b rfl).trans hp, some b, fun w => b < w.heap.size ∧ cellsF w b 0 cs,
   fun w h => ⟨(Array.getElem?_eq_some_iff.1 h).1, cellsF_of h cs 0 rfl⟩, fun x h => by injection h with h; exact h.symm⟩
theorem row_loc {e : TypeId} {k n : Nat} {v : Value} {xs : List Value} (w w' : World) (h : ∀ b, v.ownBlock = some b → w'.heap[b]? = w.heap[b]?) (hp : w.ownsRow 0 e k v n xs) : w'.ownsRow 0 e k v n xs := by
  refine ⟨hp.1, ?_⟩
  rcases hp.2 with hn | ⟨g, cap, cur, rfl, hbb, hgg, rest⟩
  · exact .inl hn
  · exact .inr ⟨g, cap, cur, rfl, hbb, (h g rfl).trans hgg, rest⟩
/-- A slice of the call's own. -/
def row (e : TypeId) (k : Nat) (v : Value) (n : Nat) (xs : List Value) : Ent :=
  ⟨fun g => v.ownBlock = some g, fun w => w.ownsRow 0 e k v n xs, row_loc, none, fun _ => True, fun _ _ => trivial, fun _ h => by cases h⟩
/-- Any other thing. -/
def reg (S : Nat → Prop) (P : World → Prop) (loc : ∀ w w' : World, (∀ b, S b → w'.heap[b]? = w.heap[b]?) → P w → P w') : Ent := ⟨S, P, loc, none, fun _ => True, fun _ _ => trivial, fun _ h => by cases h⟩

structure Ent.Ok (e : Ent) (B : Nat) (w : World) : Prop where
  p : e.P w
  lt : ∀ b, e.S b → B ≤ b ∧ b < w.heap.size
def apart (e e' : Ent) : Prop := ∀ b, e.S b → ¬ e'.S b
theorem apart.symm {e e' : Ent} (h : apart e e') : apart e' e := fun b h1 h2 => h b h2 h1

/-- From w0 on the call has made L (and has left what was there). -/
structure Hp (w0 w : World) (L : List Ent) : Prop where
  b : Below w0.heap.size w0 w
  ok : ∀ e ∈ L, e.Ok w0.heap.size w
  ap : L.Pairwise apart

def Sz (w : World) (n : Nat) : Prop := w.heap.size = n
theorem Sz.base (w : World) : Sz w w.heap.size := rfl
theorem Sz.alloc {w : World} {o : Obj} {n : Nat} (h : Sz w n) : Sz (w.alloc o) (n + 1) := by unfold Sz at h ⊢; rw [World.size_alloc, h]
theorem Sz.set {w : World} {a : Addr} {v : Value} {n : Nat} (h : Sz w n) : Sz (w.setCell a v) n := by unfold Sz at h ⊢; simpa [World.setCell] using h
theorem Sz.drew {w : World} {n : Nat} (h : Sz w n) : Sz w.drew n := h
theorem Sz.drewN {w : World} {n m : Nat} (h : Sz w n) : Sz (w.drewN m) n := h

section
variable {w0 w w' : World} {L L' R : List Ent} {e e' : Ent} {i b j n k c m g cap : Nat} {t : TypeId} {v : Value} {xs ys cs : List Value} {A : Option Addr}

theorem Hp.nil (w : World) : Hp w w [] := ⟨Below.refl _ _, fun _ h => (by cases h), List.Pairwise.nil⟩
theorem Ent.Ok.keep {B : Nat} (h : e.Ok B w) (hs : w.heap.size ≤ w'.heap.size) (hb : ∀ b, e.S b → w'.heap[b]? = w.heap[b]?) : e.Ok B w' := ⟨e.loc w w' hb h.p, fun b hb' => ⟨(h.lt b hb').1, Nat.lt_of_lt_of_le (h.lt b hb').2 hs⟩⟩
theorem Hp.step (H : Hp w0 w L) (hb : Below w.heap.size w w') : Hp w0 w' L :=
  ⟨blift H.b hb H.b.size, fun e he => (H.ok e he).keep hb.size (fun b hb' => hb.block b ((H.ok e he).lt b hb').2), H.ap⟩
theorem Hp.drew (H : Hp w0 w L) : Hp w0 w.drew L := H.step (Below.refl _ w).drew
theorem Hp.drewN {a : Nat} (H : Hp w0 w L) : Hp w0 (w.drewN a) L := H.step (below_drewN (Below.refl _ w) a)
theorem Hp.allocO (H : Hp w0 w L) (o : Obj) : Hp w0 (w.alloc o) L := H.step (below_alloc w o)
theorem Hp.alloc (H : Hp w0 w L) (hs : Sz w n) : Hp w0 (w.alloc (.cells cs.toArray t)) (box n t cs :: L) := by
  have H1 := H.allocO (.cells cs.toArray t)
  unfold Sz at hs
  refine ⟨H1.b, fun e he => ?_, List.Pairwise.cons (fun e he x hx hx' => ?_) H1.ap⟩
  · rcases List.mem_cons.1 he with rfl | he
    · refine ⟨?_, fun x hx => ?_⟩
      · subst hs; exact heap_alloc_new w _
      · have hx : x = n := hx
        have := H.b.size
        rw [World.size_alloc]; omega
    · exact H1.ok e he
  · have hx : x = n := hx
    have := ((H.ok e he).lt x hx').2
    omega
theorem Hp.call (H : Hp w0 w L) (h : Hp w w' R) : Hp w0 w' (R ++ L) := by
  have H1 := H.step h.b
  refine ⟨H1.b, fun e he => ?_, ?_⟩
  · rcases List.mem_append.1 he with he | he
    · exact ⟨(h.ok e he).p, fun x hx => ⟨Nat.le_trans H.b.size ((h.ok e he).lt x hx).1, ((h.ok e he).lt x hx).2⟩⟩
    · exact H1.ok e he
  · rw [List.pairwise_append]
    refine ⟨h.ap, H.ap, fun a ha b' hb' x hx hx' => ?_⟩
    have h1 := ((h.ok a ha).lt x hx).1
    have h2 := ((H.ok b' hb').lt x hx').2
    omega
theorem set_pairwise (h : L.Pairwise apart) (hi : L[i]? = some e) (hp : ∀ e2 ∈ L, apart e e2 → apart e' e2) : (L.set i e').Pairwise apart := by
  rw [List.pairwise_iff_getElem] at h ⊢
  obtain ⟨hil, hie⟩ := List.getElem?_eq_some_iff.1 hi
  intro a b ha hb hab
  simp only [List.length_set] at ha hb
  rw [List.getElem_set, List.getElem_set]
  by_cases h1 : i = a
  · subst h1
    rw [if_pos rfl, if_neg (by omega)]
    refine hp _ (List.getElem_mem hb) ?_
    have := h i b ha hb hab
    rwa [hie] at this
  · rw [if_neg h1]
    by_cases h2 : i = b
    · subst h2
      rw [if_pos rfl]
      refine (hp _ (List.getElem_mem ha) ?_).symm
      have := h a i ha hb hab
      rw [hie] at this
      exact this.symm
    · rw [if_neg h2]; exact h a b ha hb hab
theorem Hp.mod (H : Hp w0 w L) (i : Nat) (e e' : Ent) (hi : L[i]? = some e) (hs : ∀ b, e'.S b → e.S b ∨ w.heap.size ≤ b) (hok : e'.P w') (hlt : ∀ b, e'.S b → b < w'.heap.size)
    (os : w'.os = w.os) (tape : w'.tape = w.tape) (output : w'.output = w.output) (size : w.heap.size ≤ w'.heap.size) (hch : ∀ b, b < w.heap.size → ¬ e.S b → w'.heap[b]? = w.heap[b]?) : Hp w0 w' (L.set i e') := by
  have hm : e ∈ L := List.mem_of_getElem? hi
  have hsz := H.b.size
  have hap : ∀ e2 ∈ L, apart e e2 → apart e' e2 := by
    intro e2 h2 ha x hx hx2
    rcases hs x hx with h3 | h3
    · exact ha x h3 hx2
    · have := ((H.ok e2 h2).lt x hx2).2; omega
  refine ⟨⟨os.trans H.b.os, tape.trans H.b.tape, output.trans H.b.output, Nat.le_trans hsz size, fun x hx => ?_⟩, fun e2 h2 => ?_, set_pairwise H.ap hi hap⟩
  · refine (hch x (by omega) (fun hx' => ?_)).trans (H.b.block x hx)
    have := ((H.ok e hm).lt x hx').1; omega
  · obtain ⟨a, ha, he2⟩ := List.getElem_of_mem h2
    simp only [List.length_set] at ha
    rw [List.getElem_set] at he2
    by_cases h1 : i = a
    · rw [if_pos h1] at he2
      subst he2
      refine ⟨hok, fun x hx => ⟨?_, hlt x hx⟩⟩
      rcases hs x hx with h3 | h3
      · exact ((H.ok e hm).lt x h3).1
      · omega
    · rw [if_neg h1] at he2
      subst he2
      refine (H.ok _ (List.getElem_mem ha)).keep size fun x hx => hch x ((H.ok _ (List.getElem_mem ha)).lt x hx).2 (fun hx' => ?_)
      have hp := H.ap
      rw [List.pairwise_iff_getElem] at hp
      obtain ⟨hil, hie⟩ := List.getElem?_eq_some_iff.1 hi
      rcases Nat.lt_or_gt_of_ne h1 with h3 | h3
      · have := hp i a hil ha h3 x (by rw [hie]; exact hx')
        exact this hx
      · have := hp a i ha hil h3 x hx
        rw [hie] at this
        exact this hx'
/-- What a store into block b makes of a list of entries. -/
def Upd (L : List Ent) (b j : Nat) (v : Value) (L' : List Ent) : Prop := ∃ i e e', L[i]? = some e ∧ L' = L.set i e' ∧ e.S b ∧ (∀ x, e'.S x → e.S x) ∧ ∀ w : World, e.P w → e'.P (w.setCell ⟨b, j, none⟩ v)
theorem Upd.here : Upd (box b t cs :: L) b j v (box b t (cs.set j v) :: L) := by
  refine ⟨0, box b t cs, box b t (cs.set j v), rfl, rfl, rfl, fun x h => h, fun w h => ?_⟩
  have h : Bx w b t cs.toArray := h
  have h2 := h.set (i := j) v
  show (w.setCell _ v).heap[b]? = some (.cells (cs.set j v).toArray t (0, 0))
  have h3 : (cs.set j v).toArray = cs.toArray.setIfInBounds j v := by simp
  rw [h3]; exact h2
theorem Upd.hereR : Upd (row t k (.slice (some ⟨b, 0, none⟩) n c) n xs :: L) b j v (row t k (.slice (some ⟨b, 0, none⟩) n c) n (xs.set j v) :: L) := by
  refine ⟨0, _, _, rfl, rfl, rfl, fun x h => h, fun w h => ?_⟩
  exact (World.ownsRow.stored h j v).1
theorem Upd.there (h : Upd L b j v L') : Upd (e :: L) b j v (e :: L') := by
  obtain ⟨i, e1, e2, h1, h2, h3⟩ := h
  exact ⟨i + 1, e1, e2, by simpa using h1, by rw [h2]; rfl, h3⟩
theorem Hp.set (H : Hp w0 w L) (hu : Upd L b j v L') : Hp w0 (w.setCell ⟨b, j, none⟩ v) L' := by
  obtain ⟨i, e1, e2, h1, rfl, h3, h4, h5⟩ := hu
  have hm : e1 ∈ L := List.mem_of_getElem? h1
  have hz : (w.setCell ⟨b, j, none⟩ v).heap.size = w.heap.size := by simp [World.setCell]
  refine H.mod i e1 e2 h1 (fun x hx => .inl (h4 x hx)) (h5 w (H.ok e1 hm).p) (fun x hx => ?_) rfl rfl rfl (by omega) (fun x hx hx' => Below.heap_setCell w ⟨b, j, none⟩ v x (fun e => hx' (by rw [e]; exact h3)))
  have := ((H.ok e1 hm).lt x (h4 x hx)).2
  omega

/-- Each box's facts. -/
def NeF (K : Option Nat) : List Ent → Prop
  | [] => True
  | e :: L => (match K, e.K with | some a, some b => a ≠ b ∧ b ≠ a | _, _ => True) ∧ NeF K L
def Facts (w0 w : World) : List Ent → Prop
  | [] => w0.heap.size ≤ w.heap.size
  | e :: L => e.F w ∧ (match e.K with | some a => w0.heap.size ≤ a | none => True) ∧ NeF e.K L ∧ Facts w0 w L
end
theorem Hp.rowAt {w0 w : World} {L : List Ent} {e : TypeId} {k n : Nat} {v : Value} {xs : List Value} (H : Hp w0 w L) (i : Nat) (hi : L[i]? = some (row e k v n xs)) : w.ownsRow w0.heap.size e k v n xs := by
  have h := H.ok _ (List.mem_of_getElem? hi)
  refine ⟨h.p.1, ?_⟩
  rcases h.p.2 with hn | ⟨g, cap, cur, rfl, hbb, hgg, rest⟩
  · exact .inl hn
  · exact .inr ⟨g, cap, cur, rfl, (h.lt g rfl).1, hgg, rest⟩
theorem Hp.rd {w0 w : World} {L : List Ent} {e : TypeId} {k n c : Nat} {A : Option Addr} {xs : List Value} (H : Hp w0 w L) (i : Nat) (hi : L[i]? = some (row e k (.slice A n c) n xs)) : Rd w w.heap.size k A n c xs := own_rdn (H.rowAt i hi)
theorem Hp.bx {w0 w : World} {L : List Ent} {t : TypeId} {b : Nat} {cs : List Value} (H : Hp w0 w L) (i : Nat) (hi : L[i]? = some (box b t cs)) : Bx w b t cs.toArray := (H.ok _ (List.mem_of_getElem? hi)).p
theorem Hp.news {w0 w : World} {L : List Ent} {t : TypeId} {b : Nat} {cs : List Value} (H : Hp w0 w L) (i : Nat) (hi : L[i]? = some (box b t cs)) : ∀ (j : Nat) (u : Value), cs[j]? = some u → w.cell? ((⟨b, 0, none⟩ : Addr).add j) = some u := by
  intro j u hu
  rw [Addr.add_lit, Nat.zero_add, (H.bx i hi).cell j]
  simpa using hu
def loA : Option Addr → Nat → Nat
  | none, s => s
  | some a, _ => a.block
def hiA : Option Addr → Nat → Nat
  | none, s => s
  | some a, _ => a.block + 1
theorem Hp.own {w0 w : World} {L : List Ent} {e : TypeId} {k n c : Nat} {A : Option Addr} {xs : List Value} (H : Hp w0 w L) (i : Nat) (hi : L[i]? = some (row e k (.slice A n c) n xs)) : Own w (loA A w.heap.size) (hiA A w.heap.size) e k (.slice A n c) n xs ∧ w0.heap.size ≤ loA A w.heap.size := by
  have h := H.rowAt i hi
  have hz := H.b.size
  rcases h.2 with ⟨hn, h0⟩ | ⟨g, cap, cur, hv, hbb, hgg, rest⟩
  · injection hn with h1 h2 h3
    subst h1
    exact ⟨⟨⟨h.1, .inl ⟨by rw [← h2, ← h3] at *, h0⟩⟩, (fun g hg => by cases hg), Nat.le_refl _⟩, hz⟩
  · injection hv with h1 h2 h3
    subst h1 h3
    have := (Array.getElem?_eq_some_iff.1 hgg).1
    exact ⟨⟨⟨h.1, .inr ⟨g, c, cur, rfl, Nat.le_refl _, hgg, rest⟩⟩, (fun g' hg' => by simp [Value.ownBlock] at hg'; subst hg'; exact Nat.lt_succ_self _), this⟩, hbb⟩
theorem Hp.ofOwn {w w' : World} {lo hi : Nat} {e : TypeId} {k n : Nat} {v : Value} {xs : List Value} (hb : Below w.heap.size w w') (h : Own w' lo hi e k v n xs) (hl : w.heap.size ≤ lo) : Hp w w' [row e k v n xs] := by
  refine ⟨hb, fun e' he => ?_, List.pairwise_singleton _ _⟩
  rw [List.mem_singleton.1 he]
  refine ⟨own_base h.1 (Nat.zero_le _), fun g hg => ?_⟩
  have h1 := h.1.lt g hg
  exact ⟨by omega, h1.2⟩
theorem Hp.ofBelow {w w' : World} (hb : Below w.heap.size w w') : Hp w w' [] := ⟨hb, fun _ h => (by cases h), List.Pairwise.nil⟩
/-- Behind a call that turns one row. -/
theorem Hp.chg {w0 w w' : World} {L : List Ent} {e e' : TypeId} {k n k' n' c c' g : Nat} {xs ys : List Value} (H : Hp w0 w L) (i : Nat) (hi : L[i]? = some (row e k (.slice (some ⟨g, 0, none⟩) n c) n xs))
    (h : Own w' g (g + 1) e' k' (.slice (some ⟨g, 0, none⟩) n' c') n' ys) (hc : Chg w w' g (g + 1)) : Hp w0 w' (L.set i (row e' k' (.slice (some ⟨g, 0, none⟩) n' c') n' ys)) := by
  have hg := (H.ok _ (List.mem_of_getElem? hi)).lt g rfl
  have hsz := hc.size
  refine H.mod i _ _ hi (fun x hx => .inl ?_) (own_base h.1 (Nat.zero_le _)) (fun x hx => ?_) hc.os hc.tape hc.output hc.size (fun x hx hx' => hc.block x hx ?_)
  · have hx : (Value.slice (some ⟨g, 0, none⟩) n' c').ownBlock = some x := hx
    simp [Value.ownBlock] at hx
    subst hx; rfl
  · have hx : (Value.slice (some ⟨g, 0, none⟩) n' c').ownBlock = some x := hx
    simp [Value.ownBlock] at hx
    omega
  · have hx' : ¬ (Value.slice (some ⟨g, 0, none⟩) n c).ownBlock = some x := hx'
    simp [Value.ownBlock] at hx'
    omega
/-- Behind an append. -/
theorem Hp.app {w0 w w' : World} {L : List Ent} {e : TypeId} {k n m cap g B H0 : Nat} {v : Value} {xs ys : List Value} (H : Hp w0 w L) (i : Nat) (hi : L[i]? = some (row e k v n xs))
    (hown : w'.ownsRow B e k (.slice (some ⟨g, 0, none⟩) m cap) m ys) (hg : w.grownBy w' v.ownBlock) (hat : v.ownBlock = some g ∨ g = H0) (hH : w.heap.size = H0) (hlt : g < w'.heap.size) : Hp w0 w' (L.set i (row e k (.slice (some ⟨g, 0, none⟩) m cap) m ys)) := by
  refine H.mod i _ _ hi (fun x hx => ?_) (own_base hown (Nat.zero_le _)) (fun x hx => ?_) hg.os hg.tape hg.output hg.size (fun x hx hx' => hg.block x hx (fun h => hx' h.symm))
  · have hx : (Value.slice (some ⟨g, 0, none⟩) m cap).ownBlock = some x := hx
    simp [Value.ownBlock] at hx
    subst hx
    rcases hat with h | h
    · exact .inl h
    · exact .inr (by omega)
  · have hx : (Value.slice (some ⟨g, 0, none⟩) m cap).ownBlock = some x := hx
    simp [Value.ownBlock] at hx
    omega
/-- An entry seen otherwise. -/
theorem Hp.as {w0 w : World} {L : List Ent} {e : Ent} (H : Hp w0 w L) (i : Nat) (e' : Ent) (hi : L[i]? = some e) (hs : ∀ b, e'.S b → e.S b) (hok : e.P w → e'.P w) : Hp w0 w (L.set i e') := by
  have hm := H.ok _ (List.mem_of_getElem? hi)
  exact H.mod i _ _ hi (fun x hx => .inl (hs x hx)) (hok hm.p) (fun x hx => (hm.lt x (hs x hx)).2) rfl rfl rfl (Nat.le_refl _) (fun _ _ _ => rfl)
theorem Hp.boxRow {w0 w : World} {L : List Ent} {t : TypeId} {b : Nat} {cs : List Value} (H : Hp w0 w L) (i k n c : Nat) (hi : L[i]? = some (box b t cs)) (hl : cs.length = c * k) (hn : n ≤ c) (hc : c ≤ maxLen) : Hp w0 w (L.set i (row t k (.slice (some ⟨b, 0, none⟩) n c) n (cs.take (n * k)))) := by
  refine H.as i _ hi (fun x hx => ?_) (fun hp => ?_)
  · have hx : (Value.slice (some ⟨b, 0, none⟩) n c).ownBlock = some x := hx
    simp [Value.ownBlock] at hx
    exact hx.symm
  · have hk : n * k ≤ c * k := Nat.mul_le_mul_right _ hn
    exact ⟨by rw [List.length_take, hl]; omega, .inr ⟨b, c, cs.toArray, rfl, Nat.zero_le _, hp, hn, hc, by simpa using hl, rfl⟩⟩
theorem Hp.cons_nilRow {w0 w : World} {L : List Ent} (H : Hp w0 w L) (e : TypeId) (k : Nat) : Hp w0 w (row e k (.slice none 0 0) 0 [] :: L) := by
  refine ⟨H.b, fun e' he => ?_, List.Pairwise.cons (fun e' _ x hx _ => ?_) H.ap⟩
  · rcases List.mem_cons.1 he with rfl | he
    · exact ⟨World.ownsRow_nil _ _ _ _, fun x hx => by cases hx⟩
    · exact H.ok e' he
  · cases hx
/-- Some of the entries, in some order. -/
theorem Hp.pick {w0 w : World} {L : List Ent} (H : Hp w0 w L) (is : List Nat) (hn : is.Nodup) : Hp w0 w (is.filterMap fun i => L[i]?) := by
  refine ⟨H.b, fun e he => ?_, ?_⟩
  · obtain ⟨i, _, hi⟩ := List.mem_filterMap.1 he
    exact H.ok e (List.mem_of_getElem? hi)
  · rw [List.pairwise_filterMap]
    refine List.Pairwise.imp ?_ hn
    intro a b hab e1 h1 e2 h2
    have hp := H.ap
    rw [List.pairwise_iff_getElem] at hp
    obtain ⟨ha, rfl⟩ := List.getElem?_eq_some_iff.1 h1
    obtain ⟨hb, rfl⟩ := List.getElem?_eq_some_iff.1 h2
    rcases Nat.lt_or_gt_of_ne hab with h3 | h3
    · exact hp a b ha hb h3
    · exact (hp b a hb ha h3).symm
theorem Hp.give {w0 w : World} {L R : List Ent} (H : Hp w0 w L) (is : List Nat) (hn : is.Nodup) (hR : (is.filterMap fun i => L[i]?) = R) : Hp w0 w R := hR ▸ H.pick is hn
theorem neF_of {e : Ent} {L : List Ent} (ha : ∀ e' ∈ L, apart e e') : NeF e.K L := by
  induction L with
  | nil => trivial
  | cons e' L ih =>
    refine ⟨?_, ih (fun x hx => ha x (List.mem_cons_of_mem _ hx))⟩
    split
    · rename_i a b h1 h2
      have h3 : a ≠ b := fun h => ha e' List.mem_cons_self a (e.kk a h1) (by rw [h]; exact e'.kk b h2)
      exact ⟨h3, h3.symm⟩
    · trivial
theorem Hp.facts {w0 w : World} {L : List Ent} (H : Hp w0 w L) : Facts w0 w L := by
  obtain ⟨hb, hok, hap⟩ := H
  induction L with
  | nil => exact hb.size
  | cons e L ih =>
    have h1 := hok e List.mem_cons_self
    refine ⟨e.fp w h1.p, ?_, neF_of (List.pairwise_cons.1 hap).1, ih (fun x hx => hok x (List.mem_cons_of_mem _ hx)) (List.pairwise_cons.1 hap).2⟩
    split
    · rename_i a h2; exact (h1.lt a (e.kk a h2)).1
    · trivial

/-! ### by what they are, not by their places -/
section
variable {w0 w w' : World} {L L' R : List Ent} {e e' x : Ent} {t : TypeId} {k n m c c' cap g B H0 : Nat} {v : Value} {A : Option Addr} {xs ys : List Value}
theorem Hp.rowM (H : Hp w0 w L) (h : row t k v n xs ∈ L) : w.ownsRow w0.heap.size t k v n xs := by
  obtain ⟨i, hi, he⟩ := List.getElem_of_mem h
  exact H.rowAt i (by rw [List.getElem?_eq_getElem hi, he])
theorem Hp.rdM (H : Hp w0 w L) (h : row t k (.slice A n c) n xs ∈ L) : Rd w w.heap.size k A n c xs := own_rdn (H.rowM h)
def Del (L : List Ent) (e : Ent) (L' : List Ent) : Prop := List.Perm (e :: L') L
theorem Del.here : Del (e :: L) e L := List.Perm.refl _
theorem Del.there (h : Del L e L') : Del (x :: L) e (x :: L') := (List.Perm.swap x e L').trans (List.Perm.cons x h)
def Sel (L R : List Ent) : Prop := ∃ X, List.Perm (R ++ X) L
theorem Sel.nil : Sel L [] := ⟨L, List.Perm.refl _⟩
theorem Sel.cons (h : Del L e L') (h' : Sel L' R) : Sel L (e :: R) := by
  obtain ⟨X, hX⟩ := h'
  exact ⟨X, (List.Perm.cons e hX).trans h⟩
theorem Hp.sel (H : Hp w0 w L) (h : Sel L R) : Hp w0 w R := by
  obtain ⟨X, hX⟩ := h
  refine ⟨H.b, fun e he => H.ok e (hX.subset (List.mem_append_left _ he)), ?_⟩
  have := (List.Perm.pairwise_iff (R := apart) (fun h => h.symm) hX).2 H.ap
  exact (List.pairwise_append.1 this).1
def Rep (L : List Ent) (e e' : Ent) (L' : List Ent) : Prop := ∃ i : Nat, L[i]? = some e ∧ L' = L.set i e'
theorem Rep.here : Rep (e :: L) e e' (e' :: L) := ⟨0, rfl, rfl⟩
theorem Rep.there (h : Rep L e e' L') : Rep (x :: L) e e' (x :: L') := by
  obtain ⟨i, h1, h2⟩ := h
  exact ⟨i + 1, by simpa using h1, by rw [h2]; rfl⟩
theorem Rep.mem (h : Rep L e e' L') : e ∈ L := by
  obtain ⟨i, h1, _⟩ := h
  exact List.mem_of_getElem? h1
theorem Hp.appM (H : Hp w0 w L) (hr : Rep L (row t k v n xs) (row t k (.slice (some ⟨g, 0, none⟩) m cap) m ys) L')
    (hown : w'.ownsRow B t k (.slice (some ⟨g, 0, none⟩) m cap) m ys) (hg : w.grownBy w' v.ownBlock) (hat : v.ownBlock = some g ∨ g = H0) (hH : w.heap.size = H0) (hlt : g < w'.heap.size) : Hp w0 w' L' := by
  obtain ⟨i, h1, rfl⟩ := hr
  exact H.app i h1 hown hg hat hH hlt
theorem Hp.ownM (H : Hp w0 w L) (h : row t k (.slice A n c) n xs ∈ L) : Own w (loA A w.heap.size) (hiA A w.heap.size) t k (.slice A n c) n xs ∧ w0.heap.size ≤ loA A w.heap.size := by
  obtain ⟨i, hi, he⟩ := List.getElem_of_mem h
  exact H.own i (by rw [List.getElem?_eq_getElem hi, he])
/-- Behind a call that turns one row, nil or not. -/
theorem Hp.chgM (H : Hp w0 w L) (hr : Rep L (row t k (.slice A n c) n xs) (row t k (.slice A m c') m ys) L')
    (h : Own w' (loA A w.heap.size) (hiA A w.heap.size) t k (.slice A m c') m ys) (hc : Chg w w' (loA A w.heap.size) (hiA A w.heap.size)) : Hp w0 w' L' := by
  obtain ⟨i, hi, rfl⟩ := hr
  have hm := H.ok _ (List.mem_of_getElem? hi)
  refine H.mod i _ _ hi (fun x hx => .inl ?_) (own_base h.1 (Nat.zero_le _)) (fun x hx => (h.1.lt x hx).2) hc.os hc.tape hc.output hc.size (fun x hx hx' => hc.block x hx ?_)
  · cases A with
    | none => cases hx
    | some a => exact hx
  · cases A with
    | none => show x < w.heap.size ∨ w.heap.size ≤ x; exact .inl hx
    | some a =>
      have hx' : ¬ (some a.block = some x) := hx'
      simp at hx'
      show x < a.block ∨ a.block + 1 ≤ x
      omega
theorem Hp.consOwn {lo hi : Nat} (H : Hp w w' R) (h : Own w' lo hi t k v n xs) (hl : w.heap.size ≤ lo) (hd : ∀ e ∈ R, ∀ b, e.S b → b < lo ∨ hi ≤ b) : Hp w w' (row t k v n xs :: R) := by
  refine ⟨H.b, fun e' he => ?_, List.Pairwise.cons (fun e' he x hx hx' => ?_) H.ap⟩
  · rcases List.mem_cons.1 he with rfl | he
    · refine ⟨own_base h.1 (Nat.zero_le _), fun g hg => ?_⟩
      have h1 := h.1.lt g hg
      exact ⟨by omega, h1.2⟩
    · exact H.ok e' he
  · have h1 := h.lt x hx
    have := hd e' he x hx'
    omega
end
theorem Hp.newsM {w0 w : World} {L : List Ent} {t : TypeId} {b : Nat} {cs : List Value} (H : Hp w0 w L) (h : box b t cs ∈ L) : ∀ (j : Nat) (u : Value), cs[j]? = some u → w.cell? ((⟨b, 0, none⟩ : Addr).add j) = some u := by
  obtain ⟨i, hi, he⟩ := List.getElem_of_mem h
  exact H.news i (by rw [List.getElem?_eq_getElem hi, he])
theorem Hp.rdL {w0 w : World} {L : List Ent} {t : TypeId} {k n m c : Nat} {A : Option Addr} {xs : List Value} (H : Hp w0 w L) (h : row t k (.slice A n c) n xs ∈ L) (hn : n = m) : Rd w w.heap.size k A m c xs := by subst hn; exact H.rdM h
theorem leftOf_le {left : Int} (n : Nat) (h : 0 ≤ left) : leftOf left n ≤ left := by
  unfold leftOf
  split <;> omega
end Go.Proofs.YtklmcbabpncfmaaDoor
