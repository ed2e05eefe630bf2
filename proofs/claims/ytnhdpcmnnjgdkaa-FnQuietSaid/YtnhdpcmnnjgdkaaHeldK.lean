/- A drawn statement whose last operation is a store: the load of the very cell that it overwrites may be taken first too. Plain laws over the model (in the make of the kit's OrdersHeld, whose condition must hold behind every operation). No condition. -/
import Derived.Deep.RegionHeldLaw
set_option linter.unusedVariables false
set_option linter.unusedSimpArgs false
namespace Go.Proofs.Ytnhdpcmnnjgdkaa
open Go
set_option linter.unusedVariables false
set_option linter.unusedSimpArgs false
section
variable {P : Program} {ops : Array Oper} {Q : Exit → Act → World → Prop} {md : Region.Mode} {S0 S1 C : World → Prop} {k : Nat}
/-- S0 holds, and while number k has not come up S1 too. -/
def SetS (S0 S1 : World → Prop) (k : Nat) (listed : Array Bool) (w : World) : Prop := S0 w ∧ (listed.getD k false = false → S1 w)
/-- Number i is done: the set condition, and then G. -/
def doneK (S0 S1 : World → Prop) (k : Nat) (G : Array Bool → Act → World → Prop) (listed : Array Bool) (i : Nat) (a : Act) (w : World) : Prop := SetS S0 S1 k (listed.setIfInBounds i true) w ∧ G (listed.setIfInBounds i true) a w
/-- Whatever order is picked; behind each operation the set condition holds. -/
def wpAnyK (P : Program) (md : Region.Mode) (ops : Array Oper) (Q : Exit → Act → World → Prop) (S0 S1 : World → Prop) (k : Nat) : Nat → Array Bool → Act → World → Prop
  | 0 => fun listed a w => Region.ready md ops listed = [] ∧ Q .normal a w
  | fuel + 1 => fun listed a w => (Region.ready md ops listed = [] → Q .normal a w) ∧ ∀ i ∈ Region.ready md ops listed, wpOp P ops Q i (doneK S0 S1 k (wpAnyK P md ops Q S0 S1 k fuel) listed i) a w
theorem wpAny_ofK (fuel : Nat) : ∀ (listed : Array Bool) (a : Act) (w : World), wpAnyK P md ops Q S0 S1 k fuel listed a w → wpAny P md ops Q fuel listed a w := by
  induction fuel with
  | zero => exact fun _ _ _ h => h
  | succ m ih => exact fun l a w h => And.intro h.1 fun i hi => (wpOp_mono (fun a' w' (d : doneK _ _ _ _ _ _ _ _) => ih _ _ _ d.2)) (h.2 i hi)
theorem notYet {listed : Array Bool} {i : Nat} (h : listed.getD i true = false) : listed.getD i false = false := by
  by_cases h' : i < listed.size
  · simpa [h'] using h
  · simp [Array.getElem?_eq_none (Nat.le_of_not_lt h')] at h
theorem unwaited {listed : Array Bool} {i j : Nat} {o : Oper} (hj : ops[j]? = some o) (hr : j ∈ Region.ready md ops listed) (hi : listed.getD i false = false) (e : Edge) (he : e ∈ o.after) (hb : Region.binds md e = true) : e.on ≠ i := by
  intro heq
  subst heq
  obtain ⟨-, o', ho', all⟩ := mem_ready.1 hr
  cases Option.some.inj (hj.symm.trans ho')
  exact absurd (all e he hb) (by rw [hi]; decide)
theorem SetS.other {listed : Array Bool} {i : Nat} {w : World} (hik : i ≠ k) : SetS S0 S1 k (listed.setIfInBounds i true) w ↔ SetS S0 S1 k listed w := by
  unfold SetS; rw [getD_set_ne false hik]
/-- Another operation comes up ahead of number i: it does what it did behind it. -/
theorem aheadK {i j : Nat} {oi : Oper} {v : Value} {G : Array Bool → Act → World → Prop} {listed : Array Bool} {a : Act} {w : World} (hi : ops[i]? = some oi) (hik : i ≠ k) (hs : Region.noSelect ops = true)
    (hQ : ∀ c a w, Q (.panic c) (a.put oi.dst v) w → Q (.panic c) a w) (hf : Region.free md ops listed i = true) (hr : i ∈ Region.ready md ops listed) (hj : j ∈ Region.ready md ops listed) (hji : j ≠ i) (hy : YieldsIf P ops C oi v a)
    (h : wpOp P ops Q j (doneK S0 S1 k G (listed.setIfInBounds i true) j) (a.put oi.dst v) w) :
    wpOp P ops Q j (fun a' w' => SetS S0 S1 k (listed.setIfInBounds j true) w' ∧ YieldsIf P ops C oi v a' ∧ G ((listed.setIfInBounds j true).setIfInBounds i true) (a'.put oi.dst v) w') a w := by
  obtain ⟨hju, oj, hoj, -⟩ := mem_ready.1 hj
  have hap := Region.free_spec hi hf j oj hoj hji hju fun e he hb => unwaited hoj hj (notYet (mem_ready.1 hr).1) e he hb
  have hc := Array.setIfInBounds_comm (xs := listed) true true (Ne.symm hji)
  refine wpOp_mono (fun a' w' d => ?_) (wpOp_putIf hoj hap (fun cs b => Region.noSelect_spec hs i oi cs b hi) (fun cs b => Region.noSelect_spec hs j oj cs b hoj) hQ hy h)
  obtain ⟨hy', d1, d2⟩ := d
  rw [hc] at d1 d2
  exact ⟨(SetS.other hik).1 d1, hy', d2⟩
/-- What is free stays free while others come up. -/
theorem free_next {i j : Nat} {listed : Array Bool} (hf : Region.free md ops listed i = true) : Region.free md ops (listed.setIfInBounds j true) i = true := by
  unfold Region.free at hf ⊢
  split at hf
  · exact hf
  · rename_i oi ho
    rw [List.all_eq_true] at hf ⊢
    intro q hq
    have h1 := hf q hq
    by_cases hjq : j = q
    · subst hjq
      have : (listed.setIfInBounds j true).getD j true = true := by
        by_cases hl : j < listed.size
        · simp [hl]
        · simp [Array.getElem?_eq_none (Nat.le_of_not_lt hl)]
      rw [this]; simp
    · rw [getD_set_ne true hjq]; exact h1
theorem wpAnyK_first {I : Array Bool → Prop} {i : Nat} {oi : Oper} {v : Value} (hi : ops[i]? = some oi) (hik : i ≠ k) (hs : Region.noSelect ops = true)
    (hQ : ∀ c a w, Q (.panic c) (a.put oi.dst v) w → Q (.panic c) a w)
    (hI : ∀ (listed : Array Bool) (j : Nat), I listed → listed.getD i true = false → j ∈ Region.ready md ops listed → I (listed.setIfInBounds j true))
    (hC : ∀ (listed : Array Bool) (w : World), I listed → SetS S0 S1 k listed w → C w) :
    ∀ (fuel : Nat) (listed : Array Bool) (a : Act) (w : World), Region.free md ops listed i = true → i ∈ Region.ready md ops listed → I listed → YieldsIf P ops C oi v a → SetS S0 S1 k listed w →
      wpAnyK P md ops Q S0 S1 k fuel (listed.setIfInBounds i true) (a.put oi.dst v) w → wpAnyK P md ops Q S0 S1 k (fuel + 1) listed a w
  | 0, listed, a, w, hf, hr, hl, hy, hS, H => And.intro (fun h => absurd hr (by rw [h]; exact List.not_mem_nil)) fun j hj =>
    if hji : j = i then by
      subst hji
      exact hy.wpOp hi (hC _ _ hl hS) ⟨(SetS.other hik).2 hS, H⟩
    else absurd (ready_mono hj hji) (by rw [H.1]; exact List.not_mem_nil)
  | m + 1, listed, a, w, hf, hr, hl, hy, hS, H => And.intro (fun h => absurd hr (by rw [h]; exact List.not_mem_nil)) fun j hj =>
    if hji : j = i then by
      subst hji
      exact hy.wpOp hi (hC _ _ hl hS) ⟨(SetS.other hik).2 hS, H⟩
    else wpOp_mono (fun a' w' d => ⟨d.1, wpAnyK_first hi hik hs hQ hI hC m _ a' w' (free_next hf) (ready_mono hr (Ne.symm hji)) (hI _ _ hl (mem_ready.1 hr).1 hj) d.2.1 d.1 d.2.2⟩) (aheadK hi hik hs hQ hf hr hj hji hy (H.2 j (ready_mono hj hji)))
/-- Number i yields in every world that meets S0: it may be taken first. -/
theorem wpAnyK_take0 {i : Nat} {oi : Oper} {v : Value} {fuel : Nat} {listed : Array Bool} {a : Act} {w : World} (hi : ops[i]? = some oi) (hik : (i == k) = false)
    (hs : Region.noSelect ops = true) (hf : Region.free md ops listed i = true) (hr : (Region.ready md ops listed).contains i = true)
    (hQ : ∀ c a w, Q (.panic c) (a.put oi.dst v) w → Q (.panic c) a w) (hy : YieldsIf P ops S0 oi v a) (hS : SetS S0 S1 k listed w)
    (h : SetS S0 S1 k (listed.setIfInBounds i true) w → wpAnyK P md ops Q S0 S1 k fuel (listed.setIfInBounds i true) (a.put oi.dst v) w) : wpAnyK P md ops Q S0 S1 k (fuel + 1) listed a w :=
  wpAnyK_first (I := fun _ => True) hi (by simpa using hik) hs hQ (fun _ _ _ _ _ => trivial) (fun _ _ _ h => h.1) fuel listed a w hf (by simpa using hr) trivial hy hS (h ((SetS.other (by simpa using hik)).2 hS))
/-- Does number j wait for number i? -/
def waitsOn (md : Region.Mode) (ops : Array Oper) (j i : Nat) : Bool := match ops[j]? with
  | some o => o.after.any fun e => Region.binds md e && e.on == i
  | none => false
theorem waitsOn_no {listed : Array Bool} {i j : Nat} (h : waitsOn md ops j i = true) (hi : listed.getD i false = false) : ¬ j ∈ Region.ready md ops listed := fun hr => by
  obtain ⟨-, o, ho, -⟩ := mem_ready.1 hr
  unfold waitsOn at h
  rw [ho] at h
  obtain ⟨e, he, hb⟩ := Array.any_eq_true'.1 h
  simp only [Bool.and_eq_true, beq_iff_eq] at hb
  exact unwaited ho hr hi e he hb.1 hb.2
/-- Number i yields in every world that meets S1; m waits for i and the store k for m: it may be taken first. -/
theorem wpAnyK_take1 {i : Nat} (m : Nat) {oi : Oper} {v : Value} {fuel : Nat} {listed : Array Bool} {a : Act} {w : World} (hi : ops[i]? = some oi) (hik : (i == k) = false)
    (hs : Region.noSelect ops = true) (hf : Region.free md ops listed i = true) (hr : (Region.ready md ops listed).contains i = true)
    (hm : waitsOn md ops m i = true) (hk : waitsOn md ops k m = true) (hlm : listed.getD m false = false) (hlk : listed.getD k false = false)
    (hQ : ∀ c a w, Q (.panic c) (a.put oi.dst v) w → Q (.panic c) a w) (hy : YieldsIf P ops S1 oi v a) (hS : SetS S0 S1 k listed w)
    (h : SetS S0 S1 k (listed.setIfInBounds i true) w → wpAnyK P md ops Q S0 S1 k fuel (listed.setIfInBounds i true) (a.put oi.dst v) w) : wpAnyK P md ops Q S0 S1 k (fuel + 1) listed a w :=
  wpAnyK_first (I := fun l => l.getD m false = false ∧ l.getD k false = false) hi (by simpa using hik) hs hQ
    (fun l j hl hu hj => by
      have h1 : j ≠ m := fun e => waitsOn_no hm (notYet hu) (e ▸ hj)
      have h2 : j ≠ k := fun e => waitsOn_no hk hl.1 (e ▸ hj)
      exact ⟨by rw [getD_set_ne false h1]; exact hl.1, by rw [getD_set_ne false h2]; exact hl.2⟩)
    (fun l w hl h => h.2 hl.2) fuel listed a w hf (by simpa using hr) ⟨hlm, hlk⟩ hy hS (h ((SetS.other (by simpa using hik)).2 hS))
/-- One operation is carried out; what follows is a letter. -/
theorem nextK {i : Nat} {o : Oper} {G : Array Bool → Act → World → Prop} {listed : Array Bool} {a : Act} {w : World} (ho : ops[i]? = some o)
    (h : ∀ K : Act → World → Prop, Shut (∀ a w, SetS S0 S1 k (listed.setIfInBounds i true) w → (SetS S0 S1 k (listed.setIfInBounds i true) w → G (listed.setIfInBounds i true) a w) → K a w) → if Region.wanted o (yielded ops a.tmps) = true then Oper.wp P o a w K Q else K (a.put o.dst undef) w) :
    wpOp P ops Q i (doneK S0 S1 k G listed i) a w := wpOp_step ho fun K hK => h K fun a' w' s g => hK a' w' ⟨s, g s⟩
theorem wpAnyK_one {i : Nat} {fuel : Nat} {listed : Array Bool} {a : Act} {w : World} (hr : Region.ready md ops listed = [i])
    (h : wpOp P ops Q i (doneK S0 S1 k (wpAnyK P md ops Q S0 S1 k fuel) listed i) a w) : wpAnyK P md ops Q S0 S1 k (fuel + 1) listed a w :=
  And.intro (fun e => by rw [e] at hr; cases hr) fun j hj => by rw [hr] at hj; rw [List.mem_singleton.1 hj]; exact h
theorem wpAnyK_two {i j : Nat} {fuel : Nat} {listed : Array Bool} {a : Act} {w : World} (hr : Region.ready md ops listed = [i, j])
    (h1 : wpOp P ops Q i (doneK S0 S1 k (wpAnyK P md ops Q S0 S1 k fuel) listed i) a w) (h2 : wpOp P ops Q j (doneK S0 S1 k (wpAnyK P md ops Q S0 S1 k fuel) listed j) a w) : wpAnyK P md ops Q S0 S1 k (fuel + 1) listed a w :=
  And.intro (fun e => by rw [e] at hr; cases hr) fun q hq => by
    rw [hr] at hq
    rcases List.mem_cons.1 hq with e | hq
    · rw [e]; exact h1
    · rw [List.mem_singleton.1 hq]; exact h2
theorem wpAnyK_done {listed : Array Bool} {a : Act} {w : World} (hr : Region.ready md ops listed = []) (h : Q .normal a w) (fuel : Nat) : wpAnyK P md ops Q S0 S1 k fuel listed a w := by
  cases fuel with
  | zero => exact And.intro hr h
  | succ m => exact And.intro (fun _ => h) fun i hi => absurd hi (by rw [hr]; exact List.not_mem_nil)
theorem wp_regionK {id : Nat} {a : Act} {w : World} (hm : P.follows .mixedOrders = true) (hS : S0 w.drew ∧ S1 w.drew)
    (h : SetS S0 S1 k (Array.replicate ops.size false) w.drew → wpAnyK P .any ops Q S0 S1 k ops.size (Array.replicate ops.size false) a w.drew) : (Code.region id ops true).wp P Q a w :=
  wp_region_any hm (wpAny_ofK _ _ _ _ (h (And.intro hS.1 fun _ => hS.2)))
end
end Go.Proofs.Ytnhdpcmnnjgdkaa
