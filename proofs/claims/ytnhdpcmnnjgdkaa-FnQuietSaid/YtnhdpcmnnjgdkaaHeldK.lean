/- A drawn statement whose last operation is a store: the load of the very cell that it overwrites may be taken first too. Plain laws over the model. No condition. -/
import Derived.Deep.RegionHeldLaw
set_option linter.unusedVariables false
set_option linter.unusedSimpArgs false
namespace Go.Proofs.Ytnhdpcmnnjgdkaa
open Go
set_option linter.unusedVariables false
set_option linter.unusedSimpArgs false
section
variable {P : Program} {ops : Array Oper} {Q : Exit → Act → World → Prop} {md : Region.Mode} {S0 S1 C : World → Prop} {k : Nat}
/-- S0 holds, and while number k has not come up S1 too. -/
def SetS (S0 S1 : World → Prop) (k : Nat) (listed : Array Bool) (w : World) : Prop := S0 w ∧ (listed.getD k false = false → S1 w)
/-- Whatever order is picked; behind each operation the set condition holds. -/
def wpAnyK (P : Program) (md : Region.Mode) (ops : Array Oper) (Q : Exit → Act → World → Prop) (S0 S1 : World → Prop) (k : Nat) : Nat → Array Bool → Act → World → Prop
  | 0, listed, a, w => Region.ready md ops listed = [] ∧ Q .normal a w
  | fuel + 1, listed, a, w => (Region.ready md ops listed = [] → Q .normal a w) ∧ ∀ i ∈ Region.ready md ops listed, wpOp P ops Q i (fun a' w' => SetS S0 S1 k (listed.setIfInBounds i true) w' ∧ wpAnyK P md ops Q S0 S1 k fuel (listed.setIfInBounds i true) a' w') a w
theorem wpAny_ofK : ∀ (fuel : Nat) (listed : Array Bool) (a : Act) (w : World), wpAnyK P md ops Q S0 S1 k fuel listed a w → wpAny P md ops Q fuel listed a w
  | 0, _, _, _, h => h
  | fuel + 1, _, _, _, h => ⟨h.1, fun i hi => wpOp_mono (fun a' w' h' => wpAny_ofK fuel _ a' w' h'.2) (h.2 i hi)⟩
theorem unlisted_false {listed : Array Bool} {i : Nat} (h : listed.getD i true = false) : listed.getD i false = false := by
  rcases Nat.lt_or_ge i listed.size with h' | h'
  · simp [h'] at h ⊢; exact h
  · simp [Array.getElem?_eq_none h'] at h
theorem waits {listed : Array Bool} {i j : Nat} (hr : j ∈ Region.ready md ops listed) (hi : listed.getD i false = false) : ∃ oj, ops[j]? = some oj ∧ ∀ e ∈ oj.after, Region.binds md e = true → e.on ≠ i := by
  obtain ⟨-, o, ho, hall⟩ := mem_ready.1 hr
  refine ⟨o, ho, fun e he hb heq => ?_⟩
  have := hall e he hb
  rw [heq, hi] at this
  cases this
theorem SetS.other {listed : Array Bool} {i : Nat} {w : World} (hik : i ≠ k) : SetS S0 S1 k (listed.setIfInBounds i true) w ↔ SetS S0 S1 k listed w := by
  unfold SetS; rw [getD_set_ne false hik]
theorem wpAnyK_first {I : Array Bool → Prop} {i : Nat} {oi : Oper} {v : Value} (hi : ops[i]? = some oi) (hik : i ≠ k) (hsel : ∀ (j : Nat) (o : Oper) cs b, ops[j]? = some o → o.op ≠ .select cs b)
    (hQ : ∀ c a w, Q (.panic c) (a.put oi.dst v) w → Q (.panic c) a w)
    (hI : ∀ (listed : Array Bool) (j : Nat), I listed → listed.getD i true = false → j ∈ Region.ready md ops listed → j ≠ i → I (listed.setIfInBounds j true))
    (hC : ∀ (listed : Array Bool) (w : World), I listed → SetS S0 S1 k listed w → C w) :
    ∀ (fuel : Nat) (listed : Array Bool) (a : Act) (w : World),
      (∀ j oj, ops[j]? = some oj → j ≠ i → listed.getD j true = false → (∀ e ∈ oj.after, Region.binds md e = true → e.on ≠ i) → oi.apart ops oj = true) →
      i ∈ Region.ready md ops listed → I listed → YieldsIf P ops C oi v a → SetS S0 S1 k listed w →
      wpAnyK P md ops Q S0 S1 k fuel (listed.setIfInBounds i true) (a.put oi.dst v) w → wpAnyK P md ops Q S0 S1 k (fuel + 1) listed a w := by
  intro fuel
  induction fuel with
  | zero =>
    intro listed a w _ hr hIl hy hS H
    refine ⟨fun h => (by rw [h] at hr; cases hr), fun j hj => ?_⟩
    by_cases hji : j = i
    · subst hji; exact hy.wpOp hi (hC _ _ hIl hS) ⟨(SetS.other hik).2 hS, H⟩
    · have := ready_mono hj hji
      rw [H.1] at this
      cases this
  | succ fuel ih =>
    intro listed a w hfree hr hIl hy hS H
    refine ⟨fun h => (by rw [h] at hr; cases hr), fun j hj => ?_⟩
    by_cases hji : j = i
    · subst hji; exact hy.wpOp hi (hC _ _ hIl hS) ⟨(SetS.other hik).2 hS, H⟩
    · have h1 := H.2 j (ready_mono hj hji)
      have hun : listed.getD i true = false := (mem_ready.1 hr).1
      obtain ⟨hjun, oj, hoj, hall⟩ := mem_ready.1 hj
      have hnot : ∀ e ∈ oj.after, Region.binds md e = true → e.on ≠ i := by
        obtain ⟨o', ho', h'⟩ := waits hj (unlisted_false hun)
        rw [hoj] at ho'; injection ho' with ho'; subst ho'; exact h'
      have h2 := wpOp_putIf hoj (hfree j oj hoj hji hjun hnot) (fun cs b => hsel i oi cs b hi) (fun cs b => hsel j oj cs b hoj) hQ hy h1
      refine wpOp_mono (fun a' w' h3 => ?_) h2
      have hS' : SetS S0 S1 k (listed.setIfInBounds j true) w' := by
        have h4 := h3.2.1
        rw [Array.setIfInBounds_comm _ _ (Ne.symm hji)] at h4
        exact (SetS.other hik).1 h4
      refine ⟨hS', ih (listed.setIfInBounds j true) a' w' (fun q oq hq hqi hqu hno => ?_) (ready_mono hr (Ne.symm hji)) (hI _ _ hIl hun hj hji) h3.1 hS' ?_⟩
      · refine hfree q oq hq hqi ?_ hno
        by_cases hjq : j = q
        · subst hjq; exact hjun
        · rw [getD_set_ne true hjq] at hqu; exact hqu
      · rw [Array.setIfInBounds_comm _ _ hji]
        exact h3.2.2
/-- Number i yields in every world that meets S0: it may be taken first. -/
theorem wpAnyK_take0 {i : Nat} {oi : Oper} {v : Value} {fuel : Nat} {listed : Array Bool} {a : Act} {w : World} (hi : ops[i]? = some oi) (hik : (i == k) = false)
    (hs : Region.noSelect ops = true) (hf : Region.free md ops listed i = true) (hr : (Region.ready md ops listed).contains i = true)
    (hQ : ∀ c a w, Q (.panic c) (a.put oi.dst v) w → Q (.panic c) a w) (hy : YieldsIf P ops S0 oi v a) (hS : SetS S0 S1 k listed w)
    (h : SetS S0 S1 k (listed.setIfInBounds i true) w → wpAnyK P md ops Q S0 S1 k fuel (listed.setIfInBounds i true) (a.put oi.dst v) w) : wpAnyK P md ops Q S0 S1 k (fuel + 1) listed a w :=
  wpAnyK_first (I := fun _ => True) hi (by simpa using hik) (Region.noSelect_spec hs) hQ (fun _ _ _ _ _ _ => trivial) (fun _ _ _ h => h.1) fuel listed a w (Region.free_spec hi hf) (by simpa using hr) trivial hy hS (h ((SetS.other (by simpa using hik)).2 hS))
/-- Is e on i among what o waits for? -/
def waitsOn (md : Region.Mode) (ops : Array Oper) (j i : Nat) : Bool := match ops[j]? with
  | some o => o.after.any fun e => Region.binds md e && e.on == i
  | none => false
theorem waitsOn_no {listed : Array Bool} {i j : Nat} (h : waitsOn md ops j i = true) (hi : listed.getD i false = false) : ¬ j ∈ Region.ready md ops listed := fun hr => by
  obtain ⟨o, ho, hno⟩ := waits hr hi
  unfold waitsOn at h
  rw [ho] at h
  obtain ⟨e, he, hb⟩ := Array.any_eq_true'.1 h
  simp only [Bool.and_eq_true, beq_iff_eq] at hb
  exact hno e he hb.1 hb.2
/-- Number i yields in every world that meets S1; m waits for i and the store k for m: it may be taken first. -/
theorem wpAnyK_take1 {i : Nat} (m : Nat) {oi : Oper} {v : Value} {fuel : Nat} {listed : Array Bool} {a : Act} {w : World} (hi : ops[i]? = some oi) (hik : (i == k) = false)
    (hs : Region.noSelect ops = true) (hf : Region.free md ops listed i = true) (hr : (Region.ready md ops listed).contains i = true)
    (hm : waitsOn md ops m i = true) (hk : waitsOn md ops k m = true) (hlm : listed.getD m false = false) (hlk : listed.getD k false = false)
    (hQ : ∀ c a w, Q (.panic c) (a.put oi.dst v) w → Q (.panic c) a w) (hy : YieldsIf P ops S1 oi v a) (hS : SetS S0 S1 k listed w)
    (h : SetS S0 S1 k (listed.setIfInBounds i true) w → wpAnyK P md ops Q S0 S1 k fuel (listed.setIfInBounds i true) (a.put oi.dst v) w) : wpAnyK P md ops Q S0 S1 k (fuel + 1) listed a w :=
  wpAnyK_first (I := fun l => l.getD m false = false ∧ l.getD k false = false) hi (by simpa using hik) (Region.noSelect_spec hs) hQ
    (fun l j hl hu hj hji => by
      have h1 : j ≠ m := fun e => waitsOn_no hm (unlisted_false hu) (e ▸ hj)
      have h2 : j ≠ k := fun e => waitsOn_no hk hl.1 (e ▸ hj)
      exact ⟨by rw [getD_set_ne false h1]; exact hl.1, by rw [getD_set_ne false h2]; exact hl.2⟩)
    (fun l w hl h => h.2 hl.2) fuel listed a w (Region.free_spec hi hf) (by simpa using hr) ⟨hlm, hlk⟩ hy hS (h ((SetS.other (by simpa using hik)).2 hS))
/-- Each of the operations 'rs' comes up next. -/
def AllReadyK (P : Program) (md : Region.Mode) (ops : Array Oper) (Q : Exit → Act → World → Prop) (S0 S1 : World → Prop) (k : Nat) (fuel : Nat) (listed : Array Bool) (a : Act) (w : World) (rs : List Nat) : Prop :=
  ∀ i ∈ rs, wpOp P ops Q i (fun a' w' => SetS S0 S1 k (listed.setIfInBounds i true) w' ∧ wpAnyK P md ops Q S0 S1 k fuel (listed.setIfInBounds i true) a' w') a w
theorem AllReadyK.nil {fuel : Nat} {listed : Array Bool} {a : Act} {w : World} : AllReadyK P md ops Q S0 S1 k fuel listed a w [] := fun _ h => by cases h
theorem AllReadyK.cons {fuel : Nat} {listed : Array Bool} {a : Act} {w : World} {i : Nat} {o : Oper} {rs : List Nat} (ho : ops[i]? = some o)
    (h : ∀ K' : Act → World → Prop, Shut (∀ a w, SetS S0 S1 k (listed.setIfInBounds i true) w → (SetS S0 S1 k (listed.setIfInBounds i true) w → wpAnyK P md ops Q S0 S1 k fuel (listed.setIfInBounds i true) a w) → K' a w) → if Region.wanted o (yielded ops a.tmps) = true then Oper.wp P o a w K' Q else K' (a.put o.dst undef) w)
    (hs : AllReadyK P md ops Q S0 S1 k fuel listed a w rs) : AllReadyK P md ops Q S0 S1 k fuel listed a w (i :: rs) := fun j hj => by
  rcases List.mem_cons.1 hj with rfl | hj
  · exact wpOp_step ho (fun K' hK => h K' (fun a w hS hW => hK a w ⟨hS, hW hS⟩))
  · exact hs j hj
theorem wpAnyK_ready {rs : List Nat} {fuel : Nat} {listed : Array Bool} {a : Act} {w : World} (hr : Region.ready md ops listed = rs) (hne : rs ≠ [])
    (h : AllReadyK P md ops Q S0 S1 k fuel listed a w rs) : wpAnyK P md ops Q S0 S1 k (fuel + 1) listed a w := ⟨fun h0 => absurd (hr ▸ h0) hne, hr ▸ h⟩
theorem wpAnyK_done {listed : Array Bool} {a : Act} {w : World} (hr : Region.ready md ops listed = []) (h : Q .normal a w) : ∀ fuel, wpAnyK P md ops Q S0 S1 k fuel listed a w
  | 0 => ⟨hr, h⟩
  | _ + 1 => ⟨fun _ => h, by rw [hr]; simp⟩
theorem wp_regionK {id : Nat} {a : Act} {w : World} (hm : P.follows .mixedOrders = true) (hS : S0 w.drew ∧ S1 w.drew)
    (h : SetS S0 S1 k (Array.replicate ops.size false) w.drew → wpAnyK P .any ops Q S0 S1 k ops.size (Array.replicate ops.size false) a w.drew) : (Code.region id ops true).wp P Q a w :=
  wp_region_any hm (wpAny_ofK _ _ _ _ (h ⟨hS.1, fun _ => hS.2⟩))
end
end Go.Proofs.Ytnhdpcmnnjgdkaa
