/- DropOver in plain words. No condition. -/
import Derived.Test.YtlmmeeeoljlgcaaDoorLeaseP
import Derived.Test.YtlmmeeeoljlgcaaDoorSortP
set_option linter.unusedVariables false
set_option linter.unusedSimpArgs false
namespace Go.Proofs.YtlmmeeeoljlgcaaDoor
set_option linter.unusedVariables false
def overP (now : Int) (l : Lease) : Bool := decide (l.ends ≤ now)
/-- A lease put behind all that end no later. -/
def insO (l : Lease) : List Lease → List Lease
  | [] => [l]
  | g :: gs => if l.ends < g.ends then l :: g :: gs else g :: insO l gs
def goneO (now : Int) (us : List Lease) : List Lease := us.foldl (fun gs l => if overP now l = true then insO l gs else gs) []
def overU (now : Int) (us : List Lease) : List Lease × List Lease := if bookOk us = true then (leftL (overP now) us, goneO now us) else (us, [])
theorem insO_perm (l : Lease) : ∀ gs : List Lease, (insO l gs).Perm (l :: gs)
  | [] => List.Perm.refl _
  | g :: gs => by
    rw [insO]
    split
    · exact List.Perm.refl _
    · exact ((List.perm_cons g).2 (insO_perm l gs)).trans (List.Perm.swap _ _ _)
theorem insO_so (l : Lease) : ∀ gs : List Lease, SoS (·.ends) (·.id) gs → (∀ g ∈ gs, g.id < l.id) → SoS (·.ends) (·.id) (insO l gs)
  | [], _, _ => List.pairwise_singleton _ _
  | g :: gs, hs, hi => by
    obtain ⟨h1, h2⟩ := List.pairwise_cons.1 hs
    rw [insO]
    split
    · next hc =>
      have hg : ltZ (α := Lease) (·.ends) (·.id) l g := ltZ_hi hc
      refine List.pairwise_cons.2 ⟨fun x hx => ?_, hs⟩
      rcases List.mem_cons.1 hx with rfl | hx
      · exact hg
      · exact hg.trans (h1 x hx)
    · next hc =>
      refine List.pairwise_cons.2 ⟨fun x hx => ?_, insO_so l gs h2 fun y hy => hi y (List.mem_cons_of_mem _ hy)⟩
      rcases List.mem_cons.1 ((insO_perm l gs).mem_iff.1 hx) with rfl | hx
      · exact ltZ_lo (hi g List.mem_cons_self) hc
      · exact h1 x hx
theorem goneO_snoc {now : Int} {us : List Lease} {k : Nat} (hk : k < us.length) : goneO now (us.take (k + 1)) = if overP now us[k] = true then insO us[k] (goneO now (us.take k)) else goneO now (us.take k) := by
  unfold goneO
  rw [List.take_succ_eq_append_getElem hk, List.foldl_append]; rfl
theorem goneO_len {now : Int} : ∀ (us : List Lease) (gs : List Lease), (us.foldl (fun gs l => if overP now l = true then insO l gs else gs) gs).length ≤ gs.length + us.length
  | [], gs => Nat.le_refl _
  | u :: us, gs => by
    rw [List.foldl_cons]
    refine Nat.le_trans (goneO_len us _) ?_
    split
    · rw [(insO_perm u gs).length_eq, List.length_cons, List.length_cons]; omega
    · rw [List.length_cons]; omega
theorem overU_len (now : Int) (us : List Lease) : (overU now us).1.length ≤ us.length ∧ (overU now us).2.length ≤ us.length := by
  unfold overU
  split
  · exact ⟨leftL_len _ _, by have := goneO_len (now := now) us []; simpa [goneO] using this⟩
  · exact ⟨Nat.le_refl _, Nat.zero_le _⟩
theorem goneO_inv {now : Int} {us : List Lease} (h : bookOk us = true) : ∀ k : Nat, k ≤ us.length → (goneO now (us.take k)).Perm (goneL (overP now) (us.take k)) ∧ SoS (·.ends) (·.id) (goneO now (us.take k))
  | 0, _ => ⟨List.Perm.refl _, List.Pairwise.nil⟩
  | k + 1, hk => by
    obtain ⟨h1, h2⟩ := goneO_inv (now := now) h k (by omega)
    rw [goneO_snoc (show k < us.length by omega)]
    cases hp : overP now (us[k]'(by omega)) with
    | false => rw [if_neg (by decide), goneL_miss (by omega) hp]; exact ⟨h1, h2⟩
    | true =>
      rw [if_pos rfl, goneL_hit (by omega) hp]
      refine ⟨(insO_perm _ _).trans ?_, insO_so _ _ h2 fun g hg => ?_⟩
      · exact ((List.perm_cons _).2 h1).trans (List.perm_append_singleton _ _).symm
      · have hm := (List.mem_filter.1 (h1.mem_iff.1 hg)).1
        obtain ⟨t, ht, rfl⟩ := List.getElem_of_mem hm
        rw [List.getElem_take]
        rw [List.length_take] at ht
        exact ids_lt h (by omega) (by omega)
/-- What is sorted is what the reference puts together. -/
theorem over_sorted {now : Int} {us Z : List Lease} (h : bookOk us = true) (hz : Z.Perm (goneL (overP now) us)) (hs : SoS (·.ends) (·.id) Z) : Z = goneO now us := by
  obtain ⟨h1, h2⟩ := goneO_inv (now := now) h us.length (Nat.le_refl _)
  rw [List.take_length] at h1 h2
  exact so_unique (hz.trans h1.symm) hs h2
theorem gone_ids {now : Int} {us : List Lease} (h : bookOk us = true) : (goneL (overP now) us).Pairwise fun x y => x.id < y.id := by
  refine List.Pairwise.filter _ ?_
  rw [List.pairwise_iff_getElem]
  exact fun i j hi hj hij => ids_lt h hj hij
end Go.Proofs.YtlmmeeeoljlgcaaDoor
