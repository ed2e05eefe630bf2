/- FnLeases in plain words: what is added is found, counted, and dropped by its end, its token, its path. No condition. -/
import Derived.Test.YtlmmeeeoljlgcaaDoorAddP
import Derived.Test.YtlmmeeeoljlgcaaDoorOverP
set_option linter.unusedVariables false
set_option linter.unusedSimpArgs false
namespace Go.Proofs.YtlmmeeeoljlgcaaDoor
theorem add_yes {us rs : List Lease} {l : Lease} (h : addU us l = (rs, true)) : bookOk us = true ∧ bookOk (us ++ [l]) = true ∧ rs = us ++ [l] := by
  unfold addU addP at h
  split at h
  · rename_i h1
    split at h
    · rename_i h2
      injection h with h3 h4
      exact ⟨h1, h2, h3.symm⟩
    · injection h with h3 h4; cases h4
  · injection h with h3 h4; cases h4
theorem last_ok {us : List Lease} {l : Lease} (h : bookOk (us ++ [l]) = true) : leaseOk l = true := (bookOk_iff.1 h).2.1 l (by simp)
theorem last_path {us : List Lease} {l : Lease} (h : bookOk (us ++ [l]) = true) : pathF l.path = true := (lease_iff (last_ok h)).2.2.1
theorem under_self {p : ByteArray} (h : pathF p = true) : underF p p = true := by
  unfold underF
  rw [h, (under_iff _ _).2 (.inl rfl)]
  rfl
theorem found_last {us : List Lease} {l : Lease} (h : bookOk (us ++ [l]) = true) : findU (us ++ [l]) l.id = (l, true) := by
  have h9 := findL_at h (k := us.length) (by simp) (x := l.id) (by simp)
  rw [findU, if_pos h, h9]
  simp
theorem count_last {us : List Lease} {l : Lease} (h0 : bookOk us = true) (h : bookOk (us ++ [l]) = true) : cntU (us ++ [l]) l.path = cntU us l.path + 1 ∧ 0 ≤ cntU us l.path ∧ cntU us l.path ≤ us.length := by
  have hp := last_path h
  have hu : isUnder l.path l = true := under_self hp
  have hle := goneL_len (isUnder l.path) us
  unfold cntU
  rw [h0, h, hp]
  simp only [Bool.and_self, if_true]
  have h1 : goneL (isUnder l.path) (us ++ [l]) = goneL (isUnder l.path) us ++ [l] := by simp [goneL, List.filter_append, hu]
  rw [h1, List.length_append]
  refine ⟨by simp, by omega, by omega⟩
theorem left_gone (p : Lease → Bool) : ∀ us : List Lease, (leftL p us).length + (goneL p us).length = us.length
  | [] => rfl
  | u :: us => by
    have := left_gone p us
    unfold leftL goneL at *
    cases h : p u <;> simp [h] <;> omega
theorem gone_mem {p : Lease → Bool} {us : List Lease} {l : Lease} (h : p l = true) : l ∈ goneL p (us ++ [l]) := List.mem_filter.2 ⟨by simp, h⟩
/-- By the end: what is left and what is gone are together as many; the lease is gone; none of the gone ends later; they are strictly sorted. -/
theorem over_last {us : List Lease} {l : Lease} (h : bookOk (us ++ [l]) = true) : overU l.ends (us ++ [l]) = (leftL (overP l.ends) (us ++ [l]), goneO l.ends (us ++ [l])) ∧ (leftL (overP l.ends) (us ++ [l])).length + (goneO l.ends (us ++ [l])).length = (us ++ [l]).length ∧ l ∈ goneO l.ends (us ++ [l]) ∧ (∀ g ∈ goneO l.ends (us ++ [l]), g ∈ us ++ [l] ∧ ¬ l.ends < g.ends) ∧ SoS (·.ends) (·.id) (goneO l.ends (us ++ [l])) ∧ (∀ m ∈ leftL (overP l.ends) (us ++ [l]), m ∈ us ++ [l] ∧ l.ends < m.ends ∧ 0 ≤ m.ends) := by
  obtain ⟨h1, h2⟩ := goneO_inv (now := l.ends) h (us ++ [l]).length (Nat.le_refl _)
  rw [List.take_length] at h1 h2
  refine ⟨by rw [overU, if_pos h], by rw [h1.length_eq]; exact left_gone _ _, h1.mem_iff.2 (gone_mem (by simp [overP])), fun g hg => ?_, h2, fun m hm => ?_⟩
  · obtain ⟨h3, h4⟩ := List.mem_filter.1 (h1.mem_iff.1 hg)
    refine ⟨h3, ?_⟩
    simp [overP] at h4
    omega
  · obtain ⟨h3, h4⟩ := List.mem_filter.1 hm
    simp [overP] at h4
    have := (lease_iff ((bookOk_iff.1 h).2.1 m h3)).2.2.2.1
    have h6 := (lease_iff ((bookOk_iff.1 h).2.1 m h3)).2.2.2.2.2
    exact ⟨h3, h4, by omega⟩
theorem sorted_at {gs : List Lease} (h : SoS (·.ends) (·.id) gs) {k : Nat} (hk : k + 1 < gs.length) : ¬ gs[k + 1].ends < gs[k].ends ∧ ¬ (gs[k].ends = gs[k + 1].ends ∧ gs[k + 1].id ≤ gs[k].id) := by
  have := List.pairwise_iff_getElem.1 h k (k + 1) (by omega) hk (by omega)
  unfold ltZ at this
  dsimp only at this
  constructor
  · omega
  · omega
theorem of_last {us : List Lease} {l : Lease} (h : bookOk (us ++ [l]) = true) : dropByU (decide ([l.token].length ≤ 200)) (isOf [l.token]) (us ++ [l]) = (leftL (isOf [l.token]) (us ++ [l]), goneL (isOf [l.token]) (us ++ [l])) ∧ l ∈ goneL (isOf [l.token]) (us ++ [l]) ∧ ∀ g ∈ goneL (isOf [l.token]) (us ++ [l]), g ∈ us ++ [l] ∧ g.token = l.token := by
  refine ⟨by rw [dropByU, if_pos]; rw [h]; rfl, gone_mem (by simp [isOf, hasI]), fun g hg => ?_⟩
  obtain ⟨h3, h4⟩ := List.mem_filter.1 hg
  refine ⟨h3, ?_⟩
  have h5 : hasI [l.token] g.token = true := h4
  simpa using hasI_iff.1 h5
theorem under_last {us : List Lease} {l : Lease} (h : bookOk (us ++ [l]) = true) : dropByU (pathF l.path) (isUnder l.path) (us ++ [l]) = (leftL (isUnder l.path) (us ++ [l]), goneL (isUnder l.path) (us ++ [l])) ∧ l ∈ goneL (isUnder l.path) (us ++ [l]) := by
  refine ⟨by rw [dropByU, if_pos]; rw [h, last_path h]; rfl, gone_mem (under_self (last_path h))⟩
end Go.Proofs.YtlmmeeeoljlgcaaDoor
