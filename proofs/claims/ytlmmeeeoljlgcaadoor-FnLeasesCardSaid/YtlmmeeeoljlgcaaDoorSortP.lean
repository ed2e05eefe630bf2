/- A stable sort in plain words. No condition. -/
set_option linter.unusedVariables false
set_option linter.unusedSimpArgs false
namespace Go.Proofs.YtlmmeeeoljlgcaaDoor
section
variable {α : Type} (en id : α → Int)
def ltZ (x y : α) : Prop := en x < en y ∨ (en x = en y ∧ id x < id y)
def SoS (xs : List α) : Prop := xs.Pairwise (ltZ en id)
def BeS (us vs : List α) : Prop := ∀ u ∈ us, ∀ v ∈ vs, id u < id v
end
variable {α : Type} {en id : α → Int}
theorem ltZ.trans {x y z : α} (h1 : ltZ en id x y) (h2 : ltZ en id y z) : ltZ en id x z := by
  unfold ltZ at *; omega
theorem ltZ.asymm {x y : α} (h1 : ltZ en id x y) (h2 : ltZ en id y x) : False := by
  unfold ltZ at *; omega
theorem ltZ_lo {x y : α} (h : id x < id y) (h2 : ¬ en y < en x) : ltZ en id x y := by
  unfold ltZ; omega
theorem ltZ_hi {x y : α} (h2 : en y < en x) : ltZ en id y x := by
  unfold ltZ; omega
theorem swap_up {A B C : List α} {x z : α} : ((A ++ x :: (B ++ z :: C)).set A.length z).set (A.length + 1 + B.length) x = A ++ z :: (B ++ x :: C) := by
  rw [List.set_append_right _ _ (Nat.le_refl _), Nat.sub_self, List.set_cons_zero, List.set_append_right _ _ (by omega), show A.length + 1 + B.length - A.length = B.length + 1 by omega, List.set_cons_succ, List.set_append_right _ _ (Nat.le_refl _), Nat.sub_self, List.set_cons_zero]
theorem swap_dn {A B C : List α} {x z : α} : ((A ++ x :: (B ++ z :: C)).set (A.length + 1 + B.length) x).set A.length z = A ++ z :: (B ++ x :: C) := by
  rw [List.set_append_right _ _ (by omega), show A.length + 1 + B.length - A.length = B.length + 1 by omega, List.set_cons_succ, List.set_append_right _ _ (Nat.le_refl _), Nat.sub_self, List.set_cons_zero, List.set_append_right _ _ (Nat.le_refl _), Nat.sub_self, List.set_cons_zero]
theorem get_at {A C : List α} {x : α} (h : A.length < (A ++ x :: C).length) : (A ++ x :: C)[A.length] = x := by
  rw [List.getElem_append_right (Nat.le_refl _)]; simp
/-- The uniqueness of what is sorted. -/
theorem so_unique : ∀ {xs ys : List α}, xs.Perm ys → SoS en id xs → SoS en id ys → xs = ys
  | [], ys, h, _, _ => h.nil_eq
  | x :: xs, [], h, _, _ => absurd h.length_eq (by simp)
  | x :: xs, y :: ys, h, h1, h2 => by
    obtain ⟨a1, a2⟩ := List.pairwise_cons.1 h1
    obtain ⟨b1, b2⟩ := List.pairwise_cons.1 h2
    have hx : x ∈ y :: ys := h.mem_iff.1 List.mem_cons_self
    have hy : y ∈ x :: xs := h.mem_iff.2 List.mem_cons_self
    have e : x = y := by
      rcases List.mem_cons.1 hx with e | hx
      · exact e
      rcases List.mem_cons.1 hy with e | hy
      · exact e.symm
      exact (ltZ.asymm (a1 y hy) (b1 x hx)).elim
    subst e
    rw [so_unique ((List.perm_cons x).1 h) a2 b2]
/-- Two parts, each cut in two, sorted in the middle. -/
theorem sym_join {U1 U2 V1 V2 Z1 Z2 : List α} (hU : SoS en id (U1 ++ U2)) (hV : SoS en id (V1 ++ V2)) (hB : BeS id (U1 ++ U2) (V1 ++ V2))
    (h1 : ∀ u v, U1.getLast? = some u → V2.head? = some v → ¬ en v < en u) (h2 : ∀ v u, V1.getLast? = some v → U2.head? = some u → en v < en u)
    (p1 : Z1.Perm (U1 ++ V1)) (s1 : SoS en id Z1) (p2 : Z2.Perm (U2 ++ V2)) (s2 : SoS en id Z2) : SoS en id (Z1 ++ Z2) ∧ (Z1 ++ Z2).Perm ((U1 ++ U2) ++ (V1 ++ V2)) := by
  obtain ⟨u1, u2, u3⟩ := List.pairwise_append.1 hU
  obtain ⟨v1, v2, v3⟩ := List.pairwise_append.1 hV
  constructor
  · refine List.pairwise_append.2 ⟨s1, s2, fun x hx y hy => ?_⟩
    have hx := p1.mem_iff.1 hx
    have hy := p2.mem_iff.1 hy
    rcases List.mem_append.1 hx with hx | hx <;> rcases List.mem_append.1 hy with hy | hy
    · exact u3 x hx y hy
    · -- x in U1, y in V2
      have hne : U1 ≠ [] := by rintro rfl; cases hx
      have hlast : ltZ en id x (U1.getLast hne) ∨ x = U1.getLast hne := by
        have e := List.dropLast_concat_getLast hne
        rw [← e] at hx u1
        rcases List.mem_append.1 hx with hx | hx
        · exact .inl ((List.pairwise_append.1 u1).2.2 x hx _ (List.mem_singleton.2 rfl))
        · exact .inr (List.mem_singleton.1 hx)
      cases V2 with
      | nil => cases hy
      | cons z V2 =>
        have hz : ltZ en id (U1.getLast hne) z := ltZ_lo (hB _ (List.mem_append_left _ (List.getLast_mem hne)) _ (List.mem_append_right _ List.mem_cons_self)) (h1 _ _ (List.getLast?_eq_some_getLast hne) rfl)
        have hxz : ltZ en id x z := by
          rcases hlast with h | h
          · exact h.trans hz
          · rw [h]; exact hz
        rcases List.mem_cons.1 hy with rfl | hy
        · exact hxz
        · exact hxz.trans ((List.pairwise_cons.1 v2).1 y hy)
    · have hne : V1 ≠ [] := by rintro rfl; cases hx
      have hlast : ltZ en id x (V1.getLast hne) ∨ x = V1.getLast hne := by
        have e := List.dropLast_concat_getLast hne
        rw [← e] at hx v1
        rcases List.mem_append.1 hx with hx | hx
        · exact .inl ((List.pairwise_append.1 v1).2.2 x hx _ (List.mem_singleton.2 rfl))
        · exact .inr (List.mem_singleton.1 hx)
      cases U2 with
      | nil => cases hy
      | cons z U2 =>
        have hz : ltZ en id (V1.getLast hne) z := ltZ_hi (h2 _ _ (List.getLast?_eq_some_getLast hne) rfl)
        have hxz : ltZ en id x z := by
          rcases hlast with h | h
          · exact h.trans hz
          · rw [h]; exact hz
        rcases List.mem_cons.1 hy with rfl | hy
        · exact hxz
        · exact hxz.trans ((List.pairwise_cons.1 u2).1 y hy)
    · exact v3 x hx y hy
  · refine (p1.append p2).trans ?_
    rw [List.append_assoc, List.append_assoc]
    refine List.Perm.append_left _ ?_
    rw [← List.append_assoc, ← List.append_assoc]
    exact List.Perm.append_right _ List.perm_append_comm
/-- One element put behind those that are smaller. -/
theorem put_first {u : α} {V1 V2 : List α} (hV : SoS en id (V1 ++ V2)) (hB : ∀ v ∈ V1 ++ V2, id u < id v) (h1 : ∀ v, V1.getLast? = some v → en v < en u) (h2 : ∀ v, V2.head? = some v → ¬ en v < en u) : SoS en id (V1 ++ u :: V2) ∧ (V1 ++ u :: V2).Perm (u :: (V1 ++ V2)) := by
  have h := sym_join (U1 := []) (U2 := [u]) (V1 := V1) (V2 := V2) (Z1 := V1) (Z2 := u :: V2) (en := en) (id := id) (List.pairwise_singleton _ _) hV (fun x hx v hv => by rw [List.mem_singleton.1 hx]; exact hB v hv) (fun _ _ h => by cases h) (fun v z hv hz => by injection hz with hz; rw [← hz]; exact h1 v hv) (List.Perm.refl _) (List.pairwise_append.1 hV).1 (List.Perm.refl _) (List.pairwise_cons.2 ⟨fun v hv => ?_, (List.pairwise_append.1 hV).2.1⟩)
  · exact h
  · cases V2 with
    | nil => cases hv
    | cons z V2 =>
      have hz : ltZ en id u z := ltZ_lo (hB z (List.mem_append_right _ List.mem_cons_self)) (h2 z rfl)
      rcases List.mem_cons.1 hv with rfl | hv
      · exact hz
      · exact hz.trans ((List.pairwise_cons.1 (List.pairwise_append.1 hV).2.1).1 v hv)
theorem put_last {v : α} {U1 U2 : List α} (hU : SoS en id (U1 ++ U2)) (hB : ∀ u ∈ U1 ++ U2, id u < id v) (h1 : ∀ u, U1.getLast? = some u → ¬ en v < en u) (h2 : ∀ u, U2.head? = some u → en v < en u) : SoS en id (U1 ++ v :: U2) ∧ (U1 ++ v :: U2).Perm ((U1 ++ U2) ++ [v]) := by
  have h := sym_join (U1 := U1) (U2 := U2) (V1 := [v]) (V2 := []) (Z1 := U1 ++ [v]) (Z2 := U2) (en := en) (id := id) hU (List.pairwise_singleton _ _) (fun x hx z hz => by rw [List.mem_singleton.1 hz]; exact hB x hx) (fun _ _ _ h => by cases h) (fun z u hz hu => by injection hz with hz; rw [← hz]; exact h2 u hu) (List.Perm.refl _) (List.pairwise_append.2 ⟨(List.pairwise_append.1 hU).1, List.pairwise_singleton _ _, fun x hx y hy => ?_⟩) (by simp) (List.pairwise_append.1 hU).2.1
  · rw [List.append_assoc] at h; simpa using h
  · rw [List.mem_singleton.1 hy]
    have hne : U1 ≠ [] := by rintro rfl; cases hx
    have e := List.dropLast_concat_getLast hne
    have u1 := (List.pairwise_append.1 hU).1
    have hl : ltZ en id (U1.getLast hne) v := ltZ_lo (hB _ (List.mem_append_left _ (List.getLast_mem hne))) (h1 _ (List.getLast?_eq_some_getLast hne))
    rw [← e] at hx u1
    rcases List.mem_append.1 hx with hx | hx
    · exact ((List.pairwise_append.1 u1).2.2 x hx _ (List.mem_singleton.2 rfl)).trans hl
    · rw [List.mem_singleton.1 hx]; exact hl
/-- Sorted in chunks of k. -/
inductive Chk (en id : α → Int) (k : Nat) : List α → List α → Prop
  | last {u u' : List α} : u.length ≤ k → u'.Perm u → SoS en id u' → Chk en id k u u'
  | more {u u' r r' : List α} : u.length = k → u'.Perm u → SoS en id u' → Chk en id k r r' → Chk en id k (u ++ r) (u' ++ r')
/-- Full chunks of k, each sorted. -/
inductive Ful (en id : α → Int) (k : Nat) : List α → List α → Prop
  | nil : Ful en id k [] []
  | snoc {u u' r r' : List α} : Ful en id k r r' → u.length = k → u'.Perm u → SoS en id u' → Ful en id k (r ++ u) (r' ++ u')
theorem Ful.len {k : Nat} {r r' : List α} (h : Ful en id k r r') : r'.length = r.length := by
  induction h with
  | nil => rfl
  | snoc _ _ p _ ih => rw [List.length_append, List.length_append, ih, p.length_eq]
theorem Chk.len {k : Nat} {r r' : List α} (h : Chk en id k r r') : r'.length = r.length := by
  induction h with
  | last _ p _ => exact p.length_eq
  | more _ p _ _ ih => rw [List.length_append, List.length_append, ih, p.length_eq]
theorem Ful.chk {k : Nat} {r r' : List α} (h : Ful en id k r r') : ∀ {u u' : List α}, Chk en id k u u' → Chk en id k (r ++ u) (r' ++ u') := by
  induction h with
  | nil => intro u u' h; exact h
  | snoc h1 h2 h3 h4 ih =>
    intro v v' hv
    rw [List.append_assoc, List.append_assoc]
    exact ih (.more h2 h3 h4 hv)
/-- The first chunk of two or more. -/
theorem Chk.cut {k : Nat} {r r' : List α} (h : Chk en id k r r') (hk : k < r.length) : ∃ u u' t t', r = u ++ t ∧ r' = u' ++ t' ∧ u.length = k ∧ u'.Perm u ∧ SoS en id u' ∧ Chk en id k t t' := by
  cases h with
  | last h _ _ => omega
  | more h1 h2 h3 h4 => exact ⟨_, _, _, _, rfl, rfl, h1, h2, h3, h4⟩
theorem Chk.one {k : Nat} {r r' : List α} (h : Chk en id k r r') (hk : r.length ≤ k) : r'.Perm r ∧ SoS en id r' := by
  cases h with
  | last _ p s => exact ⟨p, s⟩
  | @more u u' t t' h1 h2 h3 h4 =>
    have ht : t = [] := by rw [List.length_append] at hk; exact List.eq_nil_of_length_eq_zero (by omega)
    have ht' : t' = [] := by have := h4.len; rw [ht] at this; exact List.eq_nil_of_length_eq_zero this
    subst ht ht'
    rw [List.append_nil, List.append_nil]; exact ⟨h2, h3⟩
theorem Chk.up {k m : Nat} {r r' : List α} (h : Chk en id k r r') (hk : r.length ≤ k) (hm : k ≤ m) : Chk en id m r r' := by
  obtain ⟨p, s⟩ := h.one hk
  exact .last (by omega) p s
theorem Chk.two {k : Nat} {r r' : List α} (h : Chk en id k r r') (hk0 : 0 < k) (hk : 2 * k ≤ r.length) : ∃ u u' v v' t t', r = u ++ (v ++ t) ∧ r' = u' ++ (v' ++ t') ∧ u.length = k ∧ u'.Perm u ∧ SoS en id u' ∧ v.length = k ∧ v'.Perm v ∧ SoS en id v' ∧ Chk en id k t t' := by
  obtain ⟨u, u', t, t', rfl, rfl, h1, h2, h3, h4⟩ := h.cut (by omega)
  rw [List.length_append] at hk
  by_cases h5 : k < t.length
  · obtain ⟨v, v', s, s', rfl, rfl, g1, g2, g3, g4⟩ := h4.cut h5
    exact ⟨u, u', v, v', s, s', rfl, rfl, h1, h2, h3, g1, g2, g3, g4⟩
  · obtain ⟨p, q⟩ := h4.one (by omega)
    exact ⟨u, u', t, t', [], [], by rw [List.append_nil], by rw [List.append_nil], h1, h2, h3, by omega, p, q, .last (by simp) (List.Perm.refl _) List.Pairwise.nil⟩
theorem bes_perm {P u v S u' v' : List α} (h : (P ++ (u ++ (v ++ S))).Pairwise fun x y => id x < id y) (hu : u'.Perm u) (hv : v'.Perm v) : BeS id u' v' := by
  have h1 := (List.pairwise_append.1 (List.pairwise_append.1 h).2.1).2.2
  exact fun x hx y hy => h1 x (hu.mem_iff.1 hx) y (List.mem_append_left _ (hv.mem_iff.1 hy))
/-- A round of the inner loop. -/
theorem ful_round {k : Nat} {D D' u u' v v' Z : List α} (h : Ful en id (2 * k) D D') (hu : u.length = k) (hv : v.length = k) (pu : u'.Perm u) (pv : v'.Perm v) (pz : Z.Perm (u' ++ v')) (sz : SoS en id Z) : Ful en id (2 * k) (D ++ (u ++ v)) (D' ++ Z) :=
  .snoc h (by rw [List.length_append]; omega) (pz.trans (pu.append pv)) sz
end Go.Proofs.YtlmmeeeoljlgcaaDoor
