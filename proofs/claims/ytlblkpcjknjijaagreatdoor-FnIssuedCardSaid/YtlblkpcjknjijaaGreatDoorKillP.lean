/- Piles: where a serial number stands among the revoked ones, and what a revocation answers, in plain words. No condition. -/
import Derived.Test.YtlblkpcjknjijaaGreatDoorCertP
set_option linter.unusedVariables false
set_option linter.unusedSimpArgs false
namespace Go.Proofs.YtlblkpcjknjijaaGreatDoor
open Go.RowKit
set_option linter.unusedVariables false
/-- The list behind k rounds of a loop that puts x in at i. -/
def insAt {α : Type} (i : Nat) (x : α) (l : List α) (k : Nat) : List α := if k ≤ i then l.take k else l.take i ++ x :: (l.drop i).take (k - i)
section
variable {α : Type} {i k : Nat} {x : α} {l : List α}
theorem insAt_zero : insAt i x l 0 = [] := by simp [insAt]
theorem insAt_below (hk : k < l.length) (h : k < i) : insAt i x l (k + 1) = insAt i x l k ++ [l[k]] := by
  rw [insAt, insAt, if_pos (by omega), if_pos (by omega), List.take_succ_eq_append_getElem hk]
theorem insAt_at (hk : i < l.length) : insAt i x l (i + 1) = insAt i x l i ++ [x] ++ [l[i]] := by
  rw [insAt, insAt, if_neg (by omega), if_pos (Nat.le_refl _)]
  have e : i + 1 - i = 1 := by omega
  have e2 : (l.drop i).take 1 = [l[i]] := by rw [List.drop_eq_getElem_cons hk]; rfl
  rw [e, e2]
  simp
theorem insAt_above (hk : k < l.length) (h : i < k) : insAt i x l (k + 1) = insAt i x l k ++ [l[k]] := by
  rw [insAt, insAt, if_neg (by omega), if_neg (by omega)]
  have e : k + 1 - i = (k - i) + 1 := by omega
  have hl : k - i < (l.drop i).length := by rw [List.length_drop]; omega
  have hg : (l.drop i)[k - i] = l[k] := by rw [List.getElem_drop]; congr 1; omega
  rw [e, List.take_succ_eq_append_getElem hl, hg]
  simp
theorem insAt_end (h : i < l.length) : insAt i x l l.length = l.take i ++ x :: l.drop i := by
  rw [insAt, if_neg (by omega)]
  have e : (l.drop i).take (l.length - i) = l.drop i := List.take_of_length_le (by rw [List.length_drop]; omega)
  rw [e]
theorem insAt_last : insAt l.length x l l.length ++ [x] = l.take l.length ++ x :: l.drop l.length := by
  rw [insAt, if_pos (Nat.le_refl _)]
  simp
theorem insAt_len (h : i ≤ l.length) : (l.take i ++ x :: l.drop i).length = l.length + 1 := by
  rw [List.length_append, List.length_cons, List.length_take, List.length_drop]; omega
theorem insAt_le (h : i ≤ l.length) (hk : k ≤ l.length) : (insAt i x l k).length ≤ k + 1 := by
  rw [insAt]
  split
  · rw [List.length_take]; omega
  · rw [List.length_append, List.length_cons, List.length_take, List.length_take, List.length_drop]; omega
end
def posD (x : Int) (ds : List Int) : Nat := (ds.filter fun d => decide (d < x)).length
theorem posD_spec {x : Int} : ∀ {ds : List Int}, ds.Pairwise (· < ·) → x ∉ ds → posD x ds ≤ ds.length ∧ (∀ t (h : t < ds.length), t < posD x ds → ds[t] < x) ∧ (∀ t (h : t < ds.length), posD x ds ≤ t → x < ds[t])
  | [], _, _ => ⟨Nat.le_refl _, fun t h => absurd h (Nat.not_lt_zero _), fun t h => absurd h (Nat.not_lt_zero _)⟩
  | a :: ds, hp, hx => by
    have hx2 : x ∉ ds := fun h => hx (List.mem_cons_of_mem _ h)
    have hxa : x ≠ a := fun h => hx (by rw [h]; exact List.mem_cons_self)
    have h1 := (List.pairwise_cons.1 hp).1
    obtain ⟨i1, i2, i3⟩ := posD_spec (List.pairwise_cons.1 hp).2 hx2
    by_cases h : a < x
    · have e : posD x (a :: ds) = posD x ds + 1 := by rw [posD, List.filter_cons_of_pos (by simpa using h)]; rfl
      rw [e]
      refine ⟨by simp; omega, fun t ht hte => ?_, fun t ht hte => ?_⟩
      · cases t with
        | zero => exact h
        | succ t => exact i2 t (by simpa using ht) (by omega)
      · cases t with
        | zero => omega
        | succ t => exact i3 t (by simpa using ht) (by omega)
    · have e : posD x (a :: ds) = 0 := by
        rw [posD, List.length_eq_zero_iff, List.filter_eq_nil_iff]
        intro b hb
        rcases List.mem_cons.1 hb with rfl | hb
        · simpa using h
        · have := h1 b hb
          simp; omega
      rw [e]
      refine ⟨Nat.zero_le _, fun t _ hte => absurd hte (Nat.not_lt_zero _), fun t ht _ => ?_⟩
      cases t with
      | zero => show x < a; omega
      | succ t =>
        have ht2 : t < ds.length := by simpa using ht
        have := h1 ds[t] (List.getElem_mem ht2)
        show x < ds[t]; omega
theorem dead_iff {ds : List Int} : deadRise ds ds.length = true ↔ (∀ d ∈ ds, 1 ≤ d ∧ d ≤ 1000000000) ∧ ds.Pairwise (· < ·) := by
  constructor
  · intro h
    refine ⟨fun d hd => ?_, ?_⟩
    · obtain ⟨i, hi, rfl⟩ := List.getElem_of_mem hd
      exact (dead_at h i hi).1
    · rw [List.pairwise_iff_getElem]
      intro i j hi hj hij
      exact dead_lt h hj hij
  · rintro ⟨h1, h2⟩
    rw [deadRise, List.all_eq_true]
    intro i hi
    have hi : i < ds.length := by simpa using hi
    rw [deadStep, List.getElem?_eq_getElem hi]
    simp only [Bool.and_eq_true, Bool.or_eq_true, decide_eq_true_eq, inR_true]
    refine ⟨h1 _ (List.getElem_mem hi), ?_⟩
    cases i with
    | zero => exact .inl rfl
    | succ i =>
      right
      rw [Nat.add_sub_cancel, List.getElem?_eq_getElem (by omega : i < ds.length)]
      rw [List.pairwise_iff_getElem] at h2
      exact h2 i (i + 1) (by omega) hi (by omega)
theorem dead_ins {ds : List Int} {x : Int} (h : deadRise ds ds.length = true) (hx : x ∉ ds) (h1 : 1 ≤ x) (h2 : x ≤ 1000000000) : deadRise (ds.take (posD x ds) ++ x :: ds.drop (posD x ds)) (ds.take (posD x ds) ++ x :: ds.drop (posD x ds)).length = true := by
  obtain ⟨a1, a2⟩ := dead_iff.1 h
  obtain ⟨p1, p2, p3⟩ := posD_spec a2 hx
  refine dead_iff.2 ⟨fun d hd => ?_, ?_⟩
  · rcases List.mem_append.1 hd with hd | hd
    · exact a1 d (List.mem_of_mem_take hd)
    · rcases List.mem_cons.1 hd with rfl | hd
      · exact ⟨h1, h2⟩
      · exact a1 d (List.mem_of_mem_drop hd)
  · rw [List.pairwise_append]
    refine ⟨a2.sublist (List.take_sublist _ _), ?_, ?_⟩
    · rw [List.pairwise_cons]
      refine ⟨fun b hb => ?_, a2.sublist (List.drop_sublist _ _)⟩
      obtain ⟨j, hj, rfl⟩ := List.getElem_of_mem hb
      rw [List.getElem_drop]
      exact p3 _ (by rw [List.length_drop] at hj; omega) (by omega)
    · intro a ha b hb
      obtain ⟨i, hi, rfl⟩ := List.getElem_of_mem ha
      rw [List.getElem_take]
      rw [List.length_take] at hi
      have q1 := p2 i (by omega) (by omega)
      rcases List.mem_cons.1 hb with rfl | hb
      · exact q1
      · obtain ⟨j, hj, rfl⟩ := List.getElem_of_mem hb
        rw [List.length_drop] at hj
        rw [List.getElem_drop]
        exact Int.lt_trans q1 (p3 _ (by omega) (by omega))
def hasSer (x : Int) (c : Cert) : Bool := c.ser == x
/-- What KillCert answers. -/
def killU (cs : List Cert) (ks : List CertKey) (ds : List Int) (x : Int) : List Int × Bool :=
  if (pileOk cs ks ds && anyP (hasSer x) cs) = true then
    if hasI ds x = true then (ds, true)
    else if ds.length = 60 then (ds, false)
    else (ds.take (posD x ds) ++ x :: ds.drop (posD x ds), true)
  else (ds, false)
theorem posD_le (x : Int) (ds : List Int) : posD x ds ≤ ds.length := List.length_filter_le _ _
theorem killU_len (cs : List Cert) (ks : List CertKey) (ds : List Int) (x : Int) : (killU cs ks ds x).1.length ≤ ds.length + 1 := by
  unfold killU
  split
  · split
    · exact Nat.le_succ _
    · split
      · exact Nat.le_succ _
      · rw [insAt_len (posD_le _ _)]; exact Nat.le_refl _
  · exact Nat.le_succ _
theorem pile_ins {cs : List Cert} {ks : List CertKey} {ds : List Int} {x : Int} (h : pileOk cs ks ds = true) (ha : anyP (hasSer x) cs = true) (hx : hasI ds x = false) : pileOk cs ks (ds.take (posD x ds) ++ x :: ds.drop (posD x ds)) = !decide (ds.length = 60) := by
  obtain ⟨h1, h2, h3, h4, h5⟩ := pile_iff h
  have hx2 : x ∉ ds := by rw [← Bool.not_eq_true, hasI_iff] at hx; exact hx
  have hb : 1 ≤ x ∧ x ≤ 1000000000 := by
    rw [anyP, List.any_eq_true] at ha
    obtain ⟨c, hc, he⟩ := ha
    obtain ⟨i, hi, rfl⟩ := List.getElem_of_mem hc
    have h6 := (pile_at h5 (Nat.le_refl _) h2 i hi).1
    have he : cs[i].ser = x := by simpa [hasSer] using he
    simp only [certOk, Bool.and_eq_true, inR_true] at h6
    rw [← he]; exact h6.1
  have h7 := dead_ins h4 hx2 hb.1 hb.2
  rw [pileOk, h7, h5, insAt_len (posD_le _ _)]
  by_cases h8 : ds.length = 60
  · simp [h1, h2, h8]
  · simp [h1, h2, h8]; omega
end Go.Proofs.YtlblkpcjknjijaaGreatDoor
