/- Certificates and piles: which are valid, in plain words. No condition. -/
import Derived.Test.YtaaloiloklnbiaaGreatDoorElCert
import Derived.Test.YtaaloiloklnbiaaGreatDoorElCertKey
import Derived.Test.YtaaloiloklnbiaaGreatDoorM5
import Derived.Test.YtaaloiloklnbiaaGreatDoorSlice
namespace Go.Proofs.YtaaloiloklnbiaaGreatDoor
open Go.RowKit
set_option linter.unusedVariables false
abbrev valCert (c : Cert) : Value := .agg #[.int .i64 c.ser, .string c.owner, .int .i64 c.iss, .int .i64 c.from_, .int .i64 c.to_, .bool c.ca, .int .i64 c.depth, .int .i64 c.mark]
def certOk (c : Cert) : Bool := inR c.ser 1 1000000000 && (pathF c.owner && (inR c.iss 0 1000000000 && ((c.iss != c.ser) && (inR c.from_ 0 1000000000 && (inR c.to_ c.from_ 1000000000 && (inR c.depth 0 6 && (c.ca || (c.depth == 0))))))))
def keyOk (k : Int) : Bool := inR k 0 1099511627776
def pileStep (cs : List Cert) (ks : List CertKey) (i : Nat) : Bool := match cs[i]?, ks[i]? with
  | some c, some k => certOk c && ((decide (i = 0) || decide (((cs[i - 1]?.map (·.ser)).getD 0) < c.ser)) && ((k.ser == c.ser) && keyOk k.key))
  | _, _ => false
def pileRise (cs : List Cert) (ks : List CertKey) (n : Nat) : Bool := (List.range n).all (pileStep cs ks)
def deadStep (ds : List Int) (i : Nat) : Bool := match ds[i]? with
  | some d => inR d 1 1000000000 && (decide (i = 0) || decide (((ds[i - 1]?).getD 0) < d))
  | none => false
def deadRise (ds : List Int) (n : Nat) : Bool := (List.range n).all (deadStep ds)
def pileOk (cs : List Cert) (ks : List CertKey) (ds : List Int) : Bool := decide (cs.length ≤ 60) && (decide (ks.length = cs.length) && (decide (ds.length ≤ 60) && (deadRise ds ds.length && pileRise cs ks cs.length)))
theorem pileRise_snoc {cs : List Cert} {ks : List CertKey} {k : Nat} (h : pileRise cs ks k = true) (hs : pileStep cs ks k = true) : pileRise cs ks (k + 1) = true := by
  simp [pileRise, List.range_succ, List.all_append] at h ⊢; exact ⟨h, hs⟩
theorem pileRise_no {cs : List Cert} {ks : List CertKey} {k n : Nat} (hk : k < n) (hs : pileStep cs ks k = false) : pileRise cs ks n = false := by
  rw [pileRise, List.all_eq_false]; exact ⟨k, by simpa using hk, by simp [hs]⟩
theorem deadRise_snoc {ds : List Int} {k : Nat} (h : deadRise ds k = true) (hs : deadStep ds k = true) : deadRise ds (k + 1) = true := by
  simp [deadRise, List.range_succ, List.all_append] at h ⊢; exact ⟨h, hs⟩
theorem deadRise_no {ds : List Int} {k n : Nat} (hk : k < n) (hs : deadStep ds k = false) : deadRise ds n = false := by
  rw [deadRise, List.all_eq_false]; exact ⟨k, by simpa using hk, by simp [hs]⟩
theorem pile_iff {cs : List Cert} {ks : List CertKey} {ds : List Int} (h : pileOk cs ks ds = true) : cs.length ≤ 60 ∧ ks.length = cs.length ∧ ds.length ≤ 60 ∧ deadRise ds ds.length = true ∧ pileRise cs ks cs.length = true := by
  simp only [pileOk, Bool.and_eq_true, decide_eq_true_eq] at h
  exact ⟨h.1, h.2.1, h.2.2.1, h.2.2.2.1, h.2.2.2.2⟩
theorem dead_at {ds : List Int} (h : deadRise ds ds.length = true) : ∀ (i : Nat) (hi : i < ds.length), (1 ≤ ds[i] ∧ ds[i] ≤ 1000000000) ∧ (0 < i → ((ds[i - 1]?).getD 0) < ds[i]) := by
  intro i hi
  rw [deadRise, List.all_eq_true] at h
  have h2 := h i (by simpa using hi)
  rw [deadStep, List.getElem?_eq_getElem hi] at h2
  simp only [Bool.and_eq_true, Bool.or_eq_true, decide_eq_true_eq, inR_true] at h2
  exact ⟨h2.1, fun h0 => h2.2.resolve_left (by omega)⟩
theorem dead_lt {ds : List Int} (h : deadRise ds ds.length = true) : ∀ {i j : Nat} (hj : j < ds.length) (hij : i < j), ds[i]'(by omega) < ds[j] := by
  intro i j hj hij
  induction j with
  | zero => omega
  | succ j ih =>
    have h1 := (dead_at h (j + 1) hj).2 (by omega)
    rw [Nat.add_sub_cancel, List.getElem?_eq_getElem (by omega : j < ds.length), Option.getD_some] at h1
    by_cases e : i = j
    · subst e; exact h1
    · exact Int.lt_trans (ih (by omega) (by omega)) h1
theorem pile_at {cs : List Cert} {ks : List CertKey} {n : Nat} (h : pileRise cs ks n = true) (hc : n ≤ cs.length) (hl : ks.length = cs.length) : ∀ (i : Nat) (hi : i < n), certOk (cs[i]'(by omega)) = true ∧ (0 < i → ((cs[i - 1]?.map (·.ser)).getD 0) < (cs[i]'(by omega)).ser) ∧ (ks[i]'(by omega)).ser = (cs[i]'(by omega)).ser ∧ keyOk (ks[i]'(by omega)).key = true := by
  intro i hi
  rw [pileRise, List.all_eq_true] at h
  have h2 := h i (by simpa using hi)
  rw [pileStep, List.getElem?_eq_getElem (by omega : i < cs.length), List.getElem?_eq_getElem (by omega : i < ks.length)] at h2
  simp only [Bool.and_eq_true, Bool.or_eq_true, decide_eq_true_eq, beq_iff_eq] at h2
  exact ⟨h2.1, fun h0 => h2.2.1.resolve_left (by omega), h2.2.2.1, h2.2.2.2⟩
theorem cert_lt {cs : List Cert} {ks : List CertKey} (h : pileRise cs ks cs.length = true) (hl : ks.length = cs.length) : ∀ {i j : Nat} (hj : j < cs.length) (hij : i < j), (cs[i]'(by omega)).ser < cs[j].ser := by
  intro i j hj hij
  induction j with
  | zero => omega
  | succ j ih =>
    have h1 := (pile_at h (Nat.le_refl _) hl (j + 1) hj).2.1 (by omega)
    rw [Nat.add_sub_cancel, List.getElem?_eq_getElem (by omega : j < cs.length)] at h1
    have h1 : cs[j].ser < cs[j + 1].ser := h1
    by_cases e : i = j
    · subst e; exact h1
    · exact Int.lt_trans (ih (by omega) (by omega)) h1
end Go.Proofs.YtaaloiloklnbiaaGreatDoor
namespace Go.Proofs.YtaaloiloklnbiaaGreatDoor
open Go.RowKit
set_option linter.unusedVariables false
/-- The list behind k rounds of a loop that puts x in at i. -/
def insAt {α : Type} (i : Nat) (x : α) (l : List α) (k : Nat) : List α := if k ≤ i then l.take k else l.take i ++ x :: (l.drop i).take (k - i)
section
variable {α : Type} {i k : Nat} {x : α} {l : List α}
theorem insAt_zero : insAt i x l 0 = [] := by simp [insAt]
theorem insAt_below (hk : k < l.length) (h : k < i) : insAt i x l (k + 1) = insAt i x l k ++ [l[k]] := by
  rw [insAt, insAt, if_pos (by omega), if_pos (by omega), List.take_succ_eq_append_getElem hk]
theorem insAt_at (hk : i < l.length) : insAt i x l (i + 1) = insAt i x l i ++ [x] ++ [l[i]] := by
  rw [insAt, insAt, if_neg (by omega), if_pos (Nat.le_refl _)]
  have e : i + 1 - i = 1 := by omega
  have e2 : (l.drop i).take 1 = [l[i]] := by rw [List.drop_eq_getElem_cons hk]; rfl
  rw [e, e2]
  simp
theorem insAt_above (hk : k < l.length) (h : i < k) : insAt i x l (k + 1) = insAt i x l k ++ [l[k]] := by
  rw [insAt, insAt, if_neg (by omega), if_neg (by omega)]
  have e : k + 1 - i = (k - i) + 1 := by omega
  have hl : k - i < (l.drop i).length := by rw [List.length_drop]; omega
  have hg : (l.drop i)[k - i] = l[k] := by rw [List.getElem_drop]; congr 1; omega
  rw [e, List.take_succ_eq_append_getElem hl, hg]
  simp
theorem insAt_end (h : i < l.length) : insAt i x l l.length = l.take i ++ x :: l.drop i := by
  rw [insAt, if_neg (by omega)]
  have e : (l.drop i).take (l.length - i) = l.drop i := List.take_of_length_le (by rw [List.length_drop]; omega)
  rw [e]
theorem insAt_last : insAt l.length x l l.length ++ [x] = l.take l.length ++ x :: l.drop l.length := by
  rw [insAt, if_pos (Nat.le_refl _)]
  simp
theorem insAt_len (h : i ≤ l.length) : (l.take i ++ x :: l.drop i).length = l.length + 1 := by
  rw [List.length_append, List.length_cons, List.length_take, List.length_drop]; omega
theorem insAt_le (h : i ≤ l.length) (hk : k ≤ l.length) : (insAt i x l k).length ≤ k + 1 := by
  rw [insAt]
  split
  · rw [List.length_take]; omega
  · rw [List.length_append, List.length_cons, List.length_take, List.length_take, List.length_drop]; omega
end
def posD (x : Int) (ds : List Int) : Nat := (ds.filter fun d => decide (d < x)).length
theorem posD_spec {x : Int} : ∀ {ds : List Int}, ds.Pairwise (· < ·) → x ∉ ds → posD x ds ≤ ds.length ∧ (∀ t (h : t < ds.length), t < posD x ds → ds[t] < x) ∧ (∀ t (h : t < ds.length), posD x ds ≤ t → x < ds[t])
  | [], _, _ => ⟨Nat.le_refl _, fun t h => absurd h (Nat.not_lt_zero _), fun t h => absurd h (Nat.not_lt_zero _)⟩
  | a :: ds, hp, hx => by
    have hx2 : x ∉ ds := fun h => hx (List.mem_cons_of_mem _ h)
    have hxa : x ≠ a := fun h => hx (by rw [h]; exact List.mem_cons_self)
    have h1 := (List.pairwise_cons.1 hp).1
    obtain ⟨i1, i2, i3⟩ := posD_spec (List.pairwise_cons.1 hp).2 hx2
    by_cases h : a < x
    · have e : posD x (a :: ds) = posD x ds + 1 := by rw [posD, List.filter_cons_of_pos (by simpa using h)]; rfl
      rw [e]
      refine ⟨by simp; omega, fun t ht hte => ?_, fun t ht hte => ?_⟩
      · cases t with
        | zero => exact h
        | succ t => exact i2 t (by simpa using ht) (by omega)
      · cases t with
        | zero => omega
        | succ t => exact i3 t (by simpa using ht) (by omega)
    · have e : posD x (a :: ds) = 0 := by
        rw [posD, List.length_eq_zero_iff, List.filter_eq_nil_iff]
        intro b hb
        rcases List.mem_cons.1 hb with rfl | hb
        · simpa using h
        · have := h1 b hb
          simp; omega
      rw [e]
      refine ⟨Nat.zero_le _, fun t _ hte => absurd hte (Nat.not_lt_zero _), fun t ht _ => ?_⟩
      cases t with
      | zero => show x < a; omega
      | succ t =>
        have ht2 : t < ds.length := by simpa using ht
        have := h1 ds[t] (List.getElem_mem ht2)
        show x < ds[t]; omega
theorem dead_iff {ds : List Int} : deadRise ds ds.length = true ↔ (∀ d ∈ ds, 1 ≤ d ∧ d ≤ 1000000000) ∧ ds.Pairwise (· < ·) := by
  constructor
  · intro h
    refine ⟨fun d hd => ?_, ?_⟩
    · obtain ⟨i, hi, rfl⟩ := List.getElem_of_mem hd
      exact (dead_at h i hi).1
    · rw [List.pairwise_iff_getElem]
      intro i j hi hj hij
      exact dead_lt h hj hij
  · rintro ⟨h1, h2⟩
    rw [deadRise, List.all_eq_true]
    intro i hi
    have hi : i < ds.length := by simpa using hi
    rw [deadStep, List.getElem?_eq_getElem hi]
    simp only [Bool.and_eq_true, Bool.or_eq_true, decide_eq_true_eq, inR_true]
    refine ⟨h1 _ (List.getElem_mem hi), ?_⟩
    cases i with
    | zero => exact .inl rfl
    | succ i =>
      right
      rw [Nat.add_sub_cancel, List.getElem?_eq_getElem (by omega : i < ds.length)]
      rw [List.pairwise_iff_getElem] at h2
      exact h2 i (i + 1) (by omega) hi (by omega)
theorem dead_ins {ds : List Int} {x : Int} (h : deadRise ds ds.length = true) (hx : x ∉ ds) (h1 : 1 ≤ x) (h2 : x ≤ 1000000000) : deadRise (ds.take (posD x ds) ++ x :: ds.drop (posD x ds)) (ds.take (posD x ds) ++ x :: ds.drop (posD x ds)).length = true := by
  obtain ⟨a1, a2⟩ := dead_iff.1 h
  obtain ⟨p1, p2, p3⟩ := posD_spec a2 hx
  refine dead_iff.2 ⟨fun d hd => ?_, ?_⟩
  · rcases List.mem_append.1 hd with hd | hd
    · exact a1 d (List.mem_of_mem_take hd)
    · rcases List.mem_cons.1 hd with rfl | hd
      · exact ⟨h1, h2⟩
      · exact a1 d (List.mem_of_mem_drop hd)
  · rw [List.pairwise_append]
    refine ⟨a2.sublist (List.take_sublist _ _), ?_, ?_⟩
    · rw [List.pairwise_cons]
      refine ⟨fun b hb => ?_, a2.sublist (List.drop_sublist _ _)⟩
      obtain ⟨j, hj, rfl⟩ := List.getElem_of_mem hb
      rw [List.getElem_drop]
      exact p3 _ (by rw [List.length_drop] at hj; omega) (by omega)
    · intro a ha b hb
      obtain ⟨i, hi, rfl⟩ := List.getElem_of_mem ha
      rw [List.getElem_take]
      rw [List.length_take] at hi
      have q1 := p2 i (by omega) (by omega)
      rcases List.mem_cons.1 hb with rfl | hb
      · exact q1
      · obtain ⟨j, hj, rfl⟩ := List.getElem_of_mem hb
        rw [List.length_drop] at hj
        rw [List.getElem_drop]
        exact Int.lt_trans q1 (p3 _ (by omega) (by omega))
def hasSer (x : Int) (c : Cert) : Bool := c.ser == x
/-- What KillCert answers. -/
def killU (cs : List Cert) (ks : List CertKey) (ds : List Int) (x : Int) : List Int × Bool :=
  if (pileOk cs ks ds && anyP (hasSer x) cs) = true then
    if hasI ds x = true then (ds, true)
    else if ds.length = 60 then (ds, false)
    else (ds.take (posD x ds) ++ x :: ds.drop (posD x ds), true)
  else (ds, false)
theorem posD_le (x : Int) (ds : List Int) : posD x ds ≤ ds.length := List.length_filter_le _ _
theorem killU_len (cs : List Cert) (ks : List CertKey) (ds : List Int) (x : Int) : (killU cs ks ds x).1.length ≤ ds.length + 1 := by
  unfold killU
  split
  · split
    · exact Nat.le_succ _
    · split
      · exact Nat.le_succ _
      · rw [insAt_len (posD_le _ _)]; exact Nat.le_refl _
  · exact Nat.le_succ _
theorem pile_ins {cs : List Cert} {ks : List CertKey} {ds : List Int} {x : Int} (h : pileOk cs ks ds = true) (ha : anyP (hasSer x) cs = true) (hx : hasI ds x = false) : pileOk cs ks (ds.take (posD x ds) ++ x :: ds.drop (posD x ds)) = !decide (ds.length = 60) := by
  obtain ⟨h1, h2, h3, h4, h5⟩ := pile_iff h
  have hx2 : x ∉ ds := by rw [← Bool.not_eq_true, hasI_iff] at hx; exact hx
  have hb : 1 ≤ x ∧ x ≤ 1000000000 := by
    rw [anyP, List.any_eq_true] at ha
    obtain ⟨c, hc, he⟩ := ha
    obtain ⟨i, hi, rfl⟩ := List.getElem_of_mem hc
    have h6 := (pile_at h5 (Nat.le_refl _) h2 i hi).1
    have he : cs[i].ser = x := by simpa [hasSer] using he
    simp only [certOk, Bool.and_eq_true, inR_true] at h6
    rw [← he]; exact h6.1
  have h7 := dead_ins h4 hx2 hb.1 hb.2
  rw [pileOk, h7, h5, insAt_len (posD_le _ _)]
  by_cases h8 : ds.length = 60
  · simp [h1, h2, h8]
  · simp [h1, h2, h8]; omega
end Go.Proofs.YtaaloiloklnbiaaGreatDoor
namespace Go.Proofs.YtaaloiloklnbiaaGreatDoor
open Go.RowKit
set_option linter.unusedVariables false
theorem under_iff (p s : List UInt8) : List.isPrefixOf (p ++ [47]) (s ++ [47]) = true ↔ (s = p ∨ (p.length < s.length ∧ s.take p.length = p ∧ s[p.length]? = some 47)) := by
  rw [List.isPrefixOf_iff_prefix, List.prefix_iff_eq_take]
  simp only [List.length_append, List.length_singleton]
  by_cases h : p.length < s.length
  · rw [List.take_append_of_le_length (by omega), List.take_succ_eq_append_getElem h]
    constructor
    · intro e
      have h1 := List.append_inj' e rfl
      refine .inr ⟨h, h1.1.symm, ?_⟩
      rw [List.getElem?_eq_getElem h]
      have h2 : (47 : UInt8) = s[p.length] := by simpa using h1.2
      rw [← h2]
    · rintro (e | ⟨_, e1, e2⟩)
      · subst e; omega
      · rw [List.getElem?_eq_getElem h] at e2
        have h2 : s[p.length] = 47 := by simpa using e2
        rw [e1, h2]
  · by_cases h2 : p.length = s.length
    · rw [List.take_of_length_le (by simp; omega)]
      constructor
      · intro e; exact .inl (List.append_inj' e rfl).1.symm
      · rintro (e | ⟨h3, _⟩)
        · rw [e]
        · omega
    · constructor
      · intro e
        have := congrArg List.length e
        simp at this
        omega
      · rintro (e | ⟨h3, _⟩)
        · subst e; omega
        · omega
def underF (p s : ByteArray) : Bool := pathF p && (pathF s && List.isPrefixOf (p.data.toList ++ [47]) (s.data.toList ++ [47]))
end Go.Proofs.YtaaloiloklnbiaaGreatDoor
