/- Runs of a queue, in plain words: what a run leaves; that what is left is valid; that a queue falls quiet. No condition. -/
import Derived.Test.YtnhdpcmnnjgdkaaQueueB
import Derived.Test.YtnhdpcmnnjgdkaaDropP
set_option linter.unusedVariables false
set_option linter.unusedSimpArgs false
namespace Go.Proofs.Ytnhdpcmnnjgdkaa
open Go.RowKit
set_option linter.unusedVariables false

structure RQ where
  out : List Job
  us : List User
  fail : Int
  gone : List ByteArray
  given : List ByteArray
def later (now : Int) (j : Job) : Job := ⟨j.name, now + 2 ^ (j.tries + 1).toNat, j.tries + 1⟩
def stepQ (now : Int) (r : RQ) (j : Job) : RQ :=
  if now < j.at_ then { r with out := r.out ++ [j] }
  else if 0 < r.fail then
    (if j.tries + 1 = 6 then { r with fail := r.fail - 1, given := r.given ++ [j.name] } else { r with fail := r.fail - 1, out := r.out ++ [later now j] })
  else { r with us := keepU j.name r.us, gone := r.gone ++ [j.name] }
def startQ (us : List User) (fail : Int) : RQ := ⟨[], us, fail, [], []⟩
def runQ (js : List Job) (us : List User) (fail now : Int) : RQ := js.foldl (stepQ now) (startQ us fail)

/- validity of systems -/
theorem rises_pairwise {l : List ByteArray} : Rises l ↔ l.Pairwise (fun a b => ltS a b = true) := by
  rw [List.pairwise_iff_getElem]
  constructor
  · intro h i j hi hj hij
    exact h.lt hj hij
  · intro h i hi
    exact h i (i + 1) (by omega) hi (by omega)
theorem farRise_iff {us : List User} : farRise us us.length = true ↔ (∀ u ∈ us, isNm u.name = true) ∧ Rises (us.map (·.name)) := by
  constructor
  · intro h
    refine ⟨fun u hu => ?_, farRise_rises h⟩
    obtain ⟨i, hi, rfl⟩ := List.getElem_of_mem hu
    rw [farRise, List.all_eq_true] at h
    have h1 := h i (by simpa using hi)
    rw [farStep, List.getElem?_eq_getElem hi] at h1
    simp only [Bool.and_eq_true] at h1
    exact h1.1
  · rintro ⟨h1, h2⟩
    rw [farRise, List.all_eq_true]
    intro i hi
    have hi' : i < us.length := by simpa using hi
    rw [farStep, List.getElem?_eq_getElem hi', Bool.and_eq_true]
    refine ⟨h1 _ (List.getElem_mem hi'), ?_⟩
    cases i with
    | zero => simp
    | succ i =>
      have h3 := h2 i (by simpa using hi')
      simp only [List.getElem_map] at h3
      rw [Nat.add_sub_cancel, List.getElem?_eq_getElem (by omega : i < us.length)]
      simp [gtS_not, h3]
theorem farOk_iff {us : List User} {fail made : Int} : farOk us fail made = true ↔ us.length ≤ 120 ∧ inR fail 0 1000 = true ∧ inR made 0 1000000000 = true ∧ (∀ u ∈ us, isNm u.name = true) ∧ Rises (us.map (·.name)) := by
  rw [farOk]
  simp only [Bool.and_eq_true, decide_eq_true_eq, farRise_iff]
theorem farOk_less {us : List User} {fail made : Int} (h : farOk us fail made = true) (hf : 0 < fail) : farOk us (fail - 1) made = true := by
  rw [farOk_iff] at h ⊢
  refine ⟨h.1, ?_, h.2.2⟩
  have := h.2.1
  simp [inR] at this ⊢
  omega
theorem farOk_keep {us : List User} {fail made : Int} (s : ByteArray) (h : farOk us fail made = true) : farOk (keepU s us) fail made = true := by
  rw [farOk_iff] at h ⊢
  refine ⟨Nat.le_trans (keepU_len s us) h.1, h.2.1, h.2.2.1, fun u hu => h.2.2.2.1 u (List.mem_filter.1 hu).1, ?_⟩
  have hp := rises_pairwise.1 h.2.2.2.2
  rw [rises_pairwise]
  exact hp.sublist ((List.filter_sublist (l := us)).map _)
theorem stepQ_far {now made : Int} {r : RQ} {j : Job} (h : farOk r.us r.fail made = true) : farOk (stepQ now r j).us (stepQ now r j).fail made = true := by
  unfold stepQ
  split
  · exact h
  · split
    · rename_i hf
      split
      · exact farOk_less h hf
      · exact farOk_less h hf
    · exact farOk_keep _ h
theorem runQ_take {js : List Job} {us : List User} {fail now : Int} {k : Nat} (hk : k < js.length) : runQ (js.take (k + 1)) us fail now = stepQ now (runQ (js.take k) us fail now) js[k] := by
  rw [runQ, List.take_succ_eq_append_getElem hk, List.foldl_append]; rfl
theorem foldQ_far {now made : Int} : ∀ (js : List Job) (r : RQ), farOk r.us r.fail made = true → farOk (js.foldl (stepQ now) r).us (js.foldl (stepQ now) r).fail made = true
  | [], _, h => h
  | j :: js, r, h => foldQ_far js _ (stepQ_far h)
theorem runQ_far {js : List Job} {us : List User} {fail now made : Int} (h : farOk us fail made = true) : farOk (runQ js us fail now).us (runQ js us fail now).fail made = true := foldQ_far js _ h

/- validity of queues -/
theorem queueOk_iff {js : List Job} : queueOk js = true ↔ js.length ≤ 120 ∧ (∀ j ∈ js, jobFits j = true) ∧ (js.map (·.name)).Pairwise (· ≠ ·) := by
  rw [queueOk, Bool.and_eq_true, decide_eq_true_eq, jobsOk, List.all_eq_true]
  refine and_congr_right fun _ => ?_
  have hst : ∀ i (hi : i < js.length), jobStep js i = (jobFits js[i] && !(anyP (sameName js[i].name) (js.take i))) := by
    intro i hi
    unfold jobStep; rw [List.getElem?_eq_getElem hi]
  constructor
  · intro h
    have h' : ∀ i (hi : i < js.length), jobFits js[i] = true ∧ anyP (sameName js[i].name) (js.take i) = false := by
      intro i hi
      have := h i (by simpa using hi)
      rw [hst i hi] at this
      simpa using this
    refine ⟨fun j hj => ?_, ?_⟩
    · obtain ⟨i, hi, rfl⟩ := List.getElem_of_mem hj
      exact (h' i hi).1
    · rw [List.pairwise_iff_getElem]
      intro i j hi hj hij heq
      simp only [List.length_map] at hi hj
      simp only [List.getElem_map] at heq
      have h2 := (h' j hj).2
      have := anyP_yes (p := sameName js[j].name) hi hij (eqB_iff.2 heq)
      rw [h2] at this
      cases this
  · rintro ⟨h1, h2⟩ i hi
    have hi' : i < js.length := by simpa using hi
    rw [hst i hi', Bool.and_eq_true]
    refine ⟨h1 _ (List.getElem_mem hi'), ?_⟩
    cases hq : anyP (sameName js[i].name) (js.take i) with
    | false => rfl
    | true =>
      unfold anyP at hq
      rw [List.any_eq_true] at hq
      obtain ⟨x, hx, hs⟩ := hq
      obtain ⟨k, hk, rfl⟩ := List.mem_take_iff_getElem.1 hx
      rw [List.pairwise_iff_getElem] at h2
      exact (h2 k i (by simp; omega) (by simpa using hi') (by omega) (by simp only [List.getElem_map]; exact eqB_iff.1 hs)).elim
theorem stepQ_out {now : Int} (r : RQ) (j : Job) : (stepQ now r j).out = r.out ∨ ((stepQ now r j).out = r.out ++ [j] ∧ now < j.at_) ∨ ((stepQ now r j).out = r.out ++ [later now j] ∧ ¬ now < j.at_ ∧ j.tries + 1 ≠ 6) := by
  unfold stepQ
  split
  · rename_i h; exact .inr (.inl ⟨rfl, h⟩)
  · rename_i h
    split
    · split
      · exact .inl rfl
      · rename_i h2; exact .inr (.inr ⟨rfl, h, h2⟩)
    · exact .inl rfl
theorem foldQ_names {now : Int} : ∀ (js : List Job) (r : RQ), ∃ ns : List ByteArray, ns.Sublist (js.map (·.name)) ∧ (js.foldl (stepQ now) r).out.map (·.name) = r.out.map (·.name) ++ ns
  | [], r => ⟨[], List.Sublist.slnil, by simp⟩
  | j :: js, r => by
    obtain ⟨ns, h1, h2⟩ := foldQ_names js (stepQ now r j)
    rw [List.foldl_cons, h2]
    rcases stepQ_out (now := now) r j with h | ⟨h, _⟩ | ⟨h, _⟩
    · exact ⟨ns, h1.cons _, by rw [h]⟩
    · exact ⟨j.name :: ns, h1.cons_cons _, by rw [h]; simp⟩
    · exact ⟨j.name :: ns, h1.cons_cons _, by rw [h]; simp [later]⟩
theorem foldQ_all {now : Int} (p q : Job → Prop) (hp : ∀ j, p j → now < j.at_ → q j) (hl : ∀ j, p j → ¬ now < j.at_ → j.tries + 1 ≠ 6 → q (later now j)) : ∀ (js : List Job) (r : RQ), (∀ j ∈ js, p j) → (∀ j ∈ r.out, q j) → ∀ j ∈ (js.foldl (stepQ now) r).out, q j
  | [], r, _, h => h
  | j :: js, r, h1, h2 => by
    rw [List.foldl_cons]
    refine foldQ_all p q hp hl js _ (fun x hx => h1 x (List.mem_cons_of_mem _ hx)) ?_
    have hj := h1 j List.mem_cons_self
    intro x hx
    rcases stepQ_out (now := now) r j with h | ⟨h, h3⟩ | ⟨h, h3, h4⟩
    · rw [h] at hx; exact h2 x hx
    · rw [h] at hx
      rcases List.mem_append.1 hx with h5 | h5
      · exact h2 x h5
      · rw [List.mem_singleton.1 h5]; exact hp j hj h3
    · rw [h] at hx
      rcases List.mem_append.1 hx with h5 | h5
      · exact h2 x h5
      · rw [List.mem_singleton.1 h5]; exact hl j hj h3 h4
theorem two_pow_le {t : Int} (h0 : 0 ≤ t) (h5 : t ≤ 5) : (2 : Int) ≤ 2 ^ (t + 1).toNat ∧ (2 : Int) ^ (t + 1).toNat ≤ 64 ∧ (2 : Int) ^ (t + 1 + 1).toNat = 2 * 2 ^ (t + 1).toNat := by
  have h : t = 0 ∨ t = 1 ∨ t = 2 ∨ t = 3 ∨ t = 4 ∨ t = 5 := by omega
  rcases h with rfl | rfl | rfl | rfl | rfl | rfl <;> decide
theorem jobFits_iff {j : Job} : jobFits j = true ↔ isNm j.name = true ∧ (0 ≤ j.at_ ∧ j.at_ ≤ 2000000000) ∧ (0 ≤ j.tries ∧ j.tries ≤ 5) := by
  simp [jobFits, inR]
theorem later_fits {now : Int} {j : Job} (h : jobFits j = true) (h0 : 0 ≤ now) (h1 : now ≤ 1000000000) (h6 : j.tries + 1 ≠ 6) : jobFits (later now j) = true := by
  rw [jobFits_iff] at h ⊢
  obtain ⟨hn, ha, ht⟩ := h
  have := two_pow_le ht.1 ht.2
  exact ⟨hn, ⟨by show 0 ≤ now + _; omega, by show now + _ ≤ _; omega⟩, ⟨by show 0 ≤ j.tries + 1; omega, by show j.tries + 1 ≤ 5; omega⟩⟩
theorem foldQ_len {now : Int} : ∀ (js : List Job) (r : RQ), (js.foldl (stepQ now) r).out.length ≤ r.out.length + js.length
  | [], r => by simp
  | j :: js, r => by
    rw [List.foldl_cons]
    have h1 := foldQ_len (now := now) js (stepQ now r j)
    have h2 : (stepQ now r j).out.length ≤ r.out.length + 1 := by
      rcases stepQ_out (now := now) r j with h | ⟨h, _⟩ | ⟨h, _⟩ <;> rw [h] <;> simp
    simp only [List.length_cons]
    omega
theorem runQ_len (js : List Job) (us : List User) (fail now : Int) : (runQ js us fail now).out.length ≤ js.length := by
  have := foldQ_len (now := now) js (startQ us fail)
  simpa [runQ, startQ] using this
theorem runQ_ok {js : List Job} {us : List User} {fail now : Int} (h : queueOk js = true) (h0 : 0 ≤ now) (h1 : now ≤ 1000000000) : queueOk (runQ js us fail now).out = true := by
  rw [queueOk_iff] at h ⊢
  refine ⟨Nat.le_trans (runQ_len js us fail now) h.1, ?_, ?_⟩
  · exact foldQ_all (fun j => jobFits j = true) (fun j => jobFits j = true) (fun j hj _ => hj) (fun j hj _ h6 => later_fits hj h0 h1 h6) js _ h.2.1 (fun j hj => by cases hj)
  · obtain ⟨ns, h3, h4⟩ := foldQ_names (now := now) js (startQ us fail)
    have h5 : (runQ js us fail now).out.map (·.name) = ns := by rw [runQ, h4]; simp [startQ]
    rw [h5]
    exact h.2.2.sublist h3

theorem foldQ_total {now : Int} : ∀ (js : List Job) (r : RQ), (js.foldl (stepQ now) r).out.length + (js.foldl (stepQ now) r).gone.length + (js.foldl (stepQ now) r).given.length = r.out.length + r.gone.length + r.given.length + js.length
  | [], r => by simp
  | j :: js, r => by
    rw [List.foldl_cons, foldQ_total js]
    have : (stepQ now r j).out.length + (stepQ now r j).gone.length + (stepQ now r j).given.length = r.out.length + r.gone.length + r.given.length + 1 := by
      unfold stepQ
      split
      · simp; omega
      · split
        · split
          · simp; omega
          · simp; omega
        · simp; omega
    simp only [List.length_cons]
    omega
theorem runQ_total (js : List Job) (us : List User) (fail now : Int) : (runQ js us fail now).out.length + (runQ js us fail now).gone.length + (runQ js us fail now).given.length = js.length := by
  have := foldQ_total (now := now) js (startQ us fail)
  simpa [runQ, startQ] using this
theorem foldQ_us {now : Int} : ∀ (js : List Job) (r : RQ), ∀ u ∈ (js.foldl (stepQ now) r).us, u ∈ r.us
  | [], r, u, h => h
  | j :: js, r, u, h => by
    have h1 := foldQ_us js (stepQ now r j) u h
    unfold stepQ at h1
    split at h1
    · exact h1
    · split at h1
      · split at h1
        · exact h1
        · exact h1
      · exact (List.mem_filter.1 h1).1
theorem runQ_us {js : List Job} {us : List User} {fail now : Int} : ∀ u ∈ (runQ js us fail now).us, u ∈ us := foldQ_us js (startQ us fail)

/- a queue falls quiet -/
def tame (now : Int) (j : Job) : Prop := now ≤ j.at_ ∧ 0 ≤ j.tries ∧ j.tries ≤ 5 ∧ j.at_ + 64 - 2 ^ (j.tries + 1).toNat ≤ 1062
theorem tame_run {js : List Job} {us : List User} {fail now : Int} (h : ∀ j ∈ js, tame now j) : ∀ j ∈ (runQ js us fail now).out, tame (now + 1) j := by
  refine foldQ_all (tame now) (tame (now + 1)) (fun j hj h1 => ⟨by omega, hj.2⟩) (fun j hj h1 h6 => ?_) js _ h (fun j hj => by cases hj)
  obtain ⟨ha, ht0, ht5, hb⟩ := hj
  have := two_pow_le ht0 ht5
  refine ⟨by show now + 1 ≤ now + _; omega, by show 0 ≤ j.tries + 1; omega, by show j.tries + 1 ≤ 5; omega, ?_⟩
  show now + 2 ^ (j.tries + 1).toNat + 64 - 2 ^ (j.tries + 1 + 1).toNat ≤ 1062
  omega
theorem tame_now {now : Int} {j : Job} (h : tame now j) : now ≤ 1062 := by
  obtain ⟨ha, ht0, ht5, hb⟩ := h
  have := two_pow_le ht0 ht5
  omega
theorem tame_start {j : Job} (h : jobFits j = true) (h1 : j.at_ ≤ 1000) : tame 0 j := by
  rw [jobFits_iff] at h
  obtain ⟨hn, ha, ht⟩ := h
  have := two_pow_le ht.1 ht.2
  exact ⟨ha.1, ht.1, ht.2, by omega⟩
def quietN : Nat → List Job → List User → Int → Int → Int
  | 0, _, _, _, now => now
  | f + 1, js, us, fail, now => if js.length = 0 then now else quietN f (runQ js us fail now).out (runQ js us fail now).us (runQ js us fail now).fail (now + 1)
theorem quietN_end {f : Nat} {js : List Job} {us : List User} {fail now : Int} (h : js.length = 0) : quietN f js us fail now = now := by
  cases f with
  | zero => rfl
  | succ f => rw [quietN, if_pos h]
theorem quietN_go {f : Nat} {js : List Job} {us : List User} {fail now : Int} (h : js.length ≠ 0) : quietN (f + 1) js us fail now = quietN f (runQ js us fail now).out (runQ js us fail now).us (runQ js us fail now).fail (now + 1) := by
  rw [quietN, if_neg h]
end Go.Proofs.Ytnhdpcmnnjgdkaa
