/- A queue run until it is quiet: each name is told once. Plain words. No condition. -/
import Derived.Test.YtnhdpcmnnjgdkaaQuietA
import Derived.Test.YtnhdpcmnnjgdkaaHas
set_option linter.unusedVariables false
set_option linter.unusedSimpArgs false
namespace Go.Proofs.Ytnhdpcmnnjgdkaa
open Go.RowKit
set_option linter.unusedVariables false
/-- What a run of rounds has come to. -/
structure QS where
  js : List Job
  us : List User
  fail : Int
  told : List ByteArray
def roundQ (now : Int) (s : QS) : QS := ⟨(runQ s.js s.us s.fail now).out, (runQ s.js s.us s.fail now).us, (runQ s.js s.us s.fail now).fail, s.told ++ (runQ s.js s.us s.fail now).gone ++ (runQ s.js s.us s.fail now).given⟩
def roundsQ (s : QS) : Nat → QS
  | 0 => s
  | k + 1 => roundQ (k : Int) (roundsQ s k)
def nmQ (r : RQ) : List ByteArray := r.out.map (·.name) ++ (r.gone ++ r.given)
theorem step_perm (now : Int) (r : RQ) (j : Job) : (nmQ (stepQ now r j)).Perm (nmQ r ++ [j.name]) := by
  unfold stepQ nmQ
  split
  · show ((r.out ++ [j]).map (·.name) ++ (r.gone ++ r.given)).Perm _
    rw [List.map_append, List.append_assoc, List.append_assoc]
    exact List.Perm.append_left _ List.perm_append_comm
  · split
    · split
      · show (r.out.map (·.name) ++ (r.gone ++ (r.given ++ [j.name]))).Perm _
        simp [List.append_assoc]
      · show ((r.out ++ [later now j]).map (·.name) ++ (r.gone ++ r.given)).Perm _
        rw [List.map_append, List.append_assoc, List.append_assoc]
        exact List.Perm.append_left _ List.perm_append_comm
    · show (r.out.map (·.name) ++ ((r.gone ++ [j.name]) ++ r.given)).Perm _
      rw [List.append_assoc, List.append_assoc, List.append_assoc]
      exact List.Perm.append_left _ (List.Perm.append_left _ List.perm_append_comm)
theorem fold_perm (now : Int) : ∀ (js : List Job) (r : RQ), (nmQ (js.foldl (stepQ now) r)).Perm (nmQ r ++ js.map (·.name))
  | [], r => by simp
  | j :: js, r => by
    rw [List.foldl_cons, List.map_cons]
    refine (fold_perm now js (stepQ now r j)).trans ?_
    refine ((step_perm now r j).append_right _).trans ?_
    rw [List.append_assoc]; exact List.Perm.refl _
theorem runQ_perm (js : List Job) (us : List User) (fail now : Int) : (nmQ (runQ js us fail now)).Perm (js.map (·.name)) := by
  have := fold_perm now js (startQ us fail)
  simpa [nmQ, startQ, runQ] using this
theorem round_perm (now : Int) (s : QS) : ((roundQ now s).told ++ (roundQ now s).js.map (·.name)).Perm (s.told ++ s.js.map (·.name)) := by
  have h := runQ_perm s.js s.us s.fail now
  unfold nmQ at h
  show ((s.told ++ (runQ s.js s.us s.fail now).gone ++ (runQ s.js s.us s.fail now).given) ++ (runQ s.js s.us s.fail now).out.map (·.name)).Perm _
  rw [List.append_assoc, List.append_assoc]
  refine List.Perm.append_left _ (List.Perm.trans ?_ h)
  rw [← List.append_assoc]
  exact List.perm_append_comm
theorem rounds_perm (s : QS) : ∀ k, ((roundsQ s k).told ++ (roundsQ s k).js.map (·.name)).Perm (s.told ++ s.js.map (·.name))
  | 0 => List.Perm.refl _
  | k + 1 => (round_perm _ _).trans (rounds_perm s k)
/-- Nobody with a name that was dropped is left. -/
def goneOff (r : RQ) : Prop := ∀ x ∈ r.gone, ∀ u ∈ r.us, eqB u.name x = false
theorem step_gone (now : Int) (r : RQ) (j : Job) (h : goneOff r) : goneOff (stepQ now r j) := by
  unfold stepQ
  split
  · exact h
  · split
    · split
      · exact h
      · exact h
    · intro x hx u hu
      rcases List.mem_append.1 hx with hx | hx
      · exact h x hx u (List.mem_filter.1 hu).1
      · rw [List.mem_singleton.1 hx]
        have := (List.mem_filter.1 hu).2
        simpa using this
theorem fold_gone (now : Int) : ∀ (js : List Job) (r : RQ), goneOff r → goneOff (js.foldl (stepQ now) r)
  | [], _, h => h
  | j :: js, r, h => fold_gone now js _ (step_gone now r j h)
theorem runQ_gone (js : List Job) (us : List User) (fail now : Int) : goneOff (runQ js us fail now) := fold_gone now js _ (fun x hx => by cases hx)
theorem runQ_hasB (js : List Job) (us : List User) (fail now made : Int) {x : ByteArray} (hx : x ∈ (runQ js us fail now).gone) (p : ByteArray) : hasB (runQ js us fail now).us (runQ js us fail now).fail made x p = false := by
  unfold hasB
  rw [hasU_none (runQ_gone js us fail now x hx), Bool.and_false]
/-- The rounds' number. -/
theorem quiet_rounds (s : QS) (hs : ∀ j ∈ s.js, tame 0 j) : ∀ (f k : Nat), 1063 ≤ k + f → (∀ j ∈ (roundsQ s k).js, tame (k : Int) j) → ∃ m : Nat, k ≤ m ∧ m ≤ k + f ∧ quietN f (roundsQ s k).js (roundsQ s k).us (roundsQ s k).fail (k : Int) = (m : Int) ∧ (roundsQ s m).js = []
  | 0, k, hk, ht => by
    refine ⟨k, Nat.le_refl _, by omega, rfl, ?_⟩
    cases h : (roundsQ s k).js with
    | nil => rfl
    | cons j l =>
      have := tame_now (ht j (by rw [h]; exact List.mem_cons_self))
      omega
  | f + 1, k, hk, ht => by
    by_cases h0 : (roundsQ s k).js.length = 0
    · exact ⟨k, Nat.le_refl _, by omega, quietN_end h0, List.eq_nil_of_length_eq_zero h0⟩
    · have hlt : k ≤ 1062 := by
        cases h : (roundsQ s k).js with
        | nil => rw [h] at h0; exact absurd rfl h0
        | cons j l =>
          have := tame_now (ht j (by rw [h]; exact List.mem_cons_self))
          omega
      obtain ⟨m, h1, h2, h3, h4⟩ := quiet_rounds s hs f (k + 1) (by omega) (by
        have := tame_run (us := (roundsQ s k).us) (fail := (roundsQ s k).fail) ht
        intro j hj
        have := this j hj
        simpa using this)
      refine ⟨m, by omega, by omega, ?_, h4⟩
      · rw [quietN_go h0, ← h3]
        show quietN f (roundsQ s (k + 1)).js (roundsQ s (k + 1)).us (roundsQ s (k + 1)).fail ((k : Int) + 1) = _
        rfl
/-- FnQuiet's plain law: the rounds' number, and what is left behind them. -/
theorem quiet_law {js : List Job} {us : List User} {fail made : Int} (h : 0 ≤ quietF js us fail made) : queueOk js = true ∧ farOk us fail made = true ∧ ∃ m : Nat, m ≤ 1063 ∧ quietF js us fail made = (m : Int) ∧ (roundsQ ⟨js, us, fail, []⟩ m).js = [] ∧ (roundsQ ⟨js, us, fail, []⟩ m).told.length = js.length ∧ (roundsQ ⟨js, us, fail, []⟩ m).told.Pairwise (· ≠ ·) := by
  unfold quietF at h ⊢
  by_cases hq : queueOk js = true ∧ farOk us fail made = true ∧ lateB js = false
  · rw [if_pos hq]
    obtain ⟨hq1, hq2, hq3⟩ := hq
    obtain ⟨m, -, h2, h3, h4⟩ := quiet_rounds ⟨js, us, fail, []⟩ (tame_all hq1 hq3) 1063 0 (by omega) (tame_all hq1 hq3)
    have hp := rounds_perm ⟨js, us, fail, []⟩ m
    rw [h4, List.map_nil, List.append_nil, List.nil_append] at hp
    refine ⟨hq1, hq2, m, by omega, h3, h4, by rw [hp.length_eq, List.length_map], ?_⟩
    exact (hp.symm.pairwise_iff (fun {a b} (h : a ≠ b) => h.symm)).1 (queueOk_iff.1 hq1).2.2
  · rw [if_neg hq] at h; omega
/-- The queue and the system stay valid. -/
theorem rounds_ok {js : List Job} {us : List User} {fail made : Int} (h1 : queueOk js = true) (h2 : farOk us fail made = true) : ∀ k : Nat, k ≤ 1000000 → queueOk (roundsQ ⟨js, us, fail, []⟩ k).js = true ∧ farOk (roundsQ ⟨js, us, fail, []⟩ k).us (roundsQ ⟨js, us, fail, []⟩ k).fail made = true
  | 0, _ => ⟨h1, h2⟩
  | k + 1, hk => by
    obtain ⟨a1, a2⟩ := rounds_ok h1 h2 k (by omega)
    exact ⟨runQ_ok a1 (by omega) (by omega), runQ_far a2⟩
end Go.Proofs.Ytnhdpcmnnjgdkaa
