/- Users: where a new one stands, in plain words. No condition. -/
import Derived.Test.YtaaloiloklnbiaaDoorDropP
namespace Go.Proofs.YtaaloiloklnbiaaDoor
open Go.RowKit
set_option linter.unusedVariables false
theorem edge_of {α : Type} (p : α → Bool) (us : List α) (hm : ∀ a b (hb : b < us.length) (hab : a ≤ b), p us[b] = true → p (us[a]'(by omega)) = true) : ∀ n, n ≤ us.length → ∃ e, e ≤ n ∧ (∀ t (h : t < us.length), t < e → p us[t] = true) ∧ (∀ t (h : t < us.length), e ≤ t → t < n → p us[t] = false) := by
  intro n
  induction n with
  | zero => intro _; exact ⟨0, Nat.le_refl _, fun t _ h => absurd h (by omega), fun t _ _ h => absurd h (by omega)⟩
  | succ n ih =>
    intro hn
    obtain ⟨e, h1, h2, h3⟩ := ih (by omega)
    cases hp : p us[n] with
    | true => exact ⟨n + 1, Nat.le_refl _, fun t ht hte => hm t n (by omega) (by omega) hp, fun t _ h4 h5 => absurd h4 (by omega)⟩
    | false =>
      refine ⟨e, by omega, h2, fun t ht h4 h5 => ?_⟩
      by_cases htn : t = n
      · subst htn; exact hp
      · exact h3 t ht h4 (by omega)
/-- Ahead of the place the names lie below, from it on they lie above. -/
theorem ins_pos {us : List User} (hr : Rises (us.map (·.name))) {s : ByteArray} (h : bsHit (cfU s) us = false) :
    bsAt (cfU s) us ≤ us.length ∧ (∀ t (ht : t < us.length), t < bsAt (cfU s) us → ltS s us[t].name = false) ∧ (∀ t (ht : t < us.length), bsAt (cfU s) us ≤ t → ltS s us[t].name = true) := by
  obtain ⟨e, h1, h2, h3⟩ := edge_of (fun x => decide (cfU s x < 0)) us (fun a b hb hab hp => decide_eq_true (cfU_mono hr s a b hb hab (of_decide_eq_true hp))) us.length (Nat.le_refl _)
  have he : bsAt (cfU s) us = e := countP_edge _ us e h1 (fun t h ht => h2 t h ht) (fun t h ht => h3 t h ht h)
  rw [bsHit, he] at h
  rw [he]
  refine ⟨h1, fun t ht hte => ?_, fun t ht het => ?_⟩
  · have h4 : ltS us[t].name s = true := cmpS_lt.1 (of_decide_eq_true (h2 t ht hte))
    cases h5 : ltS s us[t].name with
    | false => rfl
    | true => have := ltS_trans h4 h5; rw [ltS_irrefl] at this; exact absurd this (by decide)
  · have hne : ∀ (j : Nat) (hj : j < us.length), us[j].name = s → False := by
      intro j hj e1
      have h6 := bs_of_at hr hj e1
      rw [he] at h6
      subst h6
      rw [List.getElem?_eq_getElem hj] at h
      simp [cfU, cmpS_eq.2 e1] at h
    have h4 : ¬ cfU s us[t] < 0 := of_decide_eq_false (h3 t ht het ht)
    cases h5 : ltS s us[t].name with
    | true => rfl
    | false =>
      exfalso
      have h6 : ltS us[t].name s = false := by
        cases h7 : ltS us[t].name s with
        | false => rfl
        | true => exact absurd (cmpS_lt.2 h7) h4
      rcases ltS_tri us[t].name s with h7 | h7 | h7
      · rw [h6] at h7; exact absurd h7 (by decide)
      · exact hne t ht h7
      · rw [h5] at h7; exact absurd h7 (by decide)
/-- The list behind k rounds of the reference's loop. -/
def insC (i : Nat) (u : User) (us : List User) (k : Nat) : List User := if k ≤ i then us.take k else us.take i ++ u :: (us.drop i).take (k - i)
theorem insC_zero (i : Nat) (u : User) (us : List User) : insC i u us 0 = [] := by simp [insC]
theorem insC_below {i k : Nat} {u : User} {us : List User} (hk : k < us.length) (h : k < i) : insC i u us (k + 1) = insC i u us k ++ [us[k]] := by
  rw [insC, insC, if_pos (by omega), if_pos (by omega), List.take_succ_eq_append_getElem hk]
theorem insC_at {i : Nat} {u : User} {us : List User} (hk : i < us.length) : insC i u us (i + 1) = insC i u us i ++ [u] ++ [us[i]] := by
  rw [insC, insC, if_neg (by omega), if_pos (Nat.le_refl _)]
  have e : i + 1 - i = 1 := by omega
  have e2 : (us.drop i).take 1 = [us[i]] := by rw [List.drop_eq_getElem_cons hk]; rfl
  rw [e, e2]
  simp
theorem insC_above {i k : Nat} {u : User} {us : List User} (hk : k < us.length) (h : i < k) : insC i u us (k + 1) = insC i u us k ++ [us[k]] := by
  rw [insC, insC, if_neg (by omega), if_neg (by omega)]
  have e : k + 1 - i = (k - i) + 1 := by omega
  have hl : k - i < (us.drop i).length := by rw [List.length_drop]; omega
  have hg : (us.drop i)[k - i] = us[k] := by rw [List.getElem_drop]; congr 1; omega
  rw [e, List.take_succ_eq_append_getElem hl, hg]
  simp
theorem insC_end {i : Nat} {u : User} {us : List User} (h : i < us.length) : insC i u us us.length = us.take i ++ u :: us.drop i := by
  rw [insC, if_neg (by omega)]
  have e : (us.drop i).take (us.length - i) = us.drop i := List.take_of_length_le (by rw [List.length_drop]; omega)
  rw [e]
theorem insC_last {u : User} {us : List User} : insC us.length u us us.length ++ [u] = us.take us.length ++ u :: us.drop us.length := by
  rw [insC, if_pos (Nat.le_refl _)]
  simp
end Go.Proofs.YtaaloiloklnbiaaDoor
