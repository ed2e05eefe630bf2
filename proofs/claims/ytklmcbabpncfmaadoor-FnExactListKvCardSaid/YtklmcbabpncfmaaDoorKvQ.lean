/- Stores: a version put, in plain words. No condition. -/
import Derived.Test.YtklmcbabpncfmaaDoorKvG
namespace Go.Proofs.YtklmcbabpncfmaaDoor
open Go.RowKit
set_option linter.unusedVariables false
/-- The list behind k rounds of a loop that puts x in at i. -/
def insAt {α : Type} (i : Nat) (x : α) (l : List α) (k : Nat) : List α := if k ≤ i then l.take k else l.take i ++ x :: (l.drop i).take (k - i)
section
variable {α : Type} {i k : Nat} {x : α} {l : List α}
theorem insAt_zero : insAt i x l 0 = [] := by simp [insAt]
theorem insAt_below (hk : k < l.length) (h : k < i) : insAt i x l (k + 1) = insAt i x l k ++ [l[k]] := by
  rw [insAt, insAt, if_pos (by omega), if_pos (by omega), List.take_succ_eq_append_getElem hk]
theorem insAt_at (hk : i < l.length) : insAt i x l (i + 1) = insAt i x l i ++ [x] ++ [l[i]] := by
  rw [insAt, insAt, if_neg (by omega), if_pos (Nat.le_refl _)]
  have e : i + 1 - i = 1 := by omega
  have e2 : (l.drop i).take 1 = [l[i]] := by rw [List.drop_eq_getElem_cons hk]; rfl
  rw [e, e2]
  simp
theorem insAt_above (hk : k < l.length) (h : i < k) : insAt i x l (k + 1) = insAt i x l k ++ [l[k]] := by
  rw [insAt, insAt, if_neg (by omega), if_neg (by omega)]
  have e : k + 1 - i = (k - i) + 1 := by omega
  have hl : k - i < (l.drop i).length := by rw [List.length_drop]; omega
  have hg : (l.drop i)[k - i] = l[k] := by rw [List.getElem_drop]; congr 1; omega
  rw [e, List.take_succ_eq_append_getElem hl, hg]
  simp
theorem insAt_end (h : i < l.length) : insAt i x l l.length = l.take i ++ x :: l.drop i := by
  rw [insAt, if_neg (by omega)]
  have e : (l.drop i).take (l.length - i) = l.drop i := List.take_of_length_le (by rw [List.length_drop]; omega)
  rw [e]
theorem insAt_last : insAt l.length x l l.length ++ [x] = l.take l.length ++ x :: l.drop l.length := by
  rw [insAt, if_pos (Nat.le_refl _)]
  simp
theorem insAt_len (h : i ≤ l.length) : (l.take i ++ x :: l.drop i).length = l.length + 1 := by
  rw [List.length_append, List.length_cons, List.length_take, List.length_drop]; omega
theorem insAt_le (h : i ≤ l.length) (hk : k ≤ l.length) : (insAt i x l k).length ≤ k + 1 := by
  rw [insAt]
  split
  · rw [List.length_take]; omega
  · rw [List.length_append, List.length_cons, List.length_take, List.length_take, List.length_drop]; omega
end
theorem edge_of {α : Type} (p : α → Bool) (us : List α) (hm : ∀ a b (hb : b < us.length) (hab : a ≤ b), p us[b] = true → p (us[a]'(by omega)) = true) : ∀ n, n ≤ us.length → ∃ e, e ≤ n ∧ (∀ t (h : t < us.length), t < e → p us[t] = true) ∧ (∀ t (h : t < us.length), e ≤ t → t < n → p us[t] = false) := by
  intro n
  induction n with
  | zero => intro _; exact ⟨0, Nat.le_refl _, fun t _ h => absurd h (by omega), fun t _ _ h => absurd h (by omega)⟩
  | succ n ih =>
    intro hn
    obtain ⟨e, h1, h2, h3⟩ := ih (by omega)
    cases hp : p us[n] with
    | true => exact ⟨n + 1, Nat.le_refl _, fun t ht hte => hm t n (by omega) (by omega) hp, fun t _ h4 h5 => absurd h4 (by omega)⟩
    | false =>
      refine ⟨e, by omega, h2, fun t ht h4 h5 => ?_⟩
      by_cases htn : t = n
      · subst htn; exact hp
      · exact h3 t ht h4 (by omega)
theorem insE_pos {us : List Entry} (hr : Rises (us.map (·.path))) {s : ByteArray} (h : ∀ u ∈ us, hasP s u = false) :
    bsAt (cfE s) us ≤ us.length ∧ (∀ t (ht : t < us.length), t < bsAt (cfE s) us → ltS us[t].path s = true) ∧ (∀ t (ht : t < us.length), bsAt (cfE s) us ≤ t → ltS s us[t].path = true) := by
  obtain ⟨e, h1, h2, h3⟩ := edge_of (fun x => decide (cfE s x < 0)) us (fun a b hb hab hp => decide_eq_true (cfE_mono hr s a b hb hab (of_decide_eq_true hp))) us.length (Nat.le_refl _)
  have he : bsAt (cfE s) us = e := countP_edge _ us e h1 (fun t h ht => h2 t h ht) (fun t h ht => h3 t h ht h)
  rw [he]
  refine ⟨h1, fun t ht hte => cmpP_lt.1 (of_decide_eq_true (h2 t ht hte)), fun t ht het => ?_⟩
  have h4 : ¬ cfE s us[t] < 0 := of_decide_eq_false (h3 t ht het ht)
  rcases ltS_tri us[t].path s with h7 | h7 | h7
  · exact absurd (cmpP_lt.2 h7) h4
  · have := h us[t] (List.getElem_mem ht)
    rw [hasP, eqB_iff.2 h7] at this; cases this
  · exact h7
theorem storeOk_iff {us : List Entry} : storeOk us = true ↔ us.length ≤ 60 ∧ (∀ e ∈ us, entOk e = true) ∧ Rises (us.map (·.path)) := by
  constructor
  · intro h
    refine ⟨(ok_entry h).1, fun e he => ?_, store_rises h⟩
    obtain ⟨k, hk, rfl⟩ := List.getElem_of_mem he
    simp only [storeOk, Bool.and_eq_true] at h
    have h1 := List.all_eq_true.1 h.2 k (by simpa using hk)
    unfold entStep at h1
    rw [List.getElem?_eq_getElem hk] at h1
    simp only [Bool.and_eq_true] at h1
    exact h1.1
  · rintro ⟨h1, h2, h3⟩
    simp only [storeOk, Bool.and_eq_true, decide_eq_true_eq]
    refine ⟨h1, List.all_eq_true.2 fun k hk => ?_⟩
    have hk : k < us.length := by simpa using hk
    unfold entStep
    rw [List.getElem?_eq_getElem hk]
    simp only [Bool.and_eq_true, Bool.or_eq_true, decide_eq_true_eq]
    refine ⟨h2 _ (List.getElem_mem hk), ?_⟩
    cases k with
    | zero => exact .inl rfl
    | succ k =>
      right
      rw [Nat.add_sub_cancel, List.getElem?_eq_getElem (by omega : k < us.length)]
      have h4 := h3 k (by simpa using hk)
      simpa using h4
theorem ins_get {α : Type} {l : List α} {p : Nat} (hp : p ≤ l.length) (x : α) (j : Nat) : (l.take p ++ x :: l.drop p)[j]? = if j < p then l[j]? else if j = p then some x else l[j - 1]? := by
  by_cases h : j < p
  · rw [if_pos h, List.getElem?_append_left (by rw [List.length_take]; omega), List.getElem?_take_of_lt h]
  · rw [if_neg h, List.getElem?_append_right (by rw [List.length_take]; omega), List.length_take, Nat.min_eq_left hp]
    by_cases h2 : j = p
    · rw [if_pos h2, h2, Nat.sub_self]; rfl
    · rw [if_neg h2]
      obtain ⟨d, hd⟩ : ∃ d, j - p = d + 1 := ⟨j - p - 1, by omega⟩
      rw [hd, List.getElem?_cons_succ, List.getElem?_drop]
      congr 1; omega
theorem rises_q {l : List ByteArray} : Rises l ↔ ∀ i a b, l[i]? = some a → l[i + 1]? = some b → ltS a b = true := by
  constructor
  · intro h i a b ha hb
    obtain ⟨h1, rfl⟩ := List.getElem?_eq_some_iff.1 hb
    obtain ⟨h2, rfl⟩ := List.getElem?_eq_some_iff.1 ha
    exact h i h1
  · intro h i hi
    exact h i _ _ (List.getElem?_eq_getElem (by omega)) (List.getElem?_eq_getElem hi)
theorem rises_ins {l : List ByteArray} {s : ByteArray} {p : Nat} (h : Rises l) (hp : p ≤ l.length) (h1 : ∀ t a, l[t]? = some a → t < p → ltS a s = true) (h2 : ∀ t a, l[t]? = some a → p ≤ t → ltS s a = true) : Rises (l.take p ++ s :: l.drop p) := by
  rw [rises_q]
  rw [rises_q] at h
  intro i a b ha hb
  rw [ins_get hp] at ha hb
  by_cases c1 : i + 1 < p
  · rw [if_pos (by omega)] at ha; rw [if_pos c1] at hb
    exact h i a b ha hb
  · rw [if_neg c1] at hb
    by_cases c2 : i + 1 = p
    · rw [if_pos (by omega)] at ha; rw [if_pos c2] at hb
      injection hb with hb; subst hb
      exact h1 i a ha (by omega)
    · rw [if_neg c2, Nat.add_sub_cancel] at hb
      rw [if_neg (by omega)] at ha
      by_cases c3 : i = p
      · rw [if_pos c3] at ha
        injection ha with ha; subst ha
        exact h2 i b hb (by omega)
      · rw [if_neg c3] at ha
        refine h (i - 1) a b ha ?_
        have e : i - 1 + 1 = i := by omega
        rw [e]; exact hb
/-- A version of nothing but its bytes and its time. -/
def newV (data : List UInt8) (now : Int) : Ver := ⟨data, none, 0, now, false, false⟩
def pushE (v : Ver) (e : Entry) : Entry := if e.vs.length < 8 then { e with vs := e.vs ++ [v] } else { e with first := e.first + 1, vs := e.vs.drop 1 ++ [v] }
def lastE (e : Entry) : Int := e.first + (e.vs.length : Int) - 1
def curK (us : List Entry) (s : ByteArray) : Int := if 0 ≤ ixP (hasP s) us 0 then ((us[(ixP (hasP s) us 0).toNat]?).map lastE).getD 0 else 0
def insK (us : List Entry) (s : ByteArray) (e : Entry) : List Entry := us.take (bsAt (cfE s) us) ++ e :: us.drop (bsAt (cfE s) us)
/-- What a put leaves, its code, the version's number. -/
def putK (us : List Entry) (s : ByteArray) (data : List UInt8) (cas now : Int) : List Entry × Int × Int :=
  if (storeOk us && (pathF s && (decide (data.length ≤ 300) && inR now 0 1000000000))) = true then
    (if 0 ≤ cas ∧ ¬ cas = curK us s then (us, 5, 0)
    else if 0 ≤ ixP (hasP s) us 0 then
      (if storeOk (us.modify (ixP (hasP s) us 0).toNat (pushE (newV data now))) = true then (us.modify (ixP (hasP s) us 0).toNat (pushE (newV data now)), 0, curK us s + 1) else (us, 6, 0))
    else (if storeOk (insK us s ⟨s, 1, [newV data now], none, 0⟩) = true then (insK us s ⟨s, 1, [newV data now], none, 0⟩, 0, 1) else (us, 6, 0)))
  else (us, 1, 0)
theorem newV_ok {data : List UInt8} {now : Int} (h : data.length ≤ 300) (h2 : inR now 0 1000000000 = true) : verOk (newV data now) = true := by
  simp only [verOk, newV, Bool.and_eq_true, decide_eq_true_eq]
  exact ⟨decide_eq_true h, h2, by rfl⟩
theorem pushE_path (v : Ver) (e : Entry) : (pushE v e).path = e.path := by unfold pushE; split <;> rfl
theorem pushE_ok {v : Ver} {e : Entry} (h : entOk e = true) (hv : verOk v = true) : entOk (pushE v e) = decide ((pushE v e).first ≤ 1000000) := by
  simp only [entOk, Bool.and_eq_true] at h
  obtain ⟨hp, hf, hl, hvs⟩ := h
  have h5 := inR_true.1 hf
  have h6 := inR_true.1 hl
  unfold pushE
  split
  · next h8 =>
    have e1 : decide (e.first ≤ 1000000) = true := decide_eq_true h5.2
    rw [e1]
    simp only [entOk, Bool.and_eq_true, List.all_append, List.all_cons, List.all_nil, Bool.and_true, List.length_append, List.length_cons, List.length_nil]
    exact ⟨hp, hf, inR_true.2 ⟨by omega, by omega⟩, hvs, hv⟩
  · next h8 =>
    have hd : (e.vs.drop 1).all verOk = true := List.all_eq_true.2 fun x hx => List.all_eq_true.1 hvs x (List.mem_of_mem_drop hx)
    have hl2 : inR ((e.vs.drop 1 ++ [v]).length : Nat) 1 8 = true := inR_true.2 ⟨by rw [List.length_append, List.length_drop]; simp; omega, by rw [List.length_append, List.length_drop]; simp; omega⟩
    show (pathF e.path && (inR (e.first + 1) 1 1000000 && (inR ((e.vs.drop 1 ++ [v]).length : Nat) 1 8 && (e.vs.drop 1 ++ [v]).all verOk))) = _
    rw [hp, hl2, List.all_append, hd, List.all_cons, hv, List.all_nil]
    simp only [Bool.true_and, Bool.and_true]
    rw [Bool.eq_iff_iff, inR_true, decide_eq_true_eq]
    constructor
    · exact fun h => h.2
    · exact fun h => ⟨by omega, h⟩
theorem push_ok {us : List Entry} {i : Nat} {v : Ver} (h : storeOk us = true) (hi : i < us.length) (hv : verOk v = true) : storeOk (us.set i (pushE v us[i])) = decide ((pushE v us[i]).first ≤ 1000000) := by
  obtain ⟨h1, h2, h3⟩ := storeOk_iff.1 h
  have h4 := pushE_ok (h2 _ (List.getElem_mem hi)) hv
  have hp : (us.set i (pushE v us[i])).map (·.path) = us.map (·.path) := by
    rw [List.map_set, pushE_path]
    refine List.ext_getElem (by simp) fun j j1 j2 => ?_
    rw [List.getElem_set]
    split
    · next e => subst e; simp
    · rfl
  rw [Bool.eq_iff_iff, decide_eq_true_eq, storeOk_iff, hp, List.length_set]
  constructor
  · rintro ⟨-, h6, -⟩
    have := h6 _ (List.mem_set hi _)
    rw [h4] at this
    exact of_decide_eq_true this
  · intro h6
    refine ⟨h1, fun e he => ?_, h3⟩
    rcases List.mem_or_eq_of_mem_set he with he | rfl
    · exact h2 e he
    · rw [h4]; exact decide_eq_true h6
theorem ins_ok {us : List Entry} {s : ByteArray} {v : Ver} {a : Option Addr} {c : Nat} (h : storeOk us = true) (hs : pathF s = true) (hm : ∀ u ∈ us, hasP s u = false) (hv : verOk v = true) : storeOk (insK us s ⟨s, 1, [v], a, c⟩) = decide (us.length < 60) := by
  obtain ⟨h1, h2, h3⟩ := storeOk_iff.1 h
  obtain ⟨p1, p2, p3⟩ := insE_pos h3 hm
  have he : entOk ⟨s, 1, [v], a, c⟩ = true := by
    simp only [entOk, List.all_cons, List.all_nil, Bool.and_true, hs, hv, Bool.true_and]
    rfl
  have hr : Rises ((insK us s ⟨s, 1, [v], a, c⟩).map (·.path)) := by
    unfold insK
    rw [List.map_append, List.map_cons, List.map_take, List.map_drop]
    refine rises_ins h3 (by simpa using p1) (fun t x hx ht => ?_) (fun t x hx ht => ?_)
    · obtain ⟨h7, rfl⟩ := List.getElem?_eq_some_iff.1 hx
      simp only [List.getElem_map]
      exact p2 t (by simpa using h7) ht
    · obtain ⟨h7, rfl⟩ := List.getElem?_eq_some_iff.1 hx
      simp only [List.getElem_map]
      exact p3 t (by simpa using h7) ht
  have hl : (insK us s ⟨s, 1, [v], a, c⟩).length = us.length + 1 := insAt_len p1
  rw [Bool.eq_iff_iff, decide_eq_true_eq, storeOk_iff, hl]
  constructor
  · rintro ⟨h7, -⟩; omega
  · intro h7
    refine ⟨by omega, fun e he2 => ?_, hr⟩
    rcases List.mem_append.1 he2 with h8 | h8
    · exact h2 e (List.mem_of_mem_take h8)
    · rcases List.mem_cons.1 h8 with rfl | h8
      · exact he
      · exact h2 e (List.mem_of_mem_drop h8)
end Go.Proofs.YtklmcbabpncfmaaDoor
