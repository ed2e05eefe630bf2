/- Stores: an entry laid open, to be shut with other versions, behind the head of their block or not; an entry put in. No condition. -/
import Derived.Test.YtklmcbabpncfmaaDoorKvJ
import Derived.Test.YtklmcbabpncfmaaDoorStX
import Derived.Test.YtklmcbabpncfmaaDoorM1
import Derived.Test.YtklmcbabpncfmaaDoorKvG
namespace Go.Proofs.YtklmcbabpncfmaaDoor
open Go.RowKit
set_option linter.unusedVariables false
theorem row_rowx {t : TypeId} {k n c : Nat} {A : Option Addr} {xs : List Value} {w : World} (h : (row t k (.slice A n c) n xs).P w) : (rowx t k A n c xs).P w := Or.inl h
theorem row_rowx1 {t : TypeId} {k n c g : Nat} {pre xs : List Value} {w : World} (hp : pre.length = k) (hc : n + 1 ≤ c) (h : (row t k (.slice (some ⟨g, 0, none⟩) (n + 1) c) (n + 1) (pre ++ xs)).P w) : (rowx t k (some ⟨g, k, none⟩) n (c - 1) xs).P w := by
  have h : w.ownsRow 0 t k (.slice (some ⟨g, 0, none⟩) (n + 1) c) (n + 1) (pre ++ xs) := h
  refine Or.inr ⟨g, 1, pre, by rw [Nat.one_mul], by rw [hp, Nat.one_mul], ?_⟩
  have e : 1 + (c - 1) = c := by omega
  rw [e, Nat.add_comm 1 n]
  exact h
theorem wk_of {w : World} {e e' : Ent} {L : List Ent} (h1 : ∀ b, e'.S b → e.S b) (h2 : e.P w → e'.P w) : Wk w (e :: L) (e' :: L) := .cons h1 h2 (Wk.refl L)
theorem stoE_openX {w0 w : World} {D : List Ent} {A va : Option Addr} {c n vc i : Nat} {es : List Entry} {path : ByteArray} {first : Int} {vs : List Ver} (H : Hp w0 w (stoE A c n es :: D)) (hi : i < es.length) (he : es[i] = ⟨path, first, vs, va, vc⟩) :
    ∃ N, Hp w0 w (row 71 4 (.slice va vs.length vc) vs.length (vs.flatMap encVer) :: row 62 3 (.slice A n c) n (es.flatMap encEntry) :: (D ++ (vs.flatMap verF ++ N))) ∧
      ∀ (e' : Entry) (D' : List Ent) (w' : World), Hp w0 w' (row 62 3 (.slice A n c) n ((es.set i e').flatMap encEntry) :: (entX e' ++ (D' ++ N))) → Hp w0 w' (stoX A c n (es.set i e') :: D') := by
  have hself : es = es.take i ++ (⟨path, first, vs, va, vc⟩ : Entry) :: es.drop (i + 1) := by rw [← he, ← List.drop_eq_getElem_cons hi, List.take_append_drop]
  have hF : es.flatMap entF = (es.take i).flatMap entF ++ (entF ⟨path, first, vs, va, vc⟩ ++ (es.drop (i + 1)).flatMap entF) := by
    conv => lhs; rw [hself]
    rw [List.flatMap_append, List.flatMap_cons]
  refine ⟨(es.take i).flatMap entF ++ (es.drop (i + 1)).flatMap entF, ?_, fun e' D' w' H' => ?_⟩
  · have H2 := Hp.unpack D (stoR A c n es) (H.perm (List.perm_append_singleton _ _))
    refine H2.perm ?_
    show List.Perm _ (D ++ (row 62 3 (.slice A n c) n (es.flatMap encEntry) :: es.flatMap entF))
    rw [hF]
    show List.Perm _ (D ++ (_ :: (_ ++ ((row 71 4 (.slice va vs.length vc) vs.length (vs.flatMap encVer) :: vs.flatMap verF) ++ _))))
    generalize row 71 4 (.slice va vs.length vc) vs.length (vs.flatMap encVer) = a
    generalize row 62 3 (.slice A n c) n (es.flatMap encEntry) = b
    generalize vs.flatMap verF = X
    generalize (es.take i).flatMap entF = T
    generalize (es.drop (i + 1)).flatMap entF = U
    letI : DecidableEq Ent := fun a b => Classical.propDecidable (a = b)
    rw [List.perm_iff_count]
    intro e
    simp only [List.count_cons, List.count_append]
    omega
  · have H2 := H'.weak (Wk.cons (fun _ h => h) (fun h => h) (Wk.append (Wk.refl _) (Wk.append (Wk.refl _) (Wk.append (wk_ent _) (wk_ent _)))))
    have hX : (es.set i e').flatMap entX = (es.take i).flatMap entX ++ (entX e' ++ (es.drop (i + 1)).flatMap entX) := by
      rw [List.set_eq_take_append_cons_drop, if_pos hi, List.flatMap_append, List.flatMap_cons]
    refine (Hp.pack D' (stoXR A c n (es.set i e')) (H2.perm ?_)).perm (List.perm_append_singleton _ _).symm
    show List.Perm (D' ++ (row 62 3 (.slice A n c) n ((es.set i e').flatMap encEntry) :: (es.set i e').flatMap entX)) _
    rw [hX]
    generalize row 62 3 (.slice A n c) n ((es.set i e').flatMap encEntry) = b
    generalize entX e' = X
    generalize (es.take i).flatMap entX = T
    generalize (es.drop (i + 1)).flatMap entX = U
    letI : DecidableEq Ent := fun a b => Classical.propDecidable (a = b)
    rw [List.perm_iff_count]
    intro e
    simp only [List.count_cons, List.count_append]
    omega
theorem stoE_list {w0 w : World} {D : List Ent} {A : Option Addr} {c n : Nat} {es : List Entry} (H : Hp w0 w (stoE A c n es :: D)) : Hp w0 w (row 62 3 (.slice A n c) n (es.flatMap encEntry) :: (D ++ es.flatMap entF)) :=
  (Hp.unpack D (stoR A c n es) (H.perm (List.perm_append_singleton _ _))).perm List.perm_middle.symm
theorem Hp.into {w0 w : World} {L R : List Ent} (H : Hp w0 w L) (h : Hp w0 w L → Hp w0 w R) : Hp w0 w R := h H
theorem call_at {P : Program} {f : Nat} {args : Array Value} {w0 w : World} {L : List Ent} {Q : Ending → World → Prop} (H : Hp w0 w L) (k : Hp w0 w L → Calls P f args w Q) : Calls P f args w Q := k H
theorem stoE_del {w0 w : World} {L L' : List Ent} {A : Option Addr} {c n : Nat} {es : List Entry} (H : Hp w0 w L) (h : Del L (stoE A c n es) L') : Hp w0 w (row 62 3 (.slice A n c) n (es.flatMap encEntry) :: (L' ++ es.flatMap entF)) := stoE_list (H.perm h)
theorem Hp.boxVer {w0 w : World} {L L' : List Ent} {g dC : Nat} {da : Option Addr} {data : List UInt8} {now : Int} (H : Hp w0 w L) (h : Del L (box g 71 [.slice da data.length dC, .int .i64 now, .bool false, .bool false]) L') : Hp w0 w (row 71 4 (.slice (some ⟨g, 0, none⟩) 1 1) 1 (encVer ⟨data, da, dC, now, false, false⟩) :: L') :=
  Hp.boxRow (H.perm h) 0 4 1 1 rfl rfl (Nat.le_refl _) (by unfold maxLen; omega)
theorem stoX_ins {w0 w : World} {D : List Ent} {A : Option Addr} {c n p : Nat} {es : List Entry} {u : Entry} (H : Hp w0 w (row 62 3 (.slice A n c) n ((es.take p ++ u :: es.drop p).flatMap encEntry) :: (entX u ++ (D ++ es.flatMap entF)))) : Hp w0 w (stoX A c n (es.take p ++ u :: es.drop p) :: D) := by
  have H2 := H.weak (Wk.cons (fun _ h => h) (fun h => h) (Wk.append (Wk.refl _) (Wk.append (Wk.refl _) (wk_ent _))))
  have hX : (es.take p ++ u :: es.drop p).flatMap entX = (es.take p).flatMap entX ++ (entX u ++ (es.drop p).flatMap entX) := by
    rw [List.flatMap_append, List.flatMap_cons]
  have hE : es.flatMap entX = (es.take p).flatMap entX ++ (es.drop p).flatMap entX := by rw [← List.flatMap_append, List.take_append_drop]
  rw [hE] at H2
  refine (Hp.pack D (stoXR A c n (es.take p ++ u :: es.drop p)) (H2.perm ?_)).perm (List.perm_append_singleton _ _).symm
  show List.Perm (D ++ (row 62 3 (.slice A n c) n ((es.take p ++ u :: es.drop p).flatMap encEntry) :: (es.take p ++ u :: es.drop p).flatMap entX)) _
  rw [hX]
  generalize row 62 3 (.slice A n c) n ((es.take p ++ u :: es.drop p).flatMap encEntry) = b
  generalize entX u = X
  generalize (es.take p).flatMap entX = T
  generalize (es.drop p).flatMap entX = U
  letI : DecidableEq Ent := fun a b => Classical.propDecidable (a = b)
  rw [List.perm_iff_count]
  intro e
  simp only [List.count_cons, List.count_append]
  omega
theorem insEntry_hpn {w0 w : World} {L : List Ent} (A : Option Addr) (n c i vb : Nat) (us : List Entry) (u : Entry) (hn : us.length = n) (H : Hp w0 w L) (hm : row 62 3 (.slice A n c) n (us.flatMap encEntry) ∈ L) (hb : box vb 62 (encEntry u) ∈ L) (h20 : n ≤ 1048576) (hin : i ≤ n) (hne : ∀ a, A = some a → vb ≠ a.block) :
    Calls Tryd.prog 73 #[.slice A n c, .int .i64 i, .slice (some ⟨vb, 0, none⟩) 1 1] w fun e w' => ∃ A' c', e = .returned (.slice A' (n + 1) c') ∧ ∀ L', Rep L (row 62 3 (.slice A n c) n (us.flatMap encEntry)) (row 62 3 (.slice A' (n + 1) c') (n + 1) ((us.take i ++ u :: us.drop i).flatMap encEntry)) L' → Hp w0 w' L' := by
  subst hn
  refine (insEntry_hp A c i vb us u H hm hb h20 hin hne).mono ?_
  rintro e w' ⟨A', c', rfl, h⟩
  refine ⟨A', c', rfl, fun L' hr => h L' ?_⟩
  have hl : (us.take i ++ u :: us.drop i).length = us.length + 1 := by rw [List.length_append, List.length_cons, List.length_take, List.length_drop]; omega
  unfold rEntry
  rw [hl]
  exact hr
end Go.Proofs.YtklmcbabpncfmaaDoor
namespace Go.Proofs.YtklmcbabpncfmaaDoor
open Go.RowKit
set_option linter.unusedVariables false
/-- The list behind k rounds of a loop that puts x in at i. -/
def insAt {α : Type} (i : Nat) (x : α) (l : List α) (k : Nat) : List α := if k ≤ i then l.take k else l.take i ++ x :: (l.drop i).take (k - i)
section
variable {α : Type} {i k : Nat} {x : α} {l : List α}
theorem insAt_zero : insAt i x l 0 = [] := by simp [insAt]
theorem insAt_below (hk : k < l.length) (h : k < i) : insAt i x l (k + 1) = insAt i x l k ++ [l[k]] := by
  rw [insAt, insAt, if_pos (by omega), if_pos (by omega), List.take_succ_eq_append_getElem hk]
theorem insAt_at (hk : i < l.length) : insAt i x l (i + 1) = insAt i x l i ++ [x] ++ [l[i]] := by
  rw [insAt, insAt, if_neg (by omega), if_pos (Nat.le_refl _)]
  have e : i + 1 - i = 1 := by omega
  have e2 : (l.drop i).take 1 = [l[i]] := by rw [List.drop_eq_getElem_cons hk]; rfl
  rw [e, e2]
  simp
theorem insAt_above (hk : k < l.length) (h : i < k) : insAt i x l (k + 1) = insAt i x l k ++ [l[k]] := by
  rw [insAt, insAt, if_neg (by omega), if_neg (by omega)]
  have e : k + 1 - i = (k - i) + 1 := by omega
  have hl : k - i < (l.drop i).length := by rw [List.length_drop]; omega
  have hg : (l.drop i)[k - i] = l[k] := by rw [List.getElem_drop]; congr 1; omega
  rw [e, List.take_succ_eq_append_getElem hl, hg]
  simp
theorem insAt_end (h : i < l.length) : insAt i x l l.length = l.take i ++ x :: l.drop i := by
  rw [insAt, if_neg (by omega)]
  have e : (l.drop i).take (l.length - i) = l.drop i := List.take_of_length_le (by rw [List.length_drop]; omega)
  rw [e]
theorem insAt_last : insAt l.length x l l.length ++ [x] = l.take l.length ++ x :: l.drop l.length := by
  rw [insAt, if_pos (Nat.le_refl _)]
  simp
theorem insAt_len (h : i ≤ l.length) : (l.take i ++ x :: l.drop i).length = l.length + 1 := by
  rw [List.length_append, List.length_cons, List.length_take, List.length_drop]; omega
theorem insAt_le (h : i ≤ l.length) (hk : k ≤ l.length) : (insAt i x l k).length ≤ k + 1 := by
  rw [insAt]
  split
  · rw [List.length_take]; omega
  · rw [List.length_append, List.length_cons, List.length_take, List.length_take, List.length_drop]; omega
end
theorem edge_of {α : Type} (p : α → Bool) (us : List α) (hm : ∀ a b (hb : b < us.length) (hab : a ≤ b), p us[b] = true → p (us[a]'(by omega)) = true) : ∀ n, n ≤ us.length → ∃ e, e ≤ n ∧ (∀ t (h : t < us.length), t < e → p us[t] = true) ∧ (∀ t (h : t < us.length), e ≤ t → t < n → p us[t] = false) := by
  intro n
  induction n with
  | zero => intro _; exact ⟨0, Nat.le_refl _, fun t _ h => absurd h (by omega), fun t _ _ h => absurd h (by omega)⟩
  | succ n ih =>
    intro hn
    obtain ⟨e, h1, h2, h3⟩ := ih (by omega)
    cases hp : p us[n] with
    | true => exact ⟨n + 1, Nat.le_refl _, fun t ht hte => hm t n (by omega) (by omega) hp, fun t _ h4 h5 => absurd h4 (by omega)⟩
    | false =>
      refine ⟨e, by omega, h2, fun t ht h4 h5 => ?_⟩
      by_cases htn : t = n
      · subst htn; exact hp
      · exact h3 t ht h4 (by omega)
theorem insE_pos {us : List Entry} (hr : Rises (us.map (·.path))) {s : ByteArray} (h : ∀ u ∈ us, hasP s u = false) :
    bsAt (cfE s) us ≤ us.length ∧ (∀ t (ht : t < us.length), t < bsAt (cfE s) us → ltS us[t].path s = true) ∧ (∀ t (ht : t < us.length), bsAt (cfE s) us ≤ t → ltS s us[t].path = true) := by
  obtain ⟨e, h1, h2, h3⟩ := edge_of (fun x => decide (cfE s x < 0)) us (fun a b hb hab hp => decide_eq_true (cfE_mono hr s a b hb hab (of_decide_eq_true hp))) us.length (Nat.le_refl _)
  have he : bsAt (cfE s) us = e := countP_edge _ us e h1 (fun t h ht => h2 t h ht) (fun t h ht => h3 t h ht h)
  rw [he]
  refine ⟨h1, fun t ht hte => cmpP_lt.1 (of_decide_eq_true (h2 t ht hte)), fun t ht het => ?_⟩
  have h4 : ¬ cfE s us[t] < 0 := of_decide_eq_false (h3 t ht het ht)
  rcases ltS_tri us[t].path s with h7 | h7 | h7
  · exact absurd (cmpP_lt.2 h7) h4
  · have := h us[t] (List.getElem_mem ht)
    rw [hasP, eqB_iff.2 h7] at this; cases this
  · exact h7
theorem storeOk_iff {us : List Entry} : storeOk us = true ↔ us.length ≤ 60 ∧ (∀ e ∈ us, entOk e = true) ∧ Rises (us.map (·.path)) := by
  constructor
  · intro h
    refine ⟨(ok_entry h).1, fun e he => ?_, store_rises h⟩
    obtain ⟨k, hk, rfl⟩ := List.getElem_of_mem he
    simp only [storeOk, Bool.and_eq_true] at h
    have h1 := List.all_eq_true.1 h.2 k (by simpa using hk)
    unfold entStep at h1
    rw [List.getElem?_eq_getElem hk] at h1
    simp only [Bool.and_eq_true] at h1
    exact h1.1
  · rintro ⟨h1, h2, h3⟩
    simp only [storeOk, Bool.and_eq_true, decide_eq_true_eq]
    refine ⟨h1, List.all_eq_true.2 fun k hk => ?_⟩
    have hk : k < us.length := by simpa using hk
    unfold entStep
    rw [List.getElem?_eq_getElem hk]
    simp only [Bool.and_eq_true, Bool.or_eq_true, decide_eq_true_eq]
    refine ⟨h2 _ (List.getElem_mem hk), ?_⟩
    cases k with
    | zero => exact .inl rfl
    | succ k =>
      right
      rw [Nat.add_sub_cancel, List.getElem?_eq_getElem (by omega : k < us.length)]
      have h4 := h3 k (by simpa using hk)
      simpa using h4
theorem ins_get {α : Type} {l : List α} {p : Nat} (hp : p ≤ l.length) (x : α) (j : Nat) : (l.take p ++ x :: l.drop p)[j]? = if j < p then l[j]? else if j = p then some x else l[j - 1]? := by
  by_cases h : j < p
  · rw [if_pos h, List.getElem?_append_left (by rw [List.length_take]; omega), List.getElem?_take_of_lt h]
  · rw [if_neg h, List.getElem?_append_right (by rw [List.length_take]; omega), List.length_take, Nat.min_eq_left hp]
    by_cases h2 : j = p
    · rw [if_pos h2, h2, Nat.sub_self]; rfl
    · rw [if_neg h2]
      obtain ⟨d, hd⟩ : ∃ d, j - p = d + 1 := ⟨j - p - 1, by omega⟩
      rw [hd, List.getElem?_cons_succ, List.getElem?_drop]
      congr 1; omega
theorem rises_q {l : List ByteArray} : Rises l ↔ ∀ i a b, l[i]? = some a → l[i + 1]? = some b → ltS a b = true := by
  constructor
  · intro h i a b ha hb
    obtain ⟨h1, rfl⟩ := List.getElem?_eq_some_iff.1 hb
    obtain ⟨h2, rfl⟩ := List.getElem?_eq_some_iff.1 ha
    exact h i h1
  · intro h i hi
    exact h i _ _ (List.getElem?_eq_getElem (by omega)) (List.getElem?_eq_getElem hi)
theorem rises_ins {l : List ByteArray} {s : ByteArray} {p : Nat} (h : Rises l) (hp : p ≤ l.length) (h1 : ∀ t a, l[t]? = some a → t < p → ltS a s = true) (h2 : ∀ t a, l[t]? = some a → p ≤ t → ltS s a = true) : Rises (l.take p ++ s :: l.drop p) := by
  rw [rises_q]
  rw [rises_q] at h
  intro i a b ha hb
  rw [ins_get hp] at ha hb
  by_cases c1 : i + 1 < p
  · rw [if_pos (by omega)] at ha; rw [if_pos c1] at hb
    exact h i a b ha hb
  · rw [if_neg c1] at hb
    by_cases c2 : i + 1 = p
    · rw [if_pos (by omega)] at ha; rw [if_pos c2] at hb
      injection hb with hb; subst hb
      exact h1 i a ha (by omega)
    · rw [if_neg c2, Nat.add_sub_cancel] at hb
      rw [if_neg (by omega)] at ha
      by_cases c3 : i = p
      · rw [if_pos c3] at ha
        injection ha with ha; subst ha
        exact h2 i b hb (by omega)
      · rw [if_neg c3] at ha
        refine h (i - 1) a b ha ?_
        have e : i - 1 + 1 = i := by omega
        rw [e]; exact hb
/-- A version of nothing but its bytes and its time. -/
def newV (data : List UInt8) (now : Int) : Ver := ⟨data, none, 0, now, false, false⟩
def pushE (v : Ver) (e : Entry) : Entry := if e.vs.length < 8 then { e with vs := e.vs ++ [v] } else { e with first := e.first + 1, vs := e.vs.drop 1 ++ [v] }
def lastE (e : Entry) : Int := e.first + (e.vs.length : Int) - 1
def curK (us : List Entry) (s : ByteArray) : Int := if 0 ≤ ixP (hasP s) us 0 then ((us[(ixP (hasP s) us 0).toNat]?).map lastE).getD 0 else 0
def insK (us : List Entry) (s : ByteArray) (e : Entry) : List Entry := us.take (bsAt (cfE s) us) ++ e :: us.drop (bsAt (cfE s) us)
/-- What a put leaves, its code, the version's number. -/
def putK (us : List Entry) (s : ByteArray) (data : List UInt8) (cas now : Int) : List Entry × Int × Int :=
  if (storeOk us && (pathF s && (decide (data.length ≤ 300) && inR now 0 1000000000))) = true then
    (if 0 ≤ cas ∧ ¬ cas = curK us s then (us, 5, 0)
    else if 0 ≤ ixP (hasP s) us 0 then
      (if storeOk (us.modify (ixP (hasP s) us 0).toNat (pushE (newV data now))) = true then (us.modify (ixP (hasP s) us 0).toNat (pushE (newV data now)), 0, curK us s + 1) else (us, 6, 0))
    else (if storeOk (insK us s ⟨s, 1, [newV data now], none, 0⟩) = true then (insK us s ⟨s, 1, [newV data now], none, 0⟩, 0, 1) else (us, 6, 0)))
  else (us, 1, 0)
theorem newV_ok {data : List UInt8} {now : Int} (h : data.length ≤ 300) (h2 : inR now 0 1000000000 = true) : verOk (newV data now) = true := by
  simp only [verOk, newV, Bool.and_eq_true, decide_eq_true_eq]
  exact ⟨decide_eq_true h, h2, by rfl⟩
theorem pushE_path (v : Ver) (e : Entry) : (pushE v e).path = e.path := by unfold pushE; split <;> rfl
theorem pushE_ok {v : Ver} {e : Entry} (h : entOk e = true) (hv : verOk v = true) : entOk (pushE v e) = decide ((pushE v e).first ≤ 1000000) := by
  simp only [entOk, Bool.and_eq_true] at h
  obtain ⟨hp, hf, hl, hvs⟩ := h
  have h5 := inR_true.1 hf
  have h6 := inR_true.1 hl
  unfold pushE
  split
  · next h8 =>
    have e1 : decide (e.first ≤ 1000000) = true := decide_eq_true h5.2
    rw [e1]
    simp only [entOk, Bool.and_eq_true, List.all_append, List.all_cons, List.all_nil, Bool.and_true, List.length_append, List.length_cons, List.length_nil]
    exact ⟨hp, hf, inR_true.2 ⟨by omega, by omega⟩, hvs, hv⟩
  · next h8 =>
    have hd : (e.vs.drop 1).all verOk = true := List.all_eq_true.2 fun x hx => List.all_eq_true.1 hvs x (List.mem_of_mem_drop hx)
    have hl2 : inR ((e.vs.drop 1 ++ [v]).length : Nat) 1 8 = true := inR_true.2 ⟨by rw [List.length_append, List.length_drop]; simp; omega, by rw [List.length_append, List.length_drop]; simp; omega⟩
    show (pathF e.path && (inR (e.first + 1) 1 1000000 && (inR ((e.vs.drop 1 ++ [v]).length : Nat) 1 8 && (e.vs.drop 1 ++ [v]).all verOk))) = _
    rw [hp, hl2, List.all_append, hd, List.all_cons, hv, List.all_nil]
    simp only [Bool.true_and, Bool.and_true]
    rw [Bool.eq_iff_iff, inR_true, decide_eq_true_eq]
    constructor
    · exact fun h => h.2
    · exact fun h => ⟨by omega, h⟩
theorem push_ok {us : List Entry} {i : Nat} {v : Ver} (h : storeOk us = true) (hi : i < us.length) (hv : verOk v = true) : storeOk (us.set i (pushE v us[i])) = decide ((pushE v us[i]).first ≤ 1000000) := by
  obtain ⟨h1, h2, h3⟩ := storeOk_iff.1 h
  have h4 := pushE_ok (h2 _ (List.getElem_mem hi)) hv
  have hp : (us.set i (pushE v us[i])).map (·.path) = us.map (·.path) := by
    rw [List.map_set, pushE_path]
    refine List.ext_getElem (by simp) fun j j1 j2 => ?_
    rw [List.getElem_set]
    split
    · next e => subst e; simp
    · rfl
  rw [Bool.eq_iff_iff, decide_eq_true_eq, storeOk_iff, hp, List.length_set]
  constructor
  · rintro ⟨-, h6, -⟩
    have := h6 _ (List.mem_set hi _)
    rw [h4] at this
    exact of_decide_eq_true this
  · intro h6
    refine ⟨h1, fun e he => ?_, h3⟩
    rcases List.mem_or_eq_of_mem_set he with he | rfl
    · exact h2 e he
    · rw [h4]; exact decide_eq_true h6
theorem ins_ok {us : List Entry} {s : ByteArray} {v : Ver} {a : Option Addr} {c : Nat} (h : storeOk us = true) (hs : pathF s = true) (hm : ∀ u ∈ us, hasP s u = false) (hv : verOk v = true) : storeOk (insK us s ⟨s, 1, [v], a, c⟩) = decide (us.length < 60) := by
  obtain ⟨h1, h2, h3⟩ := storeOk_iff.1 h
  obtain ⟨p1, p2, p3⟩ := insE_pos h3 hm
  have he : entOk ⟨s, 1, [v], a, c⟩ = true := by
    simp only [entOk, List.all_cons, List.all_nil, Bool.and_true, hs, hv, Bool.true_and]
    rfl
  have hr : Rises ((insK us s ⟨s, 1, [v], a, c⟩).map (·.path)) := by
    unfold insK
    rw [List.map_append, List.map_cons, List.map_take, List.map_drop]
    refine rises_ins h3 (by simpa using p1) (fun t x hx ht => ?_) (fun t x hx ht => ?_)
    · obtain ⟨h7, rfl⟩ := List.getElem?_eq_some_iff.1 hx
      simp only [List.getElem_map]
      exact p2 t (by simpa using h7) ht
    · obtain ⟨h7, rfl⟩ := List.getElem?_eq_some_iff.1 hx
      simp only [List.getElem_map]
      exact p3 t (by simpa using h7) ht
  have hl : (insK us s ⟨s, 1, [v], a, c⟩).length = us.length + 1 := insAt_len p1
  rw [Bool.eq_iff_iff, decide_eq_true_eq, storeOk_iff, hl]
  constructor
  · rintro ⟨h7, -⟩; omega
  · intro h7
    refine ⟨by omega, fun e he2 => ?_, hr⟩
    rcases List.mem_append.1 he2 with h8 | h8
    · exact h2 e (List.mem_of_mem_take h8)
    · rcases List.mem_cons.1 h8 with rfl | h8
      · exact he
      · exact h2 e (List.mem_of_mem_drop h8)
end Go.Proofs.YtklmcbabpncfmaaDoor
namespace Go.Proofs.YtklmcbabpncfmaaDoor
open Go.RowKit
set_option linter.unusedVariables false
theorem pushE_pl {v v2 : Ver} {e e2 : Entry} (h : plE e = plE e2) (hv : plV v = plV v2) : plE (pushE v e) = plE (pushE v2 e2) := by
  have h1 : e.path = e2.path := (congrArg Entry.path h : (plE e).path = (plE e2).path)
  have h2 : e.first = e2.first := (congrArg Entry.first h : (plE e).first = (plE e2).first)
  have h3 : e.vs.map plV = e2.vs.map plV := (congrArg Entry.vs h : (plE e).vs = (plE e2).vs)
  have hl : e.vs.length = e2.vs.length := by simpa using congrArg List.length h3
  unfold pushE
  rw [hl]
  split
  · simp only [plE, List.map_append, h1, h2, h3, List.map_cons, List.map_nil, hv]
  · simp only [plE, List.map_append, List.map_drop, h1, h2, h3, List.map_cons, List.map_nil, hv]
theorem closeA {w0 w : World} {g cap A4n c4 : Nat} {A4 : Option Addr} {path : ByteArray} {first : Int} {vs : List Ver} {v : Ver} {X : List Value} {B1 B2 B3 : Ent} {N : List Ent} (H : Hp w0 w (row 71 4 (.slice (some ⟨g, 0, none⟩) (vs.length + 1) cap) (vs.length + 1) (vs.flatMap encVer ++ encVer v) :: row 62 3 (.slice A4 A4n c4) A4n X :: rByte v.da v.dc v.data :: B1 :: B2 :: B3 :: (vs.flatMap verF ++ N))) :
    Hp w0 w (row 62 3 (.slice A4 A4n c4) A4n X :: (entX ⟨path, first, vs ++ [v], some ⟨g, 0, none⟩, cap⟩ ++ ([B1, B2, B3] ++ N))) := by
  have h2 := H.weak (wk_of (e' := rowx 71 4 (some ⟨g, 0, none⟩) (vs.length + 1) cap (vs.flatMap encVer ++ encVer v)) (fun _ h => h) row_rowx)
  have e1 : entX ⟨path, first, vs ++ [v], some ⟨g, 0, none⟩, cap⟩ = rowx 71 4 (some ⟨g, 0, none⟩) (vs.length + 1) cap (vs.flatMap encVer ++ encVer v) :: (vs.flatMap verF ++ [rByte v.da v.dc v.data]) := by
    simp [entX, versX, verF]
  rw [e1]
  refine h2.perm ?_
  generalize rowx 71 4 (some ⟨g, 0, none⟩) (vs.length + 1) cap (vs.flatMap encVer ++ encVer v) = a
  generalize row 62 3 (.slice A4 A4n c4) A4n X = b
  generalize vs.flatMap verF = Y
  generalize rByte v.da v.dc v.data = r
  letI : DecidableEq Ent := fun a b => Classical.propDecidable (a = b)
  rw [List.perm_iff_count]
  intro e
  simp only [List.count_cons, List.count_append, List.count_nil]
  omega
theorem closeB {w0 w : World} {g cap A4n c4 : Nat} {A4 : Option Addr} {path : ByteArray} {first : Int} {vs : List Ver} {v : Ver} {X : List Value} {B1 B2 B3 : Ent} {N : List Ent} (hv1 : 1 ≤ vs.length) (hcap : vs.length + 1 ≤ cap) (hdr : vs.length = (vs.drop 1 ++ [v]).length) (H : Hp w0 w (row 71 4 (.slice (some ⟨g, 0, none⟩) (vs.length + 1) cap) (vs.length + 1) (vs.flatMap encVer ++ encVer v) :: row 62 3 (.slice A4 A4n c4) A4n X :: rByte v.da v.dc v.data :: B1 :: B2 :: B3 :: (vs.flatMap verF ++ N))) :
    Hp w0 w (row 62 3 (.slice A4 A4n c4) A4n X :: (entX ⟨path, first, vs.drop 1 ++ [v], some ⟨g, 4, none⟩, cap - 1⟩ ++ ([B1, B2, B3] ++ N))) := by
  obtain ⟨v0, tl, rfl⟩ : ∃ v0 tl, vs = v0 :: tl := by
    cases vs with
    | nil => simp at hv1
    | cons a l => exact ⟨a, l, rfl⟩
  have h2 := H.weak (wk_of (e' := rowx 71 4 (some ⟨g, 4, none⟩) (v0 :: tl).length (cap - 1) (tl.flatMap encVer ++ encVer v)) (fun _ h => h) (fun h => row_rowx1 (pre := encVer v0) rfl hcap (by rw [List.flatMap_cons, List.append_assoc] at h; exact h)))
  have e1 : entX ⟨path, first, (v0 :: tl).drop 1 ++ [v], some ⟨g, 4, none⟩, cap - 1⟩ = rowx 71 4 (some ⟨g, 4, none⟩) (v0 :: tl).length (cap - 1) (tl.flatMap encVer ++ encVer v) :: (tl.flatMap verF ++ [rByte v.da v.dc v.data]) := by
    simp [entX, versX, verF]
  rw [e1]
  rw [List.flatMap_cons] at h2
  refine h2.sel ⟨verF v0, ?_⟩
  generalize rowx 71 4 (some ⟨g, 4, none⟩) (v0 :: tl).length (cap - 1) (tl.flatMap encVer ++ encVer v) = a
  generalize row 62 3 (.slice A4 A4n c4) A4n X = b
  generalize tl.flatMap verF = Y
  generalize rByte v.da v.dc v.data = r
  generalize verF v0 = Z
  letI : DecidableEq Ent := fun a b => Classical.propDecidable (a = b)
  rw [List.perm_iff_count]
  intro e
  simp only [List.count_cons, List.count_append, List.count_nil]
  omega
end Go.Proofs.YtklmcbabpncfmaaDoor
