/- The listing of a store in plain words. No condition. -/
import Derived.Test.YtklmcbabpncfmaaDoorKvQ
import Derived.Test.YtklmcbabpncfmaaDoorKvH
import Derived.Test.YtklmcbabpncfmaaDoorM4
import Derived.Test.YtklmcbabpncfmaaDoorUnder
import Derived.Lib.RowBridge
import Derived.Lib.SlicesCompact
import Derived.Lib.IndexMore
namespace Go.Proofs.YtklmcbabpncfmaaDoor
open Go.RowKit
set_option linter.unusedVariables false
def headS (r : ByteArray) : ByteArray := (segsC 47 r)[0]'(segsC_pos 47 r)
/-- The first segment, with a slash where more follow. -/
def nameS (r : ByteArray) : ByteArray := if 1 < (segsC 47 r).length then headS r ++ ⟨#[47]⟩ else headS r
/-- What is left of a path behind a prefix, if it lies under it. -/
def restS (p s : ByteArray) : Option ByteArray := if p.size = 0 then some s else if (underF p s && !eqB s p) = true then some (s.extract (p.size + 1) s.size) else none
def namesS (es : List Entry) (p : ByteArray) : List ByteArray := es.filterMap fun e => (restS p e.path).map nameS
def listS (es : List Entry) (p : ByteArray) : List ByteArray := (namesS es p).foldl putT []
def prefF (p : ByteArray) : Bool := decide (p.size = 0) || pathF p

/-! ### Ascending lists -/
abbrev Up (l : List (List UInt8)) : Prop := l.Pairwise (· < ·)
theorem up_ext : ∀ (a b : List (List UInt8)), Up a → Up b → (∀ x, x ∈ a ↔ x ∈ b) → a = b
  | [], [], _, _, _ => rfl
  | [], y :: b, _, _, h => by have := (h y).2 List.mem_cons_self; cases this
  | x :: a, [], _, _, h => by have := (h x).1 List.mem_cons_self; cases this
  | x :: a, y :: b, ha, hb, h => by
    obtain ⟨ha1, ha2⟩ := List.pairwise_cons.1 ha
    obtain ⟨hb1, hb2⟩ := List.pairwise_cons.1 hb
    have hxy : x = y := by
      rcases List.mem_cons.1 ((h x).1 List.mem_cons_self) with e | e
      · exact e
      · rcases List.mem_cons.1 ((h y).2 List.mem_cons_self) with e2 | e2
        · exact e2.symm
        · exact absurd (List.lt_trans (hb1 x e) (ha1 y e2)) (List.lt_irrefl _)
    subst hxy
    rw [up_ext a b ha2 hb2 fun z => ?_]
    constructor
    · intro hz
      rcases List.mem_cons.1 ((h z).1 (List.mem_cons_of_mem _ hz)) with e | e
      · subst e; exact absurd (ha1 z hz) (List.lt_irrefl _)
      · exact e
    · intro hz
      rcases List.mem_cons.1 ((h z).2 (List.mem_cons_of_mem _ hz)) with e | e
      · subst e; exact absurd (hb1 z hz) (List.lt_irrefl _)
      · exact e
def dl (l : List ByteArray) : List (List UInt8) := l.map (·.data.toList)
theorem ltS_d {a b : ByteArray} : ltS a b = true ↔ a.data.toList < b.data.toList := by rw [ltS_lt, ByteArray.toList_eq, ByteArray.toList_eq]
theorem putT_mem : ∀ (l : List ByteArray) (x z : ByteArray), z ∈ putT l x ↔ z = x ∨ z ∈ l
  | [], x, z => by simp [putT]
  | y :: l, x, z => by
    rw [putT]
    split
    · rw [List.mem_cons, putT_mem l x z, List.mem_cons]
      constructor
      · rintro (h | h | h)
        · exact .inr (.inl h)
        · exact .inl h
        · exact .inr (.inr h)
      · rintro (h | h | h)
        · exact .inr (.inl h)
        · exact .inl h
        · exact .inr (.inr h)
    · next h1 =>
      split
      · simp
      · next h2 =>
        have he : x = y := by
          rcases ltS_tri x y with h | h | h
          · exact absurd h h2
          · exact h
          · exact absurd h h1
        subst he
        simp
theorem putT_up : ∀ (l : List ByteArray) (x : ByteArray), Up (dl l) → Up (dl (putT l x))
  | [], x, _ => by simp [putT, dl]
  | y :: l, x, h => by
    have h' := h
    simp only [dl, List.map_cons] at h'
    obtain ⟨h1, h2⟩ := List.pairwise_cons.1 h'
    rw [putT]
    split
    · next hl =>
      simp only [dl, List.map_cons]
      refine List.pairwise_cons.2 ⟨fun z hz => ?_, putT_up l x h2⟩
      obtain ⟨b, hb, rfl⟩ := List.mem_map.1 hz
      rcases (putT_mem l x b).1 hb with rfl | hb
      · exact ltS_d.1 hl
      · exact h1 _ (List.mem_map_of_mem hb)
    · split
      · next hl =>
        simp only [dl, List.map_cons]
        refine List.pairwise_cons.2 ⟨fun z hz => ?_, h'⟩
        rcases List.mem_cons.1 hz with rfl | hz
        · exact ltS_d.1 hl
        · exact List.lt_trans (ltS_d.1 hl) (h1 z hz)
      · exact h
theorem fold_mem : ∀ (l acc : List ByteArray) (z : ByteArray), z ∈ l.foldl putT acc ↔ z ∈ acc ∨ z ∈ l
  | [], acc, z => by simp
  | x :: l, acc, z => by
    rw [List.foldl_cons, fold_mem l, putT_mem, List.mem_cons]
    constructor
    · rintro ((h | h) | h)
      · exact .inr (.inl h)
      · exact .inl h
      · exact .inr (.inr h)
    · rintro (h | h | h)
      · exact .inl (.inr h)
      · exact .inl (.inl h)
      · exact .inr h
theorem fold_up : ∀ (l acc : List ByteArray), Up (dl acc) → Up (dl (l.foldl putT acc))
  | [], acc, h => h
  | x :: l, acc, h => fold_up l _ (putT_up acc x h)
theorem fold_len : ∀ (l acc : List ByteArray), (l.foldl putT acc).length ≤ acc.length + l.length
  | [], acc => Nat.le_refl _
  | x :: l, acc => by
    have h1 := fold_len l (putT acc x)
    have h2 := putT_len acc x
    simp only [List.foldl_cons, List.length_cons]
    omega

/-! ### Sorted, then compacted -/
theorem le_or {a b : List UInt8} (h : a ≤ b) : a < b ∨ a = b := by
  by_cases h1 : a < b
  · exact .inl h1
  · exact .inr (List.le_antisymm h (List.not_lt.1 h1))
theorem lt_of_le {a b c : List UInt8} (h : a ≤ b) (h' : b < c) : a < c := by
  rcases le_or h with h1 | h1
  · exact List.lt_trans h1 h'
  · subst h1; exact h'
theorem ms_sorted (zs : List (List UInt8)) : (zs.mergeSort fun x y => decide (x ≤ y)).Pairwise (· ≤ ·) := by
  have h := List.pairwise_mergeSort (le := fun x y : List UInt8 => decide (x ≤ y)) (fun a b c h1 h2 => by simp only [decide_eq_true_eq] at *; exact List.le_trans h1 h2) (fun a b => by simp only [Bool.or_eq_true, decide_eq_true_eq]; exact List.le_total a b) zs
  exact h.imp fun h => by simpa using h
theorem comp_inv (d : List (List UInt8)) (h : d.Pairwise (· ≤ ·)) : ∀ m, m ≤ d.length → Up (Lib.compactUpTo d.toArray m) ∧ ∀ x, x ∈ Lib.compactUpTo d.toArray m ↔ ∃ j, j < m ∧ d[j]? = some x
  | 0, _ => ⟨by simp [Lib.compactUpTo], fun x => by simp [Lib.compactUpTo]⟩
  | m + 1, hm => by
    obtain ⟨h1, h2⟩ := comp_inv d h m (by omega)
    have hg : d.toArray[m]! = d[m] := by rw [getElem!_pos d.toArray m (by simpa using (by omega : m < d.length))]; simp
    rw [Lib.compactUpTo_succ]
    cases hk : Lib.keeps d.toArray m with
    | true =>
      rw [if_pos rfl, hg]
      have hlow : ∀ x ∈ Lib.compactUpTo d.toArray m, x < d[m] := by
        intro x hx
        obtain ⟨j, hj, hje⟩ := (h2 x).1 hx
        have hjl : j < d.length := by omega
        rw [List.getElem?_eq_getElem hjl] at hje
        injection hje with hje
        subst hje
        have hm0 : m ≠ 0 := by omega
        have hp : d.toArray[m - 1]! = d[m - 1] := by rw [getElem!_pos d.toArray (m - 1) (by simpa using (by omega : m - 1 < d.length))]; simp
        have hne : d[m] ≠ d[m - 1] := by
          have := of_decide_eq_true hk
          rw [hg, hp] at this
          rcases this with e | e
          · exact absurd e hm0
          · exact e
        have hle : d[m - 1] ≤ d[m] := List.pairwise_iff_getElem.1 h (m - 1) m (by omega) (by omega) (by omega)
        have hlt : d[m - 1] < d[m] := by
          rcases le_or hle with e | e
          · exact e
          · exact absurd e.symm hne
        by_cases hjm : j = m - 1
        · subst hjm; exact hlt
        · exact lt_of_le (List.pairwise_iff_getElem.1 h j (m - 1) (by omega) (by omega) (by omega)) hlt
      refine ⟨List.pairwise_append.2 ⟨h1, List.pairwise_singleton _ _, fun x hx y hy => by rw [List.mem_singleton.1 hy]; exact hlow x hx⟩, fun x => ?_⟩
      rw [List.mem_append, List.mem_singleton, h2]
      constructor
      · rintro (⟨j, hj, e⟩ | e)
        · exact ⟨j, by omega, e⟩
        · exact ⟨m, by omega, by rw [e, List.getElem?_eq_getElem]⟩
      · rintro ⟨j, hj, e⟩
        by_cases hjm : j = m
        · subst hjm; rw [List.getElem?_eq_getElem (by omega)] at e; injection e with e; exact .inr e.symm
        · exact .inl ⟨j, by omega, e⟩
    | false =>
      rw [if_neg (by decide), List.append_nil]
      have hno : ¬ (m = 0 ∨ d.toArray[m]! ≠ d.toArray[m - 1]!) := of_decide_eq_false hk
      have hm0 : m ≠ 0 := fun e => hno (.inl e)
      have hp : d.toArray[m - 1]! = d[m - 1] := by rw [getElem!_pos d.toArray (m - 1) (by simpa using (by omega : m - 1 < d.length))]; simp
      have he : d[m] = d[m - 1] := by
        have := fun e => hno (.inr e)
        rw [hg, hp] at this
        exact Decidable.not_not.1 this
      refine ⟨h1, fun x => ?_⟩
      rw [h2]
      constructor
      · rintro ⟨j, hj, e⟩; exact ⟨j, by omega, e⟩
      · rintro ⟨j, hj, e⟩
        by_cases hjm : j = m
        · rw [hjm, List.getElem?_eq_getElem (by omega), he] at e
          exact ⟨m - 1 , by omega, by rw [List.getElem?_eq_getElem (by omega)]; exact e⟩
        · exact ⟨j, by omega, e⟩
theorem comp_sort (zs : List (List UInt8)) : Up (Lib.compact (zs.mergeSort fun x y => decide (x ≤ y))) ∧ ∀ x, x ∈ Lib.compact (zs.mergeSort fun x y => decide (x ≤ y)) ↔ x ∈ zs := by
  obtain ⟨h1, h2⟩ := comp_inv _ (ms_sorted zs) _ (Nat.le_refl _)
  refine ⟨h1, fun x => ?_⟩
  show x ∈ Lib.compactUpTo _ _ ↔ _
  rw [h2, ← List.mem_mergeSort (le := fun x y => decide (x ≤ y)), List.mem_iff_getElem?]
  constructor
  · rintro ⟨j, hj, e⟩; exact ⟨j, e⟩
  · rintro ⟨j, e⟩; exact ⟨j, (List.getElem?_eq_some_iff.1 e).1, e⟩
theorem sort_list (raw : List ByteArray) : Lib.compact ((dl raw).mergeSort fun x y => decide (x ≤ y)) = dl (raw.foldl putT []) := by
  obtain ⟨h1, h2⟩ := comp_sort (dl raw)
  refine up_ext _ _ h1 (fold_up raw [] (by simp [dl])) fun x => ?_
  rw [h2]
  unfold dl
  rw [List.mem_map, List.mem_map]
  constructor
  · rintro ⟨z, hz, rfl⟩; exact ⟨z, (fold_mem raw [] z).2 (.inr hz), rfl⟩
  · rintro ⟨z, hz, rfl⟩
    rcases (fold_mem raw [] z).1 hz with h | h
    · cases h
    · exact ⟨z, h, rfl⟩

/-! ### Names -/
theorem segA_acc (c : UInt8) : ∀ (l acc : List UInt8), segA c acc l = (match segA c [] l with | [] => [] | h :: t => (acc ++ h) :: t)
  | [], acc => by simp [segA]
  | b :: l, acc => by
    rw [segA, segA]
    split
    · simp
    · rw [segA_acc c l (acc ++ [b]), segA_acc c l ([] ++ [b])]
      cases segA c [] l with
      | nil => rfl
      | cons h t => simp
theorem segA_append (c : UInt8) : ∀ (l acc r : List UInt8), segA c acc (l ++ c :: r) = segA c acc l ++ segA c [] r
  | [], acc, r => by simp [segA]
  | b :: l, acc, r => by
    rw [List.cons_append, segA, segA]
    split
    · rw [segA_append c l [] r]; rfl
    · rw [segA_append c l _ r]
/-- A text parted at its first slash. -/
theorem cut_seg (r : List UInt8) : (Lib.cut r [47] = (r, [], false) ∧ segA 47 [] r = [r]) ∨ ∃ p q, Lib.cut r [47] = (p, q, true) ∧ segA 47 [] r = p :: segA 47 [] q := by
  unfold Lib.cut
  rcases Lib.index_spec r [47] with ⟨h1, h2⟩ | ⟨i, h1, h2, h3, h4⟩
  · left
    rw [if_neg (by omega)]
    refine ⟨rfl, ?_⟩
    rw [segA_free]; rfl
    intro hm
    obtain ⟨j, hj, hje⟩ := List.getElem_of_mem hm
    have := h2 j (by omega)
    rw [occ1 hj] at this
    simp [hje] at this
  · right
    have hi : i < r.length := by
      rcases Lib.occAt_room h3 with h5 | h5
      · simp at h5; omega
      · cases h5
    have he : r[i] = 47 := by rw [occ1 hi] at h3; simpa using h3
    have hs : r = r.take i ++ 47 :: r.drop (i + 1) := by
      rw [← he, ← List.drop_eq_getElem_cons hi, List.take_append_drop]
    have hn : (47 : UInt8) ∉ r.take i := by
      intro hm
      obtain ⟨j, hj, hje⟩ := List.getElem_of_mem hm
      rw [List.length_take] at hj
      have hj : j < i := by omega
      have := h4 j hj
      rw [occ1 (by omega)] at this
      rw [List.getElem_take] at hje
      simp [hje] at this
    rw [if_pos (by omega), h1]
    refine ⟨r.take i, r.drop (i + 1), by simp, ?_⟩
    conv => lhs; rw [hs, segA_hit _ _ _ hn]
    simp
theorem seg_len (r : ByteArray) : (segsC 47 r).length = (segA 47 [] r.data.toList).length := by rw [← segsC_data, List.length_map]
theorem head_d (r : ByteArray) : (segA 47 [] r.data.toList)[0]? = some (headS r).data.toList := by
  rw [← segsC_data, List.getElem?_map, List.getElem?_eq_getElem (segsC_pos 47 r)]; rfl
theorem name_cut (r : ByteArray) : nameS r = (if (Lib.cut r.data.toList [47]).2.2 = true then (⟨(Lib.cut r.data.toList [47]).1.toArray⟩ : ByteArray) ++ ⟨#[47]⟩ else ⟨(Lib.cut r.data.toList [47]).1.toArray⟩) := by
  have hh := head_d r
  unfold nameS
  rcases cut_seg r.data.toList with ⟨hc, hs⟩ | ⟨p, q, hc, hs⟩
  · rw [hs] at hh
    have e : headS r = ⟨r.data.toList.toArray⟩ := bytes_inj (by injection hh with hh; rw [← hh])
    rw [seg_len, hs, hc, if_neg (by simp), if_neg (by simp), e]
  · rw [hs] at hh
    have e : headS r = ⟨p.toArray⟩ := bytes_inj (by injection hh with hh; rw [← hh])
    have hp := List.length_pos_iff.2 (segA_ne 47 q [])
    rw [seg_len, hs, hc, if_pos (by rw [List.length_cons]; omega), if_pos rfl, e]
/-- A name without a slash at its end is the whole rest. -/
theorem name_whole {r : ByteArray} (h : (nameS r).data.toList.getLast? ≠ some 47) : nameS r = r := by
  rw [name_cut] at h ⊢
  rcases cut_seg r.data.toList with ⟨hc, hs⟩ | ⟨p, q, hc, hs⟩
  · rw [hc, if_neg (by simp)]
  · rw [hc, if_pos rfl] at h
    exact absurd (by simp) h
theorem seg_ne {s t : ByteArray} (h : pathF s = true) (ht : t ∈ segsC 47 s) : t.data.toList ≠ [] := by
  have hg : globF s = true := by cases h9 : globF s with | true => rfl | false => rw [path_no h9] at h; cases h
  simp only [globF, globL, Bool.and_eq_true, decide_eq_true_eq] at hg
  obtain ⟨-, hok, -⟩ := hg
  obtain ⟨i, hi, rfl⟩ := List.getElem_of_mem ht
  have h1 := hok i _ hi (List.getElem?_eq_getElem hi)
  intro h0
  simp only [okSeg, Bool.or_eq_true] at h1
  rcases h1 with h1 | h1 | h1
  · simp only [segF, Bool.and_eq_true] at h1
    have h2 := (inR_true.1 h1.1).1
    have h3 : ((segsC 47 s)[i]).size = 0 := by
      have := congrArg List.length h0
      simpa using this
    omega
  · rw [ByteArray.toList_eq, h0] at h1; cases h1
  · rw [Bool.and_eq_true, ByteArray.toList_eq, h0] at h1; cases h1.1
theorem rest_data {p s r : ByteArray} (h : restS p s = some r) (hp : p.size ≠ 0) : s.data.toList = p.data.toList ++ 47 :: r.data.toList ∧ (p ++ ⟨#[47]⟩) ++ r = s := by
  unfold restS at h
  rw [if_neg hp] at h
  by_cases hu : (underF p s && !eqB s p) = true
  · rw [if_pos hu] at h
    injection h with h
    subst h
    rw [Bool.and_eq_true, Bool.not_eq_true'] at hu
    have h1 : pathF p = true := by cases h9 : pathF p with | true => rfl | false => rw [under_no1 h9] at hu; cases hu.1
    have h2 : pathF s = true := by cases h9 : pathF s with | true => rfl | false => rw [under_no2 h9] at hu; cases hu.1
    have hd : s.data.toList = p.data.toList ++ 47 :: (s.extract (p.size + 1) s.size).data.toList := by
      rcases (under_prop h1 h2).1 hu.1 with h3 | ⟨h3, h4, h5⟩
      · rw [eqB, h3] at hu; simp at hu
      · have h6 : s.data.toList.take p.size = p.data.toList := by
          rw [toListB, toListB] at h4
          rw [← h4]; simp [ByteArray.data_extract]
        rw [ext_data]
        have hl : s.data.toList.length = s.size := by simp
        rw [List.take_of_length_le (by rw [List.length_drop]; omega)]
        conv => lhs; rw [← List.take_append_drop p.size s.data.toList, h6, List.drop_eq_getElem_cons (by omega)]
        rw [List.getElem?_eq_getElem (by omega)] at h5
        injection h5 with h5
        rw [h5]
    refine ⟨hd, bytes_inj ?_⟩
    rw [hd]
    simp
  · rw [if_neg hu] at h; cases h
theorem name_ne {p s r : ByteArray} (hs : pathF s = true) (h : restS p s = some r) : (nameS r).data.toList ≠ [] := by
  have hm : (headS r).data.toList ∈ segA 47 [] s.data.toList := by
    have h0 : (headS r).data.toList ∈ segA 47 [] r.data.toList := List.mem_of_getElem? (head_d r)
    by_cases hp : p.size = 0
    · rw [restS, if_pos hp] at h; injection h with h; subst h; exact h0
    · rw [(rest_data h hp).1, segA_append]
      exact List.mem_append_right _ h0
  rw [← segsC_data] at hm
  obtain ⟨t, ht, he⟩ := List.mem_map.1 hm
  have h1 := seg_ne hs ht
  rw [he] at h1
  unfold nameS
  split
  · intro h2
    apply h1
    have := congrArg List.length h2
    simp at this
  · exact h1
theorem list_mem {us : List Entry} {p x : ByteArray} : x ∈ listS us p ↔ ∃ e ∈ us, ∃ r, restS p e.path = some r ∧ nameS r = x := by
  unfold listS
  rw [fold_mem]
  unfold namesS
  rw [List.mem_filterMap]
  constructor
  · rintro (h | ⟨e, he, h⟩)
    · cases h
    · obtain ⟨r, hr, h⟩ := Option.map_eq_some_iff.1 h
      exact ⟨e, he, r, hr, h⟩
  · rintro ⟨e, he, r, hr, h⟩
    exact .inr ⟨e, he, by rw [hr, Option.map_some, h]⟩
theorem list_up (us : List Entry) (p : ByteArray) : Up (dl (listS us p)) := fold_up _ [] (by simp [dl])
theorem list_len (us : List Entry) (p : ByteArray) : (listS us p).length ≤ us.length := by
  have h1 := fold_len (namesS us p) []
  have h2 : (namesS us p).length ≤ us.length := List.length_filterMap_le ..
  unfold listS
  simp only [List.length_nil] at h1
  omega
/-- The program's words for what is left behind a prefix. -/
theorem rest_impl {p s : ByteArray} (hp : prefF p = true) (hs : pathF s = true) : restS p s = if Lib.hasPrefix s.data.toList (if p.size = 0 then p else p ++ ⟨#[47]⟩).data.toList = true then some ⟨(Lib.trimPrefix s.data.toList (if p.size = 0 then p else p ++ ⟨#[47]⟩).data.toList).toArray⟩ else none := by
  unfold restS
  by_cases h0 : p.size = 0
  · rw [if_pos h0, if_pos h0]
    have hd : p.data.toList = [] := List.eq_nil_of_length_eq_zero (by simpa using h0)
    have h1 : Lib.hasPrefix s.data.toList p.data.toList = true := by rw [hd]; simp [Lib.hasPrefix]
    rw [if_pos h1, Lib.trimPrefix, if_pos h1, hd]
    simp
  · rw [if_neg h0, if_neg h0]
    have h1 : pathF p = true := by simpa [prefF, h0] using hp
    have hpd : (p ++ ⟨#[47]⟩ : ByteArray).data.toList = p.data.toList ++ [47] := by simp
    have hlp : p.data.toList.length = p.size := by simp
    have hls : s.data.toList.length = s.size := by simp
    have hiff : (underF p s && !eqB s p) = true ↔ Lib.hasPrefix s.data.toList (p.data.toList ++ [47]) = true := by
      rw [Bool.and_eq_true, under_prop h1 hs, Lib.hasPrefix, List.isPrefixOf_iff_prefix, List.prefix_iff_eq_take, List.length_append, List.length_singleton]
      rw [toListB, toListB, toListB, hlp]
      constructor
      · rintro ⟨h2 | ⟨h3, h4, h5⟩, h6⟩
        · rw [eqB, toListB, toListB, h2] at h6; simp at h6
        · have h7 : s.data.toList.take p.size = p.data.toList := by rw [← h4]; simp [ByteArray.data_extract]
          rw [List.take_add_one, h7, h5]; rfl
      · intro h2
        have h8 := congrArg List.length h2
        rw [List.length_append, List.length_singleton, List.length_take, hlp, hls] at h8
        have h3 : p.size < s.size := by omega
        have h9 : s.data.toList.take p.size = p.data.toList := by
          have := congrArg (List.take p.size) h2
          rw [List.take_take, Nat.min_eq_left (by omega), ← hlp, List.take_left] at this
          rw [← hlp]; exact this.symm
        have h10 : s.data.toList[p.size]? = some 47 := by
          have h11 : (p.data.toList ++ [47])[p.size]? = some 47 := by rw [← hlp, List.getElem?_append_right (Nat.le_refl _), Nat.sub_self]; rfl
          rw [h2, List.getElem?_take, if_pos (by omega)] at h11
          exact h11
        refine ⟨.inr ⟨h3, ?_, h10⟩, ?_⟩
        · rw [← h9]; simp [ByteArray.data_extract]
        · cases h12 : eqB s p with
          | false => rfl
          | true => rw [eqB_iff.1 h12] at h3; omega
    rw [hpd]
    by_cases hu : (underF p s && !eqB s p) = true
    · rw [if_pos hu, if_pos (hiff.1 hu), Lib.trimPrefix, if_pos (hiff.1 hu)]
      congr 1
      apply bytes_inj
      rw [ext_data, List.length_append, List.length_singleton, hlp]
      rw [List.take_of_length_le (by rw [List.length_drop]; omega)]
    · rw [if_neg hu, if_neg (fun h => hu (hiff.2 h))]
theorem ixL_at {us : List Entry} (h : storeOk us = true) {s : ByteArray} {j : Nat} (hj : j < us.length) (he : us[j].path = s) : ixP (hasP s) us 0 = (j : Int) := by
  rcases ixP_spec (hasP s) us 0 with ⟨-, hall⟩ | ⟨i, hi, hx, hhit, -⟩
  · have := hall us[j] (List.getElem_mem hj)
    rw [hasP, eqB_iff.2 he] at this; cases this
  · have hij : i = j := (store_rises h).inj (by simpa using hi) (by simpa using hj) (by simp only [List.getElem_map]; rw [eqB_iff.1 hhit, he])
    rw [hx, hij, Nat.zero_add]
theorem codeV (v : Ver) (n : Int) : (if v.dead = true then (⟨[], 4, 0⟩ : GetR) else if v.gone = true then ⟨[], 3, 0⟩ else ⟨v.data, 0, n⟩).code = 0 ∨ (if v.dead = true then (⟨[], 4, 0⟩ : GetR) else if v.gone = true then ⟨[], 3, 0⟩ else ⟨v.data, 0, n⟩).code = 3 ∨ (if v.dead = true then (⟨[], 4, 0⟩ : GetR) else if v.gone = true then ⟨[], 3, 0⟩ else ⟨v.data, 0, n⟩).code = 4 := by
  cases v.dead with
  | true => exact .inr (.inr rfl)
  | false =>
    cases v.gone with
    | true => exact .inr (.inl rfl)
    | false => exact .inl rfl
/-- An entry's path is found. -/
theorem get_has {us : List Entry} (h1 : storeOk us = true) {e : Entry} (he : e ∈ us) : (getF us e.path 0).code = 0 ∨ (getF us e.path 0).code = 3 ∨ (getF us e.path 0).code = 4 := by
  obtain ⟨j, hj, rfl⟩ := List.getElem_of_mem he
  obtain ⟨-, hf, hv1, hv8, -⟩ := (ok_entry h1).2 us[j] (List.getElem_mem hj)
  rw [getF, if_pos h1, ixL_at h1 hj rfl, if_pos (by omega), Int.toNat_natCast, List.getElem?_eq_getElem hj]
  show (getE us[j] 0).code = 0 ∨ (getE us[j] 0).code = 3 ∨ (getE us[j] 0).code = 4
  rw [getE, if_pos rfl, if_pos (inR_true.2 ⟨by omega, by omega⟩)]
  have hix : (us[j].first + (us[j].vs.length : Int) - 1 - us[j].first).toNat < us[j].vs.length := by omega
  rw [List.getElem?_eq_getElem hix]
  exact codeV _ _
end Go.Proofs.YtklmcbabpncfmaaDoor
