/- Texts parted at a byte, and paths: plain definitions and lemmas. No condition. -/
import Derived.Test.YtlmmeeeoljlgcaaDoorStr
import Derived.Lib.SplitLaws
import Derived.Lib.IndexMore
import Derived.Lib.IndexAny
set_option linter.unusedVariables false
set_option linter.unusedSimpArgs false
namespace Go.Proofs.YtlmmeeeoljlgcaaDoor
open Go.RowKit
/-- The pieces of a text between the bytes c, the first begun with acc. -/
def segA (c : UInt8) (acc : List UInt8) : List UInt8 → List (List UInt8)
  | [] => [acc]
  | b :: l => if b == c then acc :: segA c [] l else segA c (acc ++ [b]) l
theorem segA_free {c : UInt8} : ∀ (l acc : List UInt8), c ∉ l → segA c acc l = [acc ++ l]
  | [], acc, _ => by simp [segA]
  | b :: l, acc, h => by
    have h1 : ¬ (b == c) = true := by intro h2; exact h (by simp [beq_iff_eq.1 h2])
    have h3 : c ∉ l := fun h4 => h (by simp [h4])
    rw [segA, if_neg h1, segA_free l _ h3]; simp
theorem segA_hit {c : UInt8} : ∀ (p r acc : List UInt8), c ∉ p → segA c acc (p ++ c :: r) = (acc ++ p) :: segA c [] r
  | [], r, acc, _ => by simp [segA]
  | b :: p, r, acc, h => by
    have h1 : ¬ (b == c) = true := by intro h2; exact h (by simp [beq_iff_eq.1 h2])
    have h3 : c ∉ p := fun h4 => h (by simp [h4])
    rw [List.cons_append, segA, if_neg h1, segA_hit p r _ h3]; simp
theorem occ1 {c : UInt8} {s : List UInt8} {j : Nat} (hj : j < s.length) : Lib.occAt s [c] j = (s[j] == c) := by
  rw [Lib.occAt_iff_take s [c] j (by simp only [List.length_singleton]; omega), List.drop_eq_getElem_cons hj]
  show (List.take 1 _ == _) = _
  rw [List.take_succ_cons, List.take_zero]
  by_cases h : s[j] = c
  · simp [h]
  · have h2 : (s[j] == c) = false := by simpa using h
    rw [h2]; simpa using h
theorem splitK_segA (c : UInt8) : ∀ (n : Nat) (s : List UInt8), Lib.count s [c] = n → Lib.splitK [c] 0 n s = segA c [] s
  | 0, s, h => by
    rw [Lib.count_one] at h
    have : c ∉ s := List.count_eq_zero.1 h
    rw [segA_free _ _ this]; rfl
  | n + 1, s, h => by
    rcases Lib.index_spec s [c] with ⟨h1, _⟩ | ⟨i, h1, h2, h3, h4⟩
    · rw [Lib.count_miss h1] at h; omega
    · have hi : i < s.length := by
        rcases Lib.occAt_room h3 with h5 | h5
        · simp at h5; omega
        · cases h5
      have hc := Lib.count_hit (by simp) h1
      rw [h] at hc
      simp at hc
      have he : s[i] = c := by rw [occ1 hi] at h3; simpa using h3
      have hs : s = s.take i ++ c :: s.drop (i + 1) := by
        rw [← he, ← List.drop_eq_getElem_cons hi, List.take_append_drop]
      have hn : c ∉ s.take i := by
        intro hm
        obtain ⟨j, hj, hje⟩ := List.getElem_of_mem hm
        rw [List.length_take] at hj
        have hj : j < i := by omega
        have := h4 j hj
        rw [occ1 (by omega)] at this
        rw [List.getElem_take] at hje
        simp [hje] at this
      have hne : ¬ (Lib.index s [c] == -1) = true := by rw [h1]; intro h5; have := beq_iff_eq.1 h5; omega
      rw [Lib.splitK, if_neg hne, h1]
      simp only [Int.toNat_natCast, Nat.add_zero, List.length_singleton]
      rw [splitK_segA c n (s.drop (i + 1)) (by omega)]
      conv => rhs; rw [hs, segA_hit _ _ _ hn]
      simp

/-- The pieces as texts. -/
def segsC (c : UInt8) (s : ByteArray) : List ByteArray := Lib.splitB ⟨#[c]⟩ 0 (Lib.countB s ⟨#[c]⟩) s
theorem segsC_data (c : UInt8) (s : ByteArray) : (segsC c s).map (·.data.toList) = segA c [] s.data.toList := by
  rw [segsC, Lib.splitB_data]
  exact splitK_segA c _ _ rfl
theorem bytes_inj {a b : ByteArray} (h : a.data.toList = b.data.toList) : a = b := by
  obtain ⟨⟨a⟩⟩ := a; obtain ⟨⟨b⟩⟩ := b
  simpa using h
theorem map_data_inj : ∀ {a b : List ByteArray}, a.map (·.data.toList) = b.map (·.data.toList) → a = b
  | [], [], _ => rfl
  | [], _ :: _, h => by cases h
  | _ :: _, [], h => by cases h
  | x :: a, y :: b, h => by
    simp only [List.map_cons, List.cons.injEq] at h
    rw [bytes_inj h.1, map_data_inj h.2]
/-- Where a walk over the text stands: out is laid, the piece from a to i is begun. -/
def PartI (s : ByteArray) (c : UInt8) (out : List ByteArray) (a i : Nat) : Prop := out.map (·.data.toList) ++ segA c ((s.extract a i).data.toList) (s.data.toList.drop i) = segA c [] s.data.toList
theorem ext_data (s : ByteArray) (a i : Nat) : (s.extract a i).data.toList = (s.data.toList.drop a).take (i - a) := by
  simp [ByteArray.data_extract, List.take_drop]
theorem part_start (s : ByteArray) (c : UInt8) : PartI s c [] 0 0 := by
  unfold PartI; simp
section
variable {s : ByteArray} {c : UInt8} {out : List ByteArray} {a i : Nat}
theorem drop_at (hi : i < s.size) : s.data.toList.drop i = s[i] :: s.data.toList.drop (i + 1) := List.drop_eq_getElem_cons (by simpa using hi)
theorem part_hit (h : PartI s c out a i) (hi : i < s.size) (hb : s[i] = c) : PartI s c (out ++ [s.extract a i]) (i + 1) (i + 1) := by
  unfold PartI at h ⊢
  rw [drop_at hi, segA, if_pos (by rw [hb]; simp)] at h
  rw [← h]
  simp
theorem part_go (h : PartI s c out a i) (ha : a ≤ i) (hi : i < s.size) (hb : s[i] ≠ c) : PartI s c out a (i + 1) := by
  unfold PartI at h ⊢
  rw [drop_at hi, segA, if_neg (by simpa using hb)] at h
  rw [← h]
  have he : (s.extract a (i + 1)).data.toList = (s.extract a i).data.toList ++ [s[i]] := by
    rw [ext_data, ext_data, show i + 1 - a = (i - a) + 1 by omega, List.take_succ_eq_append_getElem (by simp; omega)]
    congr 2
    simp only [List.getElem_drop]
    show s.data.toList[a + (i - a)]'_ = _
    have : a + (i - a) = i := by omega
    simp only [this]
    rfl
  rw [he]
theorem part_end (h : PartI s c out a s.size) : out ++ [s.extract a s.size] = segsC c s := by
  unfold PartI at h
  apply map_data_inj
  rw [segsC_data, ← h, List.drop_of_length_le (by simp)]
  simp [segA]
end
theorem segA_ne (c : UInt8) : ∀ (l acc : List UInt8), segA c acc l ≠ []
  | [], _ => by simp [segA]
  | b :: l, acc => by
    unfold segA; split
    · simp
    · exact segA_ne c l _
theorem segsC_pos (c : UInt8) (s : ByteArray) : 0 < (segsC c s).length := by
  have := segA_ne c s.data.toList []
  rw [← segsC_data] at this
  exact List.length_pos_iff.2 (by simpa using this)
theorem segA_len (c : UInt8) : ∀ (l acc : List UInt8), (segA c acc l).length ≤ l.length + 1
  | [], _ => by simp [segA]
  | b :: l, acc => by
    unfold segA; split
    · have := segA_len c l []; simp; omega
    · have := segA_len c l (acc ++ [b]); simp; omega
theorem segsC_len (c : UInt8) (s : ByteArray) : (segsC c s).length ≤ s.size + 1 := by
  have := segA_len c s.data.toList []
  rw [← segsC_data] at this
  simpa using this
/-- Each byte is the parting one or stands in a piece. -/
theorem segA_mem (c : UInt8) : ∀ (l acc : List UInt8) (b : UInt8), b ∈ acc ++ l → b = c ∨ ∃ p ∈ segA c acc l, b ∈ p
  | [], acc, b, h => .inr ⟨acc, by simp [segA], by simpa using h⟩
  | x :: l, acc, b, h => by
    by_cases hx : (x == c) = true
    · rw [segA, if_pos hx]
      rcases List.mem_append.1 h with h1 | h1
      · exact .inr ⟨acc, by simp, h1⟩
      · rcases List.mem_cons.1 h1 with rfl | h2
        · exact .inl (beq_iff_eq.1 hx)
        · rcases segA_mem c l [] b (by simpa using h2) with h3 | ⟨p, hp, hb⟩
          · exact .inl h3
          · exact .inr ⟨p, by simp [hp], hb⟩
    · rw [segA, if_neg hx]
      exact segA_mem c l (acc ++ [x]) b (by simpa using h)
theorem segA_sub (c : UInt8) : ∀ (l acc : List UInt8) (p : List UInt8), p ∈ segA c acc l → p.length ≤ acc.length + l.length
  | [], acc, p, h => by simp [segA] at h; subst h; simp
  | x :: l, acc, p, h => by
    unfold segA at h
    split at h
    · rcases List.mem_cons.1 h with rfl | h
      · simp
      · have := segA_sub c l [] p h; simp at this; simp; omega
    · have := segA_sub c l _ p h; simp at this; simp; omega
theorem segsC_size {c : UInt8} {s p : ByteArray} (h : p ∈ segsC c s) : p.size ≤ s.size := by
  have h1 : p.data.toList ∈ segA c [] s.data.toList := by rw [← segsC_data]; exact List.mem_map_of_mem h
  have := segA_sub c _ _ _ h1
  simpa using this

/-! ### paths -/
def segCh (b : UInt8) : Bool := nameCh b || decide (b.toNat = 45)
def segF (s : ByteArray) : Bool := inR s.size 1 16 && allB segCh s
def plusT : ByteArray := ⟨#[43]⟩
def starT : ByteArray := ⟨#[42]⟩
theorem list_plus {s : ByteArray} : (s.toList == [43]) = true ↔ s = plusT := by
  have h : eqB s plusT = (s.toList == [43]) := by unfold eqB; rw [show plusT.toList = [43] by decide +kernel]
  rw [← h, eqB_iff]
theorem list_star {s : ByteArray} : (s.toList == [42]) = true ↔ s = starT := by
  have h : eqB s starT = (s.toList == [42]) := by unfold eqB; rw [show starT.toList = [42] by decide +kernel]
  rw [← h, eqB_iff]
def okSeg (n i : Nat) (s : ByteArray) : Bool := segF s || ((s.toList == [43]) || ((s.toList == [42]) && decide (i + 1 = n)))
/-- The first k pieces are in order. -/
def okTo (L : List ByteArray) (k : Nat) : Prop := ∀ i s, i < k → L[i]? = some s → okSeg L.length i s = true
instance (L : List ByteArray) : Decidable (okTo L L.length) :=
  decidable_of_iff (∀ i : Fin L.length, okSeg L.length i.val L[i] = true) ⟨fun h i s hi hs => by
    obtain ⟨hl, rfl⟩ := List.getElem?_eq_some_iff.1 hs
    exact h ⟨i, hl⟩, fun h i => h i.val _ i.isLt (List.getElem?_eq_getElem i.isLt)⟩
def globL (L : List ByteArray) : Bool := decide (okTo L L.length) && decide (L.length ≤ 8)
def globF (s : ByteArray) : Bool := decide (s.size ≤ 120) && globL (segsC 47 s)
def freeCh (b : UInt8) : Bool := !decide (b.toNat = 43) && !decide (b.toNat = 42)
def pathF (s : ByteArray) : Bool := globF s && allB freeCh s
theorem okTo_zero (L : List ByteArray) : okTo L 0 := fun i s h => by omega
theorem okTo_succ {L : List ByteArray} {k : Nat} (h : okTo L k) (hk : k < L.length) (hs : okSeg L.length k L[k] = true) : okTo L (k + 1) := by
  intro i s hi he
  by_cases h1 : i = k
  · subst h1; rw [List.getElem?_eq_getElem hk] at he; injection he with he; rw [← he]; exact hs
  · exact h i s (by omega) he
theorem globL_no {L : List ByteArray} {k : Nat} (hk : k < L.length) (hs : okSeg L.length k L[k] = false) : globL L = false := by
  have : ¬ okTo L L.length := fun h => by
    have := h k _ hk (List.getElem?_eq_getElem hk)
    rw [hs] at this; cases this
  simp [globL, this]
theorem globL_end {L : List ByteArray} (h : okTo L L.length) : globL L = decide (L.length ≤ 8) := by simp [globL, h]
theorem segCh_ascii {b : UInt8} (h : segCh b = true) : b.toNat < 128 := by
  simp [segCh, nameCh] at h; omega
theorem glob_ascii {s : ByteArray} (h : globF s = true) : ∀ (j : Nat) b, s.data.toList[j]? = some b → b.toNat < 128 := by
  intro j b hj
  simp only [globF, globL, Bool.and_eq_true, decide_eq_true_eq] at h
  obtain ⟨_, hok, _⟩ := h
  rcases segA_mem 47 s.data.toList [] b (by simpa using List.mem_of_getElem? hj) with rfl | ⟨p, hp, hb⟩
  · decide
  · rw [← segsC_data] at hp
    obtain ⟨q, hq, rfl⟩ := List.mem_map.1 hp
    obtain ⟨i, hi, rfl⟩ := List.getElem_of_mem hq
    have h1 := hok i _ hi (List.getElem?_eq_getElem hi)
    simp only [okSeg, Bool.or_eq_true, Bool.and_eq_true, decide_eq_true_eq, list_plus, list_star] at h1
    rcases h1 with h1 | h1 | ⟨h1, _⟩
    · simp only [segF, Bool.and_eq_true, allB, List.all_eq_true] at h1
      exact segCh_ascii (h1.2 b hb)
    · rw [h1] at hb; simp [plusT] at hb; subst hb; decide
    · rw [h1] at hb; simp [starT] at hb; subst hb; decide
theorem indexAny_free (ch : List UInt8) : ∀ l : List UInt8, Lib.indexAny l ch = -1 ↔ ∀ b ∈ l, b ∉ ch
  | [] => by simp [Lib.indexAny]
  | x :: l => by
    have ih := indexAny_free ch l
    have hge := Lib.indexAny_ge ch l
    by_cases hx : x ∈ ch
    · have h1 : ch.contains x = true := by simpa using hx
      have h2 : Lib.indexAny (x :: l) ch = 0 := by rw [Lib.indexAny, if_pos h1]
      rw [h2]
      refine ⟨fun h => by omega, fun h => absurd hx (h x (by simp))⟩
    · have h1 : ¬ ch.contains x = true := by simpa using hx
      by_cases h3 : Lib.indexAny l ch = -1
      · have h2 : Lib.indexAny (x :: l) ch = -1 := by rw [Lib.indexAny, if_neg h1, if_pos (by simpa using h3)]
        rw [h2]
        refine ⟨fun _ b hb => ?_, fun _ => rfl⟩
        rcases List.mem_cons.1 hb with rfl | hb
        · exact hx
        · exact ih.1 h3 b hb
      · have h2 : Lib.indexAny (x :: l) ch = Lib.indexAny l ch + 1 := by rw [Lib.indexAny, if_neg h1, if_neg (by simpa using h3)]
        rw [h2]
        refine ⟨fun h => by omega, fun h => absurd (ih.2 fun b hb => h b (List.mem_cons_of_mem _ hb)) h3⟩
theorem containsAny_free (s : ByteArray) : (!Lib.containsAny s.data.toList [43, 42]) = allB freeCh s := by
  have hge := Lib.indexAny_ge [43, 42] s.data.toList
  have h := indexAny_free [43, 42] s.data.toList
  have hb : ∀ b : UInt8, freeCh b = true ↔ b ∉ ([43, 42] : List UInt8) := by
    intro b
    simp only [freeCh, Bool.and_eq_true, Bool.not_eq_true', decide_eq_false_iff_not, List.mem_cons, List.not_mem_nil, or_false, not_or]
    constructor
    · rintro ⟨h1, h2⟩; exact ⟨fun e => h1 (by rw [e]; rfl), fun e => h2 (by rw [e]; rfl)⟩
    · rintro ⟨h1, h2⟩; exact ⟨fun e => h1 (UInt8.toNat_inj.1 e), fun e => h2 (UInt8.toNat_inj.1 e)⟩
  by_cases h1 : Lib.indexAny s.data.toList [43, 42] = -1
  · have h2 : allB freeCh s = true := by rw [allB, List.all_eq_true]; exact fun b hbm => (hb b).2 (h.1 h1 b hbm)
    rw [h2]; simp [Lib.containsAny, h1]
  · have h2 : allB freeCh s = false := by
      rw [← Bool.not_eq_true, allB, List.all_eq_true]
      exact fun h3 => h1 (h.2 fun b hbm => (hb b).1 (h3 b hbm))
    rw [h2]
    have : (0 : Int) ≤ Lib.indexAny s.data.toList [43, 42] := by omega
    simp [Lib.containsAny, this]
end Go.Proofs.YtlmmeeeoljlgcaaDoor
