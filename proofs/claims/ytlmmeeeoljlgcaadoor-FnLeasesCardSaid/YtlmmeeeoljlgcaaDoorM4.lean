/- Texts: equal, below, rising lists. No condition. -/
import Derived.Test.YtlmmeeeoljlgcaaDoorM1
import Derived.Laws.StructEq
import Derived.Sort.Walk0
import Derived.Lib.SplitLaws
import Derived.Lib.IndexMore
import Derived.Lib.IndexAny
import Derived.Test.YtlmmeeeoljlgcaaDoorM3
import Derived.Test.YtlmmeeeoljlgcaaDoorM2
import Derived.Deep.QuietTactic
import Derived.BigQuiet
import Derived.Deep.RegionWith
import Derived.Test.YtlmmeeeoljlgcaaDoorShelf
set_option linter.unusedVariables false
set_option linter.unusedSimpArgs false
namespace Go.Proofs.YtlmmeeeoljlgcaaDoor
open Go.RowKit

def ltS (a b : ByteArray) : Bool := Op.bytesLess a.toList b.toList
def gtS (a b : ByteArray) : Bool := !(Op.bytesLess a.toList b.toList)
theorem gtS_not (a b : ByteArray) : gtS a b = !ltS a b := rfl
theorem ltS_lt {a b : ByteArray} : ltS a b = true ↔ a.toList < b.toList := by unfold ltS; rw [bytesLess_eq]; simp
theorem ltS_irrefl (a : ByteArray) : ltS a a = false := by
  cases h : ltS a a with
  | false => rfl
  | true => exact absurd (ltS_lt.1 h) (List.lt_irrefl _)
theorem ltS_trans {a b c : ByteArray} (h : ltS a b = true) (h' : ltS b c = true) : ltS a c = true := ltS_lt.2 (List.lt_trans (ltS_lt.1 h) (ltS_lt.1 h'))
def eqB (a b : ByteArray) : Bool := a.toList == b.toList
theorem eqB_iff {a b : ByteArray} : eqB a b = true ↔ a = b := by
  unfold eqB
  rw [beq_iff_eq, ByteArray.toList_eq, ByteArray.toList_eq]
  exact ⟨fun h => ByteArray.ext (Array.toList_inj.1 h), fun h => by rw [h]⟩
theorem ltS_ne {a b : ByteArray} (h : ltS a b = true) : a ≠ b := by
  rintro rfl
  rw [ltS_irrefl] at h
  cases h
theorem ltS_asymm {a b : ByteArray} (h : ltS a b = true) : ltS b a = false := by
  cases h' : ltS b a with
  | false => rfl
  | true => have := ltS_trans h h'; rw [ltS_irrefl] at this; cases this
theorem ltS_tri (a b : ByteArray) : ltS a b = true ∨ a = b ∨ ltS b a = true := by
  rw [ltS_lt, ltS_lt]
  by_cases h1 : a.toList < b.toList
  · exact .inl h1
  · by_cases h2 : b.toList < a.toList
    · exact .inr (.inr h2)
    · exact .inr (.inl (eqB_iff.1 (by unfold eqB; rw [beq_iff_eq]; exact List.le_antisymm (List.not_lt.1 h2) (List.not_lt.1 h1))))
/-- Each text is below the next. -/
def Rises (l : List ByteArray) : Prop := ∀ i, (h : i + 1 < l.length) → ltS l[i] l[i + 1] = true
theorem Rises.lt {l : List ByteArray} (h : Rises l) : ∀ {i j : Nat} (hj : j < l.length) (hij : i < j), ltS (l[i]'(by omega)) l[j] = true := by
  intro i j
  induction j with
  | zero => intro _ h; omega
  | succ j ih =>
    intro hj hij
    by_cases e : i = j
    · subst e; exact h i hj
    · exact ltS_trans (ih (by omega) (by omega)) (h j hj)
theorem Rises.inj {l : List ByteArray} (h : Rises l) {i j : Nat} (hi : i < l.length) (hj : j < l.length) (e : l[i] = l[j]) : i = j := by
  rcases Nat.lt_trichotomy i j with h1 | h1 | h1
  · exact absurd e (ltS_ne (h.lt hj h1))
  · exact h1
  · exact absurd e.symm (ltS_ne (h.lt hi h1))
end Go.Proofs.YtlmmeeeoljlgcaaDoor
namespace Go.Proofs.YtlmmeeeoljlgcaaDoor
open Go.RowKit
/-- The pieces of a text between the bytes c, the first begun with acc. -/
def segA (c : UInt8) (acc : List UInt8) : List UInt8 → List (List UInt8)
  | [] => [acc]
  | b :: l => if b == c then acc :: segA c [] l else segA c (acc ++ [b]) l
theorem segA_free {c : UInt8} : ∀ (l acc : List UInt8), c ∉ l → segA c acc l = [acc ++ l]
  | [], acc, _ => by simp [segA]
  | b :: l, acc, h => by
    have h1 : ¬ (b == c) = true := by intro h2; exact h (by simp [beq_iff_eq.1 h2])
    have h3 : c ∉ l := fun h4 => h (by simp [h4])
    rw [segA, if_neg h1, segA_free l _ h3]; simp
theorem segA_hit {c : UInt8} : ∀ (p r acc : List UInt8), c ∉ p → segA c acc (p ++ c :: r) = (acc ++ p) :: segA c [] r
  | [], r, acc, _ => by simp [segA]
  | b :: p, r, acc, h => by
    have h1 : ¬ (b == c) = true := by intro h2; exact h (by simp [beq_iff_eq.1 h2])
    have h3 : c ∉ p := fun h4 => h (by simp [h4])
    rw [List.cons_append, segA, if_neg h1, segA_hit p r _ h3]; simp
theorem occ1 {c : UInt8} {s : List UInt8} {j : Nat} (hj : j < s.length) : Lib.occAt s [c] j = (s[j] == c) := by
  rw [Lib.occAt_iff_take s [c] j (by simp only [List.length_singleton]; omega), List.drop_eq_getElem_cons hj]
  show (List.take 1 _ == _) = _
  rw [List.take_succ_cons, List.take_zero]
  by_cases h : s[j] = c
  · simp [h]
  · have h2 : (s[j] == c) = false := by simpa using h
    rw [h2]; simpa using h
theorem splitK_segA (c : UInt8) : ∀ (n : Nat) (s : List UInt8), Lib.count s [c] = n → Lib.splitK [c] 0 n s = segA c [] s
  | 0, s, h => by
    rw [Lib.count_one] at h
    have : c ∉ s := List.count_eq_zero.1 h
    rw [segA_free _ _ this]; rfl
  | n + 1, s, h => by
    rcases Lib.index_spec s [c] with ⟨h1, _⟩ | ⟨i, h1, h2, h3, h4⟩
    · rw [Lib.count_miss h1] at h; omega
    · have hi : i < s.length := by
        rcases Lib.occAt_room h3 with h5 | h5
        · simp at h5; omega
        · cases h5
      have hc := Lib.count_hit (by simp) h1
      rw [h] at hc
      simp at hc
      have he : s[i] = c := by rw [occ1 hi] at h3; simpa using h3
      have hs : s = s.take i ++ c :: s.drop (i + 1) := by
        rw [← he, ← List.drop_eq_getElem_cons hi, List.take_append_drop]
      have hn : c ∉ s.take i := by
        intro hm
        obtain ⟨j, hj, hje⟩ := List.getElem_of_mem hm
        rw [List.length_take] at hj
        have hj : j < i := by omega
        have := h4 j hj
        rw [occ1 (by omega)] at this
        rw [List.getElem_take] at hje
        simp [hje] at this
      have hne : ¬ (Lib.index s [c] == -1) = true := by rw [h1]; intro h5; have := beq_iff_eq.1 h5; omega
      rw [Lib.splitK, if_neg hne, h1]
      simp only [Int.toNat_natCast, Nat.add_zero, List.length_singleton]
      rw [splitK_segA c n (s.drop (i + 1)) (by omega)]
      conv => rhs; rw [hs, segA_hit _ _ _ hn]
      simp

/-- The pieces as texts. -/
def segsC (c : UInt8) (s : ByteArray) : List ByteArray := Lib.splitB ⟨#[c]⟩ 0 (Lib.countB s ⟨#[c]⟩) s
theorem segsC_data (c : UInt8) (s : ByteArray) : (segsC c s).map (·.data.toList) = segA c [] s.data.toList := by
  rw [segsC, Lib.splitB_data]
  exact splitK_segA c _ _ rfl
theorem bytes_inj {a b : ByteArray} (h : a.data.toList = b.data.toList) : a = b := by
  obtain ⟨⟨a⟩⟩ := a; obtain ⟨⟨b⟩⟩ := b
  simpa using h
theorem map_data_inj : ∀ {a b : List ByteArray}, a.map (·.data.toList) = b.map (·.data.toList) → a = b
  | [], [], _ => rfl
  | [], _ :: _, h => by cases h
  | _ :: _, [], h => by cases h
  | x :: a, y :: b, h => by
    simp only [List.map_cons, List.cons.injEq] at h
    rw [bytes_inj h.1, map_data_inj h.2]
/-- Where a walk over the text stands: out is laid, the piece from a to i is begun. -/
def PartI (s : ByteArray) (c : UInt8) (out : List ByteArray) (a i : Nat) : Prop := out.map (·.data.toList) ++ segA c ((s.extract a i).data.toList) (s.data.toList.drop i) = segA c [] s.data.toList
theorem ext_data (s : ByteArray) (a i : Nat) : (s.extract a i).data.toList = (s.data.toList.drop a).take (i - a) := by
  simp [ByteArray.data_extract, List.take_drop]
theorem part_start (s : ByteArray) (c : UInt8) : PartI s c [] 0 0 := by
  unfold PartI; simp
section
variable {s : ByteArray} {c : UInt8} {out : List ByteArray} {a i : Nat}
theorem drop_at (hi : i < s.size) : s.data.toList.drop i = s[i] :: s.data.toList.drop (i + 1) := List.drop_eq_getElem_cons (by simpa using hi)
theorem part_hit (h : PartI s c out a i) (hi : i < s.size) (hb : s[i] = c) : PartI s c (out ++ [s.extract a i]) (i + 1) (i + 1) := by
  unfold PartI at h ⊢
  rw [drop_at hi, segA, if_pos (by rw [hb]; simp)] at h
  rw [← h]
  simp
theorem part_go (h : PartI s c out a i) (ha : a ≤ i) (hi : i < s.size) (hb : s[i] ≠ c) : PartI s c out a (i + 1) := by
  unfold PartI at h ⊢
  rw [drop_at hi, segA, if_neg (by simpa using hb)] at h
  rw [← h]
  have he : (s.extract a (i + 1)).data.toList = (s.extract a i).data.toList ++ [s[i]] := by
    rw [ext_data, ext_data, show i + 1 - a = (i - a) + 1 by omega, List.take_succ_eq_append_getElem (by simp; omega)]
    congr 2
    simp only [List.getElem_drop]
    show s.data.toList[a + (i - a)]'_ = _
    have : a + (i - a) = i := by omega
    simp only [this]
    rfl
  rw [he]
theorem part_end (h : PartI s c out a s.size) : out ++ [s.extract a s.size] = segsC c s := by
  unfold PartI at h
  apply map_data_inj
  rw [segsC_data, ← h, List.drop_of_length_le (by simp)]
  simp [segA]
end
theorem segA_ne (c : UInt8) : ∀ (l acc : List UInt8), segA c acc l ≠ []
  | [], _ => by simp [segA]
  | b :: l, acc => by
    unfold segA; split
    · simp
    · exact segA_ne c l _
theorem segsC_pos (c : UInt8) (s : ByteArray) : 0 < (segsC c s).length := by
  have := segA_ne c s.data.toList []
  rw [← segsC_data] at this
  exact List.length_pos_iff.2 (by simpa using this)
theorem segA_len (c : UInt8) : ∀ (l acc : List UInt8), (segA c acc l).length ≤ l.length + 1
  | [], _ => by simp [segA]
  | b :: l, acc => by
    unfold segA; split
    · have := segA_len c l []; simp; omega
    · have := segA_len c l (acc ++ [b]); simp; omega
theorem segsC_len (c : UInt8) (s : ByteArray) : (segsC c s).length ≤ s.size + 1 := by
  have := segA_len c s.data.toList []
  rw [← segsC_data] at this
  simpa using this
/-- Each byte is the parting one or stands in a piece. -/
theorem segA_mem (c : UInt8) : ∀ (l acc : List UInt8) (b : UInt8), b ∈ acc ++ l → b = c ∨ ∃ p ∈ segA c acc l, b ∈ p
  | [], acc, b, h => .inr ⟨acc, by simp [segA], by simpa using h⟩
  | x :: l, acc, b, h => by
    by_cases hx : (x == c) = true
    · rw [segA, if_pos hx]
      rcases List.mem_append.1 h with h1 | h1
      · exact .inr ⟨acc, by simp, h1⟩
      · rcases List.mem_cons.1 h1 with rfl | h2
        · exact .inl (beq_iff_eq.1 hx)
        · rcases segA_mem c l [] b (by simpa using h2) with h3 | ⟨p, hp, hb⟩
          · exact .inl h3
          · exact .inr ⟨p, by simp [hp], hb⟩
    · rw [segA, if_neg hx]
      exact segA_mem c l (acc ++ [x]) b (by simpa using h)
theorem segA_sub (c : UInt8) : ∀ (l acc : List UInt8) (p : List UInt8), p ∈ segA c acc l → p.length ≤ acc.length + l.length
  | [], acc, p, h => by simp [segA] at h; subst h; simp
  | x :: l, acc, p, h => by
    unfold segA at h
    split at h
    · rcases List.mem_cons.1 h with rfl | h
      · simp
      · have := segA_sub c l [] p h; simp at this; simp; omega
    · have := segA_sub c l _ p h; simp at this; simp; omega
theorem segsC_size {c : UInt8} {s p : ByteArray} (h : p ∈ segsC c s) : p.size ≤ s.size := by
  have h1 : p.data.toList ∈ segA c [] s.data.toList := by rw [← segsC_data]; exact List.mem_map_of_mem h
  have := segA_sub c _ _ _ h1
  simpa using this

/-! ### paths -/
def segCh (b : UInt8) : Bool := nameCh b || decide (b.toNat = 45)
def segF (s : ByteArray) : Bool := inR s.size 1 16 && allB segCh s
def plusT : ByteArray := ⟨#[43]⟩
def starT : ByteArray := ⟨#[42]⟩
theorem list_plus {s : ByteArray} : (s.toList == [43]) = true ↔ s = plusT := by
  have h : eqB s plusT = (s.toList == [43]) := by unfold eqB; rw [show plusT.toList = [43] by decide +kernel]
  rw [← h, eqB_iff]
theorem list_star {s : ByteArray} : (s.toList == [42]) = true ↔ s = starT := by
  have h : eqB s starT = (s.toList == [42]) := by unfold eqB; rw [show starT.toList = [42] by decide +kernel]
  rw [← h, eqB_iff]
def okSeg (n i : Nat) (s : ByteArray) : Bool := segF s || ((s.toList == [43]) || ((s.toList == [42]) && decide (i + 1 = n)))
/-- The first k pieces are in order. -/
def okTo (L : List ByteArray) (k : Nat) : Prop := ∀ i s, i < k → L[i]? = some s → okSeg L.length i s = true
instance (L : List ByteArray) : Decidable (okTo L L.length) :=
  decidable_of_iff (∀ i : Fin L.length, okSeg L.length i.val L[i] = true) ⟨fun h i s hi hs => by
    obtain ⟨hl, rfl⟩ := List.getElem?_eq_some_iff.1 hs
    exact h ⟨i, hl⟩, fun h i => h i.val _ i.isLt (List.getElem?_eq_getElem i.isLt)⟩
def globL (L : List ByteArray) : Bool := decide (okTo L L.length) && decide (L.length ≤ 8)
def globF (s : ByteArray) : Bool := decide (s.size ≤ 120) && globL (segsC 47 s)
def freeCh (b : UInt8) : Bool := !decide (b.toNat = 43) && !decide (b.toNat = 42)
def pathF (s : ByteArray) : Bool := globF s && allB freeCh s
theorem okTo_zero (L : List ByteArray) : okTo L 0 := fun i s h => by omega
theorem okTo_succ {L : List ByteArray} {k : Nat} (h : okTo L k) (hk : k < L.length) (hs : okSeg L.length k L[k] = true) : okTo L (k + 1) := by
  intro i s hi he
  by_cases h1 : i = k
  · subst h1; rw [List.getElem?_eq_getElem hk] at he; injection he with he; rw [← he]; exact hs
  · exact h i s (by omega) he
theorem globL_no {L : List ByteArray} {k : Nat} (hk : k < L.length) (hs : okSeg L.length k L[k] = false) : globL L = false := by
  have : ¬ okTo L L.length := fun h => by
    have := h k _ hk (List.getElem?_eq_getElem hk)
    rw [hs] at this; cases this
  simp [globL, this]
theorem globL_end {L : List ByteArray} (h : okTo L L.length) : globL L = decide (L.length ≤ 8) := by simp [globL, h]
theorem segCh_ascii {b : UInt8} (h : segCh b = true) : b.toNat < 128 := by
  simp [segCh, nameCh] at h; omega
theorem glob_ascii {s : ByteArray} (h : globF s = true) : ∀ (j : Nat) b, s.data.toList[j]? = some b → b.toNat < 128 := by
  intro j b hj
  simp only [globF, globL, Bool.and_eq_true, decide_eq_true_eq] at h
  obtain ⟨_, hok, _⟩ := h
  rcases segA_mem 47 s.data.toList [] b (by simpa using List.mem_of_getElem? hj) with rfl | ⟨p, hp, hb⟩
  · decide
  · rw [← segsC_data] at hp
    obtain ⟨q, hq, rfl⟩ := List.mem_map.1 hp
    obtain ⟨i, hi, rfl⟩ := List.getElem_of_mem hq
    have h1 := hok i _ hi (List.getElem?_eq_getElem hi)
    simp only [okSeg, Bool.or_eq_true, Bool.and_eq_true, decide_eq_true_eq, list_plus, list_star] at h1
    rcases h1 with h1 | h1 | ⟨h1, _⟩
    · simp only [segF, Bool.and_eq_true, allB, List.all_eq_true] at h1
      exact segCh_ascii (h1.2 b hb)
    · rw [h1] at hb; simp [plusT] at hb; subst hb; decide
    · rw [h1] at hb; simp [starT] at hb; subst hb; decide
theorem indexAny_free (ch : List UInt8) : ∀ l : List UInt8, Lib.indexAny l ch = -1 ↔ ∀ b ∈ l, b ∉ ch
  | [] => by simp [Lib.indexAny]
  | x :: l => by
    have ih := indexAny_free ch l
    have hge := Lib.indexAny_ge ch l
    by_cases hx : x ∈ ch
    · have h1 : ch.contains x = true := by simpa using hx
      have h2 : Lib.indexAny (x :: l) ch = 0 := by rw [Lib.indexAny, if_pos h1]
      rw [h2]
      refine ⟨fun h => by omega, fun h => absurd hx (h x (by simp))⟩
    · have h1 : ¬ ch.contains x = true := by simpa using hx
      by_cases h3 : Lib.indexAny l ch = -1
      · have h2 : Lib.indexAny (x :: l) ch = -1 := by rw [Lib.indexAny, if_neg h1, if_pos (by simpa using h3)]
        rw [h2]
        refine ⟨fun _ b hb => ?_, fun _ => rfl⟩
        rcases List.mem_cons.1 hb with rfl | hb
        · exact hx
        · exact ih.1 h3 b hb
      · have h2 : Lib.indexAny (x :: l) ch = Lib.indexAny l ch + 1 := by rw [Lib.indexAny, if_neg h1, if_neg (by simpa using h3)]
        rw [h2]
        refine ⟨fun h => by omega, fun h => absurd (ih.2 fun b hb => h b (List.mem_cons_of_mem _ hb)) h3⟩
theorem containsAny_free (s : ByteArray) : (!Lib.containsAny s.data.toList [43, 42]) = allB freeCh s := by
  have hge := Lib.indexAny_ge [43, 42] s.data.toList
  have h := indexAny_free [43, 42] s.data.toList
  have hb : ∀ b : UInt8, freeCh b = true ↔ b ∉ ([43, 42] : List UInt8) := by
    intro b
    simp only [freeCh, Bool.and_eq_true, Bool.not_eq_true', decide_eq_false_iff_not, List.mem_cons, List.not_mem_nil, or_false, not_or]
    constructor
    · rintro ⟨h1, h2⟩; exact ⟨fun e => h1 (by rw [e]; rfl), fun e => h2 (by rw [e]; rfl)⟩
    · rintro ⟨h1, h2⟩; exact ⟨fun e => h1 (UInt8.toNat_inj.1 e), fun e => h2 (UInt8.toNat_inj.1 e)⟩
  by_cases h1 : Lib.indexAny s.data.toList [43, 42] = -1
  · have h2 : allB freeCh s = true := by rw [allB, List.all_eq_true]; exact fun b hbm => (hb b).2 (h.1 h1 b hbm)
    rw [h2]; simp [Lib.containsAny, h1]
  · have h2 : allB freeCh s = false := by
      rw [← Bool.not_eq_true, allB, List.all_eq_true]
      exact fun h3 => h1 (h.2 fun b hbm => (hb b).1 (h3 b hbm))
    rw [h2]
    have : (0 : Int) ≤ Lib.indexAny s.data.toList [43, 42] := by omega
    simp [Lib.containsAny, this]
end Go.Proofs.YtlmmeeeoljlgcaaDoor
namespace Go.Proofs.YtlmmeeeoljlgcaaDoor
open Go.RowKit
set_option linter.unusedVariables false
set_option linter.unusedSimpArgs false
def encStr (x : ByteArray) : List Value := [.string x]
theorem encStr_len (x : ByteArray) : (encStr x).length = 1 := rfl
abbrev rStr (A : Option Addr) (c : Nat) (us : List ByteArray) : Ent := row 9 1 (.slice A us.length c) us.length (us.flatMap encStr)
theorem rStr_snoc (A : Option Addr) (c : Nat) (us : List ByteArray) (u : ByteArray) : row 9 1 (.slice A (us.length + 1) c) (us.length + 1) (us.flatMap encStr ++ encStr u) = rStr A c (us ++ [u]) := by simp [rStr]
theorem oneStr (u : ByteArray) : ∀ x ∈ encStr u, x.oneCell' = true := by intro x hx; simp [encStr] at hx; subst hx; rfl
theorem Tryd.infoStr : (Tryd.prog.info? 9).map (fun i => (i.zero, i.size, i.bytes)) = some (some (.string ByteArray.empty), 1, 16) := by kernel_rfl
def marksStr (m n : Nat) : List Value := (List.range n).flatMap fun i => [.string (mkText (m + i))]
theorem marksStr_len (m n : Nat) : (marksStr m n).length = n := by
  rw [marksStr, flat_len (fun i => [.string (mkText (m + i))]) 1 (fun _ => rfl)]; simp
end Go.Proofs.YtlmmeeeoljlgcaaDoor
namespace Go.Proofs.YtlmmeeeoljlgcaaDoor
open Go.RowKit
set_option linter.unusedVariables false
set_option linter.unusedSimpArgs false
set_option maxHeartbeats 1000000 in
theorem l01Segment_any (s : ByteArray) (w : World) (hs : s.size ≤ maxLen) :
    Calls Tryd.prog 87 #[.string s] w fun e w' => e = .returned (.bool (segF s)) ∧ w = w' := by
  unfold maxLen at hs
  cases hr : inR (s.size : Int) 1 16 with
  | false =>
    have HR : Hid (segF s = false) := by show _ = _; rw [segF, hr]; rfl
    go_enter Tryd.func87, Tryd.ntmps87
    go_wp2_with (go_at_call 77; refine (l01In_any _ _ _ _).mono ?_; rintro e w' ⟨rfl, rfl⟩)
    go_ret
    exact ⟨by rw [HR.out]; rfl, rfl⟩
  | true =>
  have HR : Hid (segF s = allB segCh s) := by show _ = _; rw [segF, hr]; rfl
  go_enter Tryd.func87, Tryd.ntmps87
  go_wp2_with (go_at_call 77; refine (l01In_any _ _ _ _).mono ?_; rintro e w' ⟨rfl, rfl⟩)
  go_loop [3] (fun i => ∃ k : Nat, k ≤ s.size ∧ i = .int .i64 k ∧ Hid ((s.data.toList.take k).all segCh = true)) (fun i => s.size - (intOf i).toNat)
  case atStart => exact ⟨0, Nat.zero_le _, rfl, rfl⟩
  case round =>
    obtain ⟨k, hk, rfl, HA⟩ := hrel
    by_cases hlt : k < s.size
    · have hT : ∀ c : UInt8, segCh c = true ↔ (((97 : Int) ≤ (c.toNat : Int) ∧ (c.toNat : Int) ≤ 122) ∨ ((48 : Int) ≤ (c.toNat : Int) ∧ (c.toNat : Int) ≤ 57)) ∨ (c.toNat : Int) = 45 := by intro c; simp [segCh, nameCh]; omega
      have HT := Lib.hid hT; clear hT
      by_cases h1 : (97 : Int) ≤ (s[k].toNat : Int) <;> by_cases h2 : (s[k].toNat : Int) ≤ 122 <;> by_cases h3 : (48 : Int) ≤ (s[k].toNat : Int) <;> by_cases h4 : (s[k].toNat : Int) ≤ 57 <;> by_cases h5 : (s[k].toNat : Int) = 45 <;> (try (exfalso; omega)) <;> go_wp2
      all_goals first
        | (go_round; (case rel => exact ⟨k + 1, by omega, by go_num, allB_snoc segCh hlt HA.out ((HT.out _).2 (by omega))⟩); (case measure => simp [intOf]; omega))
        | (go_ret; exact ⟨by rw [HR.out, allB_at segCh hlt (by rw [← Bool.not_eq_true, HT.out]; omega)]; rfl, rfl⟩)
    · have HE : Hid (allB segCh s = true) := allB_end segCh hk hlt HA.out
      go_wp2
      go_ret
      exact ⟨by rw [HR.out, HE.out]; rfl, rfl⟩
set_option maxHeartbeats 4000000 in
set_option maxRecDepth 10000 in
theorem l01Parts_hp (s : ByteArray) (c : UInt8) (w : World) (hs : s.size ≤ 1048576) :
    Calls Tryd.prog 86 #[.string s, .int .u8 c.toNat] w fun e w' => ∃ A' c', e = .returned (.slice A' (segsC c s).length c') ∧ Hp w w' [rStr A' c' (segsC c s)] := by
  obtain ⟨i1, hi1, hy0, hy1, hy2⟩ := info_parts Tryd.infoStr
  have H := Hp.nil w
  go_enter Tryd.func86, Tryd.ntmps86
  go_wp2_with fail
  go_loopw [5, 6, 7] (fun v at_ i wr => ∃ (k a : Nat) (out : List ByteArray), i = .int .i64 k ∧ at_ = .int .i64 a ∧ out.length ≤ k ∧ ((k ≤ s.size ∧ a ≤ k ∧ Hid (PartI s c out a k)) ∨ (k = s.size + 1 ∧ Hid (out = segsC c s))) ∧ ∃ A' c', v = .slice A' out.length c' ∧ Hid (Hp w wr [rStr A' c' out])) (fun _ _ i _ => s.size + 1 - (intOf i).toNat)
  case atStart => exact ⟨0, 0, [], rfl, rfl, by simp, .inl ⟨Nat.zero_le _, Nat.le_refl _, Lib.hid (part_start s c)⟩, some ⟨w.heap.size, 0, none⟩, 0, rfl, Lib.hid (Hp.give (Hp.boxRow (by repeat (first | (with_reducible exact H) | (with_reducible apply Hp.alloc) | (with_reducible apply Hp.set) | (with_reducible apply Hp.drew) | (with_reducible apply Hp.drewN) | (with_reducible apply Hp.bytesW) | (with_reducible exact Upd.here) | (with_reducible exact Upd.hereR) | (with_reducible apply Upd.there) | (with_reducible apply Sz.alloc) | (with_reducible apply Sz.set) | (with_reducible apply Sz.drew) | (with_reducible apply Sz.drewN) | (with_reducible apply Sz.bytesW) | (with_reducible assumption) | (with_reducible exact Sz.base _))) 0 1 0 0 (by rfl) (by rfl) (Nat.le_refl _) (Nat.zero_le _)) [0] (by decide) (by rfl))⟩
  case round =>
    clear H
    obtain ⟨k, a, out, rfl, rfl, hol, hst, A', c', rfl, HP⟩ := hrel
    have H := HP.out
    have F := H.facts; simp only [Facts, NeF, box, row, reg, cellsF, rStr, ne_eq, true_and, and_true, Nat.reduceAdd, Nat.zero_add] at F
    rcases hst with ⟨hk, ha, HI⟩ | ⟨rfl, HE⟩
    · have hk1 : (k : Int) ≤ (s.size : Int) := by omega
      have hk0 : (0 : Int) ≤ (k : Int) := by omega
      have ha0 : (0 : Int) ≤ (a : Int) ∧ (a : Int) ≤ (k : Int) := by omega
      have hl : out.length + 1 ≤ maxLen := by unfold maxLen; omega
      have hl2 : out.length + 1 ≤ 2097152 := by omega
      have HOL := Lib.hid hol
      by_cases hlt : k < s.size
      · have hk2 : ((k : Int) == (s.size : Int)) = false := by simp; omega
        have hk3 : (k : Int) < (s.size : Int) := by omega
        cases hc : ((s[k].toNat : Int) == (c.toNat : Int)) with
        | true =>
          have hc2 : s[k] = c := by have := beq_iff_eq.1 hc; exact UInt8.toNat_inj.1 (by omega)
          have HN := Lib.hid (part_hit HI.out hlt hc2)
          clear hc2 hol
          go_wp2_with (at_builtin; refine wpList_append_lies _ (by rfl) _ _ 83 (by rfl) w.heap.size 9 i1 _ 1 _ Tryd.underlying83 hi1 hy0 hy1 hy2 (by rfl) (by decide) (.slice A' (out.length) c') (out.length) _ (by rfl) (Hp.rowM (by repeat (first | (with_reducible exact H) | (with_reducible apply Hp.alloc) | (with_reducible apply Hp.set) | (with_reducible apply Hp.drew) | (with_reducible apply Hp.drewN) | (with_reducible apply Hp.bytesW) | (with_reducible exact Upd.here) | (with_reducible exact Upd.hereR) | (with_reducible apply Upd.there) | (with_reducible apply Sz.alloc) | (with_reducible apply Sz.set) | (with_reducible apply Sz.drew) | (with_reducible apply Sz.drewN) | (with_reducible apply Sz.bytesW) | (with_reducible assumption) | (with_reducible exact Sz.base _))) (by repeat (first | (with_reducible exact List.mem_cons_self) | (with_reducible apply List.mem_cons_of_mem)))) ⟨wr.heap.size, 0, none⟩ 1 1 (encStr (s.extract a k)) (by rfl) (by rfl) (Hp.news (by repeat (first | (with_reducible exact H) | (with_reducible apply Hp.alloc) | (with_reducible apply Hp.set) | (with_reducible apply Hp.drew) | (with_reducible apply Hp.drewN) | (with_reducible apply Hp.bytesW) | (with_reducible exact Upd.here) | (with_reducible exact Upd.hereR) | (with_reducible apply Upd.there) | (with_reducible apply Sz.alloc) | (with_reducible apply Sz.set) | (with_reducible apply Sz.drew) | (with_reducible apply Sz.drewN) | (with_reducible apply Sz.bytesW) | (with_reducible assumption) | (with_reducible exact Sz.base _))) 0 (by rfl)) (oneStr (s.extract a k)) (by decide) hl (by omega) (Hp.b (by repeat (first | (with_reducible exact H) | (with_reducible apply Hp.alloc) | (with_reducible apply Hp.set) | (with_reducible apply Hp.drew) | (with_reducible apply Hp.drewN) | (with_reducible apply Hp.bytesW) | (with_reducible exact Upd.here) | (with_reducible exact Upd.hereR) | (with_reducible apply Upd.there) | (with_reducible apply Sz.alloc) | (with_reducible apply Sz.set) | (with_reducible apply Sz.drew) | (with_reducible apply Sz.drewN) | (with_reducible apply Sz.bytesW) | (with_reducible assumption) | (with_reducible exact Sz.base _)))).size _ rfl ?_; intro g cap wa hown hgrow hat hlt1; have H5 := Hp.appM (by repeat (first | (with_reducible exact H) | (with_reducible apply Hp.alloc) | (with_reducible apply Hp.set) | (with_reducible apply Hp.drew) | (with_reducible apply Hp.drewN) | (with_reducible apply Hp.bytesW) | (with_reducible exact Upd.here) | (with_reducible exact Upd.hereR) | (with_reducible apply Upd.there) | (with_reducible apply Sz.alloc) | (with_reducible apply Sz.set) | (with_reducible apply Sz.drew) | (with_reducible apply Sz.drewN) | (with_reducible apply Sz.bytesW) | (with_reducible assumption) | (with_reducible exact Sz.base _))) (by repeat (first | (with_reducible exact Rep.here) | (with_reducible apply Rep.there))) hown hgrow hat rfl hlt1; (try simp only [List.set_cons_zero, List.set_cons_succ, List.cons_append, List.nil_append] at H5); have FA := H5.facts; simp only [Facts, NeF, box, row, reg, cellsF, rStr, ne_eq, true_and, and_true, Nat.reduceAdd, Nat.zero_add] at FA)
          rw [rStr_snoc] at H5
          go_roundw
          case rel => exact ⟨k + 1, k + 1, out ++ [s.extract a k], by go_num, by go_num, by have := HOL.out; simp; omega, .inl ⟨by omega, Nat.le_refl _, HN⟩, some ⟨g, 0, none⟩, cap, by simp, Lib.hid (by refine Hp.sel (by repeat (first | (with_reducible exact H5) | (with_reducible apply Hp.alloc) | (with_reducible apply Hp.set) | (with_reducible apply Hp.drew) | (with_reducible apply Hp.drewN) | (with_reducible apply Hp.bytesW) | (with_reducible exact Upd.here) | (with_reducible exact Upd.hereR) | (with_reducible apply Upd.there) | (with_reducible apply Sz.alloc) | (with_reducible apply Sz.set) | (with_reducible apply Sz.drew) | (with_reducible apply Sz.drewN) | (with_reducible apply Sz.bytesW) | (with_reducible assumption) | (with_reducible exact Sz.base _))) ?_; (try simp only [List.set_cons_zero, List.set_cons_succ]); exact (by repeat (first | (with_reducible exact Sel.nil) | (with_reducible apply Sel.cons) | (with_reducible exact Del.here) | (with_reducible apply Del.there))))⟩
          case measure => simp [intOf]; omega
        | false =>
          have hc2 : s[k] ≠ c := by intro h; rw [h] at hc; simp at hc
          have HN := Lib.hid (part_go HI.out ha hlt hc2)
          clear hc2
          go_wp2_with fail
          go_roundw
          case rel => exact ⟨k + 1, a, out, by go_num, rfl, by omega, .inl ⟨by omega, by omega, HN⟩, A', c', rfl, Lib.hid (by refine Hp.sel (by repeat (first | (with_reducible exact H) | (with_reducible apply Hp.alloc) | (with_reducible apply Hp.set) | (with_reducible apply Hp.drew) | (with_reducible apply Hp.drewN) | (with_reducible apply Hp.bytesW) | (with_reducible exact Upd.here) | (with_reducible exact Upd.hereR) | (with_reducible apply Upd.there) | (with_reducible apply Sz.alloc) | (with_reducible apply Sz.set) | (with_reducible apply Sz.drew) | (with_reducible apply Sz.drewN) | (with_reducible apply Sz.bytesW) | (with_reducible assumption) | (with_reducible exact Sz.base _))) ?_; (try simp only [List.set_cons_zero, List.set_cons_succ]); exact (by repeat (first | (with_reducible exact Sel.nil) | (with_reducible apply Sel.cons) | (with_reducible exact Del.here) | (with_reducible apply Del.there))))⟩
          case measure => simp [intOf]; omega
      · obtain rfl : k = s.size := by omega
        have HN := Lib.hid (part_end HI.out)
        clear hol
        go_wp2_with (at_builtin; refine wpList_append_lies _ (by rfl) _ _ 83 (by rfl) w.heap.size 9 i1 _ 1 _ Tryd.underlying83 hi1 hy0 hy1 hy2 (by rfl) (by decide) (.slice A' (out.length) c') (out.length) _ (by rfl) (Hp.rowM (by repeat (first | (with_reducible exact H) | (with_reducible apply Hp.alloc) | (with_reducible apply Hp.set) | (with_reducible apply Hp.drew) | (with_reducible apply Hp.drewN) | (with_reducible apply Hp.bytesW) | (with_reducible exact Upd.here) | (with_reducible exact Upd.hereR) | (with_reducible apply Upd.there) | (with_reducible apply Sz.alloc) | (with_reducible apply Sz.set) | (with_reducible apply Sz.drew) | (with_reducible apply Sz.drewN) | (with_reducible apply Sz.bytesW) | (with_reducible assumption) | (with_reducible exact Sz.base _))) (by repeat (first | (with_reducible exact List.mem_cons_self) | (with_reducible apply List.mem_cons_of_mem)))) ⟨wr.heap.size, 0, none⟩ 1 1 (encStr (s.extract a s.size)) (by rfl) (by rfl) (Hp.news (by repeat (first | (with_reducible exact H) | (with_reducible apply Hp.alloc) | (with_reducible apply Hp.set) | (with_reducible apply Hp.drew) | (with_reducible apply Hp.drewN) | (with_reducible apply Hp.bytesW) | (with_reducible exact Upd.here) | (with_reducible exact Upd.hereR) | (with_reducible apply Upd.there) | (with_reducible apply Sz.alloc) | (with_reducible apply Sz.set) | (with_reducible apply Sz.drew) | (with_reducible apply Sz.drewN) | (with_reducible apply Sz.bytesW) | (with_reducible assumption) | (with_reducible exact Sz.base _))) 0 (by rfl)) (oneStr (s.extract a s.size)) (by decide) hl (by omega) (Hp.b (by repeat (first | (with_reducible exact H) | (with_reducible apply Hp.alloc) | (with_reducible apply Hp.set) | (with_reducible apply Hp.drew) | (with_reducible apply Hp.drewN) | (with_reducible apply Hp.bytesW) | (with_reducible exact Upd.here) | (with_reducible exact Upd.hereR) | (with_reducible apply Upd.there) | (with_reducible apply Sz.alloc) | (with_reducible apply Sz.set) | (with_reducible apply Sz.drew) | (with_reducible apply Sz.drewN) | (with_reducible apply Sz.bytesW) | (with_reducible assumption) | (with_reducible exact Sz.base _)))).size _ rfl ?_; intro g cap wa hown hgrow hat hlt1; have H5 := Hp.appM (by repeat (first | (with_reducible exact H) | (with_reducible apply Hp.alloc) | (with_reducible apply Hp.set) | (with_reducible apply Hp.drew) | (with_reducible apply Hp.drewN) | (with_reducible apply Hp.bytesW) | (with_reducible exact Upd.here) | (with_reducible exact Upd.hereR) | (with_reducible apply Upd.there) | (with_reducible apply Sz.alloc) | (with_reducible apply Sz.set) | (with_reducible apply Sz.drew) | (with_reducible apply Sz.drewN) | (with_reducible apply Sz.bytesW) | (with_reducible assumption) | (with_reducible exact Sz.base _))) (by repeat (first | (with_reducible exact Rep.here) | (with_reducible apply Rep.there))) hown hgrow hat rfl hlt1; (try simp only [List.set_cons_zero, List.set_cons_succ, List.cons_append, List.nil_append] at H5); have FA := H5.facts; simp only [Facts, NeF, box, row, reg, cellsF, rStr, ne_eq, true_and, and_true, Nat.reduceAdd, Nat.zero_add] at FA)
        rw [rStr_snoc] at H5
        go_roundw
        case rel => exact ⟨s.size + 1, s.size + 1, out ++ [s.extract a s.size], by go_num, by go_num, by have := HOL.out; simp; omega, .inr ⟨rfl, HN⟩, some ⟨g, 0, none⟩, cap, by simp, Lib.hid (by refine Hp.sel (by repeat (first | (with_reducible exact H5) | (with_reducible apply Hp.alloc) | (with_reducible apply Hp.set) | (with_reducible apply Hp.drew) | (with_reducible apply Hp.drewN) | (with_reducible apply Hp.bytesW) | (with_reducible exact Upd.here) | (with_reducible exact Upd.hereR) | (with_reducible apply Upd.there) | (with_reducible apply Sz.alloc) | (with_reducible apply Sz.set) | (with_reducible apply Sz.drew) | (with_reducible apply Sz.drewN) | (with_reducible apply Sz.bytesW) | (with_reducible assumption) | (with_reducible exact Sz.base _))) ?_; (try simp only [List.set_cons_zero, List.set_cons_succ]); exact (by repeat (first | (with_reducible exact Sel.nil) | (with_reducible apply Sel.cons) | (with_reducible exact Del.here) | (with_reducible apply Del.there))))⟩
        case measure => simp [intOf] <;> omega
    · have hk1 : ¬ ((s.size + 1 : Nat) : Int) ≤ (s.size : Int) := by omega
      go_wp2_with fail
      go_ret
      rw [← HE.out]
      exact ⟨A', c', rfl, H⟩
theorem glob_long {s : ByteArray} (h : ¬ s.size ≤ 120) : globF s = false := by simp [globF, h]
theorem glob_short {s : ByteArray} (h : s.size ≤ 120) : globF s = globL (segsC 47 s) := by simp [globF, h]
set_option maxHeartbeats 4000000 in
set_option maxRecDepth 10000 in
theorem GlobOk_any (s : ByteArray) (w : World) (hs : s.size ≤ maxLen) :
    Calls Tryd.prog 73 #[.string s] w fun e w' => e = .returned (.bool (globF s)) ∧ Below w.heap.size w w' := by
  unfold maxLen at hs
  have H := Hp.nil w
  by_cases hb : s.size ≤ 120
  case neg =>
    have HR : Hid (globF s = false) := glob_long hb
    have hb1 : (120 : Int) < (s.size : Int) := by omega
    go_enter Tryd.func73, Tryd.ntmps73
    go_wp2_with fail
    go_ret
    exact ⟨by rw [HR.out]; rfl, Hp.b (by repeat (first | (with_reducible exact H) | (with_reducible apply Hp.alloc) | (with_reducible apply Hp.set) | (with_reducible apply Hp.drew) | (with_reducible apply Hp.drewN) | (with_reducible apply Hp.bytesW) | (with_reducible exact Upd.here) | (with_reducible exact Upd.hereR) | (with_reducible apply Upd.there) | (with_reducible apply Sz.alloc) | (with_reducible apply Sz.set) | (with_reducible apply Sz.drew) | (with_reducible apply Sz.drewN) | (with_reducible apply Sz.bytesW) | (with_reducible assumption) | (with_reducible exact Sz.base _)))⟩
  have HR : Hid (globF s = globL (segsC 47 s)) := glob_short hb
  rw [HR.out]
  have hb1 : (s.size : Int) ≤ 120 := by omega
  go_enter Tryd.func73, Tryd.ntmps73
  go_wp2_with fail
  refine (l01Parts_hp s 47 _ (by omega)).mono ?_
  rintro e w1 ⟨A', c', rfl, h1⟩
  replace H := Hp.call (by repeat (first | (with_reducible exact H) | (with_reducible apply Hp.alloc) | (with_reducible apply Hp.set) | (with_reducible apply Hp.drew) | (with_reducible apply Hp.drewN) | (with_reducible apply Hp.bytesW) | (with_reducible exact Upd.here) | (with_reducible exact Upd.hereR) | (with_reducible apply Upd.there) | (with_reducible apply Sz.alloc) | (with_reducible apply Sz.set) | (with_reducible apply Sz.drew) | (with_reducible apply Sz.drewN) | (with_reducible apply Sz.bytesW) | (with_reducible assumption) | (with_reducible exact Sz.base _))) h1; (try simp only [List.set_cons_zero, List.set_cons_succ, List.cons_append, List.nil_append] at H); clear h1
  have hpos := segsC_pos 47 s
  have hlen := segsC_len 47 s
  have hsz : ∀ p ∈ segsC 47 s, p.size ≤ 120 := fun p hp => Nat.le_trans (segsC_size hp) hb
  generalize hLs : segsC 47 s = Ls at *
  have HLs := Lib.hid hLs
  clear hLs
  obtain ⟨g, rfl⟩ : ∃ g, A' = some ⟨g, 0, none⟩ := by
    rcases (H.rowAt 0 rfl).2 with ⟨e1, e2⟩ | ⟨g, cap, cur, e1, _⟩
    · omega
    · injection e1 with e1 _ _; exact ⟨g, e1⟩
  have hcl : ∀ k (h : k < Ls.length), w1.cell? ⟨g, k, none⟩ = some (.string Ls[k]) := fun k hk => by
    have h1 := flat_get encStr 1 encStr_len Ls k 0 (by omega)
    rw [Nat.mul_one, Nat.add_zero, List.getElem?_eq_getElem hk] at h1
    have h2 := (H.rowAt 0 rfl).cells (g := g) rfl k (.string Ls[k]) (by rw [h1]; rfl)
    rwa [Addr.add_lit, Nat.zero_add] at h2
  have HCL := Lib.hid hcl
  clear hcl
  have HH := Lib.hid H
  obtain ⟨n, hn⟩ : ∃ n, Ls.length = n := ⟨_, rfl⟩
  have HN := Lib.hid hn
  rw [hn] at hpos hlen ⊢
  clear hn H
  go_wp2_with fail
  go_loop [4] (fun i => ∃ k : Nat, k ≤ n ∧ i = .int .i64 k ∧ Hid (okTo Ls k)) (fun i => n - (intOf i).toNat)
  case atStart => exact ⟨0, Nat.zero_le _, rfl, Lib.hid (okTo_zero Ls)⟩
  case round =>
    obtain ⟨k, hk, rfl, HO⟩ := hrel
    by_cases hlt : k < n
    · have hkL : k < Ls.length := by rw [HN.out]; exact hlt
      have c0 := HCL.out k hkL
      have hz := hsz _ (List.getElem_mem hkL)
      have hq : okSeg Ls.length k Ls[k] = (segF Ls[k] || ((Ls[k].toList == [43]) || ((Ls[k].toList == [42]) && decide (k + 1 = n)))) := by rw [okSeg, HN.out]
      have HY := fun h => okTo_succ HO.out hkL h
      have HZ := fun h => globL_no hkL h
      rw [hq] at HY HZ
      have HY' := Lib.hid HY; have HZ' := Lib.hid HZ
      clear HY HZ hq
      generalize Ls[k] = x at *
      have hk1 : (k : Int) < (n : Int) := by omega
      have hk0 : (0 : Int) ≤ (k : Int) := by omega
      have hzm : x.size ≤ maxLen := by unfold maxLen; omega
      cases h1 : segF x with
      | true =>
        go_wp2_with (go_at_call 87; refine (l01Segment_any _ _ hzm).mono ?_; rintro e w' ⟨rfl, rfl⟩)
        go_round
        case rel => exact ⟨k + 1, by omega, by go_num, Lib.hid (HY'.out (by rw [h1]; rfl))⟩
        case measure => simp [intOf]; omega
      | false =>
      cases h2 : (x.toList == [43]) with
      | true =>
        have h2p : x.toList = [43] := by simpa using h2
        go_wp2_with (go_at_call 87; refine (l01Segment_any _ _ hzm).mono ?_; rintro e w' ⟨rfl, rfl⟩)
        go_round
        case rel => exact ⟨k + 1, by omega, by go_num, Lib.hid (HY'.out (by rw [h1, h2]; rfl))⟩
        case measure => simp [intOf]; omega
      | false =>
      have h2p : ¬ x.toList = [43] := by simpa using h2
      cases h3 : (x.toList == [42]) with
      | false =>
        have h3p : ¬ x.toList = [42] := by simpa using h3
        go_wp2_with (go_at_call 87; refine (l01Segment_any _ _ hzm).mono ?_; rintro e w' ⟨rfl, rfl⟩)
        go_ret
        exact ⟨by rw [HLs.out, HZ'.out (by rw [h1, h2, h3]; rfl)]; rfl, Hp.b (HH.out)⟩
      | true =>
        have h3p : x.toList = [42] := by simpa using h3
        by_cases h4 : k + 1 = n
        · have h4b : ((k : Int) == (n : Int) - 1) = true := beq_iff_eq.2 (by omega)
          have h4d : decide (k + 1 = n) = true := by simpa using h4
          clear h4
          go_wp2_with (go_at_call 87; refine (l01Segment_any _ _ hzm).mono ?_; rintro e w' ⟨rfl, rfl⟩)
          go_round
          case rel => exact ⟨k + 1, by omega, by go_num, Lib.hid (HY'.out (by rw [h1, h2, h3, h4d]; rfl))⟩
          case measure => simp [intOf]; omega
        · have h4b : ((k : Int) == (n : Int) - 1) = false := by rw [beq_eq_false_iff_ne]; omega
          have h4d : decide (k + 1 = n) = false := by simpa using h4
          go_wp2_with (go_at_call 87; refine (l01Segment_any _ _ hzm).mono ?_; rintro e w' ⟨rfl, rfl⟩)
          go_ret
          exact ⟨by rw [HLs.out, HZ'.out (by rw [h1, h2, h3, h4d]; rfl)]; rfl, Hp.b (HH.out)⟩
    · obtain rfl : k = n := by omega
      have HE : Hid (globL Ls = decide (k ≤ 8)) := by
        have h := HO.out
        rw [← HN.out] at h ⊢
        exact globL_end h
      go_wp2_with fail
      go_ret
      exact ⟨by rw [HLs.out, HE.out, show decide (k ≤ 8) = decide ((k : Int) ≤ 8) from decide_eq_decide.2 (by omega)]; rfl, Hp.b (HH.out)⟩
end Go.Proofs.YtlmmeeeoljlgcaaDoor
namespace Go.Proofs.YtlmmeeeoljlgcaaDoor
open Go.RowKit
set_option linter.unusedVariables false
set_option linter.unusedSimpArgs false
theorem path_no {s : ByteArray} (h : globF s = false) : pathF s = false := by simp [pathF, h]
theorem path_yes {s : ByteArray} (h : globF s = true) : pathF s = allB freeCh s := by simp [pathF, h]
set_option maxHeartbeats 2000000 in
theorem PathOk_any (s : ByteArray) (w : World) (hs : s.size ≤ maxLen) :
    Calls Tryd.prog 45 #[.string s] w fun e w' => e = .returned (.bool (pathF s)) ∧ Below w.heap.size w w' := by
  have HS := hs
  unfold maxLen at hs
  have H := Hp.nil w
  cases hg : globF s with
  | false =>
    have HR : Hid (pathF s = false) := path_no hg
    go_enter Tryd.func45, Tryd.ntmps45
    go_wp2_with (go_at_call 73; refine (GlobOk_any _ _ HS).mono ?_; rintro e w1 ⟨rfl, hb1⟩; replace H := Hp.step (by repeat (first | (with_reducible exact H) | (with_reducible apply Hp.alloc) | (with_reducible apply Hp.set) | (with_reducible apply Hp.drew) | (with_reducible apply Hp.drewN) | (with_reducible apply Hp.bytesW) | (with_reducible exact Upd.here) | (with_reducible exact Upd.hereR) | (with_reducible apply Upd.there) | (with_reducible apply Sz.alloc) | (with_reducible apply Sz.set) | (with_reducible apply Sz.drew) | (with_reducible apply Sz.drewN) | (with_reducible apply Sz.bytesW) | (with_reducible assumption) | (with_reducible exact Sz.base _))) hb1; (try simp only [List.set_cons_zero, List.set_cons_succ, List.cons_append, List.nil_append] at H))
    go_ret
    exact ⟨by rw [HR.out]; rfl, Hp.b (by repeat (first | (with_reducible exact H) | (with_reducible apply Hp.alloc) | (with_reducible apply Hp.set) | (with_reducible apply Hp.drew) | (with_reducible apply Hp.drewN) | (with_reducible apply Hp.bytesW) | (with_reducible exact Upd.here) | (with_reducible exact Upd.hereR) | (with_reducible apply Upd.there) | (with_reducible apply Sz.alloc) | (with_reducible apply Sz.set) | (with_reducible apply Sz.drew) | (with_reducible apply Sz.drewN) | (with_reducible apply Sz.bytesW) | (with_reducible assumption) | (with_reducible exact Sz.base _)))⟩
  | true =>
  have HR : Hid (pathF s = allB freeCh s) := path_yes hg
  go_enter Tryd.func45, Tryd.ntmps45
  go_wp2_with (go_at_call 73; refine (GlobOk_any _ _ HS).mono ?_; rintro e w1 ⟨rfl, hb1⟩; replace H := Hp.step (by repeat (first | (with_reducible exact H) | (with_reducible apply Hp.alloc) | (with_reducible apply Hp.set) | (with_reducible apply Hp.drew) | (with_reducible apply Hp.drewN) | (with_reducible apply Hp.bytesW) | (with_reducible exact Upd.here) | (with_reducible exact Upd.hereR) | (with_reducible apply Upd.there) | (with_reducible apply Sz.alloc) | (with_reducible apply Sz.set) | (with_reducible apply Sz.drew) | (with_reducible apply Sz.drewN) | (with_reducible apply Sz.bytesW) | (with_reducible assumption) | (with_reducible exact Sz.base _))) hb1; (try simp only [List.set_cons_zero, List.set_cons_succ, List.cons_append, List.nil_append] at H))
  have HH := Lib.hid H
  clear H
  go_loop [3] (fun i => ∃ k : Nat, k ≤ s.size ∧ i = .int .i64 k ∧ Hid ((s.data.toList.take k).all freeCh = true)) (fun i => s.size - (intOf i).toNat)
  case atStart => exact ⟨0, Nat.zero_le _, rfl, rfl⟩
  case round =>
    obtain ⟨k, hk, rfl, HA⟩ := hrel
    by_cases hlt : k < s.size
    · have hT : ∀ c : UInt8, freeCh c = true ↔ (¬ (c.toNat : Int) = 43 ∧ ¬ (c.toNat : Int) = 42) := by intro c; simp [freeCh]; omega
      have HT := Lib.hid hT; clear hT
      by_cases h1 : (s[k].toNat : Int) = 43 <;> by_cases h2 : (s[k].toNat : Int) = 42 <;> (try (exfalso; omega)) <;> go_wp2
      all_goals first
        | (go_round; (case rel => exact ⟨k + 1, by omega, by go_num, allB_snoc freeCh hlt HA.out ((HT.out _).2 (by omega))⟩); (case measure => simp [intOf]; omega))
        | (go_ret; exact ⟨by rw [HR.out, allB_at freeCh hlt (by rw [← Bool.not_eq_true, HT.out]; omega)]; rfl, Hp.b (HH.out)⟩)
        | (exfalso; rename_i hx hw; rcases hx with hx | hx <;> (have := beq_iff_eq.1 hx; omega))
    · have HE : Hid (allB freeCh s = true) := allB_end freeCh hk hlt HA.out
      go_wp2
      go_ret
      exact ⟨by rw [HR.out, HE.out]; rfl, Hp.b (HH.out)⟩
/-- The library's own bound holds some number. -/
def mlOk (w : World) : Prop := ∃ m : Int, w.cell? ⟨0, 0, none⟩ = some (.int .i64 m)
theorem mlOk.on {w w' : World} (h : mlOk w) (hb : Below w.heap.size w w') : mlOk w' := by
  obtain ⟨m, hm⟩ := h
  exact ⟨m, (hb.cell (by have := World.block_lt_of_cell? w _ hm; simpa using this)).trans hm⟩
def segBytes : List UInt8 := [97, 98, 99, 100, 101, 102, 103, 104, 105, 106, 107, 108, 109, 110, 111, 112, 113, 114, 115, 116, 117, 118, 119, 120, 121, 122, 48, 49, 50, 51, 52, 53, 54, 55, 56, 57, 45]
theorem inSet_seg : ∀ b : UInt8, inSet segBytes b = segCh b := by
  have h : ∀ n : Fin 256, inSet segBytes (UInt8.ofNat n.val) = segCh (UInt8.ofNat n.val) := by decide +kernel
  intro b
  have := h ⟨b.toNat, b.toNat_lt⟩
  simpa using this
theorem onlyOf_seg (s : ByteArray) (w : World) (hs : s.size ≤ maxLen) :
    Calls Tryd.prog 83 #[.string s, .string ⟨#[97, 98, 99, 100, 101, 102, 103, 104, 105, 106, 107, 108, 109, 110, 111, 112, 113, 114, 115, 116, 117, 118, 119, 120, 121, 122, 48, 49, 50, 51, 52, 53, 54, 55, 56, 57, 45]⟩] w fun e w' => e = .returned (.bool (allB segCh s)) ∧ w = w' :=
  (onlyOf_any s _ w hs).mono fun e w' ⟨he, hw⟩ => ⟨by rw [he, ← allB_congr inSet_seg s]; rfl, hw⟩
theorem split_hp (s : ByteArray) (w : World) (hs : s.size ≤ 1048576) (hm : mlOk w) :
    Calls Tryd.prog 82 #[.string s, .string ⟨#[47]⟩] w fun e w' => ∃ A' c', e = .returned (.slice A' (segsC 47 s).length c') ∧ Hp w w' [rStr A' c' (segsC 47 s)] := by
  obtain ⟨m, hm⟩ := hm
  refine (Tryd.strings_Split s ⟨#[47]⟩ m w (by omega) hm (by decide)).mono ?_
  rintro e w' ⟨rfl, rfl⟩
  have hl : (segsC 47 s).length = Lib.countB s ⟨#[47]⟩ + 1 := Lib.splitB_all _ (by decide) 0 _ s rfl
  have hle := segsC_len 47 s
  have hx : (segsC 47 s).map Value.string = (segsC 47 s).flatMap encStr := by
    induction segsC 47 s with
    | nil => rfl
    | cons a l ih => simp only [List.map_cons, List.flatMap_cons, encStr, List.singleton_append, ih]
  have H := Hp.nil w
  have H1 : Hp w (w.alloc (.cells ((segsC 47 s).map Value.string).toArray 9)) (box w.heap.size 9 ((segsC 47 s).map Value.string) :: []) := Hp.alloc H (Sz.base w)
  refine ⟨some ⟨w.heap.size, 0, none⟩, (segsC 47 s).length, by rw [hl], ?_⟩
  have H2 := Hp.boxRow H1 0 1 (segsC 47 s).length (segsC 47 s).length rfl (by simp) (Nat.le_refl _) (by unfold maxLen; omega)
  refine Hp.give H2 [0] (by decide) ?_
  rw [hx]
  show [_] = [_]
  congr 1
  unfold rStr
  congr 1
  rw [List.take_of_length_le (by rw [flat_len encStr 1 encStr_len]; omega)]
set_option maxHeartbeats 4000000 in
set_option maxRecDepth 10000 in
theorem isGlob_any (s : ByteArray) (w : World) (hs : s.size ≤ maxLen) (hml : mlOk w) :
    Calls Tryd.prog 70 #[.string s] w fun e w' => e = .returned (.bool (globF s)) ∧ Below w.heap.size w w' := by
  unfold maxLen at hs
  have H := Hp.nil w
  by_cases hb : s.size ≤ 120
  case neg =>
    have HR : Hid (globF s = false) := glob_long hb
    have hb1 : (120 : Int) < (s.size : Int) := by omega
    go_enter Tryd.func70, Tryd.ntmps70
    go_wp2_with fail
    go_ret
    exact ⟨by rw [HR.out]; rfl, Hp.b (by repeat (first | (with_reducible exact H) | (with_reducible apply Hp.alloc) | (with_reducible apply Hp.set) | (with_reducible apply Hp.drew) | (with_reducible apply Hp.drewN) | (with_reducible apply Hp.bytesW) | (with_reducible exact Upd.here) | (with_reducible exact Upd.hereR) | (with_reducible apply Upd.there) | (with_reducible apply Sz.alloc) | (with_reducible apply Sz.set) | (with_reducible apply Sz.drew) | (with_reducible apply Sz.drewN) | (with_reducible apply Sz.bytesW) | (with_reducible assumption) | (with_reducible exact Sz.base _)))⟩
  have HR : Hid (globF s = globL (segsC 47 s)) := glob_short hb
  rw [HR.out]
  have hb1 : (s.size : Int) ≤ 120 := by omega
  go_enter Tryd.func70, Tryd.ntmps70
  go_wp2_with fail
  refine (split_hp s _ (by omega) hml).mono ?_
  rintro e w1 ⟨A', c', rfl, h1⟩
  replace H := Hp.call (by repeat (first | (with_reducible exact H) | (with_reducible apply Hp.alloc) | (with_reducible apply Hp.set) | (with_reducible apply Hp.drew) | (with_reducible apply Hp.drewN) | (with_reducible apply Hp.bytesW) | (with_reducible exact Upd.here) | (with_reducible exact Upd.hereR) | (with_reducible apply Upd.there) | (with_reducible apply Sz.alloc) | (with_reducible apply Sz.set) | (with_reducible apply Sz.drew) | (with_reducible apply Sz.drewN) | (with_reducible apply Sz.bytesW) | (with_reducible assumption) | (with_reducible exact Sz.base _))) h1; (try simp only [List.set_cons_zero, List.set_cons_succ, List.cons_append, List.nil_append] at H); clear h1
  have hpos := segsC_pos 47 s
  have hlen := segsC_len 47 s
  have hsz : ∀ p ∈ segsC 47 s, p.size ≤ 120 := fun p hp => Nat.le_trans (segsC_size hp) hb
  generalize hLs : segsC 47 s = Ls at *
  have HLs := Lib.hid hLs
  clear hLs
  obtain ⟨g, rfl⟩ : ∃ g, A' = some ⟨g, 0, none⟩ := by
    rcases (H.rowAt 0 rfl).2 with ⟨e1, e2⟩ | ⟨g, cap, cur, e1, _⟩
    · omega
    · injection e1 with e1 _ _; exact ⟨g, e1⟩
  have hcl : ∀ k (h : k < Ls.length), w1.cell? ⟨g, k, none⟩ = some (.string Ls[k]) := fun k hk => by
    have h1 := flat_get encStr 1 encStr_len Ls k 0 (by omega)
    rw [Nat.mul_one, Nat.add_zero, List.getElem?_eq_getElem hk] at h1
    have h2 := (H.rowAt 0 rfl).cells (g := g) rfl k (.string Ls[k]) (by rw [h1]; rfl)
    rwa [Addr.add_lit, Nat.zero_add] at h2
  have HCL := Lib.hid hcl
  clear hcl
  have HH := Lib.hid H
  obtain ⟨n, hn⟩ : ∃ n, Ls.length = n := ⟨_, rfl⟩
  have HN := Lib.hid hn
  rw [hn] at hpos hlen ⊢
  clear hn H
  go_wp2_with fail
  go_loop [13] (fun i => ∃ k : Nat, k ≤ n ∧ i = .int .i64 k ∧ Hid (okTo Ls k)) (fun i => n - (intOf i).toNat)
  case atStart => exact ⟨0, Nat.zero_le _, rfl, Lib.hid (okTo_zero Ls)⟩
  case round =>
    obtain ⟨k, hk, rfl, HO⟩ := hrel
    by_cases hlt : k < n
    · have hkL : k < Ls.length := by rw [HN.out]; exact hlt
      have c0 := HCL.out k hkL
      have hz := hsz _ (List.getElem_mem hkL)
      have hq : okSeg Ls.length k Ls[k] = ((inR Ls[k].size 1 16 && allB segCh Ls[k]) || ((Ls[k].toList == [43]) || ((Ls[k].toList == [42]) && decide (k + 1 = n)))) := by rw [okSeg, HN.out]; rfl
      have HY := fun h => okTo_succ HO.out hkL h
      have HZ := fun h => globL_no hkL h
      rw [hq] at HY HZ
      have HY' := Lib.hid HY; have HZ' := Lib.hid HZ
      clear HY HZ hq
      generalize Ls[k] = x at *
      have hk1 : (k : Int) < (n : Int) := by omega
      have hk0 : (0 : Int) ≤ (k : Int) := by omega
      have hzm : x.size ≤ maxLen := by unfold maxLen; omega
      cases h2 : (x.toList == [43]) with
      | true =>
        have h2p : x.toList = [43] := by simpa using h2
        go_wp2_with (first | (go_at_call 78; refine (within_any _ _ _ _).mono ?_; rintro e w' ⟨rfl, rfl⟩) | (go_at_call 83; refine (onlyOf_seg _ _ hzm).mono ?_; rintro e w' ⟨rfl, rfl⟩))
        go_round
        case rel => exact ⟨k + 1, by omega, by go_num, Lib.hid (HY'.out (by simp [*]))⟩
        case measure => simp [intOf]; omega
      | false =>
      have h2p : ¬ x.toList = [43] := by simpa using h2
      have h4b : ((k : Int) == (n : Int) - 1) = decide (k + 1 = n) := by
        by_cases h : k + 1 = n
        · rw [decide_eq_true h]; exact beq_iff_eq.2 (by omega)
        · rw [decide_eq_false h, beq_eq_false_iff_ne]; omega
      cases h3 : (x.toList == [42]) with
      | true =>
        have h3p : x.toList = [42] := by simpa using h3
        cases h5 : decide (k + 1 = n) with
        | true =>
          rw [h5] at h4b
          go_wp2_with (first | (go_at_call 78; refine (within_any _ _ _ _).mono ?_; rintro e w' ⟨rfl, rfl⟩) | (go_at_call 83; refine (onlyOf_seg _ _ hzm).mono ?_; rintro e w' ⟨rfl, rfl⟩))
          go_round
          case rel => exact ⟨k + 1, by omega, by go_num, Lib.hid (HY'.out (by simp [*]))⟩
          case measure => simp [intOf]; omega
        | false =>
          rw [h5] at h4b
          cases h1 : inR x.size 1 16 with
          | false =>
            go_wp2_with (first | (go_at_call 78; refine (within_any _ _ _ _).mono ?_; rintro e w' ⟨rfl, rfl⟩) | (go_at_call 83; refine (onlyOf_seg _ _ hzm).mono ?_; rintro e w' ⟨rfl, rfl⟩))
            go_ret
            exact ⟨by rw [HLs.out, HZ'.out (by simp [*])]; rfl, Hp.b (HH.out)⟩
          | true =>
          cases h6 : allB segCh x with
          | false =>
            go_wp2_with (first | (go_at_call 78; refine (within_any _ _ _ _).mono ?_; rintro e w' ⟨rfl, rfl⟩) | (go_at_call 83; refine (onlyOf_seg _ _ hzm).mono ?_; rintro e w' ⟨rfl, rfl⟩))
            go_ret
            exact ⟨by rw [HLs.out, HZ'.out (by simp [*])]; rfl, Hp.b (HH.out)⟩
          | true =>
            go_wp2_with (first | (go_at_call 78; refine (within_any _ _ _ _).mono ?_; rintro e w' ⟨rfl, rfl⟩) | (go_at_call 83; refine (onlyOf_seg _ _ hzm).mono ?_; rintro e w' ⟨rfl, rfl⟩))
            go_round
            case rel => exact ⟨k + 1, by omega, by go_num, Lib.hid (HY'.out (by simp [*]))⟩
            case measure => simp [intOf]; omega
      | false =>
        have h3p : ¬ x.toList = [42] := by simpa using h3
        cases h1 : inR x.size 1 16 with
        | false =>
          go_wp2_with (first | (go_at_call 78; refine (within_any _ _ _ _).mono ?_; rintro e w' ⟨rfl, rfl⟩) | (go_at_call 83; refine (onlyOf_seg _ _ hzm).mono ?_; rintro e w' ⟨rfl, rfl⟩))
          go_ret
          exact ⟨by rw [HLs.out, HZ'.out (by simp [*])]; rfl, Hp.b (HH.out)⟩
        | true =>
        cases h6 : allB segCh x with
        | false =>
          go_wp2_with (first | (go_at_call 78; refine (within_any _ _ _ _).mono ?_; rintro e w' ⟨rfl, rfl⟩) | (go_at_call 83; refine (onlyOf_seg _ _ hzm).mono ?_; rintro e w' ⟨rfl, rfl⟩))
          go_ret
          exact ⟨by rw [HLs.out, HZ'.out (by simp [*])]; rfl, Hp.b (HH.out)⟩
        | true =>
          go_wp2_with (first | (go_at_call 78; refine (within_any _ _ _ _).mono ?_; rintro e w' ⟨rfl, rfl⟩) | (go_at_call 83; refine (onlyOf_seg _ _ hzm).mono ?_; rintro e w' ⟨rfl, rfl⟩))
          go_round
          case rel => exact ⟨k + 1, by omega, by go_num, Lib.hid (HY'.out (by simp [*]))⟩
          case measure => simp [intOf]; omega
    · obtain rfl : k = n := by omega
      have HE : Hid (globL Ls = decide (k ≤ 8)) := by
        have h := HO.out
        rw [← HN.out] at h ⊢
        exact globL_end h
      go_wp2_with fail
      go_ret
      exact ⟨by rw [HLs.out, HE.out, show decide (k ≤ 8) = decide ((k : Int) ≤ 8) from decide_eq_decide.2 (by omega)]; rfl, Hp.b (HH.out)⟩
set_option maxHeartbeats 2000000 in
theorem isPath_any (s : ByteArray) (w : World) (hs : s.size ≤ maxLen) (hml : mlOk w) :
    Calls Tryd.prog 41 #[.string s] w fun e w' => e = .returned (.bool (pathF s)) ∧ Below w.heap.size w w' := by
  have H := Hp.nil w
  cases hg : globF s with
  | false =>
    have HR : Hid (pathF s = false) := path_no hg
    go_enter Tryd.func41, Tryd.ntmps41
    go_wp2_with (go_at_call 70; refine (isGlob_any _ _ hs hml).mono ?_; rintro e w1 ⟨rfl, hb1⟩; replace H := Hp.step (by repeat (first | (with_reducible exact H) | (with_reducible apply Hp.alloc) | (with_reducible apply Hp.set) | (with_reducible apply Hp.drew) | (with_reducible apply Hp.drewN) | (with_reducible apply Hp.bytesW) | (with_reducible exact Upd.here) | (with_reducible exact Upd.hereR) | (with_reducible apply Upd.there) | (with_reducible apply Sz.alloc) | (with_reducible apply Sz.set) | (with_reducible apply Sz.drew) | (with_reducible apply Sz.drewN) | (with_reducible apply Sz.bytesW) | (with_reducible assumption) | (with_reducible exact Sz.base _))) hb1; (try simp only [List.set_cons_zero, List.set_cons_succ, List.cons_append, List.nil_append] at H))
    go_ret
    exact ⟨by rw [HR.out]; rfl, Hp.b (by repeat (first | (with_reducible exact H) | (with_reducible apply Hp.alloc) | (with_reducible apply Hp.set) | (with_reducible apply Hp.drew) | (with_reducible apply Hp.drewN) | (with_reducible apply Hp.bytesW) | (with_reducible exact Upd.here) | (with_reducible exact Upd.hereR) | (with_reducible apply Upd.there) | (with_reducible apply Sz.alloc) | (with_reducible apply Sz.set) | (with_reducible apply Sz.drew) | (with_reducible apply Sz.drewN) | (with_reducible apply Sz.bytesW) | (with_reducible assumption) | (with_reducible exact Sz.base _)))⟩
  | true =>
  have HR : Hid (pathF s = allB freeCh s) := path_yes hg
  have h120 : s.size ≤ 120 := by simp [globF] at hg; exact hg.1
  have HA := Lib.hid (glob_ascii hg)
  have HC := Lib.hid (containsAny_free s)
  go_enter Tryd.func41, Tryd.ntmps41
  go_wp2_with (first | (go_at_call 70; refine (isGlob_any _ _ hs hml).mono ?_; rintro e w1 ⟨rfl, hb1⟩; replace H := Hp.step (by repeat (first | (with_reducible exact H) | (with_reducible apply Hp.alloc) | (with_reducible apply Hp.set) | (with_reducible apply Hp.drew) | (with_reducible apply Hp.drewN) | (with_reducible apply Hp.bytesW) | (with_reducible exact Upd.here) | (with_reducible exact Upd.hereR) | (with_reducible apply Upd.there) | (with_reducible apply Sz.alloc) | (with_reducible apply Sz.set) | (with_reducible apply Sz.drew) | (with_reducible apply Sz.drewN) | (with_reducible apply Sz.bytesW) | (with_reducible assumption) | (with_reducible exact Sz.base _))) hb1; (try simp only [List.set_cons_zero, List.set_cons_succ, List.cons_append, List.nil_append] at H)) | (go_at_call 71; refine (Tryd.strings_ContainsAny_laid _ ⟨#[43, 42]⟩ _ (by omega) (by decide) HA.out (by intro j b hj; rcases j with _ | _ | j <;> simp at hj <;> subst hj <;> decide)).mono ?_; rintro e w2 ⟨rfl, hb2⟩; replace H := Hp.step (by repeat (first | (with_reducible exact H) | (with_reducible apply Hp.alloc) | (with_reducible apply Hp.set) | (with_reducible apply Hp.drew) | (with_reducible apply Hp.drewN) | (with_reducible apply Hp.bytesW) | (with_reducible exact Upd.here) | (with_reducible exact Upd.hereR) | (with_reducible apply Upd.there) | (with_reducible apply Sz.alloc) | (with_reducible apply Sz.set) | (with_reducible apply Sz.drew) | (with_reducible apply Sz.drewN) | (with_reducible apply Sz.bytesW) | (with_reducible assumption) | (with_reducible exact Sz.base _))) hb2; (try simp only [List.set_cons_zero, List.set_cons_succ, List.cons_append, List.nil_append] at H)))
  go_ret
  exact ⟨by rw [HR.out, ← HC.out]; rfl, Hp.b (by repeat (first | (with_reducible exact H) | (with_reducible apply Hp.alloc) | (with_reducible apply Hp.set) | (with_reducible apply Hp.drew) | (with_reducible apply Hp.drewN) | (with_reducible apply Hp.bytesW) | (with_reducible exact Upd.here) | (with_reducible exact Upd.hereR) | (with_reducible apply Upd.there) | (with_reducible apply Sz.alloc) | (with_reducible apply Sz.set) | (with_reducible apply Sz.drew) | (with_reducible apply Sz.drewN) | (with_reducible apply Sz.bytesW) | (with_reducible assumption) | (with_reducible exact Sz.base _)))⟩
end Go.Proofs.YtlmmeeeoljlgcaaDoor
namespace Go.Proofs.YtlmmeeeoljlgcaaDoor
open Go.RowKit
set_option linter.unusedVariables false
theorem under_iff (p s : List UInt8) : List.isPrefixOf (p ++ [47]) (s ++ [47]) = true ↔ (s = p ∨ (p.length < s.length ∧ s.take p.length = p ∧ s[p.length]? = some 47)) := by
  rw [List.isPrefixOf_iff_prefix, List.prefix_iff_eq_take]
  simp only [List.length_append, List.length_singleton]
  by_cases h : p.length < s.length
  · rw [List.take_append_of_le_length (by omega), List.take_succ_eq_append_getElem h]
    constructor
    · intro e
      have h1 := List.append_inj' e rfl
      refine .inr ⟨h, h1.1.symm, ?_⟩
      rw [List.getElem?_eq_getElem h]
      have h2 : (47 : UInt8) = s[p.length] := by simpa using h1.2
      rw [← h2]
    · rintro (e | ⟨_, e1, e2⟩)
      · subst e; omega
      · rw [List.getElem?_eq_getElem h] at e2
        have h2 : s[p.length] = 47 := by simpa using e2
        rw [e1, h2]
  · by_cases h2 : p.length = s.length
    · rw [List.take_of_length_le (by simp; omega)]
      constructor
      · intro e; exact .inl (List.append_inj' e rfl).1.symm
      · rintro (e | ⟨h3, _⟩)
        · rw [e]
        · omega
    · constructor
      · intro e
        have := congrArg List.length e
        simp at this
        omega
      · rintro (e | ⟨h3, _⟩)
        · subst e; omega
        · omega
def underF (p s : ByteArray) : Bool := pathF p && (pathF s && List.isPrefixOf (p.data.toList ++ [47]) (s.data.toList ++ [47]))
end Go.Proofs.YtlmmeeeoljlgcaaDoor
namespace Go.Proofs.YtlmmeeeoljlgcaaDoor
open Go.RowKit
set_option linter.unusedVariables false
set_option linter.unusedSimpArgs false
theorem path_short {s : ByteArray} (h : pathF s = true) : s.size ≤ 120 := by
  cases hg : globF s with
  | false => rw [path_no hg] at h; cases h
  | true => simp [globF] at hg; exact hg.1
theorem under_no1 {p s : ByteArray} (h : pathF p = false) : underF p s = false := by rw [underF, h]; rfl
theorem under_no2 {p s : ByteArray} (h : pathF s = false) : underF p s = false := by rw [underF, h]; simp
set_option maxHeartbeats 2000000 in
set_option maxRecDepth 10000 in
theorem implUnder_any (p s : ByteArray) (w : World) (hp : p.size ≤ maxLen) (hs : s.size ≤ maxLen) (hml : mlOk w) :
    Calls Tryd.prog 44 #[.string p, .string s] w fun e w' => e = .returned (.bool (underF p s)) ∧ Below w.heap.size w w' := by
  have H := Hp.nil w
  cases h1 : pathF p with
  | false =>
    have HR : Hid (underF p s = false) := under_no1 h1
    go_enter Tryd.func44, Tryd.ntmps44
    go_wp2_with (go_at_call 41; refine (isPath_any _ _ hp (hml.on (Hp.b (by repeat (first | (with_reducible exact H) | (with_reducible apply Hp.alloc) | (with_reducible apply Hp.set) | (with_reducible apply Hp.drew) | (with_reducible apply Hp.drewN) | (with_reducible apply Hp.bytesW) | (with_reducible exact Upd.here) | (with_reducible exact Upd.hereR) | (with_reducible apply Upd.there) | (with_reducible apply Sz.alloc) | (with_reducible apply Sz.set) | (with_reducible apply Sz.drew) | (with_reducible apply Sz.drewN) | (with_reducible apply Sz.bytesW) | (with_reducible assumption) | (with_reducible exact Sz.base _)))))).mono ?_; rintro e w1 ⟨rfl, hb1⟩; rw [h1]; replace H := Hp.step (by repeat (first | (with_reducible exact H) | (with_reducible apply Hp.alloc) | (with_reducible apply Hp.set) | (with_reducible apply Hp.drew) | (with_reducible apply Hp.drewN) | (with_reducible apply Hp.bytesW) | (with_reducible exact Upd.here) | (with_reducible exact Upd.hereR) | (with_reducible apply Upd.there) | (with_reducible apply Sz.alloc) | (with_reducible apply Sz.set) | (with_reducible apply Sz.drew) | (with_reducible apply Sz.drewN) | (with_reducible apply Sz.bytesW) | (with_reducible assumption) | (with_reducible exact Sz.base _))) hb1; (try simp only [List.set_cons_zero, List.set_cons_succ, List.cons_append, List.nil_append] at H))
    go_ret
    exact ⟨by rw [HR.out]; rfl, Hp.b (by repeat (first | (with_reducible exact H) | (with_reducible apply Hp.alloc) | (with_reducible apply Hp.set) | (with_reducible apply Hp.drew) | (with_reducible apply Hp.drewN) | (with_reducible apply Hp.bytesW) | (with_reducible exact Upd.here) | (with_reducible exact Upd.hereR) | (with_reducible apply Upd.there) | (with_reducible apply Sz.alloc) | (with_reducible apply Sz.set) | (with_reducible apply Sz.drew) | (with_reducible apply Sz.drewN) | (with_reducible apply Sz.bytesW) | (with_reducible assumption) | (with_reducible exact Sz.base _)))⟩
  | true =>
  cases h2 : pathF s with
  | false =>
    have HR : Hid (underF p s = false) := under_no2 h2
    go_enter Tryd.func44, Tryd.ntmps44
    go_wp2_with (first | (go_at_call 41; refine (isPath_any _ _ (by first | (with_reducible exact hp) | (with_reducible exact hs)) (hml.on (Hp.b (by repeat (first | (with_reducible exact H) | (with_reducible apply Hp.alloc) | (with_reducible apply Hp.set) | (with_reducible apply Hp.drew) | (with_reducible apply Hp.drewN) | (with_reducible apply Hp.bytesW) | (with_reducible exact Upd.here) | (with_reducible exact Upd.hereR) | (with_reducible apply Upd.there) | (with_reducible apply Sz.alloc) | (with_reducible apply Sz.set) | (with_reducible apply Sz.drew) | (with_reducible apply Sz.drewN) | (with_reducible apply Sz.bytesW) | (with_reducible assumption) | (with_reducible exact Sz.base _)))))).mono ?_; rintro e w1 ⟨rfl, hb1⟩; (first | rw [h1] | rw [h2]); replace H := Hp.step (by repeat (first | (with_reducible exact H) | (with_reducible apply Hp.alloc) | (with_reducible apply Hp.set) | (with_reducible apply Hp.drew) | (with_reducible apply Hp.drewN) | (with_reducible apply Hp.bytesW) | (with_reducible exact Upd.here) | (with_reducible exact Upd.hereR) | (with_reducible apply Upd.there) | (with_reducible apply Sz.alloc) | (with_reducible apply Sz.set) | (with_reducible apply Sz.drew) | (with_reducible apply Sz.drewN) | (with_reducible apply Sz.bytesW) | (with_reducible assumption) | (with_reducible exact Sz.base _))) hb1; (try simp only [List.set_cons_zero, List.set_cons_succ, List.cons_append, List.nil_append] at H)))
    go_ret
    exact ⟨by rw [HR.out]; rfl, Hp.b (by repeat (first | (with_reducible exact H) | (with_reducible apply Hp.alloc) | (with_reducible apply Hp.set) | (with_reducible apply Hp.drew) | (with_reducible apply Hp.drewN) | (with_reducible apply Hp.bytesW) | (with_reducible exact Upd.here) | (with_reducible exact Upd.hereR) | (with_reducible apply Upd.there) | (with_reducible apply Sz.alloc) | (with_reducible apply Sz.set) | (with_reducible apply Sz.drew) | (with_reducible apply Sz.drewN) | (with_reducible apply Sz.bytesW) | (with_reducible assumption) | (with_reducible exact Sz.base _)))⟩
  | true =>
  have k1 := path_short h1
  have k2 := path_short h2
  have HR : Hid (underF p s = Lib.hasPrefix (s ++ ⟨#[47]⟩).data.toList (p ++ ⟨#[47]⟩).data.toList) := by
    show _ = _
    rw [underF, h1, h2]
    simp [Lib.hasPrefix]
  rw [HR.out]
  go_enter Tryd.func44, Tryd.ntmps44
  go_wp2_with (first | (go_at_call 41; refine (isPath_any _ _ (by first | (with_reducible exact hp) | (with_reducible exact hs)) (hml.on (Hp.b (by repeat (first | (with_reducible exact H) | (with_reducible apply Hp.alloc) | (with_reducible apply Hp.set) | (with_reducible apply Hp.drew) | (with_reducible apply Hp.drewN) | (with_reducible apply Hp.bytesW) | (with_reducible exact Upd.here) | (with_reducible exact Upd.hereR) | (with_reducible apply Upd.there) | (with_reducible apply Sz.alloc) | (with_reducible apply Sz.set) | (with_reducible apply Sz.drew) | (with_reducible apply Sz.drewN) | (with_reducible apply Sz.bytesW) | (with_reducible assumption) | (with_reducible exact Sz.base _)))))).mono ?_; rintro e w1 ⟨rfl, hb1⟩; (first | rw [h1] | rw [h2]); replace H := Hp.step (by repeat (first | (with_reducible exact H) | (with_reducible apply Hp.alloc) | (with_reducible apply Hp.set) | (with_reducible apply Hp.drew) | (with_reducible apply Hp.drewN) | (with_reducible apply Hp.bytesW) | (with_reducible exact Upd.here) | (with_reducible exact Upd.hereR) | (with_reducible apply Upd.there) | (with_reducible apply Sz.alloc) | (with_reducible apply Sz.set) | (with_reducible apply Sz.drew) | (with_reducible apply Sz.drewN) | (with_reducible apply Sz.bytesW) | (with_reducible assumption) | (with_reducible exact Sz.base _))) hb1; (try simp only [List.set_cons_zero, List.set_cons_succ, List.cons_append, List.nil_append] at H)) | (go_at_call 72; refine (Tryd.strings_HasPrefix _ _ _).mono ?_; rintro e w' ⟨rfl, rfl⟩))
  go_ret
  exact ⟨rfl, Hp.b (by repeat (first | (with_reducible exact H) | (with_reducible apply Hp.alloc) | (with_reducible apply Hp.set) | (with_reducible apply Hp.drew) | (with_reducible apply Hp.drewN) | (with_reducible apply Hp.bytesW) | (with_reducible exact Upd.here) | (with_reducible exact Upd.hereR) | (with_reducible apply Upd.there) | (with_reducible apply Sz.alloc) | (with_reducible apply Sz.set) | (with_reducible apply Sz.drew) | (with_reducible apply Sz.drewN) | (with_reducible apply Sz.bytesW) | (with_reducible assumption) | (with_reducible exact Sz.base _)))⟩
theorem toListB (s : ByteArray) : s.toList = s.data.toList := ByteArray.toList_eq s
theorem under_prop {p s : ByteArray} (h1 : pathF p = true) (h2 : pathF s = true) : underF p s = true ↔ (s.toList = p.toList ∨ (p.size < s.size ∧ (s.extract 0 p.size).toList = p.toList ∧ s.data.toList[p.size]? = some 47)) := by
  rw [underF, h1, h2, Bool.true_and, Bool.true_and, under_iff]
  have e1 : p.data.toList.length = p.size := by simp
  have e2 : s.data.toList.length = s.size := by simp
  rw [e1, e2, toListB, toListB, toListB, ext_data, List.drop_zero, Nat.sub_zero]
set_option maxHeartbeats 4000000 in
set_option maxRecDepth 10000 in
theorem specUnder_any (p s : ByteArray) (w : World) (hp : p.size ≤ maxLen) (hs : s.size ≤ maxLen) :
    Calls Tryd.prog 74 #[.string p, .string s] w fun e w' => e = .returned (.bool (underF p s)) ∧ Below w.heap.size w w' := by
  have H := Hp.nil w
  cases h1 : pathF p with
  | false =>
    have HR : Hid (underF p s = false) := under_no1 h1
    go_enter Tryd.func74, Tryd.ntmps74
    go_wp2_with (go_at_call 45; refine (PathOk_any _ _ hp).mono ?_; rintro e w1 ⟨rfl, hb1⟩; rw [h1]; replace H := Hp.step (by repeat (first | (with_reducible exact H) | (with_reducible apply Hp.alloc) | (with_reducible apply Hp.set) | (with_reducible apply Hp.drew) | (with_reducible apply Hp.drewN) | (with_reducible apply Hp.bytesW) | (with_reducible exact Upd.here) | (with_reducible exact Upd.hereR) | (with_reducible apply Upd.there) | (with_reducible apply Sz.alloc) | (with_reducible apply Sz.set) | (with_reducible apply Sz.drew) | (with_reducible apply Sz.drewN) | (with_reducible apply Sz.bytesW) | (with_reducible assumption) | (with_reducible exact Sz.base _))) hb1; (try simp only [List.set_cons_zero, List.set_cons_succ, List.cons_append, List.nil_append] at H))
    go_ret
    exact ⟨by rw [HR.out]; rfl, Hp.b (by repeat (first | (with_reducible exact H) | (with_reducible apply Hp.alloc) | (with_reducible apply Hp.set) | (with_reducible apply Hp.drew) | (with_reducible apply Hp.drewN) | (with_reducible apply Hp.bytesW) | (with_reducible exact Upd.here) | (with_reducible exact Upd.hereR) | (with_reducible apply Upd.there) | (with_reducible apply Sz.alloc) | (with_reducible apply Sz.set) | (with_reducible apply Sz.drew) | (with_reducible apply Sz.drewN) | (with_reducible apply Sz.bytesW) | (with_reducible assumption) | (with_reducible exact Sz.base _)))⟩
  | true =>
  cases h2 : pathF s with
  | false =>
    have HR : Hid (underF p s = false) := under_no2 h2
    go_enter Tryd.func74, Tryd.ntmps74
    go_wp2_with (go_at_call 45; refine (PathOk_any _ _ (by first | (with_reducible exact hp) | (with_reducible exact hs))).mono ?_; rintro e w1 ⟨rfl, hb1⟩; (first | rw [h1] | rw [h2]); replace H := Hp.step (by repeat (first | (with_reducible exact H) | (with_reducible apply Hp.alloc) | (with_reducible apply Hp.set) | (with_reducible apply Hp.drew) | (with_reducible apply Hp.drewN) | (with_reducible apply Hp.bytesW) | (with_reducible exact Upd.here) | (with_reducible exact Upd.hereR) | (with_reducible apply Upd.there) | (with_reducible apply Sz.alloc) | (with_reducible apply Sz.set) | (with_reducible apply Sz.drew) | (with_reducible apply Sz.drewN) | (with_reducible apply Sz.bytesW) | (with_reducible assumption) | (with_reducible exact Sz.base _))) hb1; (try simp only [List.set_cons_zero, List.set_cons_succ, List.cons_append, List.nil_append] at H))
    go_ret
    exact ⟨by rw [HR.out]; rfl, Hp.b (by repeat (first | (with_reducible exact H) | (with_reducible apply Hp.alloc) | (with_reducible apply Hp.set) | (with_reducible apply Hp.drew) | (with_reducible apply Hp.drewN) | (with_reducible apply Hp.bytesW) | (with_reducible exact Upd.here) | (with_reducible exact Upd.hereR) | (with_reducible apply Upd.there) | (with_reducible apply Sz.alloc) | (with_reducible apply Sz.set) | (with_reducible apply Sz.drew) | (with_reducible apply Sz.drewN) | (with_reducible apply Sz.bytesW) | (with_reducible assumption) | (with_reducible exact Sz.base _)))⟩
  | true =>
  have hu := under_prop h1 h2
  have k1 := path_short h1
  have k2 := path_short h2
  by_cases h3 : s.size < p.size
  · have HR : Hid (underF p s = false) := by
      show _ = _
      rw [← Bool.not_eq_true, hu]
      rintro (e | ⟨e, _⟩)
      · have := congrArg List.length e; rw [toListB, toListB] at this; simp at this; omega
      · omega
    clear hu
    go_enter Tryd.func74, Tryd.ntmps74
    go_wp2_with (go_at_call 45; refine (PathOk_any _ _ (by first | (with_reducible exact hp) | (with_reducible exact hs))).mono ?_; rintro e w1 ⟨rfl, hb1⟩; (first | rw [h1] | rw [h2]); replace H := Hp.step (by repeat (first | (with_reducible exact H) | (with_reducible apply Hp.alloc) | (with_reducible apply Hp.set) | (with_reducible apply Hp.drew) | (with_reducible apply Hp.drewN) | (with_reducible apply Hp.bytesW) | (with_reducible exact Upd.here) | (with_reducible exact Upd.hereR) | (with_reducible apply Upd.there) | (with_reducible apply Sz.alloc) | (with_reducible apply Sz.set) | (with_reducible apply Sz.drew) | (with_reducible apply Sz.drewN) | (with_reducible apply Sz.bytesW) | (with_reducible assumption) | (with_reducible exact Sz.base _))) hb1; (try simp only [List.set_cons_zero, List.set_cons_succ, List.cons_append, List.nil_append] at H))
    go_ret
    exact ⟨by rw [HR.out]; first | rfl | (simp; omega), Hp.b (by repeat (first | (with_reducible exact H) | (with_reducible apply Hp.alloc) | (with_reducible apply Hp.set) | (with_reducible apply Hp.drew) | (with_reducible apply Hp.drewN) | (with_reducible apply Hp.bytesW) | (with_reducible exact Upd.here) | (with_reducible exact Upd.hereR) | (with_reducible apply Upd.there) | (with_reducible apply Sz.alloc) | (with_reducible apply Sz.set) | (with_reducible apply Sz.drew) | (with_reducible apply Sz.drewN) | (with_reducible apply Sz.bytesW) | (with_reducible assumption) | (with_reducible exact Sz.base _)))⟩
  cases h4 : (s.toList == p.toList) with
  | true =>
    have HR : Hid (underF p s = true) := hu.2 (.inl (by simpa using h4))
    clear hu
    go_enter Tryd.func74, Tryd.ntmps74
    go_wp2_with (go_at_call 45; refine (PathOk_any _ _ (by first | (with_reducible exact hp) | (with_reducible exact hs))).mono ?_; rintro e w1 ⟨rfl, hb1⟩; (first | rw [h1] | rw [h2]); replace H := Hp.step (by repeat (first | (with_reducible exact H) | (with_reducible apply Hp.alloc) | (with_reducible apply Hp.set) | (with_reducible apply Hp.drew) | (with_reducible apply Hp.drewN) | (with_reducible apply Hp.bytesW) | (with_reducible exact Upd.here) | (with_reducible exact Upd.hereR) | (with_reducible apply Upd.there) | (with_reducible apply Sz.alloc) | (with_reducible apply Sz.set) | (with_reducible apply Sz.drew) | (with_reducible apply Sz.drewN) | (with_reducible apply Sz.bytesW) | (with_reducible assumption) | (with_reducible exact Sz.base _))) hb1; (try simp only [List.set_cons_zero, List.set_cons_succ, List.cons_append, List.nil_append] at H))
    go_ret
    exact ⟨by rw [HR.out]; first | rfl | (simp; omega), Hp.b (by repeat (first | (with_reducible exact H) | (with_reducible apply Hp.alloc) | (with_reducible apply Hp.set) | (with_reducible apply Hp.drew) | (with_reducible apply Hp.drewN) | (with_reducible apply Hp.bytesW) | (with_reducible exact Upd.here) | (with_reducible exact Upd.hereR) | (with_reducible apply Upd.there) | (with_reducible apply Sz.alloc) | (with_reducible apply Sz.set) | (with_reducible apply Sz.drew) | (with_reducible apply Sz.drewN) | (with_reducible apply Sz.bytesW) | (with_reducible assumption) | (with_reducible exact Sz.base _)))⟩
  | false =>
  have h4n : ¬ s.toList = p.toList := by simpa using h4
  by_cases h5 : p.size < s.size
  case neg =>
    have HR : Hid (underF p s = false) := by
      show _ = _
      rw [← Bool.not_eq_true, hu]
      rintro (e | ⟨e, _⟩)
      · exact h4n e
      · exact h5 e
    clear hu h4n
    go_enter Tryd.func74, Tryd.ntmps74
    go_wp2_with (go_at_call 45; refine (PathOk_any _ _ (by first | (with_reducible exact hp) | (with_reducible exact hs))).mono ?_; rintro e w1 ⟨rfl, hb1⟩; (first | rw [h1] | rw [h2]); replace H := Hp.step (by repeat (first | (with_reducible exact H) | (with_reducible apply Hp.alloc) | (with_reducible apply Hp.set) | (with_reducible apply Hp.drew) | (with_reducible apply Hp.drewN) | (with_reducible apply Hp.bytesW) | (with_reducible exact Upd.here) | (with_reducible exact Upd.hereR) | (with_reducible apply Upd.there) | (with_reducible apply Sz.alloc) | (with_reducible apply Sz.set) | (with_reducible apply Sz.drew) | (with_reducible apply Sz.drewN) | (with_reducible apply Sz.bytesW) | (with_reducible assumption) | (with_reducible exact Sz.base _))) hb1; (try simp only [List.set_cons_zero, List.set_cons_succ, List.cons_append, List.nil_append] at H))
    go_ret
    exact ⟨by rw [HR.out]; first | rfl | (simp; omega), Hp.b (by repeat (first | (with_reducible exact H) | (with_reducible apply Hp.alloc) | (with_reducible apply Hp.set) | (with_reducible apply Hp.drew) | (with_reducible apply Hp.drewN) | (with_reducible apply Hp.bytesW) | (with_reducible exact Upd.here) | (with_reducible exact Upd.hereR) | (with_reducible apply Upd.there) | (with_reducible apply Sz.alloc) | (with_reducible apply Sz.set) | (with_reducible apply Sz.drew) | (with_reducible apply Sz.drewN) | (with_reducible apply Sz.bytesW) | (with_reducible assumption) | (with_reducible exact Sz.base _)))⟩
  cases h6 : ((s.extract 0 p.size).toList == p.toList) with
  | false =>
    have HR : Hid (underF p s = false) := by
      show _ = _
      rw [← Bool.not_eq_true, hu]
      rintro (e | ⟨_, e, _⟩)
      · exact h4n e
      · rw [e] at h6; simp at h6
    clear hu h4n
    go_enter Tryd.func74, Tryd.ntmps74
    go_wp2_with (go_at_call 45; refine (PathOk_any _ _ (by first | (with_reducible exact hp) | (with_reducible exact hs))).mono ?_; rintro e w1 ⟨rfl, hb1⟩; (first | rw [h1] | rw [h2]); replace H := Hp.step (by repeat (first | (with_reducible exact H) | (with_reducible apply Hp.alloc) | (with_reducible apply Hp.set) | (with_reducible apply Hp.drew) | (with_reducible apply Hp.drewN) | (with_reducible apply Hp.bytesW) | (with_reducible exact Upd.here) | (with_reducible exact Upd.hereR) | (with_reducible apply Upd.there) | (with_reducible apply Sz.alloc) | (with_reducible apply Sz.set) | (with_reducible apply Sz.drew) | (with_reducible apply Sz.drewN) | (with_reducible apply Sz.bytesW) | (with_reducible assumption) | (with_reducible exact Sz.base _))) hb1; (try simp only [List.set_cons_zero, List.set_cons_succ, List.cons_append, List.nil_append] at H))
    go_ret
    exact ⟨by rw [HR.out]; first | rfl | (simp; omega), Hp.b (by repeat (first | (with_reducible exact H) | (with_reducible apply Hp.alloc) | (with_reducible apply Hp.set) | (with_reducible apply Hp.drew) | (with_reducible apply Hp.drewN) | (with_reducible apply Hp.bytesW) | (with_reducible exact Upd.here) | (with_reducible exact Upd.hereR) | (with_reducible apply Upd.there) | (with_reducible apply Sz.alloc) | (with_reducible apply Sz.set) | (with_reducible apply Sz.drew) | (with_reducible apply Sz.drewN) | (with_reducible apply Sz.bytesW) | (with_reducible assumption) | (with_reducible exact Sz.base _)))⟩
  | true =>
  have hg : s.data.toList[p.size]? = some (s[p.size]) := by
    rw [List.getElem?_eq_getElem (by simpa using h5)]; rfl
  by_cases h7 : (s[p.size].toNat : Int) = 47
  · have HR : Hid (underF p s = true) := hu.2 (.inr ⟨h5, by simpa using h6, by rw [hg]; congr 1; exact UInt8.toNat_inj.1 (by show _ = 47; omega)⟩)
    clear hu h4n hg
    go_enter Tryd.func74, Tryd.ntmps74
    go_wp2_with (go_at_call 45; refine (PathOk_any _ _ (by first | (with_reducible exact hp) | (with_reducible exact hs))).mono ?_; rintro e w1 ⟨rfl, hb1⟩; (first | rw [h1] | rw [h2]); replace H := Hp.step (by repeat (first | (with_reducible exact H) | (with_reducible apply Hp.alloc) | (with_reducible apply Hp.set) | (with_reducible apply Hp.drew) | (with_reducible apply Hp.drewN) | (with_reducible apply Hp.bytesW) | (with_reducible exact Upd.here) | (with_reducible exact Upd.hereR) | (with_reducible apply Upd.there) | (with_reducible apply Sz.alloc) | (with_reducible apply Sz.set) | (with_reducible apply Sz.drew) | (with_reducible apply Sz.drewN) | (with_reducible apply Sz.bytesW) | (with_reducible assumption) | (with_reducible exact Sz.base _))) hb1; (try simp only [List.set_cons_zero, List.set_cons_succ, List.cons_append, List.nil_append] at H))
    go_ret
    exact ⟨by rw [HR.out]; first | rfl | (simp; omega), Hp.b (by repeat (first | (with_reducible exact H) | (with_reducible apply Hp.alloc) | (with_reducible apply Hp.set) | (with_reducible apply Hp.drew) | (with_reducible apply Hp.drewN) | (with_reducible apply Hp.bytesW) | (with_reducible exact Upd.here) | (with_reducible exact Upd.hereR) | (with_reducible apply Upd.there) | (with_reducible apply Sz.alloc) | (with_reducible apply Sz.set) | (with_reducible apply Sz.drew) | (with_reducible apply Sz.drewN) | (with_reducible apply Sz.bytesW) | (with_reducible assumption) | (with_reducible exact Sz.base _)))⟩
  · have HR : Hid (underF p s = false) := by
      show _ = _
      rw [← Bool.not_eq_true, hu]
      rintro (e | ⟨_, _, e⟩)
      · exact h4n e
      · rw [hg] at e
        have e : s[p.size] = 47 := by simpa using e
        rw [e] at h7
        exact h7 rfl
    clear hu h4n hg
    go_enter Tryd.func74, Tryd.ntmps74
    go_wp2_with (go_at_call 45; refine (PathOk_any _ _ (by first | (with_reducible exact hp) | (with_reducible exact hs))).mono ?_; rintro e w1 ⟨rfl, hb1⟩; (first | rw [h1] | rw [h2]); replace H := Hp.step (by repeat (first | (with_reducible exact H) | (with_reducible apply Hp.alloc) | (with_reducible apply Hp.set) | (with_reducible apply Hp.drew) | (with_reducible apply Hp.drewN) | (with_reducible apply Hp.bytesW) | (with_reducible exact Upd.here) | (with_reducible exact Upd.hereR) | (with_reducible apply Upd.there) | (with_reducible apply Sz.alloc) | (with_reducible apply Sz.set) | (with_reducible apply Sz.drew) | (with_reducible apply Sz.drewN) | (with_reducible apply Sz.bytesW) | (with_reducible assumption) | (with_reducible exact Sz.base _))) hb1; (try simp only [List.set_cons_zero, List.set_cons_succ, List.cons_append, List.nil_append] at H))
    go_ret
    exact ⟨by rw [HR.out]; first | rfl | (simp; omega), Hp.b (by repeat (first | (with_reducible exact H) | (with_reducible apply Hp.alloc) | (with_reducible apply Hp.set) | (with_reducible apply Hp.drew) | (with_reducible apply Hp.drewN) | (with_reducible apply Hp.bytesW) | (with_reducible exact Upd.here) | (with_reducible exact Upd.hereR) | (with_reducible apply Upd.there) | (with_reducible apply Sz.alloc) | (with_reducible apply Sz.set) | (with_reducible apply Sz.drew) | (with_reducible apply Sz.drewN) | (with_reducible apply Sz.bytesW) | (with_reducible assumption) | (with_reducible exact Sz.base _)))⟩
end Go.Proofs.YtlmmeeeoljlgcaaDoor
