/- Rows of texts sorted, then compacted, in place. No condition. -/
import Derived.Test.YtklmcbabpncfmaaDoorListP
import Derived.Test.YtklmcbabpncfmaaDoorM1
namespace Go.Proofs.YtklmcbabpncfmaaDoor
open Go.RowKit
set_option linter.unusedVariables false
def kS (l : List UInt8) : ByteArray := ⟨l.toArray⟩
def ofD (l : List (List UInt8)) : List ByteArray := l.map kS
theorem ofD_len (l : List (List UInt8)) : (ofD l).length = l.length := List.length_map ..
theorem ofD_dl (us : List ByteArray) : ofD (dl us) = us := by
  unfold ofD dl
  rw [List.map_map]
  conv => rhs; rw [← List.map_id us]
  exact List.map_congr_left fun x _ => rfl
theorem enc_ofD (l : List (List UInt8)) : l.map Go.Proofs.encStr = (ofD l).flatMap encStr := by
  induction l with
  | nil => rfl
  | cons a l ih => rw [List.map_cons, ih]; rfl
theorem own_growS {w : World} {lo hi k n : Nat} {e : TypeId} {v : Value} {xs : List Value} (h : Own w lo hi e k v n xs) (os : Array Obj) : Own (Go.Sort.grow w os) lo hi e k v n xs :=
  h.grow' ⟨rfl, rfl, rfl, by simp [Go.Sort.grow], fun k hk => by simp [Go.Sort.grow, Array.getElem?_append_left hk]⟩
theorem chg_growS {a w : World} {lo hi : Nat} (h : Chg a w lo hi) (os : Array Obj) : Chg a (Go.Sort.grow w os) lo hi :=
  h.grow ⟨rfl, rfl, rfl, by simp [Go.Sort.grow], fun k hk => by simp [Go.Sort.grow, Array.getElem?_append_left hk]⟩
theorem setL_all (cs vs : List Value) (h : vs.length = cs.length) : setL cs 0 vs = vs := by
  have h1 := setL_take vs cs 0 (by omega)
  rw [Nat.zero_add, List.take_zero, List.nil_append, List.take_of_length_le (by rw [setL_len]; omega)] at h1
  exact h1
theorem str_holds {w : World} {g c n : Nat} {us : List ByteArray} (h : Own w g (g + 1) 9 1 (.slice (some ⟨g, 0, none⟩) n c) n (us.flatMap encStr)) (hn : us.length = n) : Go.Sort.Holds Go.Proofs.encStr w g 0 (dl us).toArray := by
  intro j hj
  have hj' : j < us.length := by simpa [dl] using hj
  have hg : (us.flatMap encStr)[j]? = some (.string us[j]) := by
    have := flat_get encStr 1 encStr_len us j 0 (by omega)
    rw [Nat.mul_one, Nat.add_zero] at this
    rw [this, List.getElem?_eq_getElem hj']; rfl
  refine ⟨?_, by rw [Nat.zero_add]; exact h.1.frozenAt j⟩
  rw [Nat.zero_add, h.cellAt hg, getElem!_pos _ j hj]
  simp [dl, Go.Proofs.encStr]
theorem put_own {w : World} {g c n q : Nat} {us : List ByteArray} {ys : List (List UInt8)} (h : Own w g (g + 1) 9 1 (.slice (some ⟨g, 0, none⟩) n c) n (us.flatMap encStr)) (hn : us.length = n) (hy : ys.length = n) :
    Own (Go.Sort.putRow Go.Proofs.encStr (Go.Sort.ahead w q) g 0 ys.toArray) g (g + 1) 9 1 (.slice (some ⟨g, 0, none⟩) n c) n ((ofD ys).flatMap encStr) ∧ Chg w (Go.Sort.putRow Go.Proofs.encStr (Go.Sort.ahead w q) g 0 ys.toArray) g (g + 1) := by
  rw [Go.Lib.putRow_eq_setCells Go.Proofs.encStr w g 0 (dl us).toArray ys q (str_holds h hn) (by simp [dl]; omega), enc_ofD]
  have hd : Own (w.drewN q) g (g + 1) 9 1 (.slice (some ⟨g, 0, none⟩) n c) n (us.flatMap encStr) := h
  have h1 := Own.setCells ((ofD ys).flatMap encStr) 0 _ _ hd
  rw [setL_all _ _ (by rw [flat_len encStr 1 encStr_len, flat_len encStr 1 encStr_len, ofD_len]; omega)] at h1
  exact ⟨h1, Chg.setCells ⟨Nat.le_refl _, Nat.lt_succ_self _⟩ _ 0 w _ ⟨rfl, rfl, rfl, Nat.le_refl _, fun _ _ _ => rfl⟩⟩
theorem row_nil {w : World} {lo hi k n c : Nat} {e : TypeId} {xs : List Value} (h : Own w lo hi e k (.slice none n c) n xs) : n = 0 ∧ c = 0 := by
  rcases h.1.2 with ⟨e1, h2⟩ | ⟨g, cap, cur, e1, _⟩
  · injection e1 with _ e2 e3; exact ⟨e2, e3⟩
  · cases e1
theorem row_at {w : World} {lo hi k n c : Nat} {e : TypeId} {a : Addr} {xs : List Value} (h : Own w lo hi e k (.slice (some a) n c) n xs) : ∃ g, a = ⟨g, 0, none⟩ := by
  rcases h.1.2 with ⟨e1, h2⟩ | ⟨g, cap, cur, e1, _⟩
  · cases e1
  · injection e1 with e1; injection e1 with e1; exact ⟨g, e1⟩
theorem sortS_hp (A : Option Addr) (c : Nat) (us : List ByteArray) (w0 w : World) (L L' : List Ent) (H : Hp w0 w L) (hr : Rep L (rStr A c us) (rStr A c (ofD ((dl us).mergeSort fun x y => decide (x ≤ y)))) L') (hl : us.length ≤ 1048576) :
    Calls Tryd.prog 78 #[.slice A us.length c] w fun e w' => e = .returned (.tuple #[]) ∧ Hp w0 w' L' := by
  have hsl : (ofD ((dl us).mergeSort fun x y => decide (x ≤ y))).length = us.length := by rw [ofD_len, List.length_mergeSort]; simp [dl]
  have hm : row 9 1 (.slice A us.length c) us.length (us.flatMap encStr) ∈ L := by obtain ⟨i, hi, -⟩ := hr; exact List.mem_of_getElem? hi
  have hO := (H.ownM hm).1
  unfold rStr at hr
  rw [hsl] at hr
  cases A with
  | none =>
    obtain ⟨h0, rfl⟩ := row_nil hO
    have hu : us = [] := List.eq_nil_of_length_eq_zero h0
    subst hu
    have e0 : ofD ((dl []).mergeSort fun x y => decide (x ≤ y)) = [] := by simp [dl, ofD]
    rw [e0] at hr
    refine (Tryd.slices_Sort_string_none none 0 w).mono ?_
    rintro e w' ⟨rfl, rfl⟩
    exact ⟨rfl, H.chgM hr hO (Chg.refl _ _ _)⟩
  | some a =>
    obtain ⟨g, rfl⟩ := row_at hO
    have hlt := (hO.lt g rfl).2
    have hO1 : Own w g (g + 1) 9 1 (.slice (some ⟨g, 0, none⟩) us.length c) us.length (us.flatMap encStr) := hO
    have hbl : g < w.heap.size := Nat.lt_of_lt_of_le (Nat.lt_succ_self g) hO1.2.2
    have hdl : (dl us).length = us.length := by simp [dl]
    have hcall := Tryd.slices_Sort_string g 0 c (dl us) w (str_holds hO1 rfl) hbl (by omega)
    rw [hdl] at hcall
    refine hcall.mono ?_
    rintro e w' ⟨rfl, q, os, rfl⟩
    obtain ⟨p1, p2⟩ := put_own (q := q) hO1 rfl (ys := (dl us).mergeSort fun x y => decide (x ≤ y)) (by rw [List.length_mergeSort]; exact hdl)
    exact ⟨rfl, H.chgM hr (own_growS p1 os) (chg_growS p2 os)⟩
theorem compactS_hp (A : Option Addr) (c : Nat) (us : List ByteArray) (w0 w : World) (L L' : List Ent) (H : Hp w0 w L) (hr : Rep L (rStr A c us) (rStr A c (ofD (Go.Lib.compact (dl us)))) L') (hl : us.length ≤ 1048576) :
    Calls Tryd.prog 79 #[.slice A us.length c] w fun e w' => e = .returned (.slice A (ofD (Go.Lib.compact (dl us))).length c) ∧ Hp w0 w' L' := by
  have hm : row 9 1 (.slice A us.length c) us.length (us.flatMap encStr) ∈ L := by obtain ⟨i, hi, -⟩ := hr; exact List.mem_of_getElem? hi
  have hO := (H.ownM hm).1
  have hcl : (Go.Lib.compact (dl us)).length ≤ us.length := by have := Go.Lib.compact_length_le (dl us); simpa [dl] using this
  cases A with
  | none =>
    obtain ⟨h0, rfl⟩ := row_nil hO
    have hu : us = [] := List.eq_nil_of_length_eq_zero h0
    subst hu
    refine (Tryd.slices_Compact_string_empty none 0 w).mono ?_
    rintro e w' ⟨rfl, rfl⟩
    exact ⟨rfl, H.chgM hr hO (Chg.refl _ _ _)⟩
  | some a =>
    obtain ⟨g, rfl⟩ := row_at hO
    have hO1 : Own w g (g + 1) 9 1 (.slice (some ⟨g, 0, none⟩) us.length c) us.length (us.flatMap encStr) := hO
    have hdl : (dl us).length = us.length := by simp [dl]
    have hcall := Tryd.slices_Compact_string g 0 c (dl us) w (str_holds hO1 rfl) (by omega) (by have := hO1.lenCap; omega)
    rw [hdl] at hcall
    refine hcall.mono ?_
    rintro e w' ⟨rfl, q, rfl⟩
    obtain ⟨p1, p2⟩ := put_own (q := q) hO1 rfl (ys := Go.Lib.compact (dl us) ++ List.replicate (us.length - (Go.Lib.compact (dl us)).length) []) (by rw [List.length_append, List.length_replicate]; omega)
    have p3 := p1.cut (m := (Go.Lib.compact (dl us)).length) hcl
    have e3 : ((ofD (Go.Lib.compact (dl us) ++ List.replicate (us.length - (Go.Lib.compact (dl us)).length) [])).flatMap encStr).take ((Go.Lib.compact (dl us)).length * 1) = (ofD (Go.Lib.compact (dl us))).flatMap encStr := by
      unfold ofD
      rw [List.map_append, List.flatMap_append, List.take_append_of_le_length (by rw [flat_len encStr 1 encStr_len, List.length_map]; exact Nat.le_refl _)]
      exact List.take_of_length_le (by rw [flat_len encStr 1 encStr_len, List.length_map]; exact Nat.le_refl _)
    rw [e3] at p3
    have hol : (ofD (Go.Lib.compact (dl us))).length = (Go.Lib.compact (dl us)).length := ofD_len _
    refine ⟨by rw [hol], ?_⟩
    unfold rStr at hr
    rw [hol] at hr
    exact H.chgM hr p3 p2
end Go.Proofs.YtklmcbabpncfmaaDoor
