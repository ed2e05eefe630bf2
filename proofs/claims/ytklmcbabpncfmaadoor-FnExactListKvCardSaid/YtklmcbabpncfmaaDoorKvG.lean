/- Entries of a store found by their path: the reference's and the program's. No condition. -/
import Derived.Test.YtklmcbabpncfmaaDoorStoreA
import Derived.Test.YtklmcbabpncfmaaDoorKvP
import Derived.Test.YtklmcbabpncfmaaDoorBsEntry
import Derived.Test.YtklmcbabpncfmaaDoorSlice
import Derived.Test.YtklmcbabpncfmaaDoorShelf
import Derived.Lib.Bytealg
namespace Go.Proofs.YtklmcbabpncfmaaDoor
open Go.RowKit
set_option linter.unusedVariables false
set_option linter.unusedSimpArgs false
def hasP (s : ByteArray) (e : Entry) : Bool := eqB e.path s
def cmpP (a b : ByteArray) : Int := Lib.compareBytes a.data.toList b.data.toList
theorem cmpB_iff : ∀ a b : List UInt8, (Lib.compareBytes a b < 0 ↔ a < b) ∧ (Lib.compareBytes a b = 0 ↔ a = b)
  | [], [] => by simp [Lib.compareBytes]
  | [], _ :: _ => by simp [Lib.compareBytes]
  | _ :: _, [] => by simp [Lib.compareBytes]
  | x :: a, y :: b => by
    have ih := cmpB_iff a b
    rw [Lib.compareBytes, List.cons_lt_cons_iff, List.cons.injEq]
    by_cases h1 : x < y
    · have hne : x ≠ y := fun e => by subst e; exact absurd h1 (UInt8.lt_irrefl x)
      simp [h1, hne]
    · by_cases h2 : y < x
      · have hne : x ≠ y := fun e => by subst e; exact absurd h2 (UInt8.lt_irrefl x)
        simp [h1, h2, hne]
      · have he : x = y := UInt8.le_antisymm (UInt8.not_lt.1 h2) (UInt8.not_lt.1 h1)
        simp [he, ih.1, ih.2]
theorem cmpP_lt {a b : ByteArray} : cmpP a b < 0 ↔ ltS a b = true := by
  rw [ltS_lt, cmpP, (cmpB_iff _ _).1, ByteArray.toList_eq, ByteArray.toList_eq]
theorem cmpP_eq {a b : ByteArray} : cmpP a b = 0 ↔ a = b := by
  rw [cmpP, (cmpB_iff _ _).2]
  exact ⟨fun h => ByteArray.ext (Array.toList_inj.1 h), fun h => by rw [h]⟩
def cfE (s : ByteArray) (e : Entry) : Int := cmpP e.path s
theorem store_rises {es : List Entry} (h : storeOk es = true) : Rises (es.map (·.path)) := by
  intro i hi
  simp only [List.length_map] at hi
  simp only [storeOk, Bool.and_eq_true, entRise] at h
  have h1 := List.all_eq_true.1 h.2 (i + 1) (by simpa using hi)
  unfold entStep at h1
  rw [List.getElem?_eq_getElem hi, Nat.add_sub_cancel, List.getElem?_eq_getElem (by omega : i < es.length)] at h1
  simp at h1
  simpa using h1.2
theorem cfE_mono {us : List Entry} (hr : Rises (us.map (·.path))) (s : ByteArray) : ∀ a b (hb : b < us.length) (hab : a ≤ b), cfE s us[b] < 0 → cfE s (us[a]'(by omega)) < 0 := by
  intro a b hb hab h
  by_cases e : a = b
  · subst e; exact h
  · have := hr.lt (i := a) (j := b) (by simpa using hb) (by omega)
    simp only [List.getElem_map] at this
    exact cmpP_lt.2 (ltS_trans this (cmpP_lt.1 h))
theorem bsE_at {us : List Entry} (hr : Rises (us.map (·.path))) {s : ByteArray} {j : Nat} (hj : j < us.length) (he : us[j].path = s) : bsAt (cfE s) us = j ∧ bsHit (cfE s) us = true := by
  have h0 : bsAt (cfE s) us = j := by
    refine countP_edge _ us j (by omega) (fun t h ht => decide_eq_true ?_) (fun t h ht => decide_eq_false ?_)
    · have := hr.lt (i := t) (j := j) (by simpa using hj) ht
      simp only [List.getElem_map] at this
      exact cmpP_lt.2 (by rw [← he]; exact this)
    · intro hlt
      have h1 : ltS us[t].path s = true := cmpP_lt.1 hlt
      by_cases e : t = j
      · subst e; rw [he, ltS_irrefl] at h1; cases h1
      · have h2 := hr.lt (i := j) (j := t) (by simpa using h) (by omega)
        simp only [List.getElem_map] at h2
        rw [he] at h2
        rw [ltS_asymm h2] at h1
        cases h1
  refine ⟨h0, ?_⟩
  rw [bsHit, h0, List.getElem?_eq_getElem hj]
  exact decide_eq_true (cmpP_eq.2 he)
theorem bsE_miss {us : List Entry} {s : ByteArray} (h : ∀ u ∈ us, hasP s u = false) : bsHit (cfE s) us = false := by
  rw [bsHit]
  cases h1 : us[bsAt (cfE s) us]? with
  | none => rfl
  | some u =>
    have h2 := h u (List.mem_of_getElem? h1)
    refine decide_eq_false fun h3 => ?_
    rw [hasP, eqB_iff.2 (cmpP_eq.1 h3)] at h2
    cases h2
set_option maxHeartbeats 2000000 in
theorem l10At_any (A : Option Addr) (n c : Nat) (es : List Entry) (s : ByteArray) (w : World) (hr : Rd w w.heap.size 3 A n c (es.flatMap encEntry)) (hn : es.length = n) :
    Calls Tryd.prog 30 #[.agg #[.slice A n c], .string s] w fun e w' => e = .returned (.int .i64 (ixP (hasP s) es 0)) ∧ Below w.heap.size w w' := by
  have hc := hr.2.1
  have hm := hr.2.2.1
  unfold maxLen at hm
  have H := Hp.nil w
  go_enter Tryd.func30, Tryd.ntmps30
  go_wp2_with fail
  have HH := Lib.hid H; clear H
  go_loopw [5] (fun i wr => ∃ k : Nat, k ≤ n ∧ i = .int .i64 k ∧ Hid (ixP (hasP s) es 0 = ixP (hasP s) (es.drop k) k) ∧ Hid (Hp w wr [box w.heap.size 26 [.slice A n c]])) (fun i _ => n - (intOf i).toNat)
  case atStart =>
    have H := HH.out
    exact ⟨0, Nat.zero_le _, rfl, rfl, Lib.hid (by repeat (first | (with_reducible exact H) | (with_reducible apply Hp.alloc) | (with_reducible apply Hp.set) | (with_reducible apply Hp.drew) | (with_reducible apply Hp.drewN) | (with_reducible apply Hp.bytesW) | (with_reducible exact Upd.here) | (with_reducible exact Upd.hereR) | (with_reducible apply Upd.there) | (with_reducible apply Sz.alloc) | (with_reducible apply Sz.set) | (with_reducible apply Sz.drew) | (with_reducible apply Sz.drewN) | (with_reducible apply Sz.bytesW) | (with_reducible assumption) | (with_reducible exact Sz.base _)))⟩
  case round =>
    clear HH
    obtain ⟨k, hk, rfl, HE, HP⟩ := hrel
    have H := HP.out
    have F := H.facts; simp only [Facts, NeF, box, row, reg, cellsF, ne_eq, true_and, and_true, Nat.reduceAdd, Nat.zero_add] at F
    by_cases hlt : k < n
    · obtain ⟨b, off, rfl, hb⟩ := Rd.atV (enc := encEntry) hr hn encEntry_len (by omega)
      obtain ⟨c0, -, -⟩ := Rd.entAt hr hn (k := k) (by omega) rfl wr H.b
      have hk1 : (k : Int) < (n : Int) := by omega
      have hk0 : (0 : Int) ≤ (k : Int) := by omega
      have HK1 : Hid (k + 1 ≤ n ∧ n - (k + 1) < n - k) := ⟨by omega, by omega⟩
      cases he : hasP s (es[k]'(by omega)) with
      | true =>
        have HN : Hid (ixP (hasP s) es 0 = k) := by show _ = _; rw [HE.out, ixP_hit (by omega) he]
        unfold hasP eqB at he
        generalize (es[k]'(by omega)).path = t at *
        go_wp2_with fail
        go_ret
        exact ⟨by rw [HN.out]; rfl, Hp.b (by repeat (first | (with_reducible exact H) | (with_reducible apply Hp.alloc) | (with_reducible apply Hp.set) | (with_reducible apply Hp.drew) | (with_reducible apply Hp.drewN) | (with_reducible apply Hp.bytesW) | (with_reducible exact Upd.here) | (with_reducible exact Upd.hereR) | (with_reducible apply Upd.there) | (with_reducible apply Sz.alloc) | (with_reducible apply Sz.set) | (with_reducible apply Sz.drew) | (with_reducible apply Sz.drewN) | (with_reducible apply Sz.bytesW) | (with_reducible assumption) | (with_reducible exact Sz.base _)))⟩
      | false =>
        have HN : Hid (ixP (hasP s) es 0 = ixP (hasP s) (es.drop (k + 1)) (k + 1)) := by show _ = _; rw [HE.out, ixP_skip (by omega) he]
        unfold hasP eqB at he
        generalize (es[k]'(by omega)).path = t at *
        go_wp2_with fail
        go_roundw
        case rel => exact ⟨k + 1, HK1.out.1, by go_num, HN, Lib.hid (by repeat (first | (with_reducible exact H) | (with_reducible apply Hp.alloc) | (with_reducible apply Hp.set) | (with_reducible apply Hp.drew) | (with_reducible apply Hp.drewN) | (with_reducible apply Hp.bytesW) | (with_reducible exact Upd.here) | (with_reducible exact Upd.hereR) | (with_reducible apply Upd.there) | (with_reducible apply Sz.alloc) | (with_reducible apply Sz.set) | (with_reducible apply Sz.drew) | (with_reducible apply Sz.drewN) | (with_reducible apply Sz.bytesW) | (with_reducible assumption) | (with_reducible exact Sz.base _)))⟩
        case measure => have := HK1.out.2; simp [intOf]; omega
    · have HN : Hid (ixP (hasP s) es 0 = -1) := by
        show _ = _
        rw [HE.out, List.drop_eq_nil_of_le (by omega), ixP]
      go_wp2_with fail
      go_ret
      exact ⟨by rw [HN.out]; rfl, Hp.b (by repeat (first | (with_reducible exact H) | (with_reducible apply Hp.alloc) | (with_reducible apply Hp.set) | (with_reducible apply Hp.drew) | (with_reducible apply Hp.drewN) | (with_reducible apply Hp.bytesW) | (with_reducible exact Upd.here) | (with_reducible exact Upd.hereR) | (with_reducible apply Upd.there) | (with_reducible apply Sz.alloc) | (with_reducible apply Sz.set) | (with_reducible apply Sz.drew) | (with_reducible apply Sz.drewN) | (with_reducible apply Sz.bytesW) | (with_reducible assumption) | (with_reducible exact Sz.base _)))⟩
theorem entryIndex1_any (x : Entry) (s : ByteArray) (w : World) :
    Calls Tryd.prog 89 #[.agg #[.string x.path, .int .i64 x.first, .slice x.va x.vs.length x.vc], .string s] w fun e w' => e = .returned (.int .i64 (cfE s x)) ∧ Below w.heap.size w w' := by
  have H := Hp.nil w
  go_enter Tryd.func89, Tryd.ntmps89
  go_wp2_with (go_at_call 90; refine (Go.Proofs.Tryd.strings_Compare _ _ _).mono ?_; rintro e w' ⟨rfl, rfl⟩)
  go_ret
  exact ⟨rfl, Hp.b (by repeat (first | (with_reducible exact H) | (with_reducible apply Hp.alloc) | (with_reducible apply Hp.set) | (with_reducible apply Hp.drew) | (with_reducible apply Hp.drewN) | (with_reducible apply Hp.bytesW) | (with_reducible exact Upd.here) | (with_reducible exact Upd.hereR) | (with_reducible apply Upd.there) | (with_reducible apply Sz.alloc) | (with_reducible apply Sz.set) | (with_reducible apply Sz.drew) | (with_reducible apply Sz.drewN) | (with_reducible apply Sz.bytesW) | (with_reducible assumption) | (with_reducible exact Sz.base _)))⟩
set_option maxHeartbeats 1000000 in
theorem entryIndex_any (A : Option Addr) (n c : Nat) (es : List Entry) (s : ByteArray) (w : World) (hr : Rd w w.heap.size 3 A n c (es.flatMap encEntry)) (hn : es.length = n) (hb20 : n ≤ 1048576) (hri : Rises (es.map (·.path))) :
    Calls Tryd.prog 72 #[.agg #[.slice A n c], .string s] w fun e w' => e = .returned (.tuple #[.int .i64 (bsAt (cfE s) es : Nat), .bool (bsHit (cfE s) es)]) ∧ Below w.heap.size w w' := by
  have eg := enters_of (P := Tryd.prog) Tryd.func89 (by kernel_rfl) rfl
  have H := Hp.nil w
  go_enter Tryd.func72, Tryd.ntmps72
  go_wp2_with fail
  refine (bsEntry_any 89 #[] s (cfE s) eg A n c es _ (fun W x hb => entryIndex1_any x s W) (hr.grow (Hp.b (by repeat (first | (with_reducible exact H) | (with_reducible apply Hp.alloc) | (with_reducible apply Hp.set) | (with_reducible apply Hp.drew) | (with_reducible apply Hp.drewN) | (with_reducible apply Hp.bytesW) | (with_reducible exact Upd.here) | (with_reducible exact Upd.hereR) | (with_reducible apply Upd.there) | (with_reducible apply Sz.alloc) | (with_reducible apply Sz.set) | (with_reducible apply Sz.drew) | (with_reducible apply Sz.drewN) | (with_reducible apply Sz.bytesW) | (with_reducible assumption) | (with_reducible exact Sz.base _))))) hn hb20 (cfE_mono hri s)).mono ?_
  rintro e w1 ⟨rfl, q1⟩
  replace H := Hp.step (by repeat (first | (with_reducible exact H) | (with_reducible apply Hp.alloc) | (with_reducible apply Hp.set) | (with_reducible apply Hp.drew) | (with_reducible apply Hp.drewN) | (with_reducible apply Hp.bytesW) | (with_reducible exact Upd.here) | (with_reducible exact Upd.hereR) | (with_reducible apply Upd.there) | (with_reducible apply Sz.alloc) | (with_reducible apply Sz.set) | (with_reducible apply Sz.drew) | (with_reducible apply Sz.drewN) | (with_reducible apply Sz.bytesW) | (with_reducible assumption) | (with_reducible exact Sz.base _))) q1; (try simp only [List.set_cons_zero, List.set_cons_succ, List.cons_append, List.nil_append] at H); clear q1; have F := H.facts; simp only [Facts, NeF, box, row, reg, cellsF, ne_eq, true_and, and_true, Nat.reduceAdd, Nat.zero_add] at F
  go_wp2_with fail
  exact bodyPost_ret (v := .tuple #[.int .i64 (bsAt (cfE s) es : Nat), .bool (bsHit (cfE s) es)]) (by simp [results, Tryd.results72, go_sem]) rfl ⟨rfl, Hp.b (by repeat (first | (with_reducible exact H) | (with_reducible apply Hp.alloc) | (with_reducible apply Hp.set) | (with_reducible apply Hp.drew) | (with_reducible apply Hp.drewN) | (with_reducible apply Hp.bytesW) | (with_reducible exact Upd.here) | (with_reducible exact Upd.hereR) | (with_reducible apply Upd.there) | (with_reducible apply Sz.alloc) | (with_reducible apply Sz.set) | (with_reducible apply Sz.drew) | (with_reducible apply Sz.drewN) | (with_reducible apply Sz.bytesW) | (with_reducible assumption) | (with_reducible exact Sz.base _)))⟩
end Go.Proofs.YtklmcbabpncfmaaDoor
