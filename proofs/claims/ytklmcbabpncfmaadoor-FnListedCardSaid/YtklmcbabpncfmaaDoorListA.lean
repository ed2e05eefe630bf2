/- ListKv of the reference. No condition. -/
import Derived.Test.YtklmcbabpncfmaaDoorListP
import Derived.Test.YtklmcbabpncfmaaDoorKvH
import Derived.Deep.DeepCutAuto
namespace Go.Proofs.YtklmcbabpncfmaaDoor
open Go.RowKit
set_option linter.unusedVariables false
set_option linter.unusedSimpArgs false
/-- What ListKv answers. -/
def listR (es : List Entry) (p : ByteArray) : List ByteArray × Bool := if (storeOk es && prefF p) = true then (listS es p, true) else ([], false)
theorem names_snoc {es : List Entry} {k : Nat} (p : ByteArray) (hk : k < es.length) : namesS (es.take (k + 1)) p = namesS (es.take k) p ++ ((restS p es[k].path).map nameS).toList := by
  unfold namesS
  rw [List.take_add_one, List.getElem?_eq_getElem hk, List.filterMap_append]
  congr 1
theorem lists_snoc {es : List Entry} {k : Nat} (p : ByteArray) (hk : k < es.length) : listS (es.take (k + 1)) p = (match restS p es[k].path with | some r => putT (listS (es.take k) p) (nameS r) | none => listS (es.take k) p) := by
  unfold listS
  rw [names_snoc p hk, List.foldl_append]
  cases restS p es[k].path <;> rfl
theorem nil_size {p : ByteArray} : p.toList = [] ↔ p.size = 0 := by
  rw [toListB]
  constructor
  · intro h; have := congrArg List.length h; simpa using this
  · intro h; exact List.eq_nil_of_length_eq_zero (by simpa using h)
set_option maxHeartbeats 16000000 in
set_option maxRecDepth 10000 in
theorem specListKv_hp (A : Option Addr) (n c : Nat) (es : List Entry) (p : ByteArray) (ls : List ByteArray) (ok : Bool) (w : World) (hd : listR es p = (ls, ok)) (hr : Rd w w.heap.size 3 A n c (es.flatMap encEntry)) (hn : es.length = n) (hsz : ∀ u ∈ es, u.path.size ≤ maxLen) (hdd : ∀ u ∈ es, DE 0 w u) (hp9 : p.size ≤ maxLen) :
    Calls Tryd.prog 17 #[.agg #[.slice A n c], .string p] w fun e w' => ∃ A' c', e = .returned (.tuple #[.slice A' ls.length c', .bool ok]) ∧ Hp w w' [rStr A' c' ls] := by
  have hc := hr.2.1
  have hm := hr.2.2.1
  unfold maxLen at hm
  have H := Hp.nil w
  have HD := Lib.hid hd; clear hd
  cases h1 : storeOk es with
  | false =>
    have HE : Hid (([], false) = (ls, ok)) := by show _ = _; rw [← HD.out, listR, if_neg (by rw [h1]; simp)]
    go_enter Tryd.func17, Tryd.ntmps17
    go_wp2_with (go_at_call 35; refine (specStoreOk_any A n c es _ (hr.grow (Hp.b (by repeat (first | (with_reducible exact H) | (with_reducible apply Hp.alloc) | (with_reducible apply Hp.set) | (with_reducible apply Hp.drew) | (with_reducible apply Hp.drewN) | (with_reducible apply Hp.bytesW) | (with_reducible exact Upd.here) | (with_reducible exact Upd.hereR) | (with_reducible apply Upd.there) | (with_reducible apply Sz.alloc) | (with_reducible apply Sz.set) | (with_reducible apply Sz.drew) | (with_reducible apply Sz.drewN) | (with_reducible apply Sz.bytesW) | (with_reducible assumption) | (with_reducible exact Sz.base _))))) hn hsz (fun u hu => (hdd u hu).step (Hp.b (by repeat (first | (with_reducible exact H) | (with_reducible apply Hp.alloc) | (with_reducible apply Hp.set) | (with_reducible apply Hp.drew) | (with_reducible apply Hp.drewN) | (with_reducible apply Hp.bytesW) | (with_reducible exact Upd.here) | (with_reducible exact Upd.hereR) | (with_reducible apply Upd.there) | (with_reducible apply Sz.alloc) | (with_reducible apply Sz.set) | (with_reducible apply Sz.drew) | (with_reducible apply Sz.drewN) | (with_reducible apply Sz.bytesW) | (with_reducible assumption) | (with_reducible exact Sz.base _)))))).mono ?_; rintro e w0 ⟨rfl, q0⟩; rw [h1]; replace H := Hp.step (by repeat (first | (with_reducible exact H) | (with_reducible apply Hp.alloc) | (with_reducible apply Hp.set) | (with_reducible apply Hp.drew) | (with_reducible apply Hp.drewN) | (with_reducible apply Hp.bytesW) | (with_reducible exact Upd.here) | (with_reducible exact Upd.hereR) | (with_reducible apply Upd.there) | (with_reducible apply Sz.alloc) | (with_reducible apply Sz.set) | (with_reducible apply Sz.drew) | (with_reducible apply Sz.drewN) | (with_reducible apply Sz.bytesW) | (with_reducible assumption) | (with_reducible exact Sz.base _))) q0; (try simp only [List.set_cons_zero, List.set_cons_succ, List.cons_append, List.nil_append] at H); clear q0; have F := H.facts; simp only [Facts, NeF, box, row, reg, cellsF, rStr, ne_eq, true_and, and_true, Nat.reduceAdd, Nat.zero_add] at F)
    obtain ⟨rfl, rfl⟩ := Prod.mk.inj HE.out
    refine bodyPost_ret (v := .tuple #[.slice none 0 0, .bool false]) (by simp [results, Tryd.results17, go_sem]) rfl ⟨none, 0, rfl, Hp.cons_nilRow (Hp.ofBelow (Hp.b (by repeat (first | (with_reducible exact H) | (with_reducible apply Hp.alloc) | (with_reducible apply Hp.set) | (with_reducible apply Hp.drew) | (with_reducible apply Hp.drewN) | (with_reducible apply Hp.bytesW) | (with_reducible exact Upd.here) | (with_reducible exact Upd.hereR) | (with_reducible apply Upd.there) | (with_reducible apply Sz.alloc) | (with_reducible apply Sz.set) | (with_reducible apply Sz.drew) | (with_reducible apply Sz.drewN) | (with_reducible apply Sz.bytesW) | (with_reducible assumption) | (with_reducible exact Sz.base _))))) 9 1⟩
  | true =>
  cases h2 : prefF p with
  | false =>
    have HE : Hid (([], false) = (ls, ok)) := by show _ = _; rw [← HD.out, listR, if_neg (by rw [h1, h2]; simp)]
    have hp0 : ¬ p.size = 0 := by intro h; simp [prefF, h] at h2
    have hp1 : pathF p = false := by simpa [prefF, hp0] using h2
    have hp0d : p.toList.isEmpty = false := by rw [← Bool.not_eq_true, List.isEmpty_iff]; exact fun h => hp0 (nil_size.1 h)
    go_enter Tryd.func17, Tryd.ntmps17
    go_wp2_with (first | (go_at_call 35; refine (specStoreOk_any A n c es _ (hr.grow (Hp.b (by repeat (first | (with_reducible exact H) | (with_reducible apply Hp.alloc) | (with_reducible apply Hp.set) | (with_reducible apply Hp.drew) | (with_reducible apply Hp.drewN) | (with_reducible apply Hp.bytesW) | (with_reducible exact Upd.here) | (with_reducible exact Upd.hereR) | (with_reducible apply Upd.there) | (with_reducible apply Sz.alloc) | (with_reducible apply Sz.set) | (with_reducible apply Sz.drew) | (with_reducible apply Sz.drewN) | (with_reducible apply Sz.bytesW) | (with_reducible assumption) | (with_reducible exact Sz.base _))))) hn hsz (fun u hu => (hdd u hu).step (Hp.b (by repeat (first | (with_reducible exact H) | (with_reducible apply Hp.alloc) | (with_reducible apply Hp.set) | (with_reducible apply Hp.drew) | (with_reducible apply Hp.drewN) | (with_reducible apply Hp.bytesW) | (with_reducible exact Upd.here) | (with_reducible exact Upd.hereR) | (with_reducible apply Upd.there) | (with_reducible apply Sz.alloc) | (with_reducible apply Sz.set) | (with_reducible apply Sz.drew) | (with_reducible apply Sz.drewN) | (with_reducible apply Sz.bytesW) | (with_reducible assumption) | (with_reducible exact Sz.base _)))))).mono ?_; rintro e w0 ⟨rfl, q0⟩; rw [h1]; replace H := Hp.step (by repeat (first | (with_reducible exact H) | (with_reducible apply Hp.alloc) | (with_reducible apply Hp.set) | (with_reducible apply Hp.drew) | (with_reducible apply Hp.drewN) | (with_reducible apply Hp.bytesW) | (with_reducible exact Upd.here) | (with_reducible exact Upd.hereR) | (with_reducible apply Upd.there) | (with_reducible apply Sz.alloc) | (with_reducible apply Sz.set) | (with_reducible apply Sz.drew) | (with_reducible apply Sz.drewN) | (with_reducible apply Sz.bytesW) | (with_reducible assumption) | (with_reducible exact Sz.base _))) q0; (try simp only [List.set_cons_zero, List.set_cons_succ, List.cons_append, List.nil_append] at H); clear q0; have F := H.facts; simp only [Facts, NeF, box, row, reg, cellsF, rStr, ne_eq, true_and, and_true, Nat.reduceAdd, Nat.zero_add] at F) | (go_at_call 36; refine (PathOk_any p _ hp9).mono ?_; rintro e w0 ⟨rfl, q0⟩; rw [hp1]; replace H := Hp.step (by repeat (first | (with_reducible exact H) | (with_reducible apply Hp.alloc) | (with_reducible apply Hp.set) | (with_reducible apply Hp.drew) | (with_reducible apply Hp.drewN) | (with_reducible apply Hp.bytesW) | (with_reducible exact Upd.here) | (with_reducible exact Upd.hereR) | (with_reducible apply Upd.there) | (with_reducible apply Sz.alloc) | (with_reducible apply Sz.set) | (with_reducible apply Sz.drew) | (with_reducible apply Sz.drewN) | (with_reducible apply Sz.bytesW) | (with_reducible assumption) | (with_reducible exact Sz.base _))) q0; (try simp only [List.set_cons_zero, List.set_cons_succ, List.cons_append, List.nil_append] at H); clear q0; (try clear F); have F := H.facts; simp only [Facts, NeF, box, row, reg, cellsF, rStr, ne_eq, true_and, and_true, Nat.reduceAdd, Nat.zero_add] at F))
    obtain ⟨rfl, rfl⟩ := Prod.mk.inj HE.out
    refine bodyPost_ret (v := .tuple #[.slice none 0 0, .bool false]) (by simp [results, Tryd.results17, go_sem]) rfl ⟨none, 0, rfl, Hp.cons_nilRow (Hp.ofBelow (Hp.b (by repeat (first | (with_reducible exact H) | (with_reducible apply Hp.alloc) | (with_reducible apply Hp.set) | (with_reducible apply Hp.drew) | (with_reducible apply Hp.drewN) | (with_reducible apply Hp.bytesW) | (with_reducible exact Upd.here) | (with_reducible exact Upd.hereR) | (with_reducible apply Upd.there) | (with_reducible apply Sz.alloc) | (with_reducible apply Sz.set) | (with_reducible apply Sz.drew) | (with_reducible apply Sz.drewN) | (with_reducible apply Sz.bytesW) | (with_reducible assumption) | (with_reducible exact Sz.base _))))) 9 1⟩
  | true =>
  have HE : Hid (listS es p = ls ∧ true = ok) := by
    have := HD.out
    rw [listR, if_pos (by rw [h1, h2]; rfl)] at this
    exact Prod.mk.inj this
  clear HD
  obtain ⟨rfl, rfl⟩ := HE.out
  clear HE
  obtain ⟨h60', hok⟩ := ok_entry h1
  have h60 : n ≤ 60 := by omega
  have HOK : Hid (∀ u ∈ es, u.path.size ≤ 120) := fun u hu => (hok u hu).1
  clear hok h60'
  have hp120 : p.size ≤ 120 := by
    by_cases h0 : p.size = 0
    · omega
    · exact path_short (by simpa [prefF, h0] using h2)
  by_cases hp0 : p.size = 0
  · have hp0d : p.toList.isEmpty = true := by rw [List.isEmpty_iff]; exact nil_size.2 hp0
    go_enter Tryd.func17, Tryd.ntmps17
    go_wp2_with (first | (go_at_call 35; refine (specStoreOk_any A n c es _ (hr.grow (Hp.b (by repeat (first | (with_reducible exact H) | (with_reducible apply Hp.alloc) | (with_reducible apply Hp.set) | (with_reducible apply Hp.drew) | (with_reducible apply Hp.drewN) | (with_reducible apply Hp.bytesW) | (with_reducible exact Upd.here) | (with_reducible exact Upd.hereR) | (with_reducible apply Upd.there) | (with_reducible apply Sz.alloc) | (with_reducible apply Sz.set) | (with_reducible apply Sz.drew) | (with_reducible apply Sz.drewN) | (with_reducible apply Sz.bytesW) | (with_reducible assumption) | (with_reducible exact Sz.base _))))) hn hsz (fun u hu => (hdd u hu).step (Hp.b (by repeat (first | (with_reducible exact H) | (with_reducible apply Hp.alloc) | (with_reducible apply Hp.set) | (with_reducible apply Hp.drew) | (with_reducible apply Hp.drewN) | (with_reducible apply Hp.bytesW) | (with_reducible exact Upd.here) | (with_reducible exact Upd.hereR) | (with_reducible apply Upd.there) | (with_reducible apply Sz.alloc) | (with_reducible apply Sz.set) | (with_reducible apply Sz.drew) | (with_reducible apply Sz.drewN) | (with_reducible apply Sz.bytesW) | (with_reducible assumption) | (with_reducible exact Sz.base _)))))).mono ?_; rintro e w0 ⟨rfl, q0⟩; rw [h1]; replace H := Hp.step (by repeat (first | (with_reducible exact H) | (with_reducible apply Hp.alloc) | (with_reducible apply Hp.set) | (with_reducible apply Hp.drew) | (with_reducible apply Hp.drewN) | (with_reducible apply Hp.bytesW) | (with_reducible exact Upd.here) | (with_reducible exact Upd.hereR) | (with_reducible apply Upd.there) | (with_reducible apply Sz.alloc) | (with_reducible apply Sz.set) | (with_reducible apply Sz.drew) | (with_reducible apply Sz.drewN) | (with_reducible apply Sz.bytesW) | (with_reducible assumption) | (with_reducible exact Sz.base _))) q0; (try simp only [List.set_cons_zero, List.set_cons_succ, List.cons_append, List.nil_append] at H); clear q0; have F := H.facts; simp only [Facts, NeF, box, row, reg, cellsF, rStr, ne_eq, true_and, and_true, Nat.reduceAdd, Nat.zero_add] at F))
    have HH := Lib.hid H; clear H F
    go_loopw [7, 6, 8, 9, 10] (fun i s s8 s9 s10 wr => ∃ k : Nat, k ≤ n ∧ i = .int .i64 k ∧ ∃ (A' : Option Addr) (c' : Nat) (ts : List ByteArray), s = .slice A' ts.length c' ∧ Hid (ts = listS (es.take k) p) ∧ Hid (Hp w wr [rStr A' c' ts, box w.heap.size 26 [.slice A n c]])) (fun i _ _ _ _ _ => n - (intOf i).toNat)
    case atStart =>
      have H := HH.out
      exact ⟨0, Nat.zero_le _, rfl, some ⟨w.heap.size + 1, 0, none⟩, 0, [], rfl, by show _ = _; rfl, Lib.hid (Hp.into (by repeat (first | (with_reducible exact H) | (with_reducible apply Hp.alloc) | (with_reducible apply Hp.set) | (with_reducible apply Hp.drew) | (with_reducible apply Hp.drewN) | (with_reducible apply Hp.bytesW) | (with_reducible exact Upd.here) | (with_reducible exact Upd.hereR) | (with_reducible apply Upd.there) | (with_reducible apply Sz.alloc) | (with_reducible apply Sz.set) | (with_reducible apply Sz.drew) | (with_reducible apply Sz.drewN) | (with_reducible apply Sz.bytesW) | (with_reducible assumption) | (with_reducible exact Sz.base _))) Hp.boxNilS)⟩
    case round =>
      clear HH
      obtain ⟨k, hk, rfl, A', c', ts, rfl, HT, HP⟩ := hrel
      have H := HP.out
      have F := H.facts; simp only [Facts, NeF, box, row, reg, cellsF, rStr, ne_eq, true_and, and_true, Nat.reduceAdd, Nat.zero_add] at F
      by_cases hlt : k < n
      · obtain ⟨b, off, rfl, hb⟩ := Rd.atV (enc := encEntry) hr hn encEntry_len (by omega)
        obtain ⟨c0, -, -⟩ := Rd.entAt hr hn (k := k) (by omega) rfl wr H.b
        have hk1 : (k : Int) < (n : Int) := by omega
        have hk0 : (0 : Int) ≤ (k : Int) := by omega
        have HK1 : Hid (k + 1 ≤ n ∧ n - (k + 1) < n - k) := ⟨by omega, by omega⟩
        have hu : (es[k]'(by omega)).path.size ≤ 120 := HOK.out _ (List.getElem_mem _)
        have HS := Lib.hid (lists_snoc p (show k < es.length by omega))
        generalize (es[k]'(by omega)).path = q at *
        have HR : Hid (restS p q = some q) := by show _ = _; rw [restS, if_pos hp0]
        have HS2 : listS (es.take (k + 1)) p = putT ts (nameS q) := by rw [HS.out, HR.out, HT.out]
        go_wp2_with fail
        refine (l01Parts_hp q 47 _ (by omega)).mono ?_
        rintro e w1 ⟨B, d, rfl, h1⟩
        replace H := Hp.call (by repeat (first | (with_reducible exact H) | (with_reducible apply Hp.alloc) | (with_reducible apply Hp.set) | (with_reducible apply Hp.drew) | (with_reducible apply Hp.drewN) | (with_reducible apply Hp.bytesW) | (with_reducible exact Upd.here) | (with_reducible exact Upd.hereR) | (with_reducible apply Upd.there) | (with_reducible apply Sz.alloc) | (with_reducible apply Sz.set) | (with_reducible apply Sz.drew) | (with_reducible apply Sz.drewN) | (with_reducible apply Sz.bytesW) | (with_reducible assumption) | (with_reducible exact Sz.base _))) h1; (try simp only [List.set_cons_zero, List.set_cons_succ, List.cons_append, List.nil_append] at H); clear h1 F; have F := H.facts; simp only [Facts, NeF, box, row, reg, cellsF, rStr, ne_eq, true_and, and_true, Nat.reduceAdd, Nat.zero_add] at F
        have hpos := segsC_pos 47 q
        have hle := segsC_len 47 q
        obtain ⟨g5, rfl⟩ := rowGm (H.rowM (t := 9) (k := 1) (v := .slice B (segsC 47 q).length d) (n := (segsC 47 q).length) (xs := (segsC 47 q).flatMap encStr) (show rStr B d (segsC 47 q) ∈ _ from (by repeat (first | (with_reducible exact List.mem_cons_self) | (with_reducible apply List.mem_cons_of_mem))))) (by omega)
        have c9 := own_at (j := 0) (v := .string (headS q)) (H.rowM (t := 9) (k := 1) (v := .slice (some ⟨g5, 0, none⟩) (segsC 47 q).length d) (n := (segsC 47 q).length) (xs := (segsC 47 q).flatMap encStr) (show rStr (some ⟨g5, 0, none⟩) d (segsC 47 q) ∈ _ from (by repeat (first | (with_reducible exact List.mem_cons_self) | (with_reducible apply List.mem_cons_of_mem))))) (by
          have h9 := flat_get encStr 1 encStr_len (segsC 47 q) 0 0 (by omega)
          rw [Nat.zero_mul, Nat.add_zero, List.getElem?_eq_getElem hpos] at h9
          exact h9)
        have hhs : (headS q).size ≤ 120 := by
          have := segsC_size (c := 47) (s := q) (p := headS q) (List.getElem_mem _); omega
        have HNS : Hid (nameS q = if 1 < (segsC 47 q).length then headS q ++ ⟨#[47]⟩ else headS q) := by show _ = _; rfl
        have hsl : (segsC 47 q).length ≤ 130 := by omega
        have htl : ts.length ≤ 60 := by
          have h9 := list_len (es.take k) p
          rw [← HT.out, List.length_take] at h9; omega
        generalize (segsC 47 q).length = m at *
        generalize headS q = hd at *
        by_cases hm1 : 1 < m
        · have hm2 : decide ((m : Int) > 1) = true := decide_eq_true (by omega)
          have HN2 : Hid (nameS q = hd ++ ⟨#[47]⟩) := by show _ = _; rw [HNS.out, if_pos hm1]
          rw [HN2.out] at HS2
          go_wp2_with fail
          refine (l10Put_hp A' ts.length c' ts _ _ (Hp.rdM (by repeat (first | (with_reducible exact H) | (with_reducible apply Hp.alloc) | (with_reducible apply Hp.set) | (with_reducible apply Hp.drew) | (with_reducible apply Hp.drewN) | (with_reducible apply Hp.bytesW) | (with_reducible exact Upd.here) | (with_reducible exact Upd.hereR) | (with_reducible apply Upd.there) | (with_reducible apply Sz.alloc) | (with_reducible apply Sz.set) | (with_reducible apply Sz.drew) | (with_reducible apply Sz.drewN) | (with_reducible apply Sz.bytesW) | (with_reducible assumption) | (with_reducible exact Sz.base _))) (by repeat (first | (with_reducible exact List.mem_cons_self) | (with_reducible apply List.mem_cons_of_mem)))) rfl (by omega)).mono ?_
          rintro e w2 ⟨B2, d2, rfl, h2⟩
          replace H := Hp.call (by repeat (first | (with_reducible exact H) | (with_reducible apply Hp.alloc) | (with_reducible apply Hp.set) | (with_reducible apply Hp.drew) | (with_reducible apply Hp.drewN) | (with_reducible apply Hp.bytesW) | (with_reducible exact Upd.here) | (with_reducible exact Upd.hereR) | (with_reducible apply Upd.there) | (with_reducible apply Sz.alloc) | (with_reducible apply Sz.set) | (with_reducible apply Sz.drew) | (with_reducible apply Sz.drewN) | (with_reducible apply Sz.bytesW) | (with_reducible assumption) | (with_reducible exact Sz.base _))) h2; (try simp only [List.set_cons_zero, List.set_cons_succ, List.cons_append, List.nil_append] at H); clear h2 F; have F := H.facts; simp only [Facts, NeF, box, row, reg, cellsF, rStr, ne_eq, true_and, and_true, Nat.reduceAdd, Nat.zero_add] at F
          go_wp2_with fail
          go_roundw
          case rel => exact ⟨k + 1, HK1.out.1, by go_num, B2, d2, _, rfl, HS2.symm, Lib.hid (by refine Hp.sel (by repeat (first | (with_reducible exact H) | (with_reducible apply Hp.alloc) | (with_reducible apply Hp.set) | (with_reducible apply Hp.drew) | (with_reducible apply Hp.drewN) | (with_reducible apply Hp.bytesW) | (with_reducible exact Upd.here) | (with_reducible exact Upd.hereR) | (with_reducible apply Upd.there) | (with_reducible apply Sz.alloc) | (with_reducible apply Sz.set) | (with_reducible apply Sz.drew) | (with_reducible apply Sz.drewN) | (with_reducible apply Sz.bytesW) | (with_reducible assumption) | (with_reducible exact Sz.base _))) ?_; (try simp only [List.set_cons_zero, List.set_cons_succ]); exact (by repeat (first | (with_reducible exact Sel.nil) | (with_reducible apply Sel.cons) | (with_reducible exact Del.here) | (with_reducible apply Del.there))))⟩
          case measure => have := HK1.out.2; simp [intOf]; omega
        · have hm2 : decide ((m : Int) > 1) = false := decide_eq_false (by omega)
          have HN2 : Hid (nameS q = hd) := by show _ = _; rw [HNS.out, if_neg hm1]
          rw [HN2.out] at HS2
          go_wp2_with fail
          refine (l10Put_hp A' ts.length c' ts _ _ (Hp.rdM (by repeat (first | (with_reducible exact H) | (with_reducible apply Hp.alloc) | (with_reducible apply Hp.set) | (with_reducible apply Hp.drew) | (with_reducible apply Hp.drewN) | (with_reducible apply Hp.bytesW) | (with_reducible exact Upd.here) | (with_reducible exact Upd.hereR) | (with_reducible apply Upd.there) | (with_reducible apply Sz.alloc) | (with_reducible apply Sz.set) | (with_reducible apply Sz.drew) | (with_reducible apply Sz.drewN) | (with_reducible apply Sz.bytesW) | (with_reducible assumption) | (with_reducible exact Sz.base _))) (by repeat (first | (with_reducible exact List.mem_cons_self) | (with_reducible apply List.mem_cons_of_mem)))) rfl (by omega)).mono ?_
          rintro e w2 ⟨B2, d2, rfl, h2⟩
          replace H := Hp.call (by repeat (first | (with_reducible exact H) | (with_reducible apply Hp.alloc) | (with_reducible apply Hp.set) | (with_reducible apply Hp.drew) | (with_reducible apply Hp.drewN) | (with_reducible apply Hp.bytesW) | (with_reducible exact Upd.here) | (with_reducible exact Upd.hereR) | (with_reducible apply Upd.there) | (with_reducible apply Sz.alloc) | (with_reducible apply Sz.set) | (with_reducible apply Sz.drew) | (with_reducible apply Sz.drewN) | (with_reducible apply Sz.bytesW) | (with_reducible assumption) | (with_reducible exact Sz.base _))) h2; (try simp only [List.set_cons_zero, List.set_cons_succ, List.cons_append, List.nil_append] at H); clear h2 F; have F := H.facts; simp only [Facts, NeF, box, row, reg, cellsF, rStr, ne_eq, true_and, and_true, Nat.reduceAdd, Nat.zero_add] at F
          go_wp2_with fail
          go_roundw
          case rel => exact ⟨k + 1, HK1.out.1, by go_num, B2, d2, _, rfl, HS2.symm, Lib.hid (by refine Hp.sel (by repeat (first | (with_reducible exact H) | (with_reducible apply Hp.alloc) | (with_reducible apply Hp.set) | (with_reducible apply Hp.drew) | (with_reducible apply Hp.drewN) | (with_reducible apply Hp.bytesW) | (with_reducible exact Upd.here) | (with_reducible exact Upd.hereR) | (with_reducible apply Upd.there) | (with_reducible apply Sz.alloc) | (with_reducible apply Sz.set) | (with_reducible apply Sz.drew) | (with_reducible apply Sz.drewN) | (with_reducible apply Sz.bytesW) | (with_reducible assumption) | (with_reducible exact Sz.base _))) ?_; (try simp only [List.set_cons_zero, List.set_cons_succ]); exact (by repeat (first | (with_reducible exact Sel.nil) | (with_reducible apply Sel.cons) | (with_reducible exact Del.here) | (with_reducible apply Del.there))))⟩
          case measure => have := HK1.out.2; simp [intOf]; omega
      ·
        have hk1 : ¬ (k : Int) < (n : Int) := by omega
        have HT2 : Hid (ts = listS es p) := by show _ = _; rw [HT.out, List.take_of_length_le (by omega)]
        go_wp2_with fail
        refine bodyPost_ret (v := .tuple #[.slice A' ts.length c', .bool true]) (by simp [results, Tryd.results17, go_sem]) rfl ⟨A', c', by rw [← HT2.out], by rw [← HT2.out]; exact (by refine Hp.sel (by repeat (first | (with_reducible exact H) | (with_reducible apply Hp.alloc) | (with_reducible apply Hp.set) | (with_reducible apply Hp.drew) | (with_reducible apply Hp.drewN) | (with_reducible apply Hp.bytesW) | (with_reducible exact Upd.here) | (with_reducible exact Upd.hereR) | (with_reducible apply Upd.there) | (with_reducible apply Sz.alloc) | (with_reducible apply Sz.set) | (with_reducible apply Sz.drew) | (with_reducible apply Sz.drewN) | (with_reducible apply Sz.bytesW) | (with_reducible assumption) | (with_reducible exact Sz.base _))) ?_; (try simp only [List.set_cons_zero, List.set_cons_succ]); exact (by repeat (first | (with_reducible exact Sel.nil) | (with_reducible apply Sel.cons) | (with_reducible exact Del.here) | (with_reducible apply Del.there))))⟩
  · have hp0d : p.toList.isEmpty = false := by rw [← Bool.not_eq_true, List.isEmpty_iff]; exact fun h => hp0 (nil_size.1 h)
    have hp1 : pathF p = true := by simpa [prefF, hp0] using h2
    have HPA : Hid (∀ u ∈ es, pathF u.path = true) := fun u hu => by
      have h9 := (storeOk_iff.1 h1).2.1 u hu
      simp only [entOk, Bool.and_eq_true] at h9; exact h9.1
    go_enter Tryd.func17, Tryd.ntmps17
    go_wp2_with (first | (go_at_call 36; refine (PathOk_any p _ hp9).mono ?_; rintro e w0 ⟨rfl, q0⟩; rw [hp1]; replace H := Hp.step (by repeat (first | (with_reducible exact H) | (with_reducible apply Hp.alloc) | (with_reducible apply Hp.set) | (with_reducible apply Hp.drew) | (with_reducible apply Hp.drewN) | (with_reducible apply Hp.bytesW) | (with_reducible exact Upd.here) | (with_reducible exact Upd.hereR) | (with_reducible apply Upd.there) | (with_reducible apply Sz.alloc) | (with_reducible apply Sz.set) | (with_reducible apply Sz.drew) | (with_reducible apply Sz.drewN) | (with_reducible apply Sz.bytesW) | (with_reducible assumption) | (with_reducible exact Sz.base _))) q0; (try simp only [List.set_cons_zero, List.set_cons_succ, List.cons_append, List.nil_append] at H); clear q0; (try clear F); have F := H.facts; simp only [Facts, NeF, box, row, reg, cellsF, rStr, ne_eq, true_and, and_true, Nat.reduceAdd, Nat.zero_add] at F) | (go_at_call 35; refine (specStoreOk_any A n c es _ (hr.grow (Hp.b (by repeat (first | (with_reducible exact H) | (with_reducible apply Hp.alloc) | (with_reducible apply Hp.set) | (with_reducible apply Hp.drew) | (with_reducible apply Hp.drewN) | (with_reducible apply Hp.bytesW) | (with_reducible exact Upd.here) | (with_reducible exact Upd.hereR) | (with_reducible apply Upd.there) | (with_reducible apply Sz.alloc) | (with_reducible apply Sz.set) | (with_reducible apply Sz.drew) | (with_reducible apply Sz.drewN) | (with_reducible apply Sz.bytesW) | (with_reducible assumption) | (with_reducible exact Sz.base _))))) hn hsz (fun u hu => (hdd u hu).step (Hp.b (by repeat (first | (with_reducible exact H) | (with_reducible apply Hp.alloc) | (with_reducible apply Hp.set) | (with_reducible apply Hp.drew) | (with_reducible apply Hp.drewN) | (with_reducible apply Hp.bytesW) | (with_reducible exact Upd.here) | (with_reducible exact Upd.hereR) | (with_reducible apply Upd.there) | (with_reducible apply Sz.alloc) | (with_reducible apply Sz.set) | (with_reducible apply Sz.drew) | (with_reducible apply Sz.drewN) | (with_reducible apply Sz.bytesW) | (with_reducible assumption) | (with_reducible exact Sz.base _)))))).mono ?_; rintro e w0 ⟨rfl, q0⟩; rw [h1]; replace H := Hp.step (by repeat (first | (with_reducible exact H) | (with_reducible apply Hp.alloc) | (with_reducible apply Hp.set) | (with_reducible apply Hp.drew) | (with_reducible apply Hp.drewN) | (with_reducible apply Hp.bytesW) | (with_reducible exact Upd.here) | (with_reducible exact Upd.hereR) | (with_reducible apply Upd.there) | (with_reducible apply Sz.alloc) | (with_reducible apply Sz.set) | (with_reducible apply Sz.drew) | (with_reducible apply Sz.drewN) | (with_reducible apply Sz.bytesW) | (with_reducible assumption) | (with_reducible exact Sz.base _))) q0; (try simp only [List.set_cons_zero, List.set_cons_succ, List.cons_append, List.nil_append] at H); clear q0; have F := H.facts; simp only [Facts, NeF, box, row, reg, cellsF, rStr, ne_eq, true_and, and_true, Nat.reduceAdd, Nat.zero_add] at F))
    have HH := Lib.hid H; clear H F
    go_loopw [7, 6, 8, 9, 10] (fun i s s8 s9 s10 wr => ∃ k : Nat, k ≤ n ∧ i = .int .i64 k ∧ ∃ (A' : Option Addr) (c' : Nat) (ts : List ByteArray), s = .slice A' ts.length c' ∧ Hid (ts = listS (es.take k) p) ∧ Hid (Hp w wr [rStr A' c' ts, box w.heap.size 26 [.slice A n c]])) (fun i _ _ _ _ _ => n - (intOf i).toNat)
    case atStart =>
      have H := HH.out
      exact ⟨0, Nat.zero_le _, rfl, some ⟨w.heap.size + 1, 0, none⟩, 0, [], rfl, by show _ = _; rfl, Lib.hid (Hp.into (by repeat (first | (with_reducible exact H) | (with_reducible apply Hp.alloc) | (with_reducible apply Hp.set) | (with_reducible apply Hp.drew) | (with_reducible apply Hp.drewN) | (with_reducible apply Hp.bytesW) | (with_reducible exact Upd.here) | (with_reducible exact Upd.hereR) | (with_reducible apply Upd.there) | (with_reducible apply Sz.alloc) | (with_reducible apply Sz.set) | (with_reducible apply Sz.drew) | (with_reducible apply Sz.drewN) | (with_reducible apply Sz.bytesW) | (with_reducible assumption) | (with_reducible exact Sz.base _))) Hp.boxNilS)⟩
    case round =>
      clear HH
      obtain ⟨k, hk, rfl, A', c', ts, rfl, HT, HP⟩ := hrel
      have H := HP.out
      have F := H.facts; simp only [Facts, NeF, box, row, reg, cellsF, rStr, ne_eq, true_and, and_true, Nat.reduceAdd, Nat.zero_add] at F
      by_cases hlt : k < n
      · obtain ⟨b, off, rfl, hb⟩ := Rd.atV (enc := encEntry) hr hn encEntry_len (by omega)
        obtain ⟨c0, -, -⟩ := Rd.entAt hr hn (k := k) (by omega) rfl wr H.b
        have hk1 : (k : Int) < (n : Int) := by omega
        have hk0 : (0 : Int) ≤ (k : Int) := by omega
        have HK1 : Hid (k + 1 ≤ n ∧ n - (k + 1) < n - k) := ⟨by omega, by omega⟩
        have hu : (es[k]'(by omega)).path.size ≤ 120 := HOK.out _ (List.getElem_mem _)
        have HS := Lib.hid (lists_snoc p (show k < es.length by omega))
        have htp : pathF (es[k]'(by omega)).path = true := HPA.out _ (List.getElem_mem _)
        generalize (es[k]'(by omega)).path = t at *
        have hum := specUnder_any p t
        cases hund : underF p t with
        | false =>
          have HR : Hid (restS p t = none) := by show _ = _; rw [restS, if_neg hp0, hund, if_neg (by simp)]
          have HS2 : listS (es.take (k + 1)) p = ts := by rw [HS.out, HR.out, HT.out]
          go_wp2_with (go_at_call 50; refine (hum _ hp9 (by unfold maxLen; omega)).mono ?_; rintro e w3 ⟨rfl, q3⟩; rw [hund]; replace H := Hp.step (by repeat (first | (with_reducible exact H) | (with_reducible apply Hp.alloc) | (with_reducible apply Hp.set) | (with_reducible apply Hp.drew) | (with_reducible apply Hp.drewN) | (with_reducible apply Hp.bytesW) | (with_reducible exact Upd.here) | (with_reducible exact Upd.hereR) | (with_reducible apply Upd.there) | (with_reducible apply Sz.alloc) | (with_reducible apply Sz.set) | (with_reducible apply Sz.drew) | (with_reducible apply Sz.drewN) | (with_reducible apply Sz.bytesW) | (with_reducible assumption) | (with_reducible exact Sz.base _))) q3; (try simp only [List.set_cons_zero, List.set_cons_succ, List.cons_append, List.nil_append] at H); clear q3 F; have F := H.facts; simp only [Facts, NeF, box, row, reg, cellsF, rStr, ne_eq, true_and, and_true, Nat.reduceAdd, Nat.zero_add] at F)
          go_roundw
          case rel => exact ⟨k + 1, HK1.out.1, by go_num, A', c', ts, rfl, HS2.symm, Lib.hid (by refine Hp.sel (by repeat (first | (with_reducible exact H) | (with_reducible apply Hp.alloc) | (with_reducible apply Hp.set) | (with_reducible apply Hp.drew) | (with_reducible apply Hp.drewN) | (with_reducible apply Hp.bytesW) | (with_reducible exact Upd.here) | (with_reducible exact Upd.hereR) | (with_reducible apply Upd.there) | (with_reducible apply Sz.alloc) | (with_reducible apply Sz.set) | (with_reducible apply Sz.drew) | (with_reducible apply Sz.drewN) | (with_reducible apply Sz.bytesW) | (with_reducible assumption) | (with_reducible exact Sz.base _))) ?_; (try simp only [List.set_cons_zero, List.set_cons_succ]); exact (by repeat (first | (with_reducible exact Sel.nil) | (with_reducible apply Sel.cons) | (with_reducible exact Del.here) | (with_reducible apply Del.there))))⟩
          case measure => have := HK1.out.2; simp [intOf]; omega
        | true =>
        cases heq : eqB t p with
        | true =>
          have HR : Hid (restS p t = none) := by show _ = _; rw [restS, if_neg hp0, hund, heq, if_neg (by simp)]
          have HS2 : listS (es.take (k + 1)) p = ts := by rw [HS.out, HR.out, HT.out]
          unfold eqB at heq
          go_wp2_with (go_at_call 50; refine (hum _ hp9 (by unfold maxLen; omega)).mono ?_; rintro e w3 ⟨rfl, q3⟩; rw [hund]; replace H := Hp.step (by repeat (first | (with_reducible exact H) | (with_reducible apply Hp.alloc) | (with_reducible apply Hp.set) | (with_reducible apply Hp.drew) | (with_reducible apply Hp.drewN) | (with_reducible apply Hp.bytesW) | (with_reducible exact Upd.here) | (with_reducible exact Upd.hereR) | (with_reducible apply Upd.there) | (with_reducible apply Sz.alloc) | (with_reducible apply Sz.set) | (with_reducible apply Sz.drew) | (with_reducible apply Sz.drewN) | (with_reducible apply Sz.bytesW) | (with_reducible assumption) | (with_reducible exact Sz.base _))) q3; (try simp only [List.set_cons_zero, List.set_cons_succ, List.cons_append, List.nil_append] at H); clear q3 F; have F := H.facts; simp only [Facts, NeF, box, row, reg, cellsF, rStr, ne_eq, true_and, and_true, Nat.reduceAdd, Nat.zero_add] at F)
          go_roundw
          case rel => exact ⟨k + 1, HK1.out.1, by go_num, A', c', ts, rfl, HS2.symm, Lib.hid (by refine Hp.sel (by repeat (first | (with_reducible exact H) | (with_reducible apply Hp.alloc) | (with_reducible apply Hp.set) | (with_reducible apply Hp.drew) | (with_reducible apply Hp.drewN) | (with_reducible apply Hp.bytesW) | (with_reducible exact Upd.here) | (with_reducible exact Upd.hereR) | (with_reducible apply Upd.there) | (with_reducible apply Sz.alloc) | (with_reducible apply Sz.set) | (with_reducible apply Sz.drew) | (with_reducible apply Sz.drewN) | (with_reducible apply Sz.bytesW) | (with_reducible assumption) | (with_reducible exact Sz.base _))) ?_; (try simp only [List.set_cons_zero, List.set_cons_succ]); exact (by repeat (first | (with_reducible exact Sel.nil) | (with_reducible apply Sel.cons) | (with_reducible exact Del.here) | (with_reducible apply Del.there))))⟩
          case measure => have := HK1.out.2; simp [intOf]; omega
        | false =>
          obtain ⟨q, hq⟩ : ∃ q, t.extract (p.size + 1) t.size = q := ⟨_, rfl⟩
          have HR : Hid (restS p t = some q) := by show _ = _; rw [restS, if_neg hp0, hund, heq, if_pos (by simp), hq]
          have HS2 : listS (es.take (k + 1)) p = putT ts (nameS q) := by rw [HS.out, HR.out, HT.out]
          have hsz9 : p.size + 1 ≤ t.size := by
            rcases (under_prop hp1 htp).1 hund with h9 | ⟨h9, -, -⟩
            · rw [eqB, h9] at heq; simp at heq
            · omega
          unfold eqB at heq
          have hlen2 : q.size ≤ 120 := by rw [← hq]; simp; omega
          go_wp2_with (go_at_call 50; refine (hum _ hp9 (by unfold maxLen; omega)).mono ?_; rintro e w3 ⟨rfl, q3⟩; rw [hund]; replace H := Hp.step (by repeat (first | (with_reducible exact H) | (with_reducible apply Hp.alloc) | (with_reducible apply Hp.set) | (with_reducible apply Hp.drew) | (with_reducible apply Hp.drewN) | (with_reducible apply Hp.bytesW) | (with_reducible exact Upd.here) | (with_reducible exact Upd.hereR) | (with_reducible apply Upd.there) | (with_reducible apply Sz.alloc) | (with_reducible apply Sz.set) | (with_reducible apply Sz.drew) | (with_reducible apply Sz.drewN) | (with_reducible apply Sz.bytesW) | (with_reducible assumption) | (with_reducible exact Sz.base _))) q3; (try simp only [List.set_cons_zero, List.set_cons_succ, List.cons_append, List.nil_append] at H); clear q3 F; have F := H.facts; simp only [Facts, NeF, box, row, reg, cellsF, rStr, ne_eq, true_and, and_true, Nat.reduceAdd, Nat.zero_add] at F)
          refine (l01Parts_hp q 47 _ (by omega)).mono ?_
          rintro e w1 ⟨B, d, rfl, h1⟩
          replace H := Hp.call (by repeat (first | (with_reducible exact H) | (with_reducible apply Hp.alloc) | (with_reducible apply Hp.set) | (with_reducible apply Hp.drew) | (with_reducible apply Hp.drewN) | (with_reducible apply Hp.bytesW) | (with_reducible exact Upd.here) | (with_reducible exact Upd.hereR) | (with_reducible apply Upd.there) | (with_reducible apply Sz.alloc) | (with_reducible apply Sz.set) | (with_reducible apply Sz.drew) | (with_reducible apply Sz.drewN) | (with_reducible apply Sz.bytesW) | (with_reducible assumption) | (with_reducible exact Sz.base _))) h1; (try simp only [List.set_cons_zero, List.set_cons_succ, List.cons_append, List.nil_append] at H); clear h1 F; have F := H.facts; simp only [Facts, NeF, box, row, reg, cellsF, rStr, ne_eq, true_and, and_true, Nat.reduceAdd, Nat.zero_add] at F
          have hpos := segsC_pos 47 q
          have hle := segsC_len 47 q
          obtain ⟨g5, rfl⟩ := rowGm (H.rowM (t := 9) (k := 1) (v := .slice B (segsC 47 q).length d) (n := (segsC 47 q).length) (xs := (segsC 47 q).flatMap encStr) (show rStr B d (segsC 47 q) ∈ _ from (by repeat (first | (with_reducible exact List.mem_cons_self) | (with_reducible apply List.mem_cons_of_mem))))) (by omega)
          have c9 := own_at (j := 0) (v := .string (headS q)) (H.rowM (t := 9) (k := 1) (v := .slice (some ⟨g5, 0, none⟩) (segsC 47 q).length d) (n := (segsC 47 q).length) (xs := (segsC 47 q).flatMap encStr) (show rStr (some ⟨g5, 0, none⟩) d (segsC 47 q) ∈ _ from (by repeat (first | (with_reducible exact List.mem_cons_self) | (with_reducible apply List.mem_cons_of_mem))))) (by
            have h9 := flat_get encStr 1 encStr_len (segsC 47 q) 0 0 (by omega)
            rw [Nat.zero_mul, Nat.add_zero, List.getElem?_eq_getElem hpos] at h9
            exact h9)
          have hhs : (headS q).size ≤ 120 := by
            have := segsC_size (c := 47) (s := q) (p := headS q) (List.getElem_mem _); omega
          have HNS : Hid (nameS q = if 1 < (segsC 47 q).length then headS q ++ ⟨#[47]⟩ else headS q) := by show _ = _; rfl
          have hsl : (segsC 47 q).length ≤ 130 := by omega
          have htl : ts.length ≤ 60 := by
            have h9 := list_len (es.take k) p
            rw [← HT.out, List.length_take] at h9; omega
          generalize (segsC 47 q).length = m at *
          generalize headS q = hd at *
          by_cases hm1 : 1 < m
          · have hm2 : decide ((m : Int) > 1) = true := decide_eq_true (by omega)
            have HN2 : Hid (nameS q = hd ++ ⟨#[47]⟩) := by show _ = _; rw [HNS.out, if_pos hm1]
            rw [HN2.out] at HS2
            go_wp2_with fail
            refine (l10Put_hp A' ts.length c' ts _ _ (Hp.rdM (by repeat (first | (with_reducible exact H) | (with_reducible apply Hp.alloc) | (with_reducible apply Hp.set) | (with_reducible apply Hp.drew) | (with_reducible apply Hp.drewN) | (with_reducible apply Hp.bytesW) | (with_reducible exact Upd.here) | (with_reducible exact Upd.hereR) | (with_reducible apply Upd.there) | (with_reducible apply Sz.alloc) | (with_reducible apply Sz.set) | (with_reducible apply Sz.drew) | (with_reducible apply Sz.drewN) | (with_reducible apply Sz.bytesW) | (with_reducible assumption) | (with_reducible exact Sz.base _))) (by repeat (first | (with_reducible exact List.mem_cons_self) | (with_reducible apply List.mem_cons_of_mem)))) rfl (by omega)).mono ?_
            rintro e w2 ⟨B2, d2, rfl, h2⟩
            replace H := Hp.call (by repeat (first | (with_reducible exact H) | (with_reducible apply Hp.alloc) | (with_reducible apply Hp.set) | (with_reducible apply Hp.drew) | (with_reducible apply Hp.drewN) | (with_reducible apply Hp.bytesW) | (with_reducible exact Upd.here) | (with_reducible exact Upd.hereR) | (with_reducible apply Upd.there) | (with_reducible apply Sz.alloc) | (with_reducible apply Sz.set) | (with_reducible apply Sz.drew) | (with_reducible apply Sz.drewN) | (with_reducible apply Sz.bytesW) | (with_reducible assumption) | (with_reducible exact Sz.base _))) h2; (try simp only [List.set_cons_zero, List.set_cons_succ, List.cons_append, List.nil_append] at H); clear h2 F; have F := H.facts; simp only [Facts, NeF, box, row, reg, cellsF, rStr, ne_eq, true_and, and_true, Nat.reduceAdd, Nat.zero_add] at F
            go_wp2_with fail
            go_roundw
            case rel => exact ⟨k + 1, HK1.out.1, by go_num, B2, d2, _, rfl, HS2.symm, Lib.hid (by refine Hp.sel (by repeat (first | (with_reducible exact H) | (with_reducible apply Hp.alloc) | (with_reducible apply Hp.set) | (with_reducible apply Hp.drew) | (with_reducible apply Hp.drewN) | (with_reducible apply Hp.bytesW) | (with_reducible exact Upd.here) | (with_reducible exact Upd.hereR) | (with_reducible apply Upd.there) | (with_reducible apply Sz.alloc) | (with_reducible apply Sz.set) | (with_reducible apply Sz.drew) | (with_reducible apply Sz.drewN) | (with_reducible apply Sz.bytesW) | (with_reducible assumption) | (with_reducible exact Sz.base _))) ?_; (try simp only [List.set_cons_zero, List.set_cons_succ]); exact (by repeat (first | (with_reducible exact Sel.nil) | (with_reducible apply Sel.cons) | (with_reducible exact Del.here) | (with_reducible apply Del.there))))⟩
            case measure => have := HK1.out.2; simp [intOf]; omega
          · have hm2 : decide ((m : Int) > 1) = false := decide_eq_false (by omega)
            have HN2 : Hid (nameS q = hd) := by show _ = _; rw [HNS.out, if_neg hm1]
            rw [HN2.out] at HS2
            go_wp2_with fail
            refine (l10Put_hp A' ts.length c' ts _ _ (Hp.rdM (by repeat (first | (with_reducible exact H) | (with_reducible apply Hp.alloc) | (with_reducible apply Hp.set) | (with_reducible apply Hp.drew) | (with_reducible apply Hp.drewN) | (with_reducible apply Hp.bytesW) | (with_reducible exact Upd.here) | (with_reducible exact Upd.hereR) | (with_reducible apply Upd.there) | (with_reducible apply Sz.alloc) | (with_reducible apply Sz.set) | (with_reducible apply Sz.drew) | (with_reducible apply Sz.drewN) | (with_reducible apply Sz.bytesW) | (with_reducible assumption) | (with_reducible exact Sz.base _))) (by repeat (first | (with_reducible exact List.mem_cons_self) | (with_reducible apply List.mem_cons_of_mem)))) rfl (by omega)).mono ?_
            rintro e w2 ⟨B2, d2, rfl, h2⟩
            replace H := Hp.call (by repeat (first | (with_reducible exact H) | (with_reducible apply Hp.alloc) | (with_reducible apply Hp.set) | (with_reducible apply Hp.drew) | (with_reducible apply Hp.drewN) | (with_reducible apply Hp.bytesW) | (with_reducible exact Upd.here) | (with_reducible exact Upd.hereR) | (with_reducible apply Upd.there) | (with_reducible apply Sz.alloc) | (with_reducible apply Sz.set) | (with_reducible apply Sz.drew) | (with_reducible apply Sz.drewN) | (with_reducible apply Sz.bytesW) | (with_reducible assumption) | (with_reducible exact Sz.base _))) h2; (try simp only [List.set_cons_zero, List.set_cons_succ, List.cons_append, List.nil_append] at H); clear h2 F; have F := H.facts; simp only [Facts, NeF, box, row, reg, cellsF, rStr, ne_eq, true_and, and_true, Nat.reduceAdd, Nat.zero_add] at F
            go_wp2_with fail
            go_roundw
            case rel => exact ⟨k + 1, HK1.out.1, by go_num, B2, d2, _, rfl, HS2.symm, Lib.hid (by refine Hp.sel (by repeat (first | (with_reducible exact H) | (with_reducible apply Hp.alloc) | (with_reducible apply Hp.set) | (with_reducible apply Hp.drew) | (with_reducible apply Hp.drewN) | (with_reducible apply Hp.bytesW) | (with_reducible exact Upd.here) | (with_reducible exact Upd.hereR) | (with_reducible apply Upd.there) | (with_reducible apply Sz.alloc) | (with_reducible apply Sz.set) | (with_reducible apply Sz.drew) | (with_reducible apply Sz.drewN) | (with_reducible apply Sz.bytesW) | (with_reducible assumption) | (with_reducible exact Sz.base _))) ?_; (try simp only [List.set_cons_zero, List.set_cons_succ]); exact (by repeat (first | (with_reducible exact Sel.nil) | (with_reducible apply Sel.cons) | (with_reducible exact Del.here) | (with_reducible apply Del.there))))⟩
            case measure => have := HK1.out.2; simp [intOf]; omega
      ·
        have hk1 : ¬ (k : Int) < (n : Int) := by omega
        have HT2 : Hid (ts = listS es p) := by show _ = _; rw [HT.out, List.take_of_length_le (by omega)]
        go_wp2_with fail
        refine bodyPost_ret (v := .tuple #[.slice A' ts.length c', .bool true]) (by simp [results, Tryd.results17, go_sem]) rfl ⟨A', c', by rw [← HT2.out], by rw [← HT2.out]; exact (by refine Hp.sel (by repeat (first | (with_reducible exact H) | (with_reducible apply Hp.alloc) | (with_reducible apply Hp.set) | (with_reducible apply Hp.drew) | (with_reducible apply Hp.drewN) | (with_reducible apply Hp.bytesW) | (with_reducible exact Upd.here) | (with_reducible exact Upd.hereR) | (with_reducible apply Upd.there) | (with_reducible apply Sz.alloc) | (with_reducible apply Sz.set) | (with_reducible apply Sz.drew) | (with_reducible apply Sz.drewN) | (with_reducible apply Sz.bytesW) | (with_reducible assumption) | (with_reducible exact Sz.base _))) ?_; (try simp only [List.set_cons_zero, List.set_cons_succ]); exact (by repeat (first | (with_reducible exact Sel.nil) | (with_reducible apply Sel.cons) | (with_reducible exact Del.here) | (with_reducible apply Del.there))))⟩
end Go.Proofs.YtklmcbabpncfmaaDoor
