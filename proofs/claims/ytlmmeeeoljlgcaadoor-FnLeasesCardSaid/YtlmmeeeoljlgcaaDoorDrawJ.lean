/- Draws of a book and of a lease to add. No condition. -/
import Derived.Test.YtlmmeeeoljlgcaaDoorDrawK
set_option linter.unusedVariables false
set_option linter.unusedSimpArgs false
namespace Go.Proofs.YtlmmeeeoljlgcaaDoor
open Go.RowKit
set_option linter.unusedVariables false
set_option linter.unusedSimpArgs false
set_option maxHeartbeats 8000000 in
set_option maxRecDepth 10000 in
theorem l09DrawOne_hp (A : Option Addr) (n c : Nat) (bs : List UInt8) (w : World) (hr : Rd w w.heap.size 1 A n c (bs.flatMap encByte)) (hn : bs.length = n) :
    Calls Tryd.prog 35 #[.slice A n c] w fun e w' => ∃ b A1 d us, e = .returned (.tuple #[.pointer (some ⟨b, 0, none⟩), .agg #[.slice A1 us.length d]]) ∧ us.length ≤ 151 ∧ (∀ u ∈ us, LeaseB u) ∧ Hp w w' [rLease A1 d us, curE b A n c] := by
  have H := Hp.nil w
  go_enter Tryd.func35, Tryd.ntmps35
  go_wp2_with fail
  refine (l01New_hp A n c bs w _ _ (by repeat (first | (with_reducible exact H) | (with_reducible apply Hp.alloc) | (with_reducible apply Hp.set) | (with_reducible apply Hp.drew) | (with_reducible apply Hp.drewN) | (with_reducible apply Hp.bytesW) | (with_reducible exact Upd.here) | (with_reducible exact Upd.hereR) | (with_reducible apply Upd.there) | (with_reducible apply Sz.alloc) | (with_reducible apply Sz.set) | (with_reducible apply Sz.drew) | (with_reducible apply Sz.drewN) | (with_reducible apply Sz.bytesW) | (with_reducible assumption) | (with_reducible exact Sz.base _))) hr hn).mono ?_
  rintro e w1 ⟨b, rfl, H1⟩
  replace H := H1; clear H1; (try simp only [List.set_cons_zero, List.set_cons_succ, List.cons_append, List.nil_append] at H); (try clear F); have F := H.facts; simp only [Facts, NeF, box, row, reg, cellsF, rLease, ne_eq, true_and, and_true, Nat.reduceAdd, Nat.zero_add] at F
  go_wp2_with fail
  refine (l01Size16_any A n c bs _ (hr.grow (Hp.b (by repeat (first | (with_reducible exact H) | (with_reducible apply Hp.alloc) | (with_reducible apply Hp.set) | (with_reducible apply Hp.drew) | (with_reducible apply Hp.drewN) | (with_reducible apply Hp.bytesW) | (with_reducible exact Upd.here) | (with_reducible exact Upd.hereR) | (with_reducible apply Upd.there) | (with_reducible apply Sz.alloc) | (with_reducible apply Sz.set) | (with_reducible apply Sz.drew) | (with_reducible apply Sz.drewN) | (with_reducible apply Sz.bytesW) | (with_reducible assumption) | (with_reducible exact Sz.base _))))) hn).mono ?_
  rintro e w2 ⟨x, rfl, hx, q2⟩
  have hm : curE b A n c ∈ [curE b A n c] := List.mem_cons_self
  replace H := Hp.step (by repeat (first | (with_reducible exact H) | (with_reducible apply Hp.alloc) | (with_reducible apply Hp.set) | (with_reducible apply Hp.drew) | (with_reducible apply Hp.drewN) | (with_reducible apply Hp.bytesW) | (with_reducible exact Upd.here) | (with_reducible exact Upd.hereR) | (with_reducible apply Upd.there) | (with_reducible apply Sz.alloc) | (with_reducible apply Sz.set) | (with_reducible apply Sz.drew) | (with_reducible apply Sz.drewN) | (with_reducible apply Sz.bytesW) | (with_reducible assumption) | (with_reducible exact Sz.base _))) q2; (try simp only [List.set_cons_zero, List.set_cons_succ, List.cons_append, List.nil_append] at H); clear q2; clear F; have F := H.facts; simp only [Facts, NeF, box, row, reg, cellsF, rLease, ne_eq, true_and, and_true, Nat.reduceAdd, Nat.zero_add] at F
  go_wp2_with fail
  refine (l01Below_hp b A n c bs w _ _ _ (by repeat (first | (with_reducible exact H) | (with_reducible apply Hp.alloc) | (with_reducible apply Hp.set) | (with_reducible apply Hp.drew) | (with_reducible apply Hp.drewN) | (with_reducible apply Hp.bytesW) | (with_reducible exact Upd.here) | (with_reducible exact Upd.hereR) | (with_reducible apply Upd.there) | (with_reducible apply Sz.alloc) | (with_reducible apply Sz.set) | (with_reducible apply Sz.drew) | (with_reducible apply Sz.drewN) | (with_reducible apply Sz.bytesW) | (with_reducible assumption) | (with_reducible exact Sz.base _))) (by repeat (first | (with_reducible exact hm) | (with_reducible exact List.mem_cons_self) | (with_reducible apply List.mem_cons_of_mem))) hr hn (by omega) (by omega)).mono ?_
  rintro e w3 ⟨x3, rfl, hx3, H1⟩
  replace H := H1; clear H1; (try simp only [List.set_cons_zero, List.set_cons_succ, List.cons_append, List.nil_append] at H); (try clear F); have F := H.facts; simp only [Facts, NeF, box, row, reg, cellsF, rLease, ne_eq, true_and, and_true, Nat.reduceAdd, Nat.zero_add] at F
  obtain ⟨m, rfl⟩ := Int.eq_ofNat_of_zero_le hx3.1
  go_wp2_with fail
  refine (l01Once_hp b A n c bs w _ _ _ (by repeat (first | (with_reducible exact H) | (with_reducible apply Hp.alloc) | (with_reducible apply Hp.set) | (with_reducible apply Hp.drew) | (with_reducible apply Hp.drewN) | (with_reducible apply Hp.bytesW) | (with_reducible exact Upd.here) | (with_reducible exact Upd.hereR) | (with_reducible apply Upd.there) | (with_reducible apply Sz.alloc) | (with_reducible apply Sz.set) | (with_reducible apply Sz.drew) | (with_reducible apply Sz.drewN) | (with_reducible apply Sz.bytesW) | (with_reducible assumption) | (with_reducible exact Sz.base _))) (by repeat (first | (with_reducible exact hm) | (with_reducible exact List.mem_cons_self) | (with_reducible apply List.mem_cons_of_mem))) hr hn (by omega) (by omega)).mono ?_
  rintro e w4 ⟨x4, rfl, H1⟩
  replace H := H1; clear H1; (try simp only [List.set_cons_zero, List.set_cons_succ, List.cons_append, List.nil_append] at H); (try clear F); have F := H.facts; simp only [Facts, NeF, box, row, reg, cellsF, rLease, ne_eq, true_and, and_true, Nat.reduceAdd, Nat.zero_add] at F
  go_upto_if 13 with fail
  go_cut [5] (fun s5 wc => ∃ m : Nat, m ≤ 151 ∧ s5 = .int .i64 m ∧ Hp w wc [box w.heap.size 28 [.slice none 0 0], curE b A n c])
  case first =>
    cases x4 with
    | false =>
      go_wp2_with fail
      go_meet
      exact ⟨m, by omega, rfl, (by refine Hp.sel (by repeat (first | (with_reducible exact H) | (with_reducible apply Hp.alloc) | (with_reducible apply Hp.set) | (with_reducible apply Hp.drew) | (with_reducible apply Hp.drewN) | (with_reducible apply Hp.bytesW) | (with_reducible exact Upd.here) | (with_reducible exact Upd.hereR) | (with_reducible apply Upd.there) | (with_reducible apply Sz.alloc) | (with_reducible apply Sz.set) | (with_reducible apply Sz.drew) | (with_reducible apply Sz.drewN) | (with_reducible apply Sz.bytesW) | (with_reducible assumption) | (with_reducible exact Sz.base _))) ?_; (try simp only [List.set_cons_zero, List.set_cons_succ]); exact (by repeat (first | (with_reducible exact Sel.nil) | (with_reducible apply Sel.cons) | (with_reducible exact Del.here) | (with_reducible apply Del.there))))⟩
    | true =>
      go_wp2_with fail
      refine (l01Below_hp b A n c bs w _ _ _ (by repeat (first | (with_reducible exact H) | (with_reducible apply Hp.alloc) | (with_reducible apply Hp.set) | (with_reducible apply Hp.drew) | (with_reducible apply Hp.drewN) | (with_reducible apply Hp.bytesW) | (with_reducible exact Upd.here) | (with_reducible exact Upd.hereR) | (with_reducible apply Upd.there) | (with_reducible apply Sz.alloc) | (with_reducible apply Sz.set) | (with_reducible apply Sz.drew) | (with_reducible apply Sz.drewN) | (with_reducible apply Sz.bytesW) | (with_reducible assumption) | (with_reducible exact Sz.base _))) (by repeat (first | (with_reducible exact hm) | (with_reducible exact List.mem_cons_self) | (with_reducible apply List.mem_cons_of_mem))) hr hn (by omega) (by omega)).mono ?_
      rintro e w5 ⟨x5, rfl, hx5, H1⟩
      replace H := H1; clear H1; (try simp only [List.set_cons_zero, List.set_cons_succ, List.cons_append, List.nil_append] at H); (try clear F); have F := H.facts; simp only [Facts, NeF, box, row, reg, cellsF, rLease, ne_eq, true_and, and_true, Nat.reduceAdd, Nat.zero_add] at F
      obtain ⟨m5, hm5⟩ := Int.eq_ofNat_of_zero_le (show 0 ≤ 149 + x5 by omega)
      have hw5 : IntKind.i64.wrap (149 + x5) = (m5 : Int) := by rw [IntKind.wrap_i64]; omega
      have hm9 : m5 ≤ 151 := by omega
      clear hm5 hx5
      go_wp2_with fail
      go_meet
      exact ⟨m5, hm9, rfl, (by refine Hp.sel (by repeat (first | (with_reducible exact H) | (with_reducible apply Hp.alloc) | (with_reducible apply Hp.set) | (with_reducible apply Hp.drew) | (with_reducible apply Hp.drewN) | (with_reducible apply Hp.bytesW) | (with_reducible exact Upd.here) | (with_reducible exact Upd.hereR) | (with_reducible apply Upd.there) | (with_reducible apply Sz.alloc) | (with_reducible apply Sz.set) | (with_reducible apply Sz.drew) | (with_reducible apply Sz.drewN) | (with_reducible apply Sz.bytesW) | (with_reducible assumption) | (with_reducible exact Sz.base _))) ?_; (try simp only [List.set_cons_zero, List.set_cons_succ]); exact (by repeat (first | (with_reducible exact Sel.nil) | (with_reducible apply Sel.cons) | (with_reducible exact Del.here) | (with_reducible apply Del.there))))⟩
  case rest =>
  clear H F
  obtain ⟨m, hm9, rfl, H⟩ := hcut
  have F := H.facts; simp only [Facts, NeF, box, row, reg, cellsF, rLease, ne_eq, true_and, and_true, Nat.reduceAdd, Nat.zero_add] at F
  go_wp2_with fail
  refine (l09DrawBook_hp b A n c bs w _ (box w.heap.size 28 [.slice none 0 0]) m hm9 (by refine Hp.sel (by repeat (first | (with_reducible exact H) | (with_reducible apply Hp.alloc) | (with_reducible apply Hp.set) | (with_reducible apply Hp.drew) | (with_reducible apply Hp.drewN) | (with_reducible apply Hp.bytesW) | (with_reducible exact Upd.here) | (with_reducible exact Upd.hereR) | (with_reducible apply Upd.there) | (with_reducible apply Sz.alloc) | (with_reducible apply Sz.set) | (with_reducible apply Sz.drew) | (with_reducible apply Sz.drewN) | (with_reducible apply Sz.bytesW) | (with_reducible assumption) | (with_reducible exact Sz.base _))) ?_; (try simp only [List.set_cons_zero, List.set_cons_succ]); exact (by repeat (first | (with_reducible exact Sel.nil) | (with_reducible apply Sel.cons) | (with_reducible exact Del.here) | (with_reducible apply Del.there)))) hr hn).mono ?_
  rintro e w7 ⟨A1, d, us, rfl, hul, hU, H1⟩
  replace H := H1; clear H1; (try simp only [List.set_cons_zero, List.set_cons_succ, List.cons_append, List.nil_append] at H); (try clear F); have F := H.facts; simp only [Facts, NeF, box, row, reg, cellsF, rLease, ne_eq, true_and, and_true, Nat.reduceAdd, Nat.zero_add] at F
  go_wp2_with fail
  refine bodyPost_ret (v := .tuple #[.pointer (some ⟨b, 0, none⟩), .agg #[.slice A1 us.length d]]) (by simp [results, Tryd.results35, go_sem, F]) rfl ⟨b, A1, d, us, rfl, hul, hU, (by refine Hp.sel (by repeat (first | (with_reducible exact H) | (with_reducible apply Hp.alloc) | (with_reducible apply Hp.set) | (with_reducible apply Hp.drew) | (with_reducible apply Hp.drewN) | (with_reducible apply Hp.bytesW) | (with_reducible exact Upd.here) | (with_reducible exact Upd.hereR) | (with_reducible apply Upd.there) | (with_reducible apply Sz.alloc) | (with_reducible apply Sz.set) | (with_reducible apply Sz.drew) | (with_reducible apply Sz.drewN) | (with_reducible apply Sz.bytesW) | (with_reducible assumption) | (with_reducible exact Sz.base _))) ?_; (try simp only [List.set_cons_zero, List.set_cons_succ]); exact (by repeat (first | (with_reducible exact Sel.nil) | (with_reducible apply Sel.cons) | (with_reducible exact Del.here) | (with_reducible apply Del.there))))⟩
set_option maxHeartbeats 8000000 in
set_option maxRecDepth 10000 in
theorem DrawAddLease_hp (A : Option Addr) (n c : Nat) (bs : List UInt8) (w : World) (hr : Rd w w.heap.size 1 A n c (bs.flatMap encByte)) (hn : bs.length = n) :
    Calls Tryd.prog 16 #[.slice A n c] w fun e w' => ∃ A1 d us, ∃ l : Lease, e = .returned (.tuple #[.agg #[.slice A1 us.length d], .agg #[.int .i64 l.id, .int .i64 l.token, .string l.path, .int .i64 l.made, .int .i64 l.ends, .int .i64 l.limit]]) ∧ us.length ≤ 151 ∧ (∀ u ∈ us, LeaseB u) ∧ LeaseB l ∧ Hp w w' [rLease A1 d us] := by
  have H := Hp.nil w
  go_enter Tryd.func16, Tryd.ntmps16
  go_wp2_with fail
  refine call_atK (w0 := w) (by repeat (first | (with_reducible exact H) | (with_reducible apply Hp.alloc) | (with_reducible apply Hp.set) | (with_reducible apply Hp.drew) | (with_reducible apply Hp.drewN) | (with_reducible apply Hp.bytesW) | (with_reducible exact Upd.here) | (with_reducible exact Upd.hereR) | (with_reducible apply Upd.there) | (with_reducible apply Sz.alloc) | (with_reducible apply Sz.set) | (with_reducible apply Sz.drew) | (with_reducible apply Sz.drewN) | (with_reducible apply Sz.bytesW) | (with_reducible assumption) | (with_reducible exact Sz.base _))) fun H7 => ?_
  (try simp only [List.set_cons_zero, List.set_cons_succ, List.cons_append, List.nil_append] at H7)
  refine (l09DrawOne_hp A n c bs _ (hr.grow H7.b) hn).mono ?_
  rintro e w1 ⟨b, A1, d, us, rfl, hul, hU, h1⟩
  clear H
  have H := Hp.call H7 h1
  clear h1 H7
  (try simp only [List.set_cons_zero, List.set_cons_succ, List.cons_append, List.nil_append] at H); have F := H.facts; simp only [Facts, NeF, box, row, reg, cellsF, rLease, ne_eq, true_and, and_true, Nat.reduceAdd, Nat.zero_add] at F
  have HU := Lib.hid hU; clear hU
  go_upto_if 16 with fail
  go_cut [6] (fun s6 wc => ∃ id : Int, s6 = .int .i64 id ∧ Hp w wc [box w1.heap.size 28 [.slice A1 us.length d], rLease A1 d us, curE b A n c, box (w.heap.size + 1) 40 [.int .i64 0, .int .i64 0, .string ⟨#[]⟩, .int .i64 0, .int .i64 0, .int .i64 0], box w.heap.size 28 [.slice none 0 0]])
  case first =>
    refine wp_atK (w0 := w) (by repeat (first | (with_reducible exact H) | (with_reducible apply Hp.alloc) | (with_reducible apply Hp.set) | (with_reducible apply Hp.drew) | (with_reducible apply Hp.drewN) | (with_reducible apply Hp.bytesW) | (with_reducible exact Upd.here) | (with_reducible exact Upd.hereR) | (with_reducible apply Upd.there) | (with_reducible apply Sz.alloc) | (with_reducible apply Sz.set) | (with_reducible apply Sz.drew) | (with_reducible apply Sz.drewN) | (with_reducible apply Sz.bytesW) | (with_reducible assumption) | (with_reducible exact Sz.base _))) fun H7 => ?_
    clear H F
    have H := H7; clear H7; (try simp only [List.set_cons_zero, List.set_cons_succ, List.cons_append, List.nil_append] at H); have F := H.facts; simp only [Facts, NeF, box, row, reg, cellsF, rLease, ne_eq, true_and, and_true, Nat.reduceAdd, Nat.zero_add] at F
    by_cases h0 : 0 < us.length
    · obtain ⟨g0, rfl⟩ := rowGb (H.rowM (show rLease A1 d us ∈ _ from (by repeat (first | (with_reducible exact List.mem_cons_self) | (with_reducible apply List.mem_cons_of_mem))))) h0
      have h0i : (0 : Int) < (us.length : Int) := by omega
      obtain ⟨k2, hk2⟩ : ∃ k2, k2 + 1 = us.length := ⟨us.length - 1, by omega⟩
      have hw2 : IntKind.i64.wrap ((us.length : Int) - 1) = (k2 : Int) := by rw [IntKind.wrap_i64]; omega
      have hk3 : (k2 : Int) < (us.length : Int) := by omega
      have hk4 : (0 : Int) ≤ (k2 : Int) := by omega
      obtain ⟨d0, d1, d2, d3, d4, d5⟩ := lsAt (n := us.length) H (show rLs (some ⟨g0, 0, none⟩) us.length d us ∈ _ from (by repeat (first | (with_reducible exact List.mem_cons_self) | (with_reducible apply List.mem_cons_of_mem)))) rfl (k := k2) (by omega)
      generalize us[k2].id = id0 at d0
      clear d1 d2 d3 d4 d5 hk2 h0
      go_wp2_with fail
      go_meet
      exact ⟨_, rfl, (by refine Hp.sel (by repeat (first | (with_reducible exact H) | (with_reducible apply Hp.alloc) | (with_reducible apply Hp.set) | (with_reducible apply Hp.drew) | (with_reducible apply Hp.drewN) | (with_reducible apply Hp.bytesW) | (with_reducible exact Upd.here) | (with_reducible exact Upd.hereR) | (with_reducible apply Upd.there) | (with_reducible apply Sz.alloc) | (with_reducible apply Sz.set) | (with_reducible apply Sz.drew) | (with_reducible apply Sz.drewN) | (with_reducible apply Sz.bytesW) | (with_reducible assumption) | (with_reducible exact Sz.base _))) ?_; (try simp only [List.set_cons_zero, List.set_cons_succ]); exact (by repeat (first | (with_reducible exact Sel.nil) | (with_reducible apply Sel.cons) | (with_reducible exact Del.here) | (with_reducible apply Del.there))))⟩
    · have h0i : ¬ (0 : Int) < (us.length : Int) := by omega
      clear h0
      go_wp2_with fail
      go_meet
      exact ⟨1, rfl, (by refine Hp.sel (by repeat (first | (with_reducible exact H) | (with_reducible apply Hp.alloc) | (with_reducible apply Hp.set) | (with_reducible apply Hp.drew) | (with_reducible apply Hp.drewN) | (with_reducible apply Hp.bytesW) | (with_reducible exact Upd.here) | (with_reducible exact Upd.hereR) | (with_reducible apply Upd.there) | (with_reducible apply Sz.alloc) | (with_reducible apply Sz.set) | (with_reducible apply Sz.drew) | (with_reducible apply Sz.drewN) | (with_reducible apply Sz.bytesW) | (with_reducible assumption) | (with_reducible exact Sz.base _))) ?_; (try simp only [List.set_cons_zero, List.set_cons_succ]); exact (by repeat (first | (with_reducible exact Sel.nil) | (with_reducible apply Sel.cons) | (with_reducible exact Del.here) | (with_reducible apply Del.there))))⟩
  case rest =>
  clear H F
  obtain ⟨id, rfl, H⟩ := hcut
  have F := H.facts; simp only [Facts, NeF, box, row, reg, cellsF, rLease, ne_eq, true_and, and_true, Nat.reduceAdd, Nat.zero_add] at F
  go_wp2_with fail
  refine (l09DrawLease_hp b A n c bs w _ _ id (by repeat (first | (with_reducible exact H) | (with_reducible apply Hp.alloc) | (with_reducible apply Hp.set) | (with_reducible apply Hp.drew) | (with_reducible apply Hp.drewN) | (with_reducible apply Hp.bytesW) | (with_reducible exact Upd.here) | (with_reducible exact Upd.hereR) | (with_reducible apply Upd.there) | (with_reducible apply Sz.alloc) | (with_reducible apply Sz.set) | (with_reducible apply Sz.drew) | (with_reducible apply Sz.drewN) | (with_reducible apply Sz.bytesW) | (with_reducible assumption) | (with_reducible exact Sz.base _))) (by repeat (first | (with_reducible exact hm) | (with_reducible exact List.mem_cons_self) | (with_reducible apply List.mem_cons_of_mem))) hr hn).mono ?_
  rintro e w2 ⟨l, rfl, hlB, H2⟩
  replace H := H2; clear H2; (try simp only [List.set_cons_zero, List.set_cons_succ, List.cons_append, List.nil_append] at H); (try clear F); have F := H.facts; simp only [Facts, NeF, box, row, reg, cellsF, rLease, ne_eq, true_and, and_true, Nat.reduceAdd, Nat.zero_add] at F
  go_wp2_with fail
  refine (l01Once_hp b A n c bs w _ _ _ (by repeat (first | (with_reducible exact H) | (with_reducible apply Hp.alloc) | (with_reducible apply Hp.set) | (with_reducible apply Hp.drew) | (with_reducible apply Hp.drewN) | (with_reducible apply Hp.bytesW) | (with_reducible exact Upd.here) | (with_reducible exact Upd.hereR) | (with_reducible apply Upd.there) | (with_reducible apply Sz.alloc) | (with_reducible apply Sz.set) | (with_reducible apply Sz.drew) | (with_reducible apply Sz.drewN) | (with_reducible apply Sz.bytesW) | (with_reducible assumption) | (with_reducible exact Sz.base _))) (by repeat (first | (with_reducible exact hm) | (with_reducible exact List.mem_cons_self) | (with_reducible apply List.mem_cons_of_mem))) hr hn (by omega) (by omega)).mono ?_
  rintro e w3 ⟨x3, rfl, H3⟩
  replace H := H3; clear H3; (try simp only [List.set_cons_zero, List.set_cons_succ, List.cons_append, List.nil_append] at H); (try clear F); have F := H.facts; simp only [Facts, NeF, box, row, reg, cellsF, rLease, ne_eq, true_and, and_true, Nat.reduceAdd, Nat.zero_add] at F
  go_upto_if 31 with fail
  go_cut [] (fun wc => ∃ l : Lease, Hid (LeaseB l) ∧ Hp w wc [box w2.heap.size 40 [.int .i64 l.id, .int .i64 l.token, .string l.path, .int .i64 l.made, .int .i64 l.ends, .int .i64 l.limit], box w1.heap.size 28 [.slice A1 us.length d], rLease A1 d us, curE b A n c, box (w.heap.size + 1) 40 [.int .i64 0, .int .i64 0, .string ⟨#[]⟩, .int .i64 0, .int .i64 0, .int .i64 0], box w.heap.size 28 [.slice none 0 0]])
  case first =>
    cases x3 with
    | false =>
      go_wp2_with fail
      go_meet
      exact ⟨l, hlB, (by refine Hp.sel (by repeat (first | (with_reducible exact H) | (with_reducible apply Hp.alloc) | (with_reducible apply Hp.set) | (with_reducible apply Hp.drew) | (with_reducible apply Hp.drewN) | (with_reducible apply Hp.bytesW) | (with_reducible exact Upd.here) | (with_reducible exact Upd.hereR) | (with_reducible apply Upd.there) | (with_reducible apply Sz.alloc) | (with_reducible apply Sz.set) | (with_reducible apply Sz.drew) | (with_reducible apply Sz.drewN) | (with_reducible apply Sz.bytesW) | (with_reducible assumption) | (with_reducible exact Sz.base _))) ?_; (try simp only [List.set_cons_zero, List.set_cons_succ]); exact (by repeat (first | (with_reducible exact Sel.nil) | (with_reducible apply Sel.cons) | (with_reducible exact Del.here) | (with_reducible apply Del.there))))⟩
    | true =>
      go_wp2_with fail
      refine (l09BendLease_hp b A n c bs w _ _ l hlB (by repeat (first | (with_reducible exact H) | (with_reducible apply Hp.alloc) | (with_reducible apply Hp.set) | (with_reducible apply Hp.drew) | (with_reducible apply Hp.drewN) | (with_reducible apply Hp.bytesW) | (with_reducible exact Upd.here) | (with_reducible exact Upd.hereR) | (with_reducible apply Upd.there) | (with_reducible apply Sz.alloc) | (with_reducible apply Sz.set) | (with_reducible apply Sz.drew) | (with_reducible apply Sz.drewN) | (with_reducible apply Sz.bytesW) | (with_reducible assumption) | (with_reducible exact Sz.base _))) (by repeat (first | (with_reducible exact hm) | (with_reducible exact List.mem_cons_self) | (with_reducible apply List.mem_cons_of_mem))) hr hn).mono ?_
      rintro e w4 ⟨l4, rfl, hl4, H4⟩
      replace H := H4; clear H4; (try simp only [List.set_cons_zero, List.set_cons_succ, List.cons_append, List.nil_append] at H); (try clear F); have F := H.facts; simp only [Facts, NeF, box, row, reg, cellsF, rLease, ne_eq, true_and, and_true, Nat.reduceAdd, Nat.zero_add] at F
      go_wp2_with fail
      go_meet
      exact ⟨l4, hl4, (by refine Hp.sel (by repeat (first | (with_reducible exact H) | (with_reducible apply Hp.alloc) | (with_reducible apply Hp.set) | (with_reducible apply Hp.drew) | (with_reducible apply Hp.drewN) | (with_reducible apply Hp.bytesW) | (with_reducible exact Upd.here) | (with_reducible exact Upd.hereR) | (with_reducible apply Upd.there) | (with_reducible apply Sz.alloc) | (with_reducible apply Sz.set) | (with_reducible apply Sz.drew) | (with_reducible apply Sz.drewN) | (with_reducible apply Sz.bytesW) | (with_reducible assumption) | (with_reducible exact Sz.base _))) ?_; (try simp only [List.set_cons_zero, List.set_cons_succ]); exact (by repeat (first | (with_reducible exact Sel.nil) | (with_reducible apply Sel.cons) | (with_reducible exact Del.here) | (with_reducible apply Del.there))))⟩
  case rest =>
  clear H F hlB
  obtain ⟨l, HlB, H⟩ := hcut
  have F := H.facts; simp only [Facts, NeF, box, row, reg, cellsF, rLease, ne_eq, true_and, and_true, Nat.reduceAdd, Nat.zero_add] at F
  go_wp2_with fail
  go_region
  all_goals
    go_wp2_with fail
    refine bodyPost_ret (v := .tuple #[.agg #[.slice A1 us.length d], .agg #[.int .i64 l.id, .int .i64 l.token, .string l.path, .int .i64 l.made, .int .i64 l.ends, .int .i64 l.limit]]) (by simp [results, Tryd.results16, go_sem, F]) rfl ⟨A1, d, us, l, rfl, hul, HU.out, HlB.out, (by refine Hp.sel (by repeat (first | (with_reducible exact H) | (with_reducible apply Hp.alloc) | (with_reducible apply Hp.set) | (with_reducible apply Hp.drew) | (with_reducible apply Hp.drewN) | (with_reducible apply Hp.bytesW) | (with_reducible exact Upd.here) | (with_reducible exact Upd.hereR) | (with_reducible apply Upd.there) | (with_reducible apply Sz.alloc) | (with_reducible apply Sz.set) | (with_reducible apply Sz.drew) | (with_reducible apply Sz.drewN) | (with_reducible apply Sz.bytesW) | (with_reducible assumption) | (with_reducible exact Sz.base _))) ?_; (try simp only [List.set_cons_zero, List.set_cons_succ]); exact (by repeat (first | (with_reducible exact Sel.nil) | (with_reducible apply Sel.cons) | (with_reducible exact Del.here) | (with_reducible apply Del.there))))⟩
end Go.Proofs.YtlmmeeeoljlgcaaDoor
