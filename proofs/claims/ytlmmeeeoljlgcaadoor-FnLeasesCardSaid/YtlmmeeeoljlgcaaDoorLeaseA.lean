/- Leases: which are valid (the reference's and the program's). No condition. -/
import Derived.Test.YtlmmeeeoljlgcaaDoorLeaseP
import Derived.Test.YtlmmeeeoljlgcaaDoorM3
import Derived.Test.YtlmmeeeoljlgcaaDoorM4
import Derived.Deep.QuietTactic
import Derived.BigQuiet
import Derived.Deep.RegionWith
set_option linter.unusedVariables false
set_option linter.unusedSimpArgs false
namespace Go.Proofs.YtlmmeeeoljlgcaaDoor
open Go.RowKit
set_option linter.unusedVariables false
set_option linter.unusedSimpArgs false
set_option maxHeartbeats 4000000 in
set_option maxRecDepth 10000 in
theorem l09Lease_any (l : Lease) (w : World) (hs : l.path.size ≤ maxLen) :
    Calls Tryd.prog 54 #[valLease l] w fun e w' => e = .returned (.bool (leaseOk l)) ∧ Below w.heap.size w w' := by
  obtain ⟨id, token, path, made, ends, limit⟩ := l
  have H := Hp.nil w
  dsimp only at hs
  cases h4 : inR made 0 1000000000 with
  | false =>
    go_enter Tryd.func54, Tryd.ntmps54
    go_wp2_with (first | (go_at_call 77; refine (l01In_any _ _ _ _).mono ?_; rintro e w' ⟨rfl, rfl⟩; (try rw [h4])) | (go_at_call 45; refine (PathOk_any _ _ hs).mono ?_; rintro e w1 ⟨rfl, hb1⟩; replace H := Hp.step (by repeat (first | (with_reducible exact H) | (with_reducible apply Hp.alloc) | (with_reducible apply Hp.set) | (with_reducible apply Hp.drew) | (with_reducible apply Hp.drewN) | (with_reducible apply Hp.bytesW) | (with_reducible exact Upd.here) | (with_reducible exact Upd.hereR) | (with_reducible apply Upd.there) | (with_reducible apply Sz.alloc) | (with_reducible apply Sz.set) | (with_reducible apply Sz.drew) | (with_reducible apply Sz.drewN) | (with_reducible apply Sz.bytesW) | (with_reducible assumption) | (with_reducible exact Sz.base _))) hb1; (try simp only [List.set_cons_zero, List.set_cons_succ, List.cons_append, List.nil_append] at H); have F := H.facts; simp only [Facts, NeF, box, row, reg, cellsF, ne_eq, true_and, and_true, Nat.reduceAdd, Nat.zero_add] at F))
    all_goals
      go_ret
      exact ⟨by simp [leaseOk, *], Hp.b (by repeat (first | (with_reducible exact H) | (with_reducible apply Hp.alloc) | (with_reducible apply Hp.set) | (with_reducible apply Hp.drew) | (with_reducible apply Hp.drewN) | (with_reducible apply Hp.bytesW) | (with_reducible exact Upd.here) | (with_reducible exact Upd.hereR) | (with_reducible apply Upd.there) | (with_reducible apply Sz.alloc) | (with_reducible apply Sz.set) | (with_reducible apply Sz.drew) | (with_reducible apply Sz.drewN) | (with_reducible apply Sz.bytesW) | (with_reducible assumption) | (with_reducible exact Sz.base _)))⟩
  | true =>
    obtain ⟨h5, h6⟩ := inR_true.1 h4
    go_enter Tryd.func54, Tryd.ntmps54
    go_wp2_with (first | (go_at_call 77; refine (l01In_any _ _ _ _).mono ?_; rintro e w' ⟨rfl, rfl⟩; (try rw [h4])) | (go_at_call 45; refine (PathOk_any _ _ hs).mono ?_; rintro e w1 ⟨rfl, hb1⟩; replace H := Hp.step (by repeat (first | (with_reducible exact H) | (with_reducible apply Hp.alloc) | (with_reducible apply Hp.set) | (with_reducible apply Hp.drew) | (with_reducible apply Hp.drewN) | (with_reducible apply Hp.bytesW) | (with_reducible exact Upd.here) | (with_reducible exact Upd.hereR) | (with_reducible apply Upd.there) | (with_reducible apply Sz.alloc) | (with_reducible apply Sz.set) | (with_reducible apply Sz.drew) | (with_reducible apply Sz.drewN) | (with_reducible apply Sz.bytesW) | (with_reducible assumption) | (with_reducible exact Sz.base _))) hb1; (try simp only [List.set_cons_zero, List.set_cons_succ, List.cons_append, List.nil_append] at H); have F := H.facts; simp only [Facts, NeF, box, row, reg, cellsF, ne_eq, true_and, and_true, Nat.reduceAdd, Nat.zero_add] at F))
    all_goals
      go_ret
      exact ⟨by simp [leaseOk, *], Hp.b (by repeat (first | (with_reducible exact H) | (with_reducible apply Hp.alloc) | (with_reducible apply Hp.set) | (with_reducible apply Hp.drew) | (with_reducible apply Hp.drewN) | (with_reducible apply Hp.bytesW) | (with_reducible exact Upd.here) | (with_reducible exact Upd.hereR) | (with_reducible apply Upd.there) | (with_reducible apply Sz.alloc) | (with_reducible apply Sz.set) | (with_reducible apply Sz.drew) | (with_reducible apply Sz.drewN) | (with_reducible apply Sz.bytesW) | (with_reducible assumption) | (with_reducible exact Sz.base _)))⟩
set_option maxHeartbeats 4000000 in
set_option maxRecDepth 10000 in
theorem isLease_any (l : Lease) (w : World) (hs : l.path.size ≤ maxLen) (hml : mlOk w) :
    Calls Tryd.prog 56 #[valLease l] w fun e w' => e = .returned (.bool (leaseOk l)) ∧ Below w.heap.size w w' := by
  obtain ⟨id, token, path, made, ends, limit⟩ := l
  have H := Hp.nil w
  dsimp only at hs
  cases h4 : inR made 0 1000000000 with
  | false =>
    go_enter Tryd.func56, Tryd.ntmps56
    go_wp2_with (first | (go_at_call 78; refine (within_any _ _ _ _).mono ?_; rintro e w' ⟨rfl, rfl⟩; (try rw [h4])) | (go_at_call 41; refine (isPath_any _ _ hs (hml.on (Hp.b (by repeat (first | (with_reducible exact H) | (with_reducible apply Hp.alloc) | (with_reducible apply Hp.set) | (with_reducible apply Hp.drew) | (with_reducible apply Hp.drewN) | (with_reducible apply Hp.bytesW) | (with_reducible exact Upd.here) | (with_reducible exact Upd.hereR) | (with_reducible apply Upd.there) | (with_reducible apply Sz.alloc) | (with_reducible apply Sz.set) | (with_reducible apply Sz.drew) | (with_reducible apply Sz.drewN) | (with_reducible apply Sz.bytesW) | (with_reducible assumption) | (with_reducible exact Sz.base _)))))).mono ?_; rintro e w1 ⟨rfl, hb1⟩; replace H := Hp.step (by repeat (first | (with_reducible exact H) | (with_reducible apply Hp.alloc) | (with_reducible apply Hp.set) | (with_reducible apply Hp.drew) | (with_reducible apply Hp.drewN) | (with_reducible apply Hp.bytesW) | (with_reducible exact Upd.here) | (with_reducible exact Upd.hereR) | (with_reducible apply Upd.there) | (with_reducible apply Sz.alloc) | (with_reducible apply Sz.set) | (with_reducible apply Sz.drew) | (with_reducible apply Sz.drewN) | (with_reducible apply Sz.bytesW) | (with_reducible assumption) | (with_reducible exact Sz.base _))) hb1; (try simp only [List.set_cons_zero, List.set_cons_succ, List.cons_append, List.nil_append] at H); have F := H.facts; simp only [Facts, NeF, box, row, reg, cellsF, ne_eq, true_and, and_true, Nat.reduceAdd, Nat.zero_add] at F))
    all_goals
      go_ret
      exact ⟨by simp [leaseOk, *], Hp.b (by repeat (first | (with_reducible exact H) | (with_reducible apply Hp.alloc) | (with_reducible apply Hp.set) | (with_reducible apply Hp.drew) | (with_reducible apply Hp.drewN) | (with_reducible apply Hp.bytesW) | (with_reducible exact Upd.here) | (with_reducible exact Upd.hereR) | (with_reducible apply Upd.there) | (with_reducible apply Sz.alloc) | (with_reducible apply Sz.set) | (with_reducible apply Sz.drew) | (with_reducible apply Sz.drewN) | (with_reducible apply Sz.bytesW) | (with_reducible assumption) | (with_reducible exact Sz.base _)))⟩
  | true =>
    obtain ⟨h5, h6⟩ := inR_true.1 h4
    go_enter Tryd.func56, Tryd.ntmps56
    go_wp2_with (first | (go_at_call 78; refine (within_any _ _ _ _).mono ?_; rintro e w' ⟨rfl, rfl⟩; (try rw [h4])) | (go_at_call 41; refine (isPath_any _ _ hs (hml.on (Hp.b (by repeat (first | (with_reducible exact H) | (with_reducible apply Hp.alloc) | (with_reducible apply Hp.set) | (with_reducible apply Hp.drew) | (with_reducible apply Hp.drewN) | (with_reducible apply Hp.bytesW) | (with_reducible exact Upd.here) | (with_reducible exact Upd.hereR) | (with_reducible apply Upd.there) | (with_reducible apply Sz.alloc) | (with_reducible apply Sz.set) | (with_reducible apply Sz.drew) | (with_reducible apply Sz.drewN) | (with_reducible apply Sz.bytesW) | (with_reducible assumption) | (with_reducible exact Sz.base _)))))).mono ?_; rintro e w1 ⟨rfl, hb1⟩; replace H := Hp.step (by repeat (first | (with_reducible exact H) | (with_reducible apply Hp.alloc) | (with_reducible apply Hp.set) | (with_reducible apply Hp.drew) | (with_reducible apply Hp.drewN) | (with_reducible apply Hp.bytesW) | (with_reducible exact Upd.here) | (with_reducible exact Upd.hereR) | (with_reducible apply Upd.there) | (with_reducible apply Sz.alloc) | (with_reducible apply Sz.set) | (with_reducible apply Sz.drew) | (with_reducible apply Sz.drewN) | (with_reducible apply Sz.bytesW) | (with_reducible assumption) | (with_reducible exact Sz.base _))) hb1; (try simp only [List.set_cons_zero, List.set_cons_succ, List.cons_append, List.nil_append] at H); have F := H.facts; simp only [Facts, NeF, box, row, reg, cellsF, ne_eq, true_and, and_true, Nat.reduceAdd, Nat.zero_add] at F))
    all_goals
      go_ret
      exact ⟨by simp [leaseOk, *], Hp.b (by repeat (first | (with_reducible exact H) | (with_reducible apply Hp.alloc) | (with_reducible apply Hp.set) | (with_reducible apply Hp.drew) | (with_reducible apply Hp.drewN) | (with_reducible apply Hp.bytesW) | (with_reducible exact Upd.here) | (with_reducible exact Upd.hereR) | (with_reducible apply Upd.there) | (with_reducible apply Sz.alloc) | (with_reducible apply Sz.set) | (with_reducible apply Sz.drew) | (with_reducible apply Sz.drewN) | (with_reducible apply Sz.bytesW) | (with_reducible assumption) | (with_reducible exact Sz.base _)))⟩
end Go.Proofs.YtlmmeeeoljlgcaaDoor
