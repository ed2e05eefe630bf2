/- Leases: the search for one. No condition. -/
import Derived.Test.YtfoochgnilnddaaDoorLeaseC
import Derived.Test.YtfoochgnilnddaaDoorRenewP
namespace Go.Proofs.YtfoochgnilnddaaDoor
open Go.RowKit
set_option linter.unusedVariables false
set_option linter.unusedSimpArgs false
set_option maxHeartbeats 4000000 in
set_option maxRecDepth 10000 in
theorem FindLease_any (A : Option Addr) (n c : Nat) (us : List Lease) (x : Int) (l0 : Lease) (b0 : Bool) (w : World) (hd : findU us x = (l0, b0)) (hr : Rd w w.heap.size 6 A n c (us.flatMap encLease)) (hn : us.length = n) (hsz : ∀ u ∈ us, LeaseFits u) :
    Calls Tryd.prog 53 #[.agg #[.slice A n c], .int .i64 x] w fun e w' => e = .returned (.tuple #[valLease l0, .bool b0]) ∧ Below w.heap.size w w' := by
  have hc := hr.2.1
  have hm := hr.2.2.1
  unfold maxLen at hm
  have H := Hp.nil w
  have HD := Lib.hid hd; clear hd
  cases h1 : bookOk us with
  | false =>
    have HR : Hid ((zeroL, false) = (l0, b0)) := by show _ = _; rw [← HD.out, findU, if_neg (by rw [h1]; decide)]
    go_enter Tryd.func53, Tryd.ntmps53
    go_wp2_with (go_at_call 40; refine (specBookOk_any A n c us _ (hr.grow (Hp.b (by repeat (first | (with_reducible exact H) | (with_reducible apply Hp.alloc) | (with_reducible apply Hp.set) | (with_reducible apply Hp.drew) | (with_reducible apply Hp.drewN) | (with_reducible apply Hp.bytesW) | (with_reducible exact Upd.here) | (with_reducible exact Upd.hereR) | (with_reducible apply Upd.there) | (with_reducible apply Sz.alloc) | (with_reducible apply Sz.set) | (with_reducible apply Sz.drew) | (with_reducible apply Sz.drewN) | (with_reducible apply Sz.bytesW) | (with_reducible assumption) | (with_reducible exact Sz.base _))))) hn hsz).mono ?_; rintro e w1 ⟨rfl, hb1⟩; rw [h1]; replace H := Hp.step (by repeat (first | (with_reducible exact H) | (with_reducible apply Hp.alloc) | (with_reducible apply Hp.set) | (with_reducible apply Hp.drew) | (with_reducible apply Hp.drewN) | (with_reducible apply Hp.bytesW) | (with_reducible exact Upd.here) | (with_reducible exact Upd.hereR) | (with_reducible apply Upd.there) | (with_reducible apply Sz.alloc) | (with_reducible apply Sz.set) | (with_reducible apply Sz.drew) | (with_reducible apply Sz.drewN) | (with_reducible apply Sz.bytesW) | (with_reducible assumption) | (with_reducible exact Sz.base _))) hb1; (try simp only [List.set_cons_zero, List.set_cons_succ, List.cons_append, List.nil_append] at H); clear hb1; have F := H.facts; simp only [Facts, NeF, box, row, reg, cellsF, ne_eq, true_and, and_true, Nat.reduceAdd, Nat.zero_add] at F)
    obtain ⟨rfl, rfl⟩ := Prod.mk.inj HR.out
    exact bodyPost_ret (v := .tuple #[.agg #[.int .i64 0, .int .i64 0, .string ⟨#[]⟩, .int .i64 0, .int .i64 0, .int .i64 0], .bool false]) (by simp [results, Tryd.results53, go_sem, F] <;> omega) rfl ⟨rfl, Hp.b (by repeat (first | (with_reducible exact H) | (with_reducible apply Hp.alloc) | (with_reducible apply Hp.set) | (with_reducible apply Hp.drew) | (with_reducible apply Hp.drewN) | (with_reducible apply Hp.bytesW) | (with_reducible exact Upd.here) | (with_reducible exact Upd.hereR) | (with_reducible apply Upd.there) | (with_reducible apply Sz.alloc) | (with_reducible apply Sz.set) | (with_reducible apply Sz.drew) | (with_reducible apply Sz.drewN) | (with_reducible apply Sz.bytesW) | (with_reducible assumption) | (with_reducible exact Sz.base _)))⟩
  | true =>
  have HE : Hid ((match findL x us with | some l => (l, true) | none => (zeroL, false)) = (l0, b0)) := by show _ = _; rw [← HD.out, findU, if_pos h1]; rfl
  clear HD
  go_enter Tryd.func53, Tryd.ntmps53
  go_wp2_with (go_at_call 40; refine (specBookOk_any A n c us _ (hr.grow (Hp.b (by repeat (first | (with_reducible exact H) | (with_reducible apply Hp.alloc) | (with_reducible apply Hp.set) | (with_reducible apply Hp.drew) | (with_reducible apply Hp.drewN) | (with_reducible apply Hp.bytesW) | (with_reducible exact Upd.here) | (with_reducible exact Upd.hereR) | (with_reducible apply Upd.there) | (with_reducible apply Sz.alloc) | (with_reducible apply Sz.set) | (with_reducible apply Sz.drew) | (with_reducible apply Sz.drewN) | (with_reducible apply Sz.bytesW) | (with_reducible assumption) | (with_reducible exact Sz.base _))))) hn hsz).mono ?_; rintro e w1 ⟨rfl, hb1⟩; rw [h1]; replace H := Hp.step (by repeat (first | (with_reducible exact H) | (with_reducible apply Hp.alloc) | (with_reducible apply Hp.set) | (with_reducible apply Hp.drew) | (with_reducible apply Hp.drewN) | (with_reducible apply Hp.bytesW) | (with_reducible exact Upd.here) | (with_reducible exact Upd.hereR) | (with_reducible apply Upd.there) | (with_reducible apply Sz.alloc) | (with_reducible apply Sz.set) | (with_reducible apply Sz.drew) | (with_reducible apply Sz.drewN) | (with_reducible apply Sz.bytesW) | (with_reducible assumption) | (with_reducible exact Sz.base _))) hb1; (try simp only [List.set_cons_zero, List.set_cons_succ, List.cons_append, List.nil_append] at H); clear hb1; have F := H.facts; simp only [Facts, NeF, box, row, reg, cellsF, ne_eq, true_and, and_true, Nat.reduceAdd, Nat.zero_add] at F)
  have HH := Lib.hid H; clear H
  go_loop [6] (fun i => ∃ k : Nat, k ≤ n ∧ i = .int .i64 k ∧ Hid (findL x us = findL x (us.drop k))) (fun i => n - (intOf i).toNat)
  case atStart => exact ⟨0, Nat.zero_le _, rfl, rfl⟩
  case round =>
    obtain ⟨k, hk, rfl, HA⟩ := hrel
    by_cases hlt : k < n
    · obtain ⟨b, off, rfl, hb⟩ := Rd.at encLease_len hr hn (by omega)
      obtain ⟨e0, e1, e2, e3, e4, e5⟩ := Rd.leaseAt hr hn (k := k) (by omega) rfl w1 HH.out.b
      have hk1 : (k : Int) < (n : Int) := by omega
      have hk0 : (0 : Int) ≤ (k : Int) := by omega
      have hbw : b < w1.heap.size := Nat.lt_of_lt_of_le hb HH.out.b.size
      have hbe : (¬ b = w.heap.size ∧ ¬ w.heap.size = b) ∧ (¬ b = w.heap.size + 1 ∧ ¬ w.heap.size + 1 = b) := by omega
      by_cases h : (us[k]'(by omega)).id = x
      · have HN : Hid (((us[k]'(by omega)), true) = (l0, b0)) := by show _ = _; rw [← HE.out, HA.out, findL_hit (by omega) h]
        generalize (us[k]'(by omega)) = l at *
        go_wp2_with fail
        obtain ⟨rfl, rfl⟩ := Prod.mk.inj HN.out
        exact bodyPost_ret (v := .tuple #[valLease l, .bool true]) (by simp [results, Tryd.results53, go_sem, F] <;> omega) rfl ⟨rfl, Hp.b (by repeat (first | (with_reducible exact HH.out) | (with_reducible apply Hp.alloc) | (with_reducible apply Hp.set) | (with_reducible apply Hp.drew) | (with_reducible apply Hp.drewN) | (with_reducible apply Hp.bytesW) | (with_reducible exact Upd.here) | (with_reducible exact Upd.hereR) | (with_reducible apply Upd.there) | (with_reducible apply Sz.alloc) | (with_reducible apply Sz.set) | (with_reducible apply Sz.drew) | (with_reducible apply Sz.drewN) | (with_reducible apply Sz.bytesW) | (with_reducible assumption) | (with_reducible exact Sz.base _)))⟩
      · have HN : Hid (findL x us = findL x (us.drop (k + 1))) := by show _ = _; rw [HA.out, findL_skip (by omega) h]
        generalize (us[k]'(by omega)) = l at *
        go_wp2_with fail
        go_round
        case rel => exact ⟨k + 1, by omega, by go_num, HN⟩
        case measure => simp [intOf]; omega
    · have HN : Hid ((zeroL, false) = (l0, b0)) := by show _ = _; rw [← HE.out, HA.out, List.drop_eq_nil_of_le (by omega)]; rfl
      go_wp2_with fail
      obtain ⟨rfl, rfl⟩ := Prod.mk.inj HN.out
      exact bodyPost_ret (v := .tuple #[.agg #[.int .i64 0, .int .i64 0, .string ⟨#[]⟩, .int .i64 0, .int .i64 0, .int .i64 0], .bool false]) (by simp [results, Tryd.results53, go_sem, F] <;> omega) rfl ⟨rfl, Hp.b (by repeat (first | (with_reducible exact HH.out) | (with_reducible apply Hp.alloc) | (with_reducible apply Hp.set) | (with_reducible apply Hp.drew) | (with_reducible apply Hp.drewN) | (with_reducible apply Hp.bytesW) | (with_reducible exact Upd.here) | (with_reducible exact Upd.hereR) | (with_reducible apply Upd.there) | (with_reducible apply Sz.alloc) | (with_reducible apply Sz.set) | (with_reducible apply Sz.drew) | (with_reducible apply Sz.drewN) | (with_reducible apply Sz.bytesW) | (with_reducible assumption) | (with_reducible exact Sz.base _)))⟩
end Go.Proofs.YtfoochgnilnddaaDoor
