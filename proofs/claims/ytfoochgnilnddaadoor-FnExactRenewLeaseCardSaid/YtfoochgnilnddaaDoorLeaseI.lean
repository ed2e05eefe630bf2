/- Leases: the reference's renewal of one. No condition. -/
import Derived.Test.YtfoochgnilnddaaDoorLeaseH
namespace Go.Proofs.YtfoochgnilnddaaDoor
open Go.RowKit
set_option linter.unusedVariables false
set_option linter.unusedSimpArgs false
set_option maxHeartbeats 8000000 in
set_option maxRecDepth 10000 in
theorem specRenewLease_hp (A : Option Addr) (n c : Nat) (us : List Lease) (x now by_ : Int) (rs : List Lease) (re : Int) (w : World) (hd : renU us x now by_ = (rs, re)) (hr : Rd w w.heap.size 6 A n c (us.flatMap encLease)) (hn : us.length = n) (hb20 : n ≤ 1048576) (hsz : ∀ u ∈ us, LeaseFits u) :
    Calls Tryd.prog 21 #[.agg #[.slice A n c], .int .i64 x, .int .i64 now, .int .i64 by_] w fun e w' => ∃ A1 c1, e = .returned (.tuple #[.agg #[.slice A1 rs.length c1], .int .i64 re]) ∧ Hp w w' [rLease A1 c1 rs] := by
  subst hn
  have hc := hr.2.1
  have hm := hr.2.2.1
  unfold maxLen at hm
  have H := Hp.nil w
  have HD := Lib.hid hd; clear hd
  obtain ⟨⟨l0, b0⟩, hfu⟩ : ∃ r, findU us x = r := ⟨_, rfl⟩
  have HFU := Lib.hid hfu; clear hfu
  cases b0 with
  | false =>
    have HR : Hid ((us, (0 : Int)) = (rs, re)) := by show _ = _; rw [← HD.out, renU_lost HFU.out]
    clear HD
    obtain ⟨lid, ltoken, lpath, lmade, lends, llimit⟩ := l0
    go_enter Tryd.func21, Tryd.ntmps21
    go_wp2_with (first | (go_at_call 53; refine (FindLease_any A us.length c us x _ _ _ HFU.out (hr.grow (Hp.b (by repeat (first | (with_reducible exact H) | (with_reducible apply Hp.alloc) | (with_reducible apply Hp.set) | (with_reducible apply Hp.drew) | (with_reducible apply Hp.drewN) | (with_reducible apply Hp.bytesW) | (with_reducible exact Upd.here) | (with_reducible exact Upd.hereR) | (with_reducible apply Upd.there) | (with_reducible apply Sz.alloc) | (with_reducible apply Sz.set) | (with_reducible apply Sz.drew) | (with_reducible apply Sz.drewN) | (with_reducible apply Sz.bytesW) | (with_reducible assumption) | (with_reducible exact Sz.base _))))) rfl hsz).mono ?_; rintro e w1 ⟨rfl, hb1⟩; replace H := Hp.step (by repeat (first | (with_reducible exact H) | (with_reducible apply Hp.alloc) | (with_reducible apply Hp.set) | (with_reducible apply Hp.drew) | (with_reducible apply Hp.drewN) | (with_reducible apply Hp.bytesW) | (with_reducible exact Upd.here) | (with_reducible exact Upd.hereR) | (with_reducible apply Upd.there) | (with_reducible apply Sz.alloc) | (with_reducible apply Sz.set) | (with_reducible apply Sz.drew) | (with_reducible apply Sz.drewN) | (with_reducible apply Sz.bytesW) | (with_reducible assumption) | (with_reducible exact Sz.base _))) hb1; (try simp only [List.set_cons_zero, List.set_cons_succ, List.cons_append, List.nil_append] at H); clear hb1; have F := H.facts; simp only [Facts, NeF, box, row, reg, cellsF, rLease, ne_eq, true_and, and_true, Nat.reduceAdd, Nat.zero_add] at F) | (go_at_call 56; refine (l01In_any _ _ _ _).mono ?_; rintro e w' ⟨rfl, rfl⟩; (first | rw [h5] | rw [h6])) | (go_at_call 42; refine (l09Copy_hp A us.length c us _ (hr.grow (Hp.b (by repeat (first | (with_reducible exact H) | (with_reducible apply Hp.alloc) | (with_reducible apply Hp.set) | (with_reducible apply Hp.drew) | (with_reducible apply Hp.drewN) | (with_reducible apply Hp.bytesW) | (with_reducible exact Upd.here) | (with_reducible exact Upd.hereR) | (with_reducible apply Upd.there) | (with_reducible apply Sz.alloc) | (with_reducible apply Sz.set) | (with_reducible apply Sz.drew) | (with_reducible apply Sz.drewN) | (with_reducible apply Sz.bytesW) | (with_reducible assumption) | (with_reducible exact Sz.base _))))) rfl hb20).mono ?_; rintro e w3 ⟨A3, c3, rfl, h3⟩; replace H := Hp.call (by repeat (first | (with_reducible exact H) | (with_reducible apply Hp.alloc) | (with_reducible apply Hp.set) | (with_reducible apply Hp.drew) | (with_reducible apply Hp.drewN) | (with_reducible apply Hp.bytesW) | (with_reducible exact Upd.here) | (with_reducible exact Upd.hereR) | (with_reducible apply Upd.there) | (with_reducible apply Sz.alloc) | (with_reducible apply Sz.set) | (with_reducible apply Sz.drew) | (with_reducible apply Sz.drewN) | (with_reducible apply Sz.bytesW) | (with_reducible assumption) | (with_reducible exact Sz.base _))) h3; (try simp only [List.set_cons_zero, List.set_cons_succ, List.cons_append, List.nil_append] at H); clear h3 F; have F := H.facts; simp only [Facts, NeF, box, row, reg, cellsF, rLease, ne_eq, true_and, and_true, Nat.reduceAdd, Nat.zero_add] at F))
    obtain ⟨rfl, rfl⟩ := Prod.mk.inj HR.out
    refine bodyPost_ret (v := .tuple #[.agg #[.slice A3 us.length c3], .int .i64 0]) (by simp [results, Tryd.results21, go_sem, F] <;> omega) rfl ⟨A3, c3, rfl, (by refine Hp.sel (by repeat (first | (with_reducible exact H) | (with_reducible apply Hp.alloc) | (with_reducible apply Hp.set) | (with_reducible apply Hp.drew) | (with_reducible apply Hp.drewN) | (with_reducible apply Hp.bytesW) | (with_reducible exact Upd.here) | (with_reducible exact Upd.hereR) | (with_reducible apply Upd.there) | (with_reducible apply Sz.alloc) | (with_reducible apply Sz.set) | (with_reducible apply Sz.drew) | (with_reducible apply Sz.drewN) | (with_reducible apply Sz.bytesW) | (with_reducible assumption) | (with_reducible exact Sz.base _))) ?_; (try simp only [List.set_cons_zero, List.set_cons_succ]); exact (by repeat (first | (with_reducible exact Sel.nil) | (with_reducible apply Sel.cons) | (with_reducible exact Del.here) | (with_reducible apply Del.there))))⟩
  | true =>
  obtain ⟨hlo, hbo0, hfl⟩ := findU_ok HFU.out
  have hlb := lease_bounds hlo
  clear hlo
  cases hok : renOk l0 now by_ with
  | false =>
    have HR : Hid ((us, (0 : Int)) = (rs, re)) := by show _ = _; rw [← HD.out, renU_not hfl hok]
    clear HD hfl hbo0
    obtain ⟨lid, ltoken, lpath, lmade, lends, llimit⟩ := l0
    dsimp only at hlb
    have hwe : IntKind.i64.wrap (lends - 1) = lends - 1 := by rw [IntKind.wrap_i64]; omega
    unfold renOk at hok
    cases h5 : inR by_ 1 1000000000 with
    | false =>
      clear hok
      go_enter Tryd.func21, Tryd.ntmps21
      go_wp2_with (first | (go_at_call 53; refine (FindLease_any A us.length c us x _ _ _ HFU.out (hr.grow (Hp.b (by repeat (first | (with_reducible exact H) | (with_reducible apply Hp.alloc) | (with_reducible apply Hp.set) | (with_reducible apply Hp.drew) | (with_reducible apply Hp.drewN) | (with_reducible apply Hp.bytesW) | (with_reducible exact Upd.here) | (with_reducible exact Upd.hereR) | (with_reducible apply Upd.there) | (with_reducible apply Sz.alloc) | (with_reducible apply Sz.set) | (with_reducible apply Sz.drew) | (with_reducible apply Sz.drewN) | (with_reducible apply Sz.bytesW) | (with_reducible assumption) | (with_reducible exact Sz.base _))))) rfl hsz).mono ?_; rintro e w1 ⟨rfl, hb1⟩; replace H := Hp.step (by repeat (first | (with_reducible exact H) | (with_reducible apply Hp.alloc) | (with_reducible apply Hp.set) | (with_reducible apply Hp.drew) | (with_reducible apply Hp.drewN) | (with_reducible apply Hp.bytesW) | (with_reducible exact Upd.here) | (with_reducible exact Upd.hereR) | (with_reducible apply Upd.there) | (with_reducible apply Sz.alloc) | (with_reducible apply Sz.set) | (with_reducible apply Sz.drew) | (with_reducible apply Sz.drewN) | (with_reducible apply Sz.bytesW) | (with_reducible assumption) | (with_reducible exact Sz.base _))) hb1; (try simp only [List.set_cons_zero, List.set_cons_succ, List.cons_append, List.nil_append] at H); clear hb1; have F := H.facts; simp only [Facts, NeF, box, row, reg, cellsF, rLease, ne_eq, true_and, and_true, Nat.reduceAdd, Nat.zero_add] at F) | (go_at_call 56; refine (l01In_any _ _ _ _).mono ?_; rintro e w' ⟨rfl, rfl⟩; (first | rw [h5] | rw [h6])) | (go_at_call 42; refine (l09Copy_hp A us.length c us _ (hr.grow (Hp.b (by repeat (first | (with_reducible exact H) | (with_reducible apply Hp.alloc) | (with_reducible apply Hp.set) | (with_reducible apply Hp.drew) | (with_reducible apply Hp.drewN) | (with_reducible apply Hp.bytesW) | (with_reducible exact Upd.here) | (with_reducible exact Upd.hereR) | (with_reducible apply Upd.there) | (with_reducible apply Sz.alloc) | (with_reducible apply Sz.set) | (with_reducible apply Sz.drew) | (with_reducible apply Sz.drewN) | (with_reducible apply Sz.bytesW) | (with_reducible assumption) | (with_reducible exact Sz.base _))))) rfl hb20).mono ?_; rintro e w3 ⟨A3, c3, rfl, h3⟩; replace H := Hp.call (by repeat (first | (with_reducible exact H) | (with_reducible apply Hp.alloc) | (with_reducible apply Hp.set) | (with_reducible apply Hp.drew) | (with_reducible apply Hp.drewN) | (with_reducible apply Hp.bytesW) | (with_reducible exact Upd.here) | (with_reducible exact Upd.hereR) | (with_reducible apply Upd.there) | (with_reducible apply Sz.alloc) | (with_reducible apply Sz.set) | (with_reducible apply Sz.drew) | (with_reducible apply Sz.drewN) | (with_reducible apply Sz.bytesW) | (with_reducible assumption) | (with_reducible exact Sz.base _))) h3; (try simp only [List.set_cons_zero, List.set_cons_succ, List.cons_append, List.nil_append] at H); clear h3 F; have F := H.facts; simp only [Facts, NeF, box, row, reg, cellsF, rLease, ne_eq, true_and, and_true, Nat.reduceAdd, Nat.zero_add] at F))
      obtain ⟨rfl, rfl⟩ := Prod.mk.inj HR.out
      refine bodyPost_ret (v := .tuple #[.agg #[.slice A3 us.length c3], .int .i64 0]) (by simp [results, Tryd.results21, go_sem, F] <;> omega) rfl ⟨A3, c3, rfl, (by refine Hp.sel (by repeat (first | (with_reducible exact H) | (with_reducible apply Hp.alloc) | (with_reducible apply Hp.set) | (with_reducible apply Hp.drew) | (with_reducible apply Hp.drewN) | (with_reducible apply Hp.bytesW) | (with_reducible exact Upd.here) | (with_reducible exact Upd.hereR) | (with_reducible apply Upd.there) | (with_reducible apply Sz.alloc) | (with_reducible apply Sz.set) | (with_reducible apply Sz.drew) | (with_reducible apply Sz.drewN) | (with_reducible apply Sz.bytesW) | (with_reducible assumption) | (with_reducible exact Sz.base _))) ?_; (try simp only [List.set_cons_zero, List.set_cons_succ]); exact (by repeat (first | (with_reducible exact Sel.nil) | (with_reducible apply Sel.cons) | (with_reducible exact Del.here) | (with_reducible apply Del.there))))⟩
    | true =>
      have h6 : inR now lmade (lends - 1) = false := by rw [h5] at hok; simpa using hok
      clear hok
      go_enter Tryd.func21, Tryd.ntmps21
      go_wp2_with (first | (go_at_call 53; refine (FindLease_any A us.length c us x _ _ _ HFU.out (hr.grow (Hp.b (by repeat (first | (with_reducible exact H) | (with_reducible apply Hp.alloc) | (with_reducible apply Hp.set) | (with_reducible apply Hp.drew) | (with_reducible apply Hp.drewN) | (with_reducible apply Hp.bytesW) | (with_reducible exact Upd.here) | (with_reducible exact Upd.hereR) | (with_reducible apply Upd.there) | (with_reducible apply Sz.alloc) | (with_reducible apply Sz.set) | (with_reducible apply Sz.drew) | (with_reducible apply Sz.drewN) | (with_reducible apply Sz.bytesW) | (with_reducible assumption) | (with_reducible exact Sz.base _))))) rfl hsz).mono ?_; rintro e w1 ⟨rfl, hb1⟩; replace H := Hp.step (by repeat (first | (with_reducible exact H) | (with_reducible apply Hp.alloc) | (with_reducible apply Hp.set) | (with_reducible apply Hp.drew) | (with_reducible apply Hp.drewN) | (with_reducible apply Hp.bytesW) | (with_reducible exact Upd.here) | (with_reducible exact Upd.hereR) | (with_reducible apply Upd.there) | (with_reducible apply Sz.alloc) | (with_reducible apply Sz.set) | (with_reducible apply Sz.drew) | (with_reducible apply Sz.drewN) | (with_reducible apply Sz.bytesW) | (with_reducible assumption) | (with_reducible exact Sz.base _))) hb1; (try simp only [List.set_cons_zero, List.set_cons_succ, List.cons_append, List.nil_append] at H); clear hb1; have F := H.facts; simp only [Facts, NeF, box, row, reg, cellsF, rLease, ne_eq, true_and, and_true, Nat.reduceAdd, Nat.zero_add] at F) | (go_at_call 56; refine (l01In_any _ _ _ _).mono ?_; rintro e w' ⟨rfl, rfl⟩; (first | rw [h5] | rw [h6])) | (go_at_call 42; refine (l09Copy_hp A us.length c us _ (hr.grow (Hp.b (by repeat (first | (with_reducible exact H) | (with_reducible apply Hp.alloc) | (with_reducible apply Hp.set) | (with_reducible apply Hp.drew) | (with_reducible apply Hp.drewN) | (with_reducible apply Hp.bytesW) | (with_reducible exact Upd.here) | (with_reducible exact Upd.hereR) | (with_reducible apply Upd.there) | (with_reducible apply Sz.alloc) | (with_reducible apply Sz.set) | (with_reducible apply Sz.drew) | (with_reducible apply Sz.drewN) | (with_reducible apply Sz.bytesW) | (with_reducible assumption) | (with_reducible exact Sz.base _))))) rfl hb20).mono ?_; rintro e w3 ⟨A3, c3, rfl, h3⟩; replace H := Hp.call (by repeat (first | (with_reducible exact H) | (with_reducible apply Hp.alloc) | (with_reducible apply Hp.set) | (with_reducible apply Hp.drew) | (with_reducible apply Hp.drewN) | (with_reducible apply Hp.bytesW) | (with_reducible exact Upd.here) | (with_reducible exact Upd.hereR) | (with_reducible apply Upd.there) | (with_reducible apply Sz.alloc) | (with_reducible apply Sz.set) | (with_reducible apply Sz.drew) | (with_reducible apply Sz.drewN) | (with_reducible apply Sz.bytesW) | (with_reducible assumption) | (with_reducible exact Sz.base _))) h3; (try simp only [List.set_cons_zero, List.set_cons_succ, List.cons_append, List.nil_append] at H); clear h3 F; have F := H.facts; simp only [Facts, NeF, box, row, reg, cellsF, rLease, ne_eq, true_and, and_true, Nat.reduceAdd, Nat.zero_add] at F))
      obtain ⟨rfl, rfl⟩ := Prod.mk.inj HR.out
      refine bodyPost_ret (v := .tuple #[.agg #[.slice A3 us.length c3], .int .i64 0]) (by simp [results, Tryd.results21, go_sem, F] <;> omega) rfl ⟨A3, c3, rfl, (by refine Hp.sel (by repeat (first | (with_reducible exact H) | (with_reducible apply Hp.alloc) | (with_reducible apply Hp.set) | (with_reducible apply Hp.drew) | (with_reducible apply Hp.drewN) | (with_reducible apply Hp.bytesW) | (with_reducible exact Upd.here) | (with_reducible exact Upd.hereR) | (with_reducible apply Upd.there) | (with_reducible apply Sz.alloc) | (with_reducible apply Sz.set) | (with_reducible apply Sz.drew) | (with_reducible apply Sz.drewN) | (with_reducible apply Sz.bytesW) | (with_reducible assumption) | (with_reducible exact Sz.base _))) ?_; (try simp only [List.set_cons_zero, List.set_cons_succ]); exact (by repeat (first | (with_reducible exact Sel.nil) | (with_reducible apply Sel.cons) | (with_reducible exact Del.here) | (with_reducible apply Del.there))))⟩
  | true =>
  have HR : Hid ((renL x (endsF l0 now by_) us, endsF l0 now by_) = (rs, re)) := by show _ = _; rw [← HD.out, renU_yes hbo0 hfl hok]
  clear HD hfl hbo0
  obtain ⟨lid, ltoken, lpath, lmade, lends, llimit⟩ := l0
  dsimp only at hlb
  have hwe : IntKind.i64.wrap (lends - 1) = lends - 1 := by rw [IntKind.wrap_i64]; omega
  obtain ⟨h5, h6⟩ : inR by_ 1 1000000000 = true ∧ inR now lmade (lends - 1) = true := by simpa [renOk] using hok
  obtain ⟨⟨g1, g2⟩, g3, g4⟩ : (1 ≤ by_ ∧ by_ ≤ 1000000000) ∧ lmade ≤ now ∧ now ≤ lends - 1 := ⟨inR_true.1 h5, inR_true.1 h6⟩
  clear hok
  have hwa : IntKind.i64.wrap (now + by_) = now + by_ := by rw [IntKind.wrap_i64]; omega
  by_cases hlim : llimit < now + by_
  · have hd1 : decide (llimit < now + by_) = true := decide_eq_true hlim
    go_enter Tryd.func21, Tryd.ntmps21
    go_wp2_with (first | (go_at_call 53; refine (FindLease_any A us.length c us x _ _ _ HFU.out (hr.grow (Hp.b (by repeat (first | (with_reducible exact H) | (with_reducible apply Hp.alloc) | (with_reducible apply Hp.set) | (with_reducible apply Hp.drew) | (with_reducible apply Hp.drewN) | (with_reducible apply Hp.bytesW) | (with_reducible exact Upd.here) | (with_reducible exact Upd.hereR) | (with_reducible apply Upd.there) | (with_reducible apply Sz.alloc) | (with_reducible apply Sz.set) | (with_reducible apply Sz.drew) | (with_reducible apply Sz.drewN) | (with_reducible apply Sz.bytesW) | (with_reducible assumption) | (with_reducible exact Sz.base _))))) rfl hsz).mono ?_; rintro e w1 ⟨rfl, hb1⟩; replace H := Hp.step (by repeat (first | (with_reducible exact H) | (with_reducible apply Hp.alloc) | (with_reducible apply Hp.set) | (with_reducible apply Hp.drew) | (with_reducible apply Hp.drewN) | (with_reducible apply Hp.bytesW) | (with_reducible exact Upd.here) | (with_reducible exact Upd.hereR) | (with_reducible apply Upd.there) | (with_reducible apply Sz.alloc) | (with_reducible apply Sz.set) | (with_reducible apply Sz.drew) | (with_reducible apply Sz.drewN) | (with_reducible apply Sz.bytesW) | (with_reducible assumption) | (with_reducible exact Sz.base _))) hb1; (try simp only [List.set_cons_zero, List.set_cons_succ, List.cons_append, List.nil_append] at H); clear hb1; have F := H.facts; simp only [Facts, NeF, box, row, reg, cellsF, rLease, ne_eq, true_and, and_true, Nat.reduceAdd, Nat.zero_add] at F) | (go_at_call 56; refine (l01In_any _ _ _ _).mono ?_; rintro e w' ⟨rfl, rfl⟩; (first | rw [h5] | rw [h6])) | (go_at_call 42; refine (l09Copy_hp A us.length c us _ (hr.grow (Hp.b (by repeat (first | (with_reducible exact H) | (with_reducible apply Hp.alloc) | (with_reducible apply Hp.set) | (with_reducible apply Hp.drew) | (with_reducible apply Hp.drewN) | (with_reducible apply Hp.bytesW) | (with_reducible exact Upd.here) | (with_reducible exact Upd.hereR) | (with_reducible apply Upd.there) | (with_reducible apply Sz.alloc) | (with_reducible apply Sz.set) | (with_reducible apply Sz.drew) | (with_reducible apply Sz.drewN) | (with_reducible apply Sz.bytesW) | (with_reducible assumption) | (with_reducible exact Sz.base _))))) rfl hb20).mono ?_; rintro e w3 ⟨A3, c3, rfl, h3⟩; replace H := Hp.call (by repeat (first | (with_reducible exact H) | (with_reducible apply Hp.alloc) | (with_reducible apply Hp.set) | (with_reducible apply Hp.drew) | (with_reducible apply Hp.drewN) | (with_reducible apply Hp.bytesW) | (with_reducible exact Upd.here) | (with_reducible exact Upd.hereR) | (with_reducible apply Upd.there) | (with_reducible apply Sz.alloc) | (with_reducible apply Sz.set) | (with_reducible apply Sz.drew) | (with_reducible apply Sz.drewN) | (with_reducible apply Sz.bytesW) | (with_reducible assumption) | (with_reducible exact Sz.base _))) h3; (try simp only [List.set_cons_zero, List.set_cons_succ, List.cons_append, List.nil_append] at H); clear h3 F; have F := H.facts; simp only [Facts, NeF, box, row, reg, cellsF, rLease, ne_eq, true_and, and_true, Nat.reduceAdd, Nat.zero_add] at F))
    obtain ⟨en, hen⟩ : ∃ en, en = endsF ⟨lid, ltoken, lpath, lmade, lends, llimit⟩ now by_ := ⟨_, rfl⟩
    rw [← hen] at HR
    have hen2 : en = llimit := by rw [hen, endsF, if_pos (by assumption)]
    rw [← hen2]
    clear hen hen2
    generalize hbo : w3.heap.size = bo at *
    have HSo : Sz w3 bo := hbo
    clear hbo F
    have HH := Lib.hid H; clear H
    go_loopw [14] (fun i wr => ∃ k : Nat, k ≤ us.length ∧ i = .int .i64 k ∧ ∃ ls, Hid (renT x en us k = ls ∧ ls.length = us.length) ∧ Hid (Hp w wr [row 53 6 (.slice A3 us.length c3) us.length (ls.flatMap encLease), box bo 28 [.slice A3 us.length c3], box (w.heap.size + 1) 28 [.slice none 0 0]])) (fun i _ => us.length - (intOf i).toNat)
    case atStart =>
      have H := HH.out
      exact ⟨0, Nat.zero_le _, rfl, us, ⟨renT_zero _ _ _, rfl⟩, Lib.hid (by refine Hp.sel (by repeat (first | (with_reducible exact H) | (with_reducible apply Hp.alloc) | (with_reducible apply Hp.set) | (with_reducible apply Hp.drew) | (with_reducible apply Hp.drewN) | (with_reducible apply Hp.bytesW) | (with_reducible exact Upd.here) | (with_reducible exact Upd.hereR) | (with_reducible apply Upd.there) | (with_reducible apply Sz.alloc) | (with_reducible apply Sz.set) | (with_reducible apply Sz.drew) | (with_reducible apply Sz.drewN) | (with_reducible apply Sz.bytesW) | (with_reducible assumption) | (with_reducible exact Sz.base _))) ?_; (try simp only [List.set_cons_zero, List.set_cons_succ]); exact (by repeat (first | (with_reducible exact Sel.nil) | (with_reducible apply Sel.cons) | (with_reducible exact Del.here) | (with_reducible apply Del.there))))⟩
    case round =>
      clear HH HSo
      obtain ⟨k, hk, rfl, ls, HX, HP⟩ := hrel
      have H := HP.out
      have F := H.facts; simp only [Facts, NeF, box, row, reg, cellsF, rLease, ne_eq, true_and, and_true, Nat.reduceAdd, Nat.zero_add] at F
      obtain ⟨x1, x2⟩ := HX.out
      by_cases hlt : k < us.length
      · have hrr : Rd wr wr.heap.size 6 A3 us.length c3 (ls.flatMap encLease) := H.rdM (by repeat (first | (with_reducible exact List.mem_cons_self) | (with_reducible apply List.mem_cons_of_mem)))
        have how := H.rowM (L := _) (show row 53 6 (.slice A3 us.length c3) us.length (ls.flatMap encLease) ∈ _ from (by repeat (first | (with_reducible exact List.mem_cons_self) | (with_reducible apply List.mem_cons_of_mem))))
        obtain ⟨g, rfl⟩ : ∃ g, A3 = some ⟨g, 0, none⟩ := by
          rcases how.2 with ⟨e1, e2⟩ | ⟨g, cap, cur, e1, _⟩
          · omega
          · injection e1 with e1 _ _; exact ⟨g, e1⟩
        have hg : ls[k]? = some us[k] := x1 ▸ renT_get hlt
        obtain ⟨hl, he⟩ := List.getElem?_eq_some_iff.1 hg
        have hcs := Rd.leaseAt hrr x2 (k := k) (by omega) rfl wr (Below.refl _ _)
        have hfz := how.frozenAt (k * 6 + 4)
        rw [he] at hcs
        simp only [Nat.zero_add] at hcs
        obtain ⟨e0, e1, e2, e3, e4, e5⟩ := hcs
        have hk1 : (k : Int) < (us.length : Int) := by omega
        have hk0 : (0 : Int) ≤ (k : Int) := by omega
        by_cases hid : us[k].id = x
        · have HN : Hid (renT x en us (k + 1) = ls.set k (withEnds en us[k]) ∧ (ls.set k (withEnds en us[k])).length = us.length) := ⟨by rw [renT_hit hlt hid, x1], by simp [x2]⟩
          have hfs : (ls.flatMap encLease).set (k * 6 + 4) (.int .i64 en) = (ls.set k (withEnds en us[k])).flatMap encLease := by rw [flat_set_ends hl, he]
          clear hg he x1
          generalize us[k] = u at *
          go_wp2_with fail
          go_roundw
          case rel => exact ⟨k + 1, by omega, by go_num, _, HN, Lib.hid (by rw [← hfs]; exact (by refine Hp.sel (by repeat (first | (with_reducible exact H) | (with_reducible apply Hp.alloc) | (with_reducible apply Hp.set) | (with_reducible apply Hp.drew) | (with_reducible apply Hp.drewN) | (with_reducible apply Hp.bytesW) | (with_reducible exact Upd.here) | (with_reducible exact Upd.hereR) | (with_reducible apply Upd.there) | (with_reducible apply Sz.alloc) | (with_reducible apply Sz.set) | (with_reducible apply Sz.drew) | (with_reducible apply Sz.drewN) | (with_reducible apply Sz.bytesW) | (with_reducible assumption) | (with_reducible exact Sz.base _))) ?_; (try simp only [List.set_cons_zero, List.set_cons_succ]); exact (by repeat (first | (with_reducible exact Sel.nil) | (with_reducible apply Sel.cons) | (with_reducible exact Del.here) | (with_reducible apply Del.there)))))⟩
          case measure => simp [intOf]; omega
        · have HN : Hid (renT x en us (k + 1) = ls ∧ ls.length = us.length) := ⟨by rw [renT_skip hlt hid, x1], x2⟩
          clear hg he x1
          generalize us[k] = u at *
          go_wp2_with fail
          go_roundw
          case rel => exact ⟨k + 1, by omega, by go_num, ls, HN, Lib.hid (by refine Hp.sel (by repeat (first | (with_reducible exact H) | (with_reducible apply Hp.alloc) | (with_reducible apply Hp.set) | (with_reducible apply Hp.drew) | (with_reducible apply Hp.drewN) | (with_reducible apply Hp.bytesW) | (with_reducible exact Upd.here) | (with_reducible exact Upd.hereR) | (with_reducible apply Upd.there) | (with_reducible apply Sz.alloc) | (with_reducible apply Sz.set) | (with_reducible apply Sz.drew) | (with_reducible apply Sz.drewN) | (with_reducible apply Sz.bytesW) | (with_reducible assumption) | (with_reducible exact Sz.base _))) ?_; (try simp only [List.set_cons_zero, List.set_cons_succ]); exact (by repeat (first | (with_reducible exact Sel.nil) | (with_reducible apply Sel.cons) | (with_reducible exact Del.here) | (with_reducible apply Del.there))))⟩
          case measure => simp [intOf]; omega
      · have HF : Hid (rs = ls ∧ re = en) := by
          obtain ⟨e1, e2⟩ := Prod.mk.inj HR.out
          have hkk : k = us.length := by omega
          rw [hkk, renT_end] at x1
          exact ⟨by rw [← e1, x1], e2.symm⟩
        obtain ⟨f1, f2⟩ := HF.out
        clear HF HX
        have f3 : rs.length = us.length := by rw [f1, x2]
        clear x1
        go_wp2_with fail
        refine bodyPost_ret (v := .tuple #[.agg #[.slice A3 us.length c3], .int .i64 en]) (by simp [results, Tryd.results21, go_sem, F] <;> omega) rfl ⟨A3, c3, by rw [f2, f3], ?_⟩
        show Hp w _ [row _ _ (.slice A3 rs.length c3) rs.length (rs.flatMap encLease)]
        rw [f3, f1]; exact (by refine Hp.sel (by repeat (first | (with_reducible exact H) | (with_reducible apply Hp.alloc) | (with_reducible apply Hp.set) | (with_reducible apply Hp.drew) | (with_reducible apply Hp.drewN) | (with_reducible apply Hp.bytesW) | (with_reducible exact Upd.here) | (with_reducible exact Upd.hereR) | (with_reducible apply Upd.there) | (with_reducible apply Sz.alloc) | (with_reducible apply Sz.set) | (with_reducible apply Sz.drew) | (with_reducible apply Sz.drewN) | (with_reducible apply Sz.bytesW) | (with_reducible assumption) | (with_reducible exact Sz.base _))) ?_; (try simp only [List.set_cons_zero, List.set_cons_succ]); exact (by repeat (first | (with_reducible exact Sel.nil) | (with_reducible apply Sel.cons) | (with_reducible exact Del.here) | (with_reducible apply Del.there))))
  · have hd1 : decide (llimit < now + by_) = false := decide_eq_false hlim
    go_enter Tryd.func21, Tryd.ntmps21
    go_wp2_with (first | (go_at_call 53; refine (FindLease_any A us.length c us x _ _ _ HFU.out (hr.grow (Hp.b (by repeat (first | (with_reducible exact H) | (with_reducible apply Hp.alloc) | (with_reducible apply Hp.set) | (with_reducible apply Hp.drew) | (with_reducible apply Hp.drewN) | (with_reducible apply Hp.bytesW) | (with_reducible exact Upd.here) | (with_reducible exact Upd.hereR) | (with_reducible apply Upd.there) | (with_reducible apply Sz.alloc) | (with_reducible apply Sz.set) | (with_reducible apply Sz.drew) | (with_reducible apply Sz.drewN) | (with_reducible apply Sz.bytesW) | (with_reducible assumption) | (with_reducible exact Sz.base _))))) rfl hsz).mono ?_; rintro e w1 ⟨rfl, hb1⟩; replace H := Hp.step (by repeat (first | (with_reducible exact H) | (with_reducible apply Hp.alloc) | (with_reducible apply Hp.set) | (with_reducible apply Hp.drew) | (with_reducible apply Hp.drewN) | (with_reducible apply Hp.bytesW) | (with_reducible exact Upd.here) | (with_reducible exact Upd.hereR) | (with_reducible apply Upd.there) | (with_reducible apply Sz.alloc) | (with_reducible apply Sz.set) | (with_reducible apply Sz.drew) | (with_reducible apply Sz.drewN) | (with_reducible apply Sz.bytesW) | (with_reducible assumption) | (with_reducible exact Sz.base _))) hb1; (try simp only [List.set_cons_zero, List.set_cons_succ, List.cons_append, List.nil_append] at H); clear hb1; have F := H.facts; simp only [Facts, NeF, box, row, reg, cellsF, rLease, ne_eq, true_and, and_true, Nat.reduceAdd, Nat.zero_add] at F) | (go_at_call 56; refine (l01In_any _ _ _ _).mono ?_; rintro e w' ⟨rfl, rfl⟩; (first | rw [h5] | rw [h6])) | (go_at_call 42; refine (l09Copy_hp A us.length c us _ (hr.grow (Hp.b (by repeat (first | (with_reducible exact H) | (with_reducible apply Hp.alloc) | (with_reducible apply Hp.set) | (with_reducible apply Hp.drew) | (with_reducible apply Hp.drewN) | (with_reducible apply Hp.bytesW) | (with_reducible exact Upd.here) | (with_reducible exact Upd.hereR) | (with_reducible apply Upd.there) | (with_reducible apply Sz.alloc) | (with_reducible apply Sz.set) | (with_reducible apply Sz.drew) | (with_reducible apply Sz.drewN) | (with_reducible apply Sz.bytesW) | (with_reducible assumption) | (with_reducible exact Sz.base _))))) rfl hb20).mono ?_; rintro e w3 ⟨A3, c3, rfl, h3⟩; replace H := Hp.call (by repeat (first | (with_reducible exact H) | (with_reducible apply Hp.alloc) | (with_reducible apply Hp.set) | (with_reducible apply Hp.drew) | (with_reducible apply Hp.drewN) | (with_reducible apply Hp.bytesW) | (with_reducible exact Upd.here) | (with_reducible exact Upd.hereR) | (with_reducible apply Upd.there) | (with_reducible apply Sz.alloc) | (with_reducible apply Sz.set) | (with_reducible apply Sz.drew) | (with_reducible apply Sz.drewN) | (with_reducible apply Sz.bytesW) | (with_reducible assumption) | (with_reducible exact Sz.base _))) h3; (try simp only [List.set_cons_zero, List.set_cons_succ, List.cons_append, List.nil_append] at H); clear h3 F; have F := H.facts; simp only [Facts, NeF, box, row, reg, cellsF, rLease, ne_eq, true_and, and_true, Nat.reduceAdd, Nat.zero_add] at F))
    obtain ⟨en, hen⟩ : ∃ en, en = endsF ⟨lid, ltoken, lpath, lmade, lends, llimit⟩ now by_ := ⟨_, rfl⟩
    rw [← hen] at HR
    have hen2 : en = now + by_ := by rw [hen, endsF, if_neg (by dsimp only; omega)]
    rw [← hen2]
    clear hen hen2
    generalize hbo : w3.heap.size = bo at *
    have HSo : Sz w3 bo := hbo
    clear hbo F
    have HH := Lib.hid H; clear H
    go_loopw [14] (fun i wr => ∃ k : Nat, k ≤ us.length ∧ i = .int .i64 k ∧ ∃ ls, Hid (renT x en us k = ls ∧ ls.length = us.length) ∧ Hid (Hp w wr [row 53 6 (.slice A3 us.length c3) us.length (ls.flatMap encLease), box bo 28 [.slice A3 us.length c3], box (w.heap.size + 1) 28 [.slice none 0 0]])) (fun i _ => us.length - (intOf i).toNat)
    case atStart =>
      have H := HH.out
      exact ⟨0, Nat.zero_le _, rfl, us, ⟨renT_zero _ _ _, rfl⟩, Lib.hid (by refine Hp.sel (by repeat (first | (with_reducible exact H) | (with_reducible apply Hp.alloc) | (with_reducible apply Hp.set) | (with_reducible apply Hp.drew) | (with_reducible apply Hp.drewN) | (with_reducible apply Hp.bytesW) | (with_reducible exact Upd.here) | (with_reducible exact Upd.hereR) | (with_reducible apply Upd.there) | (with_reducible apply Sz.alloc) | (with_reducible apply Sz.set) | (with_reducible apply Sz.drew) | (with_reducible apply Sz.drewN) | (with_reducible apply Sz.bytesW) | (with_reducible assumption) | (with_reducible exact Sz.base _))) ?_; (try simp only [List.set_cons_zero, List.set_cons_succ]); exact (by repeat (first | (with_reducible exact Sel.nil) | (with_reducible apply Sel.cons) | (with_reducible exact Del.here) | (with_reducible apply Del.there))))⟩
    case round =>
      clear HH HSo
      obtain ⟨k, hk, rfl, ls, HX, HP⟩ := hrel
      have H := HP.out
      have F := H.facts; simp only [Facts, NeF, box, row, reg, cellsF, rLease, ne_eq, true_and, and_true, Nat.reduceAdd, Nat.zero_add] at F
      obtain ⟨x1, x2⟩ := HX.out
      by_cases hlt : k < us.length
      · have hrr : Rd wr wr.heap.size 6 A3 us.length c3 (ls.flatMap encLease) := H.rdM (by repeat (first | (with_reducible exact List.mem_cons_self) | (with_reducible apply List.mem_cons_of_mem)))
        have how := H.rowM (L := _) (show row 53 6 (.slice A3 us.length c3) us.length (ls.flatMap encLease) ∈ _ from (by repeat (first | (with_reducible exact List.mem_cons_self) | (with_reducible apply List.mem_cons_of_mem))))
        obtain ⟨g, rfl⟩ : ∃ g, A3 = some ⟨g, 0, none⟩ := by
          rcases how.2 with ⟨e1, e2⟩ | ⟨g, cap, cur, e1, _⟩
          · omega
          · injection e1 with e1 _ _; exact ⟨g, e1⟩
        have hg : ls[k]? = some us[k] := x1 ▸ renT_get hlt
        obtain ⟨hl, he⟩ := List.getElem?_eq_some_iff.1 hg
        have hcs := Rd.leaseAt hrr x2 (k := k) (by omega) rfl wr (Below.refl _ _)
        have hfz := how.frozenAt (k * 6 + 4)
        rw [he] at hcs
        simp only [Nat.zero_add] at hcs
        obtain ⟨e0, e1, e2, e3, e4, e5⟩ := hcs
        have hk1 : (k : Int) < (us.length : Int) := by omega
        have hk0 : (0 : Int) ≤ (k : Int) := by omega
        by_cases hid : us[k].id = x
        · have HN : Hid (renT x en us (k + 1) = ls.set k (withEnds en us[k]) ∧ (ls.set k (withEnds en us[k])).length = us.length) := ⟨by rw [renT_hit hlt hid, x1], by simp [x2]⟩
          have hfs : (ls.flatMap encLease).set (k * 6 + 4) (.int .i64 en) = (ls.set k (withEnds en us[k])).flatMap encLease := by rw [flat_set_ends hl, he]
          clear hg he x1
          generalize us[k] = u at *
          go_wp2_with fail
          go_roundw
          case rel => exact ⟨k + 1, by omega, by go_num, _, HN, Lib.hid (by rw [← hfs]; exact (by refine Hp.sel (by repeat (first | (with_reducible exact H) | (with_reducible apply Hp.alloc) | (with_reducible apply Hp.set) | (with_reducible apply Hp.drew) | (with_reducible apply Hp.drewN) | (with_reducible apply Hp.bytesW) | (with_reducible exact Upd.here) | (with_reducible exact Upd.hereR) | (with_reducible apply Upd.there) | (with_reducible apply Sz.alloc) | (with_reducible apply Sz.set) | (with_reducible apply Sz.drew) | (with_reducible apply Sz.drewN) | (with_reducible apply Sz.bytesW) | (with_reducible assumption) | (with_reducible exact Sz.base _))) ?_; (try simp only [List.set_cons_zero, List.set_cons_succ]); exact (by repeat (first | (with_reducible exact Sel.nil) | (with_reducible apply Sel.cons) | (with_reducible exact Del.here) | (with_reducible apply Del.there)))))⟩
          case measure => simp [intOf]; omega
        · have HN : Hid (renT x en us (k + 1) = ls ∧ ls.length = us.length) := ⟨by rw [renT_skip hlt hid, x1], x2⟩
          clear hg he x1
          generalize us[k] = u at *
          go_wp2_with fail
          go_roundw
          case rel => exact ⟨k + 1, by omega, by go_num, ls, HN, Lib.hid (by refine Hp.sel (by repeat (first | (with_reducible exact H) | (with_reducible apply Hp.alloc) | (with_reducible apply Hp.set) | (with_reducible apply Hp.drew) | (with_reducible apply Hp.drewN) | (with_reducible apply Hp.bytesW) | (with_reducible exact Upd.here) | (with_reducible exact Upd.hereR) | (with_reducible apply Upd.there) | (with_reducible apply Sz.alloc) | (with_reducible apply Sz.set) | (with_reducible apply Sz.drew) | (with_reducible apply Sz.drewN) | (with_reducible apply Sz.bytesW) | (with_reducible assumption) | (with_reducible exact Sz.base _))) ?_; (try simp only [List.set_cons_zero, List.set_cons_succ]); exact (by repeat (first | (with_reducible exact Sel.nil) | (with_reducible apply Sel.cons) | (with_reducible exact Del.here) | (with_reducible apply Del.there))))⟩
          case measure => simp [intOf]; omega
      · have HF : Hid (rs = ls ∧ re = en) := by
          obtain ⟨e1, e2⟩ := Prod.mk.inj HR.out
          have hkk : k = us.length := by omega
          rw [hkk, renT_end] at x1
          exact ⟨by rw [← e1, x1], e2.symm⟩
        obtain ⟨f1, f2⟩ := HF.out
        clear HF HX
        have f3 : rs.length = us.length := by rw [f1, x2]
        clear x1
        go_wp2_with fail
        refine bodyPost_ret (v := .tuple #[.agg #[.slice A3 us.length c3], .int .i64 en]) (by simp [results, Tryd.results21, go_sem, F] <;> omega) rfl ⟨A3, c3, by rw [f2, f3], ?_⟩
        show Hp w _ [row _ _ (.slice A3 rs.length c3) rs.length (rs.flatMap encLease)]
        rw [f3, f1]; exact (by refine Hp.sel (by repeat (first | (with_reducible exact H) | (with_reducible apply Hp.alloc) | (with_reducible apply Hp.set) | (with_reducible apply Hp.drew) | (with_reducible apply Hp.drewN) | (with_reducible apply Hp.bytesW) | (with_reducible exact Upd.here) | (with_reducible exact Upd.hereR) | (with_reducible apply Upd.there) | (with_reducible apply Sz.alloc) | (with_reducible apply Sz.set) | (with_reducible apply Sz.drew) | (with_reducible apply Sz.drewN) | (with_reducible apply Sz.bytesW) | (with_reducible assumption) | (with_reducible exact Sz.base _))) ?_; (try simp only [List.set_cons_zero, List.set_cons_succ]); exact (by repeat (first | (with_reducible exact Sel.nil) | (with_reducible apply Sel.cons) | (with_reducible exact Del.here) | (with_reducible apply Del.there))))
end Go.Proofs.YtfoochgnilnddaaDoor
