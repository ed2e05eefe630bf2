/- Leases: the program's drop of what has ended. No condition. -/
import Derived.Test.YtlmmeeeoljlgcaaDoorLeaseD
import Derived.Test.YtlmmeeeoljlgcaaDoorOverP
import Derived.Test.YtlmmeeeoljlgcaaDoorSortZ
import Derived.Test.YtlmmeeeoljlgcaaDoorM1
set_option linter.unusedVariables false
set_option linter.unusedSimpArgs false
namespace Go.Proofs.YtlmmeeeoljlgcaaDoor
open Go.RowKit
set_option linter.unusedVariables false
set_option linter.unusedSimpArgs false
theorem cmp_eq {x y : Lease} : Lib.compareInt x.ends y.ends = cmpZ x y := by
  unfold Lib.compareInt cmpZ
  rfl
theorem dropOver1_any (x : Lease) (b : Nat) (now : Int) (w : World) (hc : w.cell? ⟨b, 0, none⟩ = some (.int .i64 now)) (hbb : b < w.heap.size) :
    Calls Tryd.prog 58 #[.agg #[.int .i64 x.id, .int .i64 x.token, .string x.path, .int .i64 x.made, .int .i64 x.ends, .int .i64 x.limit], .pointer (some ⟨b, 0, none⟩)] w fun e w' => e = .returned (.bool (overP now x)) ∧ Below w.heap.size w w' := by
  have H := Hp.nil w
  have hbe : ¬ b = w.heap.size ∧ ¬ w.heap.size = b := by omega
  unfold overP
  go_enter Tryd.func58, Tryd.ntmps58
  go_wp2_with fail
  go_ret
  exact ⟨rfl, Hp.b (by repeat (first | (with_reducible exact H) | (with_reducible apply Hp.alloc) | (with_reducible apply Hp.set) | (with_reducible apply Hp.drew) | (with_reducible apply Hp.drewN) | (with_reducible apply Hp.bytesW) | (with_reducible exact Upd.here) | (with_reducible exact Upd.hereR) | (with_reducible apply Upd.there) | (with_reducible apply Sz.alloc) | (with_reducible apply Sz.set) | (with_reducible apply Sz.drew) | (with_reducible apply Sz.drewN) | (with_reducible apply Sz.bytesW) | (with_reducible assumption) | (with_reducible exact Sz.base _)))⟩
theorem dropOver2_any (x y : Lease) (w : World) :
    Calls Tryd.prog 60 #[valL x, valL y] w fun e w' => e = .returned (.int .i64 (cmpZ x y)) ∧ Below w.heap.size w w' := by
  have H := Hp.nil w
  go_enter Tryd.func60, Tryd.ntmps60
  go_wp2_with (go_at_call 49; refine (Tryd.cmp_Compare_int x.ends y.ends _).mono ?_; rintro e w1 ⟨rfl, rfl⟩)
  go_ret
  exact ⟨by rw [cmp_eq]; rfl, Hp.b (by repeat (first | (with_reducible exact H) | (with_reducible apply Hp.alloc) | (with_reducible apply Hp.set) | (with_reducible apply Hp.drew) | (with_reducible apply Hp.drewN) | (with_reducible apply Hp.bytesW) | (with_reducible exact Upd.here) | (with_reducible exact Upd.hereR) | (with_reducible apply Upd.there) | (with_reducible apply Sz.alloc) | (with_reducible apply Sz.set) | (with_reducible apply Sz.drew) | (with_reducible apply Sz.drewN) | (with_reducible apply Sz.bytesW) | (with_reducible assumption) | (with_reducible exact Sz.base _)))⟩
set_option maxHeartbeats 4000000 in
set_option maxRecDepth 10000 in
theorem dropOver_hp (A : Option Addr) (n c : Nat) (us : List Lease) (now : Int) (w : World) (hbk : bookOk us = true) (hr : Rd w w.heap.size 6 A n c (us.flatMap encLease)) (hn : us.length = n) (hb20 : n ≤ 1048576) (hsz : ∀ u ∈ us, LeaseFits u) :
    Calls Tryd.prog 32 #[.agg #[.slice A n c], .int .i64 now] w fun e w' => ∃ A1 c1 A2 c2, e = .returned (.tuple #[.agg #[.slice A1 (leftL (overP now) us).length c1], .slice A2 (goneO now us).length c2]) ∧ Hp w w' [rLease A1 c1 (leftL (overP now) us), rLease A2 c2 (goneO now us)] := by
  have eg := enters_of (P := Tryd.prog) Tryd.func58 (by kernel_rfl) rfl
  have eg2 := enters_of (P := Tryd.prog) Tryd.func60 (by kernel_rfl) rfl
  have H := Hp.nil w
  have hps : ∀ (w1 : World), Bx w1 (w.heap.size + 1) 3 #[.int .i64 now] → ∀ (W : World) (x : Lease), x.path.size ≤ maxLen → Below w1.heap.size w1 W → Calls Tryd.prog 58 (#[.agg #[.int .i64 x.id, .int .i64 x.token, .string x.path, .int .i64 x.made, .int .i64 x.ends, .int .i64 x.limit]] ++ #[.pointer (some ⟨w.heap.size + 1, 0, none⟩)]) W fun e w' => e = .returned (.bool (overP now x)) ∧ Below W.heap.size W w' := by
    intro w1 hbx W x hx hb
    have hb2 := hbx.grow' hb
    exact dropOver1_any x (w.heap.size + 1) now W (hb2.cell 0) hb2.lt
  have HPS := Lib.hid hps; clear hps
  have HC : Hid (∀ (W : World) (x y : Lease), Calls Tryd.prog 60 #[valL x, valL y] W fun e w' => e = .returned (.int .i64 (cmpZ x y)) ∧ Below W.heap.size W w') := fun W x y => dropOver2_any x y W
  have hgl : (goneL (overP now) us).length ≤ 1048576 := Nat.le_trans (goneL_len _ _) (by omega)
  go_enter Tryd.func32, Tryd.ntmps32
  go_wp2_with fail
  refine call_atL (w0 := w) (by repeat (first | (with_reducible exact H) | (with_reducible apply Hp.alloc) | (with_reducible apply Hp.set) | (with_reducible apply Hp.drew) | (with_reducible apply Hp.drewN) | (with_reducible apply Hp.bytesW) | (with_reducible exact Upd.here) | (with_reducible exact Upd.hereR) | (with_reducible apply Upd.there) | (with_reducible apply Sz.alloc) | (with_reducible apply Sz.set) | (with_reducible apply Sz.drew) | (with_reducible apply Sz.drewN) | (with_reducible apply Sz.bytesW) | (with_reducible assumption) | (with_reducible exact Sz.base _))) fun H7 => ?_
  (try simp only [List.set_cons_zero, List.set_cons_succ, List.cons_append, List.nil_append] at H7)
  refine (dropLeases_hp 58 #[.pointer (some ⟨w.heap.size + 1, 0, none⟩)] (overP now) eg A n c us _ (HPS.out _ (H7.bx 1 (by rfl))) (hr.grow H7.b) hn hb20 hsz).mono ?_
  rintro e w3 ⟨A3, c3, A4, c4, rfl, h3⟩
  clear H
  have H := Hp.call H7 h3
  clear h3 H7
  (try simp only [List.set_cons_zero, List.set_cons_succ, List.cons_append, List.nil_append] at H)
  have F := H.facts; simp only [Facts, NeF, box, row, reg, cellsF, ne_eq, true_and, and_true, Nat.reduceAdd, Nat.zero_add] at F
  have HGI := Lib.hid (gone_ids (now := now) hbk)
  have HSO : Hid (∀ Z, Z.Perm (goneL (overP now) us) → SoZ Z → Z = goneO now us) := fun Z h1 h2 => over_sorted hbk h1 h2
  obtain ⟨gs, hgs⟩ : ∃ gs, goneL (overP now) us = gs := ⟨_, rfl⟩
  rw [hgs] at H HGI HSO hgl
  rw [hgs]
  obtain ⟨ls, hls⟩ : ∃ ls, leftL (overP now) us = ls := ⟨_, rfl⟩
  rw [hls] at H
  rw [hls]
  have HLS := Lib.hid hls
  clear hgs hls
  go_wp2_with fail
  refine call_atL (w0 := w) (by repeat (first | (with_reducible exact H) | (with_reducible apply Hp.alloc) | (with_reducible apply Hp.set) | (with_reducible apply Hp.drew) | (with_reducible apply Hp.drewN) | (with_reducible apply Hp.bytesW) | (with_reducible exact Upd.here) | (with_reducible exact Upd.hereR) | (with_reducible apply Upd.there) | (with_reducible apply Sz.alloc) | (with_reducible apply Sz.set) | (with_reducible apply Sz.drew) | (with_reducible apply Sz.drewN) | (with_reducible apply Sz.bytesW) | (with_reducible assumption) | (with_reducible exact Sz.base _))) fun H7 => ?_
  (try simp only [List.set_cons_zero, List.set_cons_succ, List.cons_append, List.nil_append] at H7)
  refine (sortStable_hp 60 eg2 HC A4 gs.length c4 (bund [box w3.heap.size 28 [.slice A3 ls.length c3], rLease A3 c3 ls, box (w.heap.size + 1 + 1) 28 [.slice none 0 0], box (w.heap.size + 1) 3 [.int .i64 now], box w.heap.size 28 [.slice A n c]]) w hgl gs _ (Hp.pack [rLs A4 gs.length c4 gs] [box w3.heap.size 28 [.slice A3 ls.length c3], rLease A3 c3 ls, box (w.heap.size + 1 + 1) 28 [.slice none 0 0], box (w.heap.size + 1) 3 [.int .i64 now], box w.heap.size 28 [.slice A n c]] (Hp.sel (by repeat (first | (with_reducible exact H7) | (with_reducible apply Hp.alloc) | (with_reducible apply Hp.set) | (with_reducible apply Hp.drew) | (with_reducible apply Hp.drewN) | (with_reducible apply Hp.bytesW) | (with_reducible exact Upd.here) | (with_reducible exact Upd.hereR) | (with_reducible apply Upd.there) | (with_reducible apply Sz.alloc) | (with_reducible apply Sz.set) | (with_reducible apply Sz.drew) | (with_reducible apply Sz.drewN) | (with_reducible apply Sz.bytesW) | (with_reducible assumption) | (with_reducible exact Sz.base _))) (by (try simp only [List.cons_append, List.nil_append, List.set_cons_zero, List.set_cons_succ]); (repeat (first | (with_reducible exact Sel.nil) | (with_reducible apply Sel.cons) | (with_reducible exact Del.here) | (with_reducible apply Del.there)))))) rfl HGI).mono ?_
  rintro e w5 ⟨rfl, Z, hz1, hz2, H5⟩
  have hzl : Z.length = gs.length := hz1.length_eq
  have hzz := HSO.out Z hz1 hz2
  clear H H7 F hz1 hz2
  have H := Hp.unb H5 (by repeat (first | exact Unb.last | apply Unb.cons))
  clear H5
  (try simp only [List.set_cons_zero, List.set_cons_succ, List.cons_append, List.nil_append] at H)
  have F := H.facts; simp only [Facts, NeF, box, row, reg, cellsF, ne_eq, true_and, and_true, Nat.reduceAdd, Nat.zero_add] at F
  have HZL := Lib.hid hzl
  have HZZ := Lib.hid hzz
  clear hzl hzz
  go_wp2_with fail
  refine bodyPost_ret (v := .tuple #[.agg #[.slice A3 ls.length c3], .slice A4 gs.length c4]) (by simp [results, Tryd.results32, go_sem, F]) rfl ⟨A3, c3, A4, c4, by rw [HLS.out, ← HZZ.out, HZL.out], ?_⟩
  rw [HLS.out, ← HZZ.out]
  unfold rLease
  rw [HZL.out]
  exact (by refine Hp.sel (by repeat (first | (with_reducible exact H) | (with_reducible apply Hp.alloc) | (with_reducible apply Hp.set) | (with_reducible apply Hp.drew) | (with_reducible apply Hp.drewN) | (with_reducible apply Hp.bytesW) | (with_reducible exact Upd.here) | (with_reducible exact Upd.hereR) | (with_reducible apply Upd.there) | (with_reducible apply Sz.alloc) | (with_reducible apply Sz.set) | (with_reducible apply Sz.drew) | (with_reducible apply Sz.drewN) | (with_reducible apply Sz.bytesW) | (with_reducible assumption) | (with_reducible exact Sz.base _))) ?_; (try simp only [List.set_cons_zero, List.set_cons_succ]); exact (by repeat (first | (with_reducible exact Sel.nil) | (with_reducible apply Sel.cons) | (with_reducible exact Del.here) | (with_reducible apply Del.there))))
set_option maxHeartbeats 4000000 in
set_option maxRecDepth 10000 in
theorem implDropOver_hp (A : Option Addr) (n c : Nat) (us : List Lease) (now : Int) (rs rg : List Lease) (w : World) (hd : overU now us = (rs, rg)) (hr : Rd w w.heap.size 6 A n c (us.flatMap encLease)) (hn : us.length = n) (hb20 : n ≤ 1048576) (hsz : ∀ u ∈ us, LeaseFits u) (hml : mlOk w) :
    Calls Tryd.prog 8 #[.agg #[.slice A n c], .int .i64 now] w fun e w' => ∃ A1 c1 A2 c2, e = .returned (.tuple #[.agg #[.slice A1 rs.length c1], .slice A2 rg.length c2]) ∧ Hp w w' [rLease A1 c1 rs, rLease A2 c2 rg] := by
  have H := Hp.nil w
  have HD := Lib.hid hd; clear hd
  cases hq : bookOk us with
  | false =>
    have HR : Hid ((us, ([] : List Lease)) = (rs, rg)) := by show _ = _; rw [← HD.out, overU, hq, if_neg (by decide)]
    go_enter Tryd.func8, Tryd.ntmps8
    go_wp2_with (first | (go_at_call 30; refine (isBook_any A n c us _ (hr.grow (Hp.b (by repeat (first | (with_reducible exact H) | (with_reducible apply Hp.alloc) | (with_reducible apply Hp.set) | (with_reducible apply Hp.drew) | (with_reducible apply Hp.drewN) | (with_reducible apply Hp.bytesW) | (with_reducible exact Upd.here) | (with_reducible exact Upd.hereR) | (with_reducible apply Upd.there) | (with_reducible apply Sz.alloc) | (with_reducible apply Sz.set) | (with_reducible apply Sz.drew) | (with_reducible apply Sz.drewN) | (with_reducible apply Sz.bytesW) | (with_reducible assumption) | (with_reducible exact Sz.base _))))) hn hsz (hml.on (Hp.b (by repeat (first | (with_reducible exact H) | (with_reducible apply Hp.alloc) | (with_reducible apply Hp.set) | (with_reducible apply Hp.drew) | (with_reducible apply Hp.drewN) | (with_reducible apply Hp.bytesW) | (with_reducible exact Upd.here) | (with_reducible exact Upd.hereR) | (with_reducible apply Upd.there) | (with_reducible apply Sz.alloc) | (with_reducible apply Sz.set) | (with_reducible apply Sz.drew) | (with_reducible apply Sz.drewN) | (with_reducible apply Sz.bytesW) | (with_reducible assumption) | (with_reducible exact Sz.base _)))))).mono ?_; rintro e w1 ⟨rfl, hb1⟩; rw [hq]; replace H := Hp.step (by repeat (first | (with_reducible exact H) | (with_reducible apply Hp.alloc) | (with_reducible apply Hp.set) | (with_reducible apply Hp.drew) | (with_reducible apply Hp.drewN) | (with_reducible apply Hp.bytesW) | (with_reducible exact Upd.here) | (with_reducible exact Upd.hereR) | (with_reducible apply Upd.there) | (with_reducible apply Sz.alloc) | (with_reducible apply Sz.set) | (with_reducible apply Sz.drew) | (with_reducible apply Sz.drewN) | (with_reducible apply Sz.bytesW) | (with_reducible assumption) | (with_reducible exact Sz.base _))) hb1; (try simp only [List.set_cons_zero, List.set_cons_succ, List.cons_append, List.nil_append] at H); clear hb1; have F := H.facts; simp only [Facts, NeF, box, row, reg, cellsF, ne_eq, true_and, and_true, Nat.reduceAdd, Nat.zero_add] at F) | (go_at_call 31; refine (cloneBook_hp A n c us _ (hr.grow (Hp.b (by repeat (first | (with_reducible exact H) | (with_reducible apply Hp.alloc) | (with_reducible apply Hp.set) | (with_reducible apply Hp.drew) | (with_reducible apply Hp.drewN) | (with_reducible apply Hp.bytesW) | (with_reducible exact Upd.here) | (with_reducible exact Upd.hereR) | (with_reducible apply Upd.there) | (with_reducible apply Sz.alloc) | (with_reducible apply Sz.set) | (with_reducible apply Sz.drew) | (with_reducible apply Sz.drewN) | (with_reducible apply Sz.bytesW) | (with_reducible assumption) | (with_reducible exact Sz.base _))))) hn hb20).mono ?_; rintro e w3 ⟨A3, c3, rfl, h3⟩; replace H := Hp.call (by repeat (first | (with_reducible exact H) | (with_reducible apply Hp.alloc) | (with_reducible apply Hp.set) | (with_reducible apply Hp.drew) | (with_reducible apply Hp.drewN) | (with_reducible apply Hp.bytesW) | (with_reducible exact Upd.here) | (with_reducible exact Upd.hereR) | (with_reducible apply Upd.there) | (with_reducible apply Sz.alloc) | (with_reducible apply Sz.set) | (with_reducible apply Sz.drew) | (with_reducible apply Sz.drewN) | (with_reducible apply Sz.bytesW) | (with_reducible assumption) | (with_reducible exact Sz.base _))) h3; (try simp only [List.set_cons_zero, List.set_cons_succ, List.cons_append, List.nil_append] at H); clear h3 F; have F := H.facts; simp only [Facts, NeF, box, row, reg, cellsF, ne_eq, true_and, and_true, Nat.reduceAdd, Nat.zero_add] at F))
    obtain ⟨rfl, rfl⟩ := Prod.mk.inj HR.out
    refine bodyPost_ret (v := .tuple #[.agg #[.slice A3 us.length c3], .slice none 0 0]) (by simp [results, Tryd.results8, go_sem, F] <;> omega) rfl ⟨A3, c3, none, 0, rfl, ?_⟩
    exact Hp.give (Hp.cons_nilRow (by repeat (first | (with_reducible exact H) | (with_reducible apply Hp.alloc) | (with_reducible apply Hp.set) | (with_reducible apply Hp.drew) | (with_reducible apply Hp.drewN) | (with_reducible apply Hp.bytesW) | (with_reducible exact Upd.here) | (with_reducible exact Upd.hereR) | (with_reducible apply Upd.there) | (with_reducible apply Sz.alloc) | (with_reducible apply Sz.set) | (with_reducible apply Sz.drew) | (with_reducible apply Sz.drewN) | (with_reducible apply Sz.bytesW) | (with_reducible assumption) | (with_reducible exact Sz.base _))) 40 6) [1, 0] (by decide) (by rfl)
  | true =>
  have HR : Hid ((leftL (overP now) us, goneO now us) = (rs, rg)) := by show _ = _; rw [← HD.out, overU, hq, if_pos rfl]
  have HQ := Lib.hid hq
  go_enter Tryd.func8, Tryd.ntmps8
  go_wp2_with (go_at_call 30; refine (isBook_any A n c us _ (hr.grow (Hp.b (by repeat (first | (with_reducible exact H) | (with_reducible apply Hp.alloc) | (with_reducible apply Hp.set) | (with_reducible apply Hp.drew) | (with_reducible apply Hp.drewN) | (with_reducible apply Hp.bytesW) | (with_reducible exact Upd.here) | (with_reducible exact Upd.hereR) | (with_reducible apply Upd.there) | (with_reducible apply Sz.alloc) | (with_reducible apply Sz.set) | (with_reducible apply Sz.drew) | (with_reducible apply Sz.drewN) | (with_reducible apply Sz.bytesW) | (with_reducible assumption) | (with_reducible exact Sz.base _))))) hn hsz (hml.on (Hp.b (by repeat (first | (with_reducible exact H) | (with_reducible apply Hp.alloc) | (with_reducible apply Hp.set) | (with_reducible apply Hp.drew) | (with_reducible apply Hp.drewN) | (with_reducible apply Hp.bytesW) | (with_reducible exact Upd.here) | (with_reducible exact Upd.hereR) | (with_reducible apply Upd.there) | (with_reducible apply Sz.alloc) | (with_reducible apply Sz.set) | (with_reducible apply Sz.drew) | (with_reducible apply Sz.drewN) | (with_reducible apply Sz.bytesW) | (with_reducible assumption) | (with_reducible exact Sz.base _)))))).mono ?_; rintro e w1 ⟨rfl, hb1⟩; rw [hq]; replace H := Hp.step (by repeat (first | (with_reducible exact H) | (with_reducible apply Hp.alloc) | (with_reducible apply Hp.set) | (with_reducible apply Hp.drew) | (with_reducible apply Hp.drewN) | (with_reducible apply Hp.bytesW) | (with_reducible exact Upd.here) | (with_reducible exact Upd.hereR) | (with_reducible apply Upd.there) | (with_reducible apply Sz.alloc) | (with_reducible apply Sz.set) | (with_reducible apply Sz.drew) | (with_reducible apply Sz.drewN) | (with_reducible apply Sz.bytesW) | (with_reducible assumption) | (with_reducible exact Sz.base _))) hb1; (try simp only [List.set_cons_zero, List.set_cons_succ, List.cons_append, List.nil_append] at H); clear hb1; have F := H.facts; simp only [Facts, NeF, box, row, reg, cellsF, ne_eq, true_and, and_true, Nat.reduceAdd, Nat.zero_add] at F)
  refine call_atL (w0 := w) (by repeat (first | (with_reducible exact H) | (with_reducible apply Hp.alloc) | (with_reducible apply Hp.set) | (with_reducible apply Hp.drew) | (with_reducible apply Hp.drewN) | (with_reducible apply Hp.bytesW) | (with_reducible exact Upd.here) | (with_reducible exact Upd.hereR) | (with_reducible apply Upd.there) | (with_reducible apply Sz.alloc) | (with_reducible apply Sz.set) | (with_reducible apply Sz.drew) | (with_reducible apply Sz.drewN) | (with_reducible apply Sz.bytesW) | (with_reducible assumption) | (with_reducible exact Sz.base _))) fun H7 => ?_
  (try simp only [List.set_cons_zero, List.set_cons_succ, List.cons_append, List.nil_append] at H7)
  refine (dropOver_hp A n c us now _ HQ.out (hr.grow H7.b) hn hb20 hsz).mono ?_
  rintro e w3 ⟨A3, c3, A4, c4, rfl, h3⟩
  clear H F
  have H := Hp.call H7 h3
  clear h3 H7
  (try simp only [List.set_cons_zero, List.set_cons_succ, List.cons_append, List.nil_append] at H)
  have F := H.facts; simp only [Facts, NeF, box, row, reg, cellsF, ne_eq, true_and, and_true, Nat.reduceAdd, Nat.zero_add] at F
  obtain ⟨f1, f2⟩ := Prod.mk.inj HR.out
  clear HR HQ HD hq
  rw [f1, f2] at H
  rw [f1, f2]
  clear f1 f2
  go_wp2_with fail
  refine bodyPost_ret (v := .tuple #[.agg #[.slice A3 rs.length c3], .slice A4 rg.length c4]) (by simp [results, Tryd.results8, go_sem, F]) rfl ⟨A3, c3, A4, c4, rfl, (by refine Hp.sel (by repeat (first | (with_reducible exact H) | (with_reducible apply Hp.alloc) | (with_reducible apply Hp.set) | (with_reducible apply Hp.drew) | (with_reducible apply Hp.drewN) | (with_reducible apply Hp.bytesW) | (with_reducible exact Upd.here) | (with_reducible exact Upd.hereR) | (with_reducible apply Upd.there) | (with_reducible apply Sz.alloc) | (with_reducible apply Sz.set) | (with_reducible apply Sz.drew) | (with_reducible apply Sz.drewN) | (with_reducible apply Sz.bytesW) | (with_reducible assumption) | (with_reducible exact Sz.base _))) ?_; (try simp only [List.set_cons_zero, List.set_cons_succ]); exact (by repeat (first | (with_reducible exact Sel.nil) | (with_reducible apply Sel.cons) | (with_reducible exact Del.here) | (with_reducible apply Del.there))))⟩
end Go.Proofs.YtlmmeeeoljlgcaaDoor
