/- The draws that the statement on users takes. No condition. -/
import Derived.Test.YtaaloiloklnbiaaDoorDrawF
namespace Go.Proofs.YtaaloiloklnbiaaDoor
open Go.RowKit
set_option linter.unusedVariables false
set_option linter.unusedSimpArgs false
set_option maxHeartbeats 4000000 in
set_option maxRecDepth 10000 in
theorem l11DrawOne_hp (A : Option Addr) (n c : Nat) (bs : List UInt8) (w : World) (hr : Rd w w.heap.size 1 A n c (bs.flatMap encByte)) (hn : bs.length = n) :
    Calls Tryd.prog 23 #[.slice A n c] w fun e w' => ∃ (b : Nat) (A1 : Option Addr) (d k : Nat) (x1 x2 : Int) (xs : List Value), e = .returned (.tuple #[.pointer (some ⟨b, 0, none⟩), .agg #[.slice A1 k d, .int .i64 x1, .int .i64 x2]]) ∧ k ≤ 121 ∧ Hp w w' [row 34 2 (.slice A1 k d) k xs, curE b A n c] := by
  have H := Hp.nil w
  go_enter Tryd.func23, Tryd.ntmps23
  go_wp2_with fail
  refine (l01New_hp A n c bs w _ _ (by repeat (first | (with_reducible exact H) | (with_reducible apply Hp.alloc) | (with_reducible apply Hp.set) | (with_reducible apply Hp.drew) | (with_reducible apply Hp.drewN) | (with_reducible apply Hp.bytesW) | (with_reducible exact Upd.here) | (with_reducible exact Upd.hereR) | (with_reducible apply Upd.there) | (with_reducible apply Sz.alloc) | (with_reducible apply Sz.set) | (with_reducible apply Sz.drew) | (with_reducible apply Sz.drewN) | (with_reducible apply Sz.bytesW) | (with_reducible assumption) | (with_reducible exact Sz.base _))) hr hn).mono ?_
  rintro e w1 ⟨b, rfl, H1⟩
  (try simp only [List.set_cons_zero, List.set_cons_succ, List.cons_append, List.nil_append] at H1)
  (try clear F)
  have F := H1.facts; simp only [Facts, NeF, box, row, reg, cellsF, ne_eq, true_and, and_true, Nat.reduceAdd, Nat.zero_add] at F
  go_wp2_with fail
  refine (l01Size_any A n c bs _ (hr.grow (Hp.b (by repeat (first | (with_reducible exact H1) | (with_reducible apply Hp.alloc) | (with_reducible apply Hp.set) | (with_reducible apply Hp.drew) | (with_reducible apply Hp.drewN) | (with_reducible apply Hp.bytesW) | (with_reducible exact Upd.here) | (with_reducible exact Upd.hereR) | (with_reducible apply Upd.there) | (with_reducible apply Sz.alloc) | (with_reducible apply Sz.set) | (with_reducible apply Sz.drew) | (with_reducible apply Sz.drewN) | (with_reducible apply Sz.bytesW) | (with_reducible assumption) | (with_reducible exact Sz.base _))))) hn).mono ?_
  rintro e w2 ⟨x, rfl, hx, q2⟩
  have hm : curE b A n c ∈ [curE b A n c] := List.mem_cons_self
  replace H1 := Hp.step (by repeat (first | (with_reducible exact H1) | (with_reducible apply Hp.alloc) | (with_reducible apply Hp.set) | (with_reducible apply Hp.drew) | (with_reducible apply Hp.drewN) | (with_reducible apply Hp.bytesW) | (with_reducible exact Upd.here) | (with_reducible exact Upd.hereR) | (with_reducible apply Upd.there) | (with_reducible apply Sz.alloc) | (with_reducible apply Sz.set) | (with_reducible apply Sz.drew) | (with_reducible apply Sz.drewN) | (with_reducible apply Sz.bytesW) | (with_reducible assumption) | (with_reducible exact Sz.base _))) q2; (try simp only [List.set_cons_zero, List.set_cons_succ, List.cons_append, List.nil_append] at H1); clear q2; clear F; have F := H1.facts; simp only [Facts, NeF, box, row, reg, cellsF, ne_eq, true_and, and_true, Nat.reduceAdd, Nat.zero_add] at F
  go_wp2_with fail
  refine (l01Below_hp b A n c bs w _ _ _ (by repeat (first | (with_reducible exact H1) | (with_reducible apply Hp.alloc) | (with_reducible apply Hp.set) | (with_reducible apply Hp.drew) | (with_reducible apply Hp.drewN) | (with_reducible apply Hp.bytesW) | (with_reducible exact Upd.here) | (with_reducible exact Upd.hereR) | (with_reducible apply Upd.there) | (with_reducible apply Sz.alloc) | (with_reducible apply Sz.set) | (with_reducible apply Sz.drew) | (with_reducible apply Sz.drewN) | (with_reducible apply Sz.bytesW) | (with_reducible assumption) | (with_reducible exact Sz.base _))) (by repeat (first | (with_reducible exact hm) | (with_reducible exact List.mem_cons_self) | (with_reducible apply List.mem_cons_of_mem))) hr hn (by omega) (by omega)).mono ?_
  rintro e w3 ⟨y, rfl, hy, H3⟩
  (try simp only [List.set_cons_zero, List.set_cons_succ, List.cons_append, List.nil_append] at H3)
  (try clear F)
  have F := H3.facts; simp only [Facts, NeF, box, row, reg, cellsF, ne_eq, true_and, and_true, Nat.reduceAdd, Nat.zero_add] at F
  obtain ⟨m, rfl⟩ := Int.eq_ofNat_of_zero_le hy.1
  go_wp2_with fail
  refine (l01Once_hp b A n c bs w _ _ _ (by repeat (first | (with_reducible exact H3) | (with_reducible apply Hp.alloc) | (with_reducible apply Hp.set) | (with_reducible apply Hp.drew) | (with_reducible apply Hp.drewN) | (with_reducible apply Hp.bytesW) | (with_reducible exact Upd.here) | (with_reducible exact Upd.hereR) | (with_reducible apply Upd.there) | (with_reducible apply Sz.alloc) | (with_reducible apply Sz.set) | (with_reducible apply Sz.drew) | (with_reducible apply Sz.drewN) | (with_reducible apply Sz.bytesW) | (with_reducible assumption) | (with_reducible exact Sz.base _))) (by repeat (first | (with_reducible exact hm) | (with_reducible exact List.mem_cons_self) | (with_reducible apply List.mem_cons_of_mem))) hr hn (by omega) (by omega)).mono ?_
  rintro e w4 ⟨z, rfl, H4⟩
  (try simp only [List.set_cons_zero, List.set_cons_succ, List.cons_append, List.nil_append] at H4)
  (try clear F)
  have F := H4.facts; simp only [Facts, NeF, box, row, reg, cellsF, ne_eq, true_and, and_true, Nat.reduceAdd, Nat.zero_add] at F
  cases z with
  | false =>
    have hmm : m ≤ 120 := by omega
    go_wp2_with fail
    refine (l11DrawFar_hp b A n c bs w _ (box w.heap.size 26 [.slice none 0 0, .int .i64 0, .int .i64 0]) m (by refine Hp.sel (by repeat (first | (with_reducible exact H4) | (with_reducible apply Hp.alloc) | (with_reducible apply Hp.set) | (with_reducible apply Hp.drew) | (with_reducible apply Hp.drewN) | (with_reducible apply Hp.bytesW) | (with_reducible exact Upd.here) | (with_reducible exact Upd.hereR) | (with_reducible apply Upd.there) | (with_reducible apply Sz.alloc) | (with_reducible apply Sz.set) | (with_reducible apply Sz.drew) | (with_reducible apply Sz.drewN) | (with_reducible apply Sz.bytesW) | (with_reducible assumption) | (with_reducible exact Sz.base _))) ?_; (try simp only [List.set_cons_zero, List.set_cons_succ]); exact (by repeat (first | (with_reducible exact Sel.nil) | (with_reducible apply Sel.cons) | (with_reducible exact Del.here) | (with_reducible apply Del.there)))) (by omega) hr hn).mono ?_
    rintro e w5 ⟨A1, d, k, x1, x2, xs, rfl, hk, H5⟩
    clear F
    have F := H5.facts; simp only [Facts, NeF, box, row, reg, cellsF, ne_eq, true_and, and_true, Nat.reduceAdd, Nat.zero_add] at F
    go_wp2_with fail
    refine bodyPost_ret (v := .tuple #[.pointer (some ⟨b, 0, none⟩), .agg #[.slice A1 k d, .int .i64 x1, .int .i64 x2]]) (by simp [results, Tryd.results23, go_sem, F]) rfl ⟨b, A1, d, k, x1, x2, xs, rfl, hk, (by refine Hp.sel (by repeat (first | (with_reducible exact H5) | (with_reducible apply Hp.alloc) | (with_reducible apply Hp.set) | (with_reducible apply Hp.drew) | (with_reducible apply Hp.drewN) | (with_reducible apply Hp.bytesW) | (with_reducible exact Upd.here) | (with_reducible exact Upd.hereR) | (with_reducible apply Upd.there) | (with_reducible apply Sz.alloc) | (with_reducible apply Sz.set) | (with_reducible apply Sz.drew) | (with_reducible apply Sz.drewN) | (with_reducible apply Sz.bytesW) | (with_reducible assumption) | (with_reducible exact Sz.base _))) ?_; (try simp only [List.set_cons_zero, List.set_cons_succ]); exact (by repeat (first | (with_reducible exact Sel.nil) | (with_reducible apply Sel.cons) | (with_reducible exact Del.here) | (with_reducible apply Del.there))))⟩
  | true =>
    go_wp2_with fail
    refine (l01Below_hp b A n c bs w _ _ _ (by repeat (first | (with_reducible exact H4) | (with_reducible apply Hp.alloc) | (with_reducible apply Hp.set) | (with_reducible apply Hp.drew) | (with_reducible apply Hp.drewN) | (with_reducible apply Hp.bytesW) | (with_reducible exact Upd.here) | (with_reducible exact Upd.hereR) | (with_reducible apply Upd.there) | (with_reducible apply Sz.alloc) | (with_reducible apply Sz.set) | (with_reducible apply Sz.drew) | (with_reducible apply Sz.drewN) | (with_reducible apply Sz.bytesW) | (with_reducible assumption) | (with_reducible exact Sz.base _))) (by repeat (first | (with_reducible exact hm) | (with_reducible exact List.mem_cons_self) | (with_reducible apply List.mem_cons_of_mem))) hr hn (by omega) (by omega)).mono ?_
    rintro e w6 ⟨y2, rfl, hy2, H6⟩
    (try simp only [List.set_cons_zero, List.set_cons_succ, List.cons_append, List.nil_append] at H6)
    (try clear F)
    have F := H6.facts; simp only [Facts, NeF, box, row, reg, cellsF, ne_eq, true_and, and_true, Nat.reduceAdd, Nat.zero_add] at F
    clear hy
    obtain ⟨m2, rfl⟩ := Int.eq_ofNat_of_zero_le hy2.1
    obtain ⟨m, hm9⟩ : ∃ m, m = 119 + m2 := ⟨_, rfl⟩
    have hwk : IntKind.i64.wrap (119 + (m2 : Int)) = (m : Int) := by rw [IntKind.wrap_i64]; omega
    have hmm : m ≤ 120 := by omega
    clear hm9
    go_wp2_with fail
    refine (l11DrawFar_hp b A n c bs w _ (box w.heap.size 26 [.slice none 0 0, .int .i64 0, .int .i64 0]) m (by refine Hp.sel (by repeat (first | (with_reducible exact H6) | (with_reducible apply Hp.alloc) | (with_reducible apply Hp.set) | (with_reducible apply Hp.drew) | (with_reducible apply Hp.drewN) | (with_reducible apply Hp.bytesW) | (with_reducible exact Upd.here) | (with_reducible exact Upd.hereR) | (with_reducible apply Upd.there) | (with_reducible apply Sz.alloc) | (with_reducible apply Sz.set) | (with_reducible apply Sz.drew) | (with_reducible apply Sz.drewN) | (with_reducible apply Sz.bytesW) | (with_reducible assumption) | (with_reducible exact Sz.base _))) ?_; (try simp only [List.set_cons_zero, List.set_cons_succ]); exact (by repeat (first | (with_reducible exact Sel.nil) | (with_reducible apply Sel.cons) | (with_reducible exact Del.here) | (with_reducible apply Del.there)))) (by omega) hr hn).mono ?_
    rintro e w5 ⟨A1, d, k, x1, x2, xs, rfl, hk, H5⟩
    clear F
    have F := H5.facts; simp only [Facts, NeF, box, row, reg, cellsF, ne_eq, true_and, and_true, Nat.reduceAdd, Nat.zero_add] at F
    go_wp2_with fail
    refine bodyPost_ret (v := .tuple #[.pointer (some ⟨b, 0, none⟩), .agg #[.slice A1 k d, .int .i64 x1, .int .i64 x2]]) (by simp [results, Tryd.results23, go_sem, F]) rfl ⟨b, A1, d, k, x1, x2, xs, rfl, hk, (by refine Hp.sel (by repeat (first | (with_reducible exact H5) | (with_reducible apply Hp.alloc) | (with_reducible apply Hp.set) | (with_reducible apply Hp.drew) | (with_reducible apply Hp.drewN) | (with_reducible apply Hp.bytesW) | (with_reducible exact Upd.here) | (with_reducible exact Upd.hereR) | (with_reducible apply Upd.there) | (with_reducible apply Sz.alloc) | (with_reducible apply Sz.set) | (with_reducible apply Sz.drew) | (with_reducible apply Sz.drewN) | (with_reducible apply Sz.bytesW) | (with_reducible assumption) | (with_reducible exact Sz.base _))) ?_; (try simp only [List.set_cons_zero, List.set_cons_succ]); exact (by repeat (first | (with_reducible exact Sel.nil) | (with_reducible apply Sel.cons) | (with_reducible exact Del.here) | (with_reducible apply Del.there))))⟩
set_option maxHeartbeats 8000000 in
set_option maxRecDepth 10000 in
theorem DrawMakeUser_hp (A : Option Addr) (n c : Nat) (bs : List UInt8) (w : World) (hr : Rd w w.heap.size 1 A n c (bs.flatMap encByte)) (hn : bs.length = n) :
    Calls Tryd.prog 6 #[.slice A n c] w fun e w' => ∃ (A1 : Option Addr) (d k : Nat) (x1 x2 : Int) (s1 s2 : ByteArray) (t l key : Int), e = .returned (.tuple #[.agg #[.slice A1 k d, .int .i64 x1, .int .i64 x2], .agg #[.string s1, .string s2, .int .i64 t, .int .i64 l], .int .i64 key]) ∧ s1.size ≤ 20 ∧ s2.size ≤ 20 ∧ Below w.heap.size w w' := by
  have H := Hp.nil w
  go_enter Tryd.func6, Tryd.ntmps6
  go_wp2_with fail
  refine (l11DrawOne_hp A n c bs _ (hr.grow (Hp.b (by repeat (first | (with_reducible exact H) | (with_reducible apply Hp.alloc) | (with_reducible apply Hp.set) | (with_reducible apply Hp.drew) | (with_reducible apply Hp.drewN) | (with_reducible apply Hp.bytesW) | (with_reducible exact Upd.here) | (with_reducible exact Upd.hereR) | (with_reducible apply Upd.there) | (with_reducible apply Sz.alloc) | (with_reducible apply Sz.set) | (with_reducible apply Sz.drew) | (with_reducible apply Sz.drewN) | (with_reducible apply Sz.bytesW) | (with_reducible assumption) | (with_reducible exact Sz.base _))))) hn).mono ?_
  rintro e w1 ⟨b, A1, d, k, x1, x2, xs, rfl, hk, h1⟩
  replace H := Hp.call (by repeat (first | (with_reducible exact H) | (with_reducible apply Hp.alloc) | (with_reducible apply Hp.set) | (with_reducible apply Hp.drew) | (with_reducible apply Hp.drewN) | (with_reducible apply Hp.bytesW) | (with_reducible exact Upd.here) | (with_reducible exact Upd.hereR) | (with_reducible apply Upd.there) | (with_reducible apply Sz.alloc) | (with_reducible apply Sz.set) | (with_reducible apply Sz.drew) | (with_reducible apply Sz.drewN) | (with_reducible apply Sz.bytesW) | (with_reducible assumption) | (with_reducible exact Sz.base _))) h1; (try simp only [List.set_cons_zero, List.set_cons_succ, List.cons_append, List.nil_append] at H); clear h1; have F := H.facts; simp only [Facts, NeF, box, row, reg, cellsF, ne_eq, true_and, and_true, Nat.reduceAdd, Nat.zero_add] at F
  have hm : curE b A n c ∈ [curE b A n c] := List.mem_cons_self
  have hw1 : IntKind.i64.wrap ((k : Int) + 1) = (k : Int) + 1 := by rw [IntKind.wrap_i64]; omega
  go_wp2_with fail
  refine (l11DrawRole_hp b A n c bs w _ _ (by repeat (first | (with_reducible exact H) | (with_reducible apply Hp.alloc) | (with_reducible apply Hp.set) | (with_reducible apply Hp.drew) | (with_reducible apply Hp.drewN) | (with_reducible apply Hp.bytesW) | (with_reducible exact Upd.here) | (with_reducible exact Upd.hereR) | (with_reducible apply Upd.there) | (with_reducible apply Sz.alloc) | (with_reducible apply Sz.set) | (with_reducible apply Sz.drew) | (with_reducible apply Sz.drewN) | (with_reducible apply Sz.bytesW) | (with_reducible assumption) | (with_reducible exact Sz.base _))) (by repeat (first | (with_reducible exact hm) | (with_reducible exact List.mem_cons_self) | (with_reducible apply List.mem_cons_of_mem))) hr hn).mono ?_
  rintro e w2 ⟨s1, s2, t, l, rfl, hs1, hs2, H2⟩
  generalize hfb : w1.heap.size = fb at *
  clear hfb
  (try simp only [List.set_cons_zero, List.set_cons_succ, List.cons_append, List.nil_append] at H2)
  (try clear F)
  have F := H2.facts; simp only [Facts, NeF, box, row, reg, cellsF, ne_eq, true_and, and_true, Nat.reduceAdd, Nat.zero_add] at F
  go_wp2_with fail
  refine (l01Once_hp b A n c bs w _ _ _ (by repeat (first | (with_reducible exact H2) | (with_reducible apply Hp.alloc) | (with_reducible apply Hp.set) | (with_reducible apply Hp.drew) | (with_reducible apply Hp.drewN) | (with_reducible apply Hp.bytesW) | (with_reducible exact Upd.here) | (with_reducible exact Upd.hereR) | (with_reducible apply Upd.there) | (with_reducible apply Sz.alloc) | (with_reducible apply Sz.set) | (with_reducible apply Sz.drew) | (with_reducible apply Sz.drewN) | (with_reducible apply Sz.bytesW) | (with_reducible assumption) | (with_reducible exact Sz.base _))) (by repeat (first | (with_reducible exact hm) | (with_reducible exact List.mem_cons_self) | (with_reducible apply List.mem_cons_of_mem))) hr hn (by omega) (by omega)).mono ?_
  rintro e w3 ⟨z, rfl, H3⟩
  generalize hrb : w2.heap.size = rb at *
  clear hrb
  (try simp only [List.set_cons_zero, List.set_cons_succ, List.cons_append, List.nil_append] at H3)
  (try clear F)
  have F := H3.facts; simp only [Facts, NeF, box, row, reg, cellsF, ne_eq, true_and, and_true, Nat.reduceAdd, Nat.zero_add] at F
  cases z with
  | false =>
    go_wp2_with fail
    go_region_held3 (fun w' => w'.cell? ⟨fb, 0, none⟩ = some (.slice A1 k d) ∧ w'.cell? ⟨fb, 1, none⟩ = some (.int .i64 x1) ∧ w'.cell? ⟨fb, 2, none⟩ = some (.int .i64 x2) ∧ w'.cell? ⟨rb, 0, none⟩ = some (.string s1) ∧ w'.cell? ⟨rb, 1, none⟩ = some (.string s2) ∧ w'.cell? ⟨rb, 2, none⟩ = some (.int .i64 t) ∧ w'.cell? ⟨rb, 3, none⟩ = some (.int .i64 l)) (first | go_keep | simp [go_sem, *]) (first | (go_at_call 27; refine (l04DrawKey_hp b A n c bs w _ _ (by repeat (first | (with_reducible exact H3) | (with_reducible apply Hp.alloc) | (with_reducible apply Hp.set) | (with_reducible apply Hp.drew) | (with_reducible apply Hp.drewN) | (with_reducible apply Hp.bytesW) | (with_reducible exact Upd.here) | (with_reducible exact Upd.hereR) | (with_reducible apply Upd.there) | (with_reducible apply Sz.alloc) | (with_reducible apply Sz.set) | (with_reducible apply Sz.drew) | (with_reducible apply Sz.drewN) | (with_reducible apply Sz.bytesW) | (with_reducible assumption) | (with_reducible exact Sz.base _))) (by repeat (first | (with_reducible exact hm) | (with_reducible exact List.mem_cons_self) | (with_reducible apply List.mem_cons_of_mem))) hr hn).mono ?_; rintro e w9 ⟨y, rfl, H9⟩; (try simp only [List.set_cons_zero, List.set_cons_succ, List.cons_append, List.nil_append] at H9); clear F; have F := H9.facts; simp only [Facts, NeF, box, row, reg, cellsF, ne_eq, true_and, and_true, Nat.reduceAdd, Nat.zero_add] at F))
    all_goals
      go_wp2_with fail
      refine bodyPost_ret (v := .tuple #[.agg #[.slice A1 k d, .int .i64 x1, .int .i64 x2], .agg #[.string s1, .string s2, .int .i64 t, .int .i64 l], .int .i64 y]) (by simp [results, Tryd.results6, go_sem, F]) rfl ⟨_, _, _, _, _, _, _, _, _, _, rfl, hs1, hs2, Hp.b (by repeat (first | (with_reducible exact H9) | (with_reducible apply Hp.alloc) | (with_reducible apply Hp.set) | (with_reducible apply Hp.drew) | (with_reducible apply Hp.drewN) | (with_reducible apply Hp.bytesW) | (with_reducible exact Upd.here) | (with_reducible exact Upd.hereR) | (with_reducible apply Upd.there) | (with_reducible apply Sz.alloc) | (with_reducible apply Sz.set) | (with_reducible apply Sz.drew) | (with_reducible apply Sz.drewN) | (with_reducible apply Sz.bytesW) | (with_reducible assumption) | (with_reducible exact Sz.base _)))⟩
  | true =>
    go_wp2_with fail
    refine (l01Once_hp b A n c bs w _ _ _ (by repeat (first | (with_reducible exact H3) | (with_reducible apply Hp.alloc) | (with_reducible apply Hp.set) | (with_reducible apply Hp.drew) | (with_reducible apply Hp.drewN) | (with_reducible apply Hp.bytesW) | (with_reducible exact Upd.here) | (with_reducible exact Upd.hereR) | (with_reducible apply Upd.there) | (with_reducible apply Sz.alloc) | (with_reducible apply Sz.set) | (with_reducible apply Sz.drew) | (with_reducible apply Sz.drewN) | (with_reducible apply Sz.bytesW) | (with_reducible assumption) | (with_reducible exact Sz.base _))) (by repeat (first | (with_reducible exact hm) | (with_reducible exact List.mem_cons_self) | (with_reducible apply List.mem_cons_of_mem))) hr hn (by omega) (by omega)).mono ?_
    rintro e w4 ⟨z, rfl, H4⟩
    (try simp only [List.set_cons_zero, List.set_cons_succ, List.cons_append, List.nil_append] at H4)
    (try clear F)
    have F := H4.facts; simp only [Facts, NeF, box, row, reg, cellsF, ne_eq, true_and, and_true, Nat.reduceAdd, Nat.zero_add] at F
    cases z with
    | false =>
      go_wp2_with fail
      go_region_held3 (fun w' => w'.cell? ⟨fb, 0, none⟩ = some (.slice A1 k d) ∧ w'.cell? ⟨fb, 1, none⟩ = some (.int .i64 x1) ∧ w'.cell? ⟨fb, 2, none⟩ = some (.int .i64 x2) ∧ w'.cell? ⟨rb, 0, none⟩ = some (.string ⟨#[100, 98]⟩) ∧ w'.cell? ⟨rb, 1, none⟩ = some (.string ⟨#[117]⟩) ∧ w'.cell? ⟨rb, 2, none⟩ = some (.int .i64 3) ∧ w'.cell? ⟨rb, 3, none⟩ = some (.int .i64 9)) (first | go_keep | simp [go_sem, *]) (first | (go_at_call 27; refine (l04DrawKey_hp b A n c bs w _ _ (by repeat (first | (with_reducible exact H4) | (with_reducible apply Hp.alloc) | (with_reducible apply Hp.set) | (with_reducible apply Hp.drew) | (with_reducible apply Hp.drewN) | (with_reducible apply Hp.bytesW) | (with_reducible exact Upd.here) | (with_reducible exact Upd.hereR) | (with_reducible apply Upd.there) | (with_reducible apply Sz.alloc) | (with_reducible apply Sz.set) | (with_reducible apply Sz.drew) | (with_reducible apply Sz.drewN) | (with_reducible apply Sz.bytesW) | (with_reducible assumption) | (with_reducible exact Sz.base _))) (by repeat (first | (with_reducible exact hm) | (with_reducible exact List.mem_cons_self) | (with_reducible apply List.mem_cons_of_mem))) hr hn).mono ?_; rintro e w9 ⟨y, rfl, H9⟩; (try simp only [List.set_cons_zero, List.set_cons_succ, List.cons_append, List.nil_append] at H9); clear F; have F := H9.facts; simp only [Facts, NeF, box, row, reg, cellsF, ne_eq, true_and, and_true, Nat.reduceAdd, Nat.zero_add] at F))
      all_goals
        go_wp2_with fail
        refine bodyPost_ret (v := .tuple #[.agg #[.slice A1 k d, .int .i64 x1, .int .i64 x2], .agg #[.string ⟨#[100, 98]⟩, .string ⟨#[117]⟩, .int .i64 3, .int .i64 9], .int .i64 y]) (by simp [results, Tryd.results6, go_sem, F]) rfl ⟨_, _, _, _, _, _, _, _, _, _, rfl, by decide, by decide, Hp.b (by repeat (first | (with_reducible exact H9) | (with_reducible apply Hp.alloc) | (with_reducible apply Hp.set) | (with_reducible apply Hp.drew) | (with_reducible apply Hp.drewN) | (with_reducible apply Hp.bytesW) | (with_reducible exact Upd.here) | (with_reducible exact Upd.hereR) | (with_reducible apply Upd.there) | (with_reducible apply Sz.alloc) | (with_reducible apply Sz.set) | (with_reducible apply Sz.drew) | (with_reducible apply Sz.drewN) | (with_reducible apply Sz.bytesW) | (with_reducible assumption) | (with_reducible exact Sz.base _)))⟩
    | true =>
      go_wp2_with fail
      refine (l01Below_hp b A n c bs w _ _ _ (by repeat (first | (with_reducible exact H4) | (with_reducible apply Hp.alloc) | (with_reducible apply Hp.set) | (with_reducible apply Hp.drew) | (with_reducible apply Hp.drewN) | (with_reducible apply Hp.bytesW) | (with_reducible exact Upd.here) | (with_reducible exact Upd.hereR) | (with_reducible apply Upd.there) | (with_reducible apply Sz.alloc) | (with_reducible apply Sz.set) | (with_reducible apply Sz.drew) | (with_reducible apply Sz.drewN) | (with_reducible apply Sz.bytesW) | (with_reducible assumption) | (with_reducible exact Sz.base _))) (by repeat (first | (with_reducible exact hm) | (with_reducible exact List.mem_cons_self) | (with_reducible apply List.mem_cons_of_mem))) hr hn (by omega) (by omega)).mono ?_
      rintro e w5 ⟨y5, rfl, hy5, H5⟩
      (try simp only [List.set_cons_zero, List.set_cons_succ, List.cons_append, List.nil_append] at H5)
      (try clear F)
      have F := H5.facts; simp only [Facts, NeF, box, row, reg, cellsF, ne_eq, true_and, and_true, Nat.reduceAdd, Nat.zero_add] at F
      go_wp2_with fail
      have H6 := Hp.set (b := fb) (j := 2) (v := .int .i64 y5) H5 (by repeat (first | (with_reducible exact Upd.here) | (with_reducible apply Upd.there)))
      (try simp only [List.set_cons_zero, List.set_cons_succ, List.cons_append, List.nil_append] at H6)
      (try clear F)
      have F := H6.facts; simp only [Facts, NeF, box, row, reg, cellsF, ne_eq, true_and, and_true, Nat.reduceAdd, Nat.zero_add] at F
      go_wp2_with fail
      go_region_held3 (fun w' => w'.cell? ⟨fb, 0, none⟩ = some (.slice A1 k d) ∧ w'.cell? ⟨fb, 1, none⟩ = some (.int .i64 x1) ∧ w'.cell? ⟨fb, 2, none⟩ = some (.int .i64 y5) ∧ w'.cell? ⟨rb, 0, none⟩ = some (.string ⟨#[100, 98]⟩) ∧ w'.cell? ⟨rb, 1, none⟩ = some (.string ⟨#[117]⟩) ∧ w'.cell? ⟨rb, 2, none⟩ = some (.int .i64 3) ∧ w'.cell? ⟨rb, 3, none⟩ = some (.int .i64 9)) (first | go_keep | simp [go_sem, *]) (first | (go_at_call 27; refine (l04DrawKey_hp b A n c bs w _ _ (by repeat (first | (with_reducible exact H6) | (with_reducible apply Hp.alloc) | (with_reducible apply Hp.set) | (with_reducible apply Hp.drew) | (with_reducible apply Hp.drewN) | (with_reducible apply Hp.bytesW) | (with_reducible exact Upd.here) | (with_reducible exact Upd.hereR) | (with_reducible apply Upd.there) | (with_reducible apply Sz.alloc) | (with_reducible apply Sz.set) | (with_reducible apply Sz.drew) | (with_reducible apply Sz.drewN) | (with_reducible apply Sz.bytesW) | (with_reducible assumption) | (with_reducible exact Sz.base _))) (by repeat (first | (with_reducible exact hm) | (with_reducible exact List.mem_cons_self) | (with_reducible apply List.mem_cons_of_mem))) hr hn).mono ?_; rintro e w9 ⟨y, rfl, H9⟩; (try simp only [List.set_cons_zero, List.set_cons_succ, List.cons_append, List.nil_append] at H9); clear F; have F := H9.facts; simp only [Facts, NeF, box, row, reg, cellsF, ne_eq, true_and, and_true, Nat.reduceAdd, Nat.zero_add] at F))
      all_goals
        go_wp2_with fail
        refine bodyPost_ret (v := .tuple #[.agg #[.slice A1 k d, .int .i64 x1, .int .i64 y5], .agg #[.string ⟨#[100, 98]⟩, .string ⟨#[117]⟩, .int .i64 3, .int .i64 9], .int .i64 y]) (by simp [results, Tryd.results6, go_sem, F]) rfl ⟨_, _, _, _, _, _, _, _, _, _, rfl, by decide, by decide, Hp.b (by repeat (first | (with_reducible exact H9) | (with_reducible apply Hp.alloc) | (with_reducible apply Hp.set) | (with_reducible apply Hp.drew) | (with_reducible apply Hp.drewN) | (with_reducible apply Hp.bytesW) | (with_reducible exact Upd.here) | (with_reducible exact Upd.hereR) | (with_reducible apply Upd.there) | (with_reducible apply Sz.alloc) | (with_reducible apply Sz.set) | (with_reducible apply Sz.drew) | (with_reducible apply Sz.drewN) | (with_reducible apply Sz.bytesW) | (with_reducible assumption) | (with_reducible exact Sz.base _)))⟩
end Go.Proofs.YtaaloiloklnbiaaDoor
