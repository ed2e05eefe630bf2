/- The reference's run of a queue. No condition. -/
import Derived.Test.YtnhdpcmnnjgdkaaRunG
import Derived.Deep.RegionWith
import Derived.Deep.DrawnRows
set_option linter.unusedVariables false
set_option linter.unusedSimpArgs false
namespace Go.Proofs.Ytnhdpcmnnjgdkaa
open Go.RowKit
set_option linter.unusedVariables false
attribute [local go_sem ↓] Go.wp_at_zero Go.wp_at_succ
set_option linter.unusedSimpArgs false

set_option maxHeartbeats 8000000 in
set_option maxRecDepth 10000 in
theorem specRunQueue_hp (A : Option Addr) (n c : Nat) (js : List Job) (A' : Option Addr) (m c' : Nat) (us : List User) (fail made now : Int) (w : World) (hr : Rd w w.heap.size 3 A n c (js.flatMap encJob)) (hn : js.length = n) (hf : ∀ u ∈ js, JobFits u) (hb20 : n ≤ 1048576)
    (hr' : Rd w w.heap.size 2 A' m c' (us.flatMap encUser)) (hn' : us.length = m) (hf' : ∀ u ∈ us, UserFits u) (hb20' : m ≤ 1048576) :
    Calls Try.prog 15 #[.agg #[.slice A n c], .agg #[.slice A' m c', .int .i64 fail, .int .i64 made], .int .i64 now] w fun e w' => RunH w (runF js us fail made now) made e w' := by
  subst hn hn'
  by_cases hv : queueOk js = true ∧ farOk us fail made = true ∧ inR now 0 1000000000 = true
  · rw [runF, if_pos hv]
    exact specRunQueue_good A js.length c js A' us.length c' us fail made now w hr rfl hf hb20 hr' rfl hf' hb20' hv.1 hv.2.1 hv.2.2
  obtain ⟨i0, hi0, hz0, hz1, hz2⟩ := info_parts Try.infoJob
  obtain ⟨i1, hi1, hy0, hy1, hy2⟩ := info_parts Try.infoStr
  have hc := hr.2.1
  have hm := hr.2.2.1
  unfold maxLen at hm
  have H := Hp.nil w
  go_enter Try.func15, Try.ntmps15
  go_wp2_with fail
  refine (l11Copy_hp A' us.length c' us fail made _ (hr'.grow (Hp.b (by repeat (first | (with_reducible exact H) | (with_reducible apply Hp.alloc) | (with_reducible apply Hp.set) | (with_reducible apply Hp.drew) | (with_reducible apply Hp.drewN) | (with_reducible apply Hp.bytesW) | (with_reducible exact Upd.here) | (with_reducible exact Upd.hereR) | (with_reducible apply Upd.there) | (with_reducible apply Sz.alloc) | (with_reducible apply Sz.set) | (with_reducible apply Sz.drew) | (with_reducible apply Sz.drewN) | (with_reducible apply Sz.bytesW) | (with_reducible assumption) | (with_reducible exact Sz.base _))))) rfl hb20').mono ?_
  rintro e w1 ⟨A1, c1, rfl, h1⟩
  replace H := Hp.call (by repeat (first | (with_reducible exact H) | (with_reducible apply Hp.alloc) | (with_reducible apply Hp.set) | (with_reducible apply Hp.drew) | (with_reducible apply Hp.drewN) | (with_reducible apply Hp.bytesW) | (with_reducible exact Upd.here) | (with_reducible exact Upd.hereR) | (with_reducible apply Upd.there) | (with_reducible apply Sz.alloc) | (with_reducible apply Sz.set) | (with_reducible apply Sz.drew) | (with_reducible apply Sz.drewN) | (with_reducible apply Sz.bytesW) | (with_reducible assumption) | (with_reducible exact Sz.base _))) h1; (try simp only [List.set_cons_zero, List.set_cons_succ, List.cons_append, List.nil_append] at H)
  have F := H.facts; simp only [Facts, NeF, box, row, reg, cellsF, rJob, rUser, rStr, ne_eq, true_and, and_true, Nat.reduceAdd, Nat.zero_add] at F
  cases hq : queueOk js with
  | false =>
    have HR : Hid (runF js us fail made now = ⟨js, us, fail, [], []⟩) := by show _ = _; rw [runF, if_neg (by rw [hq]; simp)]
    go_wp2_with fail
    refine (specQueueOk_any A js.length c js _ (hr.grow (Hp.b (by repeat (first | (with_reducible exact H) | (with_reducible apply Hp.alloc) | (with_reducible apply Hp.set) | (with_reducible apply Hp.drew) | (with_reducible apply Hp.drewN) | (with_reducible apply Hp.bytesW) | (with_reducible exact Upd.here) | (with_reducible exact Upd.hereR) | (with_reducible apply Upd.there) | (with_reducible apply Sz.alloc) | (with_reducible apply Sz.set) | (with_reducible apply Sz.drew) | (with_reducible apply Sz.drewN) | (with_reducible apply Sz.bytesW) | (with_reducible assumption) | (with_reducible exact Sz.base _))))) rfl hf).mono ?_
    rintro e w2 ⟨rfl, hb2⟩
    replace H := Hp.step (by repeat (first | (with_reducible exact H) | (with_reducible apply Hp.alloc) | (with_reducible apply Hp.set) | (with_reducible apply Hp.drew) | (with_reducible apply Hp.drewN) | (with_reducible apply Hp.bytesW) | (with_reducible exact Upd.here) | (with_reducible exact Upd.hereR) | (with_reducible apply Upd.there) | (with_reducible apply Sz.alloc) | (with_reducible apply Sz.set) | (with_reducible apply Sz.drew) | (with_reducible apply Sz.drewN) | (with_reducible apply Sz.bytesW) | (with_reducible assumption) | (with_reducible exact Sz.base _))) hb2; (try simp only [List.set_cons_zero, List.set_cons_succ, List.cons_append, List.nil_append] at H)
    clear F; have F := H.facts; simp only [Facts, NeF, box, row, reg, cellsF, rJob, rUser, rStr, ne_eq, true_and, and_true, Nat.reduceAdd, Nat.zero_add] at F
    go_wp2_with fail
    go_region_with (go_at_call 40; refine (l11CopyQueue_hp A js.length c js _ (hr.grow (Hp.b (by repeat (first | (with_reducible exact H) | (with_reducible apply Hp.alloc) | (with_reducible apply Hp.set) | (with_reducible apply Hp.drew) | (with_reducible apply Hp.drewN) | (with_reducible apply Hp.bytesW) | (with_reducible exact Upd.here) | (with_reducible exact Upd.hereR) | (with_reducible apply Upd.there) | (with_reducible apply Sz.alloc) | (with_reducible apply Sz.set) | (with_reducible apply Sz.drew) | (with_reducible apply Sz.drewN) | (with_reducible apply Sz.bytesW) | (with_reducible assumption) | (with_reducible exact Sz.base _))))) rfl hb20).mono ?_; rintro e w4 ⟨A4, c4, rfl, h4⟩; have H9 := Hp.call (by repeat (first | (with_reducible exact H) | (with_reducible apply Hp.alloc) | (with_reducible apply Hp.set) | (with_reducible apply Hp.drew) | (with_reducible apply Hp.drewN) | (with_reducible apply Hp.bytesW) | (with_reducible exact Upd.here) | (with_reducible exact Upd.hereR) | (with_reducible apply Upd.there) | (with_reducible apply Sz.alloc) | (with_reducible apply Sz.set) | (with_reducible apply Sz.drew) | (with_reducible apply Sz.drewN) | (with_reducible apply Sz.bytesW) | (with_reducible assumption) | (with_reducible exact Sz.base _))) h4; clear h4; (try simp only [List.set_cons_zero, List.set_cons_succ, List.cons_append, List.nil_append] at H9); have F9 := H9.facts; simp only [Facts, NeF, box, row, reg, cellsF, rJob, rUser, rStr, ne_eq, true_and, and_true, Nat.reduceAdd, Nat.zero_add] at F9)
    all_goals
      go_wp2_with fail
      refine bodyPost_ret (v := .tuple #[.agg #[.slice A4 js.length c4], .agg #[.slice A1 us.length c1, .int .i64 fail, .int .i64 made], .slice none 0 0, .slice none 0 0]) (by simp [results, Try.results15, go_sem, F9]) rfl ?_
      rw [HR.out]
      exact ⟨A4, A1, none, none, c4, c1, 0, 0, rfl, Hp.give (Hp.cons_nilRow (Hp.cons_nilRow (by repeat (first | (with_reducible exact H9) | (with_reducible apply Hp.alloc) | (with_reducible apply Hp.set) | (with_reducible apply Hp.drew) | (with_reducible apply Hp.drewN) | (with_reducible apply Hp.bytesW) | (with_reducible exact Upd.here) | (with_reducible exact Upd.hereR) | (with_reducible apply Upd.there) | (with_reducible apply Sz.alloc) | (with_reducible apply Sz.set) | (with_reducible apply Sz.drew) | (with_reducible apply Sz.drewN) | (with_reducible apply Sz.bytesW) | (with_reducible assumption) | (with_reducible exact Sz.base _))) 9 1) 9 1) [2, 4, 0, 1] (by decide) (by rfl)⟩
  | true =>
  go_wp2_with fail
  refine (specQueueOk_any A js.length c js _ (hr.grow (Hp.b (by repeat (first | (with_reducible exact H) | (with_reducible apply Hp.alloc) | (with_reducible apply Hp.set) | (with_reducible apply Hp.drew) | (with_reducible apply Hp.drewN) | (with_reducible apply Hp.bytesW) | (with_reducible exact Upd.here) | (with_reducible exact Upd.hereR) | (with_reducible apply Upd.there) | (with_reducible apply Sz.alloc) | (with_reducible apply Sz.set) | (with_reducible apply Sz.drew) | (with_reducible apply Sz.drewN) | (with_reducible apply Sz.bytesW) | (with_reducible assumption) | (with_reducible exact Sz.base _))))) rfl hf).mono ?_
  rintro e w2 ⟨rfl, hb2⟩
  replace H := Hp.step (by repeat (first | (with_reducible exact H) | (with_reducible apply Hp.alloc) | (with_reducible apply Hp.set) | (with_reducible apply Hp.drew) | (with_reducible apply Hp.drewN) | (with_reducible apply Hp.bytesW) | (with_reducible exact Upd.here) | (with_reducible exact Upd.hereR) | (with_reducible apply Upd.there) | (with_reducible apply Sz.alloc) | (with_reducible apply Sz.set) | (with_reducible apply Sz.drew) | (with_reducible apply Sz.drewN) | (with_reducible apply Sz.bytesW) | (with_reducible assumption) | (with_reducible exact Sz.base _))) hb2; (try simp only [List.set_cons_zero, List.set_cons_succ, List.cons_append, List.nil_append] at H)
  clear F; have F := H.facts; simp only [Facts, NeF, box, row, reg, cellsF, rJob, rUser, rStr, ne_eq, true_and, and_true, Nat.reduceAdd, Nat.zero_add] at F
  cases hfo : farOk us fail made with
  | false =>
    have HR : Hid (runF js us fail made now = ⟨js, us, fail, [], []⟩) := by show _ = _; rw [runF, if_neg (by rw [hfo]; simp)]
    go_wp2_with fail
    refine (specFarOk_any A' us.length c' us fail made _ (hr'.grow (Hp.b (by repeat (first | (with_reducible exact H) | (with_reducible apply Hp.alloc) | (with_reducible apply Hp.set) | (with_reducible apply Hp.drew) | (with_reducible apply Hp.drewN) | (with_reducible apply Hp.bytesW) | (with_reducible exact Upd.here) | (with_reducible exact Upd.hereR) | (with_reducible apply Upd.there) | (with_reducible apply Sz.alloc) | (with_reducible apply Sz.set) | (with_reducible apply Sz.drew) | (with_reducible apply Sz.drewN) | (with_reducible apply Sz.bytesW) | (with_reducible assumption) | (with_reducible exact Sz.base _))))) rfl (fun u h => (hf' u h).name)).mono ?_
    rintro e w3 ⟨rfl, hb3⟩
    replace H := Hp.step (by repeat (first | (with_reducible exact H) | (with_reducible apply Hp.alloc) | (with_reducible apply Hp.set) | (with_reducible apply Hp.drew) | (with_reducible apply Hp.drewN) | (with_reducible apply Hp.bytesW) | (with_reducible exact Upd.here) | (with_reducible exact Upd.hereR) | (with_reducible apply Upd.there) | (with_reducible apply Sz.alloc) | (with_reducible apply Sz.set) | (with_reducible apply Sz.drew) | (with_reducible apply Sz.drewN) | (with_reducible apply Sz.bytesW) | (with_reducible assumption) | (with_reducible exact Sz.base _))) hb3; (try simp only [List.set_cons_zero, List.set_cons_succ, List.cons_append, List.nil_append] at H)
    clear F; have F := H.facts; simp only [Facts, NeF, box, row, reg, cellsF, rJob, rUser, rStr, ne_eq, true_and, and_true, Nat.reduceAdd, Nat.zero_add] at F
    go_wp2_with fail
    go_region_with (go_at_call 40; refine (l11CopyQueue_hp A js.length c js _ (hr.grow (Hp.b (by repeat (first | (with_reducible exact H) | (with_reducible apply Hp.alloc) | (with_reducible apply Hp.set) | (with_reducible apply Hp.drew) | (with_reducible apply Hp.drewN) | (with_reducible apply Hp.bytesW) | (with_reducible exact Upd.here) | (with_reducible exact Upd.hereR) | (with_reducible apply Upd.there) | (with_reducible apply Sz.alloc) | (with_reducible apply Sz.set) | (with_reducible apply Sz.drew) | (with_reducible apply Sz.drewN) | (with_reducible apply Sz.bytesW) | (with_reducible assumption) | (with_reducible exact Sz.base _))))) rfl hb20).mono ?_; rintro e w4 ⟨A4, c4, rfl, h4⟩; have H9 := Hp.call (by repeat (first | (with_reducible exact H) | (with_reducible apply Hp.alloc) | (with_reducible apply Hp.set) | (with_reducible apply Hp.drew) | (with_reducible apply Hp.drewN) | (with_reducible apply Hp.bytesW) | (with_reducible exact Upd.here) | (with_reducible exact Upd.hereR) | (with_reducible apply Upd.there) | (with_reducible apply Sz.alloc) | (with_reducible apply Sz.set) | (with_reducible apply Sz.drew) | (with_reducible apply Sz.drewN) | (with_reducible apply Sz.bytesW) | (with_reducible assumption) | (with_reducible exact Sz.base _))) h4; clear h4; (try simp only [List.set_cons_zero, List.set_cons_succ, List.cons_append, List.nil_append] at H9); have F9 := H9.facts; simp only [Facts, NeF, box, row, reg, cellsF, rJob, rUser, rStr, ne_eq, true_and, and_true, Nat.reduceAdd, Nat.zero_add] at F9)
    all_goals
      go_wp2_with fail
      refine bodyPost_ret (v := .tuple #[.agg #[.slice A4 js.length c4], .agg #[.slice A1 us.length c1, .int .i64 fail, .int .i64 made], .slice none 0 0, .slice none 0 0]) (by simp [results, Try.results15, go_sem, F9]) rfl ?_
      rw [HR.out]
      exact ⟨A4, A1, none, none, c4, c1, 0, 0, rfl, Hp.give (Hp.cons_nilRow (Hp.cons_nilRow (by repeat (first | (with_reducible exact H9) | (with_reducible apply Hp.alloc) | (with_reducible apply Hp.set) | (with_reducible apply Hp.drew) | (with_reducible apply Hp.drewN) | (with_reducible apply Hp.bytesW) | (with_reducible exact Upd.here) | (with_reducible exact Upd.hereR) | (with_reducible apply Upd.there) | (with_reducible apply Sz.alloc) | (with_reducible apply Sz.set) | (with_reducible apply Sz.drew) | (with_reducible apply Sz.drewN) | (with_reducible apply Sz.bytesW) | (with_reducible assumption) | (with_reducible exact Sz.base _))) 9 1) 9 1) [2, 4, 0, 1] (by decide) (by rfl)⟩
  | true =>
  go_wp2_with fail
  refine (specFarOk_any A' us.length c' us fail made _ (hr'.grow (Hp.b (by repeat (first | (with_reducible exact H) | (with_reducible apply Hp.alloc) | (with_reducible apply Hp.set) | (with_reducible apply Hp.drew) | (with_reducible apply Hp.drewN) | (with_reducible apply Hp.bytesW) | (with_reducible exact Upd.here) | (with_reducible exact Upd.hereR) | (with_reducible apply Upd.there) | (with_reducible apply Sz.alloc) | (with_reducible apply Sz.set) | (with_reducible apply Sz.drew) | (with_reducible apply Sz.drewN) | (with_reducible apply Sz.bytesW) | (with_reducible assumption) | (with_reducible exact Sz.base _))))) rfl (fun u h => (hf' u h).name)).mono ?_
  rintro e w3 ⟨rfl, hb3⟩
  replace H := Hp.step (by repeat (first | (with_reducible exact H) | (with_reducible apply Hp.alloc) | (with_reducible apply Hp.set) | (with_reducible apply Hp.drew) | (with_reducible apply Hp.drewN) | (with_reducible apply Hp.bytesW) | (with_reducible exact Upd.here) | (with_reducible exact Upd.hereR) | (with_reducible apply Upd.there) | (with_reducible apply Sz.alloc) | (with_reducible apply Sz.set) | (with_reducible apply Sz.drew) | (with_reducible apply Sz.drewN) | (with_reducible apply Sz.bytesW) | (with_reducible assumption) | (with_reducible exact Sz.base _))) hb3; (try simp only [List.set_cons_zero, List.set_cons_succ, List.cons_append, List.nil_append] at H)
  clear F; have F := H.facts; simp only [Facts, NeF, box, row, reg, cellsF, rJob, rUser, rStr, ne_eq, true_and, and_true, Nat.reduceAdd, Nat.zero_add] at F
  cases hnow : inR now 0 1000000000 with
  | false =>
    have HR : Hid (runF js us fail made now = ⟨js, us, fail, [], []⟩) := by show _ = _; rw [runF, if_neg (by rw [hnow]; simp)]
    go_wp2_with (go_at_call 38; refine (l01In_any _ _ _ _).mono ?_; rintro e w' ⟨rfl, rfl⟩)
    go_region_with (go_at_call 40; refine (l11CopyQueue_hp A js.length c js _ (hr.grow (Hp.b (by repeat (first | (with_reducible exact H) | (with_reducible apply Hp.alloc) | (with_reducible apply Hp.set) | (with_reducible apply Hp.drew) | (with_reducible apply Hp.drewN) | (with_reducible apply Hp.bytesW) | (with_reducible exact Upd.here) | (with_reducible exact Upd.hereR) | (with_reducible apply Upd.there) | (with_reducible apply Sz.alloc) | (with_reducible apply Sz.set) | (with_reducible apply Sz.drew) | (with_reducible apply Sz.drewN) | (with_reducible apply Sz.bytesW) | (with_reducible assumption) | (with_reducible exact Sz.base _))))) rfl hb20).mono ?_; rintro e w4 ⟨A4, c4, rfl, h4⟩; have H9 := Hp.call (by repeat (first | (with_reducible exact H) | (with_reducible apply Hp.alloc) | (with_reducible apply Hp.set) | (with_reducible apply Hp.drew) | (with_reducible apply Hp.drewN) | (with_reducible apply Hp.bytesW) | (with_reducible exact Upd.here) | (with_reducible exact Upd.hereR) | (with_reducible apply Upd.there) | (with_reducible apply Sz.alloc) | (with_reducible apply Sz.set) | (with_reducible apply Sz.drew) | (with_reducible apply Sz.drewN) | (with_reducible apply Sz.bytesW) | (with_reducible assumption) | (with_reducible exact Sz.base _))) h4; clear h4; (try simp only [List.set_cons_zero, List.set_cons_succ, List.cons_append, List.nil_append] at H9); have F9 := H9.facts; simp only [Facts, NeF, box, row, reg, cellsF, rJob, rUser, rStr, ne_eq, true_and, and_true, Nat.reduceAdd, Nat.zero_add] at F9)
    all_goals
      go_wp2_with fail
      refine bodyPost_ret (v := .tuple #[.agg #[.slice A4 js.length c4], .agg #[.slice A1 us.length c1, .int .i64 fail, .int .i64 made], .slice none 0 0, .slice none 0 0]) (by simp [results, Try.results15, go_sem, F9]) rfl ?_
      rw [HR.out]
      exact ⟨A4, A1, none, none, c4, c1, 0, 0, rfl, Hp.give (Hp.cons_nilRow (Hp.cons_nilRow (by repeat (first | (with_reducible exact H9) | (with_reducible apply Hp.alloc) | (with_reducible apply Hp.set) | (with_reducible apply Hp.drew) | (with_reducible apply Hp.drewN) | (with_reducible apply Hp.bytesW) | (with_reducible exact Upd.here) | (with_reducible exact Upd.hereR) | (with_reducible apply Upd.there) | (with_reducible apply Sz.alloc) | (with_reducible apply Sz.set) | (with_reducible apply Sz.drew) | (with_reducible apply Sz.drewN) | (with_reducible apply Sz.bytesW) | (with_reducible assumption) | (with_reducible exact Sz.base _))) 9 1) 9 1) [2, 4, 0, 1] (by decide) (by rfl)⟩
  | true =>
  exact absurd ⟨hq, hfo, hnow⟩ hv
end Go.Proofs.Ytnhdpcmnnjgdkaa
