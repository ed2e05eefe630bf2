/- Quiet queues: the program. No condition. -/
import Derived.Test.YtnhdpcmnnjgdkaaQuietA
import Derived.Test.YtnhdpcmnnjgdkaaRunI
import Derived.Outline
set_option linter.unusedVariables false
set_option linter.unusedSimpArgs false
namespace Go.Proofs.Ytnhdpcmnnjgdkaa
open Go.RowKit
set_option linter.unusedVariables false
set_option linter.unusedSimpArgs false

theorem late1_any (j : Job) (w : World) :
    Calls Try.prog 19 #[.agg #[.string j.name, .int .i64 j.at_, .int .i64 j.tries]] w fun e w' => e = .returned (.bool (decide (1000 < j.at_))) ∧ Below w.heap.size w w' := by
  go_enter Try.func19, Try.ntmps19
  go_wp2
  go_ret
  exact ⟨rfl, below_alloc _ _⟩
set_option maxHeartbeats 4000000 in
set_option maxRecDepth 10000 in
theorem implQueueQuiet_any (A : Option Addr) (n c : Nat) (js : List Job) (A' : Option Addr) (m c' : Nat) (us : List User) (fail made : Int) (w : World) (hr : Rd w w.heap.size 3 A n c (js.flatMap encJob)) (hn : js.length = n) (hf : ∀ u ∈ js, JobFits u) (hb20 : n ≤ 1048576)
    (hr' : Rd w w.heap.size 2 A' m c' (us.flatMap encUser)) (hn' : us.length = m) (hf' : ∀ u ∈ us, UserFits u) (hb20' : m ≤ 1048576) :
    Calls Try.prog 7 #[.agg #[.slice A n c], .agg #[.slice A' m c', .int .i64 fail, .int .i64 made]] w fun e w' => e = .returned (.int .i64 (quietF js us fail made)) ∧ Below w.heap.size w w' := by
  subst hn'
  have hc := hr.2.1
  have hm := hr.2.2.1
  unfold maxLen at hm
  have H := Hp.nil w
  go_enter Try.func7, Try.ntmps7
  go_wp2_with fail
  refine (isQueue_any A n c js _ (hr.grow (Hp.b (by repeat (first | (with_reducible exact H) | (with_reducible apply Hp.alloc) | (with_reducible apply Hp.set) | (with_reducible apply Hp.drew) | (with_reducible apply Hp.drewN) | (with_reducible apply Hp.bytesW) | (with_reducible exact Upd.here) | (with_reducible exact Upd.hereR) | (with_reducible apply Upd.there) | (with_reducible apply Sz.alloc) | (with_reducible apply Sz.set) | (with_reducible apply Sz.drew) | (with_reducible apply Sz.drewN) | (with_reducible apply Sz.bytesW) | (with_reducible assumption) | (with_reducible exact Sz.base _))))) hn hf).mono ?_
  rintro e w1 ⟨rfl, hb1⟩
  replace H := Hp.step (by repeat (first | (with_reducible exact H) | (with_reducible apply Hp.alloc) | (with_reducible apply Hp.set) | (with_reducible apply Hp.drew) | (with_reducible apply Hp.drewN) | (with_reducible apply Hp.bytesW) | (with_reducible exact Upd.here) | (with_reducible exact Upd.hereR) | (with_reducible apply Upd.there) | (with_reducible apply Sz.alloc) | (with_reducible apply Sz.set) | (with_reducible apply Sz.drew) | (with_reducible apply Sz.drewN) | (with_reducible apply Sz.bytesW) | (with_reducible assumption) | (with_reducible exact Sz.base _))) hb1; (try simp only [List.set_cons_zero, List.set_cons_succ, List.cons_append, List.nil_append] at H)
  have F := H.facts; simp only [Facts, NeF, box, row, reg, cellsF, rJob, rUser, rStr, ne_eq, true_and, and_true, Nat.reduceAdd, Nat.zero_add] at F
  cases hq : queueOk js with
  | false =>
    have HR : Hid (quietF js us fail made = -1) := by show _ = _; rw [quietF, if_neg (by rw [hq]; simp)]
    go_wp2_with fail
    go_ret
    exact ⟨by rw [HR.out]; rfl, Hp.b (by repeat (first | (with_reducible exact H) | (with_reducible apply Hp.alloc) | (with_reducible apply Hp.set) | (with_reducible apply Hp.drew) | (with_reducible apply Hp.drewN) | (with_reducible apply Hp.bytesW) | (with_reducible exact Upd.here) | (with_reducible exact Upd.hereR) | (with_reducible apply Upd.there) | (with_reducible apply Sz.alloc) | (with_reducible apply Sz.set) | (with_reducible apply Sz.drew) | (with_reducible apply Sz.drewN) | (with_reducible apply Sz.bytesW) | (with_reducible assumption) | (with_reducible exact Sz.base _)))⟩
  | true =>
  go_wp2_with fail
  refine (isFar_any A' us.length c' us fail made _ (hr'.grow (Hp.b (by repeat (first | (with_reducible exact H) | (with_reducible apply Hp.alloc) | (with_reducible apply Hp.set) | (with_reducible apply Hp.drew) | (with_reducible apply Hp.drewN) | (with_reducible apply Hp.bytesW) | (with_reducible exact Upd.here) | (with_reducible exact Upd.hereR) | (with_reducible apply Upd.there) | (with_reducible apply Sz.alloc) | (with_reducible apply Sz.set) | (with_reducible apply Sz.drew) | (with_reducible apply Sz.drewN) | (with_reducible apply Sz.bytesW) | (with_reducible assumption) | (with_reducible exact Sz.base _))))) rfl (fun u h => (hf' u h).name)).mono ?_
  rintro e w3 ⟨rfl, hb3⟩
  replace H := Hp.step (by repeat (first | (with_reducible exact H) | (with_reducible apply Hp.alloc) | (with_reducible apply Hp.set) | (with_reducible apply Hp.drew) | (with_reducible apply Hp.drewN) | (with_reducible apply Hp.bytesW) | (with_reducible exact Upd.here) | (with_reducible exact Upd.hereR) | (with_reducible apply Upd.there) | (with_reducible apply Sz.alloc) | (with_reducible apply Sz.set) | (with_reducible apply Sz.drew) | (with_reducible apply Sz.drewN) | (with_reducible apply Sz.bytesW) | (with_reducible assumption) | (with_reducible exact Sz.base _))) hb3; (try simp only [List.set_cons_zero, List.set_cons_succ, List.cons_append, List.nil_append] at H)
  clear F; have F := H.facts; simp only [Facts, NeF, box, row, reg, cellsF, rJob, rUser, rStr, ne_eq, true_and, and_true, Nat.reduceAdd, Nat.zero_add] at F
  cases hfo : farOk us fail made with
  | false =>
    have HR : Hid (quietF js us fail made = -1) := by show _ = _; rw [quietF, if_neg (by rw [hfo]; simp)]
    go_wp2_with fail
    go_ret
    exact ⟨by rw [HR.out]; rfl, Hp.b (by repeat (first | (with_reducible exact H) | (with_reducible apply Hp.alloc) | (with_reducible apply Hp.set) | (with_reducible apply Hp.drew) | (with_reducible apply Hp.drewN) | (with_reducible apply Hp.bytesW) | (with_reducible exact Upd.here) | (with_reducible exact Upd.hereR) | (with_reducible apply Upd.there) | (with_reducible apply Sz.alloc) | (with_reducible apply Sz.set) | (with_reducible apply Sz.drew) | (with_reducible apply Sz.drewN) | (with_reducible apply Sz.bytesW) | (with_reducible assumption) | (with_reducible exact Sz.base _)))⟩
  | true =>
  go_wp2_with fail
  have eg := enters_of (P := Try.prog) Try.func19 (by kernel_rfl) rfl
  clear hb1 hb3
  go_wp2_with fail
  refine (containsFuncJob_any 19 #[] (fun j => decide (1000 < j.at_)) eg A n c js _ (fun W x hb => late1_any x W) (hr.grow (Hp.b (by repeat (first | (with_reducible exact H) | (with_reducible apply Hp.alloc) | (with_reducible apply Hp.set) | (with_reducible apply Hp.drew) | (with_reducible apply Hp.drewN) | (with_reducible apply Hp.bytesW) | (with_reducible exact Upd.here) | (with_reducible exact Upd.hereR) | (with_reducible apply Upd.there) | (with_reducible apply Sz.alloc) | (with_reducible apply Sz.set) | (with_reducible apply Sz.drew) | (with_reducible apply Sz.drewN) | (with_reducible apply Sz.bytesW) | (with_reducible assumption) | (with_reducible exact Sz.base _))))) hn).mono ?_
  rintro e w4 ⟨rfl, hb4⟩
  replace H := Hp.step (by repeat (first | (with_reducible exact H) | (with_reducible apply Hp.alloc) | (with_reducible apply Hp.set) | (with_reducible apply Hp.drew) | (with_reducible apply Hp.drewN) | (with_reducible apply Hp.bytesW) | (with_reducible exact Upd.here) | (with_reducible exact Upd.hereR) | (with_reducible apply Upd.there) | (with_reducible apply Sz.alloc) | (with_reducible apply Sz.set) | (with_reducible apply Sz.drew) | (with_reducible apply Sz.drewN) | (with_reducible apply Sz.bytesW) | (with_reducible assumption) | (with_reducible exact Sz.base _))) hb4; (try simp only [List.set_cons_zero, List.set_cons_succ, List.cons_append, List.nil_append] at H)
  clear F hb4 eg; have F := H.facts; simp only [Facts, NeF, box, row, reg, cellsF, rJob, rUser, rStr, ne_eq, true_and, and_true, Nat.reduceAdd, Nat.zero_add] at F
  cases hL : lateB js with
  | true =>
    have hL2 : anyP (fun j : Job => decide (1000 < j.at_)) js = true := hL
    have HR : Hid (quietF js us fail made = -1) := by show _ = _; rw [quietF, if_neg (by rw [hL]; simp)]
    clear hL
    go_wp2_with fail
    go_ret
    exact ⟨by rw [HR.out]; rfl, Hp.b (by repeat (first | (with_reducible exact H) | (with_reducible apply Hp.alloc) | (with_reducible apply Hp.set) | (with_reducible apply Hp.drew) | (with_reducible apply Hp.drewN) | (with_reducible apply Hp.bytesW) | (with_reducible exact Upd.here) | (with_reducible exact Upd.hereR) | (with_reducible apply Upd.there) | (with_reducible apply Sz.alloc) | (with_reducible apply Sz.set) | (with_reducible apply Sz.drew) | (with_reducible apply Sz.drewN) | (with_reducible apply Sz.bytesW) | (with_reducible assumption) | (with_reducible exact Sz.base _)))⟩
  | false =>
      have hL2 : anyP (fun j : Job => decide (1000 < j.at_)) js = false := hL
      have HT : Hid (∀ j ∈ js, tame (0 : Nat) j) := tame_all hq hL
      have HR : Hid (quietF js us fail made = quietN 1063 js us fail 0) := by show _ = _; rw [quietF, if_pos ⟨hq, hfo, hL⟩]
      clear hL
      go_wp2_with fail
      have HH := Lib.hid H; clear H F hL2
      go_loopw [5] (fun t wx => ∃ tt : Nat, tt ≤ 1063 ∧ t = .int .i64 tt ∧ ∃ (js' : List Job) (us' : List User) (fail' : Int) (A2 : Option Addr) (c2 : Nat) (A3 : Option Addr) (c3 : Nat), Hid (Rd wx wx.heap.size 3 A2 js'.length c2 (js'.flatMap encJob)) ∧ Hid (Rd wx wx.heap.size 2 A3 us'.length c3 (us'.flatMap encUser)) ∧ Hid (quietN (1063 - tt) js' us' fail' tt = quietN 1063 js us fail 0) ∧ Hid (∀ j ∈ js', tame tt j) ∧ Hid (queueOk js' = true) ∧ Hid (farOk us' fail' made = true) ∧ Hid (∀ u ∈ us', UserFits u) ∧ Hid (Hp w wx [box (w.heap.size + 1) 29 [.slice A3 us'.length c3, .int .i64 fail', .int .i64 made], box w.heap.size 26 [.slice A2 js'.length c2]])) (fun t _ => 1063 - (intOf t).toNat)
      case atStart =>
        subst hn
        have H := HH.out
        refine ⟨0, by omega, rfl, js, us, fail, A, c, A', c', Lib.hid (hr.grow (Hp.b (by repeat (first | (with_reducible exact H) | (with_reducible apply Hp.alloc) | (with_reducible apply Hp.set) | (with_reducible apply Hp.drew) | (with_reducible apply Hp.drewN) | (with_reducible apply Hp.bytesW) | (with_reducible exact Upd.here) | (with_reducible exact Upd.hereR) | (with_reducible apply Upd.there) | (with_reducible apply Sz.alloc) | (with_reducible apply Sz.set) | (with_reducible apply Sz.drew) | (with_reducible apply Sz.drewN) | (with_reducible apply Sz.bytesW) | (with_reducible assumption) | (with_reducible exact Sz.base _))))), Lib.hid (hr'.grow (Hp.b (by repeat (first | (with_reducible exact H) | (with_reducible apply Hp.alloc) | (with_reducible apply Hp.set) | (with_reducible apply Hp.drew) | (with_reducible apply Hp.drewN) | (with_reducible apply Hp.bytesW) | (with_reducible exact Upd.here) | (with_reducible exact Upd.hereR) | (with_reducible apply Upd.there) | (with_reducible apply Sz.alloc) | (with_reducible apply Sz.set) | (with_reducible apply Sz.drew) | (with_reducible apply Sz.drewN) | (with_reducible apply Sz.bytesW) | (with_reducible assumption) | (with_reducible exact Sz.base _))))), rfl, HT, hq, hfo, hf', Lib.hid (Hp.give (by repeat (first | (with_reducible exact H) | (with_reducible apply Hp.alloc) | (with_reducible apply Hp.set) | (with_reducible apply Hp.drew) | (with_reducible apply Hp.drewN) | (with_reducible apply Hp.bytesW) | (with_reducible exact Upd.here) | (with_reducible exact Upd.hereR) | (with_reducible apply Upd.there) | (with_reducible apply Sz.alloc) | (with_reducible apply Sz.set) | (with_reducible apply Sz.drew) | (with_reducible apply Sz.drewN) | (with_reducible apply Sz.bytesW) | (with_reducible assumption) | (with_reducible exact Sz.base _))) [0, 1] (by decide) (by rfl))⟩
      case round =>
        clear HH HT
        obtain ⟨tt, htt, rfl, js', us', fail', A2, c2, A3, c3, R1, R2, HQ, HT, hq', hfo', HU, HP⟩ := hrel
        have H := HP.out
        have F := H.facts; simp only [Facts, NeF, box, row, reg, cellsF, rJob, rUser, rStr, ne_eq, true_and, and_true, Nat.reduceAdd, Nat.zero_add] at F
        have hl120 : js'.length ≤ 120 := (queueOk_iff.1 hq'.out).1
        have hu120 : us'.length ≤ 120 := (farOk_iff.1 hfo'.out).1
        have hr1 := R1.out.2.2.1
        unfold maxLen at hr1
        by_cases hz : js'.length = 0
        · have HE : Hid (quietN 1063 js us fail 0 = (tt : Int)) := by show _ = _; rw [← HQ.out, quietN_end hz]
          have hz2 : (js'.length : Int) ≤ 0 := by omega
          clear hz
          go_wp2_with fail
          go_ret
          exact ⟨by rw [HR.out, HE.out]; rfl, Hp.b (by repeat (first | (with_reducible exact H) | (with_reducible apply Hp.alloc) | (with_reducible apply Hp.set) | (with_reducible apply Hp.drew) | (with_reducible apply Hp.drewN) | (with_reducible apply Hp.bytesW) | (with_reducible exact Upd.here) | (with_reducible exact Upd.hereR) | (with_reducible apply Upd.there) | (with_reducible apply Sz.alloc) | (with_reducible apply Sz.set) | (with_reducible apply Sz.drew) | (with_reducible apply Sz.drewN) | (with_reducible apply Sz.bytesW) | (with_reducible assumption) | (with_reducible exact Sz.base _)))⟩
        · have ht2 : (tt : Int) ≤ 1062 := by
            cases hjs : js' with
            | nil => rw [hjs] at hz; exact absurd rfl hz
            | cons j l => exact tame_now (HT.out j (by rw [hjs]; exact List.mem_cons_self))
          have hz2 : 0 < (js'.length : Int) := by omega
          have HRF : Hid (runF js' us' fail' made tt = runQ js' us' fail' tt) := by show _ = _; rw [runF, if_pos ⟨hq'.out, hfo'.out, by simp [inR]; omega⟩]
          have HQ2 : Hid (quietN (1063 - (tt + 1)) (runQ js' us' fail' tt).out (runQ js' us' fail' tt).us (runQ js' us' fail' tt).fail ((tt + 1 : Nat) : Int) = quietN 1063 js us fail 0) := by
            show _ = _
            rw [← HQ.out, show 1063 - tt = (1063 - (tt + 1)) + 1 by omega, quietN_go hz]
            rfl
          have HT2 : Hid (∀ j ∈ (runQ js' us' fail' tt).out, tame ((tt + 1 : Nat) : Int) j) := by
            have := tame_run (us := us') (fail := fail') HT.out
            exact this
          have HQ3 : Hid (queueOk (runQ js' us' fail' tt).out = true) := runQ_ok hq'.out (by omega) (by omega)
          have HF3 : Hid (farOk (runQ js' us' fail' tt).us (runQ js' us' fail' tt).fail made = true) := runQ_far hfo'.out
          have HU3 : Hid (∀ u ∈ (runQ js' us' fail' tt).us, UserFits u) := fun u hu => HU.out u (runQ_us u hu)
          clear hz
          go_wp2_with fail
          have N0 := Hp.nil wr
          refine (runQueue_hp A2 js'.length c2 js' A3 us'.length c3 us' fail' made tt _ (R1.out.grow (Hp.b (by repeat (first | (with_reducible exact N0) | (with_reducible apply Hp.alloc) | (with_reducible apply Hp.set) | (with_reducible apply Hp.drew) | (with_reducible apply Hp.drewN) | (with_reducible apply Hp.bytesW) | (with_reducible exact Upd.here) | (with_reducible exact Upd.hereR) | (with_reducible apply Upd.there) | (with_reducible apply Sz.alloc) | (with_reducible apply Sz.set) | (with_reducible apply Sz.drew) | (with_reducible apply Sz.drewN) | (with_reducible apply Sz.bytesW) | (with_reducible assumption) | (with_reducible exact Sz.base _))))) rfl (jobs_fit hq'.out) (by omega) (R2.out.grow (Hp.b (by repeat (first | (with_reducible exact N0) | (with_reducible apply Hp.alloc) | (with_reducible apply Hp.set) | (with_reducible apply Hp.drew) | (with_reducible apply Hp.drewN) | (with_reducible apply Hp.bytesW) | (with_reducible exact Upd.here) | (with_reducible exact Upd.hereR) | (with_reducible apply Upd.there) | (with_reducible apply Sz.alloc) | (with_reducible apply Sz.set) | (with_reducible apply Sz.drew) | (with_reducible apply Sz.drewN) | (with_reducible apply Sz.bytesW) | (with_reducible assumption) | (with_reducible exact Sz.base _))))) rfl HU.out (by omega) hq'.out hfo'.out (by simp [inR]; omega)).mono ?_
          generalize runQ js' us' fail' tt = r at *
          rintro e w4 ⟨AO, AF, AG, AV, cO, cF, cG, cV, rfl, h4⟩
          replace H := Hp.call (by repeat (first | (with_reducible exact H) | (with_reducible apply Hp.alloc) | (with_reducible apply Hp.set) | (with_reducible apply Hp.drew) | (with_reducible apply Hp.drewN) | (with_reducible apply Hp.bytesW) | (with_reducible exact Upd.here) | (with_reducible exact Upd.hereR) | (with_reducible apply Upd.there) | (with_reducible apply Sz.alloc) | (with_reducible apply Sz.set) | (with_reducible apply Sz.drew) | (with_reducible apply Sz.drewN) | (with_reducible apply Sz.bytesW) | (with_reducible assumption) | (with_reducible exact Sz.base _))) h4; (try simp only [List.set_cons_zero, List.set_cons_succ, List.cons_append, List.nil_append] at H)
          clear F; have F := H.facts; simp only [Facts, NeF, box, row, reg, cellsF, rJob, rUser, rStr, ne_eq, true_and, and_true, Nat.reduceAdd, Nat.zero_add] at F
          go_wp2_with fail
          exact ⟨⟨tt + 1, by omega, by go_num, r.out, r.us, r.fail, AO, cO, AF, cF, Lib.hid (Hp.rd (by repeat (first | (with_reducible exact H) | (with_reducible apply Hp.alloc) | (with_reducible apply Hp.set) | (with_reducible apply Hp.drew) | (with_reducible apply Hp.drewN) | (with_reducible apply Hp.bytesW) | (with_reducible exact Upd.here) | (with_reducible exact Upd.hereR) | (with_reducible apply Upd.there) | (with_reducible apply Sz.alloc) | (with_reducible apply Sz.set) | (with_reducible apply Sz.drew) | (with_reducible apply Sz.drewN) | (with_reducible apply Sz.bytesW) | (with_reducible assumption) | (with_reducible exact Sz.base _))) 0 (by rfl)), Lib.hid (Hp.rd (by repeat (first | (with_reducible exact H) | (with_reducible apply Hp.alloc) | (with_reducible apply Hp.set) | (with_reducible apply Hp.drew) | (with_reducible apply Hp.drewN) | (with_reducible apply Hp.bytesW) | (with_reducible exact Upd.here) | (with_reducible exact Upd.hereR) | (with_reducible apply Upd.there) | (with_reducible apply Sz.alloc) | (with_reducible apply Sz.set) | (with_reducible apply Sz.drew) | (with_reducible apply Sz.drewN) | (with_reducible apply Sz.bytesW) | (with_reducible assumption) | (with_reducible exact Sz.base _))) 1 (by rfl)), HQ2, HT2, HQ3, HF3, HU3, Lib.hid (Hp.give (by repeat (first | (with_reducible exact H) | (with_reducible apply Hp.alloc) | (with_reducible apply Hp.set) | (with_reducible apply Hp.drew) | (with_reducible apply Hp.drewN) | (with_reducible apply Hp.bytesW) | (with_reducible exact Upd.here) | (with_reducible exact Upd.hereR) | (with_reducible apply Upd.there) | (with_reducible apply Sz.alloc) | (with_reducible apply Sz.set) | (with_reducible apply Sz.drew) | (with_reducible apply Sz.drewN) | (with_reducible apply Sz.bytesW) | (with_reducible assumption) | (with_reducible exact Sz.base _))) [4, 5] (by decide) (by rfl))⟩, by simp [intOf]; omega⟩
end Go.Proofs.Ytnhdpcmnnjgdkaa
