/- Quiet queues: the reference. No condition. -/
import Derived.Test.YtnhdpcmnnjgdkaaRunB
import Derived.Outline
set_option linter.unusedVariables false
set_option linter.unusedSimpArgs false
namespace Go.Proofs.Ytnhdpcmnnjgdkaa
open Go.RowKit
set_option linter.unusedVariables false
set_option linter.unusedSimpArgs false

def lateB (js : List Job) : Bool := js.any fun j => decide (1000 < j.at_)
def quietF (js : List Job) (us : List User) (fail made : Int) : Int := if queueOk js = true ∧ farOk us fail made = true ∧ lateB js = false then quietN 1063 js us fail 0 else -1

theorem jobs_fit {js : List Job} (h : queueOk js = true) : ∀ j ∈ js, JobFits j := by
  intro j hj
  have h1 := (jobFits_iff.1 ((queueOk_iff.1 h).2.1 j hj)).1
  unfold isNm at h1
  simp [inR] at h1
  unfold JobFits maxLen
  omega
theorem tame_all {js : List Job} (h : queueOk js = true) (hl : lateB js = false) : ∀ j ∈ js, tame 0 j := by
  intro j hj
  refine tame_start ((queueOk_iff.1 h).2.1 j hj) ?_
  unfold lateB at hl
  rw [List.any_eq_false] at hl
  have := hl j hj
  simpa using this
set_option maxHeartbeats 4000000 in
set_option maxRecDepth 10000 in
theorem specQueueQuiet_any (A : Option Addr) (n c : Nat) (js : List Job) (A' : Option Addr) (m c' : Nat) (us : List User) (fail made : Int) (w : World) (hr : Rd w w.heap.size 3 A n c (js.flatMap encJob)) (hn : js.length = n) (hf : ∀ u ∈ js, JobFits u) (hb20 : n ≤ 1048576)
    (hr' : Rd w w.heap.size 2 A' m c' (us.flatMap encUser)) (hn' : us.length = m) (hf' : ∀ u ∈ us, UserFits u) (hb20' : m ≤ 1048576) :
    Calls Try.prog 6 #[.agg #[.slice A n c], .agg #[.slice A' m c', .int .i64 fail, .int .i64 made]] w fun e w' => e = .returned (.int .i64 (quietF js us fail made)) ∧ Below w.heap.size w w' := by
  subst hn'
  have hc := hr.2.1
  have hm := hr.2.2.1
  unfold maxLen at hm
  have H := Hp.nil w
  go_enter Try.func6, Try.ntmps6
  go_wp2_with fail
  refine (specQueueOk_any A n c js _ (hr.grow (Hp.b (by repeat (first | (with_reducible exact H) | (with_reducible apply Hp.alloc) | (with_reducible apply Hp.set) | (with_reducible apply Hp.drew) | (with_reducible apply Hp.drewN) | (with_reducible apply Hp.bytesW) | (with_reducible exact Upd.here) | (with_reducible exact Upd.hereR) | (with_reducible apply Upd.there) | (with_reducible apply Sz.alloc) | (with_reducible apply Sz.set) | (with_reducible apply Sz.drew) | (with_reducible apply Sz.drewN) | (with_reducible apply Sz.bytesW) | (with_reducible assumption) | (with_reducible exact Sz.base _))))) hn hf).mono ?_
  rintro e w1 ⟨rfl, hb1⟩
  replace H := Hp.step (by repeat (first | (with_reducible exact H) | (with_reducible apply Hp.alloc) | (with_reducible apply Hp.set) | (with_reducible apply Hp.drew) | (with_reducible apply Hp.drewN) | (with_reducible apply Hp.bytesW) | (with_reducible exact Upd.here) | (with_reducible exact Upd.hereR) | (with_reducible apply Upd.there) | (with_reducible apply Sz.alloc) | (with_reducible apply Sz.set) | (with_reducible apply Sz.drew) | (with_reducible apply Sz.drewN) | (with_reducible apply Sz.bytesW) | (with_reducible assumption) | (with_reducible exact Sz.base _))) hb1; (try simp only [List.set_cons_zero, List.set_cons_succ, List.cons_append, List.nil_append] at H)
  have F := H.facts; simp only [Facts, NeF, box, row, reg, cellsF, rJob, rUser, rStr, ne_eq, true_and, and_true, Nat.reduceAdd, Nat.zero_add] at F
  cases hq : queueOk js with
  | false =>
    have HR : Hid (quietF js us fail made = -1) := by show _ = _; rw [quietF, if_neg (by rw [hq]; simp)]
    go_wp2_with fail
    go_ret
    exact ⟨by rw [HR.out]; rfl, Hp.b (by repeat (first | (with_reducible exact H) | (with_reducible apply Hp.alloc) | (with_reducible apply Hp.set) | (with_reducible apply Hp.drew) | (with_reducible apply Hp.drewN) | (with_reducible apply Hp.bytesW) | (with_reducible exact Upd.here) | (with_reducible exact Upd.hereR) | (with_reducible apply Upd.there) | (with_reducible apply Sz.alloc) | (with_reducible apply Sz.set) | (with_reducible apply Sz.drew) | (with_reducible apply Sz.drewN) | (with_reducible apply Sz.bytesW) | (with_reducible assumption) | (with_reducible exact Sz.base _)))⟩
  | true =>
  go_wp2_with fail
  refine (specFarOk_any A' us.length c' us fail made _ (hr'.grow (Hp.b (by repeat (first | (with_reducible exact H) | (with_reducible apply Hp.alloc) | (with_reducible apply Hp.set) | (with_reducible apply Hp.drew) | (with_reducible apply Hp.drewN) | (with_reducible apply Hp.bytesW) | (with_reducible exact Upd.here) | (with_reducible exact Upd.hereR) | (with_reducible apply Upd.there) | (with_reducible apply Sz.alloc) | (with_reducible apply Sz.set) | (with_reducible apply Sz.drew) | (with_reducible apply Sz.drewN) | (with_reducible apply Sz.bytesW) | (with_reducible assumption) | (with_reducible exact Sz.base _))))) rfl (fun u h => (hf' u h).name)).mono ?_
  rintro e w3 ⟨rfl, hb3⟩
  replace H := Hp.step (by repeat (first | (with_reducible exact H) | (with_reducible apply Hp.alloc) | (with_reducible apply Hp.set) | (with_reducible apply Hp.drew) | (with_reducible apply Hp.drewN) | (with_reducible apply Hp.bytesW) | (with_reducible exact Upd.here) | (with_reducible exact Upd.hereR) | (with_reducible apply Upd.there) | (with_reducible apply Sz.alloc) | (with_reducible apply Sz.set) | (with_reducible apply Sz.drew) | (with_reducible apply Sz.drewN) | (with_reducible apply Sz.bytesW) | (with_reducible assumption) | (with_reducible exact Sz.base _))) hb3; (try simp only [List.set_cons_zero, List.set_cons_succ, List.cons_append, List.nil_append] at H)
  clear F; have F := H.facts; simp only [Facts, NeF, box, row, reg, cellsF, rJob, rUser, rStr, ne_eq, true_and, and_true, Nat.reduceAdd, Nat.zero_add] at F
  cases hfo : farOk us fail made with
  | false =>
    have HR : Hid (quietF js us fail made = -1) := by show _ = _; rw [quietF, if_neg (by rw [hfo]; simp)]
    go_wp2_with fail
    go_ret
    exact ⟨by rw [HR.out]; rfl, Hp.b (by repeat (first | (with_reducible exact H) | (with_reducible apply Hp.alloc) | (with_reducible apply Hp.set) | (with_reducible apply Hp.drew) | (with_reducible apply Hp.drewN) | (with_reducible apply Hp.bytesW) | (with_reducible exact Upd.here) | (with_reducible exact Upd.hereR) | (with_reducible apply Upd.there) | (with_reducible apply Sz.alloc) | (with_reducible apply Sz.set) | (with_reducible apply Sz.drew) | (with_reducible apply Sz.drewN) | (with_reducible apply Sz.bytesW) | (with_reducible assumption) | (with_reducible exact Sz.base _)))⟩
  | true =>
  go_wp2_with fail
  clear F hb1 hb3
  have HH := Lib.hid H; clear H
  go_loopw [5] (fun i wr => ∃ k : Nat, k ≤ n ∧ i = .int .i64 k ∧ Hid (lateB (js.take k) = false) ∧ Hid (Hp w wr [box (w.heap.size + 1) 29 [.slice A' us.length c', .int .i64 fail, .int .i64 made], box w.heap.size 26 [.slice A n c]])) (fun i _ => n - (intOf i).toNat)
  case atStart => exact ⟨0, Nat.zero_le _, rfl, rfl, HH⟩
  case round =>
    clear HH
    obtain ⟨k, hk, rfl, HL, HP⟩ := hrel
    have H := HP.out
    have F := H.facts; simp only [Facts, NeF, box, row, reg, cellsF, rJob, rUser, rStr, ne_eq, true_and, and_true, Nat.reduceAdd, Nat.zero_add] at F
    by_cases hlt : k < n
    · obtain ⟨b, off, rfl, hb, hcell⟩ := hr.elem encJob_len hn hlt
      have c1 := H.b.cell (p := ⟨b, off + k * 3 + 1, none⟩) hb |>.trans (hcell 1 _ rfl)
      have hlk : lateB (js.take (k + 1)) = (lateB (js.take k) || decide (1000 < (js[k]'(by omega)).at_)) := by
        unfold lateB; rw [List.take_succ_eq_append_getElem (by omega), List.any_append]; simp
      have hlj : decide (1000 < (js[k]'(by omega)).at_) = true → lateB js = true := fun h => by
        unfold lateB; rw [List.any_eq_true]; exact ⟨_, List.getElem_mem (by omega), h⟩
      clear hcell
      generalize (js[k]'(by omega)).at_ = x at *
      by_cases hx : 1000 < x
      · have HR : Hid (quietF js us fail made = -1) := by show _ = _; rw [quietF, if_neg (by rw [hlj (by simpa using hx)]; simp)]
        clear hlk hlj
        go_wp2_with fail
        go_ret
        exact ⟨by rw [HR.out]; rfl, Hp.b (by repeat (first | (with_reducible exact H) | (with_reducible apply Hp.alloc) | (with_reducible apply Hp.set) | (with_reducible apply Hp.drew) | (with_reducible apply Hp.drewN) | (with_reducible apply Hp.bytesW) | (with_reducible exact Upd.here) | (with_reducible exact Upd.hereR) | (with_reducible apply Upd.there) | (with_reducible apply Sz.alloc) | (with_reducible apply Sz.set) | (with_reducible apply Sz.drew) | (with_reducible apply Sz.drewN) | (with_reducible apply Sz.bytesW) | (with_reducible assumption) | (with_reducible exact Sz.base _)))⟩
      · have HK : Hid (lateB (js.take (k + 1)) = false) := by show _ = _; rw [hlk, HL.out]; simpa using hx
        clear hlk hlj
        go_wp2_with fail
        go_roundw
        case rel => exact ⟨k + 1, by omega, by go_num, HK, Lib.hid H⟩
        case measure => simp [intOf]; omega
    · have HL2 : Hid (lateB js = false) := by have := HL.out; rwa [List.take_of_length_le (by omega)] at this
      have HT : Hid (∀ j ∈ js, tame (0 : Nat) j) := tame_all hq HL2.out
      have HR : Hid (quietF js us fail made = quietN 1063 js us fail 0) := by show _ = _; rw [quietF, if_pos ⟨hq, hfo, HL2.out⟩]
      have RD1 := Lib.hid hr
      have RD2 := Lib.hid hr'
      go_wp2_with fail
      generalize hB7 : wr.heap.size = b7 at *
      have HS : Sz wr b7 := hB7
      clear hB7
      go_loopw [8] (fun t wx => ∃ tt : Nat, tt ≤ 1063 ∧ t = .int .i64 tt ∧ ∃ (js' : List Job) (us' : List User) (fail' : Int) (A2 : Option Addr) (c2 : Nat) (A3 : Option Addr) (c3 : Nat), Hid (Rd wx wx.heap.size 3 A2 js'.length c2 (js'.flatMap encJob)) ∧ Hid (Rd wx wx.heap.size 2 A3 us'.length c3 (us'.flatMap encUser)) ∧ Hid (quietN (1063 - tt) js' us' fail' tt = quietN 1063 js us fail 0) ∧ Hid (∀ j ∈ js', tame tt j) ∧ Hid (queueOk js' = true) ∧ Hid (farOk us' fail' made = true) ∧ Hid (∀ u ∈ us', UserFits u) ∧ Hid (Hp w wx [box b7 26 [.slice A2 js'.length c2], box (b7 + 1) 29 [.slice A3 us'.length c3, .int .i64 fail', .int .i64 made]])) (fun t _ => 1063 - (intOf t).toNat)
      case atStart =>
        subst hn
        have hbb := Hp.b (by repeat (first | (with_reducible exact H) | (with_reducible apply Hp.alloc) | (with_reducible apply Hp.set) | (with_reducible apply Hp.drew) | (with_reducible apply Hp.drewN) | (with_reducible apply Hp.bytesW) | (with_reducible exact Upd.here) | (with_reducible exact Upd.hereR) | (with_reducible apply Upd.there) | (with_reducible apply Sz.alloc) | (with_reducible apply Sz.set) | (with_reducible apply Sz.drew) | (with_reducible apply Sz.drewN) | (with_reducible apply Sz.bytesW) | (with_reducible assumption) | (with_reducible exact Sz.base _)))
        refine ⟨0, by omega, rfl, js, us, fail, A, c, A', c', Lib.hid (hr.grow (Hp.b (by repeat (first | (with_reducible exact H) | (with_reducible apply Hp.alloc) | (with_reducible apply Hp.set) | (with_reducible apply Hp.drew) | (with_reducible apply Hp.drewN) | (with_reducible apply Hp.bytesW) | (with_reducible exact Upd.here) | (with_reducible exact Upd.hereR) | (with_reducible apply Upd.there) | (with_reducible apply Sz.alloc) | (with_reducible apply Sz.set) | (with_reducible apply Sz.drew) | (with_reducible apply Sz.drewN) | (with_reducible apply Sz.bytesW) | (with_reducible assumption) | (with_reducible exact Sz.base _))))), Lib.hid (hr'.grow (Hp.b (by repeat (first | (with_reducible exact H) | (with_reducible apply Hp.alloc) | (with_reducible apply Hp.set) | (with_reducible apply Hp.drew) | (with_reducible apply Hp.drewN) | (with_reducible apply Hp.bytesW) | (with_reducible exact Upd.here) | (with_reducible exact Upd.hereR) | (with_reducible apply Upd.there) | (with_reducible apply Sz.alloc) | (with_reducible apply Sz.set) | (with_reducible apply Sz.drew) | (with_reducible apply Sz.drewN) | (with_reducible apply Sz.bytesW) | (with_reducible assumption) | (with_reducible exact Sz.base _))))), rfl, HT, hq, hfo, hf', Lib.hid (Hp.give (by repeat (first | (with_reducible exact H) | (with_reducible apply Hp.alloc) | (with_reducible apply Hp.set) | (with_reducible apply Hp.drew) | (with_reducible apply Hp.drewN) | (with_reducible apply Hp.bytesW) | (with_reducible exact Upd.here) | (with_reducible exact Upd.hereR) | (with_reducible apply Upd.there) | (with_reducible apply Sz.alloc) | (with_reducible apply Sz.set) | (with_reducible apply Sz.drew) | (with_reducible apply Sz.drewN) | (with_reducible apply Sz.bytesW) | (with_reducible assumption) | (with_reducible exact Sz.base _))) [1, 0] (by decide) (by rfl))⟩
      case round =>
        clear H HP HL HL2 RD1 RD2 HS F HT
        obtain ⟨tt, htt, rfl, js', us', fail', A2, c2, A3, c3, R1, R2, HQ, HT, hq', hfo', HU, HP⟩ := hrel
        have H := HP.out
        have F := H.facts; simp only [Facts, NeF, box, row, reg, cellsF, rJob, rUser, rStr, ne_eq, true_and, and_true, Nat.reduceAdd, Nat.zero_add] at F
        have hl120 : js'.length ≤ 120 := (queueOk_iff.1 hq'.out).1
        have hu120 : us'.length ≤ 120 := (farOk_iff.1 hfo'.out).1
        have hr1 := R1.out.2.2.1
        unfold maxLen at hr1
        by_cases hz : js'.length = 0
        · have HE : Hid (quietN 1063 js us fail 0 = (tt : Int)) := by show _ = _; rw [← HQ.out, quietN_end hz]
          have hz2 : (js'.length : Int) ≤ 0 := by omega
          clear hz
          go_wp2_with fail
          go_ret
          exact ⟨by rw [HR.out, HE.out]; rfl, Hp.b (by repeat (first | (with_reducible exact H) | (with_reducible apply Hp.alloc) | (with_reducible apply Hp.set) | (with_reducible apply Hp.drew) | (with_reducible apply Hp.drewN) | (with_reducible apply Hp.bytesW) | (with_reducible exact Upd.here) | (with_reducible exact Upd.hereR) | (with_reducible apply Upd.there) | (with_reducible apply Sz.alloc) | (with_reducible apply Sz.set) | (with_reducible apply Sz.drew) | (with_reducible apply Sz.drewN) | (with_reducible apply Sz.bytesW) | (with_reducible assumption) | (with_reducible exact Sz.base _)))⟩
        · have ht2 : (tt : Int) ≤ 1062 := by
            cases hjs : js' with
            | nil => rw [hjs] at hz; exact absurd rfl hz
            | cons j l => exact tame_now (HT.out j (by rw [hjs]; exact List.mem_cons_self))
          have hz2 : 0 < (js'.length : Int) := by omega
          have HRF : Hid (runF js' us' fail' made tt = runQ js' us' fail' tt) := by show _ = _; rw [runF, if_pos ⟨hq'.out, hfo'.out, by simp [inR]; omega⟩]
          have HQ2 : Hid (quietN (1063 - (tt + 1)) (runQ js' us' fail' tt).out (runQ js' us' fail' tt).us (runQ js' us' fail' tt).fail ((tt + 1 : Nat) : Int) = quietN 1063 js us fail 0) := by
            show _ = _
            rw [← HQ.out, show 1063 - tt = (1063 - (tt + 1)) + 1 by omega, quietN_go hz]
            rfl
          have HT2 : Hid (∀ j ∈ (runQ js' us' fail' tt).out, tame ((tt + 1 : Nat) : Int) j) := by
            have := tame_run (us := us') (fail := fail') HT.out
            exact this
          have HQ3 : Hid (queueOk (runQ js' us' fail' tt).out = true) := runQ_ok hq'.out (by omega) (by omega)
          have HF3 : Hid (farOk (runQ js' us' fail' tt).us (runQ js' us' fail' tt).fail made = true) := runQ_far hfo'.out
          have HU3 : Hid (∀ u ∈ (runQ js' us' fail' tt).us, UserFits u) := fun u hu => HU.out u (runQ_us u hu)
          clear hz
          go_wp2_with fail
          have N0 := Hp.nil wr
          refine (specRunQueue_hp A2 js'.length c2 js' A3 us'.length c3 us' fail' made tt _ (R1.out.grow (Hp.b (by repeat (first | (with_reducible exact N0) | (with_reducible apply Hp.alloc) | (with_reducible apply Hp.set) | (with_reducible apply Hp.drew) | (with_reducible apply Hp.drewN) | (with_reducible apply Hp.bytesW) | (with_reducible exact Upd.here) | (with_reducible exact Upd.hereR) | (with_reducible apply Upd.there) | (with_reducible apply Sz.alloc) | (with_reducible apply Sz.set) | (with_reducible apply Sz.drew) | (with_reducible apply Sz.drewN) | (with_reducible apply Sz.bytesW) | (with_reducible assumption) | (with_reducible exact Sz.base _))))) rfl (jobs_fit hq'.out) (by omega) (R2.out.grow (Hp.b (by repeat (first | (with_reducible exact N0) | (with_reducible apply Hp.alloc) | (with_reducible apply Hp.set) | (with_reducible apply Hp.drew) | (with_reducible apply Hp.drewN) | (with_reducible apply Hp.bytesW) | (with_reducible exact Upd.here) | (with_reducible exact Upd.hereR) | (with_reducible apply Upd.there) | (with_reducible apply Sz.alloc) | (with_reducible apply Sz.set) | (with_reducible apply Sz.drew) | (with_reducible apply Sz.drewN) | (with_reducible apply Sz.bytesW) | (with_reducible assumption) | (with_reducible exact Sz.base _))))) rfl HU.out (by omega)).mono ?_
          rw [HRF.out]
          generalize runQ js' us' fail' tt = r at *
          rintro e w4 ⟨AO, AF, AG, AV, cO, cF, cG, cV, rfl, h4⟩
          replace H := Hp.call (by repeat (first | (with_reducible exact H) | (with_reducible apply Hp.alloc) | (with_reducible apply Hp.set) | (with_reducible apply Hp.drew) | (with_reducible apply Hp.drewN) | (with_reducible apply Hp.bytesW) | (with_reducible exact Upd.here) | (with_reducible exact Upd.hereR) | (with_reducible apply Upd.there) | (with_reducible apply Sz.alloc) | (with_reducible apply Sz.set) | (with_reducible apply Sz.drew) | (with_reducible apply Sz.drewN) | (with_reducible apply Sz.bytesW) | (with_reducible assumption) | (with_reducible exact Sz.base _))) h4; (try simp only [List.set_cons_zero, List.set_cons_succ, List.cons_append, List.nil_append] at H)
          clear F; have F := H.facts; simp only [Facts, NeF, box, row, reg, cellsF, rJob, rUser, rStr, ne_eq, true_and, and_true, Nat.reduceAdd, Nat.zero_add] at F
          go_wp2_with fail
          exact ⟨⟨tt + 1, by omega, by go_num, r.out, r.us, r.fail, AO, cO, AF, cF, Lib.hid (Hp.rd (by repeat (first | (with_reducible exact H) | (with_reducible apply Hp.alloc) | (with_reducible apply Hp.set) | (with_reducible apply Hp.drew) | (with_reducible apply Hp.drewN) | (with_reducible apply Hp.bytesW) | (with_reducible exact Upd.here) | (with_reducible exact Upd.hereR) | (with_reducible apply Upd.there) | (with_reducible apply Sz.alloc) | (with_reducible apply Sz.set) | (with_reducible apply Sz.drew) | (with_reducible apply Sz.drewN) | (with_reducible apply Sz.bytesW) | (with_reducible assumption) | (with_reducible exact Sz.base _))) 2 (by rfl)), Lib.hid (Hp.rd (by repeat (first | (with_reducible exact H) | (with_reducible apply Hp.alloc) | (with_reducible apply Hp.set) | (with_reducible apply Hp.drew) | (with_reducible apply Hp.drewN) | (with_reducible apply Hp.bytesW) | (with_reducible exact Upd.here) | (with_reducible exact Upd.hereR) | (with_reducible apply Upd.there) | (with_reducible apply Sz.alloc) | (with_reducible apply Sz.set) | (with_reducible apply Sz.drew) | (with_reducible apply Sz.drewN) | (with_reducible apply Sz.bytesW) | (with_reducible assumption) | (with_reducible exact Sz.base _))) 3 (by rfl)), HQ2, HT2, HQ3, HF3, HU3, Lib.hid (Hp.give (by repeat (first | (with_reducible exact H) | (with_reducible apply Hp.alloc) | (with_reducible apply Hp.set) | (with_reducible apply Hp.drew) | (with_reducible apply Hp.drewN) | (with_reducible apply Hp.bytesW) | (with_reducible exact Upd.here) | (with_reducible exact Upd.hereR) | (with_reducible apply Upd.there) | (with_reducible apply Sz.alloc) | (with_reducible apply Sz.set) | (with_reducible apply Sz.drew) | (with_reducible apply Sz.drewN) | (with_reducible apply Sz.bytesW) | (with_reducible assumption) | (with_reducible exact Sz.base _))) [6, 7] (by decide) (by rfl))⟩, by simp [intOf]; omega⟩
end Go.Proofs.Ytnhdpcmnnjgdkaa
