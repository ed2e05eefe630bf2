/- Queues: which are valid (the reference's and the program's). No condition. -/
import Derived.Test.YtnhdpcmnnjgdkaaSlJob
import Derived.Test.YtnhdpcmnnjgdkaaStr
set_option linter.unusedVariables false
set_option linter.unusedSimpArgs false
namespace Go.Proofs.Ytnhdpcmnnjgdkaa
open Go.RowKit
set_option linter.unusedVariables false

def sameName (s : ByteArray) (j : Job) : Bool := eqB j.name s
def jobFits (j : Job) : Bool := isNm j.name && (inR j.at_ 0 2000000000 && inR j.tries 0 5)
def jobStep (js : List Job) (i : Nat) : Bool := match js[i]? with
  | some j => jobFits j && !(anyP (sameName j.name) (js.take i))
  | none => false
def jobsOk (js : List Job) (n : Nat) : Bool := (List.range n).all (jobStep js)
def queueOk (js : List Job) : Bool := decide (js.length ≤ 120) && jobsOk js js.length
theorem jobsOk_snoc {js : List Job} {k : Nat} (h : jobsOk js k = true) (hs : jobStep js k = true) : jobsOk js (k + 1) = true := by
  simp [jobsOk, List.range_succ, List.all_append] at h ⊢; exact ⟨h, hs⟩
theorem jobsOk_no {js : List Job} {k n : Nat} (hk : k < n) (hs : jobStep js k = false) : jobsOk js n = false := by
  rw [jobsOk, List.all_eq_false]; exact ⟨k, by simpa using hk, by simp [hs]⟩
theorem queueOk_no {js : List Job} (h : jobsOk js js.length = false) : queueOk js = false := by simp [queueOk, h]
theorem anyP_snoc {α : Type} {p : α → Bool} {js : List α} {k : Nat} (hk : k < js.length) (h : anyP p (js.take k) = false) (h1 : p js[k] = false) : anyP p (js.take (k + 1)) = false := by
  unfold anyP at h ⊢
  rw [List.take_succ_eq_append_getElem hk, List.any_append, h]; simp [h1]
theorem anyP_yes {α : Type} {p : α → Bool} {js : List α} {k n : Nat} (hk : k < js.length) (hn : k < n) (h1 : p js[k] = true) : anyP p (js.take n) = true := by
  unfold anyP
  rw [List.any_eq_true]
  exact ⟨js[k], by rw [List.mem_take_iff_getElem]; exact ⟨k, by omega, rfl⟩, h1⟩

set_option maxHeartbeats 4000000 in
theorem specQueueOk_any (A : Option Addr) (n c : Nat) (js : List Job) (w : World) (hr : Rd w w.heap.size 3 A n c (js.flatMap encJob)) (hn : js.length = n) (hf : ∀ u ∈ js, JobFits u) :
    Calls Try.prog 13 #[.agg #[.slice A n c]] w fun e w' => e = .returned (.bool (queueOk js)) ∧ Below w.heap.size w w' := by
  have hc := hr.2.1
  have hm := hr.2.2.1
  unfold maxLen at hm
  by_cases h0 : ¬ n ≤ 120
  · go_enter Try.func13, Try.ntmps13
    go_wp2_with fail
    go_ret
    exact ⟨by simp [queueOk, hn, h0], below_alloc _ _⟩
  replace h0 : n ≤ 120 := by omega
  have HE : Hid (queueOk js = jobsOk js n) := by show _ = _; rw [queueOk, hn]; simp [h0]
  go_enter Try.func13, Try.ntmps13
  go_wp2_with fail
  go_loopw [3] (fun i wr => ∃ k : Nat, k ≤ n ∧ i = .int .i64 k ∧ Hid (jobsOk js k = true) ∧ Below w.heap.size w wr ∧ w.heap.size < wr.heap.size ∧ wr.cell? ⟨w.heap.size, 0, none⟩ = some (.slice A n c)) (fun i _ => n - (intOf i).toNat)
  case atStart => exact ⟨0, Nat.zero_le _, rfl, rfl, below_alloc _ _, by simp, by simp [go_sem]⟩
  case round =>
    obtain ⟨k, hk, rfl, HR, HB, hz, hcA⟩ := hrel
    by_cases hlt : k < n
    · obtain ⟨b, off, rfl, hb, hcell⟩ := hr.elem encJob_len hn hlt
      have c0 := HB.cell (p := ⟨b, off + k * 3 + 0, none⟩) hb |>.trans (hcell 0 _ rfl)
      have c1 := HB.cell (p := ⟨b, off + k * 3 + 1, none⟩) hb |>.trans (hcell 1 _ rfl)
      have c2 := HB.cell (p := ⟨b, off + k * 3 + 2, none⟩) hb |>.trans (hcell 2 _ rfl)
      simp only [Nat.add_zero] at c0
      have hs := (hf js[k] (List.getElem_mem (by omega))).name
      have hst : jobStep js k = (jobFits js[k] && !(anyP (sameName js[k].name) (js.take k))) := by
        unfold jobStep; rw [List.getElem?_eq_getElem (by omega : k < js.length)]
      have HST := Lib.hid hst; clear hst
      clear hcell
      generalize js[k] = j at *
      cases h1 : jobFits j with
      | false =>
        have HN : Hid (jobsOk js n = false) := jobsOk_no hlt (by rw [HST.out, h1]; rfl)
        have h1' := h1
        unfold jobFits at h1
        cases q1 : isNm j.name <;> cases q2 : inR j.at_ 0 2000000000 <;> cases q3 : inR j.tries 0 5 <;> (try (rw [q1, q2, q3] at h1; exact absurd h1 (by decide))) <;> clear h1 h1'
        all_goals
          go_wp2_with (first | (go_at_call 38; refine (l01In_any _ _ _ _).mono ?_; rintro e w' ⟨rfl, rfl⟩) | (go_at_call 26; refine (l01Name_any _ _ hs).mono ?_; rintro e w' ⟨rfl, rfl⟩))
          go_ret
          exact ⟨by rw [HE.out, HN.out]; rfl, HB.alloc HB.size _⟩
      | true =>
        have h1' := h1
        unfold jobFits at h1
        simp only [Bool.and_eq_true] at h1
        obtain ⟨q1, q2, q3⟩ := h1
        go_wp2_with (first | (go_at_call 38; refine (l01In_any _ _ _ _).mono ?_; rintro e w' ⟨rfl, rfl⟩) | (go_at_call 26; refine (l01Name_any _ _ hs).mono ?_; rintro e w' ⟨rfl, rfl⟩))
        clear q1 q2 q3
        have HB1 : Below w.heap.size w (wr.alloc (.cells #[.string j.name, .int .i64 j.at_, .int .i64 j.tries] 45)) := HB.alloc HB.size _
        have hcA1 : (wr.alloc (.cells #[.string j.name, .int .i64 j.at_, .int .i64 j.tries] 45)).cell? ⟨w.heap.size, 0, none⟩ = some (.slice (some ⟨b, off, none⟩) n c) := by simpa [go_sem, hz] using hcA
        have bxj := Bx.new wr 45 #[.string j.name, .int .i64 j.at_, .int .i64 j.tries]
        have hz1 : w.heap.size < (wr.alloc (.cells #[.string j.name, .int .i64 j.at_, .int .i64 j.tries] 45)).heap.size := by simp; omega
        have hgz : wr.heap.size < (wr.alloc (.cells #[.string j.name, .int .i64 j.at_, .int .i64 j.tries] 45)).heap.size := by simp
        clear c0 c1 c2
        generalize wr.alloc (.cells #[.string j.name, .int .i64 j.at_, .int .i64 j.tries] 45) = wj at *
        generalize wr.heap.size = gj at *
        go_loopw [5] (fun i2 wi => ∃ q : Nat, q ≤ k ∧ i2 = .int .i64 q ∧ Hid (anyP (sameName j.name) (js.take q) = false) ∧ Below wj.heap.size wj wi) (fun i2 _ => k - (intOf i2).toNat)
        case atStart => exact ⟨0, Nat.zero_le _, rfl, rfl, Below.refl _ _⟩
        case round =>
          obtain ⟨q, hq, rfl, HA, HBi⟩ := hrel
          have hcA2 := (HBi.cell (p := ⟨w.heap.size, 0, none⟩) hz1).trans hcA1
          by_cases hlt2 : q < k
          · obtain ⟨b', off', hA', hb', hcell'⟩ := hr.elem encJob_len hn (i := q) (by omega)
            obtain ⟨rfl, rfl⟩ : b = b' ∧ off = off' := by simpa using hA'
            have e0 := HBi.cell (p := ⟨b, off + q * 3 + 0, none⟩) (by show b < _; omega) |>.trans (HB1.cell (p := ⟨b, off + q * 3 + 0, none⟩) hb |>.trans (hcell' 0 _ rfl))
            have f0 : wr.cell? ⟨gj, 0, none⟩ = some (.string j.name) := (bxj.grow HBi hgz).cell 0
            simp only [Nat.add_zero] at e0
            have hqn : (q : Int) < (n : Int) := by omega
            have hq0 : (0 : Int) ≤ (q : Int) := by omega
            cases hs2 : sameName j.name (js[q]'(by omega)) with
            | true =>
              have HN : Hid (jobsOk js n = false) := jobsOk_no hlt (by rw [HST.out, anyP_yes (by omega : q < js.length) hlt2 hs2]; simp)
              unfold sameName eqB at hs2
              clear hA' hb' hcell'
              generalize (js[q]'(by omega)).name = t at *
              go_wp2_with fail
              go_quiet (fail)
              go_wp2
              go_ret
              exact ⟨by rw [HE.out, HN.out]; rfl, below_drewN (blift HB1 HBi (by omega)) _⟩
            | false =>
              have HA' : Hid (anyP (sameName j.name) (js.take (q + 1)) = false) := anyP_snoc (by omega) HA.out hs2
              unfold sameName eqB at hs2
              clear hA' hb' hcell'
              generalize (js[q]'(by omega)).name = t at *
              go_wp2_with fail
              go_quiet (fail)
              go_wp2
              go_roundw
              case rel => exact ⟨q + 1, by omega, by go_num, HA', below_drewN HBi _⟩
              case measure => simp [intOf]; omega
          · have HN : Hid (jobsOk js (k + 1) = true) := jobsOk_snoc HR.out (by rw [HST.out, h1', show k = q by omega, HA.out]; rfl)
            have hzi := HBi.size
            go_wp2
            go_roundw
            case rel => exact ⟨k + 1, by omega, by go_num, HN, blift HB1 HBi (by omega), by omega, hcA2⟩
            case measure => simp [intOf]; omega
    · have HF : Hid (jobsOk js n = true) := by rw [show n = k by omega]; exact HR
      go_wp2_with fail
      go_ret
      exact ⟨by rw [HE.out, HF.out]; rfl, HB⟩
end Go.Proofs.Ytnhdpcmnnjgdkaa
