/- Queues: a job by its name; which are valid (the program's); the statement's walk. No condition. -/
import Derived.Test.YtnhdpcmnnjgdkaaQueueA
import Derived.Deep.RegionWith
set_option linter.unusedVariables false
set_option linter.unusedSimpArgs false
namespace Go.Proofs.Ytnhdpcmnnjgdkaa
open Go.RowKit
set_option linter.unusedVariables false

theorem hasJob1_any (j : Job) (b : Nat) (s : ByteArray) (w : World) (hc : w.cell? ⟨b, 0, none⟩ = some (.string s)) (hb : b < w.heap.size) :
    Calls Try.prog 53 #[.agg #[.string j.name, .int .i64 j.at_, .int .i64 j.tries], .pointer (some ⟨b, 0, none⟩)] w fun e w' => e = .returned (.bool (sameName s j)) ∧ Below w.heap.size w w' := by
  have HE : Hid (sameName s j = (j.name.toList == s.toList)) := rfl
  go_enter Try.func53, Try.ntmps53
  go_wp2
  go_ret
  exact ⟨by rw [HE.out]; rfl, below_alloc _ _⟩

theorem hasJob_any (A : Option Addr) (n c : Nat) (js : List Job) (s : ByteArray) (w : World) (hr : Rd w w.heap.size 3 A n c (js.flatMap encJob)) (hn : js.length = n) :
    Calls Try.prog 43 #[.agg #[.slice A n c], .string s] w fun e w' => e = .returned (.bool (anyP (sameName s) js)) ∧ Below w.heap.size w w' := by
  have eg := enters_of (P := Try.prog) Try.func53 (by kernel_rfl) rfl
  go_enter Try.func43, Try.ntmps43
  go_wp2_with fail
  refine (containsFuncJob_any 53 #[.pointer (some ⟨w.heap.size + 1, 0, none⟩)] (sameName s) eg A n c js _ ?_ ((hr.alloc _).alloc _) hn).mono ?_
  · intro W x hb
    refine hasJob1_any x (w.heap.size + 1) s W ?_ ?_
    · exact (hb.cell (p := ⟨w.heap.size + 1, 0, none⟩) (by simp)).trans (by simp [go_sem])
    · have := hb.size; simp at this; omega
  rintro e w1 ⟨rfl, hb1⟩
  go_wp2_with fail
  go_ret
  exact ⟨rfl, (show Below w.heap.size w ((w.alloc _).alloc _) by go_grown).trans (hb1.mono (by simp; omega))⟩

theorem Rd.cut_to {w : World} {B k n c m : Nat} {A : Option Addr} {α : Type} {enc : α → List Value} {us : List α} (hk : ∀ x, (enc x).length = k) (h : Rd w B k A n c (us.flatMap enc)) (hn : us.length = n) (hm : m ≤ n) : Rd w B k A m c ((us.take m).flatMap enc) := by
  refine ⟨by rw [flat_len enc k hk, List.length_take]; congr 1; omega, by have := h.2.1; omega, h.2.2.1, fun h0 => ?_⟩
  obtain ⟨b, off, e, hb, hc⟩ := h.2.2.2 (by omega)
  refine ⟨b, off, e, hb, fun j u hu => hc j u ?_⟩
  have hl := (List.getElem?_eq_some_iff.1 hu).1
  have : us.flatMap enc = (us.take m).flatMap enc ++ (us.drop m).flatMap enc := by rw [← List.flatMap_append, List.take_append_drop]
  rw [this, List.getElem?_append_left hl]
  exact hu

set_option maxHeartbeats 4000000 in
theorem isQueue_any (A : Option Addr) (n c : Nat) (js : List Job) (w : World) (hr : Rd w w.heap.size 3 A n c (js.flatMap encJob)) (hn : js.length = n) (hf : ∀ u ∈ js, JobFits u) :
    Calls Try.prog 16 #[.agg #[.slice A n c]] w fun e w' => e = .returned (.bool (queueOk js)) ∧ Below w.heap.size w w' := by
  have hc := hr.2.1
  have hm := hr.2.2.1
  unfold maxLen at hm
  go_enter Try.func16, Try.ntmps16
  go_wp2_with fail
  go_loopw [8] (fun i wr => ∃ k : Nat, k ≤ n ∧ i = .int .i64 k ∧ Hid (jobsOk js k = true) ∧ Below w.heap.size w wr ∧ w.heap.size < wr.heap.size ∧ wr.cell? ⟨w.heap.size, 0, none⟩ = some (.slice A n c)) (fun i _ => n - (intOf i).toNat)
  case atStart => exact ⟨0, Nat.zero_le _, rfl, rfl, below_alloc _ _, by simp, by simp [go_sem]⟩
  case round =>
    obtain ⟨k, hk, rfl, HR, HB, hz, hcA⟩ := hrel
    by_cases hlt : k < n
    · obtain ⟨b, off, rfl, hb, hcell⟩ := hr.elem encJob_len hn hlt
      have c0 := HB.cell (p := ⟨b, off + k * 3 + 0, none⟩) hb |>.trans (hcell 0 _ rfl)
      have c1 := HB.cell (p := ⟨b, off + k * 3 + 1, none⟩) hb |>.trans (hcell 1 _ rfl)
      have c2 := HB.cell (p := ⟨b, off + k * 3 + 2, none⟩) hb |>.trans (hcell 2 _ rfl)
      simp only [Nat.add_zero] at c0
      have hs := (hf js[k] (List.getElem_mem (by omega))).name
      have hst : jobStep js k = (jobFits js[k] && !(anyP (sameName js[k].name) (js.take k))) := by
        unfold jobStep; rw [List.getElem?_eq_getElem (by omega : k < js.length)]
      have HST := Lib.hid hst; clear hst
      clear hcell
      generalize js[k] = j at *
      cases h1 : jobFits j with
      | false =>
        have HN : Hid (jobsOk js n = false) := jobsOk_no hlt (by rw [HST.out, h1]; rfl)
        have h1' := h1
        unfold jobFits at h1
        cases q1 : isNm j.name <;> cases q2 : inR j.at_ 0 2000000000 <;> cases q3 : inR j.tries 0 5 <;> (try (rw [q1, q2, q3] at h1; exact absurd h1 (by decide))) <;> clear h1 h1'
        all_goals
          go_wp2_with fail
          go_quiet ((first | (go_at_call 21; exact quietL (within_any _ _ _ _)) | (go_at_call 42; exact quietL (isName_any _ _ hs))))
          go_wp2
          go_ret
          exact ⟨by rw [queueOk_no (by rw [hn]; exact HN.out)]; rfl, below_drewN (HB.alloc HB.size _) _⟩
      | true =>
        have h1' := h1
        unfold jobFits at h1
        simp only [Bool.and_eq_true] at h1
        obtain ⟨q1, q2, q3⟩ := h1
        have hrk := (hr.cut_to encJob_len hn (m := k) (by omega))
        have hkc : k ≤ c := by omega
        have hk0 : (0 : Int) ≤ (k : Int) := by omega
        have hki : (k : Int) ≤ (c : Int) := by omega
        go_wp2_with fail
        cases h2 : anyP (sameName j.name) (js.take k) with
        | true =>
          have HN : Hid (jobsOk js n = false) := jobsOk_no hlt (by rw [HST.out, h2]; simp)
          go_region_with (first | (go_at_call 21; refine (within_any _ _ _ _).mono ?_; rintro e w' ⟨rfl, rfl⟩) | (go_at_call 42; refine (isName_any _ _ hs).mono ?_; rintro e w' ⟨rfl, rfl⟩) | (go_at_call 43; refine (hasJob_any _ _ _ (js.take k) j.name _ ((hrk.below ((HB.alloc HB.size _).drew) (Nat.le_refl _)).more (by simp; omega)) (by rw [List.length_take]; omega)).mono ?_; rw [h2]; rintro e w1 ⟨rfl, hb1⟩))
          all_goals
            go_wp2
            go_ret
            exact ⟨by rw [queueOk_no (by rw [hn]; exact HN.out)]; rfl, (HB.alloc HB.size _).drew.trans (hb1.mono (by simp; omega))⟩
        | false =>
          have HN : Hid (jobsOk js (k + 1) = true) := jobsOk_snoc HR.out (by rw [HST.out, h1', h2]; rfl)
          go_region_with (first | (go_at_call 21; refine (within_any _ _ _ _).mono ?_; rintro e w' ⟨rfl, rfl⟩) | (go_at_call 42; refine (isName_any _ _ hs).mono ?_; rintro e w' ⟨rfl, rfl⟩) | (go_at_call 43; refine (hasJob_any _ _ _ (js.take k) j.name _ ((hrk.below ((HB.alloc HB.size _).drew) (Nat.le_refl _)).more (by simp; omega)) (by rw [List.length_take]; omega)).mono ?_; rw [h2]; rintro e w1 ⟨rfl, hb1⟩))
          all_goals
            go_wp2
            go_roundw
            case rel => exact ⟨k + 1, by omega, by go_num, HN, (HB.alloc HB.size _).drew.trans (hb1.mono (by simp; omega)), by have := hb1.size; simp at this; omega, (hb1.cell (p := ⟨w.heap.size, 0, none⟩) (by simp; omega)).trans (by simpa [go_sem, hz] using hcA)⟩
            case measure => simp [intOf]; omega
    · have HF : Hid (jobsOk js js.length = true) := by rw [show js.length = k by omega]; exact HR
      have HE : Hid (queueOk js = decide (n ≤ 120)) := by show _ = _; unfold queueOk; rw [HF.out, hn]; simp
      by_cases h0 : n ≤ 120
      · have h0' : decide ((n : Int) ≤ 120) = true := by simp; omega
        go_wp2_with fail
        go_ret
        exact ⟨by rw [HE.out]; simp [h0], HB⟩
      · have h0' : decide ((n : Int) ≤ 120) = false := by simp; omega
        go_wp2_with fail
        go_ret
        exact ⟨by rw [HE.out]; simp [h0], HB⟩

end Go.Proofs.Ytnhdpcmnnjgdkaa
