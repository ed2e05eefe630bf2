/- Queues: copies (the reference's and the program's). No condition. -/
import Derived.Test.YtnhdpcmnnjgdkaaQueueB
import Derived.Test.YtnhdpcmnnjgdkaaM1
import Derived.Deep.RegionHeldLaw
set_option linter.unusedVariables false
set_option linter.unusedSimpArgs false
namespace Go.Proofs.Ytnhdpcmnnjgdkaa
open Go.RowKit
set_option linter.unusedVariables false

theorem take_flat_snoc {α : Type} {enc : α → List Value} {us : List α} {k : Nat} (h : k < us.length) : (us.take k).flatMap enc ++ enc us[k] = (us.take (k + 1)).flatMap enc := by
  rw [List.take_succ_eq_append_getElem h, List.flatMap_append]; congr 1; exact (List.append_nil _).symm

set_option maxHeartbeats 4000000 in
theorem l11CopyQueue_any (A : Option Addr) (n c : Nat) (js : List Job) (w : World) (hr : Rd w w.heap.size 3 A n c (js.flatMap encJob)) (hn : js.length = n) (hb20 : n ≤ 1048576) :
    Calls Try.prog 40 #[.agg #[.slice A n c]] w fun e w' => ∃ A' c', e = .returned (.agg #[.slice A' n c']) ∧ Own w' w.heap.size w'.heap.size 45 3 (.slice A' n c') n (js.flatMap encJob) ∧ Below w.heap.size w w' := by
  obtain ⟨i0, hi, hz0, hz1, hz2⟩ := info_parts Try.infoJob
  have hc := hr.2.1
  have hm := hr.2.2.1
  unfold maxLen at hm
  go_enter Try.func40, Try.ntmps40
  go_wp2_with fail
  go_loopw [4] (fun i wr => ∃ k : Nat, k ≤ n ∧ i = .int .i64 k ∧ Below w.heap.size w wr ∧ Bx wr w.heap.size 26 #[.slice A n c] ∧ (∃ v, Bx wr (w.heap.size + 1) 26 #[v]) ∧ ∃ A1 c1, Bx wr (w.heap.size + 2) 26 #[.slice A1 k c1] ∧ wr.ownsRow (w.heap.size + 3) 45 3 (.slice A1 k c1) k ((js.take k).flatMap encJob)) (fun i _ => n - (intOf i).toNat)
  case atStart => 
    refine ⟨0, Nat.zero_le _, rfl, by go_grown, ?_, ⟨.slice none 0 0, ?_⟩, none, 0, ?_, World.ownsRow_nil _ _ _ _⟩
    · exact ((Bx.new' _ _ _ rfl).alloc _).alloc _
    · exact (Bx.new' _ _ _ (by simp)).alloc _
    · exact Bx.new' _ _ _ (by simp)
  case round =>
    obtain ⟨k, hk, rfl, HB, bx0, ⟨v1, bx1⟩, A1, c1, bx2, own⟩ := hrel
    by_cases hlt : k < n
    · obtain ⟨b, off, rfl, hb, hcell⟩ := hr.elem encJob_len hn hlt
      have c0 := HB.cell (p := ⟨b, off + k * 3 + 0, none⟩) hb |>.trans (hcell 0 _ rfl)
      have c1 := HB.cell (p := ⟨b, off + k * 3 + 1, none⟩) hb |>.trans (hcell 1 _ rfl)
      have c2 := HB.cell (p := ⟨b, off + k * 3 + 2, none⟩) hb |>.trans (hcell 2 _ rfl)
      simp only [Nat.add_zero] at c0
      have HT := Lib.hid (take_flat_snoc (enc := encJob) (show k < js.length by omega))
      have hz := bx2.lt
      have ce0 := bx0.cell 0
      have ce2 := bx2.cell 0
      have hk1 : (k : Int) < (n : Int) := by omega
      have hk0 : (0 : Int) ≤ (k : Int) := by omega
      clear hcell
      generalize js[k] = u at *
      have hlen : k + 1 ≤ maxLen := by unfold maxLen; omega
      go_wp2_with fail
      go_region_law (first | (refine step_append_lies _ (by rfl) _ _ 24 (by rfl) (w.heap.size + 3) 45 i0 _ 3 _ Try.underlying24 hi hz0 hz1 hz2 (by rfl) (by decide) _ k _ (by rfl) (own_alloc own) ⟨wr.heap.size, 0, none⟩ 1 1 (encJob u) (by rfl) (by rfl) (news_alloc _ rfl) (by intro u hu; simp [encJob] at hu; rcases hu with rfl | rfl | rfl <;> rfl) (by decide) hlen (by omega) (by simp; omega) _ rfl ?_; intro g cap w1 hown hgrow hat hlt1; have hb1 := below_app (w := wr.drew) own (by simp; omega) hgrow; replace bx0 := Bx.grow (w := wr.drew) bx0 hb1 (by omega); replace bx1 := Bx.grow (w := wr.drew) bx1 hb1 (by omega); replace bx2 := Bx.grow (w := wr.drew) bx2 hb1 (by omega); have cf2 := bx2.cell 0; have ff2 := bx2.frozen 0))
      all_goals
        go_wp2
        go_roundw
        case rel => exact ⟨k + 1, by omega, by go_num, (HB.drew.trans (hb1.mono (by omega))).setCell (by show w.heap.size ≤ w.heap.size + 2; omega) _, bx0.far (by omega) _, ⟨_, bx1.far (by omega) _⟩, _, _, bx2.set _, by rw [← HT.out]; exact (Own.set_far (Own.of hown) (by left; omega) _).1⟩
        case measure => simp [intOf]; omega
    · obtain rfl : n = k := by omega
      have ce1 : wr.cell? ⟨w.heap.size + 1, 0, none⟩ = some v1 := bx1.cell 0
      have ce2 : wr.cell? ⟨w.heap.size + 2, 0, none⟩ = some (.slice A1 n c1) := bx2.cell 0
      have ce0 : wr.cell? ⟨w.heap.size, 0, none⟩ = some (.slice A n c) := bx0.cell 0
      have cf1 := bx1.frozen 0
      have HO := Lib.hid own; clear own
      have HBH := Lib.hid HB
      have hz := bx2.lt
      have HF : Hid (js.take n = js) := by show _ = _; exact List.take_of_length_le (by omega)
      go_wp2_with fail
      refine bodyPost_ret (v := .agg #[.slice A1 n c1]) (by simp [results, Try.results40, go_sem, ce1]) rfl ⟨_, _, rfl, ?_, ?_⟩
      · have hO := HO.out
        rw [HF.out] at hO
        exact (Own.set_far (Own.of hO) (by left; omega) _).mono (by omega) (by simp [World.setCell]) (Nat.le_refl _)
      · exact HBH.out.setCell (by show w.heap.size ≤ w.heap.size + 1; omega) _
end Go.Proofs.Ytnhdpcmnnjgdkaa
