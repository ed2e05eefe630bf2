/- The container Book: contracts of the statements' own helpers. No condition. -/
import Derived.Test.YtlmmeeeoljlgcaaDoorM3
set_option linter.unusedVariables false
set_option linter.unusedSimpArgs false
namespace Go.Proofs.YtlmmeeeoljlgcaaDoor
open Go.RowKit

set_option maxHeartbeats 1000000 in
theorem szBook_any (A0 : Option Addr) (n0 c0 : Nat) (us0 : List Lease) (left : Int) (w : World) (hr0 : Rd w w.heap.size 6 A0 n0 c0 (us0.flatMap encLease)) (hn0 : us0.length = n0) (h0 : 0 ≤ left) (h1 : left ≤ 1048576) (hf0 : ∀ u ∈ us0, LeaseFits u) :
    Calls Tryd.prog 5 #[.agg #[.slice A0 n0 c0], .int .i64 left] w fun e w' => e = .returned (.int .i64 (leftOf left (n0 + sumLease us0))) ∧ Below w.heap.size w w' := by
  go_enter Tryd.func5, Tryd.ntmps5
  go_wp2_with fail
  refine (szLeaseS_any A0 n0 c0 us0 left _ (hr0.alloc _) hn0 h0 h1 hf0).mono ?_
  rintro e w0 ⟨rfl, hb0'⟩
  obtain ⟨hb0, hz0, hx0⟩ := step_alloc hb0'; clear hb0'
  have HB0 := hb0
  have bx0 : Bx w0 w.heap.size 24 #[.slice A0 n0 c0] := hx0; clear hx0
  by_cases ht0 : leftOf left (n0 + sumLease us0) < 0
  · go_wp2_with fail
    go_ret
    have HN : leftOf left (n0 + sumLease us0) = -1 := by have := leftOf_neg ht0; rw [leftOf, if_neg (by omega)]
    exact ⟨by rw [HN]; rfl, HB0⟩
  replace ht0 : 0 ≤ leftOf left (n0 + sumLease us0) := by omega
  go_wp2_with fail
  go_ret
  exact ⟨rfl, HB0⟩

set_option maxHeartbeats 1000000 in
theorem toBook_any (A0 : Option Addr) (n0 c0 : Nat) (us0 : List Lease) (w : World) (hr0 : Rd w w.heap.size 6 A0 n0 c0 (us0.flatMap encLease)) (hn0 : us0.length = n0) (hb0 : n0 ≤ 1048576) :
    Calls Tryd.prog 7 #[.agg #[.slice A0 n0 c0]] w fun e w' => ∃ A'0 c'0, e = .returned (.agg #[.slice A'0 n0 c'0]) ∧ Own w' w.heap.size w'.heap.size 40 6 (.slice A'0 n0 c'0) n0 (us0.flatMap encLease) ∧ Below w.heap.size w w' := by
  go_enter Tryd.func7, Tryd.ntmps7
  go_wp2_with fail
  refine (toLeaseS_any A0 n0 c0 us0 _ (((hr0.alloc _).alloc _).alloc _) hn0 hb0).mono ?_
  rintro e w0 ⟨A'0, c'0, rfl, own0, hw0⟩
  simp only [World.size_alloc] at own0 hw0
  have HB0 : Below w.heap.size w w0 := (show Below w.heap.size w (((w.alloc _).alloc _).alloc _) by go_grown).trans (hw0.mono (by omega))
  have hz0 : w.heap.size + 2 < w0.heap.size := by have := hw0.size; simp at this; omega
  obtain ⟨hcs, hfs⟩ := bcell hw0
  have HO := Lib.hid own0; clear own0
  go_wp2
  refine bodyPost_ret (v := .agg #[.slice A'0 n0 c'0]) (by simp [results, Tryd.results7, go_sem, hcs]) rfl ⟨_, _, rfl, ?_, ?_⟩
  · have HO' := HO.out.mono (lo' := w.heap.size + 1 + 1 + 1) (Nat.le_refl _) (Nat.le_refl _) (Nat.le_refl _)
    refine Own.mono (lo := w.heap.size + 1 + 1 + 1) (hi := w0.heap.size) ?_ (by omega) (by simp [World.setCell]) (Nat.le_refl _)
    repeat (first | (with_reducible exact HO') | ((with_reducible refine Own.set_far ?_ ?_ _); rotate_left; (left; omega)))
  · repeat (first | (with_reducible exact HB0) | ((with_reducible refine below_set ?_ ?_ _); rotate_left; omega))

set_option maxHeartbeats 1000000 in
theorem eqBook_any (A0 B0 : Option Addr) (n0 c0 d0 : Nat) (us0 : List Lease) (w : World) (hr0 : Rd w w.heap.size 6 A0 n0 c0 (us0.flatMap encLease)) (hs0 : Rd w w.heap.size 6 B0 n0 d0 (us0.flatMap encLease)) (hn0 : us0.length = n0) :
    Calls Tryd.prog 9 #[.agg #[.slice A0 n0 c0], .agg #[.slice B0 n0 d0]] w fun e w' => e = .returned (.bool true) ∧ Below w.heap.size w w' := by
  go_enter Tryd.func9, Tryd.ntmps9
  go_wp2_with fail
  refine (eqLeaseS_any A0 B0 n0 c0 d0 us0 _ ((hr0.alloc _).alloc _) ((hs0.alloc _).alloc _) hn0).mono ?_
  rintro e w0 ⟨rfl, hw0⟩
  simp only [World.size_alloc] at hw0
  have HB0 : Below w.heap.size w w0 := (show Below w.heap.size w ((w.alloc _).alloc _) by go_grown).trans (hw0.mono (by omega))
  have hz0 : w.heap.size + 1 < w0.heap.size := by have := hw0.size; simp at this; omega
  obtain ⟨hcs, hfs⟩ := bcell hw0
  go_wp2
  go_ret
  exact ⟨rfl, HB0⟩

set_option maxHeartbeats 1000000 in
theorem markBook_any (A0 : Option Addr) (n0 c0 : Nat) (xs0 : List Value) (m lo hi : Nat) (w : World) (h : Own w lo hi 40 6 (.slice A0 n0 c0) n0 xs0) (h0 : 0 < m) (hm : m + n0 * 6 ≤ 1125899906842624) :
    Calls Tryd.prog 11 #[.agg #[.slice A0 n0 c0], .int .i64 m] w fun e w' => e = .returned (.int .i64 ((m + n0 * 6 : Nat) : Int)) ∧ Own w' lo hi 40 6 (.slice A0 n0 c0) n0 (marksLease m n0) ∧ Chg w w' lo hi := by
  go_enter Tryd.func11, Tryd.ntmps11
  go_wp2_with fail
  refine (markLeaseS_any A0 n0 c0 m lo hi xs0 _ (h.alloc _) h0 hm).mono ?_
  rintro e w0 ⟨rfl, own0, hc0⟩
  go_wp2_with fail
  go_ret
  exact ⟨rfl, own0, hc0.of_alloc⟩

set_option maxHeartbeats 1000000 in
theorem heldBook_any (A0 : Option Addr) (n0 c0 : Nat) (m : Nat) (w : World) (hr : Rd w w.heap.size 6 A0 n0 c0 (marksLease m n0)) (h0 : 0 < m) (hm : m + n0 * 6 ≤ 1125899906842624) :
    Calls Tryd.prog 13 #[.agg #[.slice A0 n0 c0], .int .i64 m] w fun e w' => e = .returned (.int .i64 ((m + n0 * 6 : Nat) : Int)) ∧ Below w.heap.size w w' := by
  go_enter Tryd.func13, Tryd.ntmps13
  go_wp2_with fail
  refine (heldLeaseS_any A0 n0 c0 m _ (hr.alloc _) h0 hm).mono ?_
  rintro e w0 ⟨rfl, hw0⟩
  obtain ⟨hb0, -, -⟩ := step_alloc hw0
  have hnn : (0 : Int) ≤ ((m + n0 * 6 : Nat) : Int) := by omega
  go_wp2_with fail
  go_ret
  exact ⟨rfl, hb0⟩

end Go.Proofs.YtlmmeeeoljlgcaaDoor
